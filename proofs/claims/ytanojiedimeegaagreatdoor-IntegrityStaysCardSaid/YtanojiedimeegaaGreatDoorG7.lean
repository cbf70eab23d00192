/- Merged texts: part 7. No conditions of their own. -/
import Derived.Test.YtanojiedimeegaaGreatDoorG6
namespace Go.Proofs.YtanojiedimeegaaGreatDoor
variable {A1 A10 A12 A13 A14 A15 A16 A17 A2 A3 A4 A5 A6 A7 A8 A9:Option Addr} {B1 B10 B12 B2 B4 B5 B7 B9 M11 M14 M3 M8 c1 c10 c12 c13 c14 c15 c16 c17 c2 c3 c4 c5 c6 c7 c8 c9 n1 n10 n12 n13 n14 n15 n16 n17 n2 n3 n4 n5 n6 n7 n8 n9:Nat}
open Go.RowKit Asn
set_option maxRecDepth 20000
def oN (N:Nat)(a0:MT)(p37:(List MM)):Option (List MM):=
 (eA N p37).bind fun y50=>some y50
def mp (N:Nat)(y38:((List MX)))(a0:MT):Nat→Int→(List MM)→Option (List MM)
 |0,_,_=>none
 |m40+1,p41,p42=>bif decide (p41<(y38.length:Int)) then ((bR y38 p41).bind fun x44=>dq (gQ (p42.length+([x44.Key]:List MM).length)) (dq (bQ (p41+1)) ((mp N y38 a0 m40) (p41+1) (p42++([x44.Key]:List MM))))) else (oN N a0 p42)
def gg (N:Nat)(a0:MT)(a1:MQ)(x25:Int×MQ):((List MM))→Option (Option Exit×(List MM))
 |p26=>dq (gQ (p26.length+([(⟨0,x25.1,⟨#[]⟩⟩:MM)]:List MM).length)) (some (none,p26++([(⟨0,x25.1,⟨#[]⟩⟩:MM)]:List MM)))
def nZ (N:Nat)(a0:MT)(a1:MQ):Option (List MM):=
 (dE N a0 a1).bind fun y16=>bif !y16.2 then (some []) else ((mG N y16.1).bind fun y23=>(nN N y16.1 (jW (fun x st=>gg N a0 a1 x st)) (none,[])).bind fun y27=>xT y27.1 ((cu N).bind fun y32=>dq (gQ (y27.2.length+([y32]:List MM).length)) ((eF N a0 a1).bind fun y38=>mp N y38 a0 N 0 (y27.2++([y32]:List MM)))) none (fun _=>none))
set_option maxHeartbeats 4000000 in
theorem yG {N:Nat}{a0:MT}{a1:MQ}{r:(List MM)}(h:nZ N a0 a1=some r):Okc Tryz.prog 30 [pV B1 0,(bz a1)] ([bm A12 n12 c12 a0.symbols_,cH A13 n13 c13 a0.events_,bm A14 n14 c14 a0.out_,aT 0 30 [iV 8,iV 0,.string (⟨#[]⟩:ByteArray)],ac B1 151 (dm a0 B2 B9 A12 n12 c12 A13 n13 c13 A14 n14 c14),ac B2 199 [I A3 n3 c3,I A4 n4 c4,I A5 n5 c5,I A6 n6 c6,pV B7 0],bw A3 n3 c3 a0.heap_.m_.Young,bw A4 n4 c4 a0.heap_.m_.Old,aX A5 n5 c5 a0.heap_.roots_,aX A6 n6 c6 a0.heap_.pending_,ac B7 247 [.map (some M8)],aG cz cC M8 a0.heap_.set_.at_,ac B9 205 [I A10 n10 c10,.map (some M11)],cL A10 n10 c10 a0.shapes_.shapes_,aG aD cy M11 a0.shapes_.next_]) (fun u post=> ∃A500 n500 c500,u=I A500 n500 c500∧post=[ju A500 n500 c500 r,ac B1 151 (dm a0 B2 B9 A12 n12 c12 A13 n13 c13 A14 n14 c14),ac B2 199 [I A3 n3 c3,I A4 n4 c4,I A5 n5 c5,I A6 n6 c6,pV B7 0],bw A3 n3 c3 a0.heap_.m_.Young,bw A4 n4 c4 a0.heap_.m_.Old,aX A5 n5 c5 a0.heap_.roots_,aX A6 n6 c6 a0.heap_.pending_,ac B7 247 [.map (some M8)],aG cz cC M8 a0.heap_.set_.at_,ac B9 205 [I A10 n10 c10,.map (some M11)],cL A10 n10 c10 a0.shapes_.shapes_,aG aD cy M11 a0.shapes_.next_]):=by
 refine bD Tryz.func30 J J ?_;simp only [aW];refine U ?_
 refine gB (aO J J) fun B15=> ?_
 refine U ?_;refine gR (ah (us:=au a1) 0 J J aH J) ?_;obtain ⟨y16,k,h⟩:=aa h;refine gD (ap (eI k) oK J (hD (ax (i:=5) J) (hD (ax (i:=6) J) (hD (ao (i:=7) J) (hD (ao (i:=8) J) (hD (ao (i:=9) J) (hD (ao (i:=10) J) (hD (ax (i:=11) J) (hD (aU (i:=12) J) (hD (ax (i:=13) J) (hD (ao (i:=14) J) (hD (aU (i:=15) J) (hD (al (i:=1) J J) (hD (al (i:=2) J J) (hD (al (i:=3) J J) aj)))))))))))))) dF) ?_;rintro _ _ ⟨_,⟨A17,n17,c17,A18,n18,c18,rfl,rfl⟩,rfl⟩;refine U ?_
 refine gB (aM gx J) fun B19=> ?_
 refine gW (ar (us:=[iV y16.1.Kind,iV y16.1.Shape,iV y16.1.Flags,iV y16.1.Age,I A17 n17 c17,I A18 n18 c18]) (cs':=[iV y16.1.Kind,iV y16.1.Shape,iV y16.1.Flags,iV y16.1.Age,I A17 n17 c17,I A18 n18 c18]) 0 J J J J du J J J) ?_;refine U ?_;refine aB ?_;refine U ?_;refine gH J h (fun h=> ?_) (fun h=> ?_)
 ·refine U ?_;obtain rfl:=am h;exact aL J J ((gA nJ 24 _).trans (cS [0,9,10,11,12,13,14,15,16,17,18,19] 20)) ⟨_,_,_,J,J⟩
 refine U ?_
 refine gB (aM JB J) fun B22=> ?_
 refine U ?_;refine aB ?_;refine U ?_;refine gR (ah (us:=[iV y16.1.Kind,iV y16.1.Shape,iV y16.1.Flags,iV y16.1.Age,I A17 n17 c17,I A18 n18 c18]) 1 J J cq J) ?_;obtain ⟨y23,k,h⟩:=aa h;refine gD (ap (uj k) IV J (hD (ao (i:=2) J) (hD (ao (i:=3) J) (hD (al (i:=8) J J) aj))) sw) ?_;rintro _ _ ⟨_,⟨B24,rfl,rfl⟩,rfl⟩;refine kU ?_;refine fa ?_;refine iQ ?_ bU (pP 0 J);refine iQ ?_ bU (dC 3 J);refine Fj ?_;refine iQ ?_ bU (dC 4 J);obtain ⟨y27,k,h⟩:=aa h
 refine yg (en:=(fun x=> [iV x.1,.agg #[iV x.2.Kind,iV x.2.N,.string x.2.S]])) (fun x st=>gg N a0 a1 x st) (fun (st:(List MM)) (mz:((Option Addr×Nat×Nat)))=> [bm A12 n12 c12 a0.symbols_,cH A13 n13 c13 a0.events_,bm A14 n14 c14 a0.out_,ac B1 151 (dm a0 B2 B9 A12 n12 c12 A13 n13 c13 A14 n14 c14),ac B15 30 (au a1),dr nJ 24 (.slice mz.1 mz.2.1 mz.2.2) st,ac B22 67 [.slice mz.1 mz.2.1 mz.2.2],aT 0 30 [iV 8,iV 0,.string (⟨#[]⟩:ByteArray)],bw A3 n3 c3 a0.heap_.m_.Young,bw A4 n4 c4 a0.heap_.m_.Old,aX A5 n5 c5 a0.heap_.roots_,aX A6 n6 c6 a0.heap_.pending_,ac B2 199 [I A3 n3 c3,I A4 n4 c4,I A5 n5 c5,I A6 n6 c6,pV B7 0],cL A10 n10 c10 a0.shapes_.shapes_,aG aD cy M11 a0.shapes_.next_,ac B9 205 [I A10 n10 c10,.map (some M11)],aG cz cC M8 a0.heap_.set_.at_,ac B7 247 [.map (some M8)]]) [aT B24 138 [iV y16.1.Kind,iV y16.1.Shape,iV y16.1.Flags,iV y16.1.Age,I A17 n17 c17,I A18 n18 c18],dV A17 n17 c17 y16.1.Slots,dV A18 n18 c18 y16.1.More,aT 0 30 [iV 8,iV 0,.string (⟨#[]⟩:ByteArray)]] ([]) ((none,0,0)) J J ID J (fun _=>J) (fun l G hY=>(rL k hY).mono fun _ _ hh=>hh.2) ((gA nJ 24 _).trans (az [1,4,5,10] [] [7,8,9,11,6,0,2,10,13,14,15,16,12,20,21,19,18,17] 22 J)) h ?_ ?_ ?_ ?_
 ·rintro l x25 p26 je sr25 ⟨A26,n26,c26⟩ h;replace h:gg N a0 a1 x25 p26=some (je,sr25):=h;simp only [yv,List.zip_cons_cons,List.zip_nil_left,List.zip_nil_right,List.reverse_cons,List.reverse_nil,List.nil_append,List.cons_append];refine U ?_;refine gE (bd J (CX _ _)) ?_;refine gD (cx (R:=nJ) (vss:=[[iV 0,iV x25.1,.string (⟨#[]⟩)]]) (xs:=[(⟨0,x25.1,⟨#[]⟩⟩:MM)]) J (rI _ _ _) J J (fun _ _ hr=> .cons J All2.nil)) ?_;rintro _ _ ⟨A29,n29,c29,rfl,rfl⟩;obtain ⟨q30,h⟩:=ay h;refine gD (ed 6 0 J J aC J J MD Fh J J q30) ?_;rintro _ _ ⟨A31,n31,c31,rfl,rfl⟩;refine gW (ar (us:=[I A31 n31 c31]) (cs':=[I A31 n31 c31]) 7 J J J J Co J J J) ?_;refine bM ?_;refine U ?_;obtain ⟨rfl,rfl⟩:=Prod.mk.inj (Option.some.inj h);exact G3 ((cS [1,2,3,4,5,6,7,8,9,10,11,12,13,14,15,16,17,18] 19).trans (lm (A31,n31,c31) J))
 ·rintro ⟨A26,n26,c26⟩ h;refine sj ([bm A12 n12 c12 a0.symbols_,cH A13 n13 c13 a0.events_,bm A14 n14 c14 a0.out_,ac B1 151 (dm a0 B2 B9 A12 n12 c12 A13 n13 c13 A14 n14 c14),ac B15 30 (au a1),ju A26 n26 c26 y27.2,ac B22 67 [I A26 n26 c26],aT 0 30 [iV 8,iV 0,.string (⟨#[]⟩:ByteArray)],bw A3 n3 c3 a0.heap_.m_.Young,bw A4 n4 c4 a0.heap_.m_.Old,aX A5 n5 c5 a0.heap_.roots_,aX A6 n6 c6 a0.heap_.pending_,ac B2 199 [I A3 n3 c3,I A4 n4 c4,I A5 n5 c5,I A6 n6 c6,pV B7 0],cL A10 n10 c10 a0.shapes_.shapes_,aG aD cy M11 a0.shapes_.next_,ac B9 205 [I A10 n10 c10,.map (some M11)],aG cz cC M8 a0.heap_.set_.at_,ac B7 247 [.map (some M8)]]) J ?_;refine U ?_;refine aB ?_;refine bK V _ (ae _) ?_;refine zR 0 J (aY 6 J J Jh J) ?_;obtain ⟨y32,k,h⟩:=aa h;refine zD 1 J (ap (gX k) xU J (aj) ge) ?_;rintro _ _ ⟨_,⟨rfl,rfl⟩,rfl⟩;refine ⟨_,ae _,ae _,?_⟩;refine zD 2 J (cx (R:=nJ) (vss:=[[iV y32.Kind,iV y32.N,.string y32.S]]) (xs:=[y32]) J (rI _ _ _) J J (fun _ _ hr=> .cons J All2.nil)) ?_;rintro _ _ ⟨A33,n33,c33,rfl,rfl⟩;refine eg (cS [1,2,3,4,5,6,7,8,9,10,11,12,13,14,15,16,17,18] 19) ?_;obtain ⟨q34,h⟩:=ay h;refine I5 3 J V V (ed 6 0 J J aC J J MD Fh J J q34) ?_;rintro _ _ ⟨A35,n35,c35,rfl,rfl⟩;refine dt ?_;refine pi 4 J V V (ar (us:=[I A35 n35 c35]) (cs':=[I A35 n35 c35]) 7 J J J J Co J J J) ?_;rintro _ _ rfl;refine dt ?_
  refine bC V ?_;refine fa ?_;refine ba (fun s L=> ∃p37 A37 n37 c37,oN N a0 p37=some r∧s=[(4,I none 0 0),(7,pV B22 0)]∧L=[ju A37 n37 c37 p37,ac B22 67 [I A37 n37 c37],aT 0 30 [iV 8,iV 0,.string (⟨#[]⟩:ByteArray)],bm A12 n12 c12 a0.symbols_,cH A13 n13 c13 a0.events_,bm A14 n14 c14 a0.out_,ac B1 151 (dm a0 B2 B9 A12 n12 c12 A13 n13 c13 A14 n14 c14),bw A3 n3 c3 a0.heap_.m_.Young,bw A4 n4 c4 a0.heap_.m_.Old,aX A5 n5 c5 a0.heap_.roots_,aX A6 n6 c6 a0.heap_.pending_,ac B2 199 [I A3 n3 c3,I A4 n4 c4,I A5 n5 c5,I A6 n6 c6,pV B7 0],cL A10 n10 c10 a0.shapes_.shapes_,aG aD cy M11 a0.shapes_.next_,ac B9 205 [I A10 n10 c10,.map (some M11)],aG cz cC M8 a0.heap_.set_.at_,ac B7 247 [.map (some M8)]]) ?_ ?_
  ·refine U ?_;refine gR (ah (us:=au a1) 5 J J aH J) ?_;obtain ⟨y38,k,h⟩:=aa h;refine gD (aA (jC k) ue J (az [1,2,3] [4,13,9,10,11,12,18,17,16,14,15] [0,1,2,3,5,6,7,8] 19 J)) ?_;rintro _ _ ⟨_,⟨A39,n39,c39,rfl,rfl⟩,rfl⟩;refine gR (bL 0 J aC J EM) ?_;refine U ?_;refine cn (fun m s L=> ∃p41 p42 A42 n42 c42,mp N y38 a0 m p41 p42=some r∧s=[(4,I none 0 0),(7,pV B22 0),(34,I A39 n39 c39),(35,iV (y38.length:Int)),(36,iV p41)]∧L=[dr dx 42 (I A39 n39 c39) y38,ju A42 n42 c42 p42,ac B22 67 [I A42 n42 c42],aT 0 30 [iV 8,iV 0,.string (⟨#[]⟩:ByteArray)],bm A12 n12 c12 a0.symbols_,cH A13 n13 c13 a0.events_,bm A14 n14 c14 a0.out_,ac B1 151 (dm a0 B2 B9 A12 n12 c12 A13 n13 c13 A14 n14 c14),bw A3 n3 c3 a0.heap_.m_.Young,bw A4 n4 c4 a0.heap_.m_.Old,aX A5 n5 c5 a0.heap_.roots_,aX A6 n6 c6 a0.heap_.pending_,ac B2 199 [I A3 n3 c3,I A4 n4 c4,I A5 n5 c5,I A6 n6 c6,pV B7 0],cL A10 n10 c10 a0.shapes_.shapes_,aG aD cy M11 a0.shapes_.next_,ac B9 205 [I A10 n10 c10,.map (some M11)],aG cz cC M8 a0.heap_.set_.at_,ac B7 247 [.map (some M8)]]) N _ _ ⟨0,y27.2++([y32]:List MM),A35,n35,c35,h,J,J⟩ sA (cS [0,17,18,19,13,14,15,1,3,4,5,6,2,10,11,9,8,7] 20) ?_;rintro (_|m40) _ _ ⟨p41,p42,A42,n42,c42,h,rfl,rfl⟩
   ·exact bu h
   rw [mp.eq_2] at h;refine U ?_;refine aB ?_;refine gH J h (fun h=> ?_) (fun h=> ?_)
   ·refine U ?_;refine aB ?_;refine U ?_;obtain ⟨x44,hx44,h⟩:=aa h;obtain ⟨lx44,ux44,hx44⟩:=aJ hx44;refine gR (bx 0 J aC J J EM cm lx44 ux44) ?_;refine gR (bA (us:=aR x44) 0 J aC J hx44 dA (fun _ _ _ h=>by rw [show _=_ from h];rfl)) ?_
    refine gB (aM dB J) fun B45=> ?_
    refine gW (ar (us:=aR x44) (cs':=aR x44) 0 J J J J cm J J J) ?_;refine U ?_;refine gR (ah (us:=bS x44.Key) 0 J J bF J) ?_;refine gD (cx (R:=nJ) (vss:=[(bS x44.Key)]) (xs:=[x44.Key]) J (rI _ _ _) J J (fun _ _ hr=> .cons J All2.nil)) ?_;rintro _ _ ⟨A46,n46,c46,rfl,rfl⟩;obtain ⟨q47,h⟩:=ay h;refine gD (ed 3 0 J J aC J J MD Fh J J q47) ?_;rintro _ _ ⟨A48,n48,c48,rfl,rfl⟩;refine bM ?_;refine gW (ar (us:=[I A48 n48 c48]) (cs':=[I A48 n48 c48]) 4 J J J J Co J J J) ?_;refine U ?_;obtain ⟨q49,h⟩:=ay h;refine gE (bI J J q49.1 q49.2) ?_;refine U ?_;exact ⟨m40,_,_,Nh _,⟨p41+1,p42++([x44.Key]:List MM),A48,n48,c48,h,J,J⟩,sA,cS [2,3,4,5,6,7,8,9,10,11,12,13,14,15,16,17,18,19] 20⟩
   refine U ?_;exact ⟨_,_,⟨p42,A42,n42,c42,h,J,J⟩,sA,cS [1,2,3,4,5,6,7,8,9,10,11,12,13,14,15,16,17] 18⟩
  rintro _ _ ⟨p37,A37,n37,c37,h,rfl,rfl⟩;refine U ?_;obtain ⟨y50,k,h⟩:=aa h;refine gD (ap (tS k) D2 J (hD (ao (i:=0) J) aj) rp) ?_;rintro _ _ ⟨_,⟨A51,n51,c51,rfl,rfl⟩,rfl⟩;refine U ?_;obtain rfl:=am h;exact aL J J (cS [0,7,12,8,9,10,11,17,16,15,13,14] 18) ⟨_,_,_,J,J⟩
 ·rintro ⟨A26,n26,c26⟩ h;exact bu h
 rintro i ⟨A26,n26,c26⟩ h;exact bu h
def mP (N:Nat)(a0:MT)(a1:MQ):Option (List MM):=
 (dv N a0 a1).bind fun y16=>AV y16 (fun y16_0=>some []) (fun y16_1=>(cK N a0).bind fun y35=>(eP N a0.shapes_ y16_1.Cell.Shape).bind fun y36=>(eA N y36).bind fun y38=>some y38)
theorem xl {N:Nat}{a0:MT}{a1:MQ}{r:(List MM)}(h:mP N a0 a1=some r):Okc Tryz.prog 41 [pV B1 0,(bz a1)] ([bm A12 n12 c12 a0.symbols_,cH A13 n13 c13 a0.events_,bm A14 n14 c14 a0.out_,ac B1 151 (dm a0 B2 B9 A12 n12 c12 A13 n13 c13 A14 n14 c14),ac B2 199 [I A3 n3 c3,I A4 n4 c4,I A5 n5 c5,I A6 n6 c6,pV B7 0],bw A3 n3 c3 a0.heap_.m_.Young,bw A4 n4 c4 a0.heap_.m_.Old,aX A5 n5 c5 a0.heap_.roots_,aX A6 n6 c6 a0.heap_.pending_,ac B7 247 [.map (some M8)],aG cz cC M8 a0.heap_.set_.at_,ac B9 205 [I A10 n10 c10,.map (some M11)],cL A10 n10 c10 a0.shapes_.shapes_,aG aD cy M11 a0.shapes_.next_]) (fun u post=> ∃A500 n500 c500,u=I A500 n500 c500∧post=[ju A500 n500 c500 r,ac B1 151 (dm a0 B2 B9 A12 n12 c12 A13 n13 c13 A14 n14 c14),ac B2 199 [I A3 n3 c3,I A4 n4 c4,I A5 n5 c5,I A6 n6 c6,pV B7 0],bw A3 n3 c3 a0.heap_.m_.Young,bw A4 n4 c4 a0.heap_.m_.Old,aX A5 n5 c5 a0.heap_.roots_,aX A6 n6 c6 a0.heap_.pending_,ac B7 247 [.map (some M8)],aG cz cC M8 a0.heap_.set_.at_,ac B9 205 [I A10 n10 c10,.map (some M11)],cL A10 n10 c10 a0.shapes_.shapes_,aG aD cy M11 a0.shapes_.next_]):=by
 refine bD Tryz.func41 J J ?_;simp only [aW];refine U ?_
 refine gB (aO J J) fun B15=> ?_
 refine U ?_;refine gR (ah (us:=au a1) 0 J J aH J) ?_;obtain ⟨y16,hy16,h⟩:=aa h;rcases y16 with y16_0|y16_1
 ·replace h:=Cn h;refine gV (aA (bP hy16) ir J (az [1,2,3] [4,5,6,7,8,9,10,11,12,13,14] [0,1,2,3] 15 J)) ?_;refine U ?_;refine aB ?_;refine U ?_;refine kC J ?_;refine U ?_;obtain rfl:=am h;exact aL J J ((gA nJ 24 _).trans (cS [0,1,2,3,4,5,6,7,8,9,10,11] 16)) ⟨_,_,_,J,J⟩
 replace h:=Cm h;refine gD (aA (bP hy16) ir J (az [1,2,3] [4,5,6,7,8,9,10,11,12,13,14] [0,1,2,3] 15 J)) ?_;rintro _ _ ⟨_,⟨B18,A19,n19,c19,A20,n20,c20,rfl,rfl⟩,rfl⟩;refine U ?_;refine aB ?_;refine U ?_;refine ia J ?_;refine U ?_;refine aB ?_;refine bK V _ (ae _) ?_;refine zE 0 J (aq J) ?_;refine zE 2 J (aq J) ?_;refine zE 3 J (bc J) ?_;refine zE 4 J (ef J gc) ?_;refine zE 5 J (ci J nk) ?_;refine zR 6 J (aY 0 J J dH J) ?_;obtain ⟨y35,k,h⟩:=aa h;refine zD 1 J (ap (eD k) sg J (hD (ax (i:=3) J) (hD (ax (i:=4) J) (hD (ao (i:=5) J) (hD (ao (i:=6) J) (hD (ao (i:=7) J) (hD (ao (i:=8) J) (hD (ax (i:=9) J) (hD (aU (i:=10) J) (hD (ax (i:=11) J) (hD (ao (i:=12) J) (hD (aU (i:=13) J) (hD (al (i:=15) J J) (hD (al (i:=16) J J) (hD (al (i:=17) J J) aj)))))))))))))) dU) ?_;rintro _ _ ⟨_,⟨rfl,rfl⟩,rfl⟩;refine ⟨_,ae _,ae _,?_⟩;obtain ⟨y36,k,h⟩:=aa h;refine zD 7 J (ap (nD k) DY J (hD (ax (i:=11) J) (hD (ao (i:=12) J) (hD (aU (i:=13) J) aj))) mt) ?_;rintro _ _ ⟨_,⟨A37,n37,c37,rfl,rfl⟩,rfl⟩;refine eg (cS [1,2,3,4,5,6,7,8,9,10,11,12,13,14,15,16,17,18] 19) ?_;obtain ⟨y38,k,h⟩:=aa h;refine zD 8 J (ap (tS k) D2 J (hD (ao (i:=0) J) aj) rp) ?_;rintro _ _ ⟨_,⟨A39,n39,c39,rfl,rfl⟩,rfl⟩;refine eg (cS [2,3,4,5,6,7,8,9,10,11,12,13,14,15,16,17,18,19] 20) ?_;refine zE 9 J (bj J) ?_
 refine bC V ?_;refine U ?_;obtain rfl:=am h;exact aL J J (cS [0,5,6,7,8,9,10,11,12,13,14,15] 20) ⟨_,_,_,J,J⟩
def dw (N:Nat)(a0:MT)(a1:MQ):Option (List MM):=
 (kA N a0 a1).bind fun y16=>bif y16 then ((nZ N a0 a1).bind fun y18=>some y18) else ((mP N a0 a1).bind fun y20=>some y20)
theorem kr {N:Nat}{a0:MT}{a1:MQ}{r:(List MM)}(h:dw N a0 a1=some r):Okc Tryz.prog 56 [pV B1 0,(bz a1)] ([bm A12 n12 c12 a0.symbols_,cH A13 n13 c13 a0.events_,bm A14 n14 c14 a0.out_,aT 0 30 [iV 8,iV 0,.string (⟨#[]⟩:ByteArray)],ac B1 151 (dm a0 B2 B9 A12 n12 c12 A13 n13 c13 A14 n14 c14),ac B2 199 [I A3 n3 c3,I A4 n4 c4,I A5 n5 c5,I A6 n6 c6,pV B7 0],bw A3 n3 c3 a0.heap_.m_.Young,bw A4 n4 c4 a0.heap_.m_.Old,aX A5 n5 c5 a0.heap_.roots_,aX A6 n6 c6 a0.heap_.pending_,ac B7 247 [.map (some M8)],aG cz cC M8 a0.heap_.set_.at_,ac B9 205 [I A10 n10 c10,.map (some M11)],cL A10 n10 c10 a0.shapes_.shapes_,aG aD cy M11 a0.shapes_.next_]) (fun u post=> ∃A500 n500 c500,u=I A500 n500 c500∧post=[ju A500 n500 c500 r,ac B1 151 (dm a0 B2 B9 A12 n12 c12 A13 n13 c13 A14 n14 c14),ac B2 199 [I A3 n3 c3,I A4 n4 c4,I A5 n5 c5,I A6 n6 c6,pV B7 0],bw A3 n3 c3 a0.heap_.m_.Young,bw A4 n4 c4 a0.heap_.m_.Old,aX A5 n5 c5 a0.heap_.roots_,aX A6 n6 c6 a0.heap_.pending_,ac B7 247 [.map (some M8)],aG cz cC M8 a0.heap_.set_.at_,ac B9 205 [I A10 n10 c10,.map (some M11)],cL A10 n10 c10 a0.shapes_.shapes_,aG aD cy M11 a0.shapes_.next_]):=by
 refine bD Tryz.func56 J J ?_;simp only [aW];refine U ?_
 refine gB (aO J J) fun B15=> ?_
 refine U ?_;refine aB ?_;refine U ?_;refine gR (ah (us:=au a1) 0 J J aH J) ?_;obtain ⟨y16,k,h⟩:=aa h;refine gV (ap (nr k) xX J (hD (ax (i:=5) J) (hD (ax (i:=6) J) (hD (ao (i:=7) J) (hD (ao (i:=8) J) (hD (ao (i:=9) J) (hD (ao (i:=10) J) (hD (ax (i:=11) J) (hD (aU (i:=12) J) (hD (ax (i:=13) J) (hD (ao (i:=14) J) (hD (aU (i:=15) J) (hD (al (i:=1) J J) (hD (al (i:=2) J J) (hD (al (i:=3) J J) aj)))))))))))))) lp) ?_;refine U ?_;refine gH J h (fun h=> ?_) (fun h=> ?_)
 ·refine U ?_;refine gR (ah (us:=au a1) 0 J J aH J) ?_;obtain ⟨y18,k,h⟩:=aa h;refine gD (aA (yG k) Kv J (az [1,2,3,4] [5,6,7,8,9,10,11,12,13,14,15] [0,1,2,3,4] 16 J)) ?_;rintro _ _ ⟨_,⟨A19,n19,c19,rfl,rfl⟩,rfl⟩;refine U ?_;obtain rfl:=am h;exact aL J J (cS [0,1,2,3,4,5,6,7,8,9,10,11] 17) ⟨_,_,_,J,J⟩
 refine U ?_;refine gR (ah (us:=au a1) 0 J J aH J) ?_;obtain ⟨y20,k,h⟩:=aa h;refine gD (aA (xl k) Kq J (az [1,2,3] [5,6,7,8,9,10,11,12,13,14,15] [0,1,2,3,4] 16 J)) ?_;rintro _ _ ⟨_,⟨A21,n21,c21,rfl,rfl⟩,rfl⟩;refine U ?_;obtain rfl:=am h;exact aL J J (cS [0,1,2,3,4,5,6,7,8,9,10,11] 17) ⟨_,_,_,J,J⟩
def jG (N:Nat)(y5:(MM))(a0:MY)(p9:Int):Option MX:=
 some (⟨y5,p9,(⟨3,(a0.More.length:Int),⟨#[]⟩⟩:MQ),(⟨0,0,⟨#[]⟩⟩:MQ),(⟨0,0,⟨#[]⟩⟩:MQ)⟩:MX)
def gT (N:Nat)(a0:MY):Option MX:=
 (cu N).bind fun y5=>bif !decide (ai .i64 a0.Flags 32=0) then (jG N y5 a0 0) else (jG N y5 a0 1)
theorem qH {N:Nat}{a0:MY}{r:MX}(h:gT N a0=some r):Okc Tryz.prog 98 [.agg #[iV a0.Kind,iV a0.Shape,iV a0.Flags,iV a0.Age,I A1 n1 c1,I A2 n2 c2]] ([dV A1 n1 c1 a0.Slots,dV A2 n2 c2 a0.More]) (fun u post=>u=(bJ r)∧post=[]):=by
 refine bD Tryz.func98 J J ?_;simp only [aW];refine U ?_
 refine gB (aO J J) fun B3=> ?_
 refine gB (aM dB J) fun B4=> ?_
 refine U ?_;refine aB ?_;obtain ⟨y5,hy5,h⟩:=aa h;refine iQ (t:=[(1,pV B3 0),(2,pV B4 0)]) ?_ ki (ae _)
 refine ik V 7 [] [5,6] [4,5,6,7,8,9,3] [[],[],[1],[2],[3],[0,4],[]] [aV (.agg #[iV y5.Kind,iV y5.N,.string y5.S]),
 aV (pV B3 5),
 aV (I A2 n2 c2),
 aV (iV (a0.More.length:Int)),
 aV (.agg #[iV 3,iV (a0.More.length:Int),.string (⟨#[]⟩)]),
 aV (.agg #[iV y5.Kind,iV y5.N,.string y5.S,iV 1,iV 3,iV (a0.More.length:Int),.string (⟨#[]⟩),iV 0,iV 0,.string (⟨#[]⟩),iV 0,iV 0,.string (⟨#[]⟩)]),
 aX1 (fun (B7:Nat)=>pV B7 0) (fun B7=> [ac B7 42 [iV 0,iV 0,.string (⟨#[]⟩),iV 0,iV 0,iV 0,.string (⟨#[]⟩),iV 0,iV 0,.string (⟨#[]⟩),iV 0,iV 0,.string (⟨#[]⟩)]])] [] (ae _) (jP) V rfl rfl ?_ ?_ ?_
 ·exact jO
 ·refine ak J ?_ ?_
  ·refine lH (aM dB J) J ?_;rintro _ _ ⟨B6,rfl,rfl⟩;exact Aq B6 (ae _)
  refine ak J ?_ ?_
  ·exact cb (bd J (qr _ _ _ _ _ _ _)) J (bg J (ae _))
  refine ak J ?_ ?_
  ·exact cb (bd J (oL _ _)) J (bg J (ae _))
  refine ak J ?_ ?_
  ·exact gi (bL 3 J aS J hE) J (bg J (ae _))
  refine ak J ?_ ?_
  ·exact gi (aY 1 J J iO J) J (bg J (ae _))
  refine ak J ?_ ?_
  ·exact cb (ci J oH) J (bg J (ae _))
  refine ak J ?_ ?_
  ·refine lH (ap (gX hy5) xU J (aj) ge) J ?_;rintro _ _ ⟨_,⟨rfl,rfl⟩,rfl⟩;exact bg J (ae _)
  exact eC
 intro B7;refine mq (t:=[(9,.agg #[iV y5.Kind,iV y5.N,.string y5.S,iV 1,iV 3,iV (a0.More.length:Int),.string (⟨#[]⟩),iV 0,iV 0,.string (⟨#[]⟩),iV 0,iV 0,.string (⟨#[]⟩)]),(3,pV B7 0),(1,pV B3 0),(2,pV B4 0)]) (L':=[ac B7 42 [iV 0,iV 0,.string (⟨#[]⟩),iV 0,iV 0,iV 0,.string (⟨#[]⟩),iV 0,iV 0,.string (⟨#[]⟩),iV 0,iV 0,.string (⟨#[]⟩)],ac B4 42 [iV 0,iV 0,.string (⟨#[]⟩),iV 0,iV 0,iV 0,.string (⟨#[]⟩),iV 0,iV 0,.string (⟨#[]⟩),iV 0,iV 0,.string (⟨#[]⟩)],ac B3 138 [iV a0.Kind,iV a0.Shape,iV a0.Flags,iV a0.Age,I A1 n1 c1,I A2 n2 c2],dV A1 n1 c1 a0.Slots,dV A2 n2 c2 a0.More]) ?_ ki (ae _);refine lO 7 J V (ar (us:=[iV y5.Kind,iV y5.N,.string y5.S,iV 1,iV 3,iV (a0.More.length:Int),.string (⟨#[]⟩),iV 0,iV 0,.string (⟨#[]⟩),iV 0,iV 0,.string (⟨#[]⟩)]) (cs':=[iV y5.Kind,iV y5.N,.string y5.S,iV 1,iV 3,iV (a0.More.length:Int),.string (⟨#[]⟩),iV 0,iV 0,.string (⟨#[]⟩),iV 0,iV 0,.string (⟨#[]⟩)]) 0 J J J J cm J J J) J J ?_;rintro _ _ rfl;refine jT V ?_;refine fa ?_;refine ba (fun s L=> ∃p9,jG N y5 a0 p9=some r∧s=[(2,pV B4 0),(3,pV B7 0)]∧L=[ac B4 42 [iV 0,iV 0,.string (⟨#[]⟩),iV 0,iV 0,iV 0,.string (⟨#[]⟩),iV 0,iV 0,.string (⟨#[]⟩),iV 0,iV 0,.string (⟨#[]⟩)],ac B7 42 [iV y5.Kind,iV y5.N,.string y5.S,iV p9,iV 3,iV (a0.More.length:Int),.string (⟨#[]⟩),iV 0,iV 0,.string (⟨#[]⟩),iV 0,iV 0,.string (⟨#[]⟩)]]) ?_ ?_
 ·refine U ?_;refine gE (bE J J) ?_;refine U ?_;refine gH J h (fun h=> ?_) (fun h=> ?_)
  ·refine U ?_;refine gW (ar (us:=[iV 0]) (cs':=[iV y5.Kind,iV y5.N,.string y5.S,iV 0,iV 3,iV (a0.More.length:Int),.string (⟨#[]⟩),iV 0,iV 0,.string (⟨#[]⟩),iV 0,iV 0,.string (⟨#[]⟩)]) 0 J J J J iM J J J) ?_;refine U ?_;exact ⟨_,_,⟨0,h,J,J⟩,sA,cS [1,0] 5⟩
  refine U ?_;exact ⟨_,_,⟨1,h,J,J⟩,sA,cS [1,0] 5⟩
 rintro _ _ ⟨p9,h,rfl,rfl⟩;refine U ?_;refine gR (ah (us:=[iV y5.Kind,iV y5.N,.string y5.S,iV p9,iV 3,iV (a0.More.length:Int),.string (⟨#[]⟩),iV 0,iV 0,.string (⟨#[]⟩),iV 0,iV 0,.string (⟨#[]⟩)]) 1 J J dA J) ?_;refine gW (ar (us:=[iV y5.Kind,iV y5.N,.string y5.S,iV p9,iV 3,iV (a0.More.length:Int),.string (⟨#[]⟩),iV 0,iV 0,.string (⟨#[]⟩),iV 0,iV 0,.string (⟨#[]⟩)]) (cs':=[iV y5.Kind,iV y5.N,.string y5.S,iV p9,iV 3,iV (a0.More.length:Int),.string (⟨#[]⟩),iV 0,iV 0,.string (⟨#[]⟩),iV 0,iV 0,.string (⟨#[]⟩)]) 0 J J J J cm J J J) ?_;refine bM ?_;refine U ?_;obtain rfl:=am h;exact cD (rs:=[.cell 2 42]) (vs:=[.agg #[iV y5.Kind,iV y5.N,.string y5.S,iV p9,iV 3,iV (a0.More.length:Int),.string (⟨#[]⟩),iV 0,iV 0,.string (⟨#[]⟩),iV 0,iV 0,.string (⟨#[]⟩)]]) J (.cons (bG 0 J J dA) .nil) J (cS [] 2) ⟨J,J⟩
theorem ph {r:MX}:∀(u:Value)(p:List Chunk),u=(bJ r)∧p=[]→∀c∈p,cM c:=by
 rintro _ _ ⟨rfl,rfl⟩;exact aj
def jM (N:Nat)(a0:MY)(a1:Int):Option Bool:=
 (bif decide (a1<(a0.More.length:Int)) then ((bR a0.More a1).bind fun x5=>some (!decide (x5=(⟨8,0,(⟨#[]⟩:ByteArray)⟩:MQ)))) else (some false)).bind fun b4=>some b4
theorem rK {N:Nat}{a0:MY}{a1:Int}{r:Bool}(h:jM N a0 a1=some r):Okc Tryz.prog 100 [.agg #[iV a0.Kind,iV a0.Shape,iV a0.Flags,iV a0.Age,I A1 n1 c1,I A2 n2 c2],iV a1] ([dV A1 n1 c1 a0.Slots,dV A2 n2 c2 a0.More,aT 0 30 [iV 8,iV 0,.string (⟨#[]⟩:ByteArray)]]) (fun u post=>u=.bool r∧post=[]):=by
 refine bD Tryz.func100 J J ?_;simp only [aW];refine U ?_
 refine gB (aO J J) fun B3=> ?_
 refine U ?_;refine aB ?_;refine bK V _ (ae _) ?_;refine zE 0 J (aq J) ?_;refine zE 1 J (ci J oH) ?_;refine zR 2 J (aY 0 J J iO J) ?_;refine zR 3 J (bL 2 J aS J hE) ?_;refine zE 4 J (ze J J) ?_;refine zE 5 J (aq J) ?_;obtain ⟨b4,hb4,h⟩:=aa h;refine gZ (fun l=>((((((((l.setIfInBounds 6 true).setIfInBounds 7 true).setIfInBounds 8 true).setIfInBounds 9 true).setIfInBounds 10 true).setIfInBounds 11 true).setIfInBounds 12 true).setIfInBounds 13 true)) 1 18 b4 (fun rest=> ?_) ?_
 ·clear h;refine i3 10 J (fun g4=> ?_) (fun g4=> ?_)
  ·have h:=aE g4 hb4;refine dG 6 J V (ci J oH) (bp g4 J) J ?_;refine kB 7 J V (aY 0 J J iO J) (bp g4 J) J ?_;refine dG 8 J V (aq J) (bp g4 J) J ?_;obtain ⟨x5,hx5,h⟩:=aa h;obtain ⟨lx5,ux5,hx5⟩:=aJ hx5;refine kB 9 J V (bx 2 J aS J J hE bv lx5 ux5) (bp g4 J) J ?_;refine kB 10 J V (bA (us:=[iV x5.Kind,iV x5.N,.string x5.S]) 2 J aS J hx5 aH (fun _ _ _ h=>by rw [show _=_ from h];rfl)) (bp g4 J) J ?_;refine kB 11 J V (lR (us:=[iV 8,iV 0,.string (⟨#[]⟩:ByteArray)]) 3 J J aH J) (bp g4 J) J ?_;refine dG 12 J V (sb (x:=x5) (y:=(⟨8,0,(⟨#[]⟩:ByteArray)⟩:MQ)) J J) (bp g4 J) J ?_;refine zE 13 J (d3 g4 J J) ?_;obtain rfl:=am h;exact eQ rest (cN J (av (av (av (av (av (av (av (av bU J) J) J) J) J) J) J) J)) (ae _) (ae _)
  have h:=aF g4 hb4;refine cv 6 J V (fk g4 J) J ?_;refine cv 7 J V (fk g4 J) J ?_;refine cv 8 J V (fk g4 J) J ?_;refine cv 9 J V (fk g4 J) J ?_;refine cv 10 J V (fk g4 J) J ?_;refine cv 11 J V (fk g4 J) J ?_;refine cv 12 J V (fk g4 J) J ?_;refine zE 13 J (d4 g4 J J) ?_;obtain rfl:=am h;exact eQ rest (cN J (av (av (av (av (av (av (av (av bU J) J) J) J) J) J) J) J)) (ae _) (ae _)
 refine zE 14 J (bj J) ?_;refine bC V ?_;refine U ?_;obtain rfl:=am h;exact aL J J (cS [] 4) ⟨J,J⟩
theorem pR {r:Bool}:∀(u:Value)(p:List Chunk),u=.bool r∧p=[]→∀c∈p,cM c:=by
 rintro _ _ ⟨rfl,rfl⟩;exact aj
def nF (N:Nat):Option (Int×Int×Bool):=
 some (0,0,false)
def iB (N:Nat)(a0:MU)(a2:MM):Nat→Int→Int→Int→ByteArray→Int→Int→Option (Int×Int×Bool)
 |0,_,_,_,_,_,_=>none
 |m10+1,p12,p13,p14,p15,p16,p17=>bif decide (0<p17) then (bif decide ((⟨p13,p14,p15⟩:MM)=a2) then (dq (bQ (p17 - 1)) (some (p17 - 1,p16,true))) else ((bR a0.shapes_ p12).bind fun x22=>(iB N a0 a2 m10) x22.Up x22.Key.Kind x22.Key.N x22.Key.S x22.Attrs x22.Len)) else (nF N)
def dY (N:Nat)(a0:MU)(a1:Int)(a2:MM):Option (Int×Int×Bool):=
 (fg N a0 a1).bind fun y5=>bif !y5 then (some (0,0,false)) else ((bR a0.shapes_ a1).bind fun x8=>iB N a0 a2 N x8.Up x8.Key.Kind x8.Key.N x8.Key.S x8.Attrs x8.Len)
set_option maxHeartbeats 4000000 in
theorem iW {N:Nat}{a0:MU}{a1:Int}{a2:MM}{r:(Int×Int×Bool)}(h:dY N a0 a1 a2=some r):Okc Tryz.prog 164 [pV B1 0,iV a1,(fT a2)] ([aT B1 205 [I A2 n2 c2,.map (some M3)],ut A2 n2 c2 a0.shapes_,jg aD cy M3 a0.next_]) (fun u post=>u=.tuple #[iV r.1,iV r.2.1,.bool r.2.2]∧post=[]):=by
 refine bD Tryz.func164 J J ?_;simp only [aW];refine U ?_
 refine gB (aO J J) fun B4=> ?_
 refine U ?_;refine aB ?_;refine U ?_;obtain ⟨y5,k,h⟩:=aa h;refine gV (ap (lD k) AD J (hD (al (i:=1) J J) (hD (al (i:=2) J J) (hD (al (i:=3) J J) aj))) kk) ?_;refine U ?_;refine gH J h (fun h=> ?_) (fun h=> ?_)
 ·refine U ?_;obtain rfl:=am h;exact Dy J J J J (cS [] 4) ⟨J,J⟩
 refine U ?_;refine ba (fun s L=>nF N=some r∧s=[(6,iV 0),(7,iV 0),(8,.bool false)]∧L=[]) ?_ ?_
 ·refine U ?_;refine gR (cQ 1 J J oz J) ?_;refine U ?_;obtain ⟨x8,hx8,h⟩:=aa h;obtain ⟨lx8,ux8,hx8⟩:=aJ hx8;refine gR (bx 2 J aS J J MC dX lx8 ux8) ?_;refine gR (bA (us:=fj x8) 2 J aS J hx8 pA (fun _ _ _ h=>by rw [show _=_ from h];rfl)) ?_
  refine gB (aM pS J) fun B9=> ?_
  refine gW (ar (us:=fj x8) (cs':=fj x8) 0 J J J J dX J J J) ?_;refine U ?_;refine cn (fun m s L=> ∃p12 p13 p14 p15 p16 p17 B11,iB N a0 a2 m p12 p13 p14 p15 p16 p17=some r∧s=[(0,pV B1 0),(5,pV B4 0),(6,iV 0),(7,iV 0),(8,.bool false),(9,pV B11 0)]∧L=[ac B11 201 [iV p12,iV p13,iV p14,.string p15,iV p16,iV p17],ut A2 n2 c2 a0.shapes_,jg aD cy M3 a0.next_,aT B1 205 [I A2 n2 c2,.map (some M3)],ac B4 24 (bS a2)]) N _ _ ⟨x8.Up,x8.Key.Kind,x8.Key.N,x8.Key.S,x8.Attrs,x8.Len,B9,h,J,J⟩ sA (cS [0,3,4,2,1] 5) ?_;rintro (_|m10) _ _ ⟨p12,p13,p14,p15,p16,p17,B11,h,rfl,rfl⟩
  ·exact bu h
  rw [iB.eq_2] at h;refine aB ?_;refine U ?_;refine gH J h (fun h=> ?_) (fun h=> ?_)
  ·refine U ?_;refine aB ?_;refine U ?_;refine gR (ah (us:=[iV p13,iV p14,.string p15]) 0 J J bF J) ?_;refine gR (ah (us:=bS a2) 4 J J bF J) ?_;refine gE (t4 (x:=(⟨p13,p14,p15⟩:MM)) (y:=a2) J J) ?_;refine U ?_;refine gH J h (fun h=> ?_) (fun h=> ?_)
   ·refine aB ?_;refine bK V _ (ae _) ?_;refine zE 0 J (ci J tY) ?_;refine zR 1 J (aY 0 J J dH J) ?_;obtain ⟨q20,h⟩:=ay h;refine zE 2 J (dI J J q20.1 q20.2) ?_;refine zE 3 J (ci J pL) ?_;refine zR 4 J (aY 0 J J dH J) ?_;refine zE 5 J (bj J) ?_;refine zE 6 J (bj J) ?_;refine zE 7 J (bj J) ?_;refine bC V ?_;refine U ?_;obtain rfl:=am h;exact Dy J J J J (cS [] 5) ⟨J,J⟩
   refine U ?_;refine aB ?_;refine U ?_;refine gR (ah (us:=[iV p12,iV p13,iV p14,.string p15,iV p16,iV p17]) 0 J J pA J) ?_;refine U ?_
   refine gB (aM pS J) fun B21=> ?_
   refine gW (ar (us:=[iV p12,iV p13,iV p14,.string p15,iV p16,iV p17]) (cs':=[iV p12,iV p13,iV p14,.string p15,iV p16,iV p17]) 0 J J J J dX J J J) ?_;refine U ?_;refine bK V _ (ae _) ?_;refine zE 0 J (aq J) ?_;refine zE 1 J (bc J) ?_;refine zE 2 J (ef J pK) ?_;refine zR 3 J (cQ 4 J J oz J) ?_;refine zE 4 J (ef J t3) ?_;refine zR 5 J (aY 0 J J dH J) ?_;obtain ⟨x22,hx22,h⟩:=aa h;obtain ⟨lx22,ux22,hx22⟩:=aJ hx22;refine zR 6 J (bx 2 J aS J J MC dX lx22 ux22) ?_;refine zR 7 J (bA (us:=fj x22) 2 J aS J hx22 pA (fun _ _ _ h=>by rw [show _=_ from h];rfl)) ?_;refine pi 8 J V V (ar (us:=fj x22) (cs':=fj x22) 0 J J J J dX J J J) ?_;rintro _ _ rfl;refine bC V ?_;refine fa ?_;exact ⟨m10,_,_,Nh _,⟨x22.Up,x22.Key.Kind,x22.Key.N,x22.Key.S,x22.Attrs,x22.Len,B21,h,J,J⟩,sA,cS [0,2,3,4,5] 6⟩
  refine U ?_;exact ⟨_,_,⟨h,J,J⟩,sA,cS [] 5⟩
 rintro _ _ ⟨h,rfl,rfl⟩;refine U ?_;obtain rfl:=am h;exact Dy J J J J (cS [] 0) ⟨J,J⟩
theorem ic {r:(Int×Int×Bool)}:∀(u:Value)(p:List Chunk),u=.tuple #[iV r.1,iV r.2.1,.bool r.2.2]∧p=[]→∀c∈p,cM c:=by
 rintro _ _ ⟨rfl,rfl⟩;exact aj
def bn (N:Nat)(a0:MP)(a1:MM):Option (MX×Int×Bool):=
 (cK N a0.w_).bind fun y20=>(dY N a0.w_.shapes_ a0.Cell.Shape a1).bind fun y21=>bif !y21.2.2 then (some ((⟨(⟨0,0,⟨#[]⟩⟩:MM),0,(⟨0,0,⟨#[]⟩⟩:MQ),(⟨0,0,⟨#[]⟩⟩:MQ),(⟨0,0,⟨#[]⟩⟩:MQ)⟩:MX),0,false)) else ((eu N a0 y21.1 a1 y21.2.1).bind fun y23=>some (y23,y21.1,true))
theorem iY {N:Nat}{a0:MP}{a1:MM}{r:(MX×Int×Bool)}(h:bn N a0 a1=some r):Okc Tryz.prog 117 [pV B1 0,(fT a1)] ([aT B1 140 [iV a0.Cell.Kind,iV a0.Cell.Shape,iV a0.Cell.Flags,iV a0.Cell.Age,I A2 n2 c2,I A3 n3 c3,pV B4 0,iV a0.at_.Kind,iV a0.at_.N,.string a0.at_.S],dV A2 n2 c2 a0.Cell.Slots,dV A3 n3 c3 a0.Cell.More,aT B4 151 (dm a0.w_ B5 B12 A15 n15 c15 A16 n16 c16 A17 n17 c17),aT B5 199 [I A6 n6 c6,I A7 n7 c7,I A8 n8 c8,I A9 n9 c9,pV B10 0],qB A6 n6 c6 a0.w_.heap_.m_.Young,qB A7 n7 c7 a0.w_.heap_.m_.Old,dV A8 n8 c8 a0.w_.heap_.roots_,dV A9 n9 c9 a0.w_.heap_.pending_,aT B10 247 [.map (some M11)],jg cz cC M11 a0.w_.heap_.set_.at_,aT B12 205 [I A13 n13 c13,.map (some M14)],ut A13 n13 c13 a0.w_.shapes_.shapes_,jg aD cy M14 a0.w_.shapes_.next_,bm A15 n15 c15 a0.w_.symbols_,cH A16 n16 c16 a0.w_.events_,bm A17 n17 c17 a0.w_.out_]) (fun u post=>u=.tuple #[(bJ r.1),iV r.2.1,.bool r.2.2]∧post=[]):=by
 refine bD Tryz.func117 J J ?_;simp only [aW];refine U ?_
 refine gB (aO J J) fun B18=> ?_
 refine gB (aM dB J) fun B19=> ?_
 refine U ?_;refine aB ?_;refine bK V _ (ae _) ?_;refine zE 0 J (aq J) ?_;refine zE 1 J (bc J) ?_;refine zE 2 J (ci J oG) ?_;refine zR 3 J (cQ 2 J J vu J) ?_;refine zE 5 J (aq J) ?_;refine zE 6 J (bc J) ?_;refine zE 7 J (ef J gc) ?_;refine zE 8 J (ci J nk) ?_;refine zR 9 J (cQ 2 J J dH J) ?_;refine zR 10 J (ah (us:=bS a1) 1 J J bF J) ?_;obtain ⟨y20,k,h⟩:=aa h;refine zD 4 J (ap (eD k) sg J (hD (al (i:=5) J J) (hD (al (i:=6) J J) (hD (al (i:=7) J J) (hD (al (i:=8) J J) (hD (al (i:=9) J J) (hD (al (i:=10) J J) (hD (al (i:=11) J J) (hD (al (i:=12) J J) (hD (al (i:=13) J J) (hD (al (i:=14) J J) (hD (al (i:=15) J J) (hD (al (i:=16) J J) (hD (al (i:=17) J J) (hD (al (i:=18) J J) aj)))))))))))))) dU) ?_;rintro _ _ ⟨_,⟨rfl,rfl⟩,rfl⟩;refine ⟨_,ae _,ae _,?_⟩;obtain ⟨y21,k,h⟩:=aa h;refine zD 11 J (ap (iW k) wv J (hD (al (i:=13) J J) (hD (al (i:=14) J J) (hD (al (i:=15) J J) aj))) ic) ?_;rintro _ _ ⟨_,⟨rfl,rfl⟩,rfl⟩;refine ⟨_,ae _,ae _,?_⟩;refine zE 12 J (aq J) ?_;refine zE 13 J (bq J J) ?_;refine zE 14 J (bq J J) ?_;refine zE 15 J (bq J J) ?_;refine zE 16 J (bj J) ?_;refine zE 17 J (bj J) ?_;refine zE 18 J (bj J) ?_;refine bC V ?_;refine fa ?_;refine aB ?_;refine U ?_
 refine gH J h (fun h=> ?_) (fun h=> ?_)
 ·refine U ?_;refine gE (bd J (si)) ?_;refine gW (ar (us:=[iV 0,iV 0,.string (⟨#[]⟩),iV 0,iV 0,iV 0,.string (⟨#[]⟩),iV 0,iV 0,.string (⟨#[]⟩),iV 0,iV 0,.string (⟨#[]⟩)]) (cs':=[iV 0,iV 0,.string (⟨#[]⟩),iV 0,iV 0,iV 0,.string (⟨#[]⟩),iV 0,iV 0,.string (⟨#[]⟩),iV 0,iV 0,.string (⟨#[]⟩)]) 0 J J J J cm J J J) ?_;refine U ?_;obtain rfl:=am h;exact cD (rs:=[.cell 4 42,.tmp 5,.tmp 6]) (vs:=[.agg #[iV 0,iV 0,.string (⟨#[]⟩),iV 0,iV 0,iV 0,.string (⟨#[]⟩),iV 0,iV 0,.string (⟨#[]⟩),iV 0,iV 0,.string (⟨#[]⟩)],iV 0,.bool false]) J (.cons (bG 0 J J dA) (.cons (ep J) (.cons (ep J) .nil))) J (cS [] 19) ⟨J,J⟩
 refine U ?_;refine gR (ah (us:=bS a1) 1 J J bF J) ?_;refine U ?_;obtain ⟨y23,k,h⟩:=aa h;refine gV (ap (ni k) DQ J (hD (al (i:=2) J J) (hD (al (i:=3) J J) (hD (al (i:=4) J J) (hD (al (i:=5) J J) (hD (al (i:=6) J J) (hD (al (i:=7) J J) (hD (al (i:=8) J J) (hD (al (i:=9) J J) (hD (al (i:=10) J J) (hD (al (i:=11) J J) (hD (al (i:=12) J J) (hD (al (i:=13) J J) (hD (al (i:=14) J J) (hD (al (i:=15) J J) (hD (al (i:=16) J J) (hD (al (i:=17) J J) (hD (al (i:=18) J J) aj))))))))))))))))) lW) ?_;refine U ?_;refine gW (ar (us:=aR y23) (cs':=aR y23) 0 J J J J cm J J J) ?_;refine U ?_;obtain rfl:=am h;exact cD (rs:=[.cell 4 42,.tmp 5,.tmp 6]) (vs:=[(bJ y23),iV y21.1,.bool true]) J (.cons (bG 0 J J dA) (.cons (ep J) (.cons (ep J) .nil))) J (cS [] 19) ⟨J,J⟩
theorem ig {r:(MX×Int×Bool)}:∀(u:Value)(p:List Chunk),u=.tuple #[(bJ r.1),iV r.2.1,.bool r.2.2]∧p=[]→∀c∈p,cM c:=by
 rintro _ _ ⟨rfl,rfl⟩;exact aj
def dP (N:Nat)(a0:MT)(a1:MQ)(a2:MM):Option (MX×Bool):=
 (dv N a0 a1).bind fun y18=>AV y18 (fun y18_0=>some ((⟨(⟨0,0,⟨#[]⟩⟩:MM),0,(⟨0,0,⟨#[]⟩⟩:MQ),(⟨0,0,⟨#[]⟩⟩:MQ),(⟨0,0,⟨#[]⟩⟩:MQ)⟩:MX),false)) (fun y18_1=>(bn N (⟨y18_1.Cell,a0,y18_1.at_⟩:MP) a2).bind fun y36=>some (y36.1,y36.2.2))
theorem mO {N:Nat}{a0:MT}{a1:MQ}{a2:MM}{r:(MX×Bool)}(h:dP N a0 a1 a2=some r):Okc Tryz.prog 40 [pV B1 0,(bz a1),(fT a2)] ([bm A12 n12 c12 a0.symbols_,cH A13 n13 c13 a0.events_,bm A14 n14 c14 a0.out_,ac B1 151 (dm a0 B2 B9 A12 n12 c12 A13 n13 c13 A14 n14 c14),ac B2 199 [I A3 n3 c3,I A4 n4 c4,I A5 n5 c5,I A6 n6 c6,pV B7 0],bw A3 n3 c3 a0.heap_.m_.Young,bw A4 n4 c4 a0.heap_.m_.Old,aX A5 n5 c5 a0.heap_.roots_,aX A6 n6 c6 a0.heap_.pending_,ac B7 247 [.map (some M8)],aG cz cC M8 a0.heap_.set_.at_,ac B9 205 [I A10 n10 c10,.map (some M11)],cL A10 n10 c10 a0.shapes_.shapes_,aG aD cy M11 a0.shapes_.next_]) (fun u post=>u=.tuple #[(bJ r.1),.bool r.2]∧post=[ac B1 151 (dm a0 B2 B9 A12 n12 c12 A13 n13 c13 A14 n14 c14),ac B2 199 [I A3 n3 c3,I A4 n4 c4,I A5 n5 c5,I A6 n6 c6,pV B7 0],bw A3 n3 c3 a0.heap_.m_.Young,bw A4 n4 c4 a0.heap_.m_.Old,aX A5 n5 c5 a0.heap_.roots_,aX A6 n6 c6 a0.heap_.pending_,ac B7 247 [.map (some M8)],aG cz cC M8 a0.heap_.set_.at_,ac B9 205 [I A10 n10 c10,.map (some M11)],cL A10 n10 c10 a0.shapes_.shapes_,aG aD cy M11 a0.shapes_.next_]):=by
 refine bD Tryz.func40 J J ?_;simp only [aW];refine U ?_
 refine gB (aO J J) fun B15=> ?_
 refine gB (aO J J) fun B16=> ?_
 refine gB (aM dB J) fun B17=> ?_
 refine U ?_;refine gR (ah (us:=au a1) 2 J J aH J) ?_;obtain ⟨y18,hy18,h⟩:=aa h;rcases y18 with y18_0|y18_1
 ·replace h:=Cn h;refine gV (aA (bP hy18) ir J (az [3,4,5] [6,7,8,9,10,11,12,13,14,15,16] [0,1,2,3,4,5] 17 J)) ?_;refine U ?_;refine aB ?_;refine U ?_;refine kC J ?_;refine U ?_;refine gE (bd J (si)) ?_;refine gW (ar (us:=[iV 0,iV 0,.string (⟨#[]⟩),iV 0,iV 0,iV 0,.string (⟨#[]⟩),iV 0,iV 0,.string (⟨#[]⟩),iV 0,iV 0,.string (⟨#[]⟩)]) (cs':=[iV 0,iV 0,.string (⟨#[]⟩),iV 0,iV 0,iV 0,.string (⟨#[]⟩),iV 0,iV 0,.string (⟨#[]⟩),iV 0,iV 0,.string (⟨#[]⟩)]) 11 J J J J cm J J J) ?_;refine U ?_;obtain rfl:=am h;exact cD (rs:=[.cell 6 42,.tmp 7]) (vs:=[.agg #[iV 0,iV 0,.string (⟨#[]⟩),iV 0,iV 0,iV 0,.string (⟨#[]⟩),iV 0,iV 0,.string (⟨#[]⟩),iV 0,iV 0,.string (⟨#[]⟩)],.bool false]) J (.cons (bG 11 J J dA) (.cons (ep J) .nil)) J (cS [0,1,2,3,4,5,6,7,8,9,10] 17) ⟨J,J⟩
 replace h:=Cm h;refine gD (aA (bP hy18) ir J (az [3,4,5] [6,7,8,9,10,11,12,13,14,15,16] [0,1,2,3,4,5] 17 J)) ?_;rintro _ _ ⟨_,⟨B19,A20,n20,c20,A21,n21,c21,rfl,rfl⟩,rfl⟩;refine bM ?_;refine U ?_;refine aB ?_;refine U ?_;refine ia J ?_;refine U ?_;refine gR (ah (us:=bS a2) 15 J J bF J) ?_;obtain ⟨y36,k,h⟩:=aa h;refine gV (ap (iY k) wz J (hD (ax (i:=0) J) (hD (ao (i:=1) J) (hD (ao (i:=2) J) (hD (ax (i:=3) J) (hD (ax (i:=4) J) (hD (ao (i:=5) J) (hD (ao (i:=6) J) (hD (ao (i:=7) J) (hD (ao (i:=8) J) (hD (ax (i:=9) J) (hD (aU (i:=10) J) (hD (ax (i:=11) J) (hD (ao (i:=12) J) (hD (aU (i:=13) J) (hD (al (i:=17) J J) (hD (al (i:=18) J J) (hD (al (i:=19) J J) aj))))))))))))))))) ig) ?_;refine U ?_
 refine gB (aM dB J) fun B37=> ?_
 refine gW (ar (us:=aR y36.1) (cs':=aR y36.1) 0 J J J J cm J J J) ?_;refine U ?_;refine gR (ah (us:=aR y36.1) 0 J J dA J) ?_;refine U ?_;refine gW (ar (us:=aR y36.1) (cs':=aR y36.1) 15 J J J J cm J J J) ?_;refine U ?_;obtain rfl:=am h;exact cD (rs:=[.cell 6 42,.tmp 7]) (vs:=[(bJ y36.1),.bool y36.2.2]) J (.cons (bG 15 J J dA) (.cons (ep J) .nil)) J (cS [4,5,6,7,8,9,10,11,12,13,14] 21) ⟨J,J⟩
def bY (N:Nat)(a0:MT)(a1:MQ)(a2:MM):Option (MX×Bool):=
 (dE N a0 a1).bind fun y18=>bif !y18.2 then (some ((⟨(⟨0,0,⟨#[]⟩⟩:MM),0,(⟨0,0,⟨#[]⟩⟩:MQ),(⟨0,0,⟨#[]⟩⟩:MQ),(⟨0,0,⟨#[]⟩⟩:MQ)⟩:MX),false)) else ((cu N).bind fun y23=>bif decide (a2=y23) then ((gT N y18.1).bind fun y25=>some (y25,true)) else ((bif decide (a2.Kind=0) then ((co N a2).bind fun y27=>some y27) else (some false)).bind fun b26=>(bif b26 then ((jM N y18.1 a2.N).bind fun y29=>some y29) else (some false)).bind fun b28=>bif b28 then ((bR y18.1.More a2.N).bind fun x31=>some ((⟨a2,7,x31,(⟨0,0,⟨#[]⟩⟩:MQ),(⟨0,0,⟨#[]⟩⟩:MQ)⟩:MX),true)) else ((dP N a0 a1 a2).bind fun y32=>some (y32.1,y32.2))))
set_option maxHeartbeats 4000000 in
theorem mo {N:Nat}{a0:MT}{a1:MQ}{a2:MM}{r:(MX×Bool)}(h:bY N a0 a1 a2=some r):Okc Tryz.prog 25 [pV B1 0,(bz a1),(fT a2)] ([bm A12 n12 c12 a0.symbols_,cH A13 n13 c13 a0.events_,bm A14 n14 c14 a0.out_,aT 0 30 [iV 8,iV 0,.string (⟨#[]⟩:ByteArray)],ac B1 151 (dm a0 B2 B9 A12 n12 c12 A13 n13 c13 A14 n14 c14),ac B2 199 [I A3 n3 c3,I A4 n4 c4,I A5 n5 c5,I A6 n6 c6,pV B7 0],bw A3 n3 c3 a0.heap_.m_.Young,bw A4 n4 c4 a0.heap_.m_.Old,aX A5 n5 c5 a0.heap_.roots_,aX A6 n6 c6 a0.heap_.pending_,ac B7 247 [.map (some M8)],aG cz cC M8 a0.heap_.set_.at_,ac B9 205 [I A10 n10 c10,.map (some M11)],cL A10 n10 c10 a0.shapes_.shapes_,aG aD cy M11 a0.shapes_.next_]) (fun u post=>u=.tuple #[(bJ r.1),.bool r.2]∧post=[ac B1 151 (dm a0 B2 B9 A12 n12 c12 A13 n13 c13 A14 n14 c14),ac B2 199 [I A3 n3 c3,I A4 n4 c4,I A5 n5 c5,I A6 n6 c6,pV B7 0],bw A3 n3 c3 a0.heap_.m_.Young,bw A4 n4 c4 a0.heap_.m_.Old,aX A5 n5 c5 a0.heap_.roots_,aX A6 n6 c6 a0.heap_.pending_,ac B7 247 [.map (some M8)],aG cz cC M8 a0.heap_.set_.at_,ac B9 205 [I A10 n10 c10,.map (some M11)],cL A10 n10 c10 a0.shapes_.shapes_,aG aD cy M11 a0.shapes_.next_]):=by
 refine bD Tryz.func25 J J ?_;simp only [aW];refine U ?_
 refine gB (aO J J) fun B15=> ?_
 refine gB (aO J J) fun B16=> ?_
 refine gB (aM dB J) fun B17=> ?_
 refine U ?_;refine gR (ah (us:=au a1) 2 J J aH J) ?_;obtain ⟨y18,k,h⟩:=aa h;refine gD (ap (eI k) oK J (hD (ax (i:=7) J) (hD (ax (i:=8) J) (hD (ao (i:=9) J) (hD (ao (i:=10) J) (hD (ao (i:=11) J) (hD (ao (i:=12) J) (hD (ax (i:=13) J) (hD (aU (i:=14) J) (hD (ax (i:=15) J) (hD (ao (i:=16) J) (hD (aU (i:=17) J) (hD (al (i:=3) J J) (hD (al (i:=4) J J) (hD (al (i:=5) J J) aj)))))))))))))) dF) ?_;rintro _ _ ⟨_,⟨A19,n19,c19,A20,n20,c20,rfl,rfl⟩,rfl⟩;refine U ?_
 refine gB (aM gx J) fun B21=> ?_
 refine gW (ar (us:=[iV y18.1.Kind,iV y18.1.Shape,iV y18.1.Flags,iV y18.1.Age,I A19 n19 c19,I A20 n20 c20]) (cs':=[iV y18.1.Kind,iV y18.1.Shape,iV y18.1.Flags,iV y18.1.Age,I A19 n19 c19,I A20 n20 c20]) 0 J J J J du J J J) ?_;refine U ?_;refine aB ?_;refine U ?_;refine gH J h (fun h=> ?_) (fun h=> ?_)
 ·refine U ?_;refine gE (bd J (si)) ?_;refine gW (ar (us:=[iV 0,iV 0,.string (⟨#[]⟩),iV 0,iV 0,iV 0,.string (⟨#[]⟩),iV 0,iV 0,.string (⟨#[]⟩),iV 0,iV 0,.string (⟨#[]⟩)]) (cs':=[iV 0,iV 0,.string (⟨#[]⟩),iV 0,iV 0,iV 0,.string (⟨#[]⟩),iV 0,iV 0,.string (⟨#[]⟩),iV 0,iV 0,.string (⟨#[]⟩)]) 3 J J J J cm J J J) ?_;refine U ?_;obtain rfl:=am h;exact cD (rs:=[.cell 6 42,.tmp 7]) (vs:=[.agg #[iV 0,iV 0,.string (⟨#[]⟩),iV 0,iV 0,iV 0,.string (⟨#[]⟩),iV 0,iV 0,.string (⟨#[]⟩),iV 0,iV 0,.string (⟨#[]⟩)],.bool false]) J (.cons (bG 3 J J dA) (.cons (ep J) .nil)) J (cS [10,11,12,13,14,15,16,17,18,19,20] 21) ⟨J,J⟩
 refine aB ?_;refine bK V _ (ae _) ?_;refine zR 0 J (ah (us:=bS a2) 4 J J bF J) ?_;obtain ⟨y23,k,h⟩:=aa h;refine zD 1 J (ap (gX k) xU J (aj) ge) ?_;rintro _ _ ⟨_,⟨rfl,rfl⟩,rfl⟩;refine ⟨_,ae _,ae _,?_⟩;refine zE 2 J (t4 (x:=a2) (y:=y23) J J) ?_;refine zE 3 J (bj J) ?_;refine bC V ?_;refine fa ?_;refine gH J h (fun h=> ?_) (fun h=> ?_)
 ·refine U ?_;refine gR (ah (us:=[iV y18.1.Kind,iV y18.1.Shape,iV y18.1.Flags,iV y18.1.Age,I A19 n19 c19,I A20 n20 c20]) 0 J J cq J) ?_;obtain ⟨y25,k,h⟩:=aa h;refine gV (ap (qH k) Gy J (hD (ao (i:=1) J) (hD (ao (i:=2) J) aj)) ph) ?_;refine gW (ar (us:=aR y25) (cs':=aR y25) 3 J J J J cm J J J) ?_;refine bM ?_;refine U ?_;obtain rfl:=am h;exact cD (rs:=[.cell 6 42,.tmp 7]) (vs:=[(bJ y25),.bool true]) J (.cons (bG 3 J J dA) (.cons (ep J) .nil)) J (cS [10,11,12,13,14,15,16,17,18,19,20] 21) ⟨J,J⟩
 refine U ?_;obtain ⟨b26,hb26,h⟩:=aa h;refine aK 3 33 b26 ?_ ?_
 ·clear h;refine aI 30 J (fun g26=> ?_) (fun g26=> ?_)
  ·have h:=aE g26 hb26;refine cp (ah (us:=bS a2) 4 J J bF J) J (bp g26 J) J ?_;obtain ⟨y27,k,h⟩:=aa h;refine gU (ap (kL k) uV J (aj) i7) (bp g26 J) ?_;refine U ?_;obtain rfl:=am h;exact ad sA (cS [0,1,2,3,4,5,6,7,8,9,10,11,12,13,14,15,16,17,18,19,20] 21)
  have h:=aF g26 hb26;refine U ?_;obtain rfl:=am h;exact ad sA (cS [0,1,2,3,4,5,6,7,8,9,10,11,12,13,14,15,16,17,18,19,20] 21)
 refine U ?_;obtain ⟨b28,hb28,h⟩:=aa h;refine aK 5 39 b28 ?_ ?_
 ·clear h;refine aI 34 J (fun g28=> ?_) (fun g28=> ?_)
  ·have h:=aE g28 hb28;refine cp (ah (us:=[iV y18.1.Kind,iV y18.1.Shape,iV y18.1.Flags,iV y18.1.Age,I A19 n19 c19,I A20 n20 c20]) 0 J J cq J) J (bp g28 J) J ?_;refine U ?_;obtain ⟨y29,k,h⟩:=aa h;refine gU (ap (rK k) D3 J (hD (ao (i:=1) J) (hD (ao (i:=2) J) (hD (al (i:=9) J J) aj))) pR) (bp g28 J) ?_;refine U ?_;obtain rfl:=am h;exact ad sA (cS [0,1,2,3,4,5,6,7,8,9,10,11,12,13,14,15,16,17,18,19,20] 21)
  have h:=aF g28 hb28;refine U ?_;obtain rfl:=am h;exact ad sA (cS [0,1,2,3,4,5,6,7,8,9,10,11,12,13,14,15,16,17,18,19,20] 21)
 refine U ?_;refine gH J h (fun h=> ?_) (fun h=> ?_)
 ·refine aB ?_;refine bK V _ (ae _) ?_;refine zR 0 J (ah (us:=bS a2) 4 J J bF J) ?_;refine zE 1 J (ci J oH) ?_;refine zR 2 J (aY 0 J J iO J) ?_;refine zE 3 J (ci J Ai) ?_;refine zR 4 J (aY 4 J J dH J) ?_;obtain ⟨x31,hx31,h⟩:=aa h;obtain ⟨lx31,ux31,hx31⟩:=aJ hx31;refine zR 5 J (bx 2 J aC J J hE bv lx31 ux31) ?_;refine zR 6 J (bA (us:=[iV x31.Kind,iV x31.N,.string x31.S]) 2 J aC J hx31 aH (fun _ _ _ h=>by rw [show _=_ from h];rfl)) ?_;refine zE 7 J (bd J (qr _ _ _ _ _ _ _)) ?_;refine pi 8 J V V (ar (us:=[iV a2.Kind,iV a2.N,.string a2.S,iV 7,iV x31.Kind,iV x31.N,.string x31.S,iV 0,iV 0,.string (⟨#[]⟩),iV 0,iV 0,.string (⟨#[]⟩)]) (cs':=[iV a2.Kind,iV a2.N,.string a2.S,iV 7,iV x31.Kind,iV x31.N,.string x31.S,iV 0,iV 0,.string (⟨#[]⟩),iV 0,iV 0,.string (⟨#[]⟩)]) 3 J J J J cm J J J) ?_;rintro _ _ rfl;refine dt ?_;refine zE 9 J (bj J) ?_;refine bC V ?_;refine U ?_;obtain rfl:=am h;exact cD (rs:=[.cell 6 42,.tmp 7]) (vs:=[.agg #[iV a2.Kind,iV a2.N,.string a2.S,iV 7,iV x31.Kind,iV x31.N,.string x31.S,iV 0,iV 0,.string (⟨#[]⟩),iV 0,iV 0,.string (⟨#[]⟩)],.bool true]) J (.cons (bG 3 J J dA) (.cons (ep J) .nil)) J (cS [10,11,12,13,14,15,16,17,18,19,20] 21) ⟨J,J⟩
 refine U ?_;refine gR (ah (us:=au a1) 5 J J aH J) ?_;refine gR (ah (us:=bS a2) 4 J J bF J) ?_;obtain ⟨y32,k,h⟩:=aa h;refine gV (aA (mO k) Ay J (az [6,7,8] [10,11,12,13,14,15,16,17,18,19,20] [0,1,2,3,4,5,6,7,8,9] 21 J)) ?_;refine U ?_;refine gW (ar (us:=aR y32.1) (cs':=aR y32.1) 14 J J J J cm J J J) ?_;refine U ?_;obtain rfl:=am h;exact cD (rs:=[.cell 6 42,.tmp 7]) (vs:=[(bJ y32.1),.bool y32.2]) J (.cons (bG 14 J J dA) (.cons (ep J) .nil)) J (cS [0,1,2,3,4,5,6,7,8,9,10] 21) ⟨J,J⟩
def bZ (N:Nat)(a0:MT)(a1:MQ)(a2:MM):Option (MX×Bool):=
 (kA N a0 a1).bind fun y18=>bif y18 then ((bY N a0 a1 a2).bind fun y20=>some (y20.1,y20.2)) else ((dP N a0 a1 a2).bind fun y21=>some (y21.1,y21.2))
theorem gF {N:Nat}{a0:MT}{a1:MQ}{a2:MM}{r:(MX×Bool)}(h:bZ N a0 a1 a2=some r):Okc Tryz.prog 54 [pV B1 0,(bz a1),(fT a2)] ([bm A12 n12 c12 a0.symbols_,cH A13 n13 c13 a0.events_,bm A14 n14 c14 a0.out_,aT 0 30 [iV 8,iV 0,.string (⟨#[]⟩:ByteArray)],ac B1 151 (dm a0 B2 B9 A12 n12 c12 A13 n13 c13 A14 n14 c14),ac B2 199 [I A3 n3 c3,I A4 n4 c4,I A5 n5 c5,I A6 n6 c6,pV B7 0],bw A3 n3 c3 a0.heap_.m_.Young,bw A4 n4 c4 a0.heap_.m_.Old,aX A5 n5 c5 a0.heap_.roots_,aX A6 n6 c6 a0.heap_.pending_,ac B7 247 [.map (some M8)],aG cz cC M8 a0.heap_.set_.at_,ac B9 205 [I A10 n10 c10,.map (some M11)],cL A10 n10 c10 a0.shapes_.shapes_,aG aD cy M11 a0.shapes_.next_]) (fun u post=>u=.tuple #[(bJ r.1),.bool r.2]∧post=[ac B1 151 (dm a0 B2 B9 A12 n12 c12 A13 n13 c13 A14 n14 c14),ac B2 199 [I A3 n3 c3,I A4 n4 c4,I A5 n5 c5,I A6 n6 c6,pV B7 0],bw A3 n3 c3 a0.heap_.m_.Young,bw A4 n4 c4 a0.heap_.m_.Old,aX A5 n5 c5 a0.heap_.roots_,aX A6 n6 c6 a0.heap_.pending_,ac B7 247 [.map (some M8)],aG cz cC M8 a0.heap_.set_.at_,ac B9 205 [I A10 n10 c10,.map (some M11)],cL A10 n10 c10 a0.shapes_.shapes_,aG aD cy M11 a0.shapes_.next_]):=by
 refine bD Tryz.func54 J J ?_;simp only [aW];refine U ?_
 refine gB (aO J J) fun B15=> ?_
 refine gB (aO J J) fun B16=> ?_
 refine gB (aM dB J) fun B17=> ?_
 refine U ?_;refine aB ?_;refine U ?_;refine gR (ah (us:=au a1) 2 J J aH J) ?_;obtain ⟨y18,k,h⟩:=aa h;refine gV (ap (nr k) xX J (hD (ax (i:=7) J) (hD (ax (i:=8) J) (hD (ao (i:=9) J) (hD (ao (i:=10) J) (hD (ao (i:=11) J) (hD (ao (i:=12) J) (hD (ax (i:=13) J) (hD (aU (i:=14) J) (hD (ax (i:=15) J) (hD (ao (i:=16) J) (hD (aU (i:=17) J) (hD (al (i:=3) J J) (hD (al (i:=4) J J) (hD (al (i:=5) J J) aj)))))))))))))) lp) ?_;refine U ?_;refine gH J h (fun h=> ?_) (fun h=> ?_)
 ·refine U ?_;refine gR (ah (us:=au a1) 2 J J aH J) ?_;refine gR (ah (us:=bS a2) 1 J J bF J) ?_;obtain ⟨y20,k,h⟩:=aa h;refine gV (aA (mo k) xY J (az [3,4,5,6] [7,8,9,10,11,12,13,14,15,16,17] [0,1,2,3,4,5,6] 18 J)) ?_;refine U ?_;refine gW (ar (us:=aR y20.1) (cs':=aR y20.1) 11 J J J J cm J J J) ?_;refine U ?_;obtain rfl:=am h;exact cD (rs:=[.cell 6 42,.tmp 7]) (vs:=[(bJ y20.1),.bool y20.2]) J (.cons (bG 11 J J dA) (.cons (ep J) .nil)) J (cS [0,1,2,3,4,5,6,7,8,9,10] 18) ⟨J,J⟩
 refine U ?_;refine gR (ah (us:=au a1) 2 J J aH J) ?_;refine gR (ah (us:=bS a2) 1 J J bF J) ?_;obtain ⟨y21,k,h⟩:=aa h;refine gV (aA (mO k) Ay J (az [3,4,5] [7,8,9,10,11,12,13,14,15,16,17] [0,1,2,3,4,5,6] 18 J)) ?_;refine bM ?_;refine U ?_;refine gW (ar (us:=aR y21.1) (cs':=aR y21.1) 11 J J J J cm J J J) ?_;refine U ?_;obtain rfl:=am h;exact cD (rs:=[.cell 6 42,.tmp 7]) (vs:=[(bJ y21.1),.bool y21.2]) J (.cons (bG 11 J J dA) (.cons (ep J) .nil)) J (cS [0,1,2,3,4,5,6,7,8,9,10] 18) ⟨J,J⟩
def kG (N:Nat)(a0:MT)(a1:MQ):Option Bool:=
 (dv N a0 a1).bind fun y16=>AV y16 (fun y16_0=>some false) (fun y16_1=>some (!decide (ai .i64 y16_1.Cell.Flags 1=0)))
theorem po {N:Nat}{a0:MT}{a1:MQ}{r:Bool}(h:kG N a0 a1=some r):Okc Tryz.prog 19 [pV B1 0,(bz a1)] ([bm A12 n12 c12 a0.symbols_,cH A13 n13 c13 a0.events_,bm A14 n14 c14 a0.out_,ac B1 151 (dm a0 B2 B9 A12 n12 c12 A13 n13 c13 A14 n14 c14),ac B2 199 [I A3 n3 c3,I A4 n4 c4,I A5 n5 c5,I A6 n6 c6,pV B7 0],bw A3 n3 c3 a0.heap_.m_.Young,bw A4 n4 c4 a0.heap_.m_.Old,aX A5 n5 c5 a0.heap_.roots_,aX A6 n6 c6 a0.heap_.pending_,ac B7 247 [.map (some M8)],aG cz cC M8 a0.heap_.set_.at_,ac B9 205 [I A10 n10 c10,.map (some M11)],cL A10 n10 c10 a0.shapes_.shapes_,aG aD cy M11 a0.shapes_.next_]) (fun u post=>u=.bool r∧post=[ac B1 151 (dm a0 B2 B9 A12 n12 c12 A13 n13 c13 A14 n14 c14),ac B2 199 [I A3 n3 c3,I A4 n4 c4,I A5 n5 c5,I A6 n6 c6,pV B7 0],bw A3 n3 c3 a0.heap_.m_.Young,bw A4 n4 c4 a0.heap_.m_.Old,aX A5 n5 c5 a0.heap_.roots_,aX A6 n6 c6 a0.heap_.pending_,ac B7 247 [.map (some M8)],aG cz cC M8 a0.heap_.set_.at_,ac B9 205 [I A10 n10 c10,.map (some M11)],cL A10 n10 c10 a0.shapes_.shapes_,aG aD cy M11 a0.shapes_.next_]):=by
 refine bD Tryz.func19 J J ?_;simp only [aW];refine U ?_
 refine gB (aO J J) fun B15=> ?_
 refine U ?_;refine gR (ah (us:=au a1) 0 J J aH J) ?_;obtain ⟨y16,hy16,h⟩:=aa h;rcases y16 with y16_0|y16_1
 ·replace h:=Cn h;refine gV (aA (bP hy16) ir J (az [1,2,3] [4,5,6,7,8,9,10,11,12,13,14] [0,1,2,3] 15 J)) ?_;refine U ?_;obtain rfl:=am h;exact aL J J (cS [0,1,2,3,4,5,6,7,8,9,10] 15) ⟨J,J⟩
 replace h:=Cm h;refine gD (aA (bP hy16) ir J (az [1,2,3] [4,5,6,7,8,9,10,11,12,13,14] [0,1,2,3] 15 J)) ?_;rintro _ _ ⟨_,⟨B17,A18,n18,c18,A19,n19,c19,rfl,rfl⟩,rfl⟩;refine U ?_;refine gE (bE J J) ?_;refine U ?_;obtain rfl:=am h;exact aL J J (cS [3,4,5,6,7,8,9,10,11,12,13] 18) ⟨J,J⟩
def bi (N:Nat)(a0:Na)(a1:Int):Option Bool:=
 some (!decide (ai .i64 a0.Has a1=0))
theorem cw {N:Nat}{a0:Na}{a1:Int}{r:Bool}(h:bi N a0 a1=some r):Okc Tryz.prog 152 [(fm a0),iV a1] ([]) (fun u post=>u=.bool r∧post=[]):=by
 refine bD Tryz.func152 J J ?_;simp only [aW];refine U ?_
 refine gB (aO J J) fun B1=> ?_
 refine U ?_;refine gE (bE J J) ?_;refine U ?_;obtain rfl:=am h;exact aL J J (cS [] 1) ⟨J,J⟩
theorem bT {r:Bool}:∀(u:Value)(p:List Chunk),u=.bool r∧p=[]→∀c∈p,cM c:=by
 rintro _ _ ⟨rfl,rfl⟩;exact aj
def d5 (N:Nat)(p11:Int):Option Int:=
 some p11
def eG (N:Nat)(a0:Na)(p7:Int):Option Int:=
 (bi N a0 32).bind fun y12=>bif y12 then (d5 N (bf .i64 p7 4)) else (d5 N p7)
def eH (N:Nat)(a0:Na)(p3:Int):Option Int:=
 (bi N a0 16).bind fun y8=>bif y8 then (eG N a0 (bf .i64 p3 2)) else (eG N a0 p3)
def eN (N:Nat)(a0:Na):Option Int:=
 (bi N a0 2).bind fun y4=>bif y4 then (eH N a0 (bf .i64 0 1)) else (eH N a0 0)
theorem sL {N:Nat}{a0:Na}{r:Int}(h:eN N a0=some r):Okc Tryz.prog 153 [(fm a0)] ([]) (fun u post=>u=iV r∧post=[]):=by
 refine bD Tryz.func153 J J ?_;simp only [aW];refine U ?_
 refine gB (aO J J) fun B1=> ?_
 refine U ?_;refine ba (fun s L=> ∃p3,eH N a0 p3=some r∧s=[(1,pV B1 0),(2,iV 0),(3,iV p3)]∧L=[ac B1 32 (ca a0)]) ?_ ?_
 ·refine U ?_;refine gR (ah (us:=ca a0) 0 J J dT J) ?_;obtain ⟨y4,k,h⟩:=aa h;refine gV (ap (cw k) fY J (aj) bT) ?_;refine U ?_;refine gH J h (fun h=> ?_) (fun h=> ?_)
  ·refine U ?_;refine gE (kP J J) ?_;refine U ?_;exact ⟨_,_,⟨bf .i64 0 1,h,J,J⟩,sA,cS [0] 1⟩
  refine U ?_;exact ⟨_,_,⟨0,h,J,J⟩,sA,cS [0] 1⟩
 rintro _ _ ⟨p3,h,rfl,rfl⟩;refine ba (fun s L=> ∃p7,eG N a0 p7=some r∧s=[(1,pV B1 0),(2,iV 0),(3,iV p7)]∧L=[ac B1 32 (ca a0)]) ?_ ?_
 ·refine U ?_;refine gR (ah (us:=ca a0) 0 J J dT J) ?_;obtain ⟨y8,k,h⟩:=aa h;refine gV (ap (cw k) fY J (aj) bT) ?_;refine U ?_;refine gH J h (fun h=> ?_) (fun h=> ?_)
  ·refine U ?_;refine gE (kP J J) ?_;refine U ?_;exact ⟨_,_,⟨bf .i64 p3 2,h,J,J⟩,sA,cS [0] 1⟩
  refine U ?_;exact ⟨_,_,⟨p3,h,J,J⟩,sA,cS [0] 1⟩
 rintro _ _ ⟨p7,h,rfl,rfl⟩;refine ba (fun s L=> ∃p11,d5 N p11=some r∧s=[(2,iV 0),(3,iV p11)]∧L=[]) ?_ ?_
 ·refine U ?_;refine gR (ah (us:=ca a0) 0 J J dT J) ?_;obtain ⟨y12,k,h⟩:=aa h;refine gV (ap (cw k) fY J (aj) bT) ?_;refine U ?_;refine gH J h (fun h=> ?_) (fun h=> ?_)
  ·refine U ?_;refine gE (kP J J) ?_;refine U ?_;exact ⟨_,_,⟨bf .i64 p7 4,h,J,J⟩,sA,cS [] 1⟩
  refine U ?_;exact ⟨_,_,⟨p7,h,J,J⟩,sA,cS [] 1⟩
 rintro _ _ ⟨p11,h,rfl,rfl⟩;refine U ?_;obtain rfl:=am h;exact aL J J (cS [] 0) ⟨J,J⟩
theorem qE {r:Int}:∀(u:Value)(p:List Chunk),u=iV r∧p=[]→∀c∈p,cM c:=by
 rintro _ _ ⟨rfl,rfl⟩;exact aj
def d7 (N:Nat)(a1:MM)(p27:Int)(y29:(Int))(a2:Na)(p31:Int)(p32:Int)(p33:ByteArray)(p37:Int)(p38:Int)(p39:ByteArray)(p43:Int)(p44:Int)(p45:ByteArray):Option MX:=
 some (⟨a1,bf .i64 (aZ .i64 p27 y29) (ai .i64 a2.Attrs y29),(⟨p31,p32,p33⟩:MQ),(⟨p37,p38,p39⟩:MQ),(⟨p43,p44,p45⟩:MQ)⟩:MX)
def dh (N:Nat)(a2:Na)(a1:MM)(p27:Int)(y29:(Int))(p31:Int)(p32:Int)(p33:ByteArray)(p14:Int)(p15:Int)(p16:ByteArray)(p37:Int)(p38:Int)(p39:ByteArray):Option MX:=
 (bi N a2 8).bind fun y46=>bif y46 then (d7 N a1 p27 y29 a2 p31 p32 p33 p37 p38 p39 a2.Set.Kind a2.Set.N a2.Set.S) else (d7 N a1 p27 y29 a2 p31 p32 p33 p37 p38 p39 p14 p15 p16)
def di (N:Nat)(a2:Na)(a1:MM)(p27:Int)(y29:(Int))(p11:Int)(p12:Int)(p13:ByteArray)(p14:Int)(p15:Int)(p16:ByteArray)(p31:Int)(p32:Int)(p33:ByteArray):Option MX:=
 (bi N a2 4).bind fun y40=>bif y40 then (dh N a2 a1 p27 y29 p31 p32 p33 p14 p15 p16 a2.Get.Kind a2.Get.N a2.Get.S) else (dh N a2 a1 p27 y29 p31 p32 p33 p14 p15 p16 p11 p12 p13)
def dj (N:Nat)(a2:Na)(a1:MM)(p21:Int)(p22:Int)(p23:ByteArray)(p11:Int)(p12:Int)(p13:ByteArray)(p14:Int)(p15:Int)(p16:ByteArray)(p27:Int):Option MX:=
 (eN N a2).bind fun y29=>(bi N a2 1).bind fun y34=>bif y34 then (di N a2 a1 p27 y29 p11 p12 p13 p14 p15 p16 a2.Value.Kind a2.Value.N a2.Value.S) else (di N a2 a1 p27 y29 p11 p12 p13 p14 p15 p16 p21 p22 p23)
def d8 (N:Nat)(b6:Bool)(a0:MX)(a2:Na)(a1:MM)(p11:Int)(p12:Int)(p13:ByteArray)(p14:Int)(p15:Int)(p16:ByteArray)(p20:Int)(p21:Int)(p22:Int)(p23:ByteArray):Option MX:=
 bif b6 then (dj N a2 a1 p21 p22 p23 p11 p12 p13 p14 p15 p16 (bf .i64 (bf .i64 p20 (ai .i64 a0.Attrs 6)) 8)) else (dj N a2 a1 p21 p22 p23 p11 p12 p13 p14 p15 p16 (bf .i64 p20 (ai .i64 a0.Attrs 6)))
def dk (N:Nat)(a0:MX)(b6:Bool)(a2:Na)(a1:MM)(p11:Int)(p12:Int)(p13:ByteArray)(p14:Int)(p15:Int)(p16:ByteArray):Option MX:=
 (bif !b6 then (some (!(!decide (ai .i64 a0.Attrs 8=0)))) else (some false)).bind fun b24=>bif b24 then (d8 N b6 a0 a2 a1 p11 p12 p13 p14 p15 p16 (ai .i64 a0.Attrs 1) a0.Value.Kind a0.Value.N a0.Value.S) else (d8 N b6 a0 a2 a1 p11 p12 p13 p14 p15 p16 0 0 0 (⟨#[]⟩))
def cA (N:Nat)(a0:MX)(a1:MM)(a2:Na):Option MX:=
 (bi N a2 12).bind fun y5=>(bif y5 then (some true) else ((bif !decide (ai .i64 a0.Attrs 8=0) then ((bi N a2 3).bind fun y8=>some (!y8)) else (some false)).bind fun b7=>some b7)).bind fun b6=>(bif b6 then (some (!decide (ai .i64 a0.Attrs 8=0))) else (some false)).bind fun b17=>bif b17 then (dk N a0 b6 a2 a1 a0.Get.Kind a0.Get.N a0.Get.S a0.Set.Kind a0.Set.N a0.Set.S) else (dk N a0 b6 a2 a1 0 0 (⟨#[]⟩) 0 0 (⟨#[]⟩))
set_option maxHeartbeats 4000000 in
theorem rA {N:Nat}{a0:MX}{a1:MM}{a2:Na}{r:MX}(h:cA N a0 a1 a2=some r):Okc Tryz.prog 172 [(bJ a0),(fT a1),(fm a2)] ([]) (fun u post=>u=(bJ r)∧post=[]):=by
 refine bD Tryz.func172 J J ?_;simp only [aW];refine U ?_
 refine gB (aO J J) fun B1=> ?_
 refine gB (aO J J) fun B2=> ?_
 refine gB (aO J J) fun B3=> ?_
 refine gB (aM dB J) fun B4=> ?_
 refine U ?_;refine gE (bE J J) ?_;refine U ?_;refine gR (ah (us:=ca a2) 1 J J dT J) ?_;obtain ⟨y5,k,h⟩:=aa h;refine gV (ap (cw k) fY J (aj) bT) ?_;refine U ?_;obtain ⟨b6,hb6,h⟩:=aa h;refine aK 7 24 b6 ?_ ?_
 ·clear h;refine aI 17 J (fun g6=> ?_) (fun g6=> ?_)
  ·have h:=aE g6 hb6;refine U ?_;obtain rfl:=am h;exact ad sA (cS [0,1,2,3] 4)
  have h:=aF g6 hb6;refine U ?_;obtain ⟨b7,hb7,h⟩:=aa h;refine aK 4 23 b7 ?_ ?_
  ·clear h;refine aI 19 J (fun g7=> ?_) (fun g7=> ?_)
   ·have h:=aE g7 hb7;refine cp (ah (us:=ca a2) 1 J J dT J) J (bp g7 J) J ?_;obtain ⟨y8,k,h⟩:=aa h;refine gU (ap (cw k) fY J (aj) bT) (bp g7 J) ?_;refine U ?_;obtain rfl:=am h;exact ad sA (cS [0,1,2,3] 4)
   have h:=aF g7 hb7;refine U ?_;obtain rfl:=am h;exact ad sA (cS [0,1,2,3] 4)
  refine U ?_;obtain rfl:=am h;exact ad sA (cS [0,1,2,3] 4)
 refine U ?_;refine gR (ah (us:=bS a1) 2 J J bF J) ?_;refine gE (bd J (GM _ _ _)) ?_
 refine gB (aM dB J) fun B9=> ?_
 refine gW (ar (us:=[iV a1.Kind,iV a1.N,.string a1.S,iV 0,iV 0,iV 0,.string (⟨#[]⟩),iV 0,iV 0,.string (⟨#[]⟩),iV 0,iV 0,.string (⟨#[]⟩)]) (cs':=[iV a1.Kind,iV a1.N,.string a1.S,iV 0,iV 0,iV 0,.string (⟨#[]⟩),iV 0,iV 0,.string (⟨#[]⟩),iV 0,iV 0,.string (⟨#[]⟩)]) 0 J J J J cm J J J) ?_;refine U ?_;refine ba (fun s L=> ∃p11 p12 p13 p14 p15 p16,dk N a0 b6 a2 a1 p11 p12 p13 p14 p15 p16=some r∧s=[(3,pV B1 0),(5,pV B3 0),(6,pV B4 0),(7,.bool (!decide (ai .i64 a0.Attrs 8=0))),(8,.bool b6),(9,pV B9 0)]∧L=[ac B1 42 (aR a0),ac B3 32 (ca a2),ac B4 42 [iV 0,iV 0,.string (⟨#[]⟩),iV 0,iV 0,iV 0,.string (⟨#[]⟩),iV 0,iV 0,.string (⟨#[]⟩),iV 0,iV 0,.string (⟨#[]⟩)],ac B9 42 [iV a1.Kind,iV a1.N,.string a1.S,iV 0,iV 0,iV 0,.string (⟨#[]⟩),iV p11,iV p12,.string p13,iV p14,iV p15,.string p16]]) ?_ ?_
 ·refine U ?_;obtain ⟨b17,hb17,h⟩:=aa h;refine aK 2 30 b17 ?_ ?_
  ·clear h;refine aI 28 J (fun g17=> ?_) (fun g17=> ?_)
   ·have h:=aE g17 hb17;refine U ?_;obtain rfl:=am h;exact ad sA (cS [0,1,2,3,4] 5)
   have h:=aF g17 hb17;refine U ?_;obtain rfl:=am h;exact ad sA (cS [0,1,2,3,4] 5)
  refine U ?_;refine gH J h (fun h=> ?_) (fun h=> ?_)
  ·refine bK V ([ac B4 42 [iV 0,iV 0,.string (⟨#[]⟩),iV 0,iV 0,iV 0,.string (⟨#[]⟩),iV 0,iV 0,.string (⟨#[]⟩),iV 0,iV 0,.string (⟨#[]⟩)],ac B3 32 (ca a2),ac B2 24 (bS a1),ac B1 42 (aR a0)]) (cS [1,2,3,4] 5) ?_;refine zE 0 J (ci J wl) ?_;refine zR 1 J (ah (us:=au a0.Get) 3 J J aH J) ?_;refine zE 2 J (ci J wk) ?_;refine zR 3 J (ah (us:=au a0.Set) 3 J J aH J) ?_;refine zE 4 J (ci J wl) ?_;refine zO 5 J (ar (us:=au a0.Get) (cs':=[iV a1.Kind,iV a1.N,.string a1.S,iV 0,iV 0,iV 0,.string (⟨#[]⟩),iV a0.Get.Kind,iV a0.Get.N,.string a0.Get.S,iV 0,iV 0,.string (⟨#[]⟩)]) 0 J J J J bv J J J) ?_;rintro _ _ rfl;refine eg (cS [1,2,3,4] 5) ?_;refine zE 6 J (ci J wk) ?_;refine zO 7 J (ar (us:=au a0.Set) (cs':=[iV a1.Kind,iV a1.N,.string a1.S,iV 0,iV 0,iV 0,.string (⟨#[]⟩),iV a0.Get.Kind,iV a0.Get.N,.string a0.Get.S,iV a0.Set.Kind,iV a0.Set.N,.string a0.Set.S]) 0 J J J J bv J J J) ?_;rintro _ _ rfl;refine eg (cS [1,2,3,4] 5) ?_;refine bC V ?_;refine fa ?_;exact ⟨_,_,⟨a0.Get.Kind,a0.Get.N,a0.Get.S,a0.Set.Kind,a0.Set.N,a0.Set.S,h,J,J⟩,sA,cS [4,2,1,0] 5⟩
  refine U ?_;exact ⟨_,_,⟨0,0,⟨#[]⟩,0,0,⟨#[]⟩,h,J,J⟩,sA,cS [4,2,1,0] 5⟩
 rintro _ _ ⟨p11,p12,p13,p14,p15,p16,h,rfl,rfl⟩;refine ba (fun s L=> ∃p20 p21 p22 p23,d8 N b6 a0 a2 a1 p11 p12 p13 p14 p15 p16 p20 p21 p22 p23=some r∧s=[(3,pV B1 0),(5,pV B3 0),(6,pV B4 0),(8,.bool b6),(9,pV B9 0)]∧L=[ac B1 42 (aR a0),ac B3 32 (ca a2),ac B4 42 [iV 0,iV 0,.string (⟨#[]⟩),iV 0,iV 0,iV 0,.string (⟨#[]⟩),iV 0,iV 0,.string (⟨#[]⟩),iV 0,iV 0,.string (⟨#[]⟩)],ac B9 42 [iV a1.Kind,iV a1.N,.string a1.S,iV p20,iV p21,iV p22,.string p23,iV p11,iV p12,.string p13,iV p14,iV p15,.string p16]]) ?_ ?_
 ·refine U ?_;obtain ⟨b24,hb24,h⟩:=aa h;refine aK 3 42 b24 ?_ ?_
  ·clear h;refine aI 39 J (fun g24=> ?_) (fun g24=> ?_)
   ·have h:=aE g24 hb24;refine U ?_;obtain rfl:=am h;exact ad sA (cS [0,1,2,3] 4)
   have h:=aF g24 hb24;refine U ?_;obtain rfl:=am h;exact ad sA (cS [0,1,2,3] 4)
  refine U ?_;refine gH J h (fun h=> ?_) (fun h=> ?_)
  ·refine U ?_;refine gR (ah (us:=au a0.Value) 0 J J aH J) ?_;refine U ?_;refine gW (ar (us:=au a0.Value) (cs':=[iV a1.Kind,iV a1.N,.string a1.S,iV 0,iV a0.Value.Kind,iV a0.Value.N,.string a0.Value.S,iV p11,iV p12,.string p13,iV p14,iV p15,.string p16]) 3 J J J J bv J J J) ?_;refine U ?_;refine gE (bE J J) ?_;refine U ?_;refine gW (ar (us:=[iV (ai .i64 a0.Attrs 1)]) (cs':=[iV a1.Kind,iV a1.N,.string a1.S,iV (ai .i64 a0.Attrs 1),iV a0.Value.Kind,iV a0.Value.N,.string a0.Value.S,iV p11,iV p12,.string p13,iV p14,iV p15,.string p16]) 3 J J J J iM J J J) ?_;refine bM ?_;refine U ?_;exact ⟨_,_,⟨ai .i64 a0.Attrs 1,a0.Value.Kind,a0.Value.N,a0.Value.S,h,J,J⟩,sA,cS [0,1,2,3] 4⟩
  refine U ?_;exact ⟨_,_,⟨0,0,0,⟨#[]⟩,h,J,J⟩,sA,cS [0,1,2,3] 4⟩
 rintro _ _ ⟨p20,p21,p22,p23,h,rfl,rfl⟩;refine U ?_;refine gE (bE J J) ?_;refine gE (kP J J) ?_;refine U ?_;refine gW (ar (us:=[iV (bf .i64 p20 (ai .i64 a0.Attrs 6))]) (cs':=[iV a1.Kind,iV a1.N,.string a1.S,iV (bf .i64 p20 (ai .i64 a0.Attrs 6)),iV p21,iV p22,.string p23,iV p11,iV p12,.string p13,iV p14,iV p15,.string p16]) 3 J J J J iM J J J) ?_;refine U ?_;refine ba (fun s L=> ∃p27,dj N a2 a1 p21 p22 p23 p11 p12 p13 p14 p15 p16 p27=some r∧s=[(5,pV B3 0),(6,pV B4 0),(9,pV B9 0)]∧L=[ac B3 32 (ca a2),ac B4 42 [iV 0,iV 0,.string (⟨#[]⟩),iV 0,iV 0,iV 0,.string (⟨#[]⟩),iV 0,iV 0,.string (⟨#[]⟩),iV 0,iV 0,.string (⟨#[]⟩)],ac B9 42 [iV a1.Kind,iV a1.N,.string a1.S,iV p27,iV p21,iV p22,.string p23,iV p11,iV p12,.string p13,iV p14,iV p15,.string p16]]) ?_ ?_
 ·refine U ?_;refine gH J h (fun h=> ?_) (fun h=> ?_)
  ·refine U ?_;refine gE (kP J J) ?_;refine U ?_;refine gW (ar (us:=[iV (bf .i64 (bf .i64 p20 (ai .i64 a0.Attrs 6)) 8)]) (cs':=[iV a1.Kind,iV a1.N,.string a1.S,iV (bf .i64 (bf .i64 p20 (ai .i64 a0.Attrs 6)) 8),iV p21,iV p22,.string p23,iV p11,iV p12,.string p13,iV p14,iV p15,.string p16]) 3 J J J J iM J J J) ?_;refine U ?_;exact ⟨_,_,⟨bf .i64 (bf .i64 p20 (ai .i64 a0.Attrs 6)) 8,h,J,J⟩,sA,cS [1,2,3] 4⟩
  refine U ?_;exact ⟨_,_,⟨bf .i64 p20 (ai .i64 a0.Attrs 6),h,J,J⟩,sA,cS [1,2,3] 4⟩
 rintro _ _ ⟨p27,h,rfl,rfl⟩;refine U ?_;refine gR (ah (us:=ca a2) 0 J J dT J) ?_;obtain ⟨y29,k,h⟩:=aa h;refine gV (ap (sL k) DU J (aj) qE) ?_;refine U ?_;refine gE (mR J J) ?_;refine U ?_;refine gE (bE J J) ?_;refine gE (kP J J) ?_;refine U ?_;refine gW (ar (us:=[iV (bf .i64 (aZ .i64 p27 y29) (ai .i64 a2.Attrs y29))]) (cs':=[iV a1.Kind,iV a1.N,.string a1.S,iV (bf .i64 (aZ .i64 p27 y29) (ai .i64 a2.Attrs y29)),iV p21,iV p22,.string p23,iV p11,iV p12,.string p13,iV p14,iV p15,.string p16]) 2 J J J J iM J J J) ?_;refine bM ?_;refine U ?_;refine ba (fun s L=> ∃p31 p32 p33,di N a2 a1 p27 y29 p11 p12 p13 p14 p15 p16 p31 p32 p33=some r∧s=[(5,pV B3 0),(6,pV B4 0),(9,pV B9 0)]∧L=[ac B3 32 (ca a2),ac B4 42 [iV 0,iV 0,.string (⟨#[]⟩),iV 0,iV 0,iV 0,.string (⟨#[]⟩),iV 0,iV 0,.string (⟨#[]⟩),iV 0,iV 0,.string (⟨#[]⟩)],ac B9 42 [iV a1.Kind,iV a1.N,.string a1.S,iV (bf .i64 (aZ .i64 p27 y29) (ai .i64 a2.Attrs y29)),iV p31,iV p32,.string p33,iV p11,iV p12,.string p13,iV p14,iV p15,.string p16]]) ?_ ?_
 ·refine U ?_;refine gR (ah (us:=ca a2) 0 J J dT J) ?_;obtain ⟨y34,k,h⟩:=aa h;refine gV (ap (cw k) fY J (aj) bT) ?_;refine U ?_;refine gH J h (fun h=> ?_) (fun h=> ?_)
  ·refine U ?_;refine gR (ah (us:=au a2.Value) 0 J J aH J) ?_;refine U ?_;refine gW (ar (us:=au a2.Value) (cs':=[iV a1.Kind,iV a1.N,.string a1.S,iV (bf .i64 (aZ .i64 p27 y29) (ai .i64 a2.Attrs y29)),iV a2.Value.Kind,iV a2.Value.N,.string a2.Value.S,iV p11,iV p12,.string p13,iV p14,iV p15,.string p16]) 2 J J J J bv J J J) ?_;refine U ?_;exact ⟨_,_,⟨a2.Value.Kind,a2.Value.N,a2.Value.S,h,J,J⟩,sA,cS [0,1,2] 3⟩
  refine U ?_;exact ⟨_,_,⟨p21,p22,p23,h,J,J⟩,sA,cS [0,1,2] 3⟩
 rintro _ _ ⟨p31,p32,p33,h,rfl,rfl⟩;refine ba (fun s L=> ∃p37 p38 p39,dh N a2 a1 p27 y29 p31 p32 p33 p14 p15 p16 p37 p38 p39=some r∧s=[(5,pV B3 0),(6,pV B4 0),(9,pV B9 0)]∧L=[ac B3 32 (ca a2),ac B4 42 [iV 0,iV 0,.string (⟨#[]⟩),iV 0,iV 0,iV 0,.string (⟨#[]⟩),iV 0,iV 0,.string (⟨#[]⟩),iV 0,iV 0,.string (⟨#[]⟩)],ac B9 42 [iV a1.Kind,iV a1.N,.string a1.S,iV (bf .i64 (aZ .i64 p27 y29) (ai .i64 a2.Attrs y29)),iV p31,iV p32,.string p33,iV p37,iV p38,.string p39,iV p14,iV p15,.string p16]]) ?_ ?_
 ·refine U ?_;refine gR (ah (us:=ca a2) 0 J J dT J) ?_;obtain ⟨y40,k,h⟩:=aa h;refine gV (ap (cw k) fY J (aj) bT) ?_;refine U ?_;refine gH J h (fun h=> ?_) (fun h=> ?_)
  ·refine U ?_;refine gR (ah (us:=au a2.Get) 0 J J aH J) ?_;refine U ?_;refine gW (ar (us:=au a2.Get) (cs':=[iV a1.Kind,iV a1.N,.string a1.S,iV (bf .i64 (aZ .i64 p27 y29) (ai .i64 a2.Attrs y29)),iV p31,iV p32,.string p33,iV a2.Get.Kind,iV a2.Get.N,.string a2.Get.S,iV p14,iV p15,.string p16]) 2 J J J J bv J J J) ?_;refine U ?_;exact ⟨_,_,⟨a2.Get.Kind,a2.Get.N,a2.Get.S,h,J,J⟩,sA,cS [0,1,2] 3⟩
  refine U ?_;exact ⟨_,_,⟨p11,p12,p13,h,J,J⟩,sA,cS [0,1,2] 3⟩
 rintro _ _ ⟨p37,p38,p39,h,rfl,rfl⟩;refine ba (fun s L=> ∃p43 p44 p45,d7 N a1 p27 y29 a2 p31 p32 p33 p37 p38 p39 p43 p44 p45=some r∧s=[(6,pV B4 0),(9,pV B9 0)]∧L=[ac B4 42 [iV 0,iV 0,.string (⟨#[]⟩),iV 0,iV 0,iV 0,.string (⟨#[]⟩),iV 0,iV 0,.string (⟨#[]⟩),iV 0,iV 0,.string (⟨#[]⟩)],ac B9 42 [iV a1.Kind,iV a1.N,.string a1.S,iV (bf .i64 (aZ .i64 p27 y29) (ai .i64 a2.Attrs y29)),iV p31,iV p32,.string p33,iV p37,iV p38,.string p39,iV p43,iV p44,.string p45]]) ?_ ?_
 ·refine U ?_;refine gR (ah (us:=ca a2) 0 J J dT J) ?_;obtain ⟨y46,k,h⟩:=aa h;refine gV (ap (cw k) fY J (aj) bT) ?_;refine U ?_;refine gH J h (fun h=> ?_) (fun h=> ?_)
  ·refine U ?_;refine gR (ah (us:=au a2.Set) 0 J J aH J) ?_;refine U ?_;refine gW (ar (us:=au a2.Set) (cs':=[iV a1.Kind,iV a1.N,.string a1.S,iV (bf .i64 (aZ .i64 p27 y29) (ai .i64 a2.Attrs y29)),iV p31,iV p32,.string p33,iV p37,iV p38,.string p39,iV a2.Set.Kind,iV a2.Set.N,.string a2.Set.S]) 2 J J J J bv J J J) ?_;refine bM ?_;refine U ?_;exact ⟨_,_,⟨a2.Set.Kind,a2.Set.N,a2.Set.S,h,J,J⟩,sA,cS [1,2] 3⟩
  refine U ?_;exact ⟨_,_,⟨p14,p15,p16,h,J,J⟩,sA,cS [1,2] 3⟩
 rintro _ _ ⟨p43,p44,p45,h,rfl,rfl⟩;refine U ?_;refine gR (ah (us:=[iV a1.Kind,iV a1.N,.string a1.S,iV (bf .i64 (aZ .i64 p27 y29) (ai .i64 a2.Attrs y29)),iV p31,iV p32,.string p33,iV p37,iV p38,.string p39,iV p43,iV p44,.string p45]) 1 J J dA J) ?_;refine gW (ar (us:=[iV a1.Kind,iV a1.N,.string a1.S,iV (bf .i64 (aZ .i64 p27 y29) (ai .i64 a2.Attrs y29)),iV p31,iV p32,.string p33,iV p37,iV p38,.string p39,iV p43,iV p44,.string p45]) (cs':=[iV a1.Kind,iV a1.N,.string a1.S,iV (bf .i64 (aZ .i64 p27 y29) (ai .i64 a2.Attrs y29)),iV p31,iV p32,.string p33,iV p37,iV p38,.string p39,iV p43,iV p44,.string p45]) 0 J J J J cm J J J) ?_;refine U ?_;obtain rfl:=am h;exact cD (rs:=[.cell 6 42]) (vs:=[.agg #[iV a1.Kind,iV a1.N,.string a1.S,iV (bf .i64 (aZ .i64 p27 y29) (ai .i64 a2.Attrs y29)),iV p31,iV p32,.string p33,iV p37,iV p38,.string p39,iV p43,iV p44,.string p45]]) J (.cons (bG 0 J J dA) .nil) J (cS [] 2) ⟨J,J⟩
theorem pO {r:MX}:∀(u:Value)(p:List Chunk),u=(bJ r)∧p=[]→∀c∈p,cM c:=by
 rintro _ _ ⟨rfl,rfl⟩;exact aj
def nl (N:Nat)(a0:Na)(a1:MM):Option MX:=
 (cA N (⟨(⟨0,0,⟨#[]⟩⟩:MM),0,(⟨0,0,⟨#[]⟩⟩:MQ),(⟨0,0,⟨#[]⟩⟩:MQ),(⟨0,0,⟨#[]⟩⟩:MQ)⟩:MX) a1 a0).bind fun y4=>some y4
theorem Ao {N:Nat}{a0:Na}{a1:MM}{r:MX}(h:nl N a0 a1=some r):Okc Tryz.prog 170 [(fm a0),(fT a1)] ([]) (fun u post=>u=(bJ r)∧post=[]):=by
 refine bD Tryz.func170 J J ?_;simp only [aW];refine U ?_
 refine gB (aO J J) fun B1=> ?_
 refine gB (aO J J) fun B2=> ?_
 refine gB (aM dB J) fun B3=> ?_
 refine U ?_;refine gE (bd J (si)) ?_;refine gR (ah (us:=bS a1) 1 J J bF J) ?_;refine gR (ah (us:=ca a0) 2 J J dT J) ?_;obtain ⟨y4,k,h⟩:=aa h;refine gV (ap (rA k) DN J (aj) pO) ?_;refine gW (ar (us:=aR y4) (cs':=aR y4) 0 J J J J cm J J J) ?_;refine U ?_;obtain rfl:=am h;exact cD (rs:=[.cell 4 42]) (vs:=[(bJ y4)]) J (.cons (bG 0 J J dA) .nil) J (cS [] 3) ⟨J,J⟩
theorem xH {r:MX}:∀(u:Value)(p:List Chunk),u=(bJ r)∧p=[]→∀c∈p,cM c:=by
 rintro _ _ ⟨rfl,rfl⟩;exact aj
def jw (N:Nat)(a0:MQ)(a1:MQ):Option Bool:=
 some (decide (a0=a1))
theorem px {N:Nat}{a0:MQ}{a1:MQ}{r:Bool}(h:jw N a0 a1=some r):Okc Tryz.prog 214 [(bz a0),(bz a1)] ([]) (fun u post=>u=.bool r∧post=[]):=by
 refine bD Tryz.func214 J J ?_;simp only [aW];refine U ?_
 refine gB (aO J J) fun B1=> ?_
 refine gB (aO J J) fun B2=> ?_
 refine U ?_;refine gR (ah (us:=au a0) 1 J J aH J) ?_;refine gR (ah (us:=au a1) 0 J J aH J) ?_;refine gE (mi (x:=a0) (y:=a1) J J) ?_;refine U ?_;obtain rfl:=am h;exact aL J J (cS [] 2) ⟨J,J⟩
theorem nz {r:Bool}:∀(u:Value)(p:List Chunk),u=.bool r∧p=[]→∀c∈p,cM c:=by
 rintro _ _ ⟨rfl,rfl⟩;exact aj
def eB (N:Nat)(a0:MX)(a1:Na):Option Bool:=
 (bi N a1 32).bind fun y3=>(bif y3 then (some (!decide (ai .i64 a1.Attrs 4=0))) else (some false)).bind fun b4=>(bif b4 then (some true) else ((bi N a1 16).bind fun y6=>(bif y6 then (some (!decide (ai .i64 (D4 .i64 a1.Attrs a0.Attrs) 2=0))) else (some false)).bind fun b7=>some b7)).bind fun b5=>bif b5 then (some true) else (bif !decide (ai .i64 a0.Attrs 8=0) then ((bi N a1 3).bind fun y10=>(bif y10 then (some true) else ((bi N a1 4).bind fun y12=>(bif y12 then ((jw N a1.Get a0.Get).bind fun y14=>some (!y14)) else (some false)).bind fun b13=>some b13)).bind fun b11=>(bif b11 then (some true) else ((bi N a1 8).bind fun y16=>(bif y16 then ((jw N a1.Set a0.Set).bind fun y18=>some (!y18)) else (some false)).bind fun b17=>some b17)).bind fun b15=>some b15) else ((bi N a1 12).bind fun y19=>bif y19 then (some true) else ((bif decide (ai .i64 a0.Attrs 1=0) then ((bi N a1 2).bind fun y22=>(bif y22 then (some (!decide (ai .i64 a1.Attrs 1=0))) else (some false)).bind fun b23=>(bif b23 then (some true) else ((bi N a1 1).bind fun y25=>(bif y25 then ((jw N a1.Value a0.Value).bind fun y27=>some (!y27)) else (some false)).bind fun b26=>some b26)).bind fun b24=>some b24) else (some false)).bind fun b21=>some b21)))
set_option maxHeartbeats 4000000 in
theorem An {N:Nat}{a0:MX}{a1:Na}{r:Bool}(h:eB N a0 a1=some r):Okc Tryz.prog 171 [(bJ a0),(fm a1)] ([]) (fun u post=>u=.bool r∧post=[]):=by
 refine bD Tryz.func171 J J ?_;simp only [aW];refine U ?_
 refine gB (aO J J) fun B1=> ?_
 refine gB (aO J J) fun B2=> ?_
 refine U ?_;refine aB ?_;refine U ?_;refine gR (ah (us:=ca a1) 0 J J dT J) ?_;obtain ⟨y3,k,h⟩:=aa h;refine gV (ap (cw k) fY J (aj) bT) ?_;refine U ?_;obtain ⟨b4,hb4,h⟩:=aa h;refine aK 5 12 b4 ?_ ?_
 ·clear h;refine aI 7 J (fun g4=> ?_) (fun g4=> ?_)
  ·have h:=aE g4 hb4;refine U ?_;refine fb (bE J J) J (bp g4 J) J ?_;refine U ?_;obtain rfl:=am h;exact ad sA (cS [0,1] 2)
  have h:=aF g4 hb4;refine U ?_;obtain rfl:=am h;exact ad sA (cS [0,1] 2)
 refine U ?_;obtain ⟨b5,hb5,h⟩:=aa h;refine aK 12 25 b5 ?_ ?_
 ·clear h;refine aI 13 J (fun g5=> ?_) (fun g5=> ?_)
  ·have h:=aE g5 hb5;refine U ?_;obtain rfl:=am h;exact ad sA (cS [0,1] 2)
  have h:=aF g5 hb5;refine cp (ah (us:=ca a1) 0 J J dT J) J (cX g5 J) J ?_;obtain ⟨y6,k,h⟩:=aa h;refine gU (ap (cw k) fY J (aj) bT) (cX g5 J) ?_;refine U ?_;obtain ⟨b7,hb7,h⟩:=aa h;refine aK 8 24 b7 ?_ ?_
  ·clear h;refine aI 16 J (fun g7=> ?_) (fun g7=> ?_)
   ·have h:=aE g7 hb7;refine U ?_;refine fb (CO J J) J (bp g7 J) J ?_;refine fb (bE J J) J (bp g7 J) J ?_;refine U ?_;obtain rfl:=am h;exact ad sA (cS [0,1] 2)
   have h:=aF g7 hb7;refine U ?_;obtain rfl:=am h;exact ad sA (cS [0,1] 2)
  refine U ?_;obtain rfl:=am h;exact ad sA (cS [0,1] 2)
 refine U ?_;refine gH J h (fun h=> ?_) (fun h=> ?_)
 ·refine U ?_;obtain rfl:=am h;exact aL J J (cS [] 2) ⟨J,J⟩
 refine U ?_;refine aB ?_;refine U ?_;refine gE (bE J J) ?_;refine U ?_;refine gH J h (fun h=> ?_) (fun h=> ?_)
 ·refine U ?_;refine gR (ah (us:=ca a1) 0 J J dT J) ?_;obtain ⟨y10,k,h⟩:=aa h;refine gV (ap (cw k) fY J (aj) bT) ?_;refine U ?_;obtain ⟨b11,hb11,h⟩:=aa h;refine aK 11 43 b11 ?_ ?_
  ·clear h;refine aI 32 J (fun g11=> ?_) (fun g11=> ?_)
   ·have h:=aE g11 hb11;refine U ?_;obtain rfl:=am h;exact ad sA (cS [0,1] 2)
   have h:=aF g11 hb11;refine cp (ah (us:=ca a1) 0 J J dT J) J (cX g11 J) J ?_;obtain ⟨y12,k,h⟩:=aa h;refine gU (ap (cw k) fY J (aj) bT) (cX g11 J) ?_;refine U ?_;obtain ⟨b13,hb13,h⟩:=aa h;refine aK 7 42 b13 ?_ ?_
   ·clear h;refine aI 35 J (fun g13=> ?_) (fun g13=> ?_)
    ·have h:=aE g13 hb13;refine U ?_;refine cp (ah (us:=au a1.Get) 0 J J aH J) J (bp g13 J) J ?_;refine U ?_;refine cp (ah (us:=au a0.Get) 1 J J aH J) J (bp g13 J) J ?_;obtain ⟨y14,k,h⟩:=aa h;refine gU (ap (px k) AC J (aj) nz) (bp g13 J) ?_;refine U ?_;obtain rfl:=am h;exact ad sA (cS [0,1] 2)
    have h:=aF g13 hb13;refine U ?_;obtain rfl:=am h;exact ad sA (cS [0,1] 2)
   refine U ?_;obtain rfl:=am h;exact ad sA (cS [0,1] 2)
  refine U ?_;obtain ⟨b15,hb15,h⟩:=aa h;refine aK 11 55 b15 ?_ ?_
  ·clear h;refine aI 44 J (fun g15=> ?_) (fun g15=> ?_)
   ·have h:=aE g15 hb15;refine U ?_;obtain rfl:=am h;exact ad sA (cS [0,1] 2)
   have h:=aF g15 hb15;refine cp (ah (us:=ca a1) 0 J J dT J) J (cX g15 J) J ?_;obtain ⟨y16,k,h⟩:=aa h;refine gU (ap (cw k) fY J (aj) bT) (cX g15 J) ?_;refine U ?_;obtain ⟨b17,hb17,h⟩:=aa h;refine aK 7 54 b17 ?_ ?_
   ·clear h;refine aI 47 J (fun g17=> ?_) (fun g17=> ?_)
    ·have h:=aE g17 hb17;refine U ?_;refine cp (ah (us:=au a1.Set) 0 J J aH J) J (bp g17 J) J ?_;refine U ?_;refine cp (ah (us:=au a0.Set) 1 J J aH J) J (bp g17 J) J ?_;obtain ⟨y18,k,h⟩:=aa h;refine gU (ap (px k) AC J (aj) nz) (bp g17 J) ?_;refine U ?_;obtain rfl:=am h;exact ad sA (cS [0,1] 2)
    have h:=aF g17 hb17;refine U ?_;obtain rfl:=am h;exact ad sA (cS [0,1] 2)
   refine U ?_;obtain rfl:=am h;exact ad sA (cS [0,1] 2)
  refine U ?_;obtain rfl:=am h;exact aL J J (cS [] 2) ⟨J,J⟩
 refine U ?_;refine aB ?_;refine U ?_;refine gR (ah (us:=ca a1) 0 J J dT J) ?_;obtain ⟨y19,k,h⟩:=aa h;refine gV (ap (cw k) fY J (aj) bT) ?_;refine U ?_;refine gH J h (fun h=> ?_) (fun h=> ?_)
 ·refine U ?_;obtain rfl:=am h;exact aL J J (cS [] 2) ⟨J,J⟩
 refine U ?_;refine gE (bE J J) ?_;refine U ?_;obtain ⟨b21,hb21,h⟩:=aa h;refine aK 21 83 b21 ?_ ?_
 ·clear h;refine aI 62 J (fun g21=> ?_) (fun g21=> ?_)
  ·have h:=aE g21 hb21;refine cp (ah (us:=ca a1) 0 J J dT J) J (bp g21 J) J ?_;obtain ⟨y22,k,h⟩:=aa h;refine gU (ap (cw k) fY J (aj) bT) (bp g21 J) ?_;refine U ?_;obtain ⟨b23,hb23,h⟩:=aa h;refine aK 5 70 b23 ?_ ?_
   ·clear h;refine aI 65 J (fun g23=> ?_) (fun g23=> ?_)
    ·have h:=aE g23 hb23;refine U ?_;refine fb (bE J J) J (bp g23 J) J ?_;refine U ?_;obtain rfl:=am h;exact ad sA (cS [0,1] 2)
    have h:=aF g23 hb23;refine U ?_;obtain rfl:=am h;exact ad sA (cS [0,1] 2)
   refine U ?_;obtain ⟨b24,hb24,h⟩:=aa h;refine aK 11 82 b24 ?_ ?_
   ·clear h;refine aI 71 J (fun g24=> ?_) (fun g24=> ?_)
    ·have h:=aE g24 hb24;refine U ?_;obtain rfl:=am h;exact ad sA (cS [0,1] 2)
    have h:=aF g24 hb24;refine cp (ah (us:=ca a1) 0 J J dT J) J (cX g24 J) J ?_;obtain ⟨y25,k,h⟩:=aa h;refine gU (ap (cw k) fY J (aj) bT) (cX g24 J) ?_;refine U ?_;obtain ⟨b26,hb26,h⟩:=aa h;refine aK 7 81 b26 ?_ ?_
    ·clear h;refine aI 74 J (fun g26=> ?_) (fun g26=> ?_)
     ·have h:=aE g26 hb26;refine U ?_;refine cp (ah (us:=au a1.Value) 0 J J aH J) J (bp g26 J) J ?_;refine U ?_;refine cp (ah (us:=au a0.Value) 1 J J aH J) J (bp g26 J) J ?_;obtain ⟨y27,k,h⟩:=aa h;refine gU (ap (px k) AC J (aj) nz) (bp g26 J) ?_;refine U ?_;obtain rfl:=am h;exact ad sA (cS [0,1] 2)
     have h:=aF g26 hb26;refine U ?_;obtain rfl:=am h;exact ad sA (cS [0,1] 2)
    refine U ?_;obtain rfl:=am h;exact ad sA (cS [0,1] 2)
   refine U ?_;obtain rfl:=am h;exact ad sA (cS [0,1] 2)
  have h:=aF g21 hb21;refine U ?_;obtain rfl:=am h;exact ad sA (cS [0,1] 2)
 refine U ?_;obtain rfl:=am h;exact aL J J (cS [] 2) ⟨J,J⟩
theorem xF {r:Bool}:∀(u:Value)(p:List Chunk),u=.bool r∧p=[]→∀c∈p,cM c:=by
 rintro _ _ ⟨rfl,rfl⟩;exact aj
end Go.Proofs.YtanojiedimeegaaGreatDoor
namespace Go.Proofs.YtanojiedimeegaaGreatDoor
variable {A1 A10 A12 A13 A14 A15 A16 A17 A2 A3 A4 A5 A6 A7 A8 A9:Option Addr} {B1 B10 B12 B2 B4 B5 B7 B9 M11 M14 M3 M8 c1 c10 c12 c13 c14 c15 c16 c17 c2 c3 c4 c5 c6 c7 c8 c9 n1 n10 n12 n13 n14 n15 n16 n17 n2 n3 n4 n5 n6 n7 n8 n9:Nat}
open Go.RowKit Asn
set_option maxRecDepth 20000
def br (N:Nat)(a0:MX)(a1:Bool)(a2:Bool)(a3:MM)(a4:Na):Option (MX×Bool):=
 bif !a1 then (bif !a2 then (some ((⟨(⟨0,0,⟨#[]⟩⟩:MM),0,(⟨0,0,⟨#[]⟩⟩:MQ),(⟨0,0,⟨#[]⟩⟩:MQ),(⟨0,0,⟨#[]⟩⟩:MQ)⟩:MX),false)) else ((nl N a4 a3).bind fun y7=>some (y7,true))) else ((bif decide (ai .i64 a0.Attrs 4=0) then ((eB N a0 a4).bind fun y9=>some y9) else (some false)).bind fun b8=>bif b8 then (some ((⟨(⟨0,0,⟨#[]⟩⟩:MM),0,(⟨0,0,⟨#[]⟩⟩:MQ),(⟨0,0,⟨#[]⟩⟩:MQ),(⟨0,0,⟨#[]⟩⟩:MQ)⟩:MX),false)) else ((cA N a0 a3 a4).bind fun y11=>some (y11,true)))
set_option maxHeartbeats 4000000 in
theorem ll {N:Nat}{a0:MX}{a1:Bool}{a2:Bool}{a3:MM}{a4:Na}{r:(MX×Bool)}(h:br N a0 a1 a2 a3 a4=some r):Okc Tryz.prog 122 [(bJ a0),.bool a1,.bool a2,(fT a3),(fm a4)] ([]) (fun u post=>u=.tuple #[(bJ r.1),.bool r.2]∧post=[]):=by
 refine bD Tryz.func122 J J ?_;simp only [aW];refine U ?_
 refine gB (aO J J) fun B1=> ?_
 refine gB (aO J J) fun B2=> ?_
 refine gB (aO J J) fun B3=> ?_
 refine gB (aM dB J) fun B4=> ?_
 refine U ?_;refine aB ?_;refine U ?_;refine gH J h (fun h=> ?_) (fun h=> ?_)
 ·refine aB ?_;refine U ?_;refine gH J h (fun h=> ?_) (fun h=> ?_)
  ·refine U ?_;refine gE (bd J (si)) ?_;refine gW (ar (us:=[iV 0,iV 0,.string (⟨#[]⟩),iV 0,iV 0,iV 0,.string (⟨#[]⟩),iV 0,iV 0,.string (⟨#[]⟩),iV 0,iV 0,.string (⟨#[]⟩)]) (cs':=[iV 0,iV 0,.string (⟨#[]⟩),iV 0,iV 0,iV 0,.string (⟨#[]⟩),iV 0,iV 0,.string (⟨#[]⟩),iV 0,iV 0,.string (⟨#[]⟩)]) 0 J J J J cm J J J) ?_;refine U ?_;obtain rfl:=am h;exact cD (rs:=[.cell 10 42,.tmp 11]) (vs:=[.agg #[iV 0,iV 0,.string (⟨#[]⟩),iV 0,iV 0,iV 0,.string (⟨#[]⟩),iV 0,iV 0,.string (⟨#[]⟩),iV 0,iV 0,.string (⟨#[]⟩)],.bool false]) J (.cons (bG 0 J J dA) (.cons (ep J) .nil)) J (cS [] 4) ⟨J,J⟩
  refine U ?_;refine gR (ah (us:=ca a4) 1 J J dT J) ?_;refine gR (ah (us:=bS a3) 2 J J bF J) ?_;obtain ⟨y7,k,h⟩:=aa h;refine gV (ap (Ao k) Iz J (aj) xH) ?_;refine gW (ar (us:=aR y7) (cs':=aR y7) 0 J J J J cm J J J) ?_;refine U ?_;obtain rfl:=am h;exact cD (rs:=[.cell 10 42,.tmp 11]) (vs:=[(bJ y7),.bool true]) J (.cons (bG 0 J J dA) (.cons (ep J) .nil)) J (cS [] 4) ⟨J,J⟩
 refine U ?_;refine aB ?_;refine U ?_;refine gE (bE J J) ?_;refine U ?_;obtain ⟨b8,hb8,h⟩:=aa h;refine aK 4 28 b8 ?_ ?_
 ·clear h;refine aI 24 J (fun g8=> ?_) (fun g8=> ?_)
  ·have h:=aE g8 hb8;refine cp (ah (us:=aR a0) 3 J J dA J) J (bp g8 J) J ?_;refine cp (ah (us:=ca a4) 1 J J dT J) J (bp g8 J) J ?_;obtain ⟨y9,k,h⟩:=aa h;refine gU (ap (An k) Iy J (aj) xF) (bp g8 J) ?_;refine U ?_;obtain rfl:=am h;exact ad sA (cS [0,1,2,3] 4)
  have h:=aF g8 hb8;refine U ?_;obtain rfl:=am h;exact ad sA (cS [0,1,2,3] 4)
 refine U ?_;refine gH J h (fun h=> ?_) (fun h=> ?_)
 ·refine U ?_;refine gE (bd J (si)) ?_;refine gW (ar (us:=[iV 0,iV 0,.string (⟨#[]⟩),iV 0,iV 0,iV 0,.string (⟨#[]⟩),iV 0,iV 0,.string (⟨#[]⟩),iV 0,iV 0,.string (⟨#[]⟩)]) (cs':=[iV 0,iV 0,.string (⟨#[]⟩),iV 0,iV 0,iV 0,.string (⟨#[]⟩),iV 0,iV 0,.string (⟨#[]⟩),iV 0,iV 0,.string (⟨#[]⟩)]) 0 J J J J cm J J J) ?_;refine bM ?_;refine U ?_;obtain rfl:=am h;exact cD (rs:=[.cell 10 42,.tmp 11]) (vs:=[.agg #[iV 0,iV 0,.string (⟨#[]⟩),iV 0,iV 0,iV 0,.string (⟨#[]⟩),iV 0,iV 0,.string (⟨#[]⟩),iV 0,iV 0,.string (⟨#[]⟩)],.bool false]) J (.cons (bG 0 J J dA) (.cons (ep J) .nil)) J (cS [] 4) ⟨J,J⟩
 refine U ?_;refine gR (ah (us:=aR a0) 3 J J dA J) ?_;refine gR (ah (us:=bS a3) 2 J J bF J) ?_;refine gR (ah (us:=ca a4) 1 J J dT J) ?_;obtain ⟨y11,k,h⟩:=aa h;refine gV (ap (rA k) DN J (aj) pO) ?_;refine gW (ar (us:=aR y11) (cs':=aR y11) 0 J J J J cm J J J) ?_;refine U ?_;obtain rfl:=am h;exact cD (rs:=[.cell 10 42,.tmp 11]) (vs:=[(bJ y11),.bool true]) J (.cons (bG 0 J J dA) (.cons (ep J) .nil)) J (cS [] 4) ⟨J,J⟩
theorem jD {r:(MX×Bool)}:∀(u:Value)(p:List Chunk),u=.tuple #[(bJ r.1),.bool r.2]∧p=[]→∀c∈p,cM c:=by
 rintro _ _ ⟨rfl,rfl⟩;exact aj
def eL (N:Nat):Option MM:=
 some (⟨1,0,(⟨#[108,101,110,103,116,104]⟩:ByteArray)⟩:MM)
theorem kI {N:Nat}{r:MM}(h:eL N=some r):Okc Tryz.prog 82 [] ([]) (fun u post=>u=(fT r)∧post=[]):=by
 refine bD Tryz.func82 J J ?_;simp only [aW];refine U ?_
 refine gB (aM qP J) fun B1=> ?_
 refine U ?_;refine gE (bd J (ya _ _)) ?_;refine gW (ar (us:=[iV 1,iV 0,.string (⟨#[108,101,110,103,116,104]⟩:ByteArray)]) (cs':=[iV 1,iV 0,.string (⟨#[108,101,110,103,116,104]⟩:ByteArray)]) 0 J J J J cO J J J) ?_;refine U ?_;obtain rfl:=am h;exact cD (rs:=[.cell 0 24]) (vs:=[.agg #[iV 1,iV 0,.string (⟨#[108,101,110,103,116,104]⟩:ByteArray)]]) J (.cons (bG 0 J J bF) .nil) J (cS [] 1) ⟨J,J⟩
theorem jt {r:MM}:∀(u:Value)(p:List Chunk),u=(fT r)∧p=[]→∀c∈p,cM c:=by
 rintro _ _ ⟨rfl,rfl⟩;exact aj
def nq (N:Nat)(a0:MT)(a1:MQ):Option Int:=
 (dE N a0 a1).bind fun y16=>bif !y16.2 then (some 0) else (some (y16.1.More.length:Int))
theorem uo {N:Nat}{a0:MT}{a1:MQ}{r:Int}(h:nq N a0 a1=some r):Okc Tryz.prog 28 [pV B1 0,(bz a1)] ([aT B1 151 (dm a0 B2 B9 A12 n12 c12 A13 n13 c13 A14 n14 c14),aT B2 199 [I A3 n3 c3,I A4 n4 c4,I A5 n5 c5,I A6 n6 c6,pV B7 0],qB A3 n3 c3 a0.heap_.m_.Young,qB A4 n4 c4 a0.heap_.m_.Old,dV A5 n5 c5 a0.heap_.roots_,dV A6 n6 c6 a0.heap_.pending_,aT B7 247 [.map (some M8)],jg cz cC M8 a0.heap_.set_.at_,aT B9 205 [I A10 n10 c10,.map (some M11)],ut A10 n10 c10 a0.shapes_.shapes_,jg aD cy M11 a0.shapes_.next_,bm A12 n12 c12 a0.symbols_,cH A13 n13 c13 a0.events_,bm A14 n14 c14 a0.out_]) (fun u post=>u=iV r∧post=[]):=by
 refine bD Tryz.func28 J J ?_;simp only [aW];refine U ?_
 refine gB (aO J J) fun B15=> ?_
 refine U ?_;refine gR (ah (us:=au a1) 0 J J aH J) ?_;obtain ⟨y16,k,h⟩:=aa h;refine gD (ap (eI k) oK J (hD (al (i:=1) J J) (hD (al (i:=2) J J) (hD (al (i:=3) J J) (hD (al (i:=4) J J) (hD (al (i:=5) J J) (hD (al (i:=6) J J) (hD (al (i:=7) J J) (hD (al (i:=8) J J) (hD (al (i:=9) J J) (hD (al (i:=10) J J) (hD (al (i:=11) J J) (hD (al (i:=12) J J) (hD (al (i:=13) J J) (hD (al (i:=14) J J) aj)))))))))))))) dF) ?_;rintro _ _ ⟨_,⟨A17,n17,c17,A18,n18,c18,rfl,rfl⟩,rfl⟩;refine U ?_
 refine gB (aM gx J) fun B19=> ?_
 refine gW (ar (us:=[iV y16.1.Kind,iV y16.1.Shape,iV y16.1.Flags,iV y16.1.Age,I A17 n17 c17,I A18 n18 c18]) (cs':=[iV y16.1.Kind,iV y16.1.Shape,iV y16.1.Flags,iV y16.1.Age,I A17 n17 c17,I A18 n18 c18]) 0 J J J J du J J J) ?_;refine U ?_;refine aB ?_;refine U ?_;refine gH J h (fun h=> ?_) (fun h=> ?_)
 ·refine U ?_;obtain rfl:=am h;exact aL J J (cS [] 18) ⟨J,J⟩
 refine U ?_;refine gR (bL 2 J aC J hE) ?_;refine U ?_;obtain rfl:=am h;exact aL J J (cS [] 18) ⟨J,J⟩
theorem rM {r:Int}:∀(u:Value)(p:List Chunk),u=iV r∧p=[]→∀c∈p,cM c:=by
 rintro _ _ ⟨rfl,rfl⟩;exact aj
def ij (N:Nat)(a0:MT)(a1:MQ)(a2:MM)(a3:MX)(a4:Bool):Option Int:=
 (eL N).bind fun y18=>(bY N a0 a1 y18).bind fun y19=>(dP N a0 a1 a2).bind fun y22=>bif decide (4096≤a2.N) then (some 16) else ((nq N a0 a1).bind fun y25=>(bif decide (y25≤a2.N) then (some (decide (ai .i64 y19.1.Attrs 1=0))) else (some false)).bind fun b26=>bif b26 then (some 9) else ((bif !decide (a3.Attrs=7) then (some (!y22.2)) else (some false)).bind fun b28=>(bif b28 then (some a4) else (some false)).bind fun b29=>bif b29 then (some 14) else (some 0)))
set_option maxHeartbeats 4000000 in
theorem qc {N:Nat}{a0:MT}{a1:MQ}{a2:MM}{a3:MX}{a4:Bool}{r:Int}(h:ij N a0 a1 a2 a3 a4=some r):Okc Tryz.prog 145 [pV B1 0,(bz a1),(fT a2),(bJ a3),.bool a4] ([bm A12 n12 c12 a0.symbols_,cH A13 n13 c13 a0.events_,bm A14 n14 c14 a0.out_,aT 0 30 [iV 8,iV 0,.string (⟨#[]⟩:ByteArray)],ac B1 151 (dm a0 B2 B9 A12 n12 c12 A13 n13 c13 A14 n14 c14),ac B2 199 [I A3 n3 c3,I A4 n4 c4,I A5 n5 c5,I A6 n6 c6,pV B7 0],bw A3 n3 c3 a0.heap_.m_.Young,bw A4 n4 c4 a0.heap_.m_.Old,aX A5 n5 c5 a0.heap_.roots_,aX A6 n6 c6 a0.heap_.pending_,ac B7 247 [.map (some M8)],aG cz cC M8 a0.heap_.set_.at_,ac B9 205 [I A10 n10 c10,.map (some M11)],cL A10 n10 c10 a0.shapes_.shapes_,aG aD cy M11 a0.shapes_.next_]) (fun u post=>u=iV r∧post=[ac B1 151 (dm a0 B2 B9 A12 n12 c12 A13 n13 c13 A14 n14 c14),ac B2 199 [I A3 n3 c3,I A4 n4 c4,I A5 n5 c5,I A6 n6 c6,pV B7 0],bw A3 n3 c3 a0.heap_.m_.Young,bw A4 n4 c4 a0.heap_.m_.Old,aX A5 n5 c5 a0.heap_.roots_,aX A6 n6 c6 a0.heap_.pending_,ac B7 247 [.map (some M8)],aG cz cC M8 a0.heap_.set_.at_,ac B9 205 [I A10 n10 c10,.map (some M11)],cL A10 n10 c10 a0.shapes_.shapes_,aG aD cy M11 a0.shapes_.next_]):=by
 refine bD Tryz.func145 J J ?_;simp only [aW];refine U ?_
 refine gB (aO J J) fun B15=> ?_
 refine gB (aO J J) fun B16=> ?_
 refine gB (aO J J) fun B17=> ?_
 refine U ?_;refine aB ?_;obtain ⟨y18,hy18,h⟩:=aa h;obtain ⟨y19,hy19,h⟩:=aa h;refine iQ (t:=[(0,pV B1 0),(4,.bool a4),(6,pV B15 0),(7,pV B16 0),(8,pV B17 0),(10,iV 0)]) ?_ ki (ae _)
 refine ik V 8 [6] [5,6,7] [16,17,18,19,15,20,21,11] [[],[],[],[0,1,2],[3],[4],[4],[]] [aV (pV B1 0),
 aV ((bz a1)),
 aV (.agg #[iV y18.Kind,iV y18.N,.string y18.S]),
 aV (.tuple #[(bJ y19.1),.bool y19.2]),
 aV (.tuple #[(bJ y19.1),.bool y19.2]),
 aV ((bJ y19.1)),
 aV (.bool y19.2),
 aX1 (fun (B21:Nat)=>pV B21 0) (fun B21=> [ac B21 42 [iV 0,iV 0,.string (⟨#[]⟩),iV 0,iV 0,iV 0,.string (⟨#[]⟩),iV 0,iV 0,.string (⟨#[]⟩),iV 0,iV 0,.string (⟨#[]⟩)]])] [] (ae _) (eX rfl jP) V rfl rfl ?_ ?_ ?_
 ·refine eW J ?_ ?_
  ·exact kh (bq J J) J (bg J (ae _))
  exact jO
 ·refine ak J ?_ ?_
  ·refine lH (aM dB J) J ?_;rintro _ _ ⟨B20,rfl,rfl⟩;exact Aq B20 (ae _)
  refine ak J ?_ ?_
  ·exact cb (bq J J) J (bg J (ae _))
  refine ak J ?_ ?_
  ·exact cb (bq J J) J (bg J (ae _))
  refine ak J ?_ ?_
  ·exact cb (aq J) J (bg J (ae _))
  refine ak J ?_ ?_
  ·refine lH (aA (mo hy19) xY J (az [3,4,5,6] [7,8,9,10,11,12,13,14,15,16,17] [0,1,2,3,4,5,6] 18 J)) J ?_;rintro _ _ ⟨_,⟨rfl,rfl⟩,rfl⟩;exact bg J (cS [11,12,13,14,15,16,17,0,1,2,3,4,5,6,7,8,9,10] 18)
  refine ak J ?_ ?_
  ·refine lH (ap (kI hy18) Ax J (aj) jt) J ?_;rintro _ _ ⟨_,⟨rfl,rfl⟩,rfl⟩;exact bg J (ae _)
  refine ak J ?_ ?_
  ·exact gi (ah (us:=au a1) 2 J J aH J) J (bg J (ae _))
  refine ak J ?_ ?_
  ·exact cb (aq J) J (bg J (ae _))
  exact eC
 intro B21;refine mq (t:=[(20,(bJ y19.1)),(21,.bool y19.2),(11,pV B21 0),(0,pV B1 0),(4,.bool a4),(6,pV B15 0),(7,pV B16 0),(8,pV B17 0),(10,iV 0)]) (L':=[ac B21 42 [iV 0,iV 0,.string (⟨#[]⟩),iV 0,iV 0,iV 0,.string (⟨#[]⟩),iV 0,iV 0,.string (⟨#[]⟩),iV 0,iV 0,.string (⟨#[]⟩)],ac B17 42 (aR a3),ac B16 24 (bS a2),ac B15 30 (au a1),bm A12 n12 c12 a0.symbols_,cH A13 n13 c13 a0.events_,bm A14 n14 c14 a0.out_,aT 0 30 [iV 8,iV 0,.string (⟨#[]⟩:ByteArray)],ac B1 151 (dm a0 B2 B9 A12 n12 c12 A13 n13 c13 A14 n14 c14),ac B2 199 [I A3 n3 c3,I A4 n4 c4,I A5 n5 c5,I A6 n6 c6,pV B7 0],bw A3 n3 c3 a0.heap_.m_.Young,bw A4 n4 c4 a0.heap_.m_.Old,aX A5 n5 c5 a0.heap_.roots_,aX A6 n6 c6 a0.heap_.pending_,ac B7 247 [.map (some M8)],aG cz cC M8 a0.heap_.set_.at_,ac B9 205 [I A10 n10 c10,.map (some M11)],cL A10 n10 c10 a0.shapes_.shapes_,aG aD cy M11 a0.shapes_.next_]) ?_ ki (ae _);refine lO 8 J V (ar (us:=aR y19.1) (cs':=aR y19.1) 0 J J J J cm J J J) J J ?_;rintro _ _ rfl;refine tk 9 J V (bj J) J J J ?_;refine jT V ?_;refine U ?_;refine gR (ah (us:=au a1) 3 J J aH J) ?_;refine gR (ah (us:=bS a2) 2 J J bF J) ?_;obtain ⟨y22,k,h⟩:=aa h;refine gV (aA (mO k) Ay J (az [4,5,6] [8,9,10,11,12,13,14,15,16,17,18] [0,1,2,3,4,5,6,7] 19 J)) ?_;refine U ?_
 refine gB (aM dB J) fun B23=> ?_
 refine gW (ar (us:=aR y22.1) (cs':=aR y22.1) 0 J J J J cm J J J) ?_;refine bM ?_;refine U ?_;refine aB ?_;refine U ?_;refine gR (aY 14 J J dH J) ?_;refine U ?_;refine gH J h (fun h=> ?_) (fun h=> ?_)
 ·refine U ?_;obtain rfl:=am h;exact aL J J (cS [1,2,3,4,5,6,7,8,9,10,11] 20) ⟨J,J⟩
 refine aB ?_;refine bK V _ (ae _) ?_;refine zE 0 J (ci J Ai) ?_;refine zR 1 J (aY 14 J J dH J) ?_;refine zE 2 J (aq J) ?_;refine zR 3 J (ah (us:=au a1) 15 J J aH J) ?_;obtain ⟨y25,k,h⟩:=aa h;refine zD 4 J (ap (uo k) GH J (hD (ax (i:=1) J) (hD (ax (i:=2) J) (hD (ao (i:=3) J) (hD (ao (i:=4) J) (hD (ao (i:=5) J) (hD (ao (i:=6) J) (hD (ax (i:=7) J) (hD (aU (i:=8) J) (hD (ax (i:=9) J) (hD (ao (i:=10) J) (hD (aU (i:=11) J) (hD (al (i:=16) J J) (hD (al (i:=17) J J) (hD (al (i:=18) J J) aj)))))))))))))) rM) ?_;rintro _ _ ⟨_,⟨rfl,rfl⟩,rfl⟩;refine ⟨_,ae _,ae _,?_⟩;refine zE 5 J (Ge J J) ?_;refine zE 6 J (aq J) ?_;obtain ⟨b26,hb26,h⟩:=aa h;refine gZ (fun l=>(((((l.setIfInBounds 7 true).setIfInBounds 8 true).setIfInBounds 9 true).setIfInBounds 10 true).setIfInBounds 11 true)) 1 45 b26 (fun rest=> ?_) ?_
 ·clear h;refine i3 40 J (fun g26=> ?_) (fun g26=> ?_)
  ·have h:=aE g26 hb26;refine dG 7 J V (ci J tX) (bp g26 J) J ?_;refine kB 8 J V (aY 12 J J dH J) (bp g26 J) J ?_;refine dG 9 J V (bE J J) (bp g26 J) J ?_;refine dG 10 J V (vB J J) (bp g26 J) J ?_;refine zE 11 J (d3 g26 J J) ?_;obtain rfl:=am h;exact eQ rest (cN J (av (av (av (av (av bU J) J) J) J) J)) (ae _) (ae _)
  have h:=aF g26 hb26;refine cv 7 J V (fk g26 J) J ?_;refine cv 8 J V (fk g26 J) J ?_;refine cv 9 J V (fk g26 J) J ?_;refine cv 10 J V (fk g26 J) J ?_;refine zE 11 J (d4 g26 J J) ?_;obtain rfl:=am h;exact eQ rest (cN J (av (av (av (av (av bU J) J) J) J) J)) (ae _) (ae _)
 refine zE 12 J (bj J) ?_;refine bC V ?_;refine fa ?_;refine gH J h (fun h=> ?_) (fun h=> ?_)
 ·refine U ?_;obtain rfl:=am h;exact aL J J (cS [1,2,3,4,5,6,7,8,9,10,11] 20) ⟨J,J⟩
 refine U ?_;refine gR (aY 13 J J dH J) ?_;refine U ?_;obtain ⟨b28,hb28,h⟩:=aa h;refine aK 3 53 b28 ?_ ?_
 ·clear h;refine aI 50 J (fun g28=> ?_) (fun g28=> ?_)
  ·have h:=aE g28 hb28;refine U ?_;obtain rfl:=am h;exact ad sA (cS [0,1,2,3,4,5,6,7,8,9,10,11,12,13,14,15,16,17,18,19] 20)
  have h:=aF g28 hb28;refine U ?_;obtain rfl:=am h;exact ad sA (cS [0,1,2,3,4,5,6,7,8,9,10,11,12,13,14,15,16,17,18,19] 20)
 refine U ?_;obtain ⟨b29,hb29,h⟩:=aa h;refine aK 2 56 b29 ?_ ?_
 ·clear h;refine aI 54 J (fun g29=> ?_) (fun g29=> ?_)
  ·have h:=aE g29 hb29;refine U ?_;obtain rfl:=am h;exact ad sA (cS [0,1,2,3,4,5,6,7,8,9,10,11,12,13,14,15,16,17,18,19] 20)
  have h:=aF g29 hb29;refine U ?_;obtain rfl:=am h;exact ad sA (cS [0,1,2,3,4,5,6,7,8,9,10,11,12,13,14,15,16,17,18,19] 20)
 refine U ?_;refine gH J h (fun h=> ?_) (fun h=> ?_)
 ·refine U ?_;obtain rfl:=am h;exact aL J J (cS [1,2,3,4,5,6,7,8,9,10,11] 20) ⟨J,J⟩
 refine U ?_;obtain rfl:=am h;exact aL J J (cS [1,2,3,4,5,6,7,8,9,10,11] 20) ⟨J,J⟩
def fi (N:Nat)(a0:MT)(a1:MQ)(a2:MM)(a3:Na):Option Int:=
 (bZ N a0 a1 a2).bind fun y18=>(kG N a0 a1).bind fun y20=>(br N y18.1 y18.2 y20 a2 a3).bind fun y21=>(bif !y18.2 then (some (!y21.2)) else (some false)).bind fun b24=>bif b24 then (some 10) else (bif !y21.2 then (some 11) else ((eF N a0 a1).bind fun y27=>(kA N a0 a1).bind fun y29=>(bif !y29 then (some true) else (some (!decide (a2.Kind=0)))).bind fun b30=>bif b30 then ((bif !y18.2 then (some (decide (1024≤(y27.length:Int)))) else (some false)).bind fun E6=>bif E6 then (some 14) else (some 0)) else ((ij N a0 a1 a2 y21.1 (decide (1024≤(y27.length:Int)))).bind fun y34=>some y34)))
set_option maxHeartbeats 4000000 in
theorem qA {N:Nat}{a0:MT}{a1:MQ}{a2:MM}{a3:Na}{r:Int}(h:fi N a0 a1 a2 a3=some r):Okc Tryz.prog 80 [pV B1 0,(bz a1),(fT a2),(fm a3)] ([bm A12 n12 c12 a0.symbols_,cH A13 n13 c13 a0.events_,bm A14 n14 c14 a0.out_,aT 0 30 [iV 8,iV 0,.string (⟨#[]⟩:ByteArray)],ac B1 151 (dm a0 B2 B9 A12 n12 c12 A13 n13 c13 A14 n14 c14),ac B2 199 [I A3 n3 c3,I A4 n4 c4,I A5 n5 c5,I A6 n6 c6,pV B7 0],bw A3 n3 c3 a0.heap_.m_.Young,bw A4 n4 c4 a0.heap_.m_.Old,aX A5 n5 c5 a0.heap_.roots_,aX A6 n6 c6 a0.heap_.pending_,ac B7 247 [.map (some M8)],aG cz cC M8 a0.heap_.set_.at_,ac B9 205 [I A10 n10 c10,.map (some M11)],cL A10 n10 c10 a0.shapes_.shapes_,aG aD cy M11 a0.shapes_.next_]) (fun u post=>u=iV r∧post=[ac B1 151 (dm a0 B2 B9 A12 n12 c12 A13 n13 c13 A14 n14 c14),ac B2 199 [I A3 n3 c3,I A4 n4 c4,I A5 n5 c5,I A6 n6 c6,pV B7 0],bw A3 n3 c3 a0.heap_.m_.Young,bw A4 n4 c4 a0.heap_.m_.Old,aX A5 n5 c5 a0.heap_.roots_,aX A6 n6 c6 a0.heap_.pending_,ac B7 247 [.map (some M8)],aG cz cC M8 a0.heap_.set_.at_,ac B9 205 [I A10 n10 c10,.map (some M11)],cL A10 n10 c10 a0.shapes_.shapes_,aG aD cy M11 a0.shapes_.next_]):=by
 refine bD Tryz.func80 J J ?_;simp only [aW];refine U ?_
 refine gB (aO J J) fun B15=> ?_
 refine gB (aO J J) fun B16=> ?_
 refine gB (aO J J) fun B17=> ?_
 refine U ?_;refine gR (ah (us:=au a1) 2 J J aH J) ?_;refine gR (ah (us:=bS a2) 1 J J bF J) ?_;obtain ⟨y18,k,h⟩:=aa h;refine gV (aA (gF k) rG J (az [3,4,5,6] [7,8,9,10,11,12,13,14,15,16,17] [0,1,2,3,4,5,6] 18 J)) ?_;refine U ?_
 refine gB (aM dB J) fun B19=> ?_
 refine gW (ar (us:=aR y18.1) (cs':=aR y18.1) 0 J J J J cm J J J) ?_;refine U ?_;refine aB ?_;obtain ⟨y20,hy20,h⟩:=aa h;obtain ⟨y21,hy21,h⟩:=aa h;refine iQ (t:=[(0,pV B1 0),(5,pV B15 0),(6,pV B16 0),(7,pV B17 0),(8,iV 0),(9,pV B19 0),(10,.bool y18.2)]) ?_ ki (ae _)
 refine ik V 12 [10] [9,10,11] [22,23,24,25,26,27,28,29,21,30,31,11] [[],[],[],[],[2,3],[],[],[0,1,4,5,6],[7],[8],[8],[]] [aV ((bJ y18.1)),
 aV (.bool y18.2),
 aV (pV B1 0),
 aV ((bz a1)),
 aV (.bool y20),
 aV ((fT a2)),
 aV ((fm a3)),
 aV (.tuple #[(bJ y21.1),.bool y21.2]),
 aV (.tuple #[(bJ y21.1),.bool y21.2]),
 aV ((bJ y21.1)),
 aV (.bool y21.2),
 aX1 (fun (B23:Nat)=>pV B23 0) (fun B23=> [ac B23 42 [iV 0,iV 0,.string (⟨#[]⟩),iV 0,iV 0,iV 0,.string (⟨#[]⟩),iV 0,iV 0,.string (⟨#[]⟩),iV 0,iV 0,.string (⟨#[]⟩)]])] [] (ae _) (eX rfl jP) V rfl rfl ?_ ?_ ?_
 ·refine eW J ?_ ?_
  ·exact kh (bq J J) J (bg J (ae _))
  exact jO
 ·refine ak J ?_ ?_
  ·refine lH (aM dB J) J ?_;rintro _ _ ⟨B22,rfl,rfl⟩;exact Aq B22 (ae _)
  refine ak J ?_ ?_
  ·exact cb (bq J J) J (bg J (ae _))
  refine ak J ?_ ?_
  ·exact cb (bq J J) J (bg J (ae _))
  refine ak J ?_ ?_
  ·exact cb (aq J) J (bg J (ae _))
  refine ak J ?_ ?_
  ·refine lH (ap (ll hy21) ud J (aj) jD) J ?_;rintro _ _ ⟨_,⟨rfl,rfl⟩,rfl⟩;exact bg J (ae _)
  refine ak J ?_ ?_
  ·exact gi (ah (us:=ca a3) 12 J J dT J) J (bg J (ae _))
  refine ak J ?_ ?_
  ·exact gi (ah (us:=bS a2) 13 J J bF J) J (bg J (ae _))
  refine ak J ?_ ?_
  ·refine lH (aA (po hy20) CU J (az [15,16,17] [1,2,3,4,5,6,7,8,9,10,11] [0,12,13,14,15,16,17,18] 19 J)) J ?_;rintro _ _ ⟨_,⟨rfl,rfl⟩,rfl⟩;exact bg J (cS [11,0,1,2,3,4,5,6,7,8,9,10,12,13,14,15,16,17,18] 19)
  refine ak J ?_ ?_
  ·exact gi (ah (us:=au a1) 14 J J aH J) J (bg J (ae _))
  refine ak J ?_ ?_
  ·exact cb (aq J) J (bg J (ae _))
  refine ak J ?_ ?_
  ·exact cb (aq J) J (bg J (ae _))
  refine ak J ?_ ?_
  ·exact gi (ah (us:=aR y18.1) 0 J J dA J) J (bg J (ae _))
  exact eC
 intro B23;refine mq (t:=[(30,(bJ y21.1)),(31,.bool y21.2),(11,pV B23 0),(0,pV B1 0),(5,pV B15 0),(6,pV B16 0),(7,pV B17 0),(8,iV 0),(9,pV B19 0),(10,.bool y18.2)]) (L':=[ac B23 42 [iV 0,iV 0,.string (⟨#[]⟩),iV 0,iV 0,iV 0,.string (⟨#[]⟩),iV 0,iV 0,.string (⟨#[]⟩),iV 0,iV 0,.string (⟨#[]⟩)],ac B19 42 (aR y18.1),ac B1 151 (dm a0 B2 B9 A12 n12 c12 A13 n13 c13 A14 n14 c14),ac B2 199 [I A3 n3 c3,I A4 n4 c4,I A5 n5 c5,I A6 n6 c6,pV B7 0],bw A3 n3 c3 a0.heap_.m_.Young,bw A4 n4 c4 a0.heap_.m_.Old,aX A5 n5 c5 a0.heap_.roots_,aX A6 n6 c6 a0.heap_.pending_,ac B7 247 [.map (some M8)],aG cz cC M8 a0.heap_.set_.at_,ac B9 205 [I A10 n10 c10,.map (some M11)],cL A10 n10 c10 a0.shapes_.shapes_,aG aD cy M11 a0.shapes_.next_,ac B17 32 (ca a3),ac B16 24 (bS a2),ac B15 30 (au a1),bm A12 n12 c12 a0.symbols_,cH A13 n13 c13 a0.events_,bm A14 n14 c14 a0.out_,aT 0 30 [iV 8,iV 0,.string (⟨#[]⟩:ByteArray)]]) ?_ ki (ae _);refine lO 12 J V (ar (us:=aR y21.1) (cs':=aR y21.1) 0 J J J J cm J J J) J J ?_;rintro _ _ rfl;refine vv ?_;refine tk 13 J V (bj J) J J J ?_;refine jT V ?_;refine fa ?_;refine aB ?_;refine U ?_;obtain ⟨b24,hb24,h⟩:=aa h;refine aK 3 38 b24 ?_ ?_
 ·clear h;refine aI 35 J (fun g24=> ?_) (fun g24=> ?_)
  ·have h:=aE g24 hb24;refine U ?_;obtain rfl:=am h;exact ad sA (cS [0,1,2,3,4,5,6,7,8,9,10,11,12,13,14,15,16,17,18,19] 20)
  have h:=aF g24 hb24;refine U ?_;obtain rfl:=am h;exact ad sA (cS [0,1,2,3,4,5,6,7,8,9,10,11,12,13,14,15,16,17,18,19] 20)
 refine U ?_;refine gH J h (fun h=> ?_) (fun h=> ?_)
 ·refine U ?_;obtain rfl:=am h;exact aL J J (cS [2,3,4,5,6,7,8,9,10,11,12] 20) ⟨J,J⟩
 refine U ?_;refine gH J h (fun h=> ?_) (fun h=> ?_)
 ·refine U ?_;obtain rfl:=am h;exact aL J J (cS [2,3,4,5,6,7,8,9,10,11,12] 20) ⟨J,J⟩
 refine U ?_;refine gR (ah (us:=au a1) 15 J J aH J) ?_;obtain ⟨y27,k,h⟩:=aa h;refine gD (aA (jC k) ue J (az [16,17,18] [2,3,4,5,6,7,8,9,10,11,12] [0,1,13,14,15,16,17,18,19] 20 J)) ?_;rintro _ _ ⟨_,⟨A28,n28,c28,rfl,rfl⟩,rfl⟩;refine gR (bL 0 J aC J EM) ?_;refine U ?_;refine aB ?_;refine U ?_;refine gR (ah (us:=au a1) 16 J J aH J) ?_;obtain ⟨y29,k,h⟩:=aa h;refine gV (ap (nr k) xX J (hD (ax (i:=1) J) (hD (ax (i:=2) J) (hD (ao (i:=3) J) (hD (ao (i:=4) J) (hD (ao (i:=5) J) (hD (ao (i:=6) J) (hD (ax (i:=7) J) (hD (aU (i:=8) J) (hD (ax (i:=9) J) (hD (ao (i:=10) J) (hD (aU (i:=11) J) (hD (al (i:=17) J J) (hD (al (i:=18) J J) (hD (al (i:=19) J J) aj)))))))))))))) lp) ?_;refine U ?_;obtain ⟨b30,hb30,h⟩:=aa h;refine aK 4 55 b30 ?_ ?_
 ·clear h;refine aI 51 J (fun g30=> ?_) (fun g30=> ?_)
  ·have h:=aE g30 hb30;refine U ?_;obtain rfl:=am h;exact ad sA (cS [0,1,2,3,4,5,6,7,8,9,10,11,12,13,14,15,16,17,18,19,20] 21)
  have h:=aF g30 hb30;refine U ?_;refine cp (aY 15 J J dH J) J (cX g30 J) J ?_;refine U ?_;obtain rfl:=am h;exact ad sA (cS [0,1,2,3,4,5,6,7,8,9,10,11,12,13,14,15,16,17,18,19,20] 21)
 refine U ?_;refine gH J h (fun h=> ?_) (fun h=> ?_)
 ·refine aB ?_;refine U ?_;obtain ⟨E6,hb32,h⟩:=aa h;refine aK 2 60 E6 ?_ ?_
  ·clear h;refine aI 58 J (fun g32=> ?_) (fun g32=> ?_)
   ·have h:=aE g32 hb32;refine U ?_;obtain rfl:=am h;exact ad sA (cS [0,1,2,3,4,5,6,7,8,9,10,11,12,13,14,15,16,17,18,19,20] 21)
   have h:=aF g32 hb32;refine U ?_;obtain rfl:=am h;exact ad sA (cS [0,1,2,3,4,5,6,7,8,9,10,11,12,13,14,15,16,17,18,19,20] 21)
  refine U ?_;refine gH J h (fun h=> ?_) (fun h=> ?_)
  ·refine U ?_;obtain rfl:=am h;exact aL J J (cS [1,2,3,4,5,6,7,8,9,10,11] 21) ⟨J,J⟩
  refine U ?_;obtain rfl:=am h;exact aL J J (cS [1,2,3,4,5,6,7,8,9,10,11] 21) ⟨J,J⟩
 refine U ?_;refine gR (ah (us:=au a1) 16 J J aH J) ?_;refine gR (ah (us:=bS a2) 15 J J bF J) ?_;refine gR (ah (us:=aR y21.1) 12 J J dA J) ?_;refine U ?_;obtain ⟨y34,k,h⟩:=aa h;refine gV (aA (qc k) IG J (az [17,18,19,20] [1,2,3,4,5,6,7,8,9,10,11] [0,12,13,14,15,16,17,18,19,20] 21 J)) ?_;refine U ?_;obtain rfl:=am h;exact aL J J (cS [0,1,2,3,4,5,6,7,8,9,10] 21) ⟨J,J⟩
def lI (N:Nat)(a0:Int):Option Bool:=
 (bif decide (0≤a0) then (some (decide (a0≤15))) else (some false)).bind fun b1=>(bif b1 then (some (!decide (ai .i64 a0 9=9))) else (some false)).bind fun b2=>some b2
theorem zA {N:Nat}{a0:Int}{r:Bool}(h:lI N a0=some r):Okc Tryz.prog 213 [iV a0] ([]) (fun u post=>u=.bool r∧post=[]):=by
 refine bD Tryz.func213 J J ?_;simp only [aW];refine U ?_;obtain ⟨b1,hb1,h⟩:=aa h;refine aK 3 8 b1 ?_ ?_
 ·clear h;refine aI 5 J (fun g1=> ?_) (fun g1=> ?_)
  ·have h:=aE g1 hb1;refine U ?_;obtain rfl:=am h;exact ad sA (cS [] 0)
  have h:=aF g1 hb1;refine U ?_;obtain rfl:=am h;exact ad sA (cS [] 0)
 refine U ?_;obtain ⟨b2,hb2,h⟩:=aa h;refine aK 4 13 b2 ?_ ?_
 ·clear h;refine aI 9 J (fun g2=> ?_) (fun g2=> ?_)
  ·have h:=aE g2 hb2;refine U ?_;refine fb (bE J J) J (bp g2 J) J ?_;refine U ?_;obtain rfl:=am h;exact ad sA (cS [] 0)
  have h:=aF g2 hb2;refine U ?_;obtain rfl:=am h;exact ad sA (cS [] 0)
 refine U ?_;obtain rfl:=am h;exact aL J J (cS [] 0) ⟨J,J⟩
theorem wI {r:Bool}:∀(u:Value)(p:List Chunk),u=.bool r∧p=[]→∀c∈p,cM c:=by
 rintro _ _ ⟨rfl,rfl⟩;exact aj
def ft (N:Nat)(a0:MU)(a1:Int)(a2:MM)(a3:Int):Option Int:=
 (fg N a0 a1).bind fun y5=>bif !y5 then (some 2) else ((co N a2).bind fun y7=>(bif !y7 then (some true) else ((lI N a3).bind fun y9=>some (!y9))).bind fun b8=>bif b8 then (some 1) else (some 0))
theorem kl {N:Nat}{a0:MU}{a1:Int}{a2:MM}{a3:Int}{r:Int}(h:ft N a0 a1 a2 a3=some r):Okc Tryz.prog 165 [pV B1 0,iV a1,(fT a2),iV a3] ([aT B1 205 [I A2 n2 c2,.map (some M3)],ut A2 n2 c2 a0.shapes_,jg aD cy M3 a0.next_]) (fun u post=>u=iV r∧post=[]):=by
 refine bD Tryz.func165 J J ?_;simp only [aW];refine U ?_
 refine gB (aO J J) fun B4=> ?_
 refine U ?_;refine aB ?_;refine U ?_;refine gE (fQ J Tryz.underlying144) ?_;refine U ?_;refine ia J ?_;refine U ?_;obtain ⟨y5,k,h⟩:=aa h;refine gV (ap (lD k) AD J (hD (al (i:=1) J J) (hD (al (i:=2) J J) (hD (al (i:=3) J J) aj))) kk) ?_;refine U ?_;refine gH J h (fun h=> ?_) (fun h=> ?_)
 ·refine U ?_;obtain rfl:=am h;exact aL J J (cS [] 4) ⟨J,J⟩
 refine U ?_;refine gR (ah (us:=bS a2) 0 J J bF J) ?_;obtain ⟨y7,k,h⟩:=aa h;refine gV (ap (kL k) uV J (aj) i7) ?_;refine U ?_;obtain ⟨b8,hb8,h⟩:=aa h;refine aK 4 25 b8 ?_ ?_
 ·clear h;refine aI 21 J (fun g8=> ?_) (fun g8=> ?_)
  ·have h:=aE g8 hb8;refine U ?_;obtain rfl:=am h;exact ad sA (cS [0,1,2,3] 4)
  have h:=aF g8 hb8;refine U ?_;obtain ⟨y9,k,h⟩:=aa h;refine gU (ap (zA k) Is J (aj) wI) (cX g8 J) ?_;refine U ?_;obtain rfl:=am h;exact ad sA (cS [0,1,2,3] 4)
 refine U ?_;refine gH J h (fun h=> ?_) (fun h=> ?_)
 ·refine U ?_;obtain rfl:=am h;exact aL J J (cS [] 4) ⟨J,J⟩
 refine U ?_;obtain rfl:=am h;exact aL J J (cS [] 4) ⟨J,J⟩
theorem jo {r:Int}:∀(u:Value)(p:List Chunk),u=iV r∧p=[]→∀c∈p,cM c:=by
 rintro _ _ ⟨rfl,rfl⟩;exact aj
def nC (N:Nat)(p20:Int)(p21:(List MZ))(p22:(List (MN×Int))):Option (Int×Int×MU):=
 some (p20,0,(⟨p21,p22⟩:MU))
def iT (N:Nat)(p7:(List MZ)):Nat→Int→Int→(List MZ)→(List (MN×Int))→Option (Int×Int×MU)
 |0,_,_,_,_=>none
 |m23+1,p24,p25,p26,p27=>bif decide (p25<(p7.length:Int)) then ((bR p7 p25).bind fun x29=>(bR p26 p24).bind fun x31=>dq (bQ (x31.Len+1)) (dq (gQ (p26.length+([(⟨p24,x29.Key,x29.Attrs,x31.Len+1⟩:MZ)]:List MZ).length)) (dq (bQ (((p26++([(⟨p24,x29.Key,x29.Attrs,x31.Len+1⟩:MZ)]:List MZ)).length:Int) - 1)) (dq (bQ (p25+1)) ((iT N p7 m23) (((p26++([(⟨p24,x29.Key,x29.Attrs,x31.Len+1⟩:MZ)]:List MZ)).length:Int) - 1) (p25+1) (p26++([(⟨p24,x29.Key,x29.Attrs,x31.Len+1⟩:MZ)]:List MZ)) (Ck p27 (⟨p24,x29.Key,x29.Attrs⟩:MN) (p26.length:Int))))))) else (nC N p24 p26 p27)
def fJ (N:Nat)(a0:MU)(p6:Int)(p7:(List MZ)):Option (Int×Int×MU):=
 dq (bQ (1073741824 - (a0.shapes_.length:Int))) (bif decide (1073741824 - (a0.shapes_.length:Int)<(p7.length:Int)) then (some (0,5,a0)) else (iT N p7 N p6 0 a0.shapes_ a0.next_))
def jn (N:Nat)(a0:MU):Nat→Int→(List MZ)→Option (Int×Int×MU)
 |0,_,_=>none
 |m8+1,p9,p10=>bif decide (0<(p10.length:Int)) then ((bR p10 0).bind fun x12=>(bR p10 0).bind fun x13=>bif !((lk a0.next_ (⟨p9,x12.Key,x13.Attrs⟩:MN)).isSome) then (fJ N a0 p9 p10) else (dq ((0:Int)≤1∧(1:Int).toNat≤p10.length∧p10.length≤p10.length) ((jn N a0 m8) ((lk a0.next_ (⟨p9,x12.Key,x13.Attrs⟩:MN)).getD 0) ((p10.drop ((1:Int).toNat)).take (p10.length - (1:Int).toNat))))) else (fJ N a0 p9 p10)
def iA (N:Nat)(a0:MU)(a1:Int)(a2:(List MZ)):Option (Int×Int×MU):=
 jn N a0 N a1 a2
set_option maxHeartbeats 4000000 in
theorem lC {N:Nat}{a0:MU}{a1:Int}{a2:(List MZ)}{r:(Int×Int×MU)}(h:iA N a0 a1 a2=some r):Okc Tryz.prog 166 [pV B1 0,iV a1,I A4 n4 c4] ([ut A4 n4 c4 a2,ac B1 205 [I A2 n2 c2,.map (some M3)],cL A2 n2 c2 a0.shapes_,aG aD cy M3 a0.next_]) (fun u post=> ∃A0 n0 c0 M1,u=.tuple #[iV r.1,iV r.2.1]∧post=[ac B1 205 [I A0 n0 c0,.map (some M1)],cL A0 n0 c0 r.2.2.shapes_,aG aD cy M1 r.2.2.next_]):=by
 refine bD Tryz.func166 J J ?_;simp only [aW];refine U ?_;refine ba (fun s L=> ∃p6 p7 A7 n7 c7,fJ N a0 p6 p7=some r∧s=[(0,pV B1 0),(6,iV 0),(7,iV 0),(8,iV p6),(9,I A7 n7 c7)]∧L=[ut A7 n7 c7 p7,cL A2 n2 c2 a0.shapes_,aG aD cy M3 a0.next_,ac B1 205 [I A2 n2 c2,.map (some M3)]]) ?_ ?_
 ·refine eZ ?_;refine cn (fun m s L=> ∃p9 p10 A10 n10 c10,jn N a0 m p9 p10=some r∧s=[(0,pV B1 0),(6,iV 0),(7,iV 0),(8,iV p9),(9,I A10 n10 c10)]∧L=[ut A10 n10 c10 p10,cL A2 n2 c2 a0.shapes_,aG aD cy M3 a0.next_,ac B1 205 [I A2 n2 c2,.map (some M3)]]) N _ _ ⟨a1,a2,A4,n4,c4,h,J,J⟩ sA (cS [0,2,3,1] 4) ?_;rintro (_|m8) _ _ ⟨p9,p10,A10,n10,c10,h,rfl,rfl⟩
  ·exact bu h
  rw [jn.eq_2] at h;refine aB ?_;refine U ?_;refine gR (bL 0 J aS J MC) ?_;refine U ?_;refine gH J h (fun h=> ?_) (fun h=> ?_)
  ·refine U ?_;refine aB ?_;refine bK V _ (ae _) ?_;refine zE 0 J (aq J) ?_;refine zE 1 J (bc J) ?_;refine zE 2 J (ci J xw) ?_;refine zR 3 J (aY 3 J J CA J) ?_;refine zE 4 J (aq J) ?_;refine zE 5 J (aq J) ?_;obtain ⟨x12,hx12,h⟩:=aa h;obtain ⟨lx12,ux12,hx12⟩:=aJ hx12;refine zR 6 J (bx 0 J aS J J MC dX lx12 ux12) ?_;refine zR 7 J (pC 0 J aS J (toNat_lt lx12 ux12) tZ) ?_;refine zR 8 J (bA (us:=bS x12.Key) 0 J aS J hx12 bF (fun _ _ _ h=>by rw [show _=_ from h];rfl)) ?_;refine zE 9 J (aq J) ?_;obtain ⟨x13,hx13,h⟩:=aa h;obtain ⟨lx13,ux13,hx13⟩:=aJ hx13;refine zR 10 J (bx 0 J aS J J MC dX lx13 ux13) ?_;refine zR 11 J (pC 0 J aS J (toNat_lt lx13 ux13) pL) ?_;refine zR 12 J (fB (u:=iV x13.Attrs) 0 J aS J hx13 dH (fun _ _ _ h=>by rw [show _=_ from h];rfl)) ?_;refine zE 13 J (bd J (sO _ _ _ _ _)) ?_;refine zR 14 J (Fw (a:=(⟨p9,x12.Key,x13.Attrs⟩:MN)) (z:=0) 2 J JV J J Tryz.underlying203 xq KU) ?_;refine zE 15 J (aq J) ?_;refine zE 16 J (bq J J) ?_;refine zE 17 J (bq J J) ?_;refine zE 18 J (bj J) ?_;refine zE 19 J (bj J) ?_;refine bC V ?_;refine fa ?_;refine aB ?_;refine U ?_;refine gH J h (fun h=> ?_) (fun h=> ?_)
   ·refine U ?_;refine LC J ?_;refine U ?_;exact ⟨_,_,⟨p9,p10,A10,n10,c10,h,J,J⟩,sA,cS [0,1,2,3] 4⟩
   refine U ?_;refine bK V _ (ae _) ?_;refine zE 0 J (aq J) ?_;refine zE 1 J (aq J) ?_;obtain ⟨q15,h⟩:=ay h;refine G1 0 J (l:=(1:Int).toNat) (h:=p10.length) q15.2.1 q15.2.2 ?_;rintro A16 n16 c16 e16;refine zR 2 J (wa 1 J e16 J MC dX J (by rw [Int.toNat_of_nonneg q15.1];rfl) q15.2.1) ?_;refine zE 3 J (bj J) ?_;refine zE 4 J (bj J) ?_;refine bC V ?_;refine U ?_;exact ⟨m8,_,_,Nh _,⟨(lk a0.next_ (⟨p9,x12.Key,x13.Attrs⟩:MN)).getD 0,(p10.drop ((1:Int).toNat)).take (p10.length - (1:Int).toNat),A16,n16,c16,h,J,J⟩,sA,cS [0,2,3,4] 5⟩
  refine U ?_;exact ⟨_,_,⟨p9,p10,A10,n10,c10,h,J,J⟩,sA,cS [0,1,2,3] 4⟩
 rintro _ _ ⟨p6,p7,A7,n7,c7,h,rfl,rfl⟩;refine aB ?_;refine U ?_;refine gR (bL 0 J aS J MC) ?_;refine U ?_;refine gR (bL 1 J aC J MC) ?_;obtain ⟨q17,h⟩:=ay h;refine gE (dI J J q17.1 q17.2) ?_;refine U ?_;refine gH J h (fun h=> ?_) (fun h=> ?_)
 ·refine U ?_;obtain rfl:=am h;exact dc J J J (cS [3,1,2] 4) ⟨_,_,_,_,J,J⟩
 refine U ?_;refine ba (fun s L=> ∃p20 p21 p22 A21 n21 c21,nC N p20 p21 p22=some r∧s=[(6,iV 0),(7,iV 0),(8,iV p20)]∧L=[cL A21 n21 c21 p21,aG aD cy M3 p22,ac B1 205 [I A21 n21 c21,.map (some M3)]]) ?_ ?_
 ·refine U ?_;refine gR (bL 0 J aS J MC) ?_;refine U ?_;refine cn (fun m s L=> ∃p24 p25 p26 p27 A26 n26 c26,iT N p7 m p24 p25 p26 p27=some r∧s=[(0,pV B1 0),(6,iV 0),(7,iV 0),(8,iV p24),(51,I A7 n7 c7),(52,iV (p7.length:Int)),(53,iV p25)]∧L=[ut A7 n7 c7 p7,cL A26 n26 c26 p26,aG aD cy M3 p27,ac B1 205 [I A26 n26 c26,.map (some M3)]]) N _ _ ⟨p6,0,a0.shapes_,a0.next_,A2,n2,c2,h,J,J⟩ sA (cS [0,1,2,3] 4) ?_;rintro (_|m23) _ _ ⟨p24,p25,p26,p27,A26,n26,c26,h,rfl,rfl⟩
  ·exact bu h
  rw [iT.eq_2] at h;refine U ?_;refine aB ?_;refine gH J h (fun h=> ?_) (fun h=> ?_)
  ·refine U ?_;refine aB ?_;refine U ?_;obtain ⟨x29,hx29,h⟩:=aa h;obtain ⟨lx29,ux29,hx29⟩:=aJ hx29;refine gR (bx 0 J aS J J MC dX lx29 ux29) ?_;refine gR (bA (us:=fj x29) 0 J aS J hx29 pA (fun _ _ _ h=>by rw [show _=_ from h];rfl)) ?_
   refine gB (aM pS J) fun B30=> ?_
   refine gW (ar (us:=fj x29) (cs':=fj x29) 0 J J J J dX J J J) ?_;refine U ?_;refine aB ?_;refine bK V _ (ae _) ?_;refine zE 0 J (aq J) ?_;refine zE 1 J (bc J) ?_;refine zE 2 J (ci J xw) ?_;refine zR 3 J (aY 4 J J CA J) ?_;refine zE 4 J (aq J) ?_;refine zE 5 J (ci J tZ) ?_;refine zR 6 J (ah (us:=bS x29.Key) 0 J J bF J) ?_;refine zE 7 J (ci J pL) ?_;refine zR 8 J (aY 0 J J dH J) ?_;refine zE 9 J (bd J (sO _ _ _ _ _)) ?_;refine zE 10 J (aq J) ?_;refine zE 11 J (bc J) ?_;refine zE 12 J (ef J pK) ?_;refine zR 13 J (aY 4 J J oz J) ?_;refine zR 14 J (bL 2 J aC J MC) ?_;refine pi 15 J V V (tJ (a:=(⟨p24,x29.Key,x29.Attrs⟩:MN)) (b:=(p26.length:Int)) 3 J J J J Tryz.underlying203 xq) ?_;rintro _ _ rfl;refine bC V ?_;refine fa ?_;refine aB ?_;obtain ⟨x31,hx31,h⟩:=aa h;obtain ⟨lx31,ux31,hx31⟩:=aJ hx31;obtain ⟨q32,h⟩:=ay h;refine iQ (t:=[(0,pV B1 0),(6,iV 0),(7,iV 0),(8,iV p24),(13,pV B30 0),(51,I A7 n7 c7),(52,iV (p7.length:Int)),(53,iV p25)]) ?_ ki (ae _)
   refine ik V 21 [0] [0,4,20] [72,73,74,75,76,77,78,79,80,81,82,83,84,85,86,87,88,89,90,91,92] [[],[],[1],[2],[3],[],[],[6],[],[8],[],[10],[11],[12],[],[13,14],[15],[16],[17],[5,7,9,18],[19]] [aV (pV B1 0),
aV (pV B1 0),
aV (pV B1 0),
aV (pV B1 0),
aV (I A26 n26 c26),
aV (iV p24),
aV (pV B30 1),
aV ((fT x29.Key)),
aV (pV B30 4),
aV (iV x29.Attrs),
aV (pV B1 0),
aV (pV B1 0),
aV (pV B1 0),
aV (I A26 n26 c26),
aV (iV p24),
aV (fo (I A26 n26 c26) p24.toNat 6 0),
aV (fo (I A26 n26 c26) p24.toNat 6 5),
aV (iV x31.Len),
aV (iV (x31.Len+1)),
aV (.agg #[iV p24,iV x29.Key.Kind,iV x29.Key.N,.string x29.Key.S,iV x29.Attrs,iV (x31.Len+1)]),
aX3 (fun (A34:Option Addr) (n34 c34:Nat)=> I A34 n34 c34) (fun A34 n34 c34=> [cL A34 n34 c34 ([(⟨p24,x29.Key,x29.Attrs,x31.Len+1⟩:MZ)]:List MZ)])] [] (ae _) (eX rfl jP) V rfl rfl ?_ ?_ ?_
   ·refine eW J ?_ ?_
    ·exact kh (aq J) J (bg J (ae _))
    exact jO
   ·refine ak J ?_ ?_
    ·refine lH (cx (R:=rY) (vss:=[[iV p24,iV x29.Key.Kind,iV x29.Key.N,.string x29.Key.S,iV x29.Attrs,iV (x31.Len+1)]]) (xs:=[(⟨p24,x29.Key,x29.Attrs,x31.Len+1⟩:MZ)]) J (uX _ _ _ _ _ _) J J (fun _ _ hr=> .cons J All2.nil)) J ?_;rintro _ _ ⟨A33,n33,c33,rfl,rfl⟩;exact H7 A33 n33 c33 (ae _)
    refine ak J ?_ ?_
    ·exact cb (bd J (vT _ _ _ _ _ _)) J (bg J (ae _))
    refine ak J ?_ ?_
    ·exact cb (bI J J q32.1 q32.2) J (bg J (ae _))
    refine ak J ?_ ?_
    ·exact gi (fB (u:=iV x31.Len) 2 J aC J hx31 dH (fun _ _ _ h=>by rw [show _=_ from h];rfl)) J (bg J (ae _))
    refine ak J ?_ ?_
    ·exact gi (pC 2 J aC J (toNat_lt lx31 ux31) tY) J (bg J (ae _))
    refine ak J ?_ ?_
    ·exact gi (bx 2 J aC J J MC dX lx31 ux31) J (bg J (ae _))
    refine ak J ?_ ?_
    ·exact cb (aq J) J (bg J (ae _))
    refine ak J ?_ ?_
    ·exact gi (aY 4 J J oz J) J (bg J (ae _))
    refine ak J ?_ ?_
    ·exact cb (ef J pK) J (bg J (ae _))
    refine ak J ?_ ?_
    ·exact cb (bc J) J (bg J (ae _))
    refine ak J ?_ ?_
    ·exact cb (aq J) J (bg J (ae _))
    refine ak J ?_ ?_
    ·exact gi (aY 0 J J dH J) J (bg J (ae _))
    refine ak J ?_ ?_
    ·exact cb (ci J pL) J (bg J (ae _))
    refine ak J ?_ ?_
    ·exact gi (ah (us:=bS x29.Key) 0 J J bF J) J (bg J (ae _))
    refine ak J ?_ ?_
    ·exact cb (ci J tZ) J (bg J (ae _))
    refine ak J ?_ ?_
    ·exact cb (aq J) J (bg J (ae _))
    refine ak J ?_ ?_
    ·exact gi (aY 4 J J oz J) J (bg J (ae _))
    refine ak J ?_ ?_
    ·exact cb (ef J pK) J (bg J (ae _))
    refine ak J ?_ ?_
    ·exact cb (bc J) J (bg J (ae _))
    refine ak J ?_ ?_
    ·exact cb (aq J) J (bg J (ae _))
    refine ak J ?_ ?_
    ·exact cb (aq J) J (bg J (ae _))
    exact eC
   intro A34 n34 c34;refine mq (t:=[(72,pV B1 0),(76,I A26 n26 c26),(92,I A34 n34 c34),(0,pV B1 0),(6,iV 0),(7,iV 0),(8,iV p24),(13,pV B30 0),(51,I A7 n7 c7),(52,iV (p7.length:Int)),(53,iV p25)]) (L':=[cL A34 n34 c34 ([(⟨p24,x29.Key,x29.Attrs,x31.Len+1⟩:MZ)]:List MZ),ac B30 201 (fj x29),ut A7 n7 c7 p7,cL A26 n26 c26 p26,aG aD cy M3 (Ck p27 (⟨p24,x29.Key,x29.Attrs⟩:MN) (p26.length:Int)),ac B1 205 [I A26 n26 c26,.map (some M3)]]) ?_ ki (ae _);obtain ⟨q35,h⟩:=ay h;refine vG 21 J V (ed 3 0 J J aC J J MC KW J J q35) J J J ?_;rintro _ _ ⟨A36,n36,c36,rfl,rfl⟩;refine tk 22 J V (bc J) J J J ?_;refine tk 23 J V (ef J pK) J J J ?_;refine lO 24 J V (ar (us:=[I A36 n36 c36]) (cs':=[I A36 n36 c36,.map (some M3)]) 5 J J J J Hm J J J) J J ?_;rintro _ _ rfl;refine vv ?_;refine jT V ?_;refine U ?_;refine gR (bL 3 J aC J MC) ?_;obtain ⟨q37,h⟩:=ay h;refine gE (dI J J q37.1 q37.2) ?_;refine U ?_;obtain ⟨q38,h⟩:=ay h;refine gE (bI J J q38.1 q38.2) ?_;refine U ?_;exact ⟨m23,_,_,Nh _,⟨((p26++([(⟨p24,x29.Key,x29.Attrs,x31.Len+1⟩:MZ)]:List MZ)).length:Int) - 1,p25+1,p26++([(⟨p24,x29.Key,x29.Attrs,x31.Len+1⟩:MZ)]:List MZ),Ck p27 (⟨p24,x29.Key,x29.Attrs⟩:MN) (p26.length:Int),A36,n36,c36,h,J,J⟩,sA,cS [2,3,4,5] 6⟩
  refine U ?_;exact ⟨_,_,⟨p24,p26,p27,A26,n26,c26,h,J,J⟩,sA,cS [1,2,3] 4⟩
 rintro _ _ ⟨p20,p21,p22,A21,n21,c21,h,rfl,rfl⟩;refine U ?_;obtain rfl:=am h;exact dc J J J (cS [2,0,1] 3) ⟨_,_,_,_,J,J⟩
def jp (N:Nat)(a0:MU)(a1:Int)(a2:MM)(a3:Int):Option (Int×Int×MU):=
 (ft N a0 a1 a2 a3).bind fun y5=>bif !decide (y5=0) then (some (0,y5,a0)) else ((dY N a0 a1 a2).bind fun y7=>bif y7.2.2 then (some (0,4,a0)) else ((ez N a0 a1).bind fun y9=>bif decide (1024≤y9) then (some (0,9,a0)) else ((iA N a0 a1 ([(⟨0,a2,a3,0⟩:MZ)]:List MZ)).bind fun y12=>some (y12.1,y12.2.1,y12.2.2))))
set_option maxHeartbeats 4000000 in
theorem so {N:Nat}{a0:MU}{a1:Int}{a2:MM}{a3:Int}{r:(Int×Int×MU)}(h:jp N a0 a1 a2 a3=some r):Okc Tryz.prog 174 [pV B1 0,iV a1,(fT a2),iV a3] ([ac B1 205 [I A2 n2 c2,.map (some M3)],cL A2 n2 c2 a0.shapes_,aG aD cy M3 a0.next_]) (fun u post=> ∃A0 n0 c0 M1,u=.tuple #[iV r.1,iV r.2.1]∧post=[ac B1 205 [I A0 n0 c0,.map (some M1)],cL A0 n0 c0 r.2.2.shapes_,aG aD cy M1 r.2.2.next_]):=by
 refine bD Tryz.func174 J J ?_;simp only [aW];refine U ?_
 refine gB (aO J J) fun B4=> ?_
 refine U ?_;refine aB ?_;refine U ?_;refine gR (ah (us:=bS a2) 0 J J bF J) ?_;refine U ?_;obtain ⟨y5,k,h⟩:=aa h;refine gV (ap (kl k) AK J (hD (ax (i:=1) J) (hD (ao (i:=2) J) (hD (aU (i:=3) J) aj))) jo) ?_;refine U ?_;refine gH J h (fun h=> ?_) (fun h=> ?_)
 ·refine U ?_;obtain rfl:=am h;exact dc J J J (cS [1,2,3] 4) ⟨_,_,_,_,J,J⟩
 refine U ?_;refine aB ?_;refine U ?_;refine gR (ah (us:=bS a2) 0 J J bF J) ?_;obtain ⟨y7,k,h⟩:=aa h;refine gV (ap (iW k) wv J (hD (ax (i:=1) J) (hD (ao (i:=2) J) (hD (aU (i:=3) J) aj))) ic) ?_;refine U ?_;refine gH J h (fun h=> ?_) (fun h=> ?_)
 ·refine U ?_;obtain rfl:=am h;exact dc J J J (cS [1,2,3] 4) ⟨_,_,_,_,J,J⟩
 refine U ?_;refine aB ?_;refine U ?_;obtain ⟨y9,k,h⟩:=aa h;refine gV (ap (lE k) AI J (hD (ax (i:=1) J) (hD (ao (i:=2) J) (hD (aU (i:=3) J) aj))) km) ?_;refine U ?_;refine gH J h (fun h=> ?_) (fun h=> ?_)
 ·refine U ?_;obtain rfl:=am h;exact dc J J J (cS [1,2,3] 4) ⟨_,_,_,_,J,J⟩
 refine U ?_;refine gR (ah (us:=bS a2) 0 J J bF J) ?_;refine U ?_;refine gE (bd J (BY _ _ _ _)) ?_;refine gD (cx (R:=rY) (vss:=[[iV 0,iV a2.Kind,iV a2.N,.string a2.S,iV a3,iV 0]]) (xs:=[(⟨0,a2,a3,0⟩:MZ)]) J (uX _ _ _ _ _ _) J J (fun _ _ hr=> .cons J All2.nil)) ?_;rintro _ _ ⟨A11,n11,c11,rfl,rfl⟩;refine lq (dC 0 J) ?_;obtain ⟨y12,k,h⟩:=aa h;refine gD (aA (lC k) AJ J (az [0] [2,3,4] [0,1] 5 J)) ?_;rintro _ _ ⟨_,⟨A13,n13,c13,M14,rfl,rfl⟩,rfl⟩;refine U ?_;obtain rfl:=am h;exact dc J J J (cS [0,1,2] 5) ⟨_,_,_,_,J,J⟩
def gu (N:Nat)(a0:MP)(a1:MX)(a2:MQ):Option (MQ×MT):=
 bif decide (ai .i64 a1.Attrs 8=0) then (some (a1.Value,a0.w_)) else ((bif decide (a2.Kind=9) then ((bV N a0.w_ a2).bind fun y25=>some (decide (y25.Kind=5))) else (some false)).bind fun b24=>bif b24 then ((bH N a0.w_ a2 (⟨5,0,0,0,([a1.Get,a1.Set]:List MQ),[]⟩:MY)).bind fun y29=>some (a2,y29)) else ((fL N a0.w_ (⟨5,0,0,0,([a1.Get,a1.Set]:List MQ),[]⟩:MY)).bind fun y41=>some (y41.1,y41.2)))
set_option maxHeartbeats 4000000 in
theorem kp {N:Nat}{a0:MP}{a1:MX}{a2:MQ}{r:(MQ×MT)}(h:gu N a0 a1 a2=some r):Okc Tryz.prog 175 [pV B1 0,(bJ a1),(bz a2)] ([bm A15 n15 c15 a0.w_.symbols_,cH A16 n16 c16 a0.w_.events_,bm A17 n17 c17 a0.w_.out_,ac B1 140 [iV a0.Cell.Kind,iV a0.Cell.Shape,iV a0.Cell.Flags,iV a0.Cell.Age,I A2 n2 c2,I A3 n3 c3,pV B4 0,iV a0.at_.Kind,iV a0.at_.N,.string a0.at_.S],aX A2 n2 c2 a0.Cell.Slots,aX A3 n3 c3 a0.Cell.More,ac B4 151 (dm a0.w_ B5 B12 A15 n15 c15 A16 n16 c16 A17 n17 c17),ac B5 199 [I A6 n6 c6,I A7 n7 c7,I A8 n8 c8,I A9 n9 c9,pV B10 0],bw A6 n6 c6 a0.w_.heap_.m_.Young,bw A7 n7 c7 a0.w_.heap_.m_.Old,aX A8 n8 c8 a0.w_.heap_.roots_,aX A9 n9 c9 a0.w_.heap_.pending_,ac B10 247 [.map (some M11)],aG cz cC M11 a0.w_.heap_.set_.at_,ac B12 205 [I A13 n13 c13,.map (some M14)],cL A13 n13 c13 a0.w_.shapes_.shapes_,aG aD cy M14 a0.w_.shapes_.next_]) (fun u post=> ∃A500 n500 c500 A501 n501 c501 A502 n502 c502 A503 n503 c503 M504 A505 n505 c505 M506 A507 n507 c507 A508 n508 c508 A509 n509 c509,u=.agg #[iV r.1.Kind,iV r.1.N,.string r.1.S]∧post=[ac B4 151 (dm r.2 B5 B12 A507 n507 c507 A508 n508 c508 A509 n509 c509),ac B5 199 [I A500 n500 c500,I A501 n501 c501,I A502 n502 c502,I A503 n503 c503,pV B10 0],bw A500 n500 c500 r.2.heap_.m_.Young,bw A501 n501 c501 r.2.heap_.m_.Old,aX A502 n502 c502 r.2.heap_.roots_,aX A503 n503 c503 r.2.heap_.pending_,ac B10 247 [.map (some M504)],aG cz cC M504 r.2.heap_.set_.at_,ac B12 205 [I A505 n505 c505,.map (some M506)],cL A505 n505 c505 r.2.shapes_.shapes_,aG aD cy M506 r.2.shapes_.next_,bm A507 n507 c507 r.2.symbols_,cH A508 n508 c508 r.2.events_,bm A509 n509 c509 r.2.out_,ac B1 140 [iV a0.Cell.Kind,iV a0.Cell.Shape,iV a0.Cell.Flags,iV a0.Cell.Age,I A2 n2 c2,I A3 n3 c3,pV B4 0,iV a0.at_.Kind,iV a0.at_.N,.string a0.at_.S],aX A2 n2 c2 a0.Cell.Slots,aX A3 n3 c3 a0.Cell.More]):=by
 refine bD Tryz.func175 J J ?_;simp only [aW];refine U ?_
 refine gB (aO J J) fun B18=> ?_
 refine gB (aO J J) fun B19=> ?_
 refine gB (aM gw J) fun B20=> ?_
 refine U ?_;refine aB ?_;refine U ?_;refine gE (bE J J) ?_;refine U ?_;refine gH J h (fun h=> ?_) (fun h=> ?_)
 ·refine U ?_;refine gR (ah (us:=au a1.Value) 2 J J aH J) ?_;refine gW (ar (us:=au a1.Value) (cs':=au a1.Value) 0 J J J J bv J J J) ?_;refine U ?_;obtain rfl:=am h;exact cD (rs:=[.cell 6 30]) (vs:=[(bz a1.Value)]) J (.cons (bG 0 J J aH) .nil) J (cS [9,10,11,12,13,14,15,16,17,18,19,3,4,5,6,7,8] 20) ⟨_,_,_,_,_,_,_,_,_,_,_,_,_,_,_,_,_,_,_,_,_,_,_,_,_,_,J,J⟩
 refine U ?_;refine gR (ah (us:=au a1.Get) 2 J J aH J) ?_;refine U ?_;refine gR (ah (us:=au a1.Set) 2 J J aH J) ?_;refine gD (cx (R:=cc) (vss:=[(au a1.Get),(au a1.Set)]) (xs:=[a1.Get,a1.Set]) J (xZ _ _ _ _ _ _) J J (fun _ _ hr=> .cons J (.cons J All2.nil))) ?_;rintro _ _ ⟨A22,n22,c22,rfl,rfl⟩;refine gE (bd J (BZ _ _ _ _)) ?_
 refine gB (aM gx J) fun B23=> ?_
 refine gW (ar (us:=[iV 5,iV 0,iV 0,iV 0,I A22 n22 c22,I none 0 0]) (cs':=[iV 5,iV 0,iV 0,iV 0,I A22 n22 c22,I none 0 0]) 0 J J J J du J J J) ?_;refine U ?_;refine aB ?_;refine aB ?_;refine bK V _ (ae _) ?_;refine zE 0 J (ef J nW) ?_;refine zR 1 J (aY 3 J J dH J) ?_;refine zE 2 J (vB J J) ?_;refine zE 3 J (aq J) ?_;obtain ⟨b24,hb24,h⟩:=aa h;refine gZ (fun l=>(((((((((l.setIfInBounds 4 true).setIfInBounds 5 true).setIfInBounds 6 true).setIfInBounds 7 true).setIfInBounds 8 true).setIfInBounds 9 true).setIfInBounds 10 true).setIfInBounds 11 true).setIfInBounds 12 true)) 0 32 b24 (fun rest=> ?_) ?_
 ·clear h;refine i3 23 J (fun g24=> ?_) (fun g24=> ?_)
  ·have h:=aE g24 hb24;refine dG 4 J V (aq J) (bp g24 J) J ?_;refine dG 5 J V (bc J) (bp g24 J) J ?_;refine dG 6 J V (ci J oG) (bp g24 J) J ?_;refine kB 7 J V (aY 8 J J vu J) (bp g24 J) J ?_;refine kB 8 J V (ah (us:=au a2) 3 J J aH J) (bp g24 J) J ?_;obtain ⟨y25,k,h⟩:=aa h;refine mK 9 J V (ap (iX k) wx J (hD (ax (i:=11) J) (hD (ax (i:=12) J) (hD (ao (i:=13) J) (hD (ao (i:=14) J) (hD (ao (i:=15) J) (hD (ao (i:=16) J) (hD (ax (i:=17) J) (hD (aU (i:=18) J) (hD (ax (i:=19) J) (hD (ao (i:=20) J) (hD (aU (i:=21) J) (hD (al (i:=5) J J) (hD (al (i:=6) J J) (hD (al (i:=7) J J) aj)))))))))))))) ie) J (bp g24 J) J ?_;rintro _ _ ⟨_,⟨A26,n26,c26,A27,n27,c27,rfl,rfl⟩,rfl⟩;refine eg (cS [2,3,4,5,6,7,8,9,10,11,12,13,14,15,16,17,18,19,20,21,22,23] 24) ?_;refine dG 10 J V (xE J (ES _ _ _ _ _ _ _ _ _ _)) (bp g24 J) J ?_;refine dG 11 J V (vB J J) (bp g24 J) J ?_;refine zE 12 J (d3 g24 J J) ?_;obtain rfl:=am h;exact eQ rest (cN J (av (av (av (av (av (av (av (av (av bU J) J) J) J) J) J) J) J) J)) (cS [2,3,4,5,6,7,8,9,10,11,12,13,14,15,16,17,18,19,20,21,22,23] 24) (ae _)
  have h:=aF g24 hb24;refine cv 4 J V (fk g24 J) J ?_;refine cv 5 J V (fk g24 J) J ?_;refine cv 6 J V (fk g24 J) J ?_;refine cv 7 J V (fk g24 J) J ?_;refine cv 8 J V (fk g24 J) J ?_;refine cv 9 J V (fk g24 J) J ?_;refine cv 10 J V (fk g24 J) J ?_;refine cv 11 J V (fk g24 J) J ?_;refine zE 12 J (d4 g24 J J) ?_;obtain rfl:=am h;exact eQ rest (cN J (av (av (av (av (av (av (av (av (av bU J) J) J) J) J) J) J) J) J)) (ae _) (ae _)
 refine bC V ?_;refine fa ?_;refine gH J h (fun h=> ?_) (fun h=> ?_)
 ·refine aB ?_;refine bK V ([ac B23 138 [iV 5,iV 0,iV 0,iV 0,I A22 n22 c22,I none 0 0],ac B20 30 [iV 0,iV 0,.string (⟨#[]⟩)],ac B19 30 (au a2),ac B18 42 (aR a1),bm A15 n15 c15 a0.w_.symbols_,cH A16 n16 c16 a0.w_.events_,bm A17 n17 c17 a0.w_.out_,ac B1 140 [iV a0.Cell.Kind,iV a0.Cell.Shape,iV a0.Cell.Flags,iV a0.Cell.Age,I A2 n2 c2,I A3 n3 c3,pV B4 0,iV a0.at_.Kind,iV a0.at_.N,.string a0.at_.S],aX A2 n2 c2 a0.Cell.Slots,aX A3 n3 c3 a0.Cell.More]) (cS [0,2,3,4,5,6,7,8,9,10] 22) ?_;refine zE 0 J (aq J) ?_;refine zE 1 J (bc J) ?_;refine zE 2 J (ci J oG) ?_;refine zR 3 J (aY 7 J J vu J) ?_;refine zR 4 J (ah (us:=au a2) 2 J J aH J) ?_;refine zR 5 J (ah (us:=[iV 5,iV 0,iV 0,iV 0,I A22 n22 c22,I none 0 0]) 0 J J cq J) ?_;refine qI (dC 1 J) (cS [0,2,3,4,5,6,7,8,9,10] 22) ?_;refine dt ?_;obtain ⟨y29,k,h⟩:=aa h;refine qI (kd cc _) (cS [1,3,4,5,6,7,8,9,10,11] 23) ?_;refine zD 6 J (aA (dZ k) mS J (az [6,7,8,2,0] [12,13,14,15,16,17,18,19,20,21,22] [0,1,2,3,4,5,6,7,8,9,10,11] 23 J)) ?_;rintro _ _ ⟨_,⟨A30,n30,c30,A31,n31,c31,A32,n32,c32,A33,n33,c33,M34,A35,n35,c35,M36,A37,n37,c37,A38,n38,c38,A39,n39,c39,rfl,rfl⟩,rfl⟩;refine ⟨_,cS [11,12,13,15,17,18,19,20,21,22,23,24,25] 26,(cv_tl).trans ((cv_tl).trans (cv_tl)),?_⟩;refine dt ?_;refine bC V ?_;refine U ?_;refine gR (ah (us:=au a2) 18 J J aH J) ?_;refine gW (ar (us:=au a2) (cs':=au a2) 17 J J J J bv J J J) ?_;refine bM ?_
  refine U ?_;obtain rfl:=am h;exact cD (rs:=[.cell 6 30]) (vs:=[(bz a2)]) J (.cons (bG 17 J J aH) .nil) J (cS [0,1,2,3,4,5,6,7,8,9,10,11,12,13,23,24,25] 26) ⟨_,_,_,_,_,_,_,_,_,_,_,_,_,_,_,_,_,_,_,_,_,_,_,_,_,_,J,J⟩
 refine U ?_;refine aB ?_;refine bK V ([ac B23 138 [iV 5,iV 0,iV 0,iV 0,I A22 n22 c22,I none 0 0],ac B20 30 [iV 0,iV 0,.string (⟨#[]⟩)],ac B19 30 (au a2),ac B18 42 (aR a1),bm A15 n15 c15 a0.w_.symbols_,cH A16 n16 c16 a0.w_.events_,bm A17 n17 c17 a0.w_.out_,ac B1 140 [iV a0.Cell.Kind,iV a0.Cell.Shape,iV a0.Cell.Flags,iV a0.Cell.Age,I A2 n2 c2,I A3 n3 c3,pV B4 0,iV a0.at_.Kind,iV a0.at_.N,.string a0.at_.S],aX A2 n2 c2 a0.Cell.Slots,aX A3 n3 c3 a0.Cell.More]) (cS [0,2,3,4,5,6,7,8,9,10] 22) ?_;refine zE 0 J (aq J) ?_;refine zE 1 J (bc J) ?_;refine zE 2 J (ci J oG) ?_;refine zR 3 J (aY 7 J J vu J) ?_;refine zR 4 J (ah (us:=[iV 5,iV 0,iV 0,iV 0,I A22 n22 c22,I none 0 0]) 0 J J cq J) ?_;refine qI (dC 1 J) (cS [0,2,3,4,5,6,7,8,9,10] 22) ?_;refine dt ?_;obtain ⟨y41,k,h⟩:=aa h;refine qI (kd cc _) (cS [1,3,4,5,6,7,8,9,10,11] 23) ?_;refine zD 5 J (aA (gt k) xV J (az [6,7,8,2,0] [12,13,14,15,16,17,18,19,20,21,22] [0,1,2,3,4,5,6,7,8,9,10,11] 23 J)) ?_;rintro _ _ ⟨_,⟨A42,n42,c42,A43,n43,c43,A44,n44,c44,A45,n45,c45,M46,A47,n47,c47,M48,A49,n49,c49,A50,n50,c50,A51,n51,c51,rfl,rfl⟩,rfl⟩;refine ⟨_,cS [11,12,13,15,17,18,19,20,21,22,23,24,25] 26,(cv_tl).trans ((cv_tl).trans (cv_tl)),?_⟩;refine dt ?_;refine pi 6 J V V (ar (us:=[iV y41.1.Kind,iV y41.1.N,.string y41.1.S]) (cs':=[iV y41.1.Kind,iV y41.1.N,.string y41.1.S]) 17 J J J J bv J J J) ?_;rintro _ _ rfl;refine dt ?_
 refine bC V ?_;refine U ?_;obtain rfl:=am h;exact cD (rs:=[.cell 6 30]) (vs:=[.agg #[iV y41.1.Kind,iV y41.1.N,.string y41.1.S]]) J (.cons (bG 17 J J aH) .nil) J (cS [0,1,2,3,4,5,6,7,8,9,10,11,12,13,23,24,25] 26) ⟨_,_,_,_,_,_,_,_,_,_,_,_,_,_,_,_,_,_,_,_,_,_,_,_,_,_,J,J⟩
def ms (N:Nat)(p5:Int):Option Int:=
 some p5
def ib (N:Nat)(a2:Int)(a0:MU):Nat→Int→Option Int
 |0,_=>none
 |m6+1,p7=>(bR a0.shapes_ p7).bind fun x8=>bif decide (a2<x8.Len) then ((bR a0.shapes_ p7).bind fun x10=>(ib N a2 a0 m6) x10.Up) else (ms N p7)
def f6 (N:Nat)(a0:MU)(a1:Int)(a2:Int):Option Int:=
 ib N a2 a0 N a1
theorem mr {N:Nat}{a0:MU}{a1:Int}{a2:Int}{r:Int}(h:f6 N a0 a1 a2=some r):Okc Tryz.prog 167 [pV B1 0,iV a1,iV a2] ([aT B1 205 [I A2 n2 c2,.map (some M3)],ut A2 n2 c2 a0.shapes_,jg aD cy M3 a0.next_]) (fun u post=>u=iV r∧post=[]):=by
 refine bD Tryz.func167 J J ?_;simp only [aW];refine U ?_;refine ba (fun s L=> ∃p5,ms N p5=some r∧s=[(1,iV p5),(6,iV 0)]∧L=[]) ?_ ?_
 ·refine eZ ?_;refine cn (fun m s L=> ∃p7,ib N a2 a0 m p7=some r∧s=[(0,pV B1 0),(1,iV p7),(2,iV a2),(6,iV 0)]∧L=[ut A2 n2 c2 a0.shapes_,jg aD cy M3 a0.next_,aT B1 205 [I A2 n2 c2,.map (some M3)]]) N _ _ ⟨a1,h,J,J⟩ sA (cS [1,2,0] 3) ?_;rintro (_|m6) _ _ ⟨p7,h,rfl,rfl⟩
  ·exact bu h
  rw [ib.eq_2] at h;refine aB ?_;refine U ?_;refine gR (cQ 2 J J oz J) ?_;refine U ?_;obtain ⟨x8,hx8,h⟩:=aa h;obtain ⟨lx8,ux8,hx8⟩:=aJ hx8;refine gR (bx 0 J aS J J MC dX lx8 ux8) ?_;refine gR (pC 0 J aS J (toNat_lt lx8 ux8) tY) ?_;refine gR (fB (u:=iV x8.Len) 0 J aS J hx8 dH (fun _ _ _ h=>by rw [show _=_ from h];rfl)) ?_;refine U ?_;refine gH J h (fun h=> ?_) (fun h=> ?_)
  ·refine U ?_;refine gR (cQ 2 J J oz J) ?_;refine U ?_;obtain ⟨x10,hx10,h⟩:=aa h;obtain ⟨lx10,ux10,hx10⟩:=aJ hx10;refine gR (bx 0 J aS J J MC dX lx10 ux10) ?_;refine gR (pn 0 J aS J (toNat_lt lx10 ux10) t3) ?_;refine gR (fB (u:=iV x10.Up) 0 J aS J hx10 dH (fun _ _ _ h=>by rw [show _=_ from h];rfl)) ?_;refine U ?_;exact ⟨m6,_,_,Nh _,⟨x10.Up,h,J,J⟩,sA,cS [0,1,2] 3⟩
  refine U ?_;exact ⟨_,_,⟨p7,h,J,J⟩,sA,cS [] 3⟩
 rintro _ _ ⟨p5,h,rfl,rfl⟩;refine U ?_;obtain rfl:=am h;exact aL J J (cS [] 0) ⟨J,J⟩
theorem lJ {r:Int}:∀(u:Value)(p:List Chunk),u=iV r∧p=[]→∀c∈p,cM c:=by
 rintro _ _ ⟨rfl,rfl⟩;exact aj
def iC (N:Nat)(a0:MU)(a1:Int)(a2:MM)(a3:Int):Option (Int×Int×MU):=
 (ft N a0 a1 a2 a3).bind fun y5=>bif !decide (y5=0) then (some (0,y5,a0)) else ((dY N a0 a1 a2).bind fun y7=>bif !y7.2.2 then (some (0,3,a0)) else ((fe N a0 a1).bind fun y9=>dq ((0:Int)≤y7.1∧y7.1.toNat<y9.length) ((bR (List.drop y7.1.toNat y9) 0).bind fun x13=>(f6 N a0 a1 y7.1).bind fun y14=>(iA N a0 y14 (List.set (List.drop y7.1.toNat y9) ((0:Int).toNat) (⟨x13.Up,(⟨x13.Key.Kind,x13.Key.N,x13.Key.S⟩:MM),a3,x13.Len⟩:MZ))).bind fun y15=>some (y15.1,y15.2.1,y15.2.2))))
set_option maxHeartbeats 4000000 in
theorem qM {N:Nat}{a0:MU}{a1:Int}{a2:MM}{a3:Int}{r:(Int×Int×MU)}(h:iC N a0 a1 a2 a3=some r):Okc Tryz.prog 176 [pV B1 0,iV a1,(fT a2),iV a3] ([ac B1 205 [I A2 n2 c2,.map (some M3)],cL A2 n2 c2 a0.shapes_,aG aD cy M3 a0.next_]) (fun u post=> ∃A0 n0 c0 M1,u=.tuple #[iV r.1,iV r.2.1]∧post=[ac B1 205 [I A0 n0 c0,.map (some M1)],cL A0 n0 c0 r.2.2.shapes_,aG aD cy M1 r.2.2.next_]):=by
 refine bD Tryz.func176 J J ?_;simp only [aW];refine U ?_
 refine gB (aO J J) fun B4=> ?_
 refine U ?_;refine aB ?_;refine U ?_;refine gR (ah (us:=bS a2) 0 J J bF J) ?_;refine U ?_;obtain ⟨y5,k,h⟩:=aa h;refine gV (ap (kl k) AK J (hD (ax (i:=1) J) (hD (ao (i:=2) J) (hD (aU (i:=3) J) aj))) jo) ?_;refine U ?_;refine gH J h (fun h=> ?_) (fun h=> ?_)
 ·refine U ?_;obtain rfl:=am h;exact dc J J J (cS [1,2,3] 4) ⟨_,_,_,_,J,J⟩
 refine U ?_;refine gR (ah (us:=bS a2) 0 J J bF J) ?_;obtain ⟨y7,k,h⟩:=aa h;refine gV (ap (iW k) wv J (hD (ax (i:=1) J) (hD (ao (i:=2) J) (hD (aU (i:=3) J) aj))) ic) ?_;refine U ?_;refine aB ?_;refine U ?_;refine gH J h (fun h=> ?_) (fun h=> ?_)
 ·refine U ?_;obtain rfl:=am h;exact dc J J J (cS [1,2,3] 4) ⟨_,_,_,_,J,J⟩
 refine U ?_;obtain ⟨y9,k,h⟩:=aa h;refine gD (ap (jm k) wu J (hD (ax (i:=1) J) (hD (ao (i:=2) J) (hD (aU (i:=3) J) aj))) iz) ?_;rintro _ _ ⟨_,⟨A10,n10,c10,rfl,rfl⟩,rfl⟩;refine U ?_;obtain ⟨q11,h⟩:=ay h;refine gD (JL (l:=y7.1.toNat) 0 J J MC dX J (by rw [Int.toNat_of_nonneg q11.1];rfl) q11.2) ?_;rintro _ _ ⟨A12,n12,c12,rfl,rfl⟩;refine U ?_;obtain ⟨x13,hx13,h⟩:=aa h;obtain ⟨lx13,ux13,hx13⟩:=aJ hx13;refine gR (bx 0 J Dz J J MC dX lx13 ux13) ?_;refine gR (pC 0 J Dz J (toNat_lt lx13 ux13) pL) ?_;refine gW (Et (us:=[iV a3]) (z:=(⟨x13.Up,(⟨x13.Key.Kind,x13.Key.N,x13.Key.S⟩:MM),a3,x13.Len⟩:MZ)) 0 J J J J iM J (toNat_lt lx13 ux13) J (fun S w vs xk hk hr=>by obtain rfl:=Option.some.inj (hk.symm.trans hx13);rw [show _=_ from hr];rfl)) ?_;refine U ?_;obtain ⟨y14,k,h⟩:=aa h;refine gV (ap (mr k) DO J (hD (ax (i:=2) J) (hD (ao (i:=3) J) (hD (aU (i:=4) J) aj))) lJ) ?_;refine K2 ?_;refine lq (H8 0 J) ?_;refine bM ?_;obtain ⟨y15,k,h⟩:=aa h;refine gD (aA (lC k) AJ J (az [0] [2,3,4] [0,1] 5 J)) ?_;rintro _ _ ⟨_,⟨A16,n16,c16,M17,rfl,rfl⟩,rfl⟩;refine U ?_;obtain rfl:=am h;exact dc J J J (cS [0,1,2] 5) ⟨_,_,_,_,J,J⟩
def kq (N:Nat)(y20:(MX×Int×Bool))(a0:MP)(y25:(Int×Int×MU))(a1:MX)(p30:(List MQ))(p31:(List MZ))(p32:(List (MN×Int)))(p33:Int)(p34:Int)(p35:Int)(p36:Int)(p37:Int)(p38:Int)(p39:Int)(p40:Int)(p41:Int)(p42:Int)(p43:(List ByteArray))(p44:Int)(p45:Int)(p46:Int)(p47:(List MV))(p48:(List ByteArray))(p49:(List MY))(p50:(List MY))(p51:(List MQ))(p52:(List MQ))(p53:(List (Int×Bool))):Option (Bool×MP):=
 (dz N (⟨(⟨a0.Cell.Kind,y25.1,a0.Cell.Flags,a0.Cell.Age,p30,a0.Cell.More⟩:MY),(⟨(⟨p33,p34,p35⟩:MR),(⟨p36,p37,p38,p39,p40,p41,p42⟩:MO),(),(⟨(⟨p49,p50⟩:MK),p51,p52,(⟨p53⟩:MW)⟩:Nb),(⟨p31,p32⟩:MU),p43,p44,p45,p46,p47,p48⟩:MT),a0.at_⟩:MP) true).bind fun y68=>some (true,y68)
def f7 (N:Nat)(y20:(MX×Int×Bool))(a1:MX)(a0:MP)(p82:Int)(p83:(List MZ))(p84:(List (MN×Int))):Option (Bool×MP):=
 dq (bQ (y20.2.1+1)) (dq (bQ (y20.2.1+1)) ((bR a0.Cell.Slots (y20.2.1+1)).bind fun x92=>(gu N (⟨(⟨a0.Cell.Kind,p82,a0.Cell.Flags,a0.Cell.Age,a0.Cell.Slots,a0.Cell.More⟩:MY),(⟨a0.w_.spent_,a0.w_.config_,(),a0.w_.heap_,(⟨p83,p84⟩:MU),a0.w_.symbols_,a0.w_.epoch_,a0.w_.serial_,a0.w_.sleepers_,a0.w_.events_,a0.w_.out_⟩:MT),a0.at_⟩:MP) a1 x92).bind fun y93=>(bR a0.Cell.Slots (y20.2.1+1)).bind fun x104=>(dz N (⟨(⟨a0.Cell.Kind,p82,a0.Cell.Flags,a0.Cell.Age,List.set a0.Cell.Slots ((y20.2.1+1).toNat) (⟨y93.1.Kind,y93.1.N,y93.1.S⟩:MQ),a0.Cell.More⟩:MY),y93.2,a0.at_⟩:MP) (!decide (y20.1.Attrs=a1.Attrs))).bind fun y105=>some (true,y105)))
def cP (N:Nat)(a0:MP)(a1:MX):Option (Bool×MP):=
 (cK N a0.w_).bind fun y19=>(bn N a0 a1.Key).bind fun y20=>bif !y20.2.2 then ((ez N a0.w_.shapes_ a0.Cell.Shape).bind fun y23=>bif decide (1024≤y23) then (some (false,a0)) else ((jp N a0.w_.shapes_ a0.Cell.Shape a1.Key a1.Attrs).bind fun y25=>bif !decide (y25.2.1=0) then (some (false,(⟨a0.Cell,(⟨a0.w_.spent_,a0.w_.config_,(),a0.w_.heap_,y25.2.2,a0.w_.symbols_,a0.w_.epoch_,a0.w_.serial_,a0.w_.sleepers_,a0.w_.events_,a0.w_.out_⟩:MT),a0.at_⟩:MP))) else ((gu N (⟨(⟨a0.Cell.Kind,y25.1,a0.Cell.Flags,a0.Cell.Age,a0.Cell.Slots,a0.Cell.More⟩:MY),(⟨a0.w_.spent_,a0.w_.config_,(),a0.w_.heap_,y25.2.2,a0.w_.symbols_,a0.w_.epoch_,a0.w_.serial_,a0.w_.sleepers_,a0.w_.events_,a0.w_.out_⟩:MT),a0.at_⟩:MP) a1 (⟨0,0,⟨#[]⟩⟩:MQ)).bind fun y54=>dq (gQ (a0.Cell.Slots.length+([y54.1]:List MQ).length)) (kq N y20 a0 y25 a1 (a0.Cell.Slots++([y54.1]:List MQ)) y54.2.shapes_.shapes_ y54.2.shapes_.next_ y54.2.spent_.steps_ y54.2.spent_.made_ y54.2.spent_.calls_ y54.2.config_.Way y54.2.config_.Steps y54.2.config_.Calls y54.2.config_.Made y54.2.config_.Young y54.2.config_.Full y54.2.config_.Sites y54.2.symbols_ y54.2.epoch_ y54.2.serial_ y54.2.sleepers_ y54.2.events_ y54.2.out_ y54.2.heap_.m_.Young y54.2.heap_.m_.Old y54.2.heap_.roots_ y54.2.heap_.pending_ y54.2.heap_.set_.at_)))) else (bif !decide (y20.1.Attrs=a1.Attrs) then ((iC N a0.w_.shapes_ a0.Cell.Shape a1.Key a1.Attrs).bind fun y86=>bif !decide (y86.2.1=0) then (some (false,(⟨a0.Cell,(⟨a0.w_.spent_,a0.w_.config_,(),a0.w_.heap_,y86.2.2,a0.w_.symbols_,a0.w_.epoch_,a0.w_.serial_,a0.w_.sleepers_,a0.w_.events_,a0.w_.out_⟩:MT),a0.at_⟩:MP))) else (f7 N y20 a1 a0 y86.1 y86.2.2.shapes_ y86.2.2.next_)) else (f7 N y20 a1 a0 a0.Cell.Shape a0.w_.shapes_.shapes_ a0.w_.shapes_.next_))
set_option maxHeartbeats 4000000 in
theorem nK {N:Nat}{a0:MP}{a1:MX}{r:(Bool×MP)}(h:cP N a0 a1=some r):Okc Tryz.prog 123 [pV B1 0,(bJ a1)] ([bm A15 n15 c15 a0.w_.symbols_,cH A16 n16 c16 a0.w_.events_,bm A17 n17 c17 a0.w_.out_,ac B1 140 [iV a0.Cell.Kind,iV a0.Cell.Shape,iV a0.Cell.Flags,iV a0.Cell.Age,I A2 n2 c2,I A3 n3 c3,pV B4 0,iV a0.at_.Kind,iV a0.at_.N,.string a0.at_.S],aX A2 n2 c2 a0.Cell.Slots,aX A3 n3 c3 a0.Cell.More,ac B4 151 (dm a0.w_ B5 B12 A15 n15 c15 A16 n16 c16 A17 n17 c17),ac B5 199 [I A6 n6 c6,I A7 n7 c7,I A8 n8 c8,I A9 n9 c9,pV B10 0],bw A6 n6 c6 a0.w_.heap_.m_.Young,bw A7 n7 c7 a0.w_.heap_.m_.Old,aX A8 n8 c8 a0.w_.heap_.roots_,aX A9 n9 c9 a0.w_.heap_.pending_,ac B10 247 [.map (some M11)],aG cz cC M11 a0.w_.heap_.set_.at_,ac B12 205 [I A13 n13 c13,.map (some M14)],cL A13 n13 c13 a0.w_.shapes_.shapes_,aG aD cy M14 a0.w_.shapes_.next_]) (fun u post=> ∃A0 n0 c0 A1 n1 c1 A2 n2 c2 A3 n3 c3 A4 n4 c4 A5 n5 c5 M6 A7 n7 c7 M8 A9 n9 c9 A10 n10 c10 A11 n11 c11,u=.bool r.1∧post=[ac B1 140 [iV r.2.Cell.Kind,iV r.2.Cell.Shape,iV r.2.Cell.Flags,iV r.2.Cell.Age,I A0 n0 c0,I A1 n1 c1,pV B4 0,iV r.2.at_.Kind,iV r.2.at_.N,.string r.2.at_.S],aX A0 n0 c0 r.2.Cell.Slots,aX A1 n1 c1 r.2.Cell.More,ac B4 151 (dm r.2.w_ B5 B12 A9 n9 c9 A10 n10 c10 A11 n11 c11),ac B5 199 [I A2 n2 c2,I A3 n3 c3,I A4 n4 c4,I A5 n5 c5,pV B10 0],bw A2 n2 c2 r.2.w_.heap_.m_.Young,bw A3 n3 c3 r.2.w_.heap_.m_.Old,aX A4 n4 c4 r.2.w_.heap_.roots_,aX A5 n5 c5 r.2.w_.heap_.pending_,ac B10 247 [.map (some M6)],aG cz cC M6 r.2.w_.heap_.set_.at_,ac B12 205 [I A7 n7 c7,.map (some M8)],cL A7 n7 c7 r.2.w_.shapes_.shapes_,aG aD cy M8 r.2.w_.shapes_.next_,bm A9 n9 c9 r.2.w_.symbols_,cH A10 n10 c10 r.2.w_.events_,bm A11 n11 c11 r.2.w_.out_]):=by
 refine bD Tryz.func123 J J ?_;simp only [aW];refine U ?_
 refine gB (aO J J) fun B18=> ?_
 refine U ?_;obtain ⟨y19,k,h⟩:=aa h;refine gV (ap (eD k) sg J (hD (ax (i:=7) J) (hD (ax (i:=8) J) (hD (ao (i:=9) J) (hD (ao (i:=10) J) (hD (ao (i:=11) J) (hD (ao (i:=12) J) (hD (ax (i:=13) J) (hD (aU (i:=14) J) (hD (ax (i:=15) J) (hD (ao (i:=16) J) (hD (aU (i:=17) J) (hD (al (i:=1) J J) (hD (al (i:=2) J J) (hD (al (i:=3) J J) aj)))))))))))))) dU) ?_;refine U ?_;refine gR (ah (us:=bS a1.Key) 0 J J bF J) ?_;obtain ⟨y20,k,h⟩:=aa h;refine gV (ap (iY k) wz J (hD (ax (i:=4) J) (hD (ao (i:=5) J) (hD (ao (i:=6) J) (hD (ax (i:=7) J) (hD (ax (i:=8) J) (hD (ao (i:=9) J) (hD (ao (i:=10) J) (hD (ao (i:=11) J) (hD (ao (i:=12) J) (hD (ax (i:=13) J) (hD (aU (i:=14) J) (hD (ax (i:=15) J) (hD (ao (i:=16) J) (hD (aU (i:=17) J) (hD (al (i:=1) J J) (hD (al (i:=2) J J) (hD (al (i:=3) J J) aj))))))))))))))))) ig) ?_;refine U ?_
 refine gB (aM dB J) fun B21=> ?_
 refine gW (ar (us:=aR y20.1) (cs':=aR y20.1) 0 J J J J cm J J J) ?_;refine bM ?_;refine U ?_;refine aB ?_;refine U ?_;refine gH J h (fun h=> ?_) (fun h=> ?_)
 ·refine aB ?_;refine U ?_;obtain ⟨y23,k,h⟩:=aa h;refine gV (ap (lE k) AI J (hD (ax (i:=16) J) (hD (ao (i:=17) J) (hD (aU (i:=18) J) aj))) km) ?_;refine U ?_;refine gH J h (fun h=> ?_) (fun h=> ?_)
  ·refine U ?_;obtain rfl:=am h;exact aL J J (cS [5,6,7,8,9,10,11,12,13,14,15,16,17,18,2,3,4] 19) ⟨_,_,_,_,_,_,_,_,_,_,_,_,_,_,_,_,_,_,_,_,_,_,_,_,_,_,_,_,_,_,_,_,J,J⟩
  refine U ?_;refine aB ?_;refine bK V ([ac B21 42 (aR y20.1),ac B18 42 (aR a1),bm A15 n15 c15 a0.w_.symbols_,cH A16 n16 c16 a0.w_.events_,bm A17 n17 c17 a0.w_.out_,ac B1 140 [iV a0.Cell.Kind,iV a0.Cell.Shape,iV a0.Cell.Flags,iV a0.Cell.Age,I A2 n2 c2,I A3 n3 c3,pV B4 0,iV a0.at_.Kind,iV a0.at_.N,.string a0.at_.S],aX A2 n2 c2 a0.Cell.Slots,aX A3 n3 c3 a0.Cell.More,ac B4 151 (dm a0.w_ B5 B12 A15 n15 c15 A16 n16 c16 A17 n17 c17),ac B5 199 [I A6 n6 c6,I A7 n7 c7,I A8 n8 c8,I A9 n9 c9,pV B10 0],bw A6 n6 c6 a0.w_.heap_.m_.Young,bw A7 n7 c7 a0.w_.heap_.m_.Old,aX A8 n8 c8 a0.w_.heap_.roots_,aX A9 n9 c9 a0.w_.heap_.pending_,ac B10 247 [.map (some M11)],aG cz cC M11 a0.w_.heap_.set_.at_]) (cS [0,1,2,3,4,5,6,7,8,9,10,11,12,13,14,15] 19) ?_;refine zE 0 J (aq J) ?_;refine zE 1 J (aq J) ?_;refine zE 2 J (bc J) ?_;refine zE 3 J (ef J gc) ?_;refine zE 4 J (ci J nk) ?_;refine zR 5 J (aY 5 J J dH J) ?_;refine zE 6 J (ef J wm) ?_;refine zR 7 J (ah (us:=bS a1.Key) 1 J J bF J) ?_;refine zE 8 J (ci J tX) ?_;refine zR 9 J (aY 1 J J dH J) ?_;obtain ⟨y25,k,h⟩:=aa h;refine zD 10 J (aA (so k) Ix J (az [] [16,17,18] [0,1,2,3,4,5,6,7,8,9,10,11,12,13,14,15] 19 J)) ?_;rintro _ _ ⟨_,⟨A26,n26,c26,M27,rfl,rfl⟩,rfl⟩;refine eg (cS [3,4,5,6,7,8,9,10,11,12,13,14,15,16,17,18] 19) ?_;refine dt ?_;refine zE 11 J (aq J) ?_;refine zE 12 J (bq J J) ?_;refine zE 13 J (bq J J) ?_
  refine zE 14 J (bj J) ?_;refine zE 15 J (bj J) ?_;refine bC V ?_;refine fa ?_;refine aB ?_;refine U ?_;refine gH J h (fun h=> ?_) (fun h=> ?_)
  ·refine U ?_;obtain rfl:=am h;exact aL J J (cS [8,9,10,11,12,13,14,15,16,17,18,0,1,2,5,6,7] 19) ⟨_,_,_,_,_,_,_,_,_,_,_,_,_,_,_,_,_,_,_,_,_,_,_,_,_,_,_,_,_,_,_,_,J,J⟩
  refine U ?_;refine gW (ar (us:=[iV y25.1]) (cs':=[iV a0.Cell.Kind,iV y25.1,iV a0.Cell.Flags,iV a0.Cell.Age,I A2 n2 c2,I A3 n3 c3,pV B4 0,iV a0.at_.Kind,iV a0.at_.N,.string a0.at_.S]) 8 J J J J iM J J J) ?_;refine bM ?_;refine U ?_;refine ba (fun s L=> ∃p30 p31 p32 p33 p34 p35 p36 p37 p38 p39 p40 p41 p42 p43 p44 p45 p46 p47 p48 p49 p50 p51 p52 p53 A30 n30 c30 A31 n31 c31 M32 A43 n43 c43 A47 n47 c47 A48 n48 c48 A49 n49 c49 A50 n50 c50 A51 n51 c51 A52 n52 c52 M53,kq N y20 a0 y25 a1 p30 p31 p32 p33 p34 p35 p36 p37 p38 p39 p40 p41 p42 p43 p44 p45 p46 p47 p48 p49 p50 p51 p52 p53=some r∧s=[(0,pV B1 0),(3,pV B18 0),(4,.bool false),(5,pV B12 0),(6,pV B21 0),(7,iV y20.2.1)]∧L=[aX A30 n30 c30 p30,aX A3 n3 c3 a0.Cell.More,ac B1 140 [iV a0.Cell.Kind,iV y25.1,iV a0.Cell.Flags,iV a0.Cell.Age,I A30 n30 c30,I A3 n3 c3,pV B4 0,iV a0.at_.Kind,iV a0.at_.N,.string a0.at_.S],ac B18 42 (aR a1),cL A31 n31 c31 p31,aG aD cy M32 p32,ac B12 205 [I A31 n31 c31,.map (some M32)],ac B21 42 (aR y20.1),bm A43 n43 c43 p43,cH A47 n47 c47 p47,bm A48 n48 c48 p48,ac B4 151 [iV p33,iV p34,iV p35,iV p36,iV p37,iV p38,iV p39,iV p40,iV p41,iV p42,.nilIface,pV B5 0,pV B12 0,I A43 n43 c43,iV p44,iV p45,iV p46,I A47 n47 c47,I A48 n48 c48],bw A49 n49 c49 p49,bw A50 n50 c50 p50,aX A51 n51 c51 p51,aX A52 n52 c52 p52,ac B5 199 [I A49 n49 c49,I A50 n50 c50,I A51 n51 c51,I A52 n52 c52,pV B10 0],aG cz cC M53 p53,ac B10 247 [.map (some M53)]]) ?_ ?_
  ·refine bK V ([ac B21 42 (aR y20.1),ac B18 42 (aR a1),bm A15 n15 c15 a0.w_.symbols_,cH A16 n16 c16 a0.w_.events_,bm A17 n17 c17 a0.w_.out_,aX A3 n3 c3 a0.Cell.More]) (cS [3,4,5,6,7,10] 19) ?_;refine zE 0 J (aq J) ?_;refine zE 1 J (aq J) ?_;refine zE 2 J (bc J) ?_;refine zE 3 J (ef J gc) ?_;refine zE 4 J (ci J kx) ?_;refine zE 6 J (aq J) ?_;refine zR 7 J (ah (us:=aR a1) 1 J J dA J) ?_;refine zE 8 J (bd J (gC)) ?_;refine vc 5 9 V ?_ ?_
   ·refine jA J (qy (aY 8 J J iO J)) J J J ?_;rintro _ _ ⟨rfl,rfl⟩;refine eg (cS [3,4,5,6,7,10] 19) ?_;obtain ⟨y54,hy54,h⟩:=aa h;refine zD 9 J (aA (kp hy54) AH J (az [5,6,7] [8,9,10,11,12,13,14,15,16,17,18,0,1,2] [3,4,5,6,7] 19 J)) ?_;rintro _ _ ⟨_,⟨A55,n55,c55,A56,n56,c56,A57,n57,c57,A58,n58,c58,M59,A60,n60,c60,M61,A62,n62,c62,A63,n63,c63,A64,n64,c64,rfl,rfl⟩,rfl⟩;refine ⟨[bm A62 n62 c62 y54.2.symbols_,cH A63 n63 c63 y54.2.events_,bm A64 n64 c64 y54.2.out_,ac B21 42 (aR y20.1),ac B18 42 (aR a1),bm A15 n15 c15 a0.w_.symbols_,cH A16 n16 c16 a0.w_.events_,bm A17 n17 c17 a0.w_.out_,aX A3 n3 c3 a0.Cell.More],cS [11,12,13,17,18,19,20,21,16] 22,(cv_tl).trans ((cv_tl).trans (cv_tl)),?_⟩;refine dt ?_;refine zD 10 J (cx (R:=cc) (vss:=[[iV y54.1.Kind,iV y54.1.N,.string y54.1.S]]) (xs:=[y54.1]) J (jF _ _ _) J J (fun _ _ hr=> .cons J All2.nil)) ?_;rintro _ _ ⟨A65,n65,c65,rfl,rfl⟩;refine eg (cS [12,13,14,18,19,20,21,22,17] 23) ?_;obtain ⟨q66,h⟩:=ay h;refine zD 11 J (ed 16 0 J J aC J J hE yi J J q66) ?_;rintro _ _ ⟨A67,n67,c67,rfl,rfl⟩;refine eg (cS [12,13,14,18,19,20,21,22,17] 23) ?_;refine dt ?_;refine zE 12 J (bc J) ?_;refine zE 13 J (ef J gc) ?_;refine zE 14 J (ci J kx) ?_;refine zO 15 J (ar (us:=[I A67 n67 c67]) (cs':=[iV a0.Cell.Kind,iV y25.1,iV a0.Cell.Flags,iV a0.Cell.Age,I A67 n67 c67,I A3 n3 c3,pV B4 0,iV a0.at_.Kind,iV a0.at_.N,.string a0.at_.S]) 15 J J J J nv J J J) ?_
    rintro _ _ rfl;refine eg (cS [12,13,14,18,19,20,21,22,17] 23) ?_;refine dt ?_;refine bC V ?_;refine fa ?_;exact ⟨_,_,⟨a0.Cell.Slots++([y54.1]:List MQ),y54.2.shapes_.shapes_,y54.2.shapes_.next_,y54.2.spent_.steps_,y54.2.spent_.made_,y54.2.spent_.calls_,y54.2.config_.Way,y54.2.config_.Steps,y54.2.config_.Calls,y54.2.config_.Made,y54.2.config_.Young,y54.2.config_.Full,y54.2.config_.Sites,y54.2.symbols_,y54.2.epoch_,y54.2.serial_,y54.2.sleepers_,y54.2.events_,y54.2.out_,y54.2.heap_.m_.Young,y54.2.heap_.m_.Old,y54.2.heap_.roots_,y54.2.heap_.pending_,y54.2.heap_.set_.at_,A67,n67,c67,A60,n60,c60,M61,A62,n62,c62,A63,n63,c63,A64,n64,c64,A55,n55,c55,A56,n56,c56,A57,n57,c57,A58,n58,c58,M59,h,J,J⟩,sA,cS [16,17,15,19,10,11,9,18,12,13,14,1,3,4,5,6,2,8,7] 23⟩
   obtain ⟨y54,hy54,h⟩:=aa h;refine jA J (aA (kp hy54) AH J (az [5,6,7] [8,9,10,11,12,13,14,15,16,17,18,0,1,2] [3,4,5,6,7] 19 J)) J J J ?_;rintro _ _ ⟨_,⟨A55,n55,c55,A56,n56,c56,A57,n57,c57,A58,n58,c58,M59,A60,n60,c60,M61,A62,n62,c62,A63,n63,c63,A64,n64,c64,rfl,rfl⟩,rfl⟩;refine ⟨[bm A62 n62 c62 y54.2.symbols_,cH A63 n63 c63 y54.2.events_,bm A64 n64 c64 y54.2.out_,ac B21 42 (aR y20.1),ac B18 42 (aR a1),bm A15 n15 c15 a0.w_.symbols_,cH A16 n16 c16 a0.w_.events_,bm A17 n17 c17 a0.w_.out_,aX A3 n3 c3 a0.Cell.More],cS [11,12,13,17,18,19,20,21,16] 22,(cv_tl).trans ((cv_tl).trans (cv_tl)),?_⟩;refine dt ?_;refine vc 5 10 V ?_ ?_
   ·refine jA J (qy (aY 14 J J iO J)) J J J ?_;rintro _ _ ⟨rfl,rfl⟩;refine eg (cS [11,12,13,17,18,19,20,21,16] 22) ?_;refine zD 10 J (cx (R:=cc) (vss:=[[iV y54.1.Kind,iV y54.1.N,.string y54.1.S]]) (xs:=[y54.1]) J (jF _ _ _) J J (fun _ _ hr=> .cons J All2.nil)) ?_;rintro _ _ ⟨A65,n65,c65,rfl,rfl⟩;refine eg (cS [12,13,14,18,19,20,21,22,17] 23) ?_;obtain ⟨q66,h⟩:=ay h;refine zD 11 J (ed 16 0 J J aC J J hE yi J J q66) ?_;rintro _ _ ⟨A67,n67,c67,rfl,rfl⟩;refine eg (cS [12,13,14,18,19,20,21,22,17] 23) ?_;refine dt ?_;refine zE 12 J (bc J) ?_;refine zE 13 J (ef J gc) ?_;refine zE 14 J (ci J kx) ?_;refine zO 15 J (ar (us:=[I A67 n67 c67]) (cs':=[iV a0.Cell.Kind,iV y25.1,iV a0.Cell.Flags,iV a0.Cell.Age,I A67 n67 c67,I A3 n3 c3,pV B4 0,iV a0.at_.Kind,iV a0.at_.N,.string a0.at_.S]) 15 J J J J nv J J J) ?_;rintro _ _ rfl;refine eg (cS [12,13,14,18,19,20,21,22,17] 23) ?_;refine dt ?_;refine bC V ?_;refine fa ?_
    exact ⟨_,_,⟨a0.Cell.Slots++([y54.1]:List MQ),y54.2.shapes_.shapes_,y54.2.shapes_.next_,y54.2.spent_.steps_,y54.2.spent_.made_,y54.2.spent_.calls_,y54.2.config_.Way,y54.2.config_.Steps,y54.2.config_.Calls,y54.2.config_.Made,y54.2.config_.Young,y54.2.config_.Full,y54.2.config_.Sites,y54.2.symbols_,y54.2.epoch_,y54.2.serial_,y54.2.sleepers_,y54.2.events_,y54.2.out_,y54.2.heap_.m_.Young,y54.2.heap_.m_.Old,y54.2.heap_.roots_,y54.2.heap_.pending_,y54.2.heap_.set_.at_,A67,n67,c67,A60,n60,c60,M61,A62,n62,c62,A63,n63,c63,A64,n64,c64,A55,n55,c55,A56,n56,c56,A57,n57,c57,A58,n58,c58,M59,h,J,J⟩,sA,cS [16,17,15,19,10,11,9,18,12,13,14,1,3,4,5,6,2,8,7] 23⟩
   refine jA J (cx (R:=cc) (vss:=[[iV y54.1.Kind,iV y54.1.N,.string y54.1.S]]) (xs:=[y54.1]) J (jF _ _ _) J J (fun _ _ hr=> .cons J All2.nil)) J J J ?_;rintro _ _ ⟨A65,n65,c65,rfl,rfl⟩;refine eg (cS [12,13,14,18,19,20,21,22,17] 23) ?_;refine zD 5 J (qy (aY 15 J J iO J)) ?_;rintro _ _ ⟨rfl,rfl⟩;refine eg (cS [12,13,14,18,19,20,21,22,17] 23) ?_;obtain ⟨q66,h⟩:=ay h;refine zD 11 J (ed 16 0 J J aC J J hE yi J J q66) ?_;rintro _ _ ⟨A67,n67,c67,rfl,rfl⟩;refine eg (cS [12,13,14,18,19,20,21,22,17] 23) ?_;refine dt ?_;refine zE 12 J (bc J) ?_;refine zE 13 J (ef J gc) ?_;refine zE 14 J (ci J kx) ?_;refine zO 15 J (ar (us:=[I A67 n67 c67]) (cs':=[iV a0.Cell.Kind,iV y25.1,iV a0.Cell.Flags,iV a0.Cell.Age,I A67 n67 c67,I A3 n3 c3,pV B4 0,iV a0.at_.Kind,iV a0.at_.N,.string a0.at_.S]) 15 J J J J nv J J J) ?_;rintro _ _ rfl;refine eg (cS [12,13,14,18,19,20,21,22,17] 23) ?_;refine dt ?_;refine bC V ?_;refine fa ?_
   exact ⟨_,_,⟨a0.Cell.Slots++([y54.1]:List MQ),y54.2.shapes_.shapes_,y54.2.shapes_.next_,y54.2.spent_.steps_,y54.2.spent_.made_,y54.2.spent_.calls_,y54.2.config_.Way,y54.2.config_.Steps,y54.2.config_.Calls,y54.2.config_.Made,y54.2.config_.Young,y54.2.config_.Full,y54.2.config_.Sites,y54.2.symbols_,y54.2.epoch_,y54.2.serial_,y54.2.sleepers_,y54.2.events_,y54.2.out_,y54.2.heap_.m_.Young,y54.2.heap_.m_.Old,y54.2.heap_.roots_,y54.2.heap_.pending_,y54.2.heap_.set_.at_,A67,n67,c67,A60,n60,c60,M61,A62,n62,c62,A63,n63,c63,A64,n64,c64,A55,n55,c55,A56,n56,c56,A57,n57,c57,A58,n58,c58,M59,h,J,J⟩,sA,cS [16,17,15,19,10,11,9,18,12,13,14,1,3,4,5,6,2,8,7] 23⟩
  rintro _ _ ⟨p30,p31,p32,p33,p34,p35,p36,p37,p38,p39,p40,p41,p42,p43,p44,p45,p46,p47,p48,p49,p50,p51,p52,p53,A30,n30,c30,A31,n31,c31,M32,A43,n43,c43,A47,n47,c47,A48,n48,c48,A49,n49,c49,A50,n50,c50,A51,n51,c51,A52,n52,c52,M53,h,rfl,rfl⟩;refine U ?_;obtain ⟨y68,k,h⟩:=aa h;refine gD (aA (ii k) wy J (az [8,9,10] [2,0,1,11,16,12,13,14,15,18,17,6,4,5] [3,7,8,9,10] 19 J)) ?_;rintro _ _ ⟨_,⟨A69,n69,c69,A70,n70,c70,A71,n71,c71,A72,n72,c72,A73,n73,c73,A74,n74,c74,M75,A76,n76,c76,M77,A78,n78,c78,A79,n79,c79,A80,n80,c80,rfl,rfl⟩,rfl⟩;refine bM ?_;refine U ?_;obtain rfl:=am h;exact aL J J (cS [0,1,2,3,4,5,6,7,8,9,10,11,12,13,14,15,16] 22) ⟨_,_,_,_,_,_,_,_,_,_,_,_,_,_,_,_,_,_,_,_,_,_,_,_,_,_,_,_,_,_,_,_,J,J⟩
 refine U ?_;refine ba (fun s L=> ∃p82 p83 p84 A83 n83 c83 M84,f7 N y20 a1 a0 p82 p83 p84=some r∧s=[(0,pV B1 0),(3,pV B18 0),(4,.bool false),(7,iV y20.2.1),(11,.bool (!decide (y20.1.Attrs=a1.Attrs)))]∧L=[aX A2 n2 c2 a0.Cell.Slots,aX A3 n3 c3 a0.Cell.More,ac B1 140 [iV a0.Cell.Kind,iV p82,iV a0.Cell.Flags,iV a0.Cell.Age,I A2 n2 c2,I A3 n3 c3,pV B4 0,iV a0.at_.Kind,iV a0.at_.N,.string a0.at_.S],ac B18 42 (aR a1),bm A15 n15 c15 a0.w_.symbols_,cH A16 n16 c16 a0.w_.events_,bm A17 n17 c17 a0.w_.out_,ac B4 151 (dm a0.w_ B5 B12 A15 n15 c15 A16 n16 c16 A17 n17 c17),bw A6 n6 c6 a0.w_.heap_.m_.Young,bw A7 n7 c7 a0.w_.heap_.m_.Old,aX A8 n8 c8 a0.w_.heap_.roots_,aX A9 n9 c9 a0.w_.heap_.pending_,ac B5 199 [I A6 n6 c6,I A7 n7 c7,I A8 n8 c8,I A9 n9 c9,pV B10 0],cL A83 n83 c83 p83,aG aD cy M84 p84,ac B12 205 [I A83 n83 c83,.map (some M84)],aG cz cC M11 a0.w_.heap_.set_.at_,ac B10 247 [.map (some M11)]]) ?_ ?_
 ·refine U ?_;refine gH J h (fun h=> ?_) (fun h=> ?_)
  ·refine aB ?_;refine bK V ([ac B21 42 (aR y20.1),ac B18 42 (aR a1),bm A15 n15 c15 a0.w_.symbols_,cH A16 n16 c16 a0.w_.events_,bm A17 n17 c17 a0.w_.out_,ac B1 140 [iV a0.Cell.Kind,iV a0.Cell.Shape,iV a0.Cell.Flags,iV a0.Cell.Age,I A2 n2 c2,I A3 n3 c3,pV B4 0,iV a0.at_.Kind,iV a0.at_.N,.string a0.at_.S],aX A2 n2 c2 a0.Cell.Slots,aX A3 n3 c3 a0.Cell.More,ac B4 151 (dm a0.w_ B5 B12 A15 n15 c15 A16 n16 c16 A17 n17 c17),ac B5 199 [I A6 n6 c6,I A7 n7 c7,I A8 n8 c8,I A9 n9 c9,pV B10 0],bw A6 n6 c6 a0.w_.heap_.m_.Young,bw A7 n7 c7 a0.w_.heap_.m_.Old,aX A8 n8 c8 a0.w_.heap_.roots_,aX A9 n9 c9 a0.w_.heap_.pending_,ac B10 247 [.map (some M11)],aG cz cC M11 a0.w_.heap_.set_.at_]) (cS [0,1,2,3,4,5,6,7,8,9,10,11,12,13,14,15] 19) ?_;refine zE 0 J (aq J) ?_;refine zE 1 J (aq J) ?_;refine zE 2 J (bc J) ?_;refine zE 3 J (ef J gc) ?_;refine zE 4 J (ci J nk) ?_;refine zR 5 J (aY 5 J J dH J) ?_;refine zE 6 J (ef J wm) ?_;refine zR 7 J (ah (us:=bS a1.Key) 1 J J bF J) ?_;refine zE 8 J (ci J tX) ?_;refine zR 9 J (aY 1 J J dH J) ?_;obtain ⟨y86,k,h⟩:=aa h;refine zD 10 J (aA (qM k) Iw J (az [] [16,17,18] [0,1,2,3,4,5,6,7,8,9,10,11,12,13,14,15] 19 J)) ?_;rintro _ _ ⟨_,⟨A87,n87,c87,M88,rfl,rfl⟩,rfl⟩;refine eg (cS [3,4,5,6,7,8,9,10,11,12,13,14,15,16,17,18] 19) ?_;refine dt ?_;refine zE 11 J (aq J) ?_;refine zE 12 J (bq J J) ?_;refine zE 13 J (bq J J) ?_;refine zE 14 J (bj J) ?_
   refine zE 15 J (bj J) ?_;refine bC V ?_;refine fa ?_;refine aB ?_;refine U ?_;refine gH J h (fun h=> ?_) (fun h=> ?_)
   ·refine U ?_;obtain rfl:=am h;exact aL J J (cS [8,9,10,11,12,13,14,15,16,17,18,0,1,2,5,6,7] 19) ⟨_,_,_,_,_,_,_,_,_,_,_,_,_,_,_,_,_,_,_,_,_,_,_,_,_,_,_,_,_,_,_,_,J,J⟩
   refine U ?_;refine gW (ar (us:=[iV y86.1]) (cs':=[iV a0.Cell.Kind,iV y86.1,iV a0.Cell.Flags,iV a0.Cell.Age,I A2 n2 c2,I A3 n3 c3,pV B4 0,iV a0.at_.Kind,iV a0.at_.N,.string a0.at_.S]) 8 J J J J iM J J J) ?_;refine bM ?_;refine U ?_;exact ⟨_,_,⟨y86.1,y86.2.2.shapes_,y86.2.2.next_,A87,n87,c87,M88,h,J,J⟩,sA,cS [9,10,8,4,5,6,7,11,13,14,15,16,12,1,2,0,18,17] 19⟩
  refine U ?_;exact ⟨_,_,⟨a0.Cell.Shape,a0.w_.shapes_.shapes_,a0.w_.shapes_.next_,A13,n13,c13,M14,h,J,J⟩,sA,cS [6,7,5,1,2,3,4,8,10,11,12,13,9,17,18,16,15,14] 19⟩
 rintro _ _ ⟨p82,p83,p84,A83,n83,c83,M84,h,rfl,rfl⟩;refine aB ?_;refine bK V ([aX A2 n2 c2 a0.Cell.Slots,aX A3 n3 c3 a0.Cell.More,ac B1 140 [iV a0.Cell.Kind,iV p82,iV a0.Cell.Flags,iV a0.Cell.Age,I A2 n2 c2,I A3 n3 c3,pV B4 0,iV a0.at_.Kind,iV a0.at_.N,.string a0.at_.S],ac B18 42 (aR a1),bm A15 n15 c15 a0.w_.symbols_,cH A16 n16 c16 a0.w_.events_,bm A17 n17 c17 a0.w_.out_]) (cS [0,1,2,3,4,5,6] 18) ?_;refine zE 0 J (aq J) ?_;refine zE 1 J (bc J) ?_;refine zE 2 J (ef J gc) ?_;refine zE 3 J (ci J kx) ?_;refine zR 4 J (aY 2 J J iO J) ?_;refine zE 5 J (aq J) ?_;obtain ⟨q90,h⟩:=ay h;refine zE 6 J (bI J J q90.1 q90.2) ?_;refine zE 7 J (aq J) ?_;refine zR 8 J (ah (us:=aR a1) 3 J J dA J) ?_;refine zE 9 J (aq J) ?_;refine zE 10 J (bc J) ?_;refine zE 11 J (ef J gc) ?_;refine zE 12 J (ci J kx) ?_;refine zR 13 J (aY 2 J J iO J) ?_;refine zE 14 J (aq J) ?_;obtain ⟨q91,h⟩:=ay h;refine zE 15 J (bI J J q91.1 q91.2) ?_;obtain ⟨x92,hx92,h⟩:=aa h;obtain ⟨lx92,ux92,hx92⟩:=aJ hx92;refine zR 16 J (bx 0 J aC J J hE bv lx92 ux92) ?_;refine zR 17 J (bA (us:=[iV x92.Kind,iV x92.N,.string x92.S]) 0 J aC J hx92 aH (fun _ _ _ h=>by rw [show _=_ from h];rfl)) ?_;obtain ⟨y93,k,h⟩:=aa h;refine zD 18 J (aA (kp k) AH J (az [4,5,6] [2,0,1,7,12,8,9,10,11,17,16,15,13,14] [3,4,5,6] 18 J)) ?_
 rintro _ _ ⟨_,⟨A94,n94,c94,A95,n95,c95,A96,n96,c96,A97,n97,c97,M98,A99,n99,c99,M100,A101,n101,c101,A102,n102,c102,A103,n103,c103,rfl,rfl⟩,rfl⟩;refine ⟨[bm A101 n101 c101 y93.2.symbols_,cH A102 n102 c102 y93.2.events_,bm A103 n103 c103 y93.2.out_,aX A2 n2 c2 a0.Cell.Slots,aX A3 n3 c3 a0.Cell.More,ac B1 140 [iV a0.Cell.Kind,iV p82,iV a0.Cell.Flags,iV a0.Cell.Age,I A2 n2 c2,I A3 n3 c3,pV B4 0,iV a0.at_.Kind,iV a0.at_.N,.string a0.at_.S],ac B18 42 (aR a1),bm A15 n15 c15 a0.w_.symbols_,cH A16 n16 c16 a0.w_.events_,bm A17 n17 c17 a0.w_.out_],cS [11,12,13,15,16,14,17,18,19,20] 21,(cv_tl).trans ((cv_tl).trans (cv_tl)),?_⟩;refine dt ?_;obtain ⟨x104,hx104,h⟩:=aa h;obtain ⟨lx104,ux104,hx104⟩:=aJ hx104;refine zR 19 J (bx 3 J aC J J hE bv lx104 ux104) ?_;refine pi 20 J V V (cZ (us:=[iV y93.1.Kind,iV y93.1.N,.string y93.1.S]) (z:=(⟨y93.1.Kind,y93.1.N,y93.1.S⟩:MQ)) 15 J J J J bv J (toNat_lt lx104 ux104) J (fun S w vs xk hk hr ho=>by obtain rfl:=Option.some.inj (hk.symm.trans hx104);rw [show _=_ from hr];rfl)) ?_;rintro _ _ rfl;refine dt ?_;refine bC V ?_;refine U ?_;obtain ⟨y105,k,h⟩:=aa h;refine gD (aA (ii k) wy J (az [11,12,13] [14,15,16,0,1,2,3,4,5,6,7,8,9,10] [11,12,13,17,18,19,20] 21 J)) ?_;rintro _ _ ⟨_,⟨A106,n106,c106,A107,n107,c107,A108,n108,c108,A109,n109,c109,A110,n110,c110,A111,n111,c111,M112,A113,n113,c113,M114,A115,n115,c115,A116,n116,c116,A117,n117,c117,rfl,rfl⟩,rfl⟩;refine bM ?_
 refine U ?_;obtain rfl:=am h;exact aL J J (cS [0,1,2,3,4,5,6,7,8,9,10,11,12,13,14,15,16] 24) ⟨_,_,_,_,_,_,_,_,_,_,_,_,_,_,_,_,_,_,_,_,_,_,_,_,_,_,_,_,_,_,_,_,J,J⟩
end Go.Proofs.YtanojiedimeegaaGreatDoor