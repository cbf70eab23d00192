/- Merged texts: part 4. No conditions of their own. -/
import Derived.Test.YtmimkglhbmcokaaGreatG3
namespace Go.Proofs.YtmimkglhbmcokaaGreat
variable {A1 A2 A3 A4 A5 A8 A9:Option Addr} {B1 B6 M2 M6 M7 c1 c2 c3 c4 c5 c8 c9 n1 n2 n3 n4 n5 n8 n9:Nat}
open Go.RowKit Asn
set_option maxRecDepth 20000
def fq (N:Nat)(a0:DHeap)(a1:DCell):Option (Int×Int×DHeap):=
 (aU N a0).bind fun y11=>bif y11 then (some (0,1,a0)) else ((di N a1).bind fun y13=>bif !y13 then (some (0,51,a0)) else ((dx N a1).bind fun y15=>bA (bY (a0.m_.Young.length+([(⟨y15.Kind,y15.Shape,y15.Flags,0,y15.Slots,y15.More⟩:DCell)]:List DCell).length)) (bA (in64 (2*((a0.m_.Young++([(⟨y15.Kind,y15.Shape,y15.Flags,0,y15.Slots,y15.More⟩:DCell)]:List DCell)).length:Int))) (bA (in64 ((2*((a0.m_.Young++([(⟨y15.Kind,y15.Shape,y15.Flags,0,y15.Slots,y15.More⟩:DCell)]:List DCell)).length:Int)) - 1)) (some ((2*((a0.m_.Young++([(⟨y15.Kind,y15.Shape,y15.Flags,0,y15.Slots,y15.More⟩:DCell)]:List DCell)).length:Int)) - 1,0,(⟨(⟨a0.m_.Young++([(⟨y15.Kind,y15.Shape,y15.Flags,0,y15.Slots,y15.More⟩:DCell)]:List DCell),a0.m_.Old⟩:DMemory),a0.roots_,a0.pending_,a0.set_⟩:DHeap)))))))
theorem kS {N:Nat}{a0:DHeap}{a1:DCell}{r:(Int×Int×DHeap)}(h:fq N a0 a1=some r):Okc Tryz.prog 71 [pV B1 0,.agg #[iV a1.Kind,iV a1.Shape,iV a1.Flags,iV a1.Age,.slice A8 n8 c8,.slice A9 n9 c9]] ([aH A8 n8 c8 a1.Slots,aH A9 n9 c9 a1.More,ac B1 86 [.slice A2 n2 c2,.slice A3 n3 c3,.slice A4 n4 c4,.slice A5 n5 c5,pV B6 0],aD A2 n2 c2 a0.m_.Young,aD A3 n3 c3 a0.m_.Old,ax A4 n4 c4 a0.roots_,ax A5 n5 c5 a0.pending_,ac B6 157 [.map (some M7)],az aY bj M7 a0.set_.at_]) (fun u post=> ∃A0 n0 c0 A1 n1 c1 A2 n2 c2 A3 n3 c3 M4,u=.tuple #[iV r.1,iV r.2.1]∧post=[ac B1 86 [.slice A0 n0 c0,.slice A1 n1 c1,.slice A2 n2 c2,.slice A3 n3 c3,pV B6 0],aD A0 n0 c0 r.2.2.m_.Young,aD A1 n1 c1 r.2.2.m_.Old,ax A2 n2 c2 r.2.2.roots_,ax A3 n3 c3 r.2.2.pending_,ac B6 157 [.map (some M4)],az aY bj M4 r.2.2.set_.at_]):=by
 refine bI Tryz.func71 rfl rfl ?_;simp only [aW];refine run ?_;refine gD (bD rfl rfl) ?_;rintro _ _ ⟨B10,rfl,rfl⟩;refine run ?_;refine aB ?_;refine run ?_;obtain ⟨y11,hy11,h⟩:=aa h;refine gD (ai (bO hy11) lB rfl (mem_cons (aZ (i:=3) rfl) (mem_cons (ar (i:=4) rfl) (mem_cons (ar (i:=5) rfl) (mem_cons (ar (i:=6) rfl) (mem_cons (ar (i:=7) rfl) (mem_cons (aZ (i:=8) rfl) (mem_cons (cF (i:=9) rfl) ae))))))) bF) ?_;rintro _ _ ⟨_,⟨rfl,rfl⟩,rfl⟩;refine run ?_;refine ay rfl (fun g12=> ?_) (fun g12=> ?_)
 ·replace h:=aj g12 h;refine run ?_;obtain rfl:=av h;exact AQ rfl rfl rfl (ab [3,4,5,6,7,8,9] 10 rfl rfl) ⟨_,_,_,_,_,_,_,_,_,_,_,_,_,rfl,rfl⟩
 replace h:=ak g12 h;refine run ?_;refine gR (aI (us:=[iV a1.Kind,iV a1.Shape,iV a1.Flags,iV a1.Age,.slice A8 n8 c8,.slice A9 n9 c9]) 0 rfl rfl bx rfl) ?_;obtain ⟨y13,hy13,h⟩:=aa h;refine gD (ai (iJ hy13) wK rfl (mem_cons (ag (i:=1) rfl rfl) (mem_cons (ag (i:=2) rfl rfl) ae)) fO) ?_;rintro _ _ ⟨_,⟨rfl,rfl⟩,rfl⟩;refine run ?_;refine ay rfl (fun g14=> ?_) (fun g14=> ?_)
 ·replace h:=aj g14 h;refine run ?_;obtain rfl:=av h;exact AQ rfl rfl rfl (ab [3,4,5,6,7,8,9] 10 rfl rfl) ⟨_,_,_,_,_,_,_,_,_,_,_,_,_,rfl,rfl⟩
 replace h:=ak g14 h;refine run ?_;refine gR (aI (us:=[iV a1.Kind,iV a1.Shape,iV a1.Flags,iV a1.Age,.slice A8 n8 c8,.slice A9 n9 c9]) 0 rfl rfl bx rfl) ?_;obtain ⟨y15,hy15,h⟩:=aa h;refine gD (ai (fb hy15) qp rfl (mem_cons (ag (i:=1) rfl rfl) (mem_cons (ag (i:=2) rfl rfl) ae)) eb) ?_;rintro _ _ ⟨_,⟨A16,n16,c16,A17,n17,c17,rfl,rfl⟩,rfl⟩;refine gO (ap (us:=[iV y15.Kind,iV y15.Shape,iV y15.Flags,iV y15.Age,.slice A16 n16 c16,.slice A17 n17 c17]) (cs':=[iV y15.Kind,iV y15.Shape,iV y15.Flags,iV y15.Age,.slice A16 n16 c16,.slice A17 n17 c17]) 2 rfl rfl rfl rfl bL rfl rfl rfl) ?_;rintro _ _ rfl;refine run ?_;refine gO (ap (us:=[iV 0]) (cs':=[iV y15.Kind,iV y15.Shape,iV y15.Flags,iV 0,.slice A16 n16 c16,.slice A17 n17 c17]) 2 rfl rfl rfl rfl dL rfl rfl rfl) ?_;rintro _ _ rfl;refine run ?_;refine aB ?_;refine gN ?_ bT (cH 0 rfl);refine qu ([aH A16 n16 c16 y15.Slots,ax A17 n17 c17 y15.More,ac B10 47 [iV y15.Kind,iV y15.Shape,iV y15.Flags,iV 0,.slice A16 n16 c16,.slice A17 n17 c17],aH A8 n8 c8 a1.Slots,aH A9 n9 c9 a1.More,ac B1 86 [.slice A2 n2 c2,.slice A3 n3 c3,.slice A4 n4 c4,.slice A5 n5 c5,pV B6 0],aD A2 n2 c2 a0.m_.Young,aD A3 n3 c3 a0.m_.Old,ax A4 n4 c4 a0.roots_,ax A5 n5 c5 a0.pending_,ac B6 157 [.map (some M7)],az aY bj M7 a0.set_.at_]) rfl ?_;refine gN ?_ bT (cH 1 rfl);refine gN (t:=[(0,pV B1 0),(3,pV B10 0),(4,iV 0),(5,iV 0)]) ?_ oh (ad _)
 refine kZ (by kernel_rfl) 8 [0] [0,5,7] [16,17,18,19,20,21,22,23] [[],[],[1],[2],[3],[4],[],[6]] [aV (pV B1 0),
aV (pV B1 0),
aV (pV B1 0),
aV (pV B1 0),
aV (pV B1 0),
aV (.slice A2 n2 c2),
aV (.agg #[iV y15.Kind,iV y15.Shape,iV y15.Flags,iV 0,.slice A16 n16 c16,.slice A17 n17 c17]),
aX3 (fun (A19:Option Addr) (n19 c19:Nat)=> .slice A19 n19 c19) (fun A19 n19 c19=> [aD A19 n19 c19 ([(⟨y15.Kind,y15.Shape,y15.Flags,0,y15.Slots,y15.More⟩:DCell)]:List DCell)])] [] (ad _) (xK rfl nB) (by kernel_rfl) rfl rfl ?_ ?_ ?_
 ·refine xJ rfl ?_ ?_
  ·exact FM (aA rfl) rfl (bS rfl (ad _))
  exact nA
 ·refine ao rfl ?_ ?_
  ·refine uf (cp (R:=cY) (vss:=[[iV y15.Kind,iV y15.Shape,iV y15.Flags,iV 0,.slice A16 n16 c16,.slice A17 n17 c17]]) (xs:=[(⟨y15.Kind,y15.Shape,y15.Flags,0,y15.Slots,y15.More⟩:DCell)]) rfl (pP _ _ _ _ _ _ _ _ _ _) rfl rfl (fun _ _ hr=> .cons (⟨_,_,_,_,_,_,rfl,hr 0 _ rfl rfl,hr 1 _ rfl rfl⟩) All2.nil)) rfl ?_;rintro _ _ ⟨A18,n18,c18,rfl,rfl⟩;exact BS A18 n18 c18 (ad _)
  refine ao rfl ?_ ?_
  ·exact gq (aI (us:=[iV y15.Kind,iV y15.Shape,iV y15.Flags,iV 0,.slice A16 n16 c16,.slice A17 n17 c17]) 2 rfl rfl bx rfl) rfl (bS rfl (ad _))
  refine ao rfl ?_ ?_
  ·exact gq (bh 5 rfl rfl jG rfl) rfl (bS rfl (ad _))
  refine ao rfl ?_ ?_
  ·exact dC (dB rfl sJ) rfl (bS rfl (ad _))
  refine ao rfl ?_ ?_
  ·exact dC (dB rfl eL) rfl (bS rfl (ad _))
  refine ao rfl ?_ ?_
  ·exact dC (aE rfl) rfl (bS rfl (ad _))
  refine ao rfl ?_ ?_
  ·exact dC (aA rfl) rfl (bS rfl (ad _))
  refine ao rfl ?_ ?_
  ·exact dC (aA rfl) rfl (bS rfl (ad _))
  exact gB
 intro A19 n19 c19;refine oY (t:=[(16,pV B1 0),(21,.slice A2 n2 c2),(23,.slice A19 n19 c19),(0,pV B1 0),(3,pV B10 0),(4,iV 0),(5,iV 0)]) (L':=[aD A19 n19 c19 ([(⟨y15.Kind,y15.Shape,y15.Flags,0,y15.Slots,y15.More⟩:DCell)]:List DCell),aH A16 n16 c16 y15.Slots,aH A17 n17 c17 y15.More,ac B10 47 [iV y15.Kind,iV y15.Shape,iV y15.Flags,iV 0,.slice A16 n16 c16,.slice A17 n17 c17],aH A8 n8 c8 a1.Slots,aH A9 n9 c9 a1.More,ac B1 86 [.slice A2 n2 c2,.slice A3 n3 c3,.slice A4 n4 c4,.slice A5 n5 c5,pV B6 0],aD A2 n2 c2 a0.m_.Young,aD A3 n3 c3 a0.m_.Old,ax A4 n4 c4 a0.roots_,ax A5 n5 c5 a0.pending_,ac B6 157 [.map (some M7)],az aY bj M7 a0.set_.at_]) ?_ oh (ad _);obtain ⟨q20,h⟩:=aq h;refine qS 8 rfl (by kernel_rfl) (bR 7 0 rfl rfl aK rfl rfl Tryz.underlying34 Bh rfl rfl q20) rfl rfl rfl ?_;rintro _ _ ⟨A21,n21,c21,rfl,rfl⟩;refine Cm 9 rfl (by kernel_rfl) (aE rfl) rfl rfl rfl ?_;refine Cm 10 rfl (by kernel_rfl) (dB rfl eL) rfl rfl rfl ?_;refine Cm 11 rfl (by kernel_rfl) (dB rfl sJ) rfl rfl rfl ?_;refine Bf 12 rfl (by kernel_rfl) (ap (us:=[.slice A21 n21 c21]) (cs':=[.slice A21 n21 c21,.slice A3 n3 c3,.slice A4 n4 c4,.slice A5 n5 c5,pV B6 0]) 6 rfl rfl rfl rfl o7 rfl rfl rfl) rfl rfl ?_;rintro _ _ rfl
 refine Cl ([aD A19 n19 c19 ([(⟨y15.Kind,y15.Shape,y15.Flags,0,y15.Slots,y15.More⟩:DCell)]:List DCell),aH A16 n16 c16 y15.Slots,aH A17 n17 c17 y15.More,ac B10 47 [iV y15.Kind,iV y15.Shape,iV y15.Flags,iV 0,.slice A16 n16 c16,.slice A17 n17 c17],aH A8 n8 c8 a1.Slots,aH A9 n9 c9 a1.More,ac B1 86 [.slice A21 n21 c21,.slice A3 n3 c3,.slice A4 n4 c4,.slice A5 n5 c5,pV B6 0],aD A21 n21 c21 (a0.m_.Young++([(⟨y15.Kind,y15.Shape,y15.Flags,0,y15.Slots,y15.More⟩:DCell)]:List DCell)),aD A3 n3 c3 a0.m_.Old,ax A4 n4 c4 a0.roots_,ax A5 n5 c5 a0.pending_,ac B6 157 [.map (some M7)],az aY bj M7 a0.set_.at_]) rfl ?_;refine oe (by kernel_rfl) ?_;refine run ?_;refine gR (aT 7 rfl aK rfl Tryz.underlying34) ?_;obtain ⟨q22,h⟩:=aq h;refine gE (qk rfl rfl q22.1 q22.2) ?_;obtain ⟨q23,h⟩:=aq h;refine gE (ly rfl rfl q23.1 q23.2) ?_;refine run ?_;obtain rfl:=av h;exact AQ rfl rfl rfl (ab [6,7,8,9,10,11,12] 13 rfl rfl) ⟨_,_,_,_,_,_,_,_,_,_,_,_,_,rfl,rfl⟩
def ou (N:Nat)(a0:Int):Option DValue:=
 some (⟨9,a0,⟨#[]⟩⟩:DValue)
theorem pU {N:Nat}{a0:Int}{r:DValue}(h:ou N a0=some r):Okc Tryz.prog 147 [iV a0] ([]) (fun u post=>u=.agg #[iV r.Kind,iV r.N,.string r.S]∧post=[]):=by
 refine bI Tryz.func147 rfl rfl ?_;simp only [aW];refine run ?_;refine gD (aQ i6 rfl) ?_;rintro _ _ ⟨B1,rfl,rfl⟩;refine run ?_;refine gE (d7 rfl (Eu _ _)) ?_;refine gO (ap (us:=[iV 9,iV a0,.string (⟨#[]⟩)]) (cs':=[iV 9,iV a0,.string (⟨#[]⟩)]) 0 rfl rfl rfl rfl bp rfl rfl rfl) ?_;rintro _ _ rfl;refine run ?_;obtain rfl:=av h;exact d8 (rs:=[.cell 2 52]) (vs:=[.agg #[iV 9,iV a0,.string (⟨#[]⟩)]]) rfl (.cons (cD 0 rfl rfl cz) .nil) rfl (ab [] 1 rfl rfl) ⟨rfl,rfl⟩
theorem mY {r:DValue}: ∀v post,((fun (u:Value) (post:List Chunk)=>u=.agg #[iV r.Kind,iV r.N,.string r.S]∧post=[])) v post→ ∀c∈post,cA c:=by
 rintro _ _ ⟨rfl,rfl⟩;exact ae
def gH (N:Nat)(a0:DHeap)(a1:DValue):Option (Int×DHeap):=
 (aU N a0).bind fun y9=>bif y9 then (some (0,a0)) else (bA (bY (a0.roots_.length+([a1]:List DValue).length)) (bA (in64 (((a0.roots_++([a1]:List DValue)).length:Int) - 1)) (some (((a0.roots_++([a1]:List DValue)).length:Int) - 1,(⟨a0.m_,a0.roots_++([a1]:List DValue),a0.pending_,a0.set_⟩:DHeap)))))
theorem oL {N:Nat}{a0:DHeap}{a1:DValue}{r:(Int×DHeap)}(h:gH N a0 a1=some r):Okc Tryz.prog 72 [pV B1 0,.agg #[iV a1.Kind,iV a1.N,.string a1.S]] ([ac B1 86 [.slice A2 n2 c2,.slice A3 n3 c3,.slice A4 n4 c4,.slice A5 n5 c5,pV B6 0],aD A2 n2 c2 a0.m_.Young,aD A3 n3 c3 a0.m_.Old,ax A4 n4 c4 a0.roots_,ax A5 n5 c5 a0.pending_,ac B6 157 [.map (some M7)],az aY bj M7 a0.set_.at_]) (fun u post=> ∃A0 n0 c0 A1 n1 c1 A2 n2 c2 A3 n3 c3 M4,u=iV r.1∧post=[ac B1 86 [.slice A0 n0 c0,.slice A1 n1 c1,.slice A2 n2 c2,.slice A3 n3 c3,pV B6 0],aD A0 n0 c0 r.2.m_.Young,aD A1 n1 c1 r.2.m_.Old,ax A2 n2 c2 r.2.roots_,ax A3 n3 c3 r.2.pending_,ac B6 157 [.map (some M4)],az aY bj M4 r.2.set_.at_]):=by
 refine bI Tryz.func72 rfl rfl ?_;simp only [aW];refine run ?_;refine gD (bD rfl rfl) ?_;rintro _ _ ⟨B8,rfl,rfl⟩;refine run ?_;refine aB ?_;refine run ?_;obtain ⟨y9,hy9,h⟩:=aa h;refine gD (ai (bO hy9) lB rfl (mem_cons (aZ (i:=1) rfl) (mem_cons (ar (i:=2) rfl) (mem_cons (ar (i:=3) rfl) (mem_cons (ar (i:=4) rfl) (mem_cons (ar (i:=5) rfl) (mem_cons (aZ (i:=6) rfl) (mem_cons (cF (i:=7) rfl) ae))))))) bF) ?_;rintro _ _ ⟨_,⟨rfl,rfl⟩,rfl⟩;refine run ?_;refine ay rfl (fun g10=> ?_) (fun g10=> ?_)
 ·replace h:=aj g10 h;refine run ?_;obtain rfl:=av h;exact aO rfl rfl (ab [1,2,3,4,5,6,7] 8 rfl rfl) ⟨_,_,_,_,_,_,_,_,_,_,_,_,_,rfl,rfl⟩
 replace h:=ak g10 h;refine run ?_;refine aB ?_;refine gN (t:=[(0,pV B1 0),(3,pV B8 0),(4,iV 0)]) ?_ oh (ad _)
 refine kZ (by kernel_rfl) 7 [0] [0,4,6] [7,8,9,10,11,12,13] [[],[],[1],[2],[3],[],[5]] [aV (pV B1 0),
aV (pV B1 0),
aV (pV B1 0),
aV (pV B1 2),
aV (.slice A4 n4 c4),
aV (.agg #[iV a1.Kind,iV a1.N,.string a1.S]),
aX3 (fun (A12:Option Addr) (n12 c12:Nat)=> .slice A12 n12 c12) (fun A12 n12 c12=> [ax A12 n12 c12 ([a1]:List DValue)])] [] (ad _) (xK rfl nB) (by kernel_rfl) rfl rfl ?_ ?_ ?_
 ·refine xJ rfl ?_ ?_
  ·exact FM (aA rfl) rfl (bS rfl (ad _))
  exact nA
 ·refine ao rfl ?_ ?_
  ·refine uf (cp (R:=aR) (vss:=[[iV a1.Kind,iV a1.N,.string a1.S]]) (xs:=[a1]) rfl (vK _ _ _) rfl rfl (fun _ _ hr=> .cons rfl All2.nil)) rfl ?_;rintro _ _ ⟨A11,n11,c11,rfl,rfl⟩;exact BS A11 n11 c11 (ad _)
  refine ao rfl ?_ ?_
  ·exact gq (aI (us:=[iV a1.Kind,iV a1.N,.string a1.S]) 0 rfl rfl cz rfl) rfl (bS rfl (ad _))
  refine ao rfl ?_ ?_
  ·exact gq (bh 1 rfl rfl dz rfl) rfl (bS rfl (ad _))
  refine ao rfl ?_ ?_
  ·exact dC (bZ rfl jB) rfl (bS rfl (ad _))
  refine ao rfl ?_ ?_
  ·exact dC (aE rfl) rfl (bS rfl (ad _))
  refine ao rfl ?_ ?_
  ·exact dC (aA rfl) rfl (bS rfl (ad _))
  refine ao rfl ?_ ?_
  ·exact dC (aA rfl) rfl (bS rfl (ad _))
  exact gB
 intro A12 n12 c12;refine oY (t:=[(7,pV B1 0),(11,.slice A4 n4 c4),(13,.slice A12 n12 c12),(0,pV B1 0),(3,pV B8 0),(4,iV 0)]) (L':=[ax A12 n12 c12 ([a1]:List DValue),ac B8 52 [iV a1.Kind,iV a1.N,.string a1.S],ac B1 86 [.slice A2 n2 c2,.slice A3 n3 c3,.slice A4 n4 c4,.slice A5 n5 c5,pV B6 0],aD A2 n2 c2 a0.m_.Young,aD A3 n3 c3 a0.m_.Old,ax A4 n4 c4 a0.roots_,ax A5 n5 c5 a0.pending_,ac B6 157 [.map (some M7)],az aY bj M7 a0.set_.at_]) ?_ oh (ad _);obtain ⟨q13,h⟩:=aq h;refine qS 7 rfl (by kernel_rfl) (bR 5 0 rfl rfl aK rfl rfl Tryz.underlying38 xZ rfl rfl q13) rfl rfl rfl ?_;rintro _ _ ⟨A14,n14,c14,rfl,rfl⟩;refine Cm 8 rfl (by kernel_rfl) (aE rfl) rfl rfl rfl ?_;refine Cm 9 rfl (by kernel_rfl) (bZ rfl jB) rfl rfl rfl ?_;refine Bf 10 rfl (by kernel_rfl) (ap (us:=[.slice A14 n14 c14]) (cs':=[.slice A2 n2 c2,.slice A3 n3 c3,.slice A14 n14 c14,.slice A5 n5 c5,pV B6 0]) 2 rfl rfl rfl rfl cZ rfl rfl rfl) rfl rfl ?_;rintro _ _ rfl;refine oe (by kernel_rfl) ?_;refine run ?_;refine gR (aT 5 rfl aK rfl Tryz.underlying38) ?_;obtain ⟨q15,h⟩:=aq h;refine gE (ly rfl rfl q15.1 q15.2) ?_;refine run ?_;obtain rfl:=av h;exact aO rfl rfl (ab [2,3,4,5,6,7,8] 9 rfl rfl) ⟨_,_,_,_,_,_,_,_,_,_,_,_,_,rfl,rfl⟩
def sc (N:Nat)(a0:Int):Option Bool:=
 some (!decide (a0=a0))
theorem vG {N:Nat}{a0:Int}{r:Bool}(h:sc N a0=some r):Okc Tryz.prog 254 [iV a0] ([]) (fun u post=>u=.bool r∧post=[]):=by
 refine bI Tryz.func254 rfl rfl ?_;simp only [aW];refine run ?_;obtain rfl:=av h;exact aO rfl rfl (ab [] 0 rfl rfl) ⟨rfl,rfl⟩
theorem sb {r:Bool}: ∀v post,((fun (u:Value) (post:List Chunk)=>u=.bool r∧post=[])) v post→ ∀c∈post,cA c:=by
 rintro _ _ ⟨rfl,rfl⟩;exact ae
def zC (N:Nat)(a0:Int)(a1:Int):Option Bool:=
 (sc N a0).bind fun y1=>(bif y1 then ((sc N a1).bind fun y3=>some (!y3)) else (some false)).bind fun b2=>(bif b2 then (some true) else (some (decide (a0<a1)))).bind fun b4=>some b4
theorem Dj {N:Nat}{a0:Int}{a1:Int}{r:Bool}(h:zC N a0 a1=some r):Okc Tryz.prog 220 [iV a0,iV a1] ([]) (fun u post=>u=.bool r∧post=[]):=by
 refine bI Tryz.func220 rfl rfl ?_;simp only [aW];refine run ?_;obtain ⟨y1,hy1,h⟩:=aa h;refine gD (ai (vG hy1) Ff rfl (ae) sb) ?_;rintro _ _ ⟨_,⟨rfl,rfl⟩,rfl⟩;refine run ?_;obtain ⟨b2,hb2,h⟩:=aa h;refine bc 4 11 b2 ?_ ?_
 ·clear h;refine ba 7 rfl (fun g2=> ?_) (fun g2=> ?_)
  ·have h:=aj g2 hb2;refine run ?_;obtain ⟨y3,hy3,h⟩:=aa h;refine dg (ai (vG hy3) Ff rfl (ae) sb) rfl (cm g2 rfl) rfl ?_;rintro _ _ ⟨_,⟨rfl,rfl⟩,rfl⟩;refine run ?_;obtain rfl:=av h;exact am sA (ab [] 0 rfl rfl)
  have h:=ak g2 hb2;refine run ?_;obtain rfl:=av h;exact am sA (ab [] 0 rfl rfl)
 refine run ?_;obtain ⟨b4,hb4,h⟩:=aa h;refine bc 4 16 b4 ?_ ?_
 ·clear h;refine ba 12 rfl (fun g4=> ?_) (fun g4=> ?_)
  ·have h:=aj g4 hb4;refine run ?_;obtain rfl:=av h;exact am sA (ab [] 0 rfl rfl)
  have h:=ak g4 hb4;refine run ?_;obtain rfl:=av h;exact am sA (ab [] 0 rfl rfl)
 refine run ?_;obtain rfl:=av h;exact aO rfl rfl (ab [] 0 rfl rfl) ⟨rfl,rfl⟩
theorem zX {r:Bool}: ∀v post,((fun (u:Value) (post:List Chunk)=>u=.bool r∧post=[])) v post→ ∀c∈post,cA c:=by
 rintro _ _ ⟨rfl,rfl⟩;exact ae
def eI (N:Nat)(a0:DSet):Option (List Int):=
 (rN N a0.at_).bind fun y3=>(mj N a0.at_).bind fun y5=>some y5
theorem nu {N:Nat}{a0:DSet}{r:(List Int)}(h:eI N a0=some r):Okc Tryz.prog 59 [pV B1 0] ([aG B1 157 [.map (some M2)],kF aY bj M2 a0.at_]) (fun u post=> ∃A0 n0 c0,u=.slice A0 n0 c0∧post=[cU A0 n0 c0 r]):=by
 refine bI Tryz.func59 rfl rfl ?_;simp only [aW];refine run ?_;refine aB ?_;refine run ?_;refine gE (lz rfl Tryz.underlying66) ?_;refine run ?_;refine gP rfl ?_;refine run ?_;refine gR (bz 0 rfl rfl D1 rfl) ?_;obtain ⟨y3,hy3,h⟩:=aa h;refine gD (ai (BI hy3) J0 rfl (ae) zf) ?_;rintro _ _ ⟨_,⟨B4,rfl,rfl⟩,rfl⟩;obtain ⟨y5,hy5,h⟩:=aa h;refine gD (ai (vV hy5) J9 rfl (mem_cons (aZ (i:=0) rfl) (mem_cons (ag (i:=2) rfl rfl) ae)) tL) ?_;rintro _ _ ⟨_,⟨A6,n6,c6,rfl,rfl⟩,rfl⟩;refine run ?_;obtain rfl:=av h;exact aO rfl rfl (ab [0] 4 rfl rfl) ⟨_,_,_,rfl,rfl⟩
theorem lT {r:(List Int)}: ∀v post,((fun (u:Value) (post:List Chunk)=> ∃A0 n0 c0,u=.slice A0 n0 c0∧post=[cU A0 n0 c0 r])) v post→ ∀c∈post,cA c:=by
 rintro _ _ ⟨_,_,_,rfl,rfl⟩;exact mem_cons bX (ae)
def iA (N:Nat)(a0:DValue):Option (Int×Bool):=
 (bif decide (a0.Kind=7) then (some true) else (some (decide (a0.Kind=9)))).bind fun b2=>some (a0.N,b2)
theorem pE {N:Nat}{a0:DValue}{r:(Int×Bool)}(h:iA N a0=some r):Okc Tryz.prog 207 [.agg #[iV a0.Kind,iV a0.N,.string a0.S]] ([]) (fun u post=>u=.tuple #[iV r.1,.bool r.2]∧post=[]):=by
 refine bI Tryz.func207 rfl rfl ?_;simp only [aW];refine run ?_;refine gD (bD rfl rfl) ?_;rintro _ _ ⟨B1,rfl,rfl⟩;refine run ?_;refine aB ?_;refine co (by kernel_rfl) _ (ad _) ?_;refine ah 0 rfl (by kernel_rfl) (bZ rfl sH) rfl rfl ?_;refine bm 1 rfl (by kernel_rfl) (bh 0 rfl rfl eU rfl) rfl rfl ?_;refine ah 2 rfl (by kernel_rfl) (dB rfl lJ) rfl rfl ?_;refine bm 3 rfl (by kernel_rfl) (bh 0 rfl rfl eU rfl) rfl rfl ?_;refine ah 4 rfl (by kernel_rfl) (De rfl rfl) rfl rfl ?_;refine ah 5 rfl (by kernel_rfl) (aA rfl) rfl rfl ?_;refine ah 10 rfl (by kernel_rfl) (aJ rfl) rfl rfl ?_;obtain ⟨b2,hb2,h⟩:=aa h;refine od (fun l=>((((l.setIfInBounds 6 true).setIfInBounds 7 true).setIfInBounds 8 true).setIfInBounds 9 true)) 1 13 b2 (fun rest=> ?_) ?_
 ·clear h;refine qw 9 rfl (fun g2=> ?_) (fun g2=> ?_)
  ·have h:=aj g2 hb2;refine i5 6 rfl (by kernel_rfl) (mM g2 rfl) rfl ?_;refine i5 7 rfl (by kernel_rfl) (mM g2 rfl) rfl ?_;refine i5 8 rfl (by kernel_rfl) (mM g2 rfl) rfl ?_;refine ah 9 rfl (by kernel_rfl) (jp g2 rfl rfl) rfl rfl ?_;obtain rfl:=av h;exact ku rest (ei rfl (aN (aN (aN (aN bT rfl) rfl) rfl) rfl)) (ad _) (ad _)
  have h:=ak g2 hb2;refine ah 6 rfl (by kernel_rfl) (dB rfl lJ) (dJ g2 rfl) rfl ?_;refine bm 7 rfl (by kernel_rfl) (bh 0 rfl rfl eU rfl) (dJ g2 rfl) rfl ?_;refine ah 8 rfl (by kernel_rfl) (De rfl rfl) (dJ g2 rfl) rfl ?_;refine ah 9 rfl (by kernel_rfl) (jq g2 rfl rfl) rfl rfl ?_;obtain rfl:=av h;exact ku rest (ei rfl (aN (aN (aN (aN bT rfl) rfl) rfl) rfl)) (ad _) (ad _)
 refine ah 11 rfl (by kernel_rfl) (aJ rfl) rfl rfl ?_;refine bC (by kernel_rfl) ?_;refine run ?_;obtain rfl:=av h;exact AQ rfl rfl rfl (ab [] 1 rfl rfl) ⟨rfl,rfl⟩
theorem nH {r:(Int×Bool)}: ∀v post,((fun (u:Value) (post:List Chunk)=>u=.tuple #[iV r.1,.bool r.2]∧post=[])) v post→ ∀c∈post,cA c:=by
 rintro _ _ ⟨rfl,rfl⟩;exact ae
def kH (N:Nat)(a1:Int)(p6:(List DCell))(p7:Int):Option ((List DCell)×Int×Bool):=
 (bif decide (0<a1) then (some (decide (p7<(p6.length:Int)))) else (some false)).bind fun b11=>some (p6,p7,b11)
def jV (N:Nat)(a0:DMemory)(a1:Int):Option ((List DCell)×Int×Bool):=
 bA (in64 (a1.tdiv 2)) (bif decide (a1.tmod 2=0) then (bA (in64 (a1.tdiv 2)) (bA (in64 ((a1.tdiv 2) - 1)) (kH N a1 a0.Old ((a1.tdiv 2) - 1)))) else (kH N a1 a0.Young (a1.tdiv 2)))
theorem rl {N:Nat}{a0:DMemory}{a1:Int}{r:((List DCell)×Int×Bool)}(h:jV N a0 a1=some r):Okc Tryz.prog 90 [.agg #[.slice A1 n1 c1,.slice A2 n2 c2],iV a1] ([bo A1 n1 c1 a0.Young,bo A2 n2 c2 a0.Old]) (fun u post=> ∃A0 n0 c0,u=.tuple #[.slice A0 n0 c0,iV r.2.1,.bool r.2.2]∧post=[bo A0 n0 c0 r.1]):=by
 refine bI Tryz.func90 rfl rfl ?_;simp only [aW];refine run ?_;refine gD (bD rfl rfl) ?_;rintro _ _ ⟨B3,rfl,rfl⟩;refine run ?_;obtain ⟨q4,h⟩:=aq h;refine gE (t8 rfl rfl (by decide) q4.1 q4.2) ?_;refine run ?_;refine aX (fun s L=> ∃p6 p7 A6 n6 c6,kH N a1 p6 p7=some r∧s=[(1,iV a1),(4,.slice none 0 0),(5,iV 0),(6,.bool false),(7,.slice A6 n6 c6),(8,iV p7)]∧L=[bo A6 n6 c6 p6]) ?_ ?_
 ·refine run ?_;refine gE (ph rfl rfl (by decide)) ?_;refine run ?_;refine ay rfl (fun g8=> ?_) (fun g8=> ?_)
  ·replace h:=aj g8 h;refine run ?_;obtain ⟨q9,h⟩:=aq h;refine gE (t8 rfl rfl (by decide) q9.1 q9.2) ?_;obtain ⟨q10,h⟩:=aq h;refine gE (ly rfl rfl q10.1 q10.2) ?_;refine run ?_;exact ⟨_,_,⟨a0.Old,(a1.tdiv 2) - 1,A2,n2,c2,h,rfl,rfl⟩,sA,ab [2] 3 rfl rfl⟩
  replace h:=ak g8 h;refine run ?_;exact ⟨_,_,⟨a0.Young,a1.tdiv 2,A1,n1,c1,h,rfl,rfl⟩,sA,ab [1] 3 rfl rfl⟩
 rintro _ _ ⟨p6,p7,A6,n6,c6,h,rfl,rfl⟩;refine run ?_;obtain ⟨b11,hb11,h⟩:=aa h;refine bc 5 30 b11 ?_ ?_
 ·clear h;refine ba 25 rfl (fun g11=> ?_) (fun g11=> ?_)
  ·have h:=aj g11 hb11;refine run ?_;refine cL (aT 0 rfl au rfl Tryz.underlying34) rfl (cm g11 rfl) rfl ?_;refine run ?_;obtain rfl:=av h;exact am sA (ab [0] 1 rfl rfl)
  have h:=ak g11 hb11;refine run ?_;obtain rfl:=av h;exact am sA (ab [0] 1 rfl rfl)
 refine run ?_;obtain rfl:=av h;exact Lz rfl rfl rfl rfl (ab [0] 1 rfl rfl) ⟨_,_,_,rfl,rfl⟩
def dq (N:Nat)(a0:DMemory)(a1:Int):Option Bool:=
 (jV N a0 a1).bind fun y4=>some y4.2.2
theorem ij {N:Nat}{a0:DMemory}{a1:Int}{r:Bool}(h:dq N a0 a1=some r):Okc Tryz.prog 27 [.agg #[.slice A1 n1 c1,.slice A2 n2 c2],iV a1] ([bo A1 n1 c1 a0.Young,bo A2 n2 c2 a0.Old]) (fun u post=>u=.bool r∧post=[]):=by
 refine bI Tryz.func27 rfl rfl ?_;simp only [aW];refine run ?_;refine gD (bD rfl rfl) ?_;rintro _ _ ⟨B3,rfl,rfl⟩;refine run ?_;refine gR (aI (us:=[.slice A1 n1 c1,.slice A2 n2 c2]) 0 rfl rfl dH rfl) ?_;refine run ?_;obtain ⟨y4,hy4,h⟩:=aa h;refine gD (bi (rl hy4) H7 rfl (aP [1,2] [] [0,1,2] 3 rfl)) ?_;rintro _ _ ⟨_,⟨A5,n5,c5,rfl,rfl⟩,rfl⟩;refine run ?_;obtain rfl:=av h;exact aO rfl rfl (ab [] 4 rfl rfl) ⟨rfl,rfl⟩
theorem fA {r:Bool}: ∀v post,((fun (u:Value) (post:List Chunk)=>u=.bool r∧post=[])) v post→ ∀c∈post,cA c:=by
 rintro _ _ ⟨rfl,rfl⟩;exact ae
def kK (N:Nat)(a0:DValue)(a1:DMemory):Option Bool:=
 (iA N a0).bind fun y5=>(bif y5.2 then ((dq N a1 y5.1).bind fun y7=>some (!y7)) else (some false)).bind fun b6=>some b6
theorem xC {N:Nat}{a0:DValue}{a1:DMemory}{r:Bool}(h:kK N a0 a1=some r):Okc Tryz.prog 206 [.agg #[iV a0.Kind,iV a0.N,.string a0.S],pV B1 0] ([aG B1 36 [.slice A2 n2 c2,.slice A3 n3 c3],bo A2 n2 c2 a1.Young,bo A3 n3 c3 a1.Old]) (fun u post=>u=.bool r∧post=[]):=by
 refine bI Tryz.func206 rfl rfl ?_;simp only [aW];refine run ?_;refine gD (bD rfl rfl) ?_;rintro _ _ ⟨B4,rfl,rfl⟩;refine run ?_;refine gR (aI (us:=[iV a0.Kind,iV a0.N,.string a0.S]) 0 rfl rfl cz rfl) ?_;obtain ⟨y5,hy5,h⟩:=aa h;refine gD (ai (pE hy5) Fn rfl (ae) nH) ?_;rintro _ _ ⟨_,⟨rfl,rfl⟩,rfl⟩;refine run ?_;obtain ⟨b6,hb6,h⟩:=aa h;refine bc 5 17 b6 ?_ ?_
 ·clear h;refine ba 12 rfl (fun g6=> ?_) (fun g6=> ?_)
  ·have h:=aj g6 hb6;refine cL (ru (us:=[.slice A2 n2 c2,.slice A3 n3 c3]) 1 rfl rfl dH rfl) rfl (cm g6 rfl) rfl ?_;refine run ?_;obtain ⟨y7,hy7,h⟩:=aa h;refine dg (ai (ij hy7) ud rfl (mem_cons (ag (i:=2) rfl rfl) (mem_cons (ag (i:=3) rfl rfl) ae)) fA) rfl (cm g6 rfl) rfl ?_;rintro _ _ ⟨_,⟨rfl,rfl⟩,rfl⟩;refine run ?_;obtain rfl:=av h;exact am sA (ab [0,1,2,3] 4 rfl rfl)
  have h:=ak g6 hb6;refine run ?_;obtain rfl:=av h;exact am sA (ab [0,1,2,3] 4 rfl rfl)
 refine run ?_;obtain rfl:=av h;exact aO rfl rfl (ab [] 4 rfl rfl) ⟨rfl,rfl⟩
def jF (N:Nat)(ff:DValue→Option Bool):Option Int:=
 some (-1)
def slices_IndexFunc_Value_l3 (N:Nat)(ff:DValue→Option Bool)(a0:(List DValue)):Nat→Int→Option Int
 |0,_=>none
 |m3+1,p4=>bif decide (p4<(a0.length:Int)) then ((aM a0 p4).bind fun x6=>(ff x6).bind fun y7=>bif y7 then (some p4) else (bA (in64 (p4+1)) ((slices_IndexFunc_Value_l3 N ff a0 m3) (p4+1)))) else (jF N ff)
def gg (N:Nat)(a0:(List DValue))(ff:DValue→Option Bool):Option Int:=
 slices_IndexFunc_Value_l3 N ff a0 N 0
theorem om {N:Nat}{a0:(List DValue)}{ff:DValue→Option Bool}{r:Int}(h:gg N a0 ff=some r){vf:Value}{G:List Chunk}(hf:EB Tryz.prog vf G (fun x=> [.agg #[iV x.Kind,iV x.N,.string x.S]]) (fun r=> .bool r) ff):Okc Tryz.prog 157 [.slice A1 n1 c1,vf] (aH A1 n1 c1 a0::G) (fun u post=>u=iV r∧post=[]):=by
 refine bI Tryz.func157 rfl rfl ?_;simp only [aW];refine run ?_;refine aX (fun s L=>jF N ff=some r∧s=[(4,iV 0)]∧L=G) ?_ ?_
 ·refine run ?_;refine gR (aT 0 rfl au rfl Tryz.underlying38) ?_;refine run ?_;refine bJ (fun m s L=> ∃p4,slices_IndexFunc_Value_l3 N ff a0 m p4=some r∧s=[(0,.slice A1 n1 c1),(1,vf),(4,iV 0),(7,iV (a0.length:Int)),(8,iV p4)]∧L=aH A1 n1 c1 a0::G) N _ _ ⟨0,h,rfl,rfl⟩ sA (ab [0] 1 rfl rfl) ?_;rintro (_|m3) _ _ ⟨p4,h,rfl,rfl⟩
  ·exact aL h
  rw [slices_IndexFunc_Value_l3.eq_2] at h;refine run ?_;refine aB ?_;refine ay rfl (fun g5=> ?_) (fun g5=> ?_)
  ·replace h:=aj g5 h;refine run ?_;refine aB ?_;refine run ?_;obtain ⟨x6,hx6,h⟩:=aa h;obtain ⟨lx6,ux6,hx6⟩:=aC hx6;refine gR (bd 0 rfl au rfl rfl Tryz.underlying38 bp lx6 ux6) ?_;refine gR (bV (us:=[iV x6.Kind,iV x6.N,.string x6.S]) 0 rfl au rfl hx6 cz (fun _ _ _ h=>by rw [show _=_ from h];rfl)) ?_;obtain ⟨y7,hy7,h⟩:=aa h;refine gD (yV (a:=x6) [aH A1 n1 c1 a0] hf hy7 rfl rfl) ?_;rintro _ _ ⟨rfl,rfl⟩;refine run ?_;refine ay rfl (fun g8=> ?_) (fun g8=> ?_)
   ·replace h:=aj g8 h;refine run ?_;obtain rfl:=av h;exact aO rfl rfl (ql [] 1 rfl rfl) ⟨rfl,rfl⟩
   replace h:=ak g8 h;refine run ?_;obtain ⟨q9,h⟩:=aq h;refine gE (be rfl rfl q9.1 q9.2) ?_;refine run ?_;exact ⟨m3,_,_,Nat.lt_succ_self _,⟨p4+1,h,rfl,rfl⟩,sA,ab [0] 1 rfl rfl⟩
  replace h:=ak g5 h;refine run ?_;exact ⟨_,_,⟨h,rfl,rfl⟩,sA,ab [] 1 rfl rfl⟩
 rintro _ _ ⟨h,rfl,rfl⟩;refine run ?_;obtain rfl:=av h;exact aO rfl rfl (ql [] 0 rfl rfl) ⟨rfl,rfl⟩
theorem mI {r:Int}: ∀v post,((fun (u:Value) (post:List Chunk)=>u=iV r∧post=[])) v post→ ∀c∈post,cA c:=by
 rintro _ _ ⟨rfl,rfl⟩;exact ae
def cx (N:Nat)(a0:(List DValue))(ff:DValue→Option Bool):Option Bool:=
 (gg N a0 ff).bind fun y2=>some (decide (0≤y2))
theorem iw {N:Nat}{a0:(List DValue)}{ff:DValue→Option Bool}{r:Bool}(h:cx N a0 ff=some r){vf:Value}{G:List Chunk}(hf:EB Tryz.prog vf G (fun x=> [.agg #[iV x.Kind,iV x.N,.string x.S]]) (fun r=> .bool r) ff):Okc Tryz.prog 74 [.slice A1 n1 c1,vf] (aH A1 n1 c1 a0::G) (fun u post=>u=.bool r∧post=[]):=by
 refine bI Tryz.func74 rfl rfl ?_;simp only [aW];refine run ?_;obtain ⟨y2,hy2,h⟩:=aa h;refine gD (ai (om hy2 hf) JY rfl (mem_cons (ag (i:=0) rfl rfl) (ww (E:=[aH A1 n1 c1 a0]) hf.1)) mI) ?_;rintro _ _ ⟨_,⟨rfl,rfl⟩,rfl⟩;refine run ?_;obtain rfl:=av h;exact aO rfl rfl (ql [] 1 rfl rfl) ⟨rfl,rfl⟩
theorem gC {r:Bool}: ∀v post,((fun (u:Value) (post:List Chunk)=>u=.bool r∧post=[])) v post→ ∀c∈post,cA c:=by
 rintro _ _ ⟨rfl,rfl⟩;exact ae
def fD (N:Nat)(p3:(List DCell)):Option (List DCell):=
 some p3
def i9 (N:Nat)(a1:Int):Option (List DCell):=
 bif decide (a1<0) then none else (bA (in64 (0 - 0)) (bA (in64 (a1 - (0 - 0))) (bif decide (0<a1 - (0 - 0)) then (bA ((0:Int)<(a1 - (0 - 0))∧(a1 - (0 - 0))≤1099511627776) (fD N ([]:List DCell))) else (fD N []))))
theorem qU {N:Nat}{a1:Int}{r:(List DCell)}(h:i9 N a1=some r):Okc Tryz.prog 160 [.slice none 0 0,iV a1] ([]) (fun u post=> ∃A0 n0 c0,u=.slice A0 n0 c0∧post=[aD A0 n0 c0 r]):=by
 refine bI Tryz.func160 rfl rfl ?_;simp only [aW];refine run ?_;refine aB ?_;refine run ?_;refine ay rfl (fun g1=> ?_) (fun g1=> ?_)
 ·replace h:=aj g1 h;exact aL h
 replace h:=ak g1 h;refine run ?_;refine aX (fun s L=> ∃p3 A3 n3 c3,fD N p3=some r∧s=[(0,.slice A3 n3 c3),(4,.slice none 0 0)]∧L=[aD A3 n3 c3 p3]) ?_ ?_
 ·refine run ?_;refine gE (sK rfl Tryz.underlying34) ?_;refine run ?_;refine gE (kT rfl Tryz.underlying34) ?_;obtain ⟨q4,h⟩:=aq h;refine gE (ly rfl rfl q4.1 q4.2) ?_;obtain ⟨q5,h⟩:=aq h;refine gE (ly rfl rfl q5.1 q5.2) ?_;refine run ?_;refine ay rfl (fun g6=> ?_) (fun g6=> ?_)
  ·replace h:=aj g6 h;refine run ?_;refine gE (sK rfl Tryz.underlying34) ?_;refine gE (wF rfl Tryz.underlying34 bL rfl) ?_;refine run ?_;obtain ⟨q7,h⟩:=aq h;refine gD (tV rfl rfl Tryz.underlying34 Tryz.underlying3 Bh rfl q7.1 q7.2) ?_;rintro _ _ ⟨A8,n8,c8,rfl,rfl⟩;refine run ?_;refine gE (kT rfl Tryz.underlying34) ?_;refine gD (BD (R:=cY) 0 rfl rfl Tryz.underlying34 bL rfl rfl) ?_;rintro _ _ ⟨A9,n9,c9,rfl,rfl⟩;refine run ?_;exact ⟨_,_,⟨([]:List DCell),A9,n9,c9,h,rfl,rfl⟩,sA,ab [0] 1 rfl rfl⟩
  replace h:=ak g6 h;refine run ?_;exact ⟨_,_,⟨[],none,0,0,h,rfl,rfl⟩,sA,(bv cY 47 _).trans (ab [0] 1 rfl rfl)⟩
 rintro _ _ ⟨p3,A3,n3,c3,h,rfl,rfl⟩;refine run ?_;obtain rfl:=av h;exact aO rfl rfl (ab [0] 1 rfl rfl) ⟨_,_,_,rfl,rfl⟩
def ic (N:Nat)(p12:(List DCell)):Option (List DCell):=
 some p12
def iL (N:Nat)(a0_0:(List DCell))(a0_1:(List DCell)):Option (List DCell):=
 (i9 N ((0+(a0_0.length:Int))+(a0_1.length:Int))).bind fun y9=>bA (bY (y9.length+a0_0.length)) (bA (bY ((y9++a0_0).length+a0_1.length)) (ic N ((y9++a0_0)++a0_1)))
def ey (N:Nat)(a0_0:(List DCell))(a0_1:(List DCell)):Option (List DCell):=
 bA (in64 (0+(a0_0.length:Int))) (bif decide (0+(a0_0.length:Int)<0) then none else (bA (in64 ((0+(a0_0.length:Int))+(a0_1.length:Int))) (bif decide ((0+(a0_0.length:Int))+(a0_1.length:Int)<0) then none else (iL N a0_0 a0_1))))
theorem lb {N:Nat}{a0_0:(List DCell)}{a0_1:(List DCell)}{r:(List DCell)}(h:ey N a0_0 a0_1=some r):Okc Tryz.prog 78 [.slice (some ⟨B1,0,none⟩) 2 2] ([aG B1 34 [.slice A2 n2 c2,.slice A3 n3 c3],bo A2 n2 c2 a0_0,bo A3 n3 c3 a0_1]) (fun u post=> ∃A0 n0 c0,u=.slice A0 n0 c0∧post=[aD A0 n0 c0 r]):=by
 refine bI Tryz.func78 rfl rfl ?_;simp only [aW];refine run ?_;refine aX (fun s L=>iL N a0_0 a0_1=some r∧s=[(0,.slice (some ⟨B1,0,none⟩) 2 2),(2,.slice none 0 0),(3,iV ((0+(a0_0.length:Int))+(a0_1.length:Int)))]∧L=[bo A2 n2 c2 a0_0,bo A3 n3 c3 a0_1,aG B1 34 [.slice A2 n2 c2,.slice A3 n3 c3]]) ?_ ?_
 ·refine run ?_;refine gE (kT rfl Tryz.underlying117) ?_;refine run ?_;refine og 3 ?_;refine pk ?_;refine run ?_;refine aB ?_;refine dO rfl ?_;refine run ?_;refine aB ?_;refine run ?_;refine gE (kr rfl rfl Tryz.underlying117 o7 (by decide) (by decide)) ?_;refine gR (bz 0 rfl rfl jG rfl) ?_;refine run ?_;refine gR (aT 1 rfl au rfl Tryz.underlying34) ?_;obtain ⟨q5,h⟩:=aq h;refine gE (be rfl rfl q5.1 q5.2) ?_;refine run ?_;refine ay rfl (fun g6=> ?_) (fun g6=> ?_)
  ·replace h:=aj g6 h;exact aL h
  replace h:=ak g6 h;refine run ?_;refine gE (be rfl rfl (by decide) (by decide)) ?_;refine run ?_;refine pk ?_;refine run ?_;refine aB ?_;refine dO rfl ?_;refine run ?_;refine aB ?_;refine run ?_;refine gE (kr rfl rfl Tryz.underlying117 o7 (by decide) (by decide)) ?_;refine gR (bz 0 rfl rfl jG rfl) ?_;refine run ?_;refine gR (aT 2 rfl au rfl Tryz.underlying34) ?_;obtain ⟨q7,h⟩:=aq h;refine gE (be rfl rfl q7.1 q7.2) ?_;refine run ?_;refine ay rfl (fun g8=> ?_) (fun g8=> ?_)
  ·replace h:=aj g8 h;exact aL h
  replace h:=ak g8 h;refine run ?_;refine gE (be rfl rfl (by decide) (by decide)) ?_;refine run ?_;refine pk ?_;refine run ?_;refine aB ?_;refine gP rfl ?_;refine run ?_;exact ⟨_,_,⟨h,rfl,rfl⟩,sA,ab [1,2,0] 3 rfl rfl⟩
 rintro _ _ ⟨h,rfl,rfl⟩;refine run ?_;obtain ⟨y9,hy9,h⟩:=aa h;refine gD (bi (qU hy9) JV rfl (aP [] [] [0,1,2] 3 rfl)) ?_;rintro _ _ ⟨_,⟨A10,n10,c10,rfl,rfl⟩,rfl⟩;refine run ?_;refine aX (fun s L=> ∃p12 A12 n12 c12,ic N p12=some r∧s=[(2,.slice none 0 0),(6,.slice A12 n12 c12)]∧L=[aD A12 n12 c12 p12]) ?_ ?_
 ·refine run ?_;refine gE (kT rfl Tryz.underlying117) ?_;refine run ?_;refine og 3 ?_;refine pk ?_;refine run ?_;refine aB ?_;refine dO rfl ?_;refine run ?_;refine aB ?_;refine run ?_;refine gE (kr rfl rfl Tryz.underlying117 o7 (by decide) (by decide)) ?_;refine gR (bz 3 rfl rfl jG rfl) ?_;refine run ?_;obtain ⟨q13,h⟩:=aq h;refine gD (bR 0 1 rfl rfl au rfl rfl Tryz.underlying34 Bh rfl rfl q13) ?_;rintro _ _ ⟨A14,n14,c14,rfl,rfl⟩;refine run ?_;refine gE (be rfl rfl (by decide) (by decide)) ?_;refine run ?_;refine pk ?_;refine run ?_;refine aB ?_;refine dO rfl ?_;refine run ?_;refine aB ?_;refine run ?_;refine gE (kr rfl rfl Tryz.underlying117 o7 (by decide) (by decide)) ?_;refine gR (bz 3 rfl rfl jG rfl) ?_;refine run ?_;obtain ⟨q15,h⟩:=aq h;refine gD (bR 0 2 rfl rfl au rfl rfl Tryz.underlying34 Bh rfl rfl q15) ?_;rintro _ _ ⟨A16,n16,c16,rfl,rfl⟩;refine bQ ([aD A16 n16 c16 ((y9++a0_0)++a0_1),bo A2 n2 c2 a0_0,bo A3 n3 c3 a0_1,aG B1 34 [.slice A2 n2 c2,.slice A3 n3 c3]]) rfl ?_;refine run ?_;refine gE (be rfl rfl (by decide) (by decide)) ?_;refine run ?_;refine pk ?_;refine run ?_;refine aB ?_;refine gP rfl ?_;refine run ?_;exact ⟨_,_,⟨(y9++a0_0)++a0_1,A16,n16,c16,h,rfl,rfl⟩,sA,ab [0] 4 rfl rfl⟩
 rintro _ _ ⟨p12,A12,n12,c12,h,rfl,rfl⟩;refine run ?_;obtain rfl:=av h;exact aO rfl rfl (ab [0] 1 rfl rfl) ⟨_,_,_,rfl,rfl⟩
def jD (N:Nat)(a0:DValue):Option Bool:=
 (bif decide (a0.Kind=7) then (some true) else (some (decide (a0.Kind=9)))).bind fun b2=>some b2
theorem pi {N:Nat}{a0:DValue}{r:Bool}(h:jD N a0=some r):Okc Tryz.prog 214 [.agg #[iV a0.Kind,iV a0.N,.string a0.S]] ([]) (fun u post=>u=.bool r∧post=[]):=by
 refine bI Tryz.func214 rfl rfl ?_;simp only [aW];refine run ?_;refine gD (bD rfl rfl) ?_;rintro _ _ ⟨B1,rfl,rfl⟩;refine run ?_;obtain ⟨b2,hb2,h⟩:=aa h;refine bc 4 10 b2 ?_ ?_
 ·clear h;refine ba 6 rfl (fun g2=> ?_) (fun g2=> ?_)
  ·have h:=aj g2 hb2;refine run ?_;obtain rfl:=av h;exact am sA (ab [0] 1 rfl rfl)
  have h:=ak g2 hb2;refine run ?_;obtain rfl:=av h;exact am sA (ab [0] 1 rfl rfl)
 refine run ?_;obtain rfl:=av h;exact aO rfl rfl (ab [] 1 rfl rfl) ⟨rfl,rfl⟩
theorem my {r:Bool}: ∀v post,((fun (u:Value) (post:List Chunk)=>u=.bool r∧post=[])) v post→ ∀c∈post,cA c:=by
 rintro _ _ ⟨rfl,rfl⟩;exact ae
def d9 (N:Nat)(a1:Bool)(x8:Bool×DValue):((List Int))→Option (Option Exit×(List Int))
 |p9=>(bif x8.1==a1 then ((jD N x8.2).bind fun y14=>some y14) else (some false)).bind fun b13=>bif b13 then (bA (bY (p9.length+([x8.2.N]:List Int).length)) (some (none,p9++([x8.2.N]:List Int)))) else (some (none,p9))
def gM (N:Nat)(a0:DCell)(a1:Bool):Option (List Int):=
 (nX N a0).bind fun y6=>(jZ N a0 (cJ (fun x st=>d9 N a1 x st)) (none,[])).bind fun y10=>mg y10.1 (some y10.2) none (fun _=>none)
theorem oU {N:Nat}{a0:DCell}{a1:Bool}{r:(List Int)}(h:gM N a0 a1=some r):Okc Tryz.prog 173 [.agg #[iV a0.Kind,iV a0.Shape,iV a0.Flags,iV a0.Age,.slice A1 n1 c1,.slice A2 n2 c2],.bool a1] ([aH A1 n1 c1 a0.Slots,aH A2 n2 c2 a0.More]) (fun u post=> ∃A0 n0 c0,u=.slice A0 n0 c0∧post=[cU A0 n0 c0 r]):=by
 refine bI Tryz.func173 rfl rfl ?_;simp only [aW];refine run ?_;refine gD (bD rfl rfl) ?_;rintro _ _ ⟨B3,rfl,rfl⟩;refine gD (bD rfl rfl) ?_;rintro _ _ ⟨B4,rfl,rfl⟩;refine run ?_;refine gD (aQ Dx rfl) ?_;rintro _ _ ⟨B5,rfl,rfl⟩;refine run ?_;refine aB ?_;refine run ?_;refine gR (aI (us:=[iV a0.Kind,iV a0.Shape,iV a0.Flags,iV a0.Age,.slice A1 n1 c1,.slice A2 n2 c2]) 2 rfl rfl bx rfl) ?_;obtain ⟨y6,hy6,h⟩:=aa h;refine gD (ai (xl hy6) Fu rfl (mem_cons (ag (i:=3) rfl rfl) (mem_cons (ag (i:=4) rfl rfl) ae)) tA) ?_;rintro _ _ ⟨_,⟨B7,rfl,rfl⟩,rfl⟩;refine o3 ?_;refine fH ?_;refine gN ?_ bT (ft 0 rfl);obtain ⟨y10,hy10,h⟩:=aa h;refine pR (en:=(fun x=> [.bool x.1,.agg #[iV x.2.Kind,iV x.2.N,.string x.2.S]])) (fun x st=>d9 N a1 x st) (fun (st:(List Int)) (mz:((Option Addr×Nat×Nat)))=> [ac B4 4 [.bool a1],eP (fG .i64) 3 (.slice mz.1 mz.2.1 mz.2.2) st,ac B5 23 [.slice mz.1 mz.2.1 mz.2.2]]) [aG B7 47 [iV a0.Kind,iV a0.Shape,iV a0.Flags,iV a0.Age,.slice A1 n1 c1,.slice A2 n2 c2],aH A1 n1 c1 a0.Slots,aH A2 n2 c2 a0.More] ([]) ((none,0,0)) rfl rfl Fi rfl (fun _=>rfl) (fun l G hY=>(se hy10 hY).mono fun _ _ hh=>hh.2) ((bv (fG .i64) 3 _).trans (aP [1,5,6] [] [3,0,2] 7 rfl)) h ?_ ?_ ?_ ?_
 ·rintro l x8 p9 je sr8 ⟨A9,n9,c9⟩ h;replace h:d9 N a1 x8 p9=some (je,sr8):=h;simp only [vD,List.zip_cons_cons,List.zip_nil_left,List.zip_nil_right,List.reverse_cons,List.reverse_nil,List.nil_append,List.cons_append];refine run ?_;refine gD (aQ i6 rfl) ?_;rintro _ _ ⟨B12,rfl,rfl⟩;refine gO (ap (us:=[iV x8.2.Kind,iV x8.2.N,.string x8.2.S]) (cs':=[iV x8.2.Kind,iV x8.2.N,.string x8.2.S]) 0 rfl rfl rfl rfl bp rfl rfl rfl) ?_;rintro _ _ rfl;refine run ?_;refine gE (KN rfl rfl Tryz.underlying4) ?_;refine run ?_;obtain ⟨b13,hb13,h⟩:=aa h;refine bc 3 18 b13 ?_ ?_
  ·clear h;refine ba 15 rfl (fun g13=> ?_) (fun g13=> ?_)
   ·have h:=aj g13 hb13;refine cL (aI (us:=[iV x8.2.Kind,iV x8.2.N,.string x8.2.S]) 0 rfl rfl cz rfl) rfl (cm g13 rfl) rfl ?_;obtain ⟨y14,hy14,h⟩:=aa h;refine dg (ai (pi hy14) Ca rfl (ae) my) rfl (cm g13 rfl) rfl ?_;rintro _ _ ⟨_,⟨rfl,rfl⟩,rfl⟩;refine run ?_;obtain rfl:=av h;exact am sA (ab [0,1,2,3] 4 rfl rfl)
   have h:=ak g13 hb13;refine run ?_;obtain rfl:=av h;exact am sA (ab [0,1,2,3] 4 rfl rfl)
  refine run ?_;refine ay rfl (fun g15=> ?_) (fun g15=> ?_)
  ·replace h:=aj g15 h;refine run ?_;refine gD (cp (R:=(fG .i64)) (vss:=[[iV x8.2.N]]) (xs:=[x8.2.N]) rfl (ka _) rfl rfl (fun _ _ hr=> .cons rfl All2.nil)) ?_;rintro _ _ ⟨A16,n16,c16,rfl,rfl⟩;obtain ⟨q17,h⟩:=aq h;refine gD (bR 3 0 rfl rfl aK rfl rfl Tryz.underlying23 Dw rfl rfl q17) ?_;rintro _ _ ⟨A18,n18,c18,rfl,rfl⟩;refine bQ ([cU A16 n16 c16 ([x8.2.N]:List Int),ac B12 52 [iV x8.2.Kind,iV x8.2.N,.string x8.2.S],ac B4 4 [.bool a1],cU A18 n18 c18 (p9++([x8.2.N]:List Int)),ac B5 23 [.slice A9 n9 c9]]) rfl ?_;refine gO (ap (us:=[.slice A18 n18 c18]) (cs':=[.slice A18 n18 c18]) 4 rfl rfl rfl rfl o8 rfl rfl rfl) ?_;rintro _ _ rfl;refine run ?_;obtain ⟨rfl,rfl⟩:=Prod.mk.inj (Option.some.inj h);exact xD ((ab [2,3,4] 5 rfl rfl).trans (eF (A18,n18,c18) rfl))
  replace h:=ak g15 h;refine run ?_;obtain ⟨rfl,rfl⟩:=Prod.mk.inj (Option.some.inj h);exact xD ((ab [1,2,3] 4 rfl rfl).trans (eF (A9,n9,c9) rfl))
 ·rintro ⟨A9,n9,c9⟩ h;refine lO ([ac B4 4 [.bool a1],cU A9 n9 c9 y10.2,ac B5 23 [.slice A9 n9 c9]]) rfl ?_;refine run ?_;obtain rfl:=av h;exact aO rfl rfl (ab [1] 3 rfl rfl) ⟨_,_,_,rfl,rfl⟩
 ·rintro ⟨A9,n9,c9⟩ h;exact aL h
 rintro i ⟨A9,n9,c9⟩ h;exact aL h
theorem mG {r:(List Int)}: ∀v post,((fun (u:Value) (post:List Chunk)=> ∃A0 n0 c0,u=.slice A0 n0 c0∧post=[cU A0 n0 c0 r])) v post→ ∀c∈post,cA c:=by
 rintro _ _ ⟨_,_,_,rfl,rfl⟩;exact mem_cons bX (ae)
def ea (N:Nat)(a0:DCell):Option (List Int):=
 (gM N a0 true).bind fun y4=>some y4
theorem gn {N:Nat}{a0:DCell}{r:(List Int)}(h:ea N a0=some r):Okc Tryz.prog 96 [.agg #[iV a0.Kind,iV a0.Shape,iV a0.Flags,iV a0.Age,.slice A1 n1 c1,.slice A2 n2 c2]] ([aH A1 n1 c1 a0.Slots,aH A2 n2 c2 a0.More]) (fun u post=> ∃A0 n0 c0,u=.slice A0 n0 c0∧post=[cU A0 n0 c0 r]):=by
 refine bI Tryz.func96 rfl rfl ?_;simp only [aW];refine run ?_;refine gD (bD rfl rfl) ?_;rintro _ _ ⟨B3,rfl,rfl⟩;refine run ?_;refine gR (aI (us:=[iV a0.Kind,iV a0.Shape,iV a0.Flags,iV a0.Age,.slice A1 n1 c1,.slice A2 n2 c2]) 0 rfl rfl bx rfl) ?_;obtain ⟨y4,hy4,h⟩:=aa h;refine gD (ai (oU hy4) Ft rfl (mem_cons (ag (i:=1) rfl rfl) (mem_cons (ag (i:=2) rfl rfl) ae)) mG) ?_;rintro _ _ ⟨_,⟨A5,n5,c5,rfl,rfl⟩,rfl⟩;refine run ?_;obtain rfl:=av h;exact aO rfl rfl (ab [0] 4 rfl rfl) ⟨_,_,_,rfl,rfl⟩
theorem eS {r:(List Int)}: ∀v post,((fun (u:Value) (post:List Chunk)=> ∃A0 n0 c0,u=.slice A0 n0 c0∧post=[cU A0 n0 c0 r])) v post→ ∀c∈post,cA c:=by
 rintro _ _ ⟨_,_,_,rfl,rfl⟩;exact mem_cons bX (ae)
def fh (N:Nat)(a0:DCell):Option (List Int):=
 (gM N a0 false).bind fun y4=>some y4
theorem kV {N:Nat}{a0:DCell}{r:(List Int)}(h:fh N a0=some r):Okc Tryz.prog 97 [.agg #[iV a0.Kind,iV a0.Shape,iV a0.Flags,iV a0.Age,.slice A1 n1 c1,.slice A2 n2 c2]] ([aH A1 n1 c1 a0.Slots,aH A2 n2 c2 a0.More]) (fun u post=> ∃A0 n0 c0,u=.slice A0 n0 c0∧post=[cU A0 n0 c0 r]):=by
 refine bI Tryz.func97 rfl rfl ?_;simp only [aW];refine run ?_;refine gD (bD rfl rfl) ?_;rintro _ _ ⟨B3,rfl,rfl⟩;refine run ?_;refine gR (aI (us:=[iV a0.Kind,iV a0.Shape,iV a0.Flags,iV a0.Age,.slice A1 n1 c1,.slice A2 n2 c2]) 0 rfl rfl bx rfl) ?_;obtain ⟨y4,hy4,h⟩:=aa h;refine gD (ai (oU hy4) Ft rfl (mem_cons (ag (i:=1) rfl rfl) (mem_cons (ag (i:=2) rfl rfl) ae)) mG) ?_;rintro _ _ ⟨_,⟨A5,n5,c5,rfl,rfl⟩,rfl⟩;refine run ?_;obtain rfl:=av h;exact aO rfl rfl (ab [0] 4 rfl rfl) ⟨_,_,_,rfl,rfl⟩
theorem jE {r:(List Int)}: ∀v post,((fun (u:Value) (post:List Chunk)=> ∃A0 n0 c0,u=.slice A0 n0 c0∧post=[cU A0 n0 c0 r])) v post→ ∀c∈post,cA c:=by
 rintro _ _ ⟨_,_,_,rfl,rfl⟩;exact mem_cons bX (ae)
def fW (N:Nat)(a0:DCell):Option (List Int):=
 (ea N a0).bind fun y4=>(fh N a0).bind fun y6=>bA (bY (y4.length+y6.length)) (some (y4++y6))
theorem nG {N:Nat}{a0:DCell}{r:(List Int)}(h:fW N a0=some r):Okc Tryz.prog 209 [.agg #[iV a0.Kind,iV a0.Shape,iV a0.Flags,iV a0.Age,.slice A1 n1 c1,.slice A2 n2 c2]] ([aH A1 n1 c1 a0.Slots,aH A2 n2 c2 a0.More]) (fun u post=> ∃A0 n0 c0,u=.slice A0 n0 c0∧post=[cU A0 n0 c0 r]):=by
 refine bI Tryz.func209 rfl rfl ?_;simp only [aW];refine run ?_;refine gD (bD rfl rfl) ?_;rintro _ _ ⟨B3,rfl,rfl⟩;refine run ?_;refine aB ?_;refine co (by kernel_rfl) _ (ad _) ?_;refine bm 0 rfl (by kernel_rfl) (aI (us:=[iV a0.Kind,iV a0.Shape,iV a0.Flags,iV a0.Age,.slice A1 n1 c1,.slice A2 n2 c2]) 0 rfl rfl bx rfl) rfl rfl ?_;refine bm 2 rfl (by kernel_rfl) (aI (us:=[iV a0.Kind,iV a0.Shape,iV a0.Flags,iV a0.Age,.slice A1 n1 c1,.slice A2 n2 c2]) 0 rfl rfl bx rfl) rfl rfl ?_;obtain ⟨y4,hy4,h⟩:=aa h;refine bq 1 rfl (by kernel_rfl) (ai (gn hy4) uc rfl (mem_cons (ag (i:=1) rfl rfl) (mem_cons (ag (i:=2) rfl rfl) ae)) eS) rfl rfl rfl ?_;rintro _ _ ⟨_,⟨A5,n5,c5,rfl,rfl⟩,rfl⟩;refine ⟨_,ab [1,2,3] 4 rfl rfl,ad _,?_⟩;obtain ⟨y6,hy6,h⟩:=aa h;refine bq 3 rfl (by kernel_rfl) (ai (kV hy6) BY rfl (mem_cons (ag (i:=2) rfl rfl) (mem_cons (ag (i:=3) rfl rfl) ae)) jE) rfl rfl rfl ?_;rintro _ _ ⟨_,⟨A7,n7,c7,rfl,rfl⟩,rfl⟩;refine ⟨_,ab [2,3,4] 5 rfl rfl,ad _,?_⟩;obtain ⟨q8,h⟩:=aq h;refine bq 4 rfl (by kernel_rfl) (bR 1 0 rfl rfl aK rfl rfl Tryz.underlying23 Dw rfl rfl q8) rfl rfl rfl ?_;rintro _ _ ⟨A9,n9,c9,rfl,rfl⟩;refine ⟨_,ab [2,3,4] 5 rfl rfl,ad _,?_⟩;refine ah 5 rfl (by kernel_rfl) (aJ rfl) rfl rfl ?_;refine bC (by kernel_rfl) ?_;refine run ?_;obtain rfl:=av h;exact aO rfl rfl (ab [1] 5 rfl rfl) ⟨_,_,_,rfl,rfl⟩
theorem lX {r:(List Int)}: ∀v post,((fun (u:Value) (post:List Chunk)=> ∃A0 n0 c0,u=.slice A0 n0 c0∧post=[cU A0 n0 c0 r])) v post→ ∀c∈post,cA c:=by
 rintro _ _ ⟨_,_,_,rfl,rfl⟩;exact mem_cons bX (ae)
def ln (N:Nat)(a0:Int)(a1:DMemory):Option Bool:=
 (dq N a1 a0).bind fun y4=>some (!y4)
theorem vc {N:Nat}{a0:Int}{a1:DMemory}{r:Bool}(h:ln N a0 a1=some r):Okc Tryz.prog 246 [iV a0,pV B1 0] ([aG B1 36 [.slice A2 n2 c2,.slice A3 n3 c3],bo A2 n2 c2 a1.Young,bo A3 n3 c3 a1.Old]) (fun u post=>u=.bool r∧post=[]):=by
 refine bI Tryz.func246 rfl rfl ?_;simp only [aW];refine run ?_;refine gR (ru (us:=[.slice A2 n2 c2,.slice A3 n3 c3]) 0 rfl rfl dH rfl) ?_;refine run ?_;obtain ⟨y4,hy4,h⟩:=aa h;refine gD (ai (ij hy4) ud rfl (mem_cons (ag (i:=1) rfl rfl) (mem_cons (ag (i:=2) rfl rfl) ae)) fA) ?_;rintro _ _ ⟨_,⟨rfl,rfl⟩,rfl⟩;refine run ?_;obtain rfl:=av h;exact aO rfl rfl (ab [] 3 rfl rfl) ⟨rfl,rfl⟩
def mB (N:Nat)(ff:Int→Option Bool):Option Int:=
 some (-1)
def slices_IndexFunc_l3 (N:Nat)(ff:Int→Option Bool)(a0:(List Int)):Nat→Int→Option Int
 |0,_=>none
 |m3+1,p4=>bif decide (p4<(a0.length:Int)) then ((aM a0 p4).bind fun x6=>(ff x6).bind fun y7=>bif y7 then (some p4) else (bA (in64 (p4+1)) ((slices_IndexFunc_l3 N ff a0 m3) (p4+1)))) else (mB N ff)
def gZ (N:Nat)(a0:(List Int))(ff:Int→Option Bool):Option Int:=
 slices_IndexFunc_l3 N ff a0 N 0
theorem sQ {N:Nat}{a0:(List Int)}{ff:Int→Option Bool}{r:Int}(h:gZ N a0 ff=some r){vf:Value}{G:List Chunk}(hf:EB Tryz.prog vf G (fun x=> [iV x]) (fun r=> .bool r) ff):Okc Tryz.prog 172 [.slice A1 n1 c1,vf] (cT A1 n1 c1 a0::G) (fun u post=>u=iV r∧post=[]):=by
 refine bI Tryz.func172 rfl rfl ?_;simp only [aW];refine run ?_;refine aX (fun s L=>mB N ff=some r∧s=[(4,iV 0)]∧L=G) ?_ ?_
 ·refine run ?_;refine gR (aT 0 rfl au rfl Tryz.underlying23) ?_;refine run ?_;refine bJ (fun m s L=> ∃p4,slices_IndexFunc_l3 N ff a0 m p4=some r∧s=[(0,.slice A1 n1 c1),(1,vf),(4,iV 0),(7,iV (a0.length:Int)),(8,iV p4)]∧L=cT A1 n1 c1 a0::G) N _ _ ⟨0,h,rfl,rfl⟩ sA (ab [0] 1 rfl rfl) ?_;rintro (_|m3) _ _ ⟨p4,h,rfl,rfl⟩
  ·exact aL h
  rw [slices_IndexFunc_l3.eq_2] at h;refine run ?_;refine aB ?_;refine ay rfl (fun g5=> ?_) (fun g5=> ?_)
  ·replace h:=aj g5 h;refine run ?_;refine aB ?_;refine run ?_;obtain ⟨x6,hx6,h⟩:=aa h;obtain ⟨lx6,ux6,hx6⟩:=aC hx6;refine gR (bd 0 rfl au rfl rfl Tryz.underlying23 dL lx6 ux6) ?_;refine gR (bW (u:=iV x6) 0 rfl au rfl hx6 eU (fun _ _ _ h=>by rw [show _=_ from h];rfl)) ?_;obtain ⟨y7,hy7,h⟩:=aa h;refine gD (yV (a:=x6) [cT A1 n1 c1 a0] hf hy7 rfl rfl) ?_;rintro _ _ ⟨rfl,rfl⟩;refine run ?_;refine ay rfl (fun g8=> ?_) (fun g8=> ?_)
   ·replace h:=aj g8 h;refine run ?_;obtain rfl:=av h;exact aO rfl rfl (ql [] 1 rfl rfl) ⟨rfl,rfl⟩
   replace h:=ak g8 h;refine run ?_;obtain ⟨q9,h⟩:=aq h;refine gE (be rfl rfl q9.1 q9.2) ?_;refine run ?_;exact ⟨m3,_,_,Nat.lt_succ_self _,⟨p4+1,h,rfl,rfl⟩,sA,ab [0] 1 rfl rfl⟩
  replace h:=ak g5 h;refine run ?_;exact ⟨_,_,⟨h,rfl,rfl⟩,sA,ab [] 1 rfl rfl⟩
 rintro _ _ ⟨h,rfl,rfl⟩;refine run ?_;obtain rfl:=av h;exact aO rfl rfl (ql [] 0 rfl rfl) ⟨rfl,rfl⟩
theorem qT {r:Int}: ∀v post,((fun (u:Value) (post:List Chunk)=>u=iV r∧post=[])) v post→ ∀c∈post,cA c:=by
 rintro _ _ ⟨rfl,rfl⟩;exact ae
def bE (N:Nat)(a0:(List Int))(ff:Int→Option Bool):Option Bool:=
 (gZ N a0 ff).bind fun y2=>some (decide (0≤y2))
theorem dh {N:Nat}{a0:(List Int)}{ff:Int→Option Bool}{r:Bool}(h:bE N a0 ff=some r){vf:Value}{G:List Chunk}(hf:EB Tryz.prog vf G (fun x=> [iV x]) (fun r=> .bool r) ff):Okc Tryz.prog 95 [.slice A1 n1 c1,vf] (cT A1 n1 c1 a0::G) (fun u post=>u=.bool r∧post=[]):=by
 refine bI Tryz.func95 rfl rfl ?_;simp only [aW];refine run ?_;obtain ⟨y2,hy2,h⟩:=aa h;refine gD (ai (sQ hy2 hf) JP rfl (mem_cons (ag (i:=0) rfl rfl) (ww (E:=[cT A1 n1 c1 a0]) hf.1)) qT) ?_;rintro _ _ ⟨_,⟨rfl,rfl⟩,rfl⟩;refine run ?_;obtain rfl:=av h;exact aO rfl rfl (ql [] 1 rfl rfl) ⟨rfl,rfl⟩
theorem cP {r:Bool}: ∀v post,((fun (u:Value) (post:List Chunk)=>u=.bool r∧post=[])) v post→ ∀c∈post,cA c:=by
 rintro _ _ ⟨rfl,rfl⟩;exact ae
def rJ (N:Nat):Option Bool:=
 some true
def minor_sound_l8 (N:Nat)(y6:((List DCell)))(a0:DMemory):Nat→Int→Option Bool
 |0,_=>none
 |m8+1,p9=>bif decide (p9<(y6.length:Int)) then ((aM y6 p9).bind fun x11=>(di N x11).bind fun y15=>(bif !y15 then (some true) else ((fW N x11).bind fun y17=>(bE N y17 (fun x=>ln N x a0)).bind fun y19=>some y19)).bind fun b16=>bif b16 then (some false) else (bA (in64 (p9+1)) ((minor_sound_l8 N y6 a0 m8) (p9+1)))) else (rJ N)
def lF (N:Nat)(a0:DMemory):Option Bool:=
 (ey N a0.Young a0.Old).bind fun y6=>minor_sound_l8 N y6 a0 N 0
theorem zc {N:Nat}{a0:DMemory}{r:Bool}(h:lF N a0=some r):Okc Tryz.prog 208 [.agg #[.slice A1 n1 c1,.slice A2 n2 c2]] ([bo A1 n1 c1 a0.Young,bo A2 n2 c2 a0.Old]) (fun u post=>u=.bool r∧post=[]):=by
 refine bI Tryz.func208 rfl rfl ?_;simp only [aW];refine run ?_;refine gD (bD rfl rfl) ?_;rintro _ _ ⟨B3,rfl,rfl⟩;refine run ?_;refine aX (fun s L=>rJ N=some r∧s=[(2,.bool false)]∧L=[]) ?_ ?_
 ·refine run ?_;refine gD (dl (cs:=[.slice A1 n1 c1,.slice A2 n2 c2]) rfl (wL _ _ _ _ _ _)) ?_;rintro _ _ ⟨B5,rfl,rfl⟩;obtain ⟨y6,hy6,h⟩:=aa h;refine pm (ft 0 rfl) ?_;refine gD (bi (lb hy6) Ia rfl (aP [0,2,3] [] [0,1,2,3] 4 rfl)) ?_;rintro _ _ ⟨_,⟨A7,n7,c7,rfl,rfl⟩,rfl⟩;refine gR (aT 0 rfl aK rfl Tryz.underlying34) ?_;refine run ?_;refine bJ (fun m s L=> ∃p9,minor_sound_l8 N y6 a0 m p9=some r∧s=[(1,pV B3 0),(2,.bool false),(10,.slice A7 n7 c7),(11,iV (y6.length:Int)),(12,iV p9)]∧L=[aD A7 n7 c7 y6,bo A1 n1 c1 a0.Young,bo A2 n2 c2 a0.Old,ac B3 36 [.slice A1 n1 c1,.slice A2 n2 c2]]) N _ _ ⟨0,h,rfl,rfl⟩ sA (ab [0,3,4,2] 5 rfl rfl) ?_;rintro (_|m8) _ _ ⟨p9,h,rfl,rfl⟩
  ·exact aL h
  rw [minor_sound_l8.eq_2] at h;refine run ?_;refine aB ?_;refine ay rfl (fun g10=> ?_) (fun g10=> ?_)
  ·replace h:=aj g10 h;refine run ?_;refine aB ?_;refine run ?_;obtain ⟨x11,hx11,h⟩:=aa h;obtain ⟨lx11,ux11,hx11⟩:=aC hx11;refine gR (bd 0 rfl aK rfl rfl Tryz.underlying34 bL lx11 ux11) ?_;refine gD (CQ 0 rfl aK rfl hx11 bx rfl (dI x11)) ?_;rintro u _ ⟨_,_,⟨A12,n12,c12,A13,n13,c13,rfl,rfl⟩,hu,rfl⟩;obtain rfl:u=.agg #[iV x11.Kind,iV x11.Shape,iV x11.Flags,iV x11.Age,.slice A12 n12 c12,.slice A13 n13 c13]:=hu;refine gD (aQ eM rfl) ?_;rintro _ _ ⟨B14,rfl,rfl⟩;refine gO (ap (us:=[iV x11.Kind,iV x11.Shape,iV x11.Flags,iV x11.Age,.slice A12 n12 c12,.slice A13 n13 c13]) (cs':=[iV x11.Kind,iV x11.Shape,iV x11.Flags,iV x11.Age,.slice A12 n12 c12,.slice A13 n13 c13]) 0 rfl rfl rfl rfl bL rfl rfl rfl) ?_;rintro _ _ rfl;refine bQ ([ac B14 47 [iV x11.Kind,iV x11.Shape,iV x11.Flags,iV x11.Age,.slice A12 n12 c12,.slice A13 n13 c13],aH A12 n12 c12 x11.Slots,aH A13 n13 c13 x11.More,aD A7 n7 c7 y6,bo A1 n1 c1 a0.Young,bo A2 n2 c2 a0.Old,ac B3 36 [.slice A1 n1 c1,.slice A2 n2 c2]]) rfl ?_;refine run ?_;refine gR (aI (us:=[iV x11.Kind,iV x11.Shape,iV x11.Flags,iV x11.Age,.slice A12 n12 c12,.slice A13 n13 c13]) 0 rfl rfl bx rfl) ?_;obtain ⟨y15,hy15,h⟩:=aa h;refine gD (ai (iJ hy15) wK rfl (mem_cons (ag (i:=1) rfl rfl) (mem_cons (ag (i:=2) rfl rfl) ae)) fO) ?_;rintro _ _ ⟨_,⟨rfl,rfl⟩,rfl⟩;refine run ?_;obtain ⟨b16,hb16,h⟩:=aa h;refine bc 5 24 b16 ?_ ?_
   ·clear h;refine ba 19 rfl (fun g16=> ?_) (fun g16=> ?_)
    ·have h:=aj g16 hb16;refine run ?_;obtain rfl:=av h;exact am sA (ab [0,1,2,3,4,5,6] 7 rfl rfl)
    have h:=ak g16 hb16;refine cL (aI (us:=[iV x11.Kind,iV x11.Shape,iV x11.Flags,iV x11.Age,.slice A12 n12 c12,.slice A13 n13 c13]) 0 rfl rfl bx rfl) rfl (dJ g16 rfl) rfl ?_;obtain ⟨y17,hy17,h⟩:=aa h;refine dg (ai (nG hy17) Fm rfl (mem_cons (ag (i:=1) rfl rfl) (mem_cons (ag (i:=2) rfl rfl) ae)) lX) rfl (dJ g16 rfl) rfl ?_;rintro _ _ ⟨_,⟨A18,n18,c18,rfl,rfl⟩,rfl⟩;refine sj (dN rfl) rfl (dJ g16 rfl) rfl ?_;obtain ⟨y19,hy19,h⟩:=aa h;refine dg (ai (dh hy19 ⟨mem_cons rfl (mem_cons rfl (mem_cons rfl ae)),246, #[], #[pV B3 0],rfl,Jz,fun _ _ hh=>vc hh⟩) wJ rfl (mem_cons (ar (i:=0) rfl) (mem_cons (aZ (i:=7) rfl) (mem_cons (ag (i:=5) rfl rfl) (mem_cons (ag (i:=6) rfl rfl) ae)))) cP) rfl (dJ g16 rfl) rfl ?_;rintro _ _ ⟨_,⟨rfl,rfl⟩,rfl⟩;refine run ?_;obtain rfl:=av h;exact am sA (ab [1,2,3,4,5,6,7] 8 rfl rfl)
   refine run ?_;refine ay rfl (fun g20=> ?_) (fun g20=> ?_)
   ·replace h:=aj g20 h;refine run ?_;obtain rfl:=av h;exact aO rfl rfl (ab [] 7 rfl rfl) ⟨rfl,rfl⟩
   replace h:=ak g20 h;refine run ?_;obtain ⟨q21,h⟩:=aq h;refine gE (be rfl rfl q21.1 q21.2) ?_;refine run ?_;exact ⟨m8,_,_,Nat.lt_succ_self _,⟨p9+1,h,rfl,rfl⟩,sA,ab [3,4,5,6] 7 rfl rfl⟩
  replace h:=ak g10 h;refine run ?_;exact ⟨_,_,⟨h,rfl,rfl⟩,sA,ab [] 4 rfl rfl⟩
 rintro _ _ ⟨h,rfl,rfl⟩;refine run ?_;obtain rfl:=av h;exact aO rfl rfl (ab [] 0 rfl rfl) ⟨rfl,rfl⟩
theorem wo {r:Bool}: ∀v post,((fun (u:Value) (post:List Chunk)=>u=.bool r∧post=[])) v post→ ∀c∈post,cA c:=by
 rintro _ _ ⟨rfl,rfl⟩;exact ae
def eu (N:Nat)(a0:Int):Option Bool:=
 (bif decide (0<a0) then (some (decide (a0.tmod 2=1))) else (some false)).bind fun b1=>some b1
theorem jh {N:Nat}{a0:Int}{r:Bool}(h:eu N a0=some r):Okc Tryz.prog 143 [iV a0] ([]) (fun u post=>u=.bool r∧post=[]):=by
 refine bI Tryz.func143 rfl rfl ?_;simp only [aW];refine run ?_;obtain ⟨b1,hb1,h⟩:=aa h;refine bc 4 9 b1 ?_ ?_
 ·clear h;refine ba 5 rfl (fun g1=> ?_) (fun g1=> ?_)
  ·have h:=aj g1 hb1;refine run ?_;refine sj (ph rfl rfl (by decide)) rfl (cm g1 rfl) rfl ?_;refine run ?_;obtain rfl:=av h;exact am sA (ab [] 0 rfl rfl)
  have h:=ak g1 hb1;refine run ?_;obtain rfl:=av h;exact am sA (ab [] 0 rfl rfl)
 refine run ?_;obtain rfl:=av h;exact aO rfl rfl (ab [] 0 rfl rfl) ⟨rfl,rfl⟩
theorem jw {r:Bool}: ∀v post,((fun (u:Value) (post:List Chunk)=>u=.bool r∧post=[])) v post→ ∀c∈post,cA c:=by
 rintro _ _ ⟨rfl,rfl⟩;exact ae
def qB (N:Nat):Option Int:=
 some (-1)
def slices_Index_l3 (N:Nat)(a1:Int)(a0:(List Int)):Nat→Int→Option Int
 |0,_=>none
 |m3+1,p4=>bif decide (p4<(a0.length:Int)) then ((aM a0 p4).bind fun x6=>bif decide (a1=x6) then (some p4) else (bA (in64 (p4+1)) ((slices_Index_l3 N a1 a0 m3) (p4+1)))) else (qB N)
def nl (N:Nat)(a0:(List Int))(a1:Int):Option Int:=
 slices_Index_l3 N a1 a0 N 0
theorem xp {N:Nat}{a0:(List Int)}{a1:Int}{r:Int}(h:nl N a0 a1=some r):Okc Tryz.prog 213 [.slice A1 n1 c1,iV a1] ([cT A1 n1 c1 a0]) (fun u post=>u=iV r∧post=[]):=by
 refine bI Tryz.func213 rfl rfl ?_;simp only [aW];refine run ?_;refine aX (fun s L=>qB N=some r∧s=[(4,iV 0)]∧L=[]) ?_ ?_
 ·refine run ?_;refine gR (aT 0 rfl au rfl Tryz.underlying23) ?_;refine run ?_;refine bJ (fun m s L=> ∃p4,slices_Index_l3 N a1 a0 m p4=some r∧s=[(0,.slice A1 n1 c1),(1,iV a1),(4,iV 0),(7,iV (a0.length:Int)),(8,iV p4)]∧L=[cT A1 n1 c1 a0]) N _ _ ⟨0,h,rfl,rfl⟩ sA (ab [0] 1 rfl rfl) ?_;rintro (_|m3) _ _ ⟨p4,h,rfl,rfl⟩
  ·exact aL h
  rw [slices_Index_l3.eq_2] at h;refine run ?_;refine aB ?_;refine ay rfl (fun g5=> ?_) (fun g5=> ?_)
  ·replace h:=aj g5 h;refine run ?_;refine aB ?_;refine run ?_;obtain ⟨x6,hx6,h⟩:=aa h;obtain ⟨lx6,ux6,hx6⟩:=aC hx6;refine gR (bd 0 rfl au rfl rfl Tryz.underlying23 dL lx6 ux6) ?_;refine gR (bW (u:=iV x6) 0 rfl au rfl hx6 eU (fun _ _ _ h=>by rw [show _=_ from h];rfl)) ?_;refine run ?_;refine ay rfl (fun g7=> ?_) (fun g7=> ?_)
   ·replace h:=aj g7 h;refine run ?_;obtain rfl:=av h;exact aO rfl rfl (ab [] 1 rfl rfl) ⟨rfl,rfl⟩
   replace h:=ak g7 h;refine run ?_;obtain ⟨q8,h⟩:=aq h;refine gE (be rfl rfl q8.1 q8.2) ?_;refine run ?_;exact ⟨m3,_,_,Nat.lt_succ_self _,⟨p4+1,h,rfl,rfl⟩,sA,ab [0] 1 rfl rfl⟩
  replace h:=ak g5 h;refine run ?_;exact ⟨_,_,⟨h,rfl,rfl⟩,sA,ab [] 1 rfl rfl⟩
 rintro _ _ ⟨h,rfl,rfl⟩;refine run ?_;obtain rfl:=av h;exact aO rfl rfl (ab [] 0 rfl rfl) ⟨rfl,rfl⟩
theorem uy {r:Int}: ∀v post,((fun (u:Value) (post:List Chunk)=>u=iV r∧post=[])) v post→ ∀c∈post,cA c:=by
 rintro _ _ ⟨rfl,rfl⟩;exact ae
def dn (N:Nat)(a0:(List Int))(a1:Int):Option Bool:=
 (nl N a0 a1).bind fun y2=>some (decide (0≤y2))
theorem ia {N:Nat}{a0:(List Int)}{a1:Int}{r:Bool}(h:dn N a0 a1=some r):Okc Tryz.prog 139 [.slice A1 n1 c1,iV a1] ([cT A1 n1 c1 a0]) (fun u post=>u=.bool r∧post=[]):=by
 refine bI Tryz.func139 rfl rfl ?_;simp only [aW];refine run ?_;obtain ⟨y2,hy2,h⟩:=aa h;refine gD (ai (xp hy2) JE rfl (mem_cons (ag (i:=0) rfl rfl) ae) uy) ?_;rintro _ _ ⟨_,⟨rfl,rfl⟩,rfl⟩;refine run ?_;obtain rfl:=av h;exact aO rfl rfl (ab [] 1 rfl rfl) ⟨rfl,rfl⟩
theorem fR {r:Bool}: ∀v post,((fun (u:Value) (post:List Chunk)=>u=.bool r∧post=[])) v post→ ∀c∈post,cA c:=by
 rintro _ _ ⟨rfl,rfl⟩;exact ae
def tv (N:Nat):Option Bool:=
 some true
def minor_may_l25 (N:Nat)(a0:DMemory)(a2:(List Int)):Nat→Int→Option Bool
 |0,_=>none
 |m25+1,p26=>bif decide (p26<(a0.Old.length:Int)) then ((aM a0.Old p26).bind fun x28=>(fW N x28).bind fun y33=>(bE N y33 (fun x=>eu N x)).bind fun y35=>(bif y35 then (bA (in64 (2*p26)) (bA (in64 ((2*p26)+2)) ((dn N a2 ((2*p26)+2)).bind fun y39=>some (!y39)))) else (some false)).bind fun b36=>bif b36 then (some false) else (bA (in64 (p26+1)) ((minor_may_l25 N a0 a2 m25) (p26+1)))) else (tv N)
def iH (N:Nat)(a2:(List Int))(a0:DMemory):Option Bool:=
 minor_may_l25 N a0 a2 N 0
def minor_may_l11 (N:Nat)(a2:(List Int))(a0:DMemory):Nat→Int→Option Bool
 |0,_=>none
 |m11+1,p12=>bif decide (p12<(a2.length:Int)) then ((aM a2 p12).bind fun x14=>(eu N x14).bind fun y15=>(bif y15 then (some true) else ((dq N a0 x14).bind fun y17=>some (!y17))).bind fun b16=>(bif b16 then (some true) else ((bif decide (0<p12) then (bA (in64 (p12 - 1)) ((aM a2 (p12 - 1)).bind fun x21=>some (decide (x14≤x21)))) else (some false)).bind fun b19=>some b19)).bind fun b18=>bif b18 then (some false) else (bA (in64 (p12+1)) ((minor_may_l11 N a2 a0 m11) (p12+1)))) else (iH N a2 a0)
def ky (N:Nat)(a0:DMemory)(a1:(List DValue))(a2:(List Int)):Option Bool:=
 (cx N a1 (fun x=>kK N x a0)).bind fun y6=>(bif y6 then (some true) else ((lF N a0).bind fun y8=>some (!y8))).bind fun b7=>bif b7 then (some false) else (minor_may_l11 N a2 a0 N 0)
theorem BG {N:Nat}{a0:DMemory}{a1:(List DValue)}{a2:(List Int)}{r:Bool}(h:ky N a0 a1 a2=some r):Okc Tryz.prog 133 [.agg #[.slice A1 n1 c1,.slice A2 n2 c2],.slice A3 n3 c3,.slice A4 n4 c4] ([bo A1 n1 c1 a0.Young,bo A2 n2 c2 a0.Old,aH A3 n3 c3 a1,cT A4 n4 c4 a2]) (fun u post=>u=.bool r∧post=[]):=by
 refine bI Tryz.func133 rfl rfl ?_;simp only [aW];refine run ?_;refine gD (bD rfl rfl) ?_;rintro _ _ ⟨B5,rfl,rfl⟩;refine run ?_;refine gE (dN rfl) ?_;refine run ?_;refine aB ?_;refine run ?_;obtain ⟨y6,hy6,h⟩:=aa h;refine gD (ai (iw hy6 ⟨mem_cons rfl (mem_cons rfl (mem_cons rfl ae)),206, #[], #[pV B5 0],rfl,JH,fun _ _ hh=>xC hh⟩) Ib rfl (mem_cons (ag (i:=3) rfl rfl) (mem_cons (aZ (i:=0) rfl) (mem_cons (ag (i:=1) rfl rfl) (mem_cons (ag (i:=2) rfl rfl) ae)))) gC) ?_;rintro _ _ ⟨_,⟨rfl,rfl⟩,rfl⟩;refine run ?_;obtain ⟨b7,hb7,h⟩:=aa h;refine bc 4 20 b7 ?_ ?_
 ·clear h;refine ba 16 rfl (fun g7=> ?_) (fun g7=> ?_)
  ·have h:=aj g7 hb7;refine run ?_;obtain rfl:=av h;exact am sA (ab [0,1,2,3,4] 5 rfl rfl)
  have h:=ak g7 hb7;refine cL (aI (us:=[.slice A1 n1 c1,.slice A2 n2 c2]) 0 rfl rfl dH rfl) rfl (dJ g7 rfl) rfl ?_;obtain ⟨y8,hy8,h⟩:=aa h;refine dg (ai (zc hy8) JG rfl (mem_cons (ag (i:=1) rfl rfl) (mem_cons (ag (i:=2) rfl rfl) ae)) wo) rfl (dJ g7 rfl) rfl ?_;rintro _ _ ⟨_,⟨rfl,rfl⟩,rfl⟩;refine run ?_;obtain rfl:=av h;exact am sA (ab [0,1,2,3,4] 5 rfl rfl)
 refine run ?_;refine ay rfl (fun g9=> ?_) (fun g9=> ?_)
 ·replace h:=aj g9 h;refine run ?_;obtain rfl:=av h;exact aO rfl rfl (ab [] 5 rfl rfl) ⟨rfl,rfl⟩
 replace h:=ak g9 h;refine run ?_;refine aX (fun s L=>iH N a2 a0=some r∧s=[(2,.slice A4 n4 c4),(3,pV B5 0),(6,.bool false)]∧L=[cT A4 n4 c4 a2,bo A1 n1 c1 a0.Young,bo A2 n2 c2 a0.Old,ac B5 36 [.slice A1 n1 c1,.slice A2 n2 c2]]) ?_ ?_
 ·refine run ?_;refine gR (aT 4 rfl au rfl Tryz.underlying23) ?_;refine run ?_;refine bJ (fun m s L=> ∃p12,minor_may_l11 N a2 a0 m p12=some r∧s=[(2,.slice A4 n4 c4),(3,pV B5 0),(6,.bool false),(21,.slice A4 n4 c4),(22,iV (a2.length:Int)),(23,iV p12)]∧L=[cT A4 n4 c4 a2,bo A1 n1 c1 a0.Young,bo A2 n2 c2 a0.Old,ac B5 36 [.slice A1 n1 c1,.slice A2 n2 c2]]) N _ _ ⟨0,h,rfl,rfl⟩ sA (ab [4,1,2,0] 5 rfl rfl) ?_;rintro (_|m11) _ _ ⟨p12,h,rfl,rfl⟩
  ·exact aL h
  rw [minor_may_l11.eq_2] at h;refine run ?_;refine aB ?_;refine ay rfl (fun g13=> ?_) (fun g13=> ?_)
  ·replace h:=aj g13 h;refine run ?_;refine aB ?_;refine run ?_;obtain ⟨x14,hx14,h⟩:=aa h;obtain ⟨lx14,ux14,hx14⟩:=aC hx14;refine gR (bd 0 rfl au rfl rfl Tryz.underlying23 dL lx14 ux14) ?_;refine gR (bW (u:=iV x14) 0 rfl au rfl hx14 eU (fun _ _ _ h=>by rw [show _=_ from h];rfl)) ?_;refine run ?_;obtain ⟨y15,hy15,h⟩:=aa h;refine gD (ai (jh hy15) vI rfl (ae) jw) ?_;rintro _ _ ⟨_,⟨rfl,rfl⟩,rfl⟩;refine run ?_;obtain ⟨b16,hb16,h⟩:=aa h;refine bc 5 35 b16 ?_ ?_
   ·clear h;refine ba 30 rfl (fun g16=> ?_) (fun g16=> ?_)
    ·have h:=aj g16 hb16;refine run ?_;obtain rfl:=av h;exact am sA (ab [0,1,2,3] 4 rfl rfl)
    have h:=ak g16 hb16;refine cL (aI (us:=[.slice A1 n1 c1,.slice A2 n2 c2]) 3 rfl rfl dH rfl) rfl (dJ g16 rfl) rfl ?_;refine run ?_;obtain ⟨y17,hy17,h⟩:=aa h;refine dg (ai (ij hy17) ud rfl (mem_cons (ag (i:=1) rfl rfl) (mem_cons (ag (i:=2) rfl rfl) ae)) fA) rfl (dJ g16 rfl) rfl ?_;rintro _ _ ⟨_,⟨rfl,rfl⟩,rfl⟩;refine run ?_;obtain rfl:=av h;exact am sA (ab [0,1,2,3] 4 rfl rfl)
   refine run ?_;obtain ⟨b18,hb18,h⟩:=aa h;refine bc 12 48 b18 ?_ ?_
   ·clear h;refine ba 36 rfl (fun g18=> ?_) (fun g18=> ?_)
    ·have h:=aj g18 hb18;refine run ?_;obtain rfl:=av h;exact am sA (ab [0,1,2,3] 4 rfl rfl)
    have h:=ak g18 hb18;refine run ?_;obtain ⟨b19,hb19,h⟩:=aa h;refine bc 8 47 b19 ?_ ?_
    ·clear h;refine ba 39 rfl (fun g19=> ?_) (fun g19=> ?_)
     ·have h:=aj g19 hb19;refine run ?_;obtain ⟨q20,h⟩:=aq h;refine sj (ly rfl rfl q20.1 q20.2) rfl (cm g19 rfl) rfl ?_;obtain ⟨x21,hx21,h⟩:=aa h;obtain ⟨lx21,ux21,hx21⟩:=aC hx21;refine cL (bd 0 rfl au rfl rfl Tryz.underlying23 dL lx21 ux21) rfl (cm g19 rfl) rfl ?_;refine cL (bW (u:=iV x21) 0 rfl au rfl hx21 eU (fun _ _ _ h=>by rw [show _=_ from h];rfl)) rfl (cm g19 rfl) rfl ?_;refine run ?_;obtain rfl:=av h;exact am sA (ab [0,1,2,3] 4 rfl rfl)
     have h:=ak g19 hb19;refine run ?_;obtain rfl:=av h;exact am sA (ab [0,1,2,3] 4 rfl rfl)
    refine run ?_;obtain rfl:=av h;exact am sA (ab [0,1,2,3] 4 rfl rfl)
   refine run ?_;refine ay rfl (fun g22=> ?_) (fun g22=> ?_)
   ·replace h:=aj g22 h;refine run ?_;obtain rfl:=av h;exact aO rfl rfl (ab [] 4 rfl rfl) ⟨rfl,rfl⟩
   replace h:=ak g22 h;refine run ?_;obtain ⟨q23,h⟩:=aq h;refine gE (be rfl rfl q23.1 q23.2) ?_;refine run ?_;exact ⟨m11,_,_,Nat.lt_succ_self _,⟨p12+1,h,rfl,rfl⟩,sA,ab [0,1,2,3] 4 rfl rfl⟩
  replace h:=ak g13 h;refine run ?_;exact ⟨_,_,⟨h,rfl,rfl⟩,sA,ab [0,1,2,3] 4 rfl rfl⟩
 rintro _ _ ⟨h,rfl,rfl⟩;refine aX (fun s L=>tv N=some r∧s=[(6,.bool false)]∧L=[]) ?_ ?_
 ·refine run ?_;refine gR (aT 2 rfl au rfl Tryz.underlying34) ?_;refine run ?_;refine bJ (fun m s L=> ∃p26,minor_may_l25 N a0 a2 m p26=some r∧s=[(2,.slice A4 n4 c4),(6,.bool false),(51,.slice A2 n2 c2),(52,iV (a0.Old.length:Int)),(53,iV p26)]∧L=[cT A4 n4 c4 a2,bo A2 n2 c2 a0.Old]) N _ _ ⟨0,h,rfl,rfl⟩ sA (ab [0,2] 4 rfl rfl) ?_;rintro (_|m25) _ _ ⟨p26,h,rfl,rfl⟩
  ·exact aL h
  rw [minor_may_l25.eq_2] at h;refine run ?_;refine aB ?_;refine ay rfl (fun g27=> ?_) (fun g27=> ?_)
  ·replace h:=aj g27 h;refine run ?_;refine aB ?_;refine run ?_;obtain ⟨x28,hx28,h⟩:=aa h;obtain ⟨lx28,ux28,hx28⟩:=aC hx28;refine gR (bd 1 rfl au rfl rfl Tryz.underlying34 bL lx28 ux28) ?_;refine oZ 1 rfl hx28 (dI x28) ?_;rintro _ _ ⟨A29,n29,c29,A30,n30,c30,rfl,rfl⟩;refine gR (iT (us:=[iV x28.Kind,iV x28.Shape,iV x28.Flags,iV x28.Age,.slice A29 n29 c29,.slice A30 n30 c30]) 0 rfl rfl bx rfl) ?_;refine gD (aQ eM rfl) ?_;rintro _ _ ⟨B32,rfl,rfl⟩;refine run ?_;refine gO (ap (us:=[iV x28.Kind,iV x28.Shape,iV x28.Flags,iV x28.Age,.slice A29 n29 c29,.slice A30 n30 c30]) (cs':=[iV x28.Kind,iV x28.Shape,iV x28.Flags,iV x28.Age,.slice A29 n29 c29,.slice A30 n30 c30]) 0 rfl rfl rfl rfl bL rfl rfl rfl) ?_;rintro _ _ rfl;refine run ?_;refine gR (aI (us:=[iV x28.Kind,iV x28.Shape,iV x28.Flags,iV x28.Age,.slice A29 n29 c29,.slice A30 n30 c30]) 0 rfl rfl bx rfl) ?_;obtain ⟨y33,hy33,h⟩:=aa h;refine gD (ai (nG hy33) Fm rfl (mem_cons (ag (i:=2) rfl rfl) (mem_cons (ag (i:=3) rfl rfl) ae)) lX) ?_;rintro _ _ ⟨_,⟨A34,n34,c34,rfl,rfl⟩,rfl⟩;obtain ⟨y35,hy35,h⟩:=aa h;refine gD (ai (dh hy35 ⟨ae,143, #[], #[],rfl,vI,fun _ _ hh=>jh hh⟩) wJ rfl (mem_cons (ar (i:=0) rfl) ae) cP) ?_;rintro _ _ ⟨_,⟨rfl,rfl⟩,rfl⟩;refine run ?_;obtain ⟨b36,hb36,h⟩:=aa h;refine bc 7 68 b36 ?_ ?_
   ·clear h;refine ba 61 rfl (fun g36=> ?_) (fun g36=> ?_)
    ·have h:=aj g36 hb36;refine run ?_;obtain ⟨q37,h⟩:=aq h;refine sj (qk rfl rfl q37.1 q37.2) rfl (cm g36 rfl) rfl ?_;obtain ⟨q38,h⟩:=aq h;refine sj (be rfl rfl q38.1 q38.2) rfl (cm g36 rfl) rfl ?_;obtain ⟨y39,hy39,h⟩:=aa h;refine dg (ai (ia hy39) xT rfl (mem_cons (ag (i:=5) rfl rfl) ae) fR) rfl (cm g36 rfl) rfl ?_;rintro _ _ ⟨_,⟨rfl,rfl⟩,rfl⟩;refine run ?_;obtain rfl:=av h;exact am sA (ab [0,1,2,3,4,5,6] 7 rfl rfl)
    have h:=ak g36 hb36;refine run ?_;obtain rfl:=av h;exact am sA (ab [0,1,2,3,4,5,6] 7 rfl rfl)
   refine run ?_;refine ay rfl (fun g40=> ?_) (fun g40=> ?_)
   ·replace h:=aj g40 h;refine run ?_;obtain rfl:=av h;exact aO rfl rfl (ab [] 7 rfl rfl) ⟨rfl,rfl⟩
   replace h:=ak g40 h;refine run ?_;obtain ⟨q41,h⟩:=aq h;refine gE (be rfl rfl q41.1 q41.2) ?_;refine run ?_;exact ⟨m25,_,_,Nat.lt_succ_self _,⟨p26+1,h,rfl,rfl⟩,sA,ab [5,6] 7 rfl rfl⟩
  replace h:=ak g27 h;refine run ?_;exact ⟨_,_,⟨h,rfl,rfl⟩,sA,ab [] 2 rfl rfl⟩
 rintro _ _ ⟨h,rfl,rfl⟩;refine run ?_;obtain rfl:=av h;exact aO rfl rfl (ab [] 0 rfl rfl) ⟨rfl,rfl⟩
theorem zd {r:Bool}: ∀v post,((fun (u:Value) (post:List Chunk)=>u=.bool r∧post=[])) v post→ ∀c∈post,cA c:=by
 rintro _ _ ⟨rfl,rfl⟩;exact ae
def cu (N:Nat)(a0:DMeeter)(a1:Int):Option DMeeter:=
 (eu N a1).bind fun y7=>(bif y7 then (some (!((lk a0.seen_ a1).getD false))) else (some false)).bind fun b8=>bif b8 then (bA (bY (a0.met_.length+([a1]:List Int).length)) (some (⟨a0.m_,a0.kept_,a0.met_++([a1]:List Int),pS a0.seen_ a1 true,a0.next_⟩:DMeeter))) else (some a0)
theorem fV {N:Nat}{a0:DMeeter}{a1:Int}{r:DMeeter}(h:cu N a0 a1=some r):Okc Tryz.prog 210 [pV B1 0,iV a1] ([bo A2 n2 c2 a0.m_.Young,bo A3 n3 c3 a0.m_.Old,cT A4 n4 c4 a0.kept_,ac B1 153 [.slice A2 n2 c2,.slice A3 n3 c3,.slice A4 n4 c4,.slice A5 n5 c5,.map (some M6),iV a0.next_],cU A5 n5 c5 a0.met_,az aY bj M6 a0.seen_]) (fun u post=> ∃A0 n0 c0 A1 n1 c1 A2 n2 c2 A3 n3 c3 M4,u=.tuple #[]∧post=[ac B1 153 [.slice A0 n0 c0,.slice A1 n1 c1,.slice A2 n2 c2,.slice A3 n3 c3,.map (some M4),iV r.next_],bo A0 n0 c0 r.m_.Young,bo A1 n1 c1 r.m_.Old,cT A2 n2 c2 r.kept_,cU A3 n3 c3 r.met_,az aY bj M4 r.seen_]):=by
 refine bI Tryz.func210 rfl rfl ?_;simp only [aW];refine run ?_;obtain ⟨y7,hy7,h⟩:=aa h;refine gD (ai (jh hy7) vI rfl (ae) jw) ?_;rintro _ _ ⟨_,⟨rfl,rfl⟩,rfl⟩;refine run ?_;obtain ⟨b8,hb8,h⟩:=aa h;refine bc 8 14 b8 ?_ ?_
 ·clear h;refine ba 6 rfl (fun g8=> ?_) (fun g8=> ?_)
  ·have h:=aj g8 hb8;refine run ?_;refine cL (yC (a:=a1) (z:=false) 5 rfl rO rfl rfl Tryz.underlying151 (dy Tryz.underlying3) Cn) rfl (cm g8 rfl) rfl ?_;refine run ?_;obtain rfl:=av h;exact am sA (ab [0,1,2,3,4,5] 6 rfl rfl)
  have h:=ak g8 hb8;refine run ?_;obtain rfl:=av h;exact am sA (ab [0,1,2,3,4,5] 6 rfl rfl)
 refine run ?_;refine ay rfl (fun g9=> ?_) (fun g9=> ?_)
 ·replace h:=aj g9 h;refine run ?_;refine gO (fU (a:=a1) (b:=true) 5 rfl rfl rfl rfl Tryz.underlying151 (dy Tryz.underlying3)) ?_;rintro _ _ rfl;refine run ?_;refine gD (cp (R:=(fG .i64)) (vss:=[[iV a1]]) (xs:=[a1]) rfl (ka _) rfl rfl (fun _ _ hr=> .cons rfl All2.nil)) ?_;rintro _ _ ⟨A10,n10,c10,rfl,rfl⟩;obtain ⟨q11,h⟩:=aq h;refine gD (bR 5 0 rfl rfl aK rfl rfl Tryz.underlying23 Dw rfl rfl q11) ?_;rintro _ _ ⟨A12,n12,c12,rfl,rfl⟩;refine run ?_;refine gO (ap (us:=[.slice A12 n12 c12]) (cs':=[.slice A2 n2 c2,.slice A3 n3 c3,.slice A4 n4 c4,.slice A12 n12 c12,.map (some M6),iV a0.next_]) 4 rfl rfl rfl rfl o8 rfl rfl rfl) ?_;rintro _ _ rfl;refine bQ ([cU A10 n10 c10 ([a1]:List Int),bo A2 n2 c2 a0.m_.Young,bo A3 n3 c3 a0.m_.Old,cT A4 n4 c4 a0.kept_,ac B1 153 [.slice A2 n2 c2,.slice A3 n3 c3,.slice A4 n4 c4,.slice A12 n12 c12,.map (some M6),iV a0.next_],cU A12 n12 c12 (a0.met_++([a1]:List Int)),az aY bj M6 (pS a0.seen_ a1 true)]) rfl ?_;refine o3 ?_;obtain rfl:=av h;exact jr rfl (ab [4,1,2,3,5,6] 7 rfl rfl) ⟨_,_,_,_,_,_,_,_,_,_,_,_,_,rfl,rfl⟩
 replace h:=ak g9 h;refine zI ?_;obtain rfl:=av h;exact jr rfl (ab [3,0,1,2,4,5] 6 rfl rfl) ⟨_,_,_,_,_,_,_,_,_,_,_,_,_,rfl,rfl⟩
def bU (N:Nat)(a0:DMeeter)(a1:Int):Option DCell:=
 (eu N a1).bind fun y8=>bif y8 then (bA (in64 (a1.tdiv 2)) ((aM a0.m_.Young (a1.tdiv 2)).bind fun x11=>some x11)) else (bA (in64 (a1.tdiv 2)) (bA (in64 ((a1.tdiv 2) - 1)) ((aM a0.m_.Old ((a1.tdiv 2) - 1)).bind fun x17=>some x17)))
theorem eA {N:Nat}{a0:DMeeter}{a1:Int}{r:DCell}(h:bU N a0 a1=some r):Okc Tryz.prog 142 [pV B1 0,iV a1] ([bo A2 n2 c2 a0.m_.Young,bo A3 n3 c3 a0.m_.Old,cT A4 n4 c4 a0.kept_,ac B1 153 [.slice A2 n2 c2,.slice A3 n3 c3,.slice A4 n4 c4,.slice A5 n5 c5,.map (some M6),iV a0.next_],cU A5 n5 c5 a0.met_,az aY bj M6 a0.seen_]) (fun u post=> ∃A500 n500 c500 A501 n501 c501,u=.agg #[iV r.Kind,iV r.Shape,iV r.Flags,iV r.Age,.slice A500 n500 c500,.slice A501 n501 c501]∧post=[aH A500 n500 c500 r.Slots,aH A501 n501 c501 r.More,ac B1 153 [.slice A2 n2 c2,.slice A3 n3 c3,.slice A4 n4 c4,.slice A5 n5 c5,.map (some M6),iV a0.next_],cU A5 n5 c5 a0.met_,az aY bj M6 a0.seen_]):=by
 refine bI Tryz.func142 rfl rfl ?_;simp only [aW];refine run ?_;refine gD (aQ eM rfl) ?_;rintro _ _ ⟨B7,rfl,rfl⟩;refine run ?_;refine aB ?_;refine run ?_;obtain ⟨y8,hy8,h⟩:=aa h;refine gD (ai (jh hy8) vI rfl (ae) jw) ?_;rintro _ _ ⟨_,⟨rfl,rfl⟩,rfl⟩;refine run ?_;refine ay rfl (fun g9=> ?_) (fun g9=> ?_)
 ·replace h:=aj g9 h;refine run ?_;obtain ⟨q10,h⟩:=aq h;refine gE (t8 rfl rfl (by decide) q10.1 q10.2) ?_;obtain ⟨x11,hx11,h⟩:=aa h;obtain ⟨lx11,ux11,hx11⟩:=aC hx11;refine gR (bd 1 rfl au rfl rfl Tryz.underlying34 bL lx11 ux11) ?_;refine oZ 1 rfl hx11 (dI x11) ?_;rintro _ _ ⟨A12,n12,c12,A13,n13,c13,rfl,rfl⟩;refine gR (iT (us:=[iV x11.Kind,iV x11.Shape,iV x11.Flags,iV x11.Age,.slice A12 n12 c12,.slice A13 n13 c13]) 0 rfl rfl bx rfl) ?_;refine gO (ap (us:=[iV x11.Kind,iV x11.Shape,iV x11.Flags,iV x11.Age,.slice A12 n12 c12,.slice A13 n13 c13]) (cs':=[iV x11.Kind,iV x11.Shape,iV x11.Flags,iV x11.Age,.slice A12 n12 c12,.slice A13 n13 c13]) 3 rfl rfl rfl rfl bL rfl rfl rfl) ?_;rintro _ _ rfl;refine run ?_;obtain rfl:=av h;exact d8 (rs:=[.cell 4 47]) (vs:=[.agg #[iV x11.Kind,iV x11.Shape,iV x11.Flags,iV x11.Age,.slice A12 n12 c12,.slice A13 n13 c13]]) rfl (.cons (cD 3 rfl rfl bx) .nil) rfl (ab [1,2,7,8,9] 10 rfl rfl) ⟨_,_,_,_,_,_,rfl,rfl⟩
 replace h:=ak g9 h;refine run ?_;obtain ⟨q15,h⟩:=aq h;refine gE (t8 rfl rfl (by decide) q15.1 q15.2) ?_;obtain ⟨q16,h⟩:=aq h;refine gE (ly rfl rfl q16.1 q16.2) ?_;obtain ⟨x17,hx17,h⟩:=aa h;obtain ⟨lx17,ux17,hx17⟩:=aC hx17;refine gR (bd 2 rfl au rfl rfl Tryz.underlying34 bL lx17 ux17) ?_;refine oZ 2 rfl hx17 (dI x17) ?_;rintro _ _ ⟨A18,n18,c18,A19,n19,c19,rfl,rfl⟩;refine gR (iT (us:=[iV x17.Kind,iV x17.Shape,iV x17.Flags,iV x17.Age,.slice A18 n18 c18,.slice A19 n19 c19]) 0 rfl rfl bx rfl) ?_;refine gO (ap (us:=[iV x17.Kind,iV x17.Shape,iV x17.Flags,iV x17.Age,.slice A18 n18 c18,.slice A19 n19 c19]) (cs':=[iV x17.Kind,iV x17.Shape,iV x17.Flags,iV x17.Age,.slice A18 n18 c18,.slice A19 n19 c19]) 3 rfl rfl rfl rfl bL rfl rfl rfl) ?_;rintro _ _ rfl;refine run ?_;obtain rfl:=av h;exact d8 (rs:=[.cell 4 47]) (vs:=[.agg #[iV x17.Kind,iV x17.Shape,iV x17.Flags,iV x17.Age,.slice A18 n18 c18,.slice A19 n19 c19]]) rfl (.cons (cD 3 rfl rfl bx) .nil) rfl (ab [1,2,7,8,9] 10 rfl rfl) ⟨_,_,_,_,_,_,rfl,rfl⟩
def ew (N:Nat)(kb7:(List DCell)→(List DCell)→(List Int)→(List Int)→(List (Int×Bool))→Int→Option DMeeter)(p16:(List DCell))(p17:(List DCell))(p18:(List Int))(p19:(List Int))(p20:(List (Int×Bool)))(p21:Int):Option DMeeter:=
 bA (in64 (p21+1)) (kb7 p16 p17 p18 p19 p20 (p21+1))
def minor_meeter_through_l31 (N:Nat)(kb7:(List DCell)→(List DCell)→(List Int)→(List Int)→(List (Int×Bool))→Int→Option DMeeter)(y28:((List Int))):Nat→Int→(List DCell)→(List DCell)→(List Int)→(List Int)→(List (Int×Bool))→Int→Option DMeeter
 |0,_,_,_,_,_,_,_=>none
 |m31+1,p32,p33,p34,p35,p36,p37,p38=>bif decide (p32<(y28.length:Int)) then ((aM y28 p32).bind fun x40=>(cu N (⟨(⟨p33,p34⟩:DMemory),p35,p36,p37,p38⟩:DMeeter) x40).bind fun y41=>bA (in64 (p32+1)) ((minor_meeter_through_l31 N kb7 y28 m31) (p32+1) y41.m_.Young y41.m_.Old y41.kept_ y41.met_ y41.seen_ y41.next_)) else (ew N kb7 p33 p34 p35 p36 p37 p38)
def minor_meeter_through_l7 (N:Nat):Nat→(List DCell)→(List DCell)→(List Int)→(List Int)→(List (Int×Bool))→Int→Option DMeeter
 |0,_,_,_,_,_,_=>none
 |m7+1,p8,p9,p10,p11,p12,p13=>bif decide (p13<(p11.length:Int)) then ((aM p11 p13).bind fun x22=>(bU N (⟨(⟨p8,p9⟩:DMemory),p10,p11,p12,p13⟩:DMeeter) x22).bind fun y23=>(ea N y23).bind fun y28=>minor_meeter_through_l31 N (minor_meeter_through_l7 N m7) y28 N 0 p8 p9 p10 p11 p12 p13) else (some (⟨(⟨p8,p9⟩:DMemory),p10,p11,p12,p13⟩:DMeeter))
def dY (N:Nat)(a0:DMeeter):Option DMeeter:=
 minor_meeter_through_l7 N N a0.m_.Young a0.m_.Old a0.kept_ a0.met_ a0.seen_ a0.next_
theorem kx {N:Nat}{a0:DMeeter}{r:DMeeter}(h:dY N a0=some r):Okc Tryz.prog 211 [pV B1 0] ([bo A2 n2 c2 a0.m_.Young,bo A3 n3 c3 a0.m_.Old,cT A4 n4 c4 a0.kept_,ac B1 153 [.slice A2 n2 c2,.slice A3 n3 c3,.slice A4 n4 c4,.slice A5 n5 c5,.map (some M6),iV a0.next_],cU A5 n5 c5 a0.met_,az aY bj M6 a0.seen_]) (fun u post=> ∃A0 n0 c0 A1 n1 c1 A2 n2 c2 A3 n3 c3 M4,u=.tuple #[]∧post=[ac B1 153 [.slice A0 n0 c0,.slice A1 n1 c1,.slice A2 n2 c2,.slice A3 n3 c3,.map (some M4),iV r.next_],bo A0 n0 c0 r.m_.Young,bo A1 n1 c1 r.m_.Old,cT A2 n2 c2 r.kept_,cU A3 n3 c3 r.met_,az aY bj M4 r.seen_]):=by
 refine bI Tryz.func211 rfl rfl ?_;simp only [aW];refine iu ?_;refine bJ (fun m s L=> ∃p8 p9 p10 p11 p12 p13 A8 n8 c8 A9 n9 c9 A10 n10 c10 A11 n11 c11 M12,minor_meeter_through_l7 N m p8 p9 p10 p11 p12 p13=some r∧s=[(0,pV B1 0)]∧L=[bo A8 n8 c8 p8,bo A9 n9 c9 p9,cT A10 n10 c10 p10,cU A11 n11 c11 p11,az aY bj M12 p12,ac B1 153 [.slice A8 n8 c8,.slice A9 n9 c9,.slice A10 n10 c10,.slice A11 n11 c11,.map (some M12),iV p13]]) N _ _ ⟨a0.m_.Young,a0.m_.Old,a0.kept_,a0.met_,a0.seen_,a0.next_,A2,n2,c2,A3,n3,c3,A4,n4,c4,A5,n5,c5,M6,h,rfl,rfl⟩ sA (ab [0,1,2,4,5,3] 6 rfl rfl) ?_;rintro (_|m7) _ _ ⟨p8,p9,p10,p11,p12,p13,A8,n8,c8,A9,n9,c9,A10,n10,c10,A11,n11,c11,M12,h,rfl,rfl⟩
 ·exact aL h
 rw [minor_meeter_through_l7.eq_2] at h;refine aB ?_;refine aB ?_;refine co (by kernel_rfl) _ (ad _) ?_;refine ah 0 rfl (by kernel_rfl) (aA rfl) rfl rfl ?_;refine ah 1 rfl (by kernel_rfl) (aE rfl) rfl rfl ?_;refine ah 2 rfl (by kernel_rfl) (bZ rfl zy) rfl rfl ?_;refine bm 3 rfl (by kernel_rfl) (bh 5 rfl rfl eU rfl) rfl rfl ?_;refine ah 4 rfl (by kernel_rfl) (aA rfl) rfl rfl ?_;refine ah 5 rfl (by kernel_rfl) (aE rfl) rfl rfl ?_;refine ah 6 rfl (by kernel_rfl) (bZ rfl md) rfl rfl ?_;refine bm 7 rfl (by kernel_rfl) (bh 5 rfl rfl jH rfl) rfl rfl ?_;refine bm 8 rfl (by kernel_rfl) (aT 3 rfl aK rfl Tryz.underlying23) rfl rfl ?_;refine ah 9 rfl (by kernel_rfl) (HV rfl rfl) rfl rfl ?_;refine bC (by kernel_rfl) ?_;refine fH ?_;refine ay rfl (fun g14=> ?_) (fun g14=> ?_)
 ·replace h:=aj g14 h;refine run ?_;refine aX (fun s L=> ∃p16 p17 p18 p19 p20 p21 A16 n16 c16 A17 n17 c17 A18 n18 c18 A19 n19 c19 M20,ew N (minor_meeter_through_l7 N m7) p16 p17 p18 p19 p20 p21=some r∧s=[(0,pV B1 0)]∧L=[bo A16 n16 c16 p16,bo A17 n17 c17 p17,cT A18 n18 c18 p18,cU A19 n19 c19 p19,az aY bj M20 p20,ac B1 153 [.slice A16 n16 c16,.slice A17 n17 c17,.slice A18 n18 c18,.slice A19 n19 c19,.map (some M20),iV p21]]) ?_ ?_
  ·refine iu ?_;refine aB ?_;obtain ⟨x22,hx22,h⟩:=aa h;obtain ⟨lx22,ux22,hx22⟩:=aC hx22;obtain ⟨y23,hy23,h⟩:=aa h;obtain ⟨y28,hy28,h⟩:=aa h;refine gN (t:=[(0,pV B1 0)]) ?_ oh (ad _)
   refine kZ (by kernel_rfl) 15 [] [12,13,14] [21,22,23,24,25,26,27,28,29,30,31,32,33,34,35] [[],[],[1],[2],[3],[],[5],[6],[7],[4,8],[9],[0,10],[11],[12],[]] [aV (pV B1 0),
 aV (pV B1 0),
 aV (pV B1 0),
 aV (pV B1 3),
 aV (.slice A11 n11 c11),
 aV (pV B1 0),
 aV (pV B1 0),
 aV (pV B1 5),
 aV (iV p13),
 aV (dG (.slice A11 n11 c11) p13.toNat 1 0),
 aV (iV x22),
 aX6 (fun (A26:Option Addr) (n26 c26:Nat) (A27:Option Addr) (n27 c27:Nat)=> .agg #[iV y23.Kind,iV y23.Shape,iV y23.Flags,iV y23.Age,.slice A26 n26 c26,.slice A27 n27 c27]) (fun A26 n26 c26 A27 n27 c27=> [aH A26 n26 c26 y23.Slots,aH A27 n27 c27 y23.More]),
 aX3 (fun (A30:Option Addr) (n30 c30:Nat)=> .slice A30 n30 c30) (fun A30 n30 c30=> [cU A30 n30 c30 y28]),
 aV (iV (y28.length:Int)),
 aV (iV 0)] [] (ad _) (nB) (by kernel_rfl) rfl rfl ?_ ?_ ?_
   ·exact nA
   ·refine ao rfl ?_ ?_
    ·exact dC (aA rfl) rfl (bS rfl (ad _))
    refine ao rfl ?_ ?_
    ·intro A30 n30 c30;exact gq (aT 0 rfl aK rfl Tryz.underlying23) rfl (bS rfl (ad _))
    refine ao rfl ?_ ?_
    ·intro A26 n26 c26 A27 n27 c27;refine uf (ai (gn hy28) uc rfl (mem_cons (ag (i:=0) rfl rfl) (mem_cons (ag (i:=1) rfl rfl) ae)) eS) rfl ?_;rintro _ _ ⟨_,⟨A29,n29,c29,rfl,rfl⟩,rfl⟩;exact BS A29 n29 c29 (ad _)
    refine ao rfl ?_ ?_
    ·refine uf (bi (eA hy23) vJ rfl (aP [0,1,2] [5,3,4] [0,1,2] 6 rfl)) rfl ?_;rintro _ _ ⟨_,⟨A24,n24,c24,A25,n25,c25,rfl,rfl⟩,rfl⟩;exact LC A24 n24 c24 A25 n25 c25 (ab [0,1,5,6,7,3,4,2] 8 rfl rfl)
    refine ao rfl ?_ ?_
    ·exact gq (bW (u:=iV x22) 3 rfl aK rfl hx22 eU (fun _ _ _ h=>by rw [show _=_ from h];rfl)) rfl (bS rfl (ad _))
    refine ao rfl ?_ ?_
    ·exact gq (bd 3 rfl aK rfl rfl Tryz.underlying23 dL lx22 ux22) rfl (bS rfl (ad _))
    refine ao rfl ?_ ?_
    ·exact gq (bh 5 rfl rfl eU rfl) rfl (bS rfl (ad _))
    refine ao rfl ?_ ?_
    ·exact dC (bZ rfl zy) rfl (bS rfl (ad _))
    refine ao rfl ?_ ?_
    ·exact dC (aE rfl) rfl (bS rfl (ad _))
    refine ao rfl ?_ ?_
    ·exact dC (aA rfl) rfl (bS rfl (ad _))
    refine ao rfl ?_ ?_
    ·exact gq (bh 5 rfl rfl jH rfl) rfl (bS rfl (ad _))
    refine ao rfl ?_ ?_
    ·exact dC (bZ rfl md) rfl (bS rfl (ad _))
    refine ao rfl ?_ ?_
    ·exact dC (aE rfl) rfl (bS rfl (ad _))
    refine ao rfl ?_ ?_
    ·exact dC (aA rfl) rfl (bS rfl (ad _))
    refine ao rfl ?_ ?_
    ·exact dC (aA rfl) rfl (bS rfl (ad _))
    exact gB
   intro A30 n30 c30;refine oY (t:=[(33,.slice A30 n30 c30),(34,iV (y28.length:Int)),(35,iV 0),(0,pV B1 0)]) (L':=[cU A30 n30 c30 y28,bo A8 n8 c8 p8,bo A9 n9 c9 p9,cT A10 n10 c10 p10,cU A11 n11 c11 p11,az aY bj M12 p12,ac B1 153 [.slice A8 n8 c8,.slice A9 n9 c9,.slice A10 n10 c10,.slice A11 n11 c11,.map (some M12),iV p13]]) ?_ oh (ad _);refine oe (by kernel_rfl) ?_;refine run ?_;refine bJ (fun m s L=> ∃p32 p33 p34 p35 p36 p37 p38 A33 n33 c33 A34 n34 c34 A35 n35 c35 A36 n36 c36 M37,minor_meeter_through_l31 N (minor_meeter_through_l7 N m7) y28 m p32 p33 p34 p35 p36 p37 p38=some r∧s=[(0,pV B1 0),(33,.slice A30 n30 c30),(34,iV (y28.length:Int)),(35,iV p32)]∧L=[cU A30 n30 c30 y28,bo A33 n33 c33 p33,bo A34 n34 c34 p34,cT A35 n35 c35 p35,cU A36 n36 c36 p36,az aY bj M37 p37,ac B1 153 [.slice A33 n33 c33,.slice A34 n34 c34,.slice A35 n35 c35,.slice A36 n36 c36,.map (some M37),iV p38]]) N _ _ ⟨0,p8,p9,p10,p11,p12,p13,A8,n8,c8,A9,n9,c9,A10,n10,c10,A11,n11,c11,M12,h,rfl,rfl⟩ sA (ab [0,1,2,3,4,5,6] 7 rfl rfl) ?_;rintro (_|m31) _ _ ⟨p32,p33,p34,p35,p36,p37,p38,A33,n33,c33,A34,n34,c34,A35,n35,c35,A36,n36,c36,M37,h,rfl,rfl⟩
   ·exact aL h
   rw [minor_meeter_through_l31.eq_2] at h;refine run ?_;refine aB ?_;refine ay rfl (fun g39=> ?_) (fun g39=> ?_)
   ·replace h:=aj g39 h;refine run ?_;refine aB ?_;refine run ?_;obtain ⟨x40,hx40,h⟩:=aa h;obtain ⟨lx40,ux40,hx40⟩:=aC hx40;refine gR (bd 0 rfl aK rfl rfl Tryz.underlying23 dL lx40 ux40) ?_;refine gR (bW (u:=iV x40) 0 rfl aK rfl hx40 eU (fun _ _ _ h=>by rw [show _=_ from h];rfl)) ?_;refine run ?_;obtain ⟨y41,hy41,h⟩:=aa h;refine gD (bi (fV hy41) xP rfl (aP [1,2,3] [6,4,5] [0,1,2,3] 7 rfl)) ?_;rintro _ _ ⟨_,⟨A42,n42,c42,A43,n43,c43,A44,n44,c44,A45,n45,c45,M46,rfl,rfl⟩,rfl⟩;refine run ?_;obtain ⟨q47,h⟩:=aq h;refine gE (be rfl rfl q47.1 q47.2) ?_;refine run ?_;exact ⟨m31,_,_,Nat.lt_succ_self _,⟨p32+1,y41.m_.Young,y41.m_.Old,y41.kept_,y41.met_,y41.seen_,y41.next_,A42,n42,c42,A43,n43,c43,A44,n44,c44,A45,n45,c45,M46,h,rfl,rfl⟩,sA,ab [6,1,2,3,4,5,0] 10 rfl rfl⟩
   replace h:=ak g39 h;refine run ?_;exact ⟨_,_,⟨p33,p34,p35,p36,p37,p38,A33,n33,c33,A34,n34,c34,A35,n35,c35,A36,n36,c36,M37,h,rfl,rfl⟩,sA,ab [1,2,3,4,5,6] 7 rfl rfl⟩
  rintro _ _ ⟨p16,p17,p18,p19,p20,p21,A16,n16,c16,A17,n17,c17,A18,n18,c18,A19,n19,c19,M20,h,rfl,rfl⟩;refine run ?_;obtain ⟨q48,h⟩:=aq h;refine gE (be rfl rfl q48.1 q48.2) ?_;refine run ?_;refine gO (ap (us:=[iV (p21+1)]) (cs':=[.slice A16 n16 c16,.slice A17 n17 c17,.slice A18 n18 c18,.slice A19 n19 c19,.map (some M20),iV (p21+1)]) 5 rfl rfl rfl rfl dL rfl rfl rfl) ?_;rintro _ _ rfl;refine run ?_;exact ⟨m7,_,_,Nat.lt_succ_self _,⟨p16,p17,p18,p19,p20,p21+1,A16,n16,c16,A17,n17,c17,A18,n18,c18,A19,n19,c19,M20,h,rfl,rfl⟩,sA,ab [0,1,2,3,4,5] 6 rfl rfl⟩
 replace h:=ak g14 h;refine run ?_;obtain rfl:=av h;exact jr rfl (ab [5,0,1,2,3,4] 6 rfl rfl) ⟨_,_,_,_,_,_,_,_,_,_,_,_,_,rfl,rfl⟩
def jj (N:Nat)(a0:DMeeter)(p8:(List Int)):Option (List Int):=
 bA (bY (p8.length+a0.met_.length)) (some (p8++a0.met_))
def minor_meeter_live_l9 (N:Nat)(a0:DMeeter):Nat→(List Int)→Int→Option (List Int)
 |0,_,_=>none
 |m9+1,p10,p11=>bif decide (p11<(a0.m_.Old.length:Int)) then (bA (in64 (2*p11)) (bA (in64 ((2*p11)+2)) (bA (bY (p10.length+([(2*p11)+2]:List Int).length)) (bA (in64 (p11+1)) ((minor_meeter_live_l9 N a0 m9) (p10++([(2*p11)+2]:List Int)) (p11+1)))))) else (jj N a0 p10)
def ec (N:Nat)(a0:DMeeter):Option (List Int):=
 minor_meeter_live_l9 N a0 N [] 0
theorem lW {N:Nat}{a0:DMeeter}{r:(List Int)}(h:ec N a0=some r):Okc Tryz.prog 138 [pV B1 0] ([aG B1 153 [.slice A2 n2 c2,.slice A3 n3 c3,.slice A4 n4 c4,.slice A5 n5 c5,.map (some M6),iV a0.next_],bo A2 n2 c2 a0.m_.Young,bo A3 n3 c3 a0.m_.Old,cT A4 n4 c4 a0.kept_,cT A5 n5 c5 a0.met_,kF aY bj M6 a0.seen_]) (fun u post=> ∃A0 n0 c0,u=.slice A0 n0 c0∧post=[cU A0 n0 c0 r]):=by
 refine bI Tryz.func138 rfl rfl ?_;simp only [aW];refine run ?_;refine aX (fun s L=> ∃p8 A8 n8 c8,jj N a0 p8=some r∧s=[(0,pV B1 0),(2,.slice none 0 0),(3,.slice A8 n8 c8)]∧L=[cU A8 n8 c8 p8,bo A2 n2 c2 a0.m_.Young,bo A3 n3 c3 a0.m_.Old,cT A4 n4 c4 a0.kept_,cT A5 n5 c5 a0.met_,kF aY bj M6 a0.seen_,aG B1 153 [.slice A2 n2 c2,.slice A3 n3 c3,.slice A4 n4 c4,.slice A5 n5 c5,.map (some M6),iV a0.next_]]) ?_ ?_
 ·refine run ?_;refine gR (bz 0 rfl rfl jG rfl) ?_;refine gR (aT 2 rfl au rfl Tryz.underlying34) ?_;refine run ?_;refine bJ (fun m s L=> ∃p10 p11 A10 n10 c10,minor_meeter_live_l9 N a0 m p10 p11=some r∧s=[(0,pV B1 0),(2,.slice none 0 0),(3,.slice A10 n10 c10),(10,iV (a0.m_.Old.length:Int)),(11,iV p11)]∧L=[cU A10 n10 c10 p10,bo A2 n2 c2 a0.m_.Young,bo A3 n3 c3 a0.m_.Old,cT A4 n4 c4 a0.kept_,cT A5 n5 c5 a0.met_,kF aY bj M6 a0.seen_,aG B1 153 [.slice A2 n2 c2,.slice A3 n3 c3,.slice A4 n4 c4,.slice A5 n5 c5,.map (some M6),iV a0.next_]]) N _ _ ⟨[],0,none,0,0,h,rfl,rfl⟩ sA ((bv (fG .i64) 3 _).trans (ab [0,2,3,4,5,6,1] 7 rfl rfl)) ?_;rintro (_|m9) _ _ ⟨p10,p11,A10,n10,c10,h,rfl,rfl⟩
  ·exact aL h
  rw [minor_meeter_live_l9.eq_2] at h;refine run ?_;refine aB ?_;refine ay rfl (fun g13=> ?_) (fun g13=> ?_)
  ·replace h:=aj g13 h;refine run ?_;refine aB ?_;refine run ?_;obtain ⟨q14,h⟩:=aq h;refine gE (qk rfl rfl q14.1 q14.2) ?_;obtain ⟨q15,h⟩:=aq h;refine gE (be rfl rfl q15.1 q15.2) ?_;refine gD (cp (R:=(fG .i64)) (vss:=[[iV ((2*p11)+2)]]) (xs:=[(2*p11)+2]) rfl (ka _) rfl rfl (fun _ _ hr=> .cons rfl All2.nil)) ?_;rintro _ _ ⟨A16,n16,c16,rfl,rfl⟩;obtain ⟨q17,h⟩:=aq h;refine gD (bR 1 0 rfl rfl aK rfl rfl Tryz.underlying23 Dw rfl rfl q17) ?_;rintro _ _ ⟨A18,n18,c18,rfl,rfl⟩;refine run ?_;obtain ⟨q19,h⟩:=aq h;refine gE (be rfl rfl q19.1 q19.2) ?_;refine run ?_;exact ⟨m9,_,_,Nat.lt_succ_self _,⟨p10++([(2*p11)+2]:List Int),p11+1,A18,n18,c18,h,rfl,rfl⟩,sA,ab [1,2,3,4,5,6,7] 8 rfl rfl⟩
  replace h:=ak g13 h;refine run ?_;exact ⟨_,_,⟨p10,A10,n10,c10,h,rfl,rfl⟩,sA,ab [0,1,2,3,4,5,6] 7 rfl rfl⟩
 rintro _ _ ⟨p8,A8,n8,c8,h,rfl,rfl⟩;refine run ?_;refine gR (bz 6 rfl rfl jH rfl) ?_;obtain ⟨q20,h⟩:=aq h;refine gD (bR 0 4 rfl rfl au rfl rfl Tryz.underlying23 Dw rfl rfl q20) ?_;rintro _ _ ⟨A21,n21,c21,rfl,rfl⟩;refine run ?_;obtain rfl:=av h;exact aO rfl rfl (ab [0] 7 rfl rfl) ⟨_,_,_,rfl,rfl⟩
theorem kJ {r:(List Int)}: ∀v post,((fun (u:Value) (post:List Chunk)=> ∃A0 n0 c0,u=.slice A0 n0 c0∧post=[cU A0 n0 c0 r])) v post→ ∀c∈post,cA c:=by
 rintro _ _ ⟨_,_,_,rfl,rfl⟩;exact mem_cons bX (ae)
def ju (N:Nat)(p3:(List Int)):Option (List Int):=
 some p3
def ml (N:Nat)(a1:Int):Option (List Int):=
 bif decide (a1<0) then none else (bA (in64 (0 - 0)) (bA (in64 (a1 - (0 - 0))) (bif decide (0<a1 - (0 - 0)) then (bA ((0:Int)<(a1 - (0 - 0))∧(a1 - (0 - 0))≤1099511627776) (ju N ([]:List Int))) else (ju N []))))
theorem vW {N:Nat}{a1:Int}{r:(List Int)}(h:ml N a1=some r):Okc Tryz.prog 219 [.slice none 0 0,iV a1] ([]) (fun u post=> ∃A0 n0 c0,u=.slice A0 n0 c0∧post=[cU A0 n0 c0 r]):=by
 refine bI Tryz.func219 rfl rfl ?_;simp only [aW];refine run ?_;refine aB ?_;refine run ?_;refine ay rfl (fun g1=> ?_) (fun g1=> ?_)
 ·replace h:=aj g1 h;exact aL h
 replace h:=ak g1 h;refine run ?_;refine aX (fun s L=> ∃p3 A3 n3 c3,ju N p3=some r∧s=[(0,.slice A3 n3 c3),(4,.slice none 0 0)]∧L=[cU A3 n3 c3 p3]) ?_ ?_
 ·refine run ?_;refine gE (sK rfl Tryz.underlying23) ?_;refine run ?_;refine gE (kT rfl Tryz.underlying23) ?_;obtain ⟨q4,h⟩:=aq h;refine gE (ly rfl rfl q4.1 q4.2) ?_;obtain ⟨q5,h⟩:=aq h;refine gE (ly rfl rfl q5.1 q5.2) ?_;refine run ?_;refine ay rfl (fun g6=> ?_) (fun g6=> ?_)
  ·replace h:=aj g6 h;refine run ?_;refine gE (sK rfl Tryz.underlying23) ?_;refine gE (wF rfl Tryz.underlying23 dL rfl) ?_;refine run ?_;obtain ⟨q7,h⟩:=aq h;refine gD (tV rfl rfl Tryz.underlying23 Tryz.underlying3 Dw rfl q7.1 q7.2) ?_;rintro _ _ ⟨A8,n8,c8,rfl,rfl⟩;refine run ?_;refine gE (kT rfl Tryz.underlying23) ?_;refine gD (BD (R:=(fG .i64)) 0 rfl rfl Tryz.underlying23 dL rfl rfl) ?_;rintro _ _ ⟨A9,n9,c9,rfl,rfl⟩;refine run ?_;exact ⟨_,_,⟨([]:List Int),A9,n9,c9,h,rfl,rfl⟩,sA,ab [0] 1 rfl rfl⟩
  replace h:=ak g6 h;refine run ?_;exact ⟨_,_,⟨[],none,0,0,h,rfl,rfl⟩,sA,(bv (fG .i64) 3 _).trans (ab [0] 1 rfl rfl)⟩
 rintro _ _ ⟨p3,A3,n3,c3,h,rfl,rfl⟩;refine run ?_;obtain rfl:=av h;exact aO rfl rfl (ab [0] 1 rfl rfl) ⟨_,_,_,rfl,rfl⟩
theorem tM {r:(List Int)}: ∀v post,((fun (u:Value) (post:List Chunk)=> ∃A0 n0 c0,u=.slice A0 n0 c0∧post=[cU A0 n0 c0 r])) v post→ ∀c∈post,cA c:=by
 rintro _ _ ⟨_,_,_,rfl,rfl⟩;exact mem_cons bX (ae)
def kD (N:Nat)(p12:(List Int)):Option (List Int):=
 some p12
def lg (N:Nat)(a0_0:(List Int))(a0_1:(List Int)):Option (List Int):=
 (ml N ((0+(a0_0.length:Int))+(a0_1.length:Int))).bind fun y9=>bA (bY (y9.length+a0_0.length)) (bA (bY ((y9++a0_0).length+a0_1.length)) (kD N ((y9++a0_0)++a0_1)))
def iy (N:Nat)(a0_0:(List Int))(a0_1:(List Int)):Option (List Int):=
 bA (in64 (0+(a0_0.length:Int))) (bif decide (0+(a0_0.length:Int)<0) then none else (bA (in64 ((0+(a0_0.length:Int))+(a0_1.length:Int))) (bif decide ((0+(a0_0.length:Int))+(a0_1.length:Int)<0) then none else (lg N a0_0 a0_1))))
theorem pq {N:Nat}{a0_0:(List Int)}{a0_1:(List Int)}{r:(List Int)}(h:iy N a0_0 a0_1=some r):Okc Tryz.prog 161 [.slice (some ⟨B1,0,none⟩) 2 2] ([aG B1 23 [.slice A2 n2 c2,.slice A3 n3 c3],cT A2 n2 c2 a0_0,cT A3 n3 c3 a0_1]) (fun u post=> ∃A0 n0 c0,u=.slice A0 n0 c0∧post=[cU A0 n0 c0 r]):=by
 refine bI Tryz.func161 rfl rfl ?_;simp only [aW];refine run ?_;refine aX (fun s L=>lg N a0_0 a0_1=some r∧s=[(0,.slice (some ⟨B1,0,none⟩) 2 2),(2,.slice none 0 0),(3,iV ((0+(a0_0.length:Int))+(a0_1.length:Int)))]∧L=[cT A2 n2 c2 a0_0,cT A3 n3 c3 a0_1,aG B1 23 [.slice A2 n2 c2,.slice A3 n3 c3]]) ?_ ?_
 ·refine run ?_;refine gE (kT rfl Tryz.underlying203) ?_;refine run ?_;refine og 3 ?_;refine pk ?_;refine run ?_;refine aB ?_;refine dO rfl ?_;refine run ?_;refine aB ?_;refine run ?_;refine gE (kr rfl rfl Tryz.underlying203 o8 (by decide) (by decide)) ?_;refine gR (bz 0 rfl rfl jH rfl) ?_;refine run ?_;refine gR (aT 1 rfl au rfl Tryz.underlying23) ?_;obtain ⟨q5,h⟩:=aq h;refine gE (be rfl rfl q5.1 q5.2) ?_;refine run ?_;refine ay rfl (fun g6=> ?_) (fun g6=> ?_)
  ·replace h:=aj g6 h;exact aL h
  replace h:=ak g6 h;refine run ?_;refine gE (be rfl rfl (by decide) (by decide)) ?_;refine run ?_;refine pk ?_;refine run ?_;refine aB ?_;refine dO rfl ?_;refine run ?_;refine aB ?_;refine run ?_;refine gE (kr rfl rfl Tryz.underlying203 o8 (by decide) (by decide)) ?_;refine gR (bz 0 rfl rfl jH rfl) ?_;refine run ?_;refine gR (aT 2 rfl au rfl Tryz.underlying23) ?_;obtain ⟨q7,h⟩:=aq h;refine gE (be rfl rfl q7.1 q7.2) ?_;refine run ?_;refine ay rfl (fun g8=> ?_) (fun g8=> ?_)
  ·replace h:=aj g8 h;exact aL h
  replace h:=ak g8 h;refine run ?_;refine gE (be rfl rfl (by decide) (by decide)) ?_;refine run ?_;refine pk ?_;refine run ?_;refine aB ?_;refine gP rfl ?_;refine run ?_;exact ⟨_,_,⟨h,rfl,rfl⟩,sA,ab [1,2,0] 3 rfl rfl⟩
 rintro _ _ ⟨h,rfl,rfl⟩;refine run ?_;obtain ⟨y9,hy9,h⟩:=aa h;refine gD (ai (vW hy9) JD rfl (ae) tM) ?_;rintro _ _ ⟨_,⟨A10,n10,c10,rfl,rfl⟩,rfl⟩;refine run ?_;refine aX (fun s L=> ∃p12 A12 n12 c12,kD N p12=some r∧s=[(2,.slice none 0 0),(6,.slice A12 n12 c12)]∧L=[cU A12 n12 c12 p12]) ?_ ?_
 ·refine run ?_;refine gE (kT rfl Tryz.underlying203) ?_;refine run ?_;refine og 3 ?_;refine pk ?_;refine run ?_;refine aB ?_;refine dO rfl ?_;refine run ?_;refine aB ?_;refine run ?_;refine gE (kr rfl rfl Tryz.underlying203 o8 (by decide) (by decide)) ?_;refine gR (bz 3 rfl rfl jH rfl) ?_;refine run ?_;obtain ⟨q13,h⟩:=aq h;refine gD (bR 0 1 rfl rfl au rfl rfl Tryz.underlying23 Dw rfl rfl q13) ?_;rintro _ _ ⟨A14,n14,c14,rfl,rfl⟩;refine run ?_;refine gE (be rfl rfl (by decide) (by decide)) ?_;refine run ?_;refine pk ?_;refine run ?_;refine aB ?_;refine dO rfl ?_;refine run ?_;refine aB ?_;refine run ?_;refine gE (kr rfl rfl Tryz.underlying203 o8 (by decide) (by decide)) ?_;refine gR (bz 3 rfl rfl jH rfl) ?_;refine run ?_;obtain ⟨q15,h⟩:=aq h;refine gD (bR 0 2 rfl rfl au rfl rfl Tryz.underlying23 Dw rfl rfl q15) ?_;rintro _ _ ⟨A16,n16,c16,rfl,rfl⟩;refine run ?_;refine gE (be rfl rfl (by decide) (by decide)) ?_;refine run ?_;refine pk ?_;refine run ?_;refine aB ?_;refine gP rfl ?_;refine run ?_;exact ⟨_,_,⟨(y9++a0_0)++a0_1,A16,n16,c16,h,rfl,rfl⟩,sA,ab [0] 4 rfl rfl⟩
 rintro _ _ ⟨p12,A12,n12,c12,h,rfl,rfl⟩;refine run ?_;obtain rfl:=av h;exact aO rfl rfl (ab [0] 1 rfl rfl) ⟨_,_,_,rfl,rfl⟩
theorem nm {r:(List Int)}: ∀v post,((fun (u:Value) (post:List Chunk)=> ∃A0 n0 c0,u=.slice A0 n0 c0∧post=[cU A0 n0 c0 r])) v post→ ∀c∈post,cA c:=by
 rintro _ _ ⟨_,_,_,rfl,rfl⟩;exact mem_cons bX (ae)
def pn (N:Nat)(a0:DCell):Option Bool:=
 (bif decide (a0.Kind=8) then ((di N a0).bind fun y5=>some y5) else (some false)).bind fun b4=>some b4
theorem yc {N:Nat}{a0:DCell}{r:Bool}(h:pn N a0=some r):Okc Tryz.prog 189 [.agg #[iV a0.Kind,iV a0.Shape,iV a0.Flags,iV a0.Age,.slice A1 n1 c1,.slice A2 n2 c2]] ([aH A1 n1 c1 a0.Slots,aH A2 n2 c2 a0.More]) (fun u post=>u=.bool r∧post=[]):=by
 refine bI Tryz.func189 rfl rfl ?_;simp only [aW];refine run ?_;refine gD (bD rfl rfl) ?_;rintro _ _ ⟨B3,rfl,rfl⟩;refine run ?_;obtain ⟨b4,hb4,h⟩:=aa h;refine bc 3 9 b4 ?_ ?_
 ·clear h;refine ba 6 rfl (fun g4=> ?_) (fun g4=> ?_)
  ·have h:=aj g4 hb4;refine cL (aI (us:=[iV a0.Kind,iV a0.Shape,iV a0.Flags,iV a0.Age,.slice A1 n1 c1,.slice A2 n2 c2]) 0 rfl rfl bx rfl) rfl (cm g4 rfl) rfl ?_;obtain ⟨y5,hy5,h⟩:=aa h;refine dg (ai (iJ hy5) wK rfl (mem_cons (ag (i:=1) rfl rfl) (mem_cons (ag (i:=2) rfl rfl) ae)) fO) rfl (cm g4 rfl) rfl ?_;rintro _ _ ⟨_,⟨rfl,rfl⟩,rfl⟩;refine run ?_;obtain rfl:=av h;exact am sA (ab [0,1,2] 3 rfl rfl)
  have h:=ak g4 hb4;refine run ?_;obtain rfl:=av h;exact am sA (ab [0,1,2] 3 rfl rfl)
 refine run ?_;obtain rfl:=av h;exact aO rfl rfl (ab [] 3 rfl rfl) ⟨rfl,rfl⟩
theorem ul {r:Bool}: ∀v post,((fun (u:Value) (post:List Chunk)=>u=.bool r∧post=[])) v post→ ∀c∈post,cA c:=by
 rintro _ _ ⟨rfl,rfl⟩;exact ae
def weak_entries_c1_l4 (N:Nat){σ:Type}(fy:(DValue×DValue)→σ→Option (Bool×σ))(a1:DCell):Nat→Int→σ→Option σ
 |0,_,_=>none
 |m4+1,p5,p6=>bA (in64 (p5+1)) (bif decide (p5+1<(a1.More.length:Int)) then ((aM a1.More p5).bind fun x9=>bA (in64 (p5+1)) ((aM a1.More (p5+1)).bind fun x11=>(fy (x9,x11) p6).bind fun y12=>bif !y12.1 then (some y12.2) else (bA (in64 (p5+2)) ((weak_entries_c1_l4 N fy a1 m4) (p5+2) y12.2)))) else (some p6))
def fQ (N:Nat){σ:Type}(a1:DCell)(fy:(DValue×DValue)→σ→Option (Bool×σ))(s0:σ):Option σ:=
 weak_entries_c1_l4 N fy a1 N 0 s0
theorem mX {N:Nat}{σ:Type}{a1:DCell}{fy:(DValue×DValue)→σ→Option (Bool×σ)}{s0:σ}{r:σ}(h:fQ N a1 fy s0=some r){l:Nat}{G:σ→List Chunk}(hY:oX Tryz.prog l G (fun x=> [.agg #[iV x.1.Kind,iV x.1.N,.string x.1.S],.agg #[iV x.2.Kind,iV x.2.N,.string x.2.S]]) fy):Okc Tryz.prog 261 [.func (.yield l) #[] #[],pV B1 0] (aG B1 47 [iV a1.Kind,iV a1.Shape,iV a1.Flags,iV a1.Age,.slice A2 n2 c2,.slice A3 n3 c3]::aH A2 n2 c2 a1.Slots::aH A3 n3 c3 a1.More::(G s0)) (fun u post=>u=.tuple #[]∧post=G r):=by
 refine bI Tryz.func261 rfl rfl ?_;simp only [aW];refine run ?_;refine bJ (fun m s L=> ∃p5 p6,weak_entries_c1_l4 N fy a1 m p5 p6=some r∧s=[(0,.func (.yield l) #[] #[]),(1,pV B1 0),(3,iV p5)]∧L=aH A2 n2 c2 a1.Slots::aH A3 n3 c3 a1.More::aG B1 47 [iV a1.Kind,iV a1.Shape,iV a1.Flags,iV a1.Age,.slice A2 n2 c2,.slice A3 n3 c3]::(G p6)) N _ _ ⟨0,s0,h,rfl,rfl⟩ sA (ab [1,2,0] 3 rfl rfl) ?_;rintro (_|m4) _ _ ⟨p5,p6,h,rfl,rfl⟩
 ·exact aL h
 rw [weak_entries_c1_l4.eq_2] at h;refine aB ?_;refine run ?_;obtain ⟨q7,h⟩:=aq h;refine gE (be rfl rfl q7.1 q7.2) ?_;refine run ?_;refine gR (bz 2 rfl rfl dz rfl) ?_;refine gR (aT 1 rfl au rfl Tryz.underlying38) ?_;refine run ?_;refine ay rfl (fun g8=> ?_) (fun g8=> ?_)
 ·replace h:=aj g8 h;refine run ?_;refine aB ?_;refine iu ?_;refine aB ?_;obtain ⟨x9,hx9,h⟩:=aa h;obtain ⟨lx9,ux9,hx9⟩:=aC hx9;obtain ⟨q10,h⟩:=aq h;obtain ⟨x11,hx11,h⟩:=aa h;obtain ⟨lx11,ux11,hx11⟩:=aC hx11;refine gN (t:=[(0,.func (.yield l) #[] #[]),(1,pV B1 0),(3,iV p5)]) ?_ oh (ad _)
  refine kZ (by kernel_rfl) 12 [] [0,5,11] [12,13,14,15,16,17,18,19,20,21,22,23] [[],[],[1],[],[2,3],[4],[],[6],[],[8],[7,9],[10]] [aV (.func (.yield l) #[] #[]),
 aV (pV B1 5),
 aV (.slice A3 n3 c3),
 aV (iV p5),
 aV (dG (.slice A3 n3 c3) p5.toNat 3 0),
 aV (.agg #[iV x9.Kind,iV x9.N,.string x9.S]),
 aV (pV B1 5),
 aV (.slice A3 n3 c3),
 aV (iV p5),
 aV (iV (p5+1)),
 aV (dG (.slice A3 n3 c3) ((p5+1).toNat) 3 0),
 aV (.agg #[iV x11.Kind,iV x11.N,.string x11.S])] [] (ad _) (nB) (by kernel_rfl) rfl rfl ?_ ?_ ?_
  ·exact nA
  ·refine ao rfl ?_ ?_
   ·exact gq (bV (us:=[iV x11.Kind,iV x11.N,.string x11.S]) 1 rfl au rfl hx11 cz (fun _ _ _ h=>by rw [show _=_ from h];rfl)) rfl (bS rfl (ad _))
   refine ao rfl ?_ ?_
   ·exact gq (bd 1 rfl au rfl rfl Tryz.underlying38 bp lx11 ux11) rfl (bS rfl (ad _))
   refine ao rfl ?_ ?_
   ·exact dC (be rfl rfl q10.1 q10.2) rfl (bS rfl (ad _))
   refine ao rfl ?_ ?_
   ·exact dC (aA rfl) rfl (bS rfl (ad _))
   refine ao rfl ?_ ?_
   ·exact gq (bz 2 rfl rfl dz rfl) rfl (bS rfl (ad _))
   refine ao rfl ?_ ?_
   ·exact dC (bZ rfl jC) rfl (bS rfl (ad _))
   refine ao rfl ?_ ?_
   ·exact gq (bV (us:=[iV x9.Kind,iV x9.N,.string x9.S]) 1 rfl au rfl hx9 cz (fun _ _ _ h=>by rw [show _=_ from h];rfl)) rfl (bS rfl (ad _))
   refine ao rfl ?_ ?_
   ·exact gq (bd 1 rfl au rfl rfl Tryz.underlying38 bp lx9 ux9) rfl (bS rfl (ad _))
   refine ao rfl ?_ ?_
   ·exact dC (aA rfl) rfl (bS rfl (ad _))
   refine ao rfl ?_ ?_
   ·exact gq (bz 2 rfl rfl dz rfl) rfl (bS rfl (ad _))
   refine ao rfl ?_ ?_
   ·exact dC (bZ rfl jC) rfl (bS rfl (ad _))
   refine ao rfl ?_ ?_
   ·exact dC (aA rfl) rfl (bS rfl (ad _))
   exact gB
  refine oY (t:=[(12,.func (.yield l) #[] #[]),(17,.agg #[iV x9.Kind,iV x9.N,.string x9.S]),(23,.agg #[iV x11.Kind,iV x11.N,.string x11.S]),(0,.func (.yield l) #[] #[]),(1,pV B1 0),(3,iV p5)]) (L':=aH A2 n2 c2 a1.Slots::aH A3 n3 c3 a1.More::aG B1 47 [iV a1.Kind,iV a1.Shape,iV a1.Flags,iV a1.Age,.slice A2 n2 c2,.slice A3 n3 c3]::(G p6)) ?_ oh (ad _);obtain ⟨y12,hy12,h⟩:=aa h;refine qS 12 rfl (by kernel_rfl) (sx (a:=(x9,x11)) [aH A2 n2 c2 a1.Slots,aH A3 n3 c3 a1.More,aG B1 47 [iV a1.Kind,iV a1.Shape,iV a1.Flags,iV a1.Age,.slice A2 n2 c2,.slice A3 n3 c3]] hY hy12 rfl rfl) rfl rfl rfl ?_;rintro _ _ ⟨rfl,rfl⟩;refine Cm 13 rfl (by kernel_rfl) (wG rfl) rfl rfl rfl ?_;refine oe (by kernel_rfl) ?_;refine fH ?_;refine ay rfl (fun g13=> ?_) (fun g13=> ?_)
  ·replace h:=aj g13 h;refine run ?_;obtain rfl:=av h;exact AR rfl (ab [] 3 rfl rfl) ⟨rfl,rfl⟩
  replace h:=ak g13 h;refine run ?_;obtain ⟨q14,h⟩:=aq h;refine gE (be rfl rfl q14.1 q14.2) ?_;refine run ?_;exact ⟨m4,_,_,Nat.lt_succ_self _,⟨p5+2,y12.2,h,rfl,rfl⟩,sA,ab [0,1,2] 3 rfl rfl⟩
 replace h:=ak g8 h;refine run ?_;obtain rfl:=av h;exact jr rfl (ab [] 3 rfl rfl) ⟨rfl,rfl⟩
def i7 (N:Nat)(a0:DCell):Option Unit:=
 some ()
theorem qx {N:Nat}{a0:DCell}{r:Unit}(h:i7 N a0=some r):Okc Tryz.prog 239 [.agg #[iV a0.Kind,iV a0.Shape,iV a0.Flags,iV a0.Age,.slice A1 n1 c1,.slice A2 n2 c2]] ([aH A1 n1 c1 a0.Slots,aH A2 n2 c2 a0.More]) (fun u post=> ∃B900,u=.func (.func 261) #[] #[pV B900 0]∧post=[ac B900 47 [iV a0.Kind,iV a0.Shape,iV a0.Flags,iV a0.Age,.slice A1 n1 c1,.slice A2 n2 c2]]):=by
 refine bI Tryz.func239 rfl rfl ?_;simp only [aW];refine run ?_;refine gD (bD rfl rfl) ?_;rintro _ _ ⟨B3,rfl,rfl⟩;refine run ?_;refine gE (dN rfl) ?_;refine run ?_;obtain rfl:=av h;exact aO rfl rfl (ab [0] 3 rfl rfl) ⟨_,rfl,rfl⟩
theorem oq {a0:DCell}{A1:Option Addr}{n1:Nat}{c1:Nat}{A2:Option Addr}{n2:Nat}{c2:Nat}: ∀v post,((fun (u:Value) (post:List Chunk)=> ∃B900,u=.func (.func 261) #[] #[pV B900 0]∧post=[ac B900 47 [iV a0.Kind,iV a0.Shape,iV a0.Flags,iV a0.Age,.slice A1 n1 c1,.slice A2 n2 c2]])) v post→ ∀c∈post,cA c:=by
 rintro _ _ ⟨_,rfl,rfl⟩;exact mem_cons mc (ae)
def fw (N:Nat)(a1:(List Int))(x12:DValue×DValue):((List Int))→Option (Option Exit×(List Int))
 |p13=>(bif decide (x12.2.Kind=7) then (some true) else (some (decide (x12.2.Kind=9)))).bind fun b18=>(bif b18 then ((dn N a1 x12.1.N).bind fun y20=>some y20) else (some false)).bind fun b19=>bif b19 then (bA (bY (p13.length+([x12.2.N]:List Int).length)) (some (none,p13++([x12.2.N]:List Int)))) else (some (none,p13))
def kB (N:Nat)(a0:DCell)(a1:(List Int)):Option (List Int):=
 (pn N a0).bind fun y6=>bif !y6 then (some []) else ((i7 N a0).bind fun y10=>(fQ N a0 (cJ (fun x st=>fw N a1 x st)) (none,[])).bind fun y14=>mg y14.1 (some y14.2) none (fun _=>none))
theorem ta {N:Nat}{a0:DCell}{a1:(List Int)}{r:(List Int)}(h:kB N a0 a1=some r):Okc Tryz.prog 181 [.agg #[iV a0.Kind,iV a0.Shape,iV a0.Flags,iV a0.Age,.slice A1 n1 c1,.slice A2 n2 c2],.slice A3 n3 c3] ([aH A1 n1 c1 a0.Slots,aH A2 n2 c2 a0.More,cT A3 n3 c3 a1]) (fun u post=> ∃A0 n0 c0,u=.slice A0 n0 c0∧post=[cU A0 n0 c0 r]):=by
 refine bI Tryz.func181 rfl rfl ?_;simp only [aW];refine run ?_;refine gD (bD rfl rfl) ?_;rintro _ _ ⟨B4,rfl,rfl⟩;refine gD (bD rfl rfl) ?_;rintro _ _ ⟨B5,rfl,rfl⟩;refine run ?_;refine aB ?_;refine run ?_;refine gR (aI (us:=[iV a0.Kind,iV a0.Shape,iV a0.Flags,iV a0.Age,.slice A1 n1 c1,.slice A2 n2 c2]) 1 rfl rfl bx rfl) ?_;obtain ⟨y6,hy6,h⟩:=aa h;refine gD (ai (yc hy6) Fo rfl (mem_cons (ag (i:=2) rfl rfl) (mem_cons (ag (i:=3) rfl rfl) ae)) ul) ?_;rintro _ _ ⟨_,⟨rfl,rfl⟩,rfl⟩;refine run ?_;refine ay rfl (fun g7=> ?_) (fun g7=> ?_)
 ·replace h:=aj g7 h;refine run ?_;obtain rfl:=av h;exact aO rfl rfl ((bv (fG .i64) 3 _).trans (ab [0] 6 rfl rfl)) ⟨_,_,_,rfl,rfl⟩
 replace h:=ak g7 h;refine run ?_;refine gD (aQ Dx rfl) ?_;rintro _ _ ⟨B9,rfl,rfl⟩;refine run ?_;refine aB ?_;refine run ?_;refine gR (aI (us:=[iV a0.Kind,iV a0.Shape,iV a0.Flags,iV a0.Age,.slice A1 n1 c1,.slice A2 n2 c2]) 2 rfl rfl bx rfl) ?_;obtain ⟨y10,hy10,h⟩:=aa h;refine gD (ai (qx hy10) Fg rfl (mem_cons (ag (i:=3) rfl rfl) (mem_cons (ag (i:=4) rfl rfl) ae)) oq) ?_;rintro _ _ ⟨_,⟨B11,rfl,rfl⟩,rfl⟩;refine o3 ?_;refine fH ?_;refine gN ?_ bT (ft 0 rfl);obtain ⟨y14,hy14,h⟩:=aa h;refine pR (en:=(fun x=> [.agg #[iV x.1.Kind,iV x.1.N,.string x.1.S],.agg #[iV x.2.Kind,iV x.2.N,.string x.2.S]])) (fun x st=>fw N a1 x st) (fun (st:(List Int)) (mz:((Option Addr×Nat×Nat)))=> [cT A3 n3 c3 a1,ac B5 23 [.slice A3 n3 c3],eP (fG .i64) 3 (.slice mz.1 mz.2.1 mz.2.2) st,ac B9 23 [.slice mz.1 mz.2.1 mz.2.2]]) [aG B11 47 [iV a0.Kind,iV a0.Shape,iV a0.Flags,iV a0.Age,.slice A1 n1 c1,.slice A2 n2 c2],aH A1 n1 c1 a0.Slots,aH A2 n2 c2 a0.More] ([]) ((none,0,0)) rfl rfl Fe rfl (fun _=>rfl) (fun l G hY=>(mX hy14 hY).mono fun _ _ hh=>hh.2) ((bv (fG .i64) 3 _).trans (aP [1,5,6] [] [7,3,0,2] 8 rfl)) h ?_ ?_ ?_ ?_
 ·rintro l x12 p13 je sr12 ⟨A13,n13,c13⟩ h;replace h:fw N a1 x12 p13=some (je,sr12):=h;simp only [vD,List.zip_cons_cons,List.zip_nil_left,List.zip_nil_right,List.reverse_cons,List.reverse_nil,List.nil_append,List.cons_append];refine run ?_;refine gD (aQ i6 rfl) ?_;rintro _ _ ⟨B16,rfl,rfl⟩;refine gO (ap (us:=[iV x12.1.Kind,iV x12.1.N,.string x12.1.S]) (cs':=[iV x12.1.Kind,iV x12.1.N,.string x12.1.S]) 0 rfl rfl rfl rfl bp rfl rfl rfl) ?_;rintro _ _ rfl;refine run ?_;refine gD (aQ i6 rfl) ?_;rintro _ _ ⟨B17,rfl,rfl⟩;refine gO (ap (us:=[iV x12.2.Kind,iV x12.2.N,.string x12.2.S]) (cs':=[iV x12.2.Kind,iV x12.2.N,.string x12.2.S]) 0 rfl rfl rfl rfl bp rfl rfl rfl) ?_;rintro _ _ rfl;refine bQ ([ac B17 52 [iV x12.2.Kind,iV x12.2.N,.string x12.2.S],ac B16 52 [iV x12.1.Kind,iV x12.1.N,.string x12.1.S],cT A3 n3 c3 a1,ac B5 23 [.slice A3 n3 c3],cU A13 n13 c13 p13,ac B9 23 [.slice A13 n13 c13]]) rfl ?_;refine run ?_;obtain ⟨b18,hb18,h⟩:=aa h;refine bc 4 22 b18 ?_ ?_
  ·clear h;refine ba 18 rfl (fun g18=> ?_) (fun g18=> ?_)
   ·have h:=aj g18 hb18;refine run ?_;obtain rfl:=av h;exact am sA (ab [0,1,2,3,4,5] 6 rfl rfl)
   have h:=ak g18 hb18;refine run ?_;obtain rfl:=av h;exact am sA (ab [0,1,2,3,4,5] 6 rfl rfl)
  refine run ?_;obtain ⟨b19,hb19,h⟩:=aa h;refine bc 5 28 b19 ?_ ?_
  ·clear h;refine ba 23 rfl (fun g19=> ?_) (fun g19=> ?_)
   ·have h:=aj g19 hb19;refine run ?_;obtain ⟨y20,hy20,h⟩:=aa h;refine dg (ai (ia hy20) xT rfl (mem_cons (ag (i:=2) rfl rfl) ae) fR) rfl (cm g19 rfl) rfl ?_;rintro _ _ ⟨_,⟨rfl,rfl⟩,rfl⟩;refine run ?_;obtain rfl:=av h;exact am sA (ab [0,1,2,3,4,5] 6 rfl rfl)
   have h:=ak g19 hb19;refine run ?_;obtain rfl:=av h;exact am sA (ab [0,1,2,3,4,5] 6 rfl rfl)
  refine run ?_;refine ay rfl (fun g21=> ?_) (fun g21=> ?_)
  ·replace h:=aj g21 h;refine run ?_;refine gD (cp (R:=(fG .i64)) (vss:=[[iV x12.2.N]]) (xs:=[x12.2.N]) rfl (ka _) rfl rfl (fun _ _ hr=> .cons rfl All2.nil)) ?_;rintro _ _ ⟨A22,n22,c22,rfl,rfl⟩;obtain ⟨q23,h⟩:=aq h;refine gD (bR 5 0 rfl rfl aK rfl rfl Tryz.underlying23 Dw rfl rfl q23) ?_;rintro _ _ ⟨A24,n24,c24,rfl,rfl⟩;refine gO (ap (us:=[.slice A24 n24 c24]) (cs':=[.slice A24 n24 c24]) 6 rfl rfl rfl rfl o8 rfl rfl rfl) ?_;rintro _ _ rfl;refine run ?_;obtain ⟨rfl,rfl⟩:=Prod.mk.inj (Option.some.inj h);exact xD ((ab [3,4,5,6] 7 rfl rfl).trans (eF (A24,n24,c24) rfl))
  replace h:=ak g21 h;refine run ?_;obtain ⟨rfl,rfl⟩:=Prod.mk.inj (Option.some.inj h);exact xD ((ab [2,3,4,5] 6 rfl rfl).trans (eF (A13,n13,c13) rfl))
 ·rintro ⟨A13,n13,c13⟩ h;refine lO ([cT A3 n3 c3 a1,ac B5 23 [.slice A3 n3 c3],cU A13 n13 c13 y14.2,ac B9 23 [.slice A13 n13 c13]]) rfl ?_;refine run ?_;obtain rfl:=av h;exact aO rfl rfl (ab [2] 4 rfl rfl) ⟨_,_,_,rfl,rfl⟩
 ·rintro ⟨A13,n13,c13⟩ h;exact aL h
 rintro i ⟨A13,n13,c13⟩ h;exact aL h
theorem qy {r:(List Int)}: ∀v post,((fun (u:Value) (post:List Chunk)=> ∃A0 n0 c0,u=.slice A0 n0 c0∧post=[cU A0 n0 c0 r])) v post→ ∀c∈post,cA c:=by
 rintro _ _ ⟨_,_,_,rfl,rfl⟩;exact mem_cons bX (ae)
end Go.Proofs.YtmimkglhbmcokaaGreat