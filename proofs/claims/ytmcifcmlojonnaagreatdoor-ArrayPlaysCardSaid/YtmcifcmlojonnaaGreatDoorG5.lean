/- Merged texts: part 5. No conditions of their own. -/
import Derived.Test.YtmcifcmlojonnaaGreatDoorG4
set_option maxHeartbeats 4000000
namespace Go.Proofs.YtmcifcmlojonnaaGreatDoor
variable (N:Nat){a1 a3:Int}{ff:Int->Option Bool}{vf:Value}{a0:WP}{a2:WX}{G:Xi}
section
theorem WF:type_of% Tryz.underlying211:=Tryz.underlying211
theorem WE:type_of% Tryz.underlying4:=Tryz.underlying4
theorem WD:type_of% Tryz.underlying252:=Tryz.underlying252
variable {A1 A2 A3 A5 A6 A7:Option Addr}{B1 B2 B3 B6 c1 c2 c3 c5 c6 c7 n1 n2 n3 n5 n6 n7:Nat}
open Go.RowKit Asn
set_option maxRecDepth 20000
def gL (a2:Int)(p5:W7)(p6:Int):Option W7:=
 aI (in64 (a2 - p6)) ((cH N p5 (a2 - p6) a2 p6).bind fun a6=>some a6)
def cT (N:Nat)(a2:Int):Nat->W7->Int->Int->Option W7
 |0,_,_,_=>none
 |m7+1,p8,p9,a6=>bif !decide (p9=a6) then (bif decide (a6<p9) then (aI (in64 (a2 - p9)) ((cH N p8 (a2 - p9) a2 a6).bind fun a7=>aI (in64 (p9 - a6)) ((cT N a2 m7) a7 (p9 - a6) a6))) else (aI (in64 (a2 - p9)) (aI (in64 (a2+a6)) (aI (in64 ((a2+a6) - p9)) ((cH N p8 (a2 - p9) ((a2+a6) - p9) p9).bind fun a8=>aI (in64 (a6 - p9)) ((cT N a2 m7) a8 p9 (a6 - p9))))))) else (gL N a2 p8 p9)
def eD (a0:W7)(a1 a2 a3:Int):Option W7:=
 aI (in64 (a2 - a1)) (aI (in64 (a3 - a2)) (cT N a2 N a0 (a2 - a1) (a3 - a2)))
theorem sc {N:Nat}{a0:W7}{a2:Int}{r:W7}(h:eD N a0 a1 a2 a3=some r):Okc Xk 198 [W A1 n1 c1,iV a1,iV a2,iV a3,.func (.func 91) #[] #[]] ([jv A1 n1 c1 a0]) (fun u post=>u=.tuple #[]/\post=[jv A1 n1 c1 r]):=by
 refine ce Tryz.func198 ?_;obtain ⟨q2,h⟩:=ac h;refine ab ?_;obtain ⟨q3,h⟩:=ac h;refine ab ?_;refine ak (fun s L=> ∃p5 p6,gL N a2 p5 p6=some r/\s=[(0,W A1 n1 c1),(2,iV a2),(4,.func (.func 91) #[] #[]),(10,iV p6)]/\L=[jv A1 n1 c1 p5]) ?_ ?_
 ·refine ab ?_;refine lK (fun m s L=> ∃(p8:W7) (p9:Int) (a6:Int),cT N a2 m p8 p9 a6=some r/\s=[(0,W A1 n1 c1),(2,iV a2),(4,.func (.func 91) #[] #[]),(10,iV p9),(11,iV a6)]/\L=[jv A1 n1 c1 p8]) N ?_;rintro m7 _ _ ⟨p8,p9,a6,h,rfl,rfl⟩;rw [cT.eq_2] at h;refine sZ ?_;refine gH J h ?_ ?_<;>intro h
  ·refine dk h ?_ ?_<;>intro h
   ·refine ab ?_;obtain ⟨a7,h⟩:=ac h
    refine cC h (fun _ k=>fi k) fun a8 h=> ?_
    obtain ⟨b0,h⟩:=ac h;exact lY
   refine ab ?_;obtain ⟨b5,h⟩:=ac h;refine ab ?_;obtain ⟨b6,h⟩:=ac h;refine ab ?_;obtain ⟨b7,h⟩:=ac h
   refine cC h (fun _ k=>fi k) fun b9 h=> ?_
   obtain ⟨d0,h⟩:=ac h;exact lY
  exact jY
 rintro _ _ ⟨p5,p6,h,rfl,rfl⟩;refine ab ?_;obtain ⟨d1,h⟩:=ac h
 refine cC h (fun _ k=>fi k) fun d2 h=> ?_
 exact eN
def cy (N:Nat)(a8:W7->Int->Int->Int->Option W7)(a3 a1 a2 a6:Int)(a7:W7):Option W7:=
 (bif decide ((IntKind.i64.wrap ((IntKind.u64.wrap (a1+a3)).fdiv (2 ^ 1)))<((IntKind.i64.wrap ((IntKind.u64.wrap (a1+a3)).fdiv (2 ^ 1)))+a2) - a6) then (some (decide (((IntKind.i64.wrap ((IntKind.u64.wrap (a1+a3)).fdiv (2 ^ 1)))+a2) - a6<a3))) else (some false)).bind fun b0=>bif b0 then ((a8 a7 (IntKind.i64.wrap ((IntKind.u64.wrap (a1+a3)).fdiv (2 ^ 1))) (((IntKind.i64.wrap ((IntKind.u64.wrap (a1+a3)).fdiv (2 ^ 1)))+a2) - a6) a3).bind fun b5=>some b5) else (some a7)
def cz (a7:W7->Int->Int->Int->Option W7)(a1 a3 a6 a2:Int)(a8:W7):Option W7:=
 (bif decide (a1<a6) then (some (decide (a6<(IntKind.i64.wrap ((IntKind.u64.wrap (a1+a3)).fdiv (2 ^ 1)))))) else (some false)).bind fun b0=>bif b0 then ((a7 a8 a1 a6 (IntKind.i64.wrap ((IntKind.u64.wrap (a1+a3)).fdiv (2 ^ 1)))).bind fun b5=>cy N a7 a3 a1 a2 a6 b5) else (cy N a7 a3 a1 a2 a6 a8)
def dm (a7:W7->Int->Int->Int->Option W7)(a1 a2 a3:Int)(a0:W7)(a6:Int):Option W7:=
 aI (in64 (((IntKind.i64.wrap ((IntKind.u64.wrap (a1+a3)).fdiv (2 ^ 1)))+a2) - a6)) ((bif decide (a6<a2) then (some (decide (a2<((IntKind.i64.wrap ((IntKind.u64.wrap (a1+a3)).fdiv (2 ^ 1)))+a2) - a6))) else (some false)).bind fun a8=>bif a8 then ((eD N a0 a6 a2 (((IntKind.i64.wrap ((IntKind.u64.wrap (a1+a3)).fdiv (2 ^ 1)))+a2) - a6)).bind fun b0=>cz N a7 a1 a3 a6 a2 b0) else (cz N a7 a1 a3 a6 a2 a0))
def cq (N:Nat)(a8:W7->Int->Int->Int->Option W7)(a1 a2 a3:Int)(a0:W7):Nat->Int->Int->Option W7
 |0,_,_=>none
 |b0+1,a6,a7=>bif decide (a6<a7) then (aI (in64 (a6+a7)) (aI (in64 ((((IntKind.i64.wrap ((IntKind.u64.wrap (a1+a3)).fdiv (2 ^ 1)))+a2) - 1) - (IntKind.i64.wrap ((IntKind.u64.wrap (a6+a7)).fdiv (2 ^ 1))))) ((aq a0 ((((IntKind.i64.wrap ((IntKind.u64.wrap (a1+a3)).fdiv (2 ^ 1)))+a2) - 1) - (IntKind.i64.wrap ((IntKind.u64.wrap (a6+a7)).fdiv (2 ^ 1))))).bind fun b5=>(aq a0 (IntKind.i64.wrap ((IntKind.u64.wrap (a6+a7)).fdiv (2 ^ 1)))).bind fun b6=>(nC N b5 b6).bind fun b7=>bif !(decide (b7<0)) then (aI (in64 ((IntKind.i64.wrap ((IntKind.u64.wrap (a6+a7)).fdiv (2 ^ 1)))+1)) ((cq N a8 a1 a2 a3 a0 b0) ((IntKind.i64.wrap ((IntKind.u64.wrap (a6+a7)).fdiv (2 ^ 1)))+1) a7)) else ((cq N a8 a1 a2 a3 a0 b0) a6 (IntKind.i64.wrap ((IntKind.u64.wrap (a6+a7)).fdiv (2 ^ 1))))))) else (dm N a8 a1 a2 a3 a0 a6)
def dp (a6:W7->Int->Int->Int->Option W7)(a1 a2 a3:Int)(a0:W7)(a7 a8:Int):Option W7:=
 aI (in64 (((IntKind.i64.wrap ((IntKind.u64.wrap (a1+a3)).fdiv (2 ^ 1)))+a2) - 1)) (cq N a6 a1 a2 a3 a0 N a7 a8)
def dq (a6:W7->Int->Int->Int->Option W7)(a1 a2 a3:Int)(a0:W7):Option W7:=
 aI (in64 (a1+a3)) (aI (in64 ((IntKind.i64.wrap ((IntKind.u64.wrap (a1+a3)).fdiv (2 ^ 1)))+a2)) (bif decide ((IntKind.i64.wrap ((IntKind.u64.wrap (a1+a3)).fdiv (2 ^ 1)))<a2) then (aI (in64 (((IntKind.i64.wrap ((IntKind.u64.wrap (a1+a3)).fdiv (2 ^ 1)))+a2) - a3)) (dp N a6 a1 a2 a3 a0 (((IntKind.i64.wrap ((IntKind.u64.wrap (a1+a3)).fdiv (2 ^ 1)))+a2) - a3) (IntKind.i64.wrap ((IntKind.u64.wrap (a1+a3)).fdiv (2 ^ 1))))) else (dp N a6 a1 a2 a3 a0 a1 a2)))
def cr (N:Nat)(b6:W7->Int->Int->Int->Option W7)(a1 a2 a3 b5:Int):Nat->W7->Int->Option W7
 |0,_,_=>none
 |b7+1,a7,a6=>bif decide (b5<a6) then (aI (in64 (a6 - 1)) (aI (in64 (a6 - 1)) ((aq a7 (a6 - 1)).bind fun a8=>(aq a7 a6).bind fun b0=>(aq a7 a6).bind fun b9=>(aq (List.set a7 a6.toNat (⟨a8.Zh,a8.N,a8.S⟩:WX)) (a6 - 1)).bind fun d0=>aI (in64 (a6 - 1)) ((cr N b6 a1 a2 a3 b5 b7) (List.set (List.set a7 a6.toNat (⟨a8.Zh,a8.N,a8.S⟩:WX)) ((a6 - 1).toNat) (⟨b0.Zh,b0.N,b0.S⟩:WX)) (a6 - 1))))) else (some a7)
def fg (a6:W7->Int->Int->Int->Option W7)(a1 a2 a3:Int)(a0:W7)(a7:Int):Option W7:=
 cr N a6 a1 a2 a3 a7 N a0 a2
def cu (N:Nat)(a8:W7->Int->Int->Int->Option W7)(a1 a2 a3:Int)(a0:W7):Nat->Int->Int->Option W7
 |0,_,_=>none
 |b0+1,a6,a7=>bif decide (a6<a7) then (aI (in64 (a6+a7)) ((aq a0 a2).bind fun b5=>(aq a0 (IntKind.i64.wrap ((IntKind.u64.wrap (a6+a7)).fdiv (2 ^ 1)))).bind fun b6=>(nC N b5 b6).bind fun b7=>bif !(decide (b7<0)) then (aI (in64 ((IntKind.i64.wrap ((IntKind.u64.wrap (a6+a7)).fdiv (2 ^ 1)))+1)) ((cu N a8 a1 a2 a3 a0 b0) ((IntKind.i64.wrap ((IntKind.u64.wrap (a6+a7)).fdiv (2 ^ 1)))+1) a7)) else ((cu N a8 a1 a2 a3 a0 b0) a6 (IntKind.i64.wrap ((IntKind.u64.wrap (a6+a7)).fdiv (2 ^ 1)))))) else (fg N a8 a1 a2 a3 a0 a6)
def dx (a6:W7->Int->Int->Int->Option W7)(a1 a2 a3:Int)(a0:W7):Option W7:=
 aI (in64 (a3 - a2)) (bif decide (a3 - a2=1) then (cu N a6 a1 a2 a3 a0 N a1 a2) else (dq N a6 a1 a2 a3 a0))
def cx (N:Nat)(b5:W7->Int->Int->Int->Option W7)(a1 a2 a3 p7:Int):Nat->W7->Int->Option W7
 |0,_,_=>none
 |b6+1,a7,a6=>aI (in64 (p7 - 1)) (bif decide (a6<p7 - 1) then (aI (in64 (a6+1)) (aI (in64 (a6+1)) ((aq a7 (a6+1)).bind fun a8=>(aq a7 a6).bind fun b0=>(aq a7 a6).bind fun b7=>(aq (List.set a7 a6.toNat (⟨a8.Zh,a8.N,a8.S⟩:WX)) (a6+1)).bind fun b9=>aI (in64 (a6+1)) ((cx N b5 a1 a2 a3 p7 b6) (List.set (List.set a7 a6.toNat (⟨a8.Zh,a8.N,a8.S⟩:WX)) ((a6+1).toNat) (⟨b0.Zh,b0.N,b0.S⟩:WX)) (a6+1))))) else (some a7))
def fQ (a6:W7->Int->Int->Int->Option W7)(a1 a2 a3:Int)(a0:W7)(p7:Int):Option W7:=
 cx N a6 a1 a2 a3 p7 N a0 a1
def bY (N:Nat)(a7:W7->Int->Int->Int->Option W7)(a1 a2 a3:Int)(a0:W7):Nat->Int->Int->Option W7
 |0,_,_=>none
 |m8+1,p9,a6=>bif decide (p9<a6) then (aI (in64 (p9+a6)) ((aq a0 (IntKind.i64.wrap ((IntKind.u64.wrap (p9+a6)).fdiv (2 ^ 1)))).bind fun a8=>(aq a0 a1).bind fun b0=>(nC N a8 b0).bind fun b5=>bif decide (b5<0) then (aI (in64 ((IntKind.i64.wrap ((IntKind.u64.wrap (p9+a6)).fdiv (2 ^ 1)))+1)) ((bY N a7 a1 a2 a3 a0 m8) ((IntKind.i64.wrap ((IntKind.u64.wrap (p9+a6)).fdiv (2 ^ 1)))+1) a6)) else ((bY N a7 a1 a2 a3 a0 m8) p9 (IntKind.i64.wrap ((IntKind.u64.wrap (p9+a6)).fdiv (2 ^ 1)))))) else (fQ N a7 a1 a2 a3 a0 p9)
def am (N:Nat):Nat->W7->Int->Int->Int->Option W7
 |0,_,_,_,_=>none
 |m2+1,a0,a1,a2,a3=>aI (in64 (a2 - a1)) (bif decide (a2 - a1=1) then (bY N (am N m2) a1 a2 a3 a0 N a2 a3) else (dx N (am N m2) a1 a2 a3 a0))
theorem ke {N m2:Nat}{a0:W7}{a2:Int}:am N (m2+1) a0 a1 a2 a3=aI (in64 (a2 - a1)) (bif decide (a2 - a1=1) then (bY N (am N m2) a1 a2 a3 a0 N a2 a3) else (dx N (am N m2) a1 a2 a3 a0)):=rfl
def bq (a0:W7)(a1 a2 a3:Int):Option W7:=am N N a0 a1 a2 a3
theorem qc {N:Nat}: ∀(m0:Nat) {a0:W7} {a1:Int} {a2:Int} {a3:Int} {r:W7} (h:am N m0 a0 a1 a2 a3=some r) {A1:Option Addr} {n1 c1:Nat},Okc Xk 173 [W A1 n1 c1,iV a1,iV a2,iV a3,.func (.func 91) #[] #[]] ([jv A1 n1 c1 a0]) (fun u post=>u=.tuple #[]/\post=[jv A1 n1 c1 r]):=by
 intro m0
 induction m0 with
 |zero=>intro a0 a1 a2 a3 r h A1 n1 c1;exact aL h
 | succ m2 ih=>
  intro a0 a1 a2 a3 r h A1 n1 c1;rw [ke] at h;refine Ca Tryz.func173 J J ?_;simp only [qI];refine ak (fun s L=>dx N (am N m2) a1 a2 a3 a0=some r/\s=[(0,W A1 n1 c1),(1,iV a1),(2,iV a2),(3,iV a3),(4,.func (.func 91) #[] #[])]/\L=[jv A1 n1 c1 a0]) ?_ ?_
  ·refine ab ?_;obtain ⟨q4,h⟩:=ac h;refine dk h ?_ ?_<;>intro h
   ·refine ab ?_;refine ak (fun s L=> ∃p7,fQ N (am N m2) a1 a2 a3 a0 p7=some r/\s=[(0,W A1 n1 c1),(1,iV a1),(2,iV a2),(3,iV a3),(4,.func (.func 91) #[] #[]),(10,iV p7)]/\L=[jv A1 n1 c1 a0]) ?_ ?_
    ·refine ab ?_;refine lK (fun m s L=> ∃(p9:Int) (e2:Int),bY N (am N m2) a1 a2 a3 a0 m p9 e2=some r/\s=[(0,W A1 n1 c1),(1,iV a1),(2,iV a2),(3,iV a3),(4,.func (.func 91) #[] #[]),(10,iV p9),(11,iV e2)]/\L=[jv A1 n1 c1 a0]) N ?_;rintro m8 _ _ ⟨p9,e2,h,rfl,rfl⟩;rw [bY.eq_2] at h;refine sZ ?_;refine gH J h ?_ ?_<;>intro h
     ·refine ab ?_;obtain ⟨j4,h⟩:=ac h;refine ab ?_;refine gE (xx J J WD)<|gE (IR (v:=(IntKind.u64.wrap (p9+e2)).fdiv (2 ^ 1)) J J (fun _=>J))<|fS (xx J J WB) ?_;refine dY [] ?_;refine ab ?_;obtain ⟨j5,h6,h7,h8,h⟩:=ba h;refine ab ?_;obtain ⟨j6,h9,i0,i1,h⟩:=ba h;refine ab ?_;obtain ⟨j7,k,h⟩:=aa h;refine zD 9 J (lm (tr k) J J J (ax) qD) ?_;rintro _ _ ⟨_,⟨rfl,rfl⟩,rfl⟩;refine ⟨_,ae _,ae _,?_⟩;refine dk h ?_ ?_<;>intro h
      ·refine ab ?_;obtain ⟨j8,h⟩:=ac h;exact lY
      exact lY
     exact jY
    rintro _ _ ⟨p7,h,rfl,rfl⟩;refine sZ ?_;refine lK (fun m s L=> ∃(e3:W7) (a6:Int),cx N (am N m2) a1 a2 a3 p7 m e3 a6=some r/\s=[(0,W A1 n1 c1),(1,iV a1),(2,iV a2),(3,iV a3),(4,.func (.func 91) #[] #[]),(10,iV p7),(13,iV a6)]/\L=[jv A1 n1 c1 e3]) N ?_;rintro j9 _ _ ⟨e3,a6,h,rfl,rfl⟩;rw [cx.eq_2] at h;refine sZ ?_;obtain ⟨k0,h⟩:=ac h;refine dk h ?_ ?_<;>intro h
    ·refine sY ?_;obtain ⟨e4,h⟩:=ac h;obtain ⟨h4,h⟩:=ac h;obtain ⟨a7,f1,f2,f3,h⟩:=ba h;obtain ⟨a8,f4,f6,f9,h⟩:=ba h;refine gw (t:=[(0,W A1 n1 c1),(1,iV a1),(2,iV a2),(3,iV a3),(4,.func (.func 91) #[] #[]),(10,iV p7),(13,iV a6)]) ?_ ml (ae _)
     refine iR O 14 [2,3,4] [0,1,2,4,9,13] [61,62,63,64,65,66,67,68,69,70,71,72,73,74] [[],[],[],[],[3],[],[],[6],[5,7],[8],[],[],[10,11],[12]] [aV (W A1 n1 c1),
aV (iV a6),
aV (W A1 n1 c1),
aV (iV a6),
aV (iV (a6+1)),
aV (W A1 n1 c1),
aV (iV a6),
aV (iV (a6+1)),
aV (dG (W A1 n1 c1) ((a6+1).toNat) 3 0),
aV (.agg #[iV a7.Zh,iV a7.N,.string a7.S]),
aV (W A1 n1 c1),
aV (iV a6),
aV (dG (W A1 n1 c1) a6.toNat 3 0),
aV (.agg #[iV a8.Zh,iV a8.N,.string a8.S])] [] (ae _) (fu rfl (fu rfl (fu rfl me))) O rfl rfl ?_ ?_ ?_
     ·exact ft J (nK (ap J) J (iI J (ae _)))<|ft J (nK (ap J) J (iI J (ae _)))<|ft J (nK (iO J J e4.1 e4.2) J (iI J (ae _)))<|md
     ·refine aG J (zh (dr (us:=[iV a8.Zh,iV a8.N,.string a8.S]) 0 J aj J f9 agg39.out (fun _ _ _ h=>by rw [show _=_ from h];rfl)) J (iI J (ae _)))<|qR (bS 0 J aj J J EM size39.out f4 f6) ?_;refine qE (ap J) ?_;refine qE (ap J) ?_;refine aG J (zh (dr (us:=[iV a7.Zh,iV a7.N,.string a7.S]) 0 J aj J f3 agg39.out (fun _ _ _ h=>by rw [show _=_ from h];rfl)) J (iI J (ae _)))<|qR (bS 0 J aj J J EM size39.out f1 f2) ?_;refine qE (iO J J h4.1 h4.2) ?_;refine qE (ap J) ?_;refine qE (ap J) ?_;refine qE (iO J J e4.1 e4.2) ?_;refine qE (ap J) ?_;refine qE (ap J) ?_;refine qE (ap J) ?_;refine qE (ap J) ?_;exact dK
     refine oq (t:=[(61,W A1 n1 c1),(62,iV a6),(63,W A1 n1 c1),(65,iV (a6+1)),(70,.agg #[iV a7.Zh,iV a7.N,.string a7.S]),(74,.agg #[iV a8.Zh,iV a8.N,.string a8.S]),(0,W A1 n1 c1),(1,iV a1),(2,iV a2),(3,iV a3),(4,.func (.func 91) #[] #[]),(10,iV p7),(13,iV a6)]) (L':=[jv A1 n1 c1 e3]) ?_ ml (ae _);obtain ⟨k1,d0,d1,g0,h⟩:=ba h;refine Kq 14 J O (bS 0 J aj J J EM size39.out d0 d1) J J J<|pU 15 J O (bZ (us:=[iV a7.Zh,iV a7.N,.string a7.S]) (z:=(⟨a7.Zh,a7.N,a7.S⟩:WX)) 0 J J J J size39.out J (toNat_lt d0 d1) J (fun S w vs xk hk hr ho=>by obtain rfl:=YX (hk.symm.trans g0);rw [show _=_ from hr];rfl)) J J ?_;rintro _ _ rfl;refine Ar ?_;obtain ⟨k2,d2,d3,g1,h⟩:=ba h;refine Kq 16 J O (bS 0 J aj J J EM size39.out d2 d3) J J J<|pU 17 J O (bZ (us:=[iV a8.Zh,iV a8.N,.string a8.S]) (z:=(⟨a8.Zh,a8.N,a8.S⟩:WX)) 0 J J J J size39.out J (toNat_lt d2 d3) J (fun S w vs xk hk hr ho=>by obtain rfl:=YX (hk.symm.trans g1);rw [show _=_ from hr];rfl)) J J ?_;rintro _ _ rfl;refine Ar ?_;refine mj O<|ab ?_;obtain ⟨k3,h⟩:=ac h;exact lY
    exact eY
   exact jY
  rintro _ _ ⟨h,rfl,rfl⟩;refine ak (fun s L=>dq N (am N m2) a1 a2 a3 a0=some r/\s=[(0,W A1 n1 c1),(1,iV a1),(2,iV a2),(3,iV a3),(4,.func (.func 91) #[] #[])]/\L=[jv A1 n1 c1 a0]) ?_ ?_
  ·refine ab ?_;obtain ⟨k4,h⟩:=ac h;refine dk h ?_ ?_<;>intro h
   ·refine ab ?_;refine ak (fun s L=> ∃b9,fg N (am N m2) a1 a2 a3 a0 b9=some r/\s=[(0,W A1 n1 c1),(1,iV a1),(2,iV a2),(3,iV a3),(4,.func (.func 91) #[] #[]),(14,iV b9)]/\L=[jv A1 n1 c1 a0]) ?_ ?_
    ·refine ab ?_;refine lK (fun m s L=> ∃(e5:Int) (e6:Int),cu N (am N m2) a1 a2 a3 a0 m e5 e6=some r/\s=[(0,W A1 n1 c1),(1,iV a1),(2,iV a2),(3,iV a3),(4,.func (.func 91) #[] #[]),(14,iV e5),(15,iV e6)]/\L=[jv A1 n1 c1 a0]) N ?_;rintro k5 _ _ ⟨e5,e6,h,rfl,rfl⟩;rw [cu.eq_2] at h;refine sZ ?_;refine gH J h ?_ ?_<;>intro h
     ·refine ab ?_;obtain ⟨k6,h⟩:=ac h;refine ab ?_;refine gE (xx J J WD)<|gE (IR (v:=(IntKind.u64.wrap (e5+e6)).fdiv (2 ^ 1)) J J (fun _=>J))<|fS (xx J J WB) ?_;refine dY [] ?_;refine ab ?_;obtain ⟨k7,i2,i3,i4,h⟩:=ba h;refine ab ?_;obtain ⟨k8,i5,i6,i7,h⟩:=ba h;refine ab ?_;obtain ⟨k9,k,h⟩:=aa h;refine zD 9 J (lm (tr k) J J J (ax) qD) ?_;rintro _ _ ⟨_,⟨rfl,rfl⟩,rfl⟩;refine ⟨_,ae _,ae _,?_⟩;refine dk h ?_ ?_<;>intro h
      ·refine ab ?_;obtain ⟨l0,h⟩:=ac h;exact lY
      exact lY
     exact jY
    rintro _ _ ⟨b9,h,rfl,rfl⟩;refine sZ ?_;refine lK (fun m s L=> ∃(e7:W7) (b0:Int),cr N (am N m2) a1 a2 a3 b9 m e7 b0=some r/\s=[(0,W A1 n1 c1),(1,iV a1),(2,iV a2),(3,iV a3),(4,.func (.func 91) #[] #[]),(14,iV b9),(17,iV b0)]/\L=[jv A1 n1 c1 e7]) N ?_;rintro l1 _ _ ⟨e7,b0,h,rfl,rfl⟩;rw [cr.eq_2] at h;refine sZ ?_;refine gH J h ?_ ?_<;>intro h
    ·refine sY ?_;obtain ⟨e8,h⟩:=ac h;obtain ⟨h5,h⟩:=ac h;obtain ⟨b5,g2,g3,g4,h⟩:=ba h;obtain ⟨b6,g5,g6,g7,h⟩:=ba h;refine gw (t:=[(0,W A1 n1 c1),(1,iV a1),(2,iV a2),(3,iV a3),(4,.func (.func 91) #[] #[]),(14,iV b9),(17,iV b0)]) ?_ ml (ae _)
     refine iR O 14 [2,3,4] [0,1,2,4,9,13] [113,114,115,116,117,118,119,120,121,122,123,124,125,126] [[],[],[],[],[3],[],[],[6],[5,7],[8],[],[],[10,11],[12]] [aV (W A1 n1 c1),
aV (iV b0),
aV (W A1 n1 c1),
aV (iV b0),
aV (iV (b0 - 1)),
aV (W A1 n1 c1),
aV (iV b0),
aV (iV (b0 - 1)),
aV (dG (W A1 n1 c1) ((b0 - 1).toNat) 3 0),
aV (.agg #[iV b5.Zh,iV b5.N,.string b5.S]),
aV (W A1 n1 c1),
aV (iV b0),
aV (dG (W A1 n1 c1) b0.toNat 3 0),
aV (.agg #[iV b6.Zh,iV b6.N,.string b6.S])] [] (ae _) (fu rfl (fu rfl (fu rfl me))) O rfl rfl ?_ ?_ ?_
     ·exact ft J (nK (ap J) J (iI J (ae _)))<|ft J (nK (ap J) J (iI J (ae _)))<|ft J (nK (vJ J J e8.1 e8.2) J (iI J (ae _)))<|md
     ·refine aG J (zh (dr (us:=[iV b6.Zh,iV b6.N,.string b6.S]) 0 J aj J g7 agg39.out (fun _ _ _ h=>by rw [show _=_ from h];rfl)) J (iI J (ae _)))<|qR (bS 0 J aj J J EM size39.out g5 g6) ?_;refine qE (ap J) ?_;refine qE (ap J) ?_;refine aG J (zh (dr (us:=[iV b5.Zh,iV b5.N,.string b5.S]) 0 J aj J g4 agg39.out (fun _ _ _ h=>by rw [show _=_ from h];rfl)) J (iI J (ae _)))<|qR (bS 0 J aj J J EM size39.out g2 g3) ?_;refine qE (vJ J J h5.1 h5.2) ?_;refine qE (ap J) ?_;refine qE (ap J) ?_;refine qE (vJ J J e8.1 e8.2) ?_;refine qE (ap J) ?_;refine qE (ap J) ?_;refine qE (ap J) ?_;refine qE (ap J) ?_;exact dK
     refine oq (t:=[(113,W A1 n1 c1),(114,iV b0),(115,W A1 n1 c1),(117,iV (b0 - 1)),(122,.agg #[iV b5.Zh,iV b5.N,.string b5.S]),(126,.agg #[iV b6.Zh,iV b6.N,.string b6.S]),(0,W A1 n1 c1),(1,iV a1),(2,iV a2),(3,iV a3),(4,.func (.func 91) #[] #[]),(14,iV b9),(17,iV b0)]) (L':=[jv A1 n1 c1 e7]) ?_ ml (ae _);obtain ⟨l2,d4,d6,g8,h⟩:=ba h;refine Kq 14 J O (bS 0 J aj J J EM size39.out d4 d6) J J J<|pU 15 J O (bZ (us:=[iV b5.Zh,iV b5.N,.string b5.S]) (z:=(⟨b5.Zh,b5.N,b5.S⟩:WX)) 0 J J J J size39.out J (toNat_lt d4 d6) J (fun S w vs xk hk hr ho=>by obtain rfl:=YX (hk.symm.trans g8);rw [show _=_ from hr];rfl)) J J ?_;rintro _ _ rfl;refine Ar ?_;obtain ⟨l3,e0,e1,g9,h⟩:=ba h;refine Kq 16 J O (bS 0 J aj J J EM size39.out e0 e1) J J J<|pU 17 J O (bZ (us:=[iV b6.Zh,iV b6.N,.string b6.S]) (z:=(⟨b6.Zh,b6.N,b6.S⟩:WX)) 0 J J J J size39.out J (toNat_lt e0 e1) J (fun S w vs xk hk hr ho=>by obtain rfl:=YX (hk.symm.trans g9);rw [show _=_ from hr];rfl)) J J ?_;rintro _ _ rfl;refine Ar ?_;refine mj O<|ab ?_;obtain ⟨l4,h⟩:=ac h;exact lY
    exact eY
   exact jY
  rintro _ _ ⟨h,rfl,rfl⟩;refine ab ?_;obtain ⟨l5,h⟩:=ac h;refine ab ?_;refine gE (xx J J WD)<|gE (IR (v:=(IntKind.u64.wrap (a1+a3)).fdiv (2 ^ 1)) J J (fun _=>J))<|fS (xx J J WB) ?_;obtain ⟨l6,h⟩:=ac h;refine ab ?_;refine ak (fun s L=> ∃h0 h1,dp N (am N m2) a1 a2 a3 a0 h0 h1=some r/\s=[(0,W A1 n1 c1),(1,iV a1),(2,iV a2),(3,iV a3),(4,.func (.func 91) #[] #[]),(18,iV (IntKind.i64.wrap ((IntKind.u64.wrap (a1+a3)).fdiv (2 ^ 1)))),(19,iV ((IntKind.i64.wrap ((IntKind.u64.wrap (a1+a3)).fdiv (2 ^ 1)))+a2)),(20,iV h0),(21,iV h1)]/\L=[jv A1 n1 c1 a0]) ?_ ?_
  ·refine dk h ?_ ?_<;>intro h
   ·refine ab ?_;obtain ⟨l7,h⟩:=ac h;exact jY
   exact jY
  rintro _ _ ⟨h0,h1,h,rfl,rfl⟩;refine ab ?_;obtain ⟨l8,h⟩:=ac h;refine ab ?_;refine ak (fun s L=> ∃b7,dm N (am N m2) a1 a2 a3 a0 b7=some r/\s=[(0,W A1 n1 c1),(1,iV a1),(2,iV a2),(3,iV a3),(4,.func (.func 91) #[] #[]),(18,iV (IntKind.i64.wrap ((IntKind.u64.wrap (a1+a3)).fdiv (2 ^ 1)))),(19,iV ((IntKind.i64.wrap ((IntKind.u64.wrap (a1+a3)).fdiv (2 ^ 1)))+a2)),(20,iV b7)]/\L=[jv A1 n1 c1 a0]) ?_ ?_
  ·refine ab ?_;refine lK (fun m s L=> ∃(e9:Int) (f0:Int),cq N (am N m2) a1 a2 a3 a0 m e9 f0=some r/\s=[(0,W A1 n1 c1),(1,iV a1),(2,iV a2),(3,iV a3),(4,.func (.func 91) #[] #[]),(18,iV (IntKind.i64.wrap ((IntKind.u64.wrap (a1+a3)).fdiv (2 ^ 1)))),(19,iV ((IntKind.i64.wrap ((IntKind.u64.wrap (a1+a3)).fdiv (2 ^ 1)))+a2)),(20,iV e9),(21,iV f0),(22,iV (((IntKind.i64.wrap ((IntKind.u64.wrap (a1+a3)).fdiv (2 ^ 1)))+a2) - 1))]/\L=[jv A1 n1 c1 a0]) N ?_;rintro l9 _ _ ⟨e9,f0,h,rfl,rfl⟩;rw [cq.eq_2] at h;refine sZ ?_;refine gH J h ?_ ?_<;>intro h
   ·refine ab ?_;obtain ⟨m1,h⟩:=ac h;refine ab ?_;refine gE (xx J J WD)<|gE (IR (v:=(IntKind.u64.wrap (e9+f0)).fdiv (2 ^ 1)) J J (fun _=>J))<|fS (xx J J WB) ?_;refine dY [] ?_;refine ab ?_;obtain ⟨m3,h⟩:=ac h;refine ab ?_;obtain ⟨m4,i8,i9,j0,h⟩:=ba h;refine ab ?_;obtain ⟨m5,j1,j2,j3,h⟩:=ba h;refine ab ?_;obtain ⟨m6,k,h⟩:=aa h;refine zD 11 J (lm (tr k) J J J (ax) qD) ?_;rintro _ _ ⟨_,⟨rfl,rfl⟩,rfl⟩;refine ⟨_,ae _,ae _,?_⟩;refine dk h ?_ ?_<;>intro h
    ·refine ab ?_;obtain ⟨m7,h⟩:=ac h;exact lY
    exact lY
   exact jY
  rintro _ _ ⟨b7,h,rfl,rfl⟩;refine ab ?_;obtain ⟨m9,h⟩:=ac h;refine ab ?_;refine ak (fun s L=> ∃h2,cz N (am N m2) a1 a3 b7 a2 h2=some r/\s=[(0,W A1 n1 c1),(1,iV a1),(3,iV a3),(4,.func (.func 91) #[] #[]),(18,iV (IntKind.i64.wrap ((IntKind.u64.wrap (a1+a3)).fdiv (2 ^ 1)))),(20,iV b7),(24,iV (((IntKind.i64.wrap ((IntKind.u64.wrap (a1+a3)).fdiv (2 ^ 1)))+a2) - b7))]/\L=[jv A1 n1 c1 h2]) ?_ ?_
  ·refine ab ?_;refine gS 4 185 181 h ?_;intro n0 h;refine dk h ?_ ?_<;>intro h
   ·refine cC h (fun _ k=>sc k) fun o0 h=> ?_
    exact jN
   exact jY
  rintro _ _ ⟨h2,h,rfl,rfl⟩;refine ak (fun s L=> ∃h3,cy N (am N m2) a3 a1 a2 b7 h3=some r/\s=[(0,W A1 n1 c1),(3,iV a3),(4,.func (.func 91) #[] #[]),(18,iV (IntKind.i64.wrap ((IntKind.u64.wrap (a1+a3)).fdiv (2 ^ 1)))),(24,iV (((IntKind.i64.wrap ((IntKind.u64.wrap (a1+a3)).fdiv (2 ^ 1)))+a2) - b7))]/\L=[jv A1 n1 c1 h3]) ?_ ?_
  ·refine ab ?_;refine gS 4 199 195 h ?_;intro o1 h;refine dk h ?_ ?_<;>intro h
   ·refine cC h (fun _ k=>ih k) fun o2 h=> ?_
    exact jN
   exact jY
  rintro _ _ ⟨h3,h,rfl,rfl⟩;refine ab ?_;refine gS 4 213 209 h ?_;intro p1 h;refine dk h ?_ ?_<;>intro h
  ·refine cC h (fun _ k=>ih k) fun p2 h=> ?_
   exact eN
  exact eY
theorem bX {N:Nat}{a0:W7}{a2:Int}{r:W7}(h:bq N a0 a1 a2 a3=some r):Okc Xk 173 [W A1 n1 c1,iV a1,iV a2,iV a3,.func (.func 91) #[] #[]] ([jv A1 n1 c1 a0]) (fun u post=>u=.tuple #[]/\post=[jv A1 n1 c1 r]):=qc N h
def gg (N:Nat)(a6:W7->Int->Option W7)(a1 a7:Int)(a8:W7):Option W7:=
 aI (in64 (a7*2)) (a6 a8 (a7*2))
def rg (a6:W7->Int->Option W7)(a1 a7:Int)(p15:W7):Option W7:=
 aI (in64 (0+a7)) (bif decide (0+a7<a1) then ((bq N p15 0 (0+a7) a1).bind fun a8=>gg N a6 a1 a7 a8) else (gg N a6 a1 a7 p15))
def ge (N:Nat)(a6:W7->Int->Option W7)(a1 a7:Int)(a8:W7):Option W7:=
 aI (in64 (a7*2)) (a6 a8 (a7*2))
def kY (a6:W7->Int->Option W7)(a1 a7:Int)(p21:W7)(a8:Int):Option W7:=
 aI (in64 (a8+a7)) (bif decide (a8+a7<a1) then ((bq N p21 a8 (a8+a7) a1).bind fun b0=>ge N a6 a1 a7 b0) else (ge N a6 a1 a7 p21))
def fZ (N:Nat)(a7:W7->Int->Option W7)(a1 a6:Int):Nat->W7->Int->Int->Option W7
 |0,_,_,_=>none
 |b6+1,b5,b0,a8=>bif decide (a8<=a1) then (aI (in64 (b0+a6)) ((bq N b5 b0 (b0+a6) a8).bind fun b7=>aI (in64 (2*a6)) (aI (in64 (a8+(2*a6))) ((fZ N a7 a1 a6 b6) b7 a8 (a8+(2*a6)))))) else (kY N a7 a1 a6 b5 b0)
def bu (N:Nat)(a1:Int):Nat->W7->Int->Option W7
 |0,_,_=>none
 |a7+1,p15,a6=>bif decide (a6<a1) then (aI (in64 (2*a6)) (fZ N (bu N a1 a7) a1 a6 N p15 0 (2*a6))) else (some p15)
def r9 (a1:Int)(a0:W7):Option W7:=
 (bC N a0 0 a1).bind fun a6=>bu N a1 N a6 20
def ga (N:Nat)(a6:W7->Int->Option W7)(a1 a7:Int)(a8:W7):Option W7:=
 aI (in64 (a7*2)) (a6 a8 (a7*2))
def rf (a6:W7->Int->Option W7)(a1 a7:Int)(a8:W7):Option W7:=
 aI (in64 (0+a7)) (bif decide (0+a7<a1) then ((bq N a8 0 (0+a7) a1).bind fun b0=>ga N a6 a1 a7 b0) else (ga N a6 a1 a7 a8))
def dM (N:Nat)(a6:W7->Int->Option W7)(a1 a7:Int)(a8:W7):Option W7:=
 aI (in64 (a7*2)) (a6 a8 (a7*2))
def gb (a6:W7->Int->Option W7)(a1 a7:Int)(b0:W7)(a8:Int):Option W7:=
 aI (in64 (a8+a7)) (bif decide (a8+a7<a1) then ((bq N b0 a8 (a8+a7) a1).bind fun b5=>dM N a6 a1 a7 b5) else (dM N a6 a1 a7 b0))
def dL (N:Nat)(a7:W7->Int->Option W7)(a1 a6:Int):Nat->W7->Int->Int->Option W7
 |0,_,_,_=>none
 |b6+1,b5,b0,a8=>bif decide (a8<=a1) then (aI (in64 (b0+a6)) ((bq N b5 b0 (b0+a6) a8).bind fun b7=>aI (in64 (2*a6)) (aI (in64 (a8+(2*a6))) ((dL N a7 a1 a6 b6) b7 a8 (a8+(2*a6)))))) else (gb N a7 a1 a6 b5 b0)
def aK (N:Nat)(a1:Int):Nat->W7->Int->Option W7
 |0,_,_=>none
 |a8+1,a7,a6=>bif decide (a6<a1) then (aI (in64 (2*a6)) (dL N (aK N a1 a8) a1 a6 N a7 0 (2*a6))) else (some a7)
def gK (a1:Int)(p4:W7)(p5:Int):Option W7:=
 (bC N p4 p5 a1).bind fun a6=>aK N a1 N a6 20
def dW (N:Nat)(a1:Int):Nat->W7->Int->Int->Option W7
 |0,_,_,_=>none
 |m6+1,p7,p8,p9=>bif decide (p9<=a1) then ((bC N p7 p8 p9).bind fun a6=>aI (in64 (p9+20)) ((dW N a1 m6) a6 p9 (p9+20))) else (gK N a1 p7 p8)
def io (a0:W7)(a1:Int):Option W7:=
 dW N a1 N a0 0 20
theorem r8 {N:Nat}{a0 r:W7}(h:io N a0 a1=some r):Okc Xk 131 [W A1 n1 c1,iV a1,.func (.func 91) #[] #[]] ([jv A1 n1 c1 a0]) (fun u post=>u=.tuple #[]/\post=[jv A1 n1 c1 r]):=by
 refine ce Tryz.func131 ?_;refine ak (fun s L=>(r9 N a1 a0=some r/\s=[(0,W A1 n1 c1),(1,iV a1),(2,.func (.func 91) #[] #[]),(6,iV 20),(7,iV 0)]/\L=[jv A1 n1 c1 a0])\/(∃p4 p5,gK N a1 p4 p5=some r/\s=[(0,W A1 n1 c1),(1,iV a1),(2,.func (.func 91) #[] #[]),(6,iV 20),(7,iV p5)]/\L=[jv A1 n1 c1 p4])) ?_ ?_
 ·refine ab ?_;refine lK (fun m s L=> ∃(p7:W7) (p8:Int) (p9:Int),dW N a1 m p7 p8 p9=some r/\s=[(0,W A1 n1 c1),(1,iV a1),(2,.func (.func 91) #[] #[]),(6,iV 20),(7,iV p8),(8,iV p9)]/\L=[jv A1 n1 c1 p7]) N ?_;rintro m6 _ _ ⟨p7,p8,p9,h,rfl,rfl⟩;rw [dW.eq_2] at h;refine sZ ?_;refine gH J h ?_ ?_<;>intro h
  ·refine cC h (fun _ k=>dP k) fun f2 h=> ?_
   obtain ⟨f3,h⟩:=ac h;exact lY
  refine ab ?_;exact ⟨_,_,.inr (⟨p7,p8,h,J,J⟩),sA,cS [0] 1⟩
 rintro _ _ (⟨h,rfl,rfl⟩|⟨p4,p5,h,rfl,rfl⟩)
 ·refine cC h (fun _ k=>dP k) fun f4 h=> ?_
  refine lK (fun m s L=> ∃(p15:W7) (a6:Int),bu N a1 m p15 a6=some r/\s=[(0,W A1 n1 c1),(1,iV a1),(2,.func (.func 91) #[] #[]),(6,iV a6)]/\L=[jv A1 n1 c1 p15]) N ?_;rintro a8 _ _ ⟨p15,a6,h,rfl,rfl⟩;rw [bu.eq_2] at h;refine sZ ?_;refine gH J h ?_ ?_<;>intro h
  ·refine ab ?_;obtain ⟨e4,h⟩:=ac h;refine fS (rD J J e4.1 e4.2) ?_;refine ak (fun s L=>(rg N (bu N a1 a8) a1 a6 p15=some r/\s=[(0,W A1 n1 c1),(1,iV a1),(2,.func (.func 91) #[] #[]),(6,iV a6),(7,iV 0)]/\L=[jv A1 n1 c1 p15])\/(∃p21 d1,kY N (bu N a1 a8) a1 a6 p21 d1=some r/\s=[(0,W A1 n1 c1),(1,iV a1),(2,.func (.func 91) #[] #[]),(6,iV a6),(7,iV d1)]/\L=[jv A1 n1 c1 p21])) ?_ ?_
   ·refine ab ?_;refine lK (fun m s L=> ∃(b6:W7) (b7:Int) (d2:Int),fZ N (bu N a1 a8) a1 a6 m b6 b7 d2=some r/\s=[(0,W A1 n1 c1),(1,iV a1),(2,.func (.func 91) #[] #[]),(6,iV a6),(7,iV b7),(8,iV d2)]/\L=[jv A1 n1 c1 b6]) N ?_;rintro f6 _ _ ⟨b6,b7,d2,h,rfl,rfl⟩;rw [fZ.eq_2] at h;refine sZ ?_;refine gH J h ?_ ?_<;>intro h
    ·refine ab ?_;obtain ⟨f9,h⟩:=ac h
     refine cC h (fun _ k=>bX k) fun g0 h=> ?_
     obtain ⟨e5,h⟩:=ac h;refine gE (rD J J e5.1 e5.2) ?_;obtain ⟨g1,h⟩:=ac h;exact lY
    refine ab ?_;exact ⟨_,_,.inr (⟨b6,b7,h,J,J⟩),sA,cS [0] 1⟩
   rintro _ _ (⟨h,rfl,rfl⟩|⟨p21,d1,h,rfl,rfl⟩)
   ·refine ak (fun s L=> ∃d3,gg N (bu N a1 a8) a1 a6 d3=some r/\s=[(0,W A1 n1 c1),(1,iV a1),(2,.func (.func 91) #[] #[]),(6,iV a6)]/\L=[jv A1 n1 c1 d3]) ?_ ?_
    ·refine ab ?_;obtain ⟨g2,h⟩:=ac h;refine dk h ?_ ?_<;>intro h
     ·refine cC h (fun _ k=>bX k) fun g3 h=> ?_
      exact jN
     exact jY
    rintro _ _ ⟨d3,h,rfl,rfl⟩;refine ab ?_;obtain ⟨e6,h⟩:=ac h;refine fS (rD J J e6.1 e6.2) ?_;exact lN
   refine ak (fun s L=> ∃d4,ge N (bu N a1 a8) a1 a6 d4=some r/\s=[(0,W A1 n1 c1),(1,iV a1),(2,.func (.func 91) #[] #[]),(6,iV a6)]/\L=[jv A1 n1 c1 d4]) ?_ ?_
   ·refine ab ?_;obtain ⟨g4,h⟩:=ac h;refine dk h ?_ ?_<;>intro h
    ·refine cC h (fun _ k=>bX k) fun g5 h=> ?_
     exact jN
    exact jY
   rintro _ _ ⟨d4,h,rfl,rfl⟩;refine ab ?_;obtain ⟨e7,h⟩:=ac h;refine fS (rD J J e7.1 e7.2) ?_;exact lN
  exact eY
 refine cC h (fun _ k=>dP k) fun g6 h=> ?_
 refine lK (fun m s L=> ∃(b0:W7) (a7:Int),aK N a1 m b0 a7=some r/\s=[(0,W A1 n1 c1),(1,iV a1),(2,.func (.func 91) #[] #[]),(6,iV a7)]/\L=[jv A1 n1 c1 b0]) N ?_;rintro b5 _ _ ⟨b0,a7,h,rfl,rfl⟩;rw [aK.eq_2] at h;refine sZ ?_;refine gH J h ?_ ?_<;>intro h
 ·refine ab ?_;obtain ⟨e8,h⟩:=ac h;refine fS (rD J J e8.1 e8.2) ?_;refine ak (fun s L=>(rf N (aK N a1 b5) a1 a7 b0=some r/\s=[(0,W A1 n1 c1),(1,iV a1),(2,.func (.func 91) #[] #[]),(6,iV a7),(7,iV 0)]/\L=[jv A1 n1 c1 b0])\/(∃d6 e0,gb N (aK N a1 b5) a1 a7 d6 e0=some r/\s=[(0,W A1 n1 c1),(1,iV a1),(2,.func (.func 91) #[] #[]),(6,iV a7),(7,iV e0)]/\L=[jv A1 n1 c1 d6])) ?_ ?_
  ·refine ab ?_;refine lK (fun m s L=> ∃(b9:W7) (d0:Int) (e1:Int),dL N (aK N a1 b5) a1 a7 m b9 d0 e1=some r/\s=[(0,W A1 n1 c1),(1,iV a1),(2,.func (.func 91) #[] #[]),(6,iV a7),(7,iV d0),(8,iV e1)]/\L=[jv A1 n1 c1 b9]) N ?_;rintro g7 _ _ ⟨b9,d0,e1,h,rfl,rfl⟩;rw [dL.eq_2] at h;refine sZ ?_;refine gH J h ?_ ?_<;>intro h
   ·refine ab ?_;obtain ⟨g8,h⟩:=ac h
    refine cC h (fun _ k=>bX k) fun g9 h=> ?_
    obtain ⟨e9,h⟩:=ac h;refine gE (rD J J e9.1 e9.2) ?_;obtain ⟨h0,h⟩:=ac h;exact lY
   refine ab ?_;exact ⟨_,_,.inr (⟨b9,d0,h,J,J⟩),sA,cS [0] 1⟩
  rintro _ _ (⟨h,rfl,rfl⟩|⟨d6,e0,h,rfl,rfl⟩)
  ·refine ak (fun s L=> ∃e2,ga N (aK N a1 b5) a1 a7 e2=some r/\s=[(0,W A1 n1 c1),(1,iV a1),(2,.func (.func 91) #[] #[]),(6,iV a7)]/\L=[jv A1 n1 c1 e2]) ?_ ?_
   ·refine ab ?_;obtain ⟨h1,h⟩:=ac h;refine dk h ?_ ?_<;>intro h
    ·refine cC h (fun _ k=>bX k) fun h2 h=> ?_
     exact jN
    exact jY
   rintro _ _ ⟨e2,h,rfl,rfl⟩;refine ab ?_;obtain ⟨f0,h⟩:=ac h;refine fS (rD J J f0.1 f0.2) ?_;exact lN
  refine ak (fun s L=> ∃e3,dM N (aK N a1 b5) a1 a7 e3=some r/\s=[(0,W A1 n1 c1),(1,iV a1),(2,.func (.func 91) #[] #[]),(6,iV a7)]/\L=[jv A1 n1 c1 e3]) ?_ ?_
  ·refine ab ?_;obtain ⟨h3,h⟩:=ac h;refine dk h ?_ ?_<;>intro h
   ·refine cC h (fun _ k=>bX k) fun h4 h=> ?_
    exact jN
   exact jY
  rintro _ _ ⟨e3,h,rfl,rfl⟩;refine ab ?_;obtain ⟨f1,h⟩:=ac h;refine fS (rD J J f1.1 f1.2) ?_;exact lN
 exact eY
def dX (a0:W7):Option W7:=
 (io N a0 (a0.length:Int)).bind fun y2=>some y2
theorem rh {N:Nat}{a0 r:W7}(h:dX N a0=some r):Okc Xk 90 [W A1 n1 c1,.func (.func 91) #[] #[]] ([jv A1 n1 c1 a0]) (fun u post=>u=.tuple #[]/\post=[jv A1 n1 c1 r]):=by
 refine ce Tryz.func90 ?_
 refine cC h (fun _ k=>r8 k) fun y2 h=> ?_
 exact eN
def wZ (p3:W7):Option W7:=
 (dX N p3).bind fun a6=>some a6
def ts (N:Nat)(a6:W7->Int->Option W7)(a0:W7)(p6:Int)(a7:W7):Option W7:=
 aI (in64 (p6+1)) (a6 a7 (p6+1))
def nV (N:Nat)(a0:W7):Nat->W7->Int->Option W7
 |0,_,_=>none
 |m4+1,p5,p6=>bif decide (p6<(a0.length:Int)) then ((aq a0 p6).bind fun a6=>(bd N a6).bind fun a7=>bif a7 then (aI (bm (p5.length+([a6]:List WX).length)) (ts N (nV N a0 m4) a0 p6 (p5++([a6]:List WX)))) else (ts N (nV N a0 m4) a0 p6 p5)) else (wZ N p5)
def pP (a0:W7):Option W7:=
 nV N a0 N [] 0
theorem IF {N:Nat}{a0 r:W7}(h:pP N a0=some r):Okc Xk 45 [W A1 n1 c1] ([sF A1 n1 c1 a0]) (fun u post=> ∃A0 n0 c0,u=W A0 n0 c0/\post=[jv A0 n0 c0 r]):=by
 refine ce Tryz.func45 ?_;refine ak (fun s L=> ∃p3 A3 n3 c3,wZ N p3=some r/\s=[(2,W none 0 0),(3,W A3 n3 c3)]/\L=[jv A3 n3 c3 p3]) ?_ ?_
 ·refine ab ?_;refine im (fun m s L=> ∃p5 p6 A5 n5 c5,nV N a0 m p5 p6=some r/\s=[(2,W none 0 0),(3,W A5 n5 c5),(6,W A1 n1 c1),(7,iV (a0.length:Int)),(8,iV p6)]/\L=[jv A5 n5 c5 p5,sF A1 n1 c1 a0]) N _ _ ⟨[],0,none,0,0,h,J,J⟩ sA ((bT gQ 39 _).trans (cS [0,1] 2)) ?_;rintro (_|m4) _ _ ⟨p5,p6,A5,n5,c5,h,rfl,rfl⟩
  ·exact aL h
  rw [nV.eq_2] at h;refine ab ?_;refine aB<|gH J h (fun h=> ?_) (fun h=> ?_)
  ·refine ab ?_;refine ak (fun s L=> ∃a7 a8 b0 b5,ts N (nV N a0 m4) a0 p6 a7=some r/\s=[(2,W none 0 0),(3,W a8 b0 b5),(6,W A1 n1 c1),(7,iV (a0.length:Int)),(8,iV p6)]/\L=[jv a8 b0 b5 a7,sF A1 n1 c1 a0]) ?_ ?_
   ·refine ab ?_;obtain ⟨a6,b6,b7,b9,h⟩:=ba h
    refine cl fun d1=> ?_
    obtain ⟨d2,k,h⟩:=aa h;refine Ej (oR (nU k)) ?_;refine gH J h ?_ ?_<;>intro h
    ·refine ab ?_;refine gD (aw (R:=gQ) (vss:=[[iV a6.Zh,iV a6.N,.string a6.S]]) (xs:=[a6]) J (iJ _ _ _) J J (fun _ _ hr=> .cons J All2.nil)) ?_;rintro _ _ ⟨d3,d4,d6,rfl,rfl⟩;obtain ⟨d0,h⟩:=ac h
     refine sI (az 2 0 J J aj J J EM tT J J d0) fun e0 e1 e2=> ?_
     exact jN
    exact jY
   rintro _ _ ⟨a7,a8,b0,b5,h,rfl,rfl⟩;refine ab ?_;obtain ⟨e3,h⟩:=ac h;exact lY
  exact jY
 rintro _ _ ⟨p3,A3,n3,c3,h,rfl,rfl⟩;refine ab ?_;obtain ⟨e4,k,h⟩:=aa h;refine Ej (oC (rh k)) ?_;exact eN
def uF (a6:W7):Option W7:=
 (pP N a6).bind fun a7=>some a7
def qN (N:Nat)(a7:Xh):Nat->Int->W7->Option W7
 |0,_,_=>none
 |b5+1,a6,a8=>bif decide (a6<(a7.length:Int)) then ((aq a7 a6).bind fun b0=>aI (bm (a8.length+([b0.Zo]:List WX).length)) (aI (in64 (a6+1)) ((qN N a7 b5) (a6+1) (a8++([b0.Zo]:List WX))))) else (uF N a8)
def ig (N:Nat)(a0:WP)(a1:WZ)(a6:Int×WZ):(W7)->Option (Option Exit×W7)
 |p15=>aI (bm (p15.length+([(⟨0,a6.1,⟨#[]⟩⟩:WX)]:List WX).length)) (some (none,p15++([(⟨0,a6.1,⟨#[]⟩⟩:WX)]:List WX)))
def mi (a0:WP)(a1:WZ):Option W7:=
 (ca N a0 a1).bind fun y5=>bif !y5.2 then (some []) else ((rJ N y5.1).bind fun b0=>(sU N y5.1 (cM (fun x st=>ig N a0 a1 x st)) (none,[])).bind fun a6=>rc a6.1 ((cg N).bind fun a7=>aI (bm (a6.2.length+([a7]:List WX).length)) ((js N a0 a1).bind fun a8=>qN N a8 N 0 (a6.2++([a7]:List WX)))) none (fun _=>none))
theorem vO {N:Nat}{a1:WZ}{r:W7}(h:mi N a0 a1=some r){B1 B2 B3:Nat}:Okc Xk 15 [pV B1 0,(aF a1)] ([pDWorld B1 B2 B3 a0,sG]) (fun u post=> ∃A0 n0 c0,u=W A0 n0 c0/\post=[jv A0 n0 c0 r]):=by
 refine ce Tryz.func15 ?_;intro B4
 refine G0 h (fun _ k=>dH k) fun y5 A6 n6 c6 A7 n7 c7 h=> ?_
 intro B8;refine sY ?_;refine gH J h ?_ ?_<;>intro h
 ·refine ab ?_;obtain rfl:=bJ h;exact nI J J ((bT gQ 39 _).trans (cS [0] 7)) ⟨_,_,_,J,J⟩
 refine cl fun a6=> ?_
 refine sZ ?_;obtain ⟨g3,k,h⟩:=aa h;refine gD (oR (CO k)) ?_;rintro _ _ ⟨_,⟨e9,rfl,rfl⟩,rfl⟩;refine ab ?_;refine gw ?_ bK (lr 0 J);refine gw ?_ bK (bn 3 J);refine ab ?_;refine gw ?_ bK (bn 4 J);obtain ⟨f0,k,h⟩:=aa h;refine uI (en:=(fun x=> [iV x.1,.agg #[iV x.2.Zh,iV x.2.N,.string x.2.S]])) (fun x st=>ig N a0 a1 x st) (fun (st:W7) (mz:((Option Addr×Nat×Nat)))=> [pDWorld B1 B2 B3 a0,ah B4 28 (bU a1),bf gQ 39 (.slice mz.1 mz.2.1 mz.2.2) st,ah a6 47 [.slice mz.1 mz.2.1 mz.2.2],sG]) [aW e9 94 (iM y5.1 A6 n6 c6 A7 n7 c7),aQ A6 n6 c6 y5.1.Zj,aQ A7 n7 c7 y5.1.Zi,sG] ([]) ((none,0,0)) J J call85.out J (fun _=>J) (fun l G hY=>(ze k hY).mono fun _ _ hh=>hh.2) ((bT gQ 39 _).trans (bI [1,4,5,8] [] [7,6,0,2,8] 9 J)) h ?_ ?_ ?_ ?_
 ·rintro l b6 p15 je sr14 ⟨a7,a8,b0⟩ h;replace h:ig N a0 a1 b6 p15=some (je,sr14):=h;simp only [Bd,YF,YG,YH,Yz,YA,Zf,XE];refine ab ?_;refine gD (aw (R:=gQ) (vss:=[[iV 0,iV b6.1,.string (⟨#[]⟩)]]) (xs:=[(⟨0,b6.1,⟨#[]⟩⟩:WX)]) J (iJ _ _ _) J J (fun _ _ hr=> .cons J All2.nil)) ?_;rintro _ _ ⟨g4,g5,g6,rfl,rfl⟩;obtain ⟨f1,h⟩:=ac h
  refine sI (az 3 0 J J aj J J EM tT J J f1) fun f2 f3 f4=> ?_
  obtain ⟨rfl,rfl⟩:=YZ (YX h);exact DD ((cS [1,2,3,4,5] 6).trans (fX (f2,f3,f4) J))
 ·rintro ⟨a7,a8,b0⟩ h;refine qP ([pDWorld B1 B2 B3 a0,ah B4 28 (bU a1),jv a7 a8 b0 f0.2,ah a6 47 [W a7 a8 b0],sG]) J<|ab ?_;refine dY [] ?_;refine ab ?_;obtain ⟨b5,k,h⟩:=aa h;refine zD 1 J (oR (jz k)) ?_;rintro _ _ ⟨_,⟨rfl,rfl⟩,rfl⟩;refine ⟨_,ae _,ae _,?_⟩
  refine zk 2 J (aw (R:=gQ) (vss:=[[iV b5.Zh,iV b5.N,.string b5.S]]) (xs:=[b5]) J (iJ _ _ _) J J (fun _ _ hr=> .cons J All2.nil)) fun g7 g8 g9=> ?_
  obtain ⟨f6,h⟩:=ac h;refine I8 3 J O O (az 3 0 J J aj J J EM tT J J f6) ?_;rintro _ _ ⟨e2,e3,e4,rfl,rfl⟩;refine gI 4 J O O (ao (us:=[W e2 e3 e4]) (cs':=[W e2 e3 e4]) 4 J J J J size47.out J J J) ?_;rintro _ _ rfl;refine ab ?_;refine ak (fun s L=> ∃b7 b9 d0 d1,uF N b7=some r/\s=[(4,W none 0 0),(7,pV a6 0)]/\L=[jv b9 d0 d1 b7,ah a6 47 [W b9 d0 d1],sG]) ?_ ?_
  ·refine LD h (fun _ k=>o9 k) fun d2 e5 e6 e7 h=> ?_
   refine lK (fun m s L=> ∃(d3:Int) (d4:W7) (d6:Option Addr) (e0 e1:Nat),qN N d2 m d3 d4=some r/\s=[(4,W none 0 0),(7,pV a6 0),(34,W e5 e6 e7),(35,iV (d2.length:Int)),(36,iV d3)]/\L=[bf ip 50 (W e5 e6 e7) d2,jv d6 e0 e1 d4,ah a6 47 [W d6 e0 e1],sG]) N ?_;rintro h0 _ _ ⟨d3,d4,d6,e0,e1,h,rfl,rfl⟩;rw [qN.eq_2] at h;refine ab ?_;refine aB<|gH J h (fun h=> ?_) (fun h=> ?_)
   ·refine sY ?_;obtain ⟨e8,f9,g0,g1,h⟩:=ba h
    refine cl fun h1=> ?_
    refine gD (aw (R:=gQ) (vss:=[(jw e8.Zo)]) (xs:=[e8.Zo]) J (iJ _ _ _) J J (fun _ _ hr=> .cons J All2.nil)) ?_;rintro _ _ ⟨h2,h3,h4,rfl,rfl⟩;obtain ⟨g2,h⟩:=ac h
    refine sI (az 3 0 J J aj J J EM tT J J g2) fun h5 h6 h7=> ?_
    obtain ⟨h8,h⟩:=ac h;exact lY
   exact jY
  rintro _ _ ⟨b7,b9,d0,d1,h,rfl,rfl⟩
  refine LD h (fun _ k=>IF k) fun h9 i0 i1 i2 h=> ?_
  exact eN
 ·rintro ⟨a7,a8,b0⟩ h;exact aL h
 rintro i ⟨a7,a8,b0⟩ h;exact aL h
theorem xB {r:W7}: ∀v post,((fun (u:Value) (post:Xi)=> ∃A0 n0 c0,u=W A0 n0 c0/\post=[jv A0 n0 c0 r])) v post-> ∀c∈post,iS c:=by
 rintro _ _ ⟨_,_,_,rfl,rfl⟩;exact t5 qG (ax)
def pA (N:Nat)(a0:Int):Option WX:=
 some (⟨0,a0,⟨#[]⟩⟩:WX)
theorem pZ {N:Nat}{a0:Int}{r:WX}(h:pA N a0=some r):Okc Xk 23 [iV a0] ([]) (fun u post=>u=(eI r)/\post=[]):=by
 refine ce Tryz.func23 ?_;intro B1;exact eY
theorem nm {r:WX}: ∀v post,((fun (u:Value) (post:Xi)=>u=(eI r)/\post=[])) v post-> ∀c∈post,iS c:=by
 rintro _ _ ⟨rfl,rfl⟩;exact ax
def cE (N:Nat):Option WX:=
 some (⟨1,0,(⟨#[108,101,110,103,116,104]⟩:ByteArray)⟩:WX)
theorem iW {N:Nat}{r:WX}(h:cE N=some r):Okc Xk 19 [] ([]) (fun u post=>u=(eI r)/\post=[]):=by
 refine ce Tryz.func19 ?_;intro B1;exact eY
theorem o6 {r:WX}: ∀v post,((fun (u:Value) (post:Xi)=>u=(eI r)/\post=[])) v post-> ∀c∈post,iS c:=by
 rintro _ _ ⟨rfl,rfl⟩;exact ax
def DV (N:Nat):Option Bool:=
 some true
def uX (N:Nat)(a0 a1:W7):Nat->Int->Option Bool
 |0,_=>none
 |m5+1,p6=>bif decide (p6<(a0.length:Int)) then ((aq a0 p6).bind fun x8=>(aq a1 p6).bind fun x9=>bif !decide (x8=x9) then (some false) else (aI (in64 (p6+1)) ((uX N a0 a1 m5) (p6+1)))) else (DV N)
def rl (a0 a1:W7):Option Bool:=
 bif !decide ((a0.length:Int)=(a1.length:Int)) then (some false) else (uX N a0 a1 N 0)
theorem yw {N:Nat}{a0 a1:W7}{r:Bool}(h:rl N a0 a1=some r):Okc Xk 22 [W A1 n1 c1,W A2 n2 c2] ([sF A1 n1 c1 a0,sF A2 n2 c2 a1]) (fun u post=>u=.bool r/\post=[]):=by
 refine ce Tryz.func22 ?_;refine sZ ?_;refine gH J h ?_ ?_<;>intro h
 ·exact eY
 refine ab ?_;refine ak (fun s L=>DV N=some r/\s=[(4,.bool false)]/\L=[]) ?_ ?_
 ·refine ab ?_;refine lK (fun m s L=> ∃(p6:Int),uX N a0 a1 m p6=some r/\s=[(0,W A1 n1 c1),(1,W A2 n2 c2),(4,.bool false),(5,iV p6)]/\L=[sF A1 n1 c1 a0,sF A2 n2 c2 a1]) N ?_;rintro m5 _ _ ⟨p6,h,rfl,rfl⟩;rw [uX.eq_2] at h;refine sZ ?_;refine gH J h ?_ ?_<;>intro h
  ·refine sY ?_;refine dY [] ?_;refine ab ?_;obtain ⟨x8,a6,a7,a8,h⟩:=ba h;refine ab ?_;obtain ⟨x9,b0,b5,b6,h⟩:=ba h;refine ab ?_;refine zE 8 J (HL (x:=x8) (y:=x9) J J) ?_;refine dk h ?_ ?_<;>intro h
   ·exact eY
   refine ab ?_;obtain ⟨b7,h⟩:=ac h;exact lY
  exact jY
 rintro _ _ ⟨h,rfl,rfl⟩;exact eY
theorem Ak {r:Bool}: ∀v post,((fun (u:Value) (post:Xi)=>u=.bool r/\post=[])) v post-> ∀c∈post,iS c:=by
 rintro _ _ ⟨rfl,rfl⟩;exact ax
def AC (N:Nat)(a0 a1:Int):Option WW:=
 some (⟨51,a1,(⟨3,a0,⟨#[]⟩⟩:WZ),(⟨0,0,⟨#[]⟩⟩:WZ),(⟨0,0,⟨#[]⟩⟩:WZ)⟩:WW)
theorem DK {N:Nat}{a0:Int}{r:WW}(h:AC N a0 a1=some r):Okc Xk 25 [iV a0,iV a1] ([]) (fun u post=>u=(fT r)/\post=[]):=by
 refine ce Tryz.func25 ?_;intro B1;exact eY
theorem Ac {r:WW}: ∀v post,((fun (u:Value) (post:Xi)=>u=(fT r)/\post=[])) v post-> ∀c∈post,iS c:=by
 rintro _ _ ⟨rfl,rfl⟩;exact ax
def aU (N:Nat)(a0:WW)(a1:Int):Option Bool:=
 some (!decide (ai .i64 a0.Has a1=0))
theorem bH {N:Nat}{a0:WW}{r:Bool}(h:aU N a0 a1=some r):Okc Xk 99 [(fT a0),iV a1] ([]) (fun u post=>u=.bool r/\post=[]):=by
 refine ce Tryz.func99 ?_;intro B1;refine ab ?_;refine fS (aP J J) ?_;exact eN
def qJ (N:Nat)(a6:Int):Option Int:=
 some a6
def rW (a0:WW)(p7:Int):Option Int:=
 (aU N a0 32).bind fun a6=>bif a6 then (qJ N (cO .i64 p7 4)) else (qJ N p7)
def rX (a0:WW)(p3:Int):Option Int:=
 (aU N a0 16).bind fun y8=>bif y8 then (rW N a0 (cO .i64 p3 2)) else (rW N a0 p3)
def qK (a0:WW):Option Int:=
 (aU N a0 2).bind fun y4=>bif y4 then (rX N a0 (cO .i64 0 1)) else (rX N a0 0)
theorem Ax {N:Nat}{a0:WW}{r:Int}(h:qK N a0=some r):Okc Xk 100 [(fT a0)] ([]) (fun u post=>u=iV r/\post=[]):=by
 refine ce Tryz.func100 ?_;intro B1;refine ab ?_;refine ak (fun s L=> ∃p3,rX N a0 p3=some r/\s=[(1,pV B1 0),(2,iV 0),(3,iV p3)]/\L=[ah B1 41 (iv a0)]) ?_ ?_
 ·refine cR h (fun _ k=>bH k) fun y4 h=> ?_
  refine gH J h ?_ ?_<;>intro h
  ·refine ab ?_;refine fS (pR J J) ?_;exact jN
  exact jY
 rintro _ _ ⟨p3,h,rfl,rfl⟩;refine ak (fun s L=> ∃p7,rW N a0 p7=some r/\s=[(1,pV B1 0),(2,iV 0),(3,iV p7)]/\L=[ah B1 41 (iv a0)]) ?_ ?_
 ·refine cR h (fun _ k=>bH k) fun y8 h=> ?_
  refine gH J h ?_ ?_<;>intro h
  ·refine ab ?_;refine fS (pR J J) ?_;exact jN
  exact jY
 rintro _ _ ⟨p7,h,rfl,rfl⟩;refine ak (fun s L=> ∃a6,qJ N a6=some r/\s=[(2,iV 0),(3,iV a6)]/\L=[]) ?_ ?_
 ·refine cR h (fun _ k=>bH k) fun a7 h=> ?_
  refine gH J h ?_ ?_<;>intro h
  ·refine ab ?_;refine fS (pR J J) ?_;exact jN
  exact jY
 rintro _ _ ⟨a6,h,rfl,rfl⟩;exact eY
def vj (N:Nat)(a0:WZ):Option Bool:=
 (bif decide (a0.Zh=0) then (some true) else (some (decide (a0.Zh=7)))).bind fun b2=>some b2
theorem CH {N:Nat}{a0:WZ}{r:Bool}(h:vj N a0=some r):Okc Xk 101 [(aF a0)] ([]) (fun u post=>u=.bool r/\post=[]):=by
 refine ce Tryz.func101 ?_;intro B1;refine ab ?_;refine gS 4 10 6 h ?_;intro b2 h;exact eY
def fA (a0:WW):Option Bool:=
 (bif !decide (bi .i64 a0.Has 63=0) then (some true) else ((aU N a0 3).bind fun y3=>(bif y3 then ((aU N a0 12).bind fun y5=>some y5) else (some false)).bind fun b4=>some b4)).bind fun b2=>(bif b2 then (some true) else ((qK N a0).bind fun y7=>some (!decide (bi .i64 a0.Zk y7=0)))).bind fun b6=>bif b6 then (some false) else ((bif decide (a0.Value.Zh<0) then (some true) else (some (decide (7<a0.Value.Zh)))).bind fun b9=>(bif b9 then (some true) else ((vj N a0.Zx).bind fun a6=>some (!a6))).bind fun a7=>(bif a7 then (some true) else ((vj N a0.Zy).bind fun a8=>some (!a8))).bind fun b12=>bif b12 then (some false) else ((aU N a0 1).bind fun b0=>(bif b0 then (some true) else (some (decide (a0.Value=(⟨0,0,⟨#[]⟩⟩:WZ))))).bind fun b5=>(bif b5 then ((aU N a0 4).bind fun b7=>(bif b7 then (some true) else (some (decide (a0.Zx=(⟨0,0,⟨#[]⟩⟩:WZ))))).bind fun d0=>some d0) else (some false)).bind fun d1=>(bif d1 then ((aU N a0 8).bind fun d2=>(bif d2 then (some true) else (some (decide (a0.Zy=(⟨0,0,⟨#[]⟩⟩:WZ))))).bind fun d3=>some d3) else (some false)).bind fun d4=>some d4))
theorem GY {N:Nat}{a0:WW}{r:Bool}(h:fA N a0=some r):Okc Xk 57 [(fT a0)] ([]) (fun u post=>u=.bool r/\post=[]):=by
 refine ce Tryz.func57 ?_;intro B1;refine ab ?_;refine aB<|dY [0,1] ?_;refine zE 2 J (rV J J) ?_;refine zY [3,4] ?_
 refine yJ [5,6,7,8,9,10,11] 8 8 15 h (fun _ g2 h rest=> ?_) (fun _ g2 h rest=> ?_) fun b2 h=> ?_
 ·refine yY [5,6,7,8,9,10,11] ?_;exact yS rest h
 ·refine jK 5 J O (aD (us:=iv a0) 0 J J agg41.out J) (cG g2 J) J ?_;obtain ⟨y3,k,h⟩:=aa h;refine kI 6 J O (oR (bH k)) J (cG g2 J) J ?_;rintro _ _ ⟨_,⟨rfl,rfl⟩,rfl⟩;refine ⟨_,ae _,ae _,?_⟩
  refine il 7 J O (ap J) (cG g2 J) J<|yJ [8,9,10] 9 11 14 h (fun _ g4 h rest=> ?_) (fun _ g4 h rest=> ?_) fun b4 h=> ?_
  ·refine jK 8 J O (aD (us:=iv a0) 0 J J agg41.out J) (bW g4 J) J ?_;obtain ⟨y5,k,h⟩:=aa h;refine kI 9 J O (oR (bH k)) J (bW g4 J) J ?_;rintro _ _ ⟨_,⟨rfl,rfl⟩,rfl⟩;refine ⟨_,ae _,ae _,?_⟩;exact il 10 J O (gv g4 J J) (cG g2 J) J<|yS rest h
  ·refine yY [8,9] ?_;exact il 10 J O (iw g4 J J) (cG g2 J) J<|yS rest h
  refine zE 11 J (iw g2 J J) ?_;exact yS rest h
 refine zY [12] ?_
 refine yJ [13,14,15,16,17,18,19] 0 16 23 h (fun _ g6 h rest=> ?_) (fun _ g6 h rest=> ?_) fun b6 h=> ?_
 ·refine yY [13,14,15,16,17,18,19] ?_;exact yS rest h
 ·refine yY [13,14,15] ?_;obtain ⟨y7,k,h⟩:=aa h;refine kI 16 J O (oR (Ax k)) J (cG g6 J) J ?_;rintro _ _ ⟨_,⟨rfl,rfl⟩,rfl⟩;refine ⟨_,ae _,ae _,?_⟩;refine il 17 J O (rV J J) (cG g6 J) J<|yY [18,19] ?_;exact yS rest h
 refine aY O<|dk h (fun h=> ?_) (fun h=> ?_)
 ·exact eY
 refine sY ?_;refine gS 5 33 28 h ?_;intro b9 h;refine ab ?_
 refine xv 5 39 34 h (fun _ b0 h=> ?_) fun b5 h=> ?_
 ·refine cR h (fun _ k=>CH k) fun b7 h=> ?_
  exact gY
 refine ab ?_
 refine xv 5 45 40 h (fun _ d0 h=> ?_) fun b12 h=> ?_
 ·refine cR h (fun _ k=>CH k) fun d1 h=> ?_
  exact gY
 refine dk h ?_ ?_<;>intro h
 ·exact eY
 refine cl fun d2=> ?_
 refine cR h (fun _ k=>bH k) fun d3 h=> ?_
 refine xv 5 54 49 h (fun _ a6 h=> ?_) fun d4 h=> ?_
 ·refine ab ?_;exact eP (wq (x:=a0.Value) (y:=(⟨0,0,⟨#[]⟩⟩:WZ)) J J) J (cG a6 J) J<|gY
 refine ab ?_
 refine oz 9 64 55 h (fun _ d6 h=> ?_) fun e0 h=> ?_
 ·refine cR h (fun _ k=>bH k) fun e1 h=> ?_
  refine xv 5 63 58 h (fun _ a7 h=> ?_) fun e2 h=> ?_
  ·refine ab ?_;exact eP (wq (x:=a0.Zx) (y:=(⟨0,0,⟨#[]⟩⟩:WZ)) J J) J (cG a7 J) J<|gY
  exact gY
 refine ab ?_
 refine oz 9 74 65 h (fun _ e3 h=> ?_) fun e4 h=> ?_
 ·refine cR h (fun _ k=>bH k) fun e5 h=> ?_
  refine xv 5 73 68 h (fun _ a8 h=> ?_) fun e6 h=> ?_
  ·refine ab ?_;exact eP (wq (x:=a0.Zy) (y:=(⟨0,0,⟨#[]⟩⟩:WZ)) J J) J (cG a8 J) J<|gY
  exact gY
 exact eY
def po (N:Nat)(y5:WX)(a0:W3)(p9:Int):Option WS:=
 some (⟨y5,p9,(⟨3,(a0.Zi.length:Int),⟨#[]⟩⟩:WZ),(⟨0,0,⟨#[]⟩⟩:WZ),(⟨0,0,⟨#[]⟩⟩:WZ)⟩:WS)
def nJ (a0:W3):Option WS:=
 (cg N).bind fun y5=>bif !decide (ai .i64 a0.Zm 32=0) then (po N y5 a0 0) else (po N y5 a0 1)
theorem xA {N:Nat}{a0:W3}{r:WS}(h:nJ N a0=some r):Okc Xk 46 [.agg #[iV a0.Zh,iV a0.Zq,iV a0.Zm,iV a0.Zn,W A1 n1 c1,W A2 n2 c2]] ([aQ A1 n1 c1 a0.Zj,aQ A2 n2 c2 a0.Zi]) (fun u post=>u=(cm r)/\post=[]):=by
 refine ce Tryz.func46 ?_;intro B3
 refine cl fun B4=> ?_
 refine aB ?_;obtain ⟨y5,a6,h⟩:=aa h;refine gw (t:=[(1,pV B3 0),(2,pV B4 0)]) ?_ ml (ae _)
 refine iR O 7 [] [5,6] [4,5,6,7,8,9,3] [[],[],[1],[2],[3],[0,4],[]] [aV (.agg #[iV y5.Zh,iV y5.N,.string y5.S]),
 aV (pV B3 5),
 aV (W A2 n2 c2),
 aV (iV (a0.Zi.length:Int)),
 aV (.agg #[iV 3,iV (a0.Zi.length:Int),.string (⟨#[]⟩)]),
 aV (.agg #[iV y5.Zh,iV y5.N,.string y5.S,iV 1,iV 3,iV (a0.Zi.length:Int),.string (⟨#[]⟩),iV 0,iV 0,.string (⟨#[]⟩),iV 0,iV 0,.string (⟨#[]⟩)]),
 aX1 (fun (B7:Nat)=>pV B7 0) (fun B7=> [ah B7 50 [iV 0,iV 0,.string (⟨#[]⟩),iV 0,iV 0,iV 0,.string (⟨#[]⟩),iV 0,iV 0,.string (⟨#[]⟩),iV 0,iV 0,.string (⟨#[]⟩)]])] [] (ae _) (me) O rfl rfl ?_ ?_ ?_
 ·exact md
 ·refine aG J ?_ ?_
  ·refine tH (bF zero50.out J) J ?_;rintro _ _ ⟨B6,rfl,rfl⟩;exact Oi B6 (ae _)
  refine qE (nH J (bld_50_0_1_2 _ _ _ _ _ _ _).out) ?_;refine qE (nH J (bld_28_0_1 _ _).out) ?_;refine qR (jO 3 J aE J t9) ?_;refine qR (cD 1 J J sj J) ?_;refine qE (kK J xc) ?_;refine aG J ?_ ?_
  ·refine tH (oR (jz a6)) J ?_;rintro _ _ ⟨_,⟨rfl,rfl⟩,rfl⟩;exact iI J (ae _)
  exact dK
 intro B7;refine oq (t:=[(9,.agg #[iV y5.Zh,iV y5.N,.string y5.S,iV 1,iV 3,iV (a0.Zi.length:Int),.string (⟨#[]⟩),iV 0,iV 0,.string (⟨#[]⟩),iV 0,iV 0,.string (⟨#[]⟩)]),(3,pV B7 0),(1,pV B3 0),(2,pV B4 0)]) (L':=[ah B7 50 [iV 0,iV 0,.string (⟨#[]⟩),iV 0,iV 0,iV 0,.string (⟨#[]⟩),iV 0,iV 0,.string (⟨#[]⟩),iV 0,iV 0,.string (⟨#[]⟩)],ah B4 50 [iV 0,iV 0,.string (⟨#[]⟩),iV 0,iV 0,iV 0,.string (⟨#[]⟩),iV 0,iV 0,.string (⟨#[]⟩),iV 0,iV 0,.string (⟨#[]⟩)],ah B3 94 (iM a0 A1 n1 c1 A2 n2 c2),aQ A1 n1 c1 a0.Zj,aQ A2 n2 c2 a0.Zi]) ?_ ml (ae _);refine pU 7 J O (ao (us:=[iV y5.Zh,iV y5.N,.string y5.S,iV 1,iV 3,iV (a0.Zi.length:Int),.string (⟨#[]⟩),iV 0,iV 0,.string (⟨#[]⟩),iV 0,iV 0,.string (⟨#[]⟩)]) (cs':=[iV y5.Zh,iV y5.N,.string y5.S,iV 1,iV 3,iV (a0.Zi.length:Int),.string (⟨#[]⟩),iV 0,iV 0,.string (⟨#[]⟩),iV 0,iV 0,.string (⟨#[]⟩)]) 0 J J J J size50.out J J J) J J ?_;rintro _ _ rfl;refine mj O<|ab ?_;refine ak (fun s L=> ∃p9,po N y5 a0 p9=some r/\s=[(2,pV B4 0),(3,pV B7 0)]/\L=[ah B4 50 [iV 0,iV 0,.string (⟨#[]⟩),iV 0,iV 0,iV 0,.string (⟨#[]⟩),iV 0,iV 0,.string (⟨#[]⟩),iV 0,iV 0,.string (⟨#[]⟩)],ah B7 50 [iV y5.Zh,iV y5.N,.string y5.S,iV p9,iV 3,iV (a0.Zi.length:Int),.string (⟨#[]⟩),iV 0,iV 0,.string (⟨#[]⟩),iV 0,iV 0,.string (⟨#[]⟩)]]) ?_ ?_
 ·refine ab ?_;refine fS (aP J J) ?_;refine gH J h ?_ ?_<;>intro h
  ·exact jY
  exact jY
 rintro _ _ ⟨p9,h,rfl,rfl⟩;exact eY
end
section
variable {A1 A2 A3 A4 A5 A7 A9:Option Addr}{B1 B2 B3 B6 M2 M3 c1 c2 c3 c4 c5 c7 c9 n1 n2 n3 n4 n5 n7 n9:Nat}
open Go.RowKit Asn
set_option maxRecDepth 20000
def pf (N:Nat)(a1:WX)(a7 a6:Int)(a2:WW)(a8 b0:Int)(b5:ByteArray)(b6 b7:Int)(b9:ByteArray)(d0 d1:Int)(d2:ByteArray):Option WS:=
 some (⟨a1,cO .i64 (bi .i64 a7 a6) (ai .i64 a2.Zk a6),(⟨a8,b0,b5⟩:WZ),(⟨b6,b7,b9⟩:WZ),(⟨d0,d1,d2⟩:WZ)⟩:WS)
def pg (a2:WW)(a1:WX)(a6 a7 a8 b0:Int)(b5:ByteArray)(d0 p15:Int)(d1:ByteArray)(b6 b7:Int)(b9:ByteArray):Option WS:=
 (aU N a2 8).bind fun d2=>bif d2 then (pf N a1 a6 a7 a2 a8 b0 b5 b6 b7 b9 a2.Zy.Zh a2.Zy.N a2.Zy.S) else (pf N a1 a6 a7 a2 a8 b0 b5 b6 b7 b9 d0 p15 d1)
def ph (a2:WW)(a1:WX)(a6 a7 b9 d0:Int)(p13:ByteArray)(a8 p15:Int)(b0:ByteArray)(b5 b6:Int)(b7:ByteArray):Option WS:=
 (aU N a2 4).bind fun d1=>bif d1 then (pg N a2 a1 a6 a7 b5 b6 b7 a8 p15 b0 a2.Zx.Zh a2.Zx.N a2.Zx.S) else (pg N a2 a1 a6 a7 b5 b6 b7 a8 p15 b0 b9 d0 p13)
def pi (a2:WW)(a1:WX)(p21 b7:Int)(b9:ByteArray)(a6 a7:Int)(p13:ByteArray)(a8 p15:Int)(b0:ByteArray)(b5:Int):Option WS:=
 (qK N a2).bind fun b6=>(aU N a2 1).bind fun d0=>bif d0 then (ph N a2 a1 b5 b6 a6 a7 p13 a8 p15 b0 a2.Value.Zh a2.Value.N a2.Value.S) else (ph N a2 a1 b5 b6 a6 a7 p13 a8 p15 b0 p21 b7 b9)
def pj (b6:Bool)(a0:WS)(a2:WW)(a1:WX)(a6 a7:Int)(p13:ByteArray)(a8 p15:Int)(b0:ByteArray)(b5 p21 b7:Int)(b9:ByteArray):Option WS:=
 bif b6 then (pi N a2 a1 p21 b7 b9 a6 a7 p13 a8 p15 b0 (cO .i64 (cO .i64 b5 (ai .i64 a0.Zk 6)) 8)) else (pi N a2 a1 p21 b7 b9 a6 a7 p13 a8 p15 b0 (cO .i64 b5 (ai .i64 a0.Zk 6)))
def pm (a0:WS)(b6:Bool)(a2:WW)(a1:WX)(a6 a7:Int)(p13:ByteArray)(a8 p15:Int)(b0:ByteArray):Option WS:=
 (bif !b6 then (some (!(!decide (ai .i64 a0.Zk 8=0)))) else (some false)).bind fun b5=>bif b5 then (pj N b6 a0 a2 a1 a6 a7 p13 a8 p15 b0 (ai .i64 a0.Zk 1) a0.Value.Zh a0.Value.N a0.Value.S) else (pj N b6 a0 a2 a1 a6 a7 p13 a8 p15 b0 0 0 0 (⟨#[]⟩))
def oU (a0:WS)(a1:WX)(a2:WW):Option WS:=
 (aU N a2 12).bind fun y5=>(bif y5 then (some true) else ((bif !decide (ai .i64 a0.Zk 8=0) then ((aU N a2 3).bind fun y8=>some (!y8)) else (some false)).bind fun b7=>some b7)).bind fun b6=>(bif b6 then (some (!decide (ai .i64 a0.Zk 8=0))) else (some false)).bind fun a6=>bif a6 then (pm N a0 b6 a2 a1 a0.Zx.Zh a0.Zx.N a0.Zx.S a0.Zy.Zh a0.Zy.N a0.Zy.S) else (pm N a0 b6 a2 a1 0 0 (⟨#[]⟩) 0 0 (⟨#[]⟩))
theorem yT {N:Nat}{a0:WS}{a1:WX}{a2:WW}{r:WS}(h:oU N a0 a1 a2=some r):Okc Xk 145 [(cm a0),(eI a1),(fT a2)] ([]) (fun u post=>u=(cm r)/\post=[]):=by
 refine ce Tryz.func145 ?_;intro B1
 refine cl fun B2=> ?_
 intro B3
 refine cl fun B4=> ?_
 refine fS (aP J J) ?_
 refine cR h (fun _ k=>bH k) fun y5 h=> ?_
 refine xv 7 24 17 h (fun _ g6 h=> ?_) fun b6 h=> ?_
 ·refine ab ?_
  refine oz 4 23 19 h (fun _ g7 h=> ?_) fun b7 h=> ?_
  ·refine cR h (fun _ k=>bH k) fun y8 h=> ?_
   exact gY
  exact gY
 refine cl fun B9=> ?_
 refine ak (fun s L=> ∃a8 b0 p13 a6 p15 a7,pm N a0 b6 a2 a1 a8 b0 p13 a6 p15 a7=some r/\s=[(3,pV B1 0),(5,pV B3 0),(6,pV B4 0),(7,.bool (!decide (ai .i64 a0.Zk 8=0))),(8,.bool b6),(9,pV B9 0)]/\L=[ah B1 50 (co a0),ah B3 41 (iv a2),ah B4 50 [iV 0,iV 0,.string (⟨#[]⟩),iV 0,iV 0,iV 0,.string (⟨#[]⟩),iV 0,iV 0,.string (⟨#[]⟩),iV 0,iV 0,.string (⟨#[]⟩)],ah B9 50 [iV a1.Zh,iV a1.N,.string a1.S,iV 0,iV 0,iV 0,.string (⟨#[]⟩),iV a8,iV b0,.string p13,iV a6,iV p15,.string a7]]) ?_ ?_
 ·refine ab ?_;refine gS 2 30 28 h ?_;intro e6 h;refine dk h ?_ ?_<;>intro h
  ·refine be O ([ah B4 50 [iV 0,iV 0,.string (⟨#[]⟩),iV 0,iV 0,iV 0,.string (⟨#[]⟩),iV 0,iV 0,.string (⟨#[]⟩),iV 0,iV 0,.string (⟨#[]⟩)],ah B3 41 (iv a2),ah B2 39 (jw a1),ah B1 50 (co a0)]) (cS [1,2,3,4] 5) ?_;refine ab ?_;refine zO 5 J (ao (us:=bU a0.Zx) (cs':=[iV a1.Zh,iV a1.N,.string a1.S,iV 0,iV 0,iV 0,.string (⟨#[]⟩),iV a0.Zx.Zh,iV a0.Zx.N,.string a0.Zx.S,iV 0,iV 0,.string (⟨#[]⟩)]) 0 J J J J size28.out J J J) ?_;rintro _ _ rfl;refine bL ?_;refine ab ?_;refine zO 7 J (ao (us:=bU a0.Zy) (cs':=[iV a1.Zh,iV a1.N,.string a1.S,iV 0,iV 0,iV 0,.string (⟨#[]⟩),iV a0.Zx.Zh,iV a0.Zx.N,.string a0.Zx.S,iV a0.Zy.Zh,iV a0.Zy.N,.string a0.Zy.S]) 0 J J J J size28.out J J J) ?_;rintro _ _ rfl;refine bL ?_;exact jY
  exact jY
 rintro _ _ ⟨a8,b0,p13,a6,p15,a7,h,rfl,rfl⟩;refine ak (fun s L=> ∃e2 p21 d3 d4,pj N b6 a0 a2 a1 a8 b0 p13 a6 p15 a7 e2 p21 d3 d4=some r/\s=[(3,pV B1 0),(5,pV B3 0),(6,pV B4 0),(8,.bool b6),(9,pV B9 0)]/\L=[ah B1 50 (co a0),ah B3 41 (iv a2),ah B4 50 [iV 0,iV 0,.string (⟨#[]⟩),iV 0,iV 0,iV 0,.string (⟨#[]⟩),iV 0,iV 0,.string (⟨#[]⟩),iV 0,iV 0,.string (⟨#[]⟩)],ah B9 50 [iV a1.Zh,iV a1.N,.string a1.S,iV e2,iV p21,iV d3,.string d4,iV a8,iV b0,.string p13,iV a6,iV p15,.string a7]]) ?_ ?_
 ·refine ab ?_;refine gS 3 42 39 h ?_;intro e7 h;refine dk h ?_ ?_<;>intro h
  ·refine ab ?_;refine fS (aP J J) ?_;exact jN
  exact jY
 rintro _ _ ⟨e2,p21,d3,d4,h,rfl,rfl⟩;refine ab ?_;refine gE (aP J J)<|fS (pR J J) ?_;refine ak (fun s L=> ∃b5,pi N a2 a1 p21 d3 d4 a8 b0 p13 a6 p15 a7 b5=some r/\s=[(5,pV B3 0),(6,pV B4 0),(9,pV B9 0)]/\L=[ah B3 41 (iv a2),ah B4 50 [iV 0,iV 0,.string (⟨#[]⟩),iV 0,iV 0,iV 0,.string (⟨#[]⟩),iV 0,iV 0,.string (⟨#[]⟩),iV 0,iV 0,.string (⟨#[]⟩)],ah B9 50 [iV a1.Zh,iV a1.N,.string a1.S,iV b5,iV p21,iV d3,.string d4,iV a8,iV b0,.string p13,iV a6,iV p15,.string a7]]) ?_ ?_
 ·refine dk h ?_ ?_<;>intro h
  ·refine ab ?_;refine fS (pR J J) ?_;exact jN
  exact jY
 rintro _ _ ⟨b5,h,rfl,rfl⟩
 refine cR h (fun _ k=>Ax k) fun b9 h=> ?_
 refine fS (rV J J) ?_;refine gE (aP J J)<|fS (pR J J) ?_;refine ak (fun s L=> ∃d0 d1 d2,ph N a2 a1 b5 b9 a8 b0 p13 a6 p15 a7 d0 d1 d2=some r/\s=[(5,pV B3 0),(6,pV B4 0),(9,pV B9 0)]/\L=[ah B3 41 (iv a2),ah B4 50 [iV 0,iV 0,.string (⟨#[]⟩),iV 0,iV 0,iV 0,.string (⟨#[]⟩),iV 0,iV 0,.string (⟨#[]⟩),iV 0,iV 0,.string (⟨#[]⟩)],ah B9 50 [iV a1.Zh,iV a1.N,.string a1.S,iV (cO .i64 (bi .i64 b5 b9) (ai .i64 a2.Zk b9)),iV d0,iV d1,.string d2,iV a8,iV b0,.string p13,iV a6,iV p15,.string a7]]) ?_ ?_
 ·refine cR h (fun _ k=>bH k) fun e8 h=> ?_
  refine gH J h ?_ ?_<;>intro h
  ·exact jY
  exact jY
 rintro _ _ ⟨d0,d1,d2,h,rfl,rfl⟩;refine ak (fun s L=> ∃d6 e0 e1,pg N a2 a1 b5 b9 d0 d1 d2 a6 p15 a7 d6 e0 e1=some r/\s=[(5,pV B3 0),(6,pV B4 0),(9,pV B9 0)]/\L=[ah B3 41 (iv a2),ah B4 50 [iV 0,iV 0,.string (⟨#[]⟩),iV 0,iV 0,iV 0,.string (⟨#[]⟩),iV 0,iV 0,.string (⟨#[]⟩),iV 0,iV 0,.string (⟨#[]⟩)],ah B9 50 [iV a1.Zh,iV a1.N,.string a1.S,iV (cO .i64 (bi .i64 b5 b9) (ai .i64 a2.Zk b9)),iV d0,iV d1,.string d2,iV d6,iV e0,.string e1,iV a6,iV p15,.string a7]]) ?_ ?_
 ·refine cR h (fun _ k=>bH k) fun e9 h=> ?_
  refine gH J h ?_ ?_<;>intro h
  ·exact jY
  exact jY
 rintro _ _ ⟨d6,e0,e1,h,rfl,rfl⟩;refine ak (fun s L=> ∃e3 e4 e5,pf N a1 b5 b9 a2 d0 d1 d2 d6 e0 e1 e3 e4 e5=some r/\s=[(6,pV B4 0),(9,pV B9 0)]/\L=[ah B4 50 [iV 0,iV 0,.string (⟨#[]⟩),iV 0,iV 0,iV 0,.string (⟨#[]⟩),iV 0,iV 0,.string (⟨#[]⟩),iV 0,iV 0,.string (⟨#[]⟩)],ah B9 50 [iV a1.Zh,iV a1.N,.string a1.S,iV (cO .i64 (bi .i64 b5 b9) (ai .i64 a2.Zk b9)),iV d0,iV d1,.string d2,iV d6,iV e0,.string e1,iV e3,iV e4,.string e5]]) ?_ ?_
 ·refine cR h (fun _ k=>bH k) fun f0 h=> ?_
  refine gH J h ?_ ?_<;>intro h
  ·exact jY
  exact jY
 rintro _ _ ⟨e3,e4,e5,h,rfl,rfl⟩;exact eY
def vl (a0:WW)(a1:WX):Option WS:=
 (oU N (⟨(⟨0,0,⟨#[]⟩⟩:WX),0,(⟨0,0,⟨#[]⟩⟩:WZ),(⟨0,0,⟨#[]⟩⟩:WZ),(⟨0,0,⟨#[]⟩⟩:WZ)⟩:WS) a1 a0).bind fun y4=>some y4
theorem IT {N:Nat}{a0:WW}{a1:WX}{r:WS}(h:vl N a0 a1=some r):Okc Xk 143 [(fT a0),(eI a1)] ([]) (fun u post=>u=(cm r)/\post=[]):=by
 refine ce Tryz.func143 ?_;intro B1
 refine cl fun B2=> ?_
 intro B3
 refine cR h (fun _ k=>yT k) fun y4 h=> ?_
 exact eN
def kw (N:Nat)(a0 a1:WZ):Option Bool:=
 some (decide (a0=a1))
theorem vL {N:Nat}{a0 a1:WZ}{r:Bool}(h:kw N a0 a1=some r):Okc Xk 184 [(aF a0),(aF a1)] ([]) (fun u post=>u=.bool r/\post=[]):=by
 refine ce Tryz.func184 ?_;intro B1
 refine cl fun B2=> ?_
 refine fS (wq (x:=a0) (y:=a1) J J) ?_;exact eN
def ic (a0:WS)(a1:WW):Option Bool:=
 (aU N a1 32).bind fun y3=>(bif y3 then (some (!decide (ai .i64 a1.Zk 4=0))) else (some false)).bind fun b4=>(bif b4 then (some true) else ((aU N a1 16).bind fun y6=>(bif y6 then (some (!decide (ai .i64 (EQ .i64 a1.Zk a0.Zk) 2=0))) else (some false)).bind fun b7=>some b7)).bind fun b5=>bif b5 then (some true) else (bif !decide (ai .i64 a0.Zk 8=0) then ((aU N a1 3).bind fun a6=>(bif a6 then (some true) else ((aU N a1 4).bind fun a7=>(bif a7 then ((kw N a1.Zx a0.Zx).bind fun a8=>some (!a8)) else (some false)).bind fun b0=>some b0)).bind fun b6=>(bif b6 then (some true) else ((aU N a1 8).bind fun b9=>(bif b9 then ((kw N a1.Zy a0.Zy).bind fun d0=>some (!d0)) else (some false)).bind fun d1=>some d1)).bind fun d2=>some d2) else ((aU N a1 12).bind fun d3=>bif d3 then (some true) else ((bif decide (ai .i64 a0.Zk 1=0) then ((aU N a1 2).bind fun d4=>(bif d4 then (some (!decide (ai .i64 a1.Zk 1=0))) else (some false)).bind fun d6=>(bif d6 then (some true) else ((aU N a1 1).bind fun e0=>(bif e0 then ((kw N a1.Value a0.Value).bind fun e1=>some (!e1)) else (some false)).bind fun e2=>some e2)).bind fun e3=>some e3) else (some false)).bind fun e4=>some e4)))
theorem IS {N:Nat}{a0:WS}{a1:WW}{r:Bool}(h:ic N a0 a1=some r):Okc Xk 144 [(cm a0),(fT a1)] ([]) (fun u post=>u=.bool r/\post=[]):=by
 refine ce Tryz.func144 ?_;intro B1
 refine cl fun B2=> ?_
 refine sZ ?_
 refine cR h (fun _ k=>bH k) fun y3 h=> ?_
 refine oz 5 12 7 h (fun _ g4 h=> ?_) fun b4 h=> ?_
 ·refine ab ?_;exact eP (aP J J) J (bW g4 J) J<|gY
 refine ab ?_
 refine xv 12 25 13 h (fun _ g5 h=> ?_) fun b5 h=> ?_
 ·refine cR h (fun _ k=>bH k) fun y6 h=> ?_
  refine oz 8 24 16 h (fun _ g7 h=> ?_) fun b7 h=> ?_
  ·refine ab ?_;exact eP (Ls J J) J (bW g7 J) J<|eP (aP J J) J (bW g7 J) J<|gY
  exact gY
 refine dk h ?_ ?_<;>intro h
 ·exact eY
 refine sY ?_;refine fS (aP J J) ?_;refine gH J h ?_ ?_<;>intro h
 ·refine cR h (fun _ k=>bH k) fun a7 h=> ?_
  refine xv 11 43 32 h (fun _ a8 h=> ?_) fun b0 h=> ?_
  ·refine cR h (fun _ k=>bH k) fun b6 h=> ?_
   refine oz 7 42 35 h (fun _ b9 h=> ?_) fun d0 h=> ?_
   ·refine cR h (fun _ k=>vL k) fun d1 h=> ?_
    exact gY
   exact gY
  refine ab ?_
  refine xv 11 55 44 h (fun _ d2 h=> ?_) fun d3 h=> ?_
  ·refine cR h (fun _ k=>bH k) fun d4 h=> ?_
   refine oz 7 54 47 h (fun _ d6 h=> ?_) fun e0 h=> ?_
   ·refine cR h (fun _ k=>vL k) fun e1 h=> ?_
    exact gY
   exact gY
  exact eY
 refine sY ?_
 refine cR h (fun _ k=>bH k) fun e2 h=> ?_
 refine gH J h ?_ ?_<;>intro h
 ·exact eY
 refine ab ?_;refine fS (aP J J) ?_
 refine oz 21 83 62 h (fun _ e3 h=> ?_) fun e4 h=> ?_
 ·refine cR h (fun _ k=>bH k) fun e5 h=> ?_
  refine oz 5 70 65 h (fun _ a6 h=> ?_) fun e6 h=> ?_
  ·refine ab ?_;exact eP (aP J J) J (bW a6 J) J<|gY
  refine ab ?_
  refine xv 11 82 71 h (fun _ e7 h=> ?_) fun e8 h=> ?_
  ·refine cR h (fun _ k=>bH k) fun e9 h=> ?_
   refine oz 7 81 74 h (fun _ f0 h=> ?_) fun f1 h=> ?_
   ·refine cR h (fun _ k=>vL k) fun f2 h=> ?_
    exact gY
   exact gY
  exact gY
 exact eY
def dw (a0:WS)(a1 a2:Bool)(a3:WX)(a4:WW):Option (WS×Bool):=
 bif !a1 then (bif !a2 then (some ((⟨(⟨0,0,⟨#[]⟩⟩:WX),0,(⟨0,0,⟨#[]⟩⟩:WZ),(⟨0,0,⟨#[]⟩⟩:WZ),(⟨0,0,⟨#[]⟩⟩:WZ)⟩:WS),false)) else ((vl N a4 a3).bind fun y7=>some (y7,true))) else ((bif decide (ai .i64 a0.Zk 4=0) then ((ic N a0 a4).bind fun y9=>some y9) else (some false)).bind fun b8=>bif b8 then (some ((⟨(⟨0,0,⟨#[]⟩⟩:WX),0,(⟨0,0,⟨#[]⟩⟩:WZ),(⟨0,0,⟨#[]⟩⟩:WZ),(⟨0,0,⟨#[]⟩⟩:WZ)⟩:WS),false)) else ((oU N a0 a3 a4).bind fun a6=>some (a6,true)))
theorem vK {N:Nat}{a0:WS}{a1 a2:Bool}{a3:WX}{a4:WW}{r:WS×Bool}(h:dw N a0 a1 a2 a3 a4=some r):Okc Xk 102 [(cm a0),.bool a1,.bool a2,(eI a3),(fT a4)] ([]) (fun u post=>u=.tuple #[(cm r.1),.bool r.2]/\post=[]):=by
 refine ce Tryz.func102 ?_;intro B1
 refine cl fun B2=> ?_
 intro B3
 refine cl fun B4=> ?_
 refine sZ ?_;refine gH J h ?_ ?_<;>intro h
 ·refine sZ ?_;refine gH J h ?_ ?_<;>intro h
  ·exact eY
  refine cR h (fun _ k=>IT k) fun y7 h=> ?_
  exact eN
 refine sY ?_;refine fS (aP J J) ?_
 refine oz 4 28 24 h (fun _ g8 h=> ?_) fun b8 h=> ?_
 ·refine cR h (fun _ k=>IS k) fun y9 h=> ?_
  exact gY
 refine dk h ?_ ?_<;>intro h
 ·exact eY
 refine cR h (fun _ k=>yT k) fun a6 h=> ?_
 exact eN
def sP (N:Nat):Option (Int×Int×Bool):=
 some (0,0,false)
def ki (N:Nat)(a0:WR)(a2:WX):Nat->Int->Int->Int->ByteArray->Int->Int->Option (Int×Int×Bool)
 |0,_,_,_,_,_,_=>none
 |a8+1,b0,p13,b5,p15,b6,a7=>bif decide (0<a7) then (bif decide ((⟨p13,b5,p15⟩:WX)=a2) then (aI (in64 (a7 - 1)) (some (a7 - 1,b6,true))) else ((aq a0.Zw b0).bind fun a6=>(ki N a0 a2 a8) a6.Up a6.Zo.Zh a6.Zo.N a6.Zo.S a6.Zk a6.ZJ)) else (sP N)
def dA (a0:WR)(a1:Int)(a2:WX):Option (Int×Int×Bool):=
 (fm N a0 a1).bind fun y5=>bif !y5 then (some (0,0,false)) else ((aq a0.Zw a1).bind fun x8=>ki N a0 a2 N x8.Up x8.Zo.Zh x8.Zo.N x8.Zo.S x8.Zk x8.ZJ)
theorem kR {N:Nat}{a0:WR}{r:Int×Int×Bool}(h:dA N a0 a1 a2=some r):Okc Xk 133 [pV B1 0,iV a1,(eI a2)] ([aW B1 170 [W A2 n2 c2,.map (some M3)],iy bA (W A2 n2 c2) a0.Zw,qU er wx M3 a0.ZK]) (fun u post=>u=.tuple #[iV r.1,iV r.2.1,.bool r.2.2]/\post=[]):=by
 refine ce Tryz.func133 ?_;intro B4;refine sY ?_
 refine cR h (fun _ k=>pw k) fun y5 h=> ?_
 refine gH J h ?_ ?_<;>intro h
 ·exact eY
 refine ab ?_;refine ak (fun s L=>sP N=some r/\s=[(6,iV 0),(7,iV 0),(8,.bool false)]/\L=[]) ?_ ?_
 ·refine ab ?_;obtain ⟨x8,d1,d2,d3,h⟩:=ba h
  refine cl fun B9=> ?_
  refine lK (fun m s L=> ∃(a7:Int) (p13:Int) (a6:Int) (p15:ByteArray) (a8:Int) (b0:Int) (b5:Nat),ki N a0 a2 m a7 p13 a6 p15 a8 b0=some r/\s=[(0,pV B1 0),(5,pV B4 0),(6,iV 0),(7,iV 0),(8,.bool false),(9,pV b5 0)]/\L=[ah b5 166 [iV a7,iV p13,iV a6,.string p15,iV a8,iV b0],iy bA (W A2 n2 c2) a0.Zw,qU er wx M3 a0.ZK,aW B1 170 [W A2 n2 c2,.map (some M3)],ah B4 39 (jw a2)]) N ?_;rintro d4 _ _ ⟨a7,p13,a6,p15,a8,b0,b5,h,rfl,rfl⟩;rw [ki.eq_2] at h;refine sZ ?_;refine gH J h ?_ ?_<;>intro h
  ·refine sY ?_;refine fS (wp (x:=(⟨p13,a6,p15⟩:WX)) (y:=a2) J J) ?_;refine gH J h ?_ ?_<;>intro h
   ·refine dY [] ?_;refine ab ?_;obtain ⟨d6,h⟩:=ac h;exact eY
   refine sY ?_;intro e0;refine ab ?_;refine be O _ (ae _)<|ab ?_;obtain ⟨b6,b7,b9,d0,h⟩:=ba h;refine ab ?_;refine gI 8 J O O (ao (us:=EG b6) (cs':=EG b6) 0 J J J J size166.out J J J) ?_;rintro _ _ rfl;exact lY
  exact jY
 rintro _ _ ⟨h,rfl,rfl⟩;exact eY
theorem xF {N:Nat}{a0:WR}{r:Int×Int×Bool}(h:dA N a0 a1 a2=some r):Okc Xk 133 [pV B1 0,iV a1,(eI a2)] ([pDTable B1 a0]) (fun u post=>u=.tuple #[iV r.1,iV r.2.1,.bool r.2.2]/\post=[]):=NM 0 rfl (fun _=>kR h)
def ci (a0:WV)(a1:WX):Option (WS×Int×Bool):=
 (cU N a0.w_).bind fun y9=>(dA N a0.w_.Zw a0.Zu.Zq a1).bind fun a6=>bif !a6.2.2 then (some ((⟨(⟨0,0,⟨#[]⟩⟩:WX),0,(⟨0,0,⟨#[]⟩⟩:WZ),(⟨0,0,⟨#[]⟩⟩:WZ),(⟨0,0,⟨#[]⟩⟩:WZ)⟩:WS),0,false)) else ((fH N a0 a6.1 a1 a6.2.1).bind fun a7=>some (a7,a6.1,true))
theorem kT {N:Nat}{a0:WV}{a1:WX}{r:WS×Int×Bool}(h:ci N a0 a1=some r){B4 B5 B6:Nat}:Okc Xk 93 [pV B1 0,(eI a1)] ([aW B1 135 [iV a0.Zu.Zh,iV a0.Zu.Zq,iV a0.Zu.Zm,iV a0.Zu.Zn,W A2 n2 c2,W A3 n3 c3,pV B4 0,iV a0.at_.Zh,iV a0.at_.N,.string a0.at_.S],aQ A2 n2 c2 a0.Zu.Zj,aQ A3 n3 c3 a0.Zu.Zi,pDWorld B4 B5 B6 a0.w_]) (fun u post=>u=.tuple #[(cm r.1),iV r.2.1,.bool r.2.2]/\post=[]):=by
 refine ce Tryz.func93 ?_;intro B7
 refine cl fun B8=> ?_
 refine dY [0,1,2,3,5,6,7,8,9,10] ?_;obtain ⟨y9,k,h⟩:=aa h;refine zD 4 J (oR (eS k)) ?_;rintro _ _ ⟨_,⟨rfl,rfl⟩,rfl⟩;refine ⟨_,ae _,ae _,?_⟩;obtain ⟨a6,k,h⟩:=aa h;refine zD 11 J (oR (xF k)) ?_;rintro _ _ ⟨_,⟨rfl,rfl⟩,rfl⟩;refine ⟨_,ae _,ae _,?_⟩;refine zX [12,13,14,15,16,17,18] ?_;refine sY ?_;refine gH J h ?_ ?_<;>intro h
 ·exact eY
 refine cR h (fun _ k=>sk k) fun a7 h=> ?_
 exact eN
def pC (N:Nat)(a0:Int):Option Bool:=
 (bif decide (0<=a0) then (some (decide (a0<=15))) else (some false)).bind fun b1=>(bif b1 then (some (!decide (ai .i64 a0 9=9))) else (some false)).bind fun b2=>some b2
theorem Ii {N:Nat}{a0:Int}{r:Bool}(h:pC N a0=some r):Okc Xk 176 [iV a0] ([]) (fun u post=>u=.bool r/\post=[]):=by
 refine ce Tryz.func176 ?_;refine gS 3 8 5 h ?_;intro b1 h;refine ab ?_
 refine oz 4 13 9 h (fun _ g2 h=> ?_) fun b2 h=> ?_
 ·refine ab ?_;exact eP (aP J J) J (bW g2 J) J<|gY
 exact eY
def fE (a0:WR)(a1:Int)(a2:WX)(a3:Int):Option Int:=
 (fm N a0 a1).bind fun y5=>bif !y5 then (some 2) else ((bd N a2).bind fun y7=>(bif !y7 then (some true) else ((pC N a3).bind fun y9=>some (!y9))).bind fun b8=>bif b8 then (some 1) else (some 0))
theorem nq {N:Nat}{a0:WR}{r:Int}(h:fE N a0 a1 a2 a3=some r):Okc Xk 134 [pV B1 0,iV a1,(eI a2),iV a3] ([aW B1 170 [W A2 n2 c2,.map (some M3)],iy bA (W A2 n2 c2) a0.Zw,qU er wx M3 a0.ZK]) (fun u post=>u=iV r/\post=[]):=by
 refine ce Tryz.func134 ?_;intro B4;refine sY ?_;refine fS (dO J Tryz.underlying77) ?_
 refine fY J<|cR h (fun _ k=>pw k) fun y5 h=> ?_
 refine gH J h ?_ ?_<;>intro h
 ·exact eY
 refine cR h (fun _ k=>nU k) fun y7 h=> ?_
 refine xv 4 25 21 h (fun _ g8 h=> ?_) fun b8 h=> ?_
 ·refine cR h (fun _ k=>Ii k) fun y9 h=> ?_
  exact gY
 refine dk h ?_ ?_<;>intro h
 ·exact eY
 exact eY
def qY (N:Nat)(p5:Int):Option Int:=
 some p5
def jF (N:Nat)(a2:Int)(a0:WR):Nat->Int->Option Int
 |0,_=>none
 |m6+1,p7=>(aq a0.Zw p7).bind fun x8=>bif decide (a2<x8.ZJ) then ((aq a0.Zw p7).bind fun a6=>(jF N a2 a0 m6) a6.Up) else (qY N p7)
def gM (a0:WR)(a1 a2:Int):Option Int:=
 jF N a2 a0 N a1
theorem qX {N:Nat}{a0:WR}{a2 r:Int}(h:gM N a0 a1 a2=some r):Okc Xk 136 [pV B1 0,iV a1,iV a2] ([aW B1 170 [W A2 n2 c2,.map (some M3)],iy bA (W A2 n2 c2) a0.Zw,qU er wx M3 a0.ZK]) (fun u post=>u=iV r/\post=[]):=by
 refine ce Tryz.func136 ?_;refine ak (fun s L=> ∃p5,qY N p5=some r/\s=[(1,iV p5),(6,iV 0)]/\L=[]) ?_ ?_
 ·refine ab ?_;refine lK (fun m s L=> ∃(p7:Int),jF N a2 a0 m p7=some r/\s=[(0,pV B1 0),(1,iV p7),(2,iV a2),(6,iV 0)]/\L=[iy bA (W A2 n2 c2) a0.Zw,qU er wx M3 a0.ZK,aW B1 170 [W A2 n2 c2,.map (some M3)]]) N ?_;rintro m6 _ _ ⟨p7,h,rfl,rfl⟩;rw [jF.eq_2] at h;refine sZ ?_;obtain ⟨x8,a8,b0,b6,h⟩:=ba h;refine ab ?_;refine JX (qi 0 J aE J (toNat_lt a8 b0) Gb) ?_;refine gH J h ?_ ?_<;>intro h
  ·refine ab ?_;obtain ⟨b7,a6,a7,b5,h⟩:=ba h;refine ab ?_;refine JX (nu 0 J aE J (toNat_lt a6 a7) Gd) ?_;exact lN
  exact jY
 rintro _ _ ⟨p5,h,rfl,rfl⟩;exact eY
def sN (N:Nat)(a6:Int)(p21:List W2)(a7:(List (WN×Int))):Option (Int×Int×WR):=
 some (a6,0,(⟨p21,a7⟩:WR))
def kP (N:Nat)(p7:List W2):Nat->Int->Int->(List W2)->(List (WN×Int))->Option (Int×Int×WR)
 |0,_,_,_,_=>none
 |b7+1,a7,b5,a8,b6=>bif decide (b5<(p7.length:Int)) then ((aq p7 b5).bind fun a6=>(aq a8 a7).bind fun b0=>aI (in64 (b0.ZJ+1)) (aI (bm (a8.length+([(⟨a7,a6.Zo,a6.Zk,b0.ZJ+1⟩:W2)]:List W2).length)) (aI (in64 (((a8++([(⟨a7,a6.Zo,a6.Zk,b0.ZJ+1⟩:W2)]:List W2)).length:Int) - 1)) (aI (in64 (b5+1)) ((kP N p7 b7) (((a8++([(⟨a7,a6.Zo,a6.Zk,b0.ZJ+1⟩:W2)]:List W2)).length:Int) - 1) (b5+1) (a8++([(⟨a7,a6.Zo,a6.Zk,b0.ZJ+1⟩:W2)]:List W2)) (Bq b6 (⟨a7,a6.Zo,a6.Zk⟩:WN) (a8.length:Int))))))) else (sN N a7 a8 b6)
def gi (a0:WR)(p6:Int)(p7:List W2):Option (Int×Int×WR):=
 aI (in64 (1073741824 - (a0.Zw.length:Int))) (bif decide (1073741824 - (a0.Zw.length:Int)<(p7.length:Int)) then (some (0,5,a0)) else (kP N p7 N p6 0 a0.Zw a0.ZK))
def lR (N:Nat)(a0:WR):Nat->Int->(List W2)->Option (Int×Int×WR)
 |0,_,_=>none
 |m8+1,p9,a6=>bif decide (0<(a6.length:Int)) then ((aq a6 0).bind fun a7=>(aq a6 0).bind fun a8=>bif !((lk a0.ZK (⟨p9,a7.Zo,a8.Zk⟩:WN)).isSome) then (gi N a0 p9 a6) else (aI ((0:Int)<=1/\(1:Int).toNat<=a6.length/\a6.length<=a6.length) ((lR N a0 m8) ((lk a0.ZK (⟨p9,a7.Zo,a8.Zk⟩:WN)).getD 0) ((a6.drop ((1:Int).toNat)).take (a6.length - (1:Int).toNat))))) else (gi N a0 p9 a6)
def kh (a0:WR)(a1:Int)(a2:List W2):Option (Int×Int×WR):=
 lR N a0 N a1 a2
theorem pu {N:Nat}{a0:WR}{a2:List W2}{r:Int×Int×WR}(h:kh N a0 a1 a2=some r):Okc Xk 135 [pV B1 0,iV a1,W A4 n4 c4] ([iy bA (W A4 n4 c4) a2,ah B1 170 [W A2 n2 c2,.map (some M3)],bf bA 166 (W A2 n2 c2) a0.Zw,bE er wx M3 a0.ZK]) (fun u post=> ∃A0 n0 c0 M1,u=.tuple #[iV r.1,iV r.2.1]/\post=[ah B1 170 [W A0 n0 c0,.map (some M1)],bf bA 166 (W A0 n0 c0) r.2.2.Zw,bE er wx M1 r.2.2.ZK]):=by
 refine ce Tryz.func135 ?_;refine ak (fun s L=> ∃p6 p7 A7 n7 c7,gi N a0 p6 p7=some r/\s=[(0,pV B1 0),(6,iV 0),(7,iV 0),(8,iV p6),(9,W A7 n7 c7)]/\L=[iy bA (W A7 n7 c7) p7,bf bA 166 (W A2 n2 c2) a0.Zw,bE er wx M3 a0.ZK,ah B1 170 [W A2 n2 c2,.map (some M3)]]) ?_ ?_
 ·refine ab ?_;refine lK (fun m s L=> ∃(p9:Int) (e0:List W2) (e3:Option Addr) (e4 e5:Nat),lR N a0 m p9 e0=some r/\s=[(0,pV B1 0),(6,iV 0),(7,iV 0),(8,iV p9),(9,W e3 e4 e5)]/\L=[iy bA (W e3 e4 e5) e0,bf bA 166 (W A2 n2 c2) a0.Zw,bE er wx M3 a0.ZK,ah B1 170 [W A2 n2 c2,.map (some M3)]]) N ?_;rintro m8 _ _ ⟨p9,e0,e3,e4,e5,h,rfl,rfl⟩;rw [lR.eq_2] at h;refine sZ ?_;refine gH J h ?_ ?_<;>intro h
  ·refine ab ?_;refine dY [] ?_;refine ab ?_;obtain ⟨g3,e6,e7,g4,h⟩:=ba h;refine ab ?_;refine zR 7 J (qi 0 J aE J (toNat_lt e6 e7) Gc) ?_;refine ab ?_;obtain ⟨g5,e8,e9,g6,h⟩:=ba h;refine ab ?_;refine zR 11 J (qi 0 J aE J (toNat_lt e8 e9) CC) ?_;refine ab ?_;refine zR 14 J (BJ (a:=(⟨p9,g3.Zo,g5.Zk⟩:WN)) (z:=0) 2 J FO J J Tryz.underlying168 FX zero3.out) ?_;refine sY ?_;refine gH J h ?_ ?_<;>intro h
   ·refine ab ?_;exact VI J<|jY
   refine ab ?_;refine be O _ (ae _)<|zY [0,1] ?_;obtain ⟨e1,h⟩:=ac h;refine DC 0 J (l:=(1:Int).toNat) (h:=e0.length) e1.2.1 e1.2.2 ?_;rintro h5 h6 h7 g7;refine zR 2 J (wI 1 J g7 J Wy size166.out J (by rw [Xz e1.1];rfl) e1.2.1) ?_;refine zX [3,4] ?_;exact lY
  exact jY
 rintro _ _ ⟨p6,p7,A7,n7,c7,h,rfl,rfl⟩;refine sZ ?_;obtain ⟨h8,h⟩:=ac h;refine dk h ?_ ?_<;>intro h
 ·exact eY
 refine ab ?_;refine ak (fun s L=> ∃f0 p21 f1 f2 f3 f4,sN N f0 p21 f1=some r/\s=[(6,iV 0),(7,iV 0),(8,iV f0)]/\L=[bf bA 166 (W f2 f3 f4) p21,bE er wx M3 f1,ah B1 170 [W f2 f3 f4,.map (some M3)]]) ?_ ?_
 ·refine ab ?_;refine lK (fun m s L=> ∃(a7:Int) (d2:Int) (b7:List W2) (e2:(List (WN×Int))) (a8:Option Addr) (b0 b5:Nat),kP N p7 m a7 d2 b7 e2=some r/\s=[(0,pV B1 0),(6,iV 0),(7,iV 0),(8,iV a7),(51,W A7 n7 c7),(52,iV (p7.length:Int)),(53,iV d2)]/\L=[iy bA (W A7 n7 c7) p7,bf bA 166 (W a8 b0 b5) b7,bE er wx M3 e2,ah B1 170 [W a8 b0 b5,.map (some M3)]]) N ?_;rintro h9 _ _ ⟨a7,d2,b7,e2,a8,b0,b5,h,rfl,rfl⟩;rw [kP.eq_2] at h;refine ab ?_;refine aB<|gH J h (fun h=> ?_) (fun h=> ?_)
  ·refine sY ?_;obtain ⟨a6,g8,g9,h0,h⟩:=ba h
   refine cl fun d3=> ?_
   refine dY [] ?_;refine ab ?_;refine gI 15 J O O (nS (a:=(⟨a7,a6.Zo,a6.Zk⟩:WN)) (b:=(b7.length:Int)) 3 J J J J Tryz.underlying168 FX) ?_;rintro _ _ rfl;refine ab ?_;refine aB ?_;obtain ⟨b6,d4,d6,f6,h⟩:=ba h;obtain ⟨f9,h⟩:=ac h;refine gw (t:=[(0,pV B1 0),(6,iV 0),(7,iV 0),(8,iV a7),(13,pV d3 0),(51,W A7 n7 c7),(52,iV (p7.length:Int)),(53,iV d2)]) ?_ ml (ae _)
   refine iR O 21 [0] [0,4,20] [72,73,74,75,76,77,78,79,80,81,82,83,84,85,86,87,88,89,90,91,92] [[],[],[1],[2],[3],[],[],[6],[],[8],[],[10],[11],[12],[],[13,14],[15],[16],[17],[5,7,9,18],[19]] [aV (pV B1 0),
aV (pV B1 0),
aV (pV B1 0),
aV (pV B1 0),
aV (W a8 b0 b5),
aV (iV a7),
aV (pV d3 1),
aV ((eI a6.Zo)),
aV (pV d3 4),
aV (iV a6.Zk),
aV (pV B1 0),
aV (pV B1 0),
aV (pV B1 0),
aV (W a8 b0 b5),
aV (iV a7),
aV (dG (W a8 b0 b5) a7.toNat 6 0),
aV (dG (W a8 b0 b5) a7.toNat 6 5),
aV (iV b6.ZJ),
aV (iV (b6.ZJ+1)),
aV (.agg #[iV a7,iV a6.Zo.Zh,iV a6.Zo.N,.string a6.Zo.S,iV a6.Zk,iV (b6.ZJ+1)]),
aX3 (fun (b9:Option Addr) (d0 d1:Nat)=> W b9 d0 d1) (fun b9 d0 d1=> [bf bA 166 (W b9 d0 d1) ([(⟨a7,a6.Zo,a6.Zk,b6.ZJ+1⟩:W2)]:List W2)])] [] (ae _) (fu rfl me) O rfl rfl ?_ ?_ ?_
   ·exact ft J (nK (ap J) J (iI J (ae _)))<|md
   ·refine aG J ?_ ?_
    ·refine tH (aw (R:=bA) (vss:=[[iV a7,iV a6.Zo.Zh,iV a6.Zo.N,.string a6.Zo.S,iV a6.Zk,iV (b6.ZJ+1)]]) (xs:=[(⟨a7,a6.Zo,a6.Zk,b6.ZJ+1⟩:W2)]) J (Dy _ _ _ _ _ _) J J (fun _ _ hr=> .cons J All2.nil)) J ?_;rintro _ _ ⟨h1,h2,h3,rfl,rfl⟩;exact Oh h1 h2 h3 (ae _)
    refine qE (nH J (bld_166_0_1_2_3 _ _ _ _ _ _).out) ?_;refine qE (iO J J f9.1 f9.2) ?_;refine aG J (zh (li (u:=iV b6.ZJ) 2 J aj J f6 wc (fun _ _ _ h=>by rw [show _=_ from h];rfl)) J (iI J (ae _)))<|qR (qi 2 J aj J (toNat_lt d4 d6) Gb) ?_;refine qR (bS 2 J aj J J Wy size166.out d4 d6) ?_;refine qE (ap J) ?_;refine qR (cD 4 J J K6 J) ?_;refine qE (rE J CB) ?_;refine qE (dF J) ?_;refine qE (ap J) ?_;refine qR (cD 0 J J wc J) ?_;refine qE (kK J CC) ?_;refine qR (aD (us:=jw a6.Zo) 0 J J agg39.out J) ?_;refine qE (kK J Gc) ?_;refine qE (ap J) ?_;refine qR (cD 4 J J K6 J) ?_;refine qE (rE J CB) ?_;refine qE (dF J) ?_;refine qE (ap J) ?_;refine qE (ap J) ?_;exact dK
   intro b9 d0 d1;refine oq (t:=[(72,pV B1 0),(76,W a8 b0 b5),(92,W b9 d0 d1),(0,pV B1 0),(6,iV 0),(7,iV 0),(8,iV a7),(13,pV d3 0),(51,W A7 n7 c7),(52,iV (p7.length:Int)),(53,iV d2)]) (L':=[bf bA 166 (W b9 d0 d1) ([(⟨a7,a6.Zo,a6.Zk,b6.ZJ+1⟩:W2)]:List W2),ah d3 166 (EG a6),iy bA (W A7 n7 c7) p7,bf bA 166 (W a8 b0 b5) b7,bE er wx M3 (Bq e2 (⟨a7,a6.Zo,a6.Zk⟩:WN) (b7.length:Int)),ah B1 170 [W a8 b0 b5,.map (some M3)]]) ?_ ml (ae _);obtain ⟨h4,h⟩:=ac h;refine uH 21 J O (az 3 0 J J aj J J Wy Ue J J h4) J J J ?_;rintro _ _ ⟨g0,g1,g2,rfl,rfl⟩;refine CS 22 J O (dF J) J J J<|CS 23 J O (rE J CB) J J J<|pU 24 J O (ao (us:=[W g0 g1 g2]) (cs':=[W g0 g1 g2,.map (some M3)]) 5 J J J J size167.out J J J) J J ?_;rintro _ _ rfl;refine Ar ?_;refine mj O<|ab ?_;obtain ⟨i0,h⟩:=ac h;refine ab ?_;obtain ⟨i1,h⟩:=ac h;exact lY
  exact jY
 rintro _ _ ⟨f0,p21,f1,f2,f3,f4,h,rfl,rfl⟩;exact eY
def ee (a0:WR)(a1:Int)(a2:WX):Option (Int×Int×WR):=
 (fE N a0 a1 a2 0).bind fun y5=>bif !decide (y5=0) then (some (0,y5,a0)) else ((dA N a0 a1 a2).bind fun y7=>bif !y7.2.2 then (some (0,3,a0)) else ((gM N a0 a1 y7.1).bind fun y9=>(fk N a0 a1).bind fun a6=>aI (in64 (y7.1+1)) (aI ((0:Int)<=y7.1+1/\(y7.1+1).toNat<=a6.length/\a6.length<=a6.length) ((kh N a0 y9 ((a6.drop ((y7.1+1).toNat)).take (a6.length - (y7.1+1).toNat))).bind fun a7=>some (a7.1,a7.2.1,a7.2.2)))))
theorem wD {N:Nat}{a0:WR}{r:Int×Int×WR}(h:ee N a0 a1 a2=some r):Okc Xk 94 [pV B1 0,iV a1,(eI a2)] ([ah B1 170 [W A2 n2 c2,.map (some M3)],bf bA 166 (W A2 n2 c2) a0.Zw,bE er wx M3 a0.ZK]) (fun u post=> ∃A0 n0 c0 M1,u=.tuple #[iV r.1,iV r.2.1]/\post=[ah B1 170 [W A0 n0 c0,.map (some M1)],bf bA 166 (W A0 n0 c0) r.2.2.Zw,bE er wx M1 r.2.2.ZK]):=by
 refine ce Tryz.func94 ?_;intro B4;refine sY ?_
 refine cR h (fun _ k=>nq k) fun y5 h=> ?_
 refine gH J h ?_ ?_<;>intro h
 ·exact eY
 refine cR h (fun _ k=>kR k) fun y7 h=> ?_
 refine sZ ?_;refine gH J h ?_ ?_<;>intro h
 ·exact eY
 refine cR h (fun _ k=>qX k) fun y9 h=> ?_
 refine LD h (fun _ k=>lQ k) fun a7 b0 b5 b6 h=> ?_
 obtain ⟨b7,h⟩:=ac h;refine ab ?_;refine mP (bn 0 J) ?_;obtain ⟨a6,h⟩:=ac h;refine Nd 0 J (l:=(y7.1+1).toNat) (h:=a7.length) a6.2.1 a6.2.2 ?_;rintro b9 d0 d1 a8;refine gR (wI 1 J a8 J Wy size166.out J (by rw [Xz a6.1];rfl) a6.2.1) ?_;obtain ⟨d2,k,h⟩:=aa h;refine gD (oC (pu k)) ?_;rintro _ _ ⟨_,⟨d3,d4,d6,e0,rfl,rfl⟩,rfl⟩;exact eY
theorem vE {N:Nat}{a0:WR}{r:Int×Int×WR}(h:ee N a0 a1 a2=some r):Okc Xk 94 [pV B1 0,iV a1,(eI a2)] ([oDTable B1 a0]) (fun u post=>u=.tuple #[iV r.1,iV r.2.1]/\post=[oDTable B1 r.2.2]):=Mk 0 rfl (fun _=>wD h)
def sW (N:Nat)(a0:Int):Option Bool:=
 (bif decide (0<a0) then (some (decide (a0.tmod 2=0))) else (some false)).bind fun b1=>some b1
theorem GH {N:Nat}{a0:Int}{r:Bool}(h:sW N a0=some r):Okc Xk 181 [iV a0] ([]) (fun u post=>u=.bool r/\post=[]):=by
 refine ce Tryz.func181 ?_
 refine oz 4 9 5 h (fun _ g1 h=> ?_) fun b1 h=> ?_
 ·refine ab ?_;exact eP (sJ J J (by decide)) J (bW g1 J) J<|gY
 exact eY
def tz (N:Nat)(a0:WZ):Option Bool:=
 (bif decide (a0.Zh=7) then (some true) else (some (decide (a0.Zh=9)))).bind fun b2=>some b2
theorem GZ {N:Nat}{a0:WZ}{r:Bool}(h:tz N a0=some r):Okc Xk 205 [(aF a0)] ([]) (fun u post=>u=.bool r/\post=[]):=by
 refine ce Tryz.func205 ?_;intro B1;refine ab ?_;refine gS 4 10 6 h ?_;intro b2 h;exact eY
def fC (a1:Bool)(x8:Bool×WZ):(Xf)->Option (Option Exit×Xf)
 |p9=>(bif x8.1==a1 then ((tz N x8.2).bind fun a6=>some a6) else (some false)).bind fun a7=>bif a7 then (aI (bm (p9.length+([x8.2.N]:List Int).length)) (some (none,p9++([x8.2.N]:List Int)))) else (some (none,p9))
def lC (a0:W3)(a1:Bool):Option Xf:=
 (uE N a0).bind fun y6=>(oW N a0 (cM (fun x st=>fC N a1 x st)) (none,[])).bind fun a6=>rc a6.1 (some a6.2) none (fun _=>none)
theorem vo {N:Nat}{a0:W3}{a1:Bool}{r:Xf}(h:lC N a0 a1=some r):Okc Xk 188 [.agg #[iV a0.Zh,iV a0.Zq,iV a0.Zm,iV a0.Zn,W A1 n1 c1,W A2 n2 c2],.bool a1] ([aQ A1 n1 c1 a0.Zj,aQ A2 n2 c2 a0.Zi]) (fun u post=> ∃A0 n0 c0,u=W A0 n0 c0/\post=[uL A0 n0 c0 r]):=by
 refine ce Tryz.func188 ?_;intro B3
 refine cl fun B4=> ?_
 intro B5;refine sY ?_;obtain ⟨y6,k,h⟩:=aa h;refine gD (oR (D5 k)) ?_;rintro _ _ ⟨_,⟨B7,rfl,rfl⟩,rfl⟩;refine ab ?_;refine gw ?_ bK (lr 0 J);obtain ⟨a6,k,h⟩:=aa h;refine uI (en:=(fun x=> [.bool x.1,.agg #[iV x.2.Zh,iV x.2.N,.string x.2.S]])) (fun x st=>fC N a1 x st) (fun (st:Xf) (mz:((Option Addr×Nat×Nat)))=> [ah B4 4 [.bool a1],bf (nO .i64) 3 (.slice mz.1 mz.2.1 mz.2.2) st,ah B5 144 [.slice mz.1 mz.2.1 mz.2.2]]) [aW B7 94 (iM a0 A1 n1 c1 A2 n2 c2),aQ A1 n1 c1 a0.Zj,aQ A2 n2 c2 a0.Zi] ([]) ((none,0,0)) J J call199.out J (fun _=>J) (fun l G hY=>(yZ k hY).mono fun _ _ hh=>hh.2) ((bT (nO .i64) 3 _).trans (bI [1,5,6] [] [3,0,2] 7 J)) h ?_ ?_ ?_ ?_
 ·rintro l x8 p9 je sr8 ⟨A9,n9,c9⟩ h;replace h:fC N a1 x8 p9=some (je,sr8):=h;simp only [Bd,YF,YG,YH,Yz,YA,Zf,XE]
  refine cl fun b6=> ?_
  refine fS (Du J J WE) ?_
  refine oz 3 18 15 h (fun _ b7 h=> ?_) fun b9 h=> ?_
  ·refine cR h (fun _ k=>GZ k) fun d0 h=> ?_
   exact gY
  refine dk h ?_ ?_<;>intro h
  ·refine ab ?_;refine gD (aw (R:=(nO .i64)) (vss:=[[iV x8.2.N]]) (xs:=[x8.2.N]) J (rI _) J J (fun _ _ hr=> .cons J All2.nil)) ?_;rintro _ _ ⟨d1,d2,d3,rfl,rfl⟩;obtain ⟨a7,h⟩:=ac h
   refine sI (az 3 0 J J aj J J Wx Sn J J a7) fun a8 b0 b5=> ?_
   obtain ⟨rfl,rfl⟩:=YZ (YX h);exact DD ((cS [2,3,4] 5).trans (fX (a8,b0,b5) J))
  refine ab ?_;obtain ⟨rfl,rfl⟩:=YZ (YX h);exact DD ((cS [1,2,3] 4).trans (fX (A9,n9,c9) J))
 ·rintro ⟨A9,n9,c9⟩ h;exact qP ([ah B4 4 [.bool a1],uL A9 n9 c9 a6.2,ah B5 144 [W A9 n9 c9]]) J<|eY
 ·rintro ⟨A9,n9,c9⟩ h;exact aL h
 rintro i ⟨A9,n9,c9⟩ h;exact aL h
def nY (a0:W3):Option Xf:=
 (lC N a0 true).bind fun y4=>some y4
theorem vN {N:Nat}{a0:W3}{r:Xf}(h:nY N a0=some r):Okc Xk 156 [.agg #[iV a0.Zh,iV a0.Zq,iV a0.Zm,iV a0.Zn,W A1 n1 c1,W A2 n2 c2]] ([aQ A1 n1 c1 a0.Zj,aQ A2 n2 c2 a0.Zi]) (fun u post=> ∃A0 n0 c0,u=W A0 n0 c0/\post=[uL A0 n0 c0 r]):=by
 refine ce Tryz.func156 ?_;intro B3
 refine LD h (fun _ k=>vo k) fun y4 A5 n5 c5 h=> ?_
 exact eN
def sM (N:Nat)(ff:Int->Option Bool):Option Int:=
 some (-1)
def dQ (N:Nat)(ff:Int->Option Bool)(a0:Xf):Nat->Int->Option Int
 |0,_=>none
 |m3+1,p4=>bif decide (p4<(a0.length:Int)) then ((aq a0 p4).bind fun x6=>(ff x6).bind fun y7=>bif y7 then (some p4) else (aI (in64 (p4+1)) ((dQ N ff a0 m3) (p4+1)))) else (sM N ff)
def lJ (a0:Xf)(ff:Int->Option Bool):Option Int:=
 dQ N ff a0 N 0
theorem zP {N:Nat}{a0:Xf}{r:Int}(h:lJ N a0 ff=some r)(hf:Qx Xk vf G (fun x=> [iV x]) (fun r=> .bool r) ff):Okc Xk 189 [W A1 n1 c1,vf] (xQ A1 n1 c1 a0::G) (fun u post=>u=iV r/\post=[]):=by
 refine ce Tryz.func189 ?_;refine ak (fun s L=>sM N ff=some r/\s=[(4,iV 0)]/\L=G) ?_ ?_
 ·refine ab ?_;refine lK (fun m s L=> ∃(p4:Int),dQ N ff a0 m p4=some r/\s=[(0,W A1 n1 c1),(1,vf),(4,iV 0),(7,iV (a0.length:Int)),(8,iV p4)]/\L=xQ A1 n1 c1 a0::G) N ?_;rintro m3 _ _ ⟨p4,h,rfl,rfl⟩;rw [dQ.eq_2] at h;refine ab ?_;refine aB<|gH J h (fun h=> ?_) (fun h=> ?_)
  ·refine sY ?_;obtain ⟨x6,a6,a7,a8,h⟩:=ba h;refine ab ?_;obtain ⟨y7,k,h⟩:=aa h;refine gD (JG (a:=x6) [xQ A1 n1 c1 a0] hf k J J) ?_;rintro _ _ ⟨rfl,rfl⟩;refine dk h ?_ ?_<;>intro h
   ·exact eY
   refine ab ?_;obtain ⟨q9,h⟩:=ac h;exact lY
  exact jY
 rintro _ _ ⟨h,rfl,rfl⟩;exact eY
theorem xC {r:Int}: ∀v post,((fun (u:Value) (post:Xi)=>u=iV r/\post=[])) v post-> ∀c∈post,iS c:=by
 rintro _ _ ⟨rfl,rfl⟩;exact ax
def cI (a0:Xf)(ff:Int->Option Bool):Option Bool:=
 (lJ N a0 ff).bind fun y2=>some (decide (0<=y2))
theorem lL {N:Nat}{a0:Xf}{r:Bool}(h:cI N a0 ff=some r)(hf:Qx Xk vf G (fun x=> [iV x]) (fun r=> .bool r) ff):Okc Xk 158 [W A1 n1 c1,vf] (xQ A1 n1 c1 a0::G) (fun u post=>u=.bool r/\post=[]):=by
 refine ce Tryz.func158 ?_;obtain ⟨y2,k,h⟩:=aa h;refine Ej (aX (zP k hf) J (t5 (cQ (i:=0) J J) (Hy (E:=[xQ A1 n1 c1 a0]) hf.1)) xC) ?_;exact eN
def ns (N:Nat)(a0:Int):Option Bool:=
 (bif decide (0<a0) then (some (decide (a0.tmod 2=1))) else (some false)).bind fun b1=>some b1
theorem xr {N:Nat}{a0:Int}{r:Bool}(h:ns N a0=some r):Okc Xk 204 [iV a0] ([]) (fun u post=>u=.bool r/\post=[]):=by
 refine ce Tryz.func204 ?_
 refine oz 4 9 5 h (fun _ g1 h=> ?_) fun b1 h=> ?_
 ·refine ab ?_;exact eP (sJ J J (by decide)) J (bW g1 J) J<|gY
 exact eY
def oX (a0:W3):Option Xf:=
 (lC N a0 false).bind fun y4=>some y4
theorem za {N:Nat}{a0:W3}{r:Xf}(h:oX N a0=some r):Okc Xk 157 [.agg #[iV a0.Zh,iV a0.Zq,iV a0.Zm,iV a0.Zn,W A1 n1 c1,W A2 n2 c2]] ([aQ A1 n1 c1 a0.Zj,aQ A2 n2 c2 a0.Zi]) (fun u post=> ∃A0 n0 c0,u=W A0 n0 c0/\post=[uL A0 n0 c0 r]):=by
 refine ce Tryz.func157 ?_;intro B3
 refine LD h (fun _ k=>vo k) fun y4 A5 n5 c5 h=> ?_
 exact eN
def qg (a0:W3):Option Bool:=
 (nY N a0).bind fun y4=>(cI N y4 (fun x=>ns N x)).bind fun y6=>(bif y6 then (some true) else ((oX N a0).bind fun y8=>(cI N y8 (fun x=>ns N x)).bind fun a6=>some a6)).bind fun b7=>some b7
theorem Eg {N:Nat}{a0:W3}{r:Bool}(h:qg N a0=some r):Okc Xk 182 [.agg #[iV a0.Zh,iV a0.Zq,iV a0.Zm,iV a0.Zn,W A1 n1 c1,W A2 n2 c2]] ([aQ A1 n1 c1 a0.Zj,aQ A2 n2 c2 a0.Zi]) (fun u post=>u=.bool r/\post=[]):=by
 refine ce Tryz.func182 ?_;intro B3;refine ab ?_;obtain ⟨y4,k,h⟩:=aa h;refine gD (oR (vN k)) ?_;rintro _ _ ⟨_,⟨A5,n5,c5,rfl,rfl⟩,rfl⟩;obtain ⟨y6,k,h⟩:=aa h;refine Ej (oR (lL k ⟨ax,204, #[], #[],J,call204.out,fun _ _ hh=>xr hh⟩)) ?_
 refine xv 4 10 6 h (fun _ g7 h=> ?_) fun b7 h=> ?_
 ·refine ab ?_;obtain ⟨y8,k,h⟩:=aa h;refine CU (oR (za k)) J (cG g7 J) J ?_;rintro _ _ ⟨_,⟨A9,n9,c9,rfl,rfl⟩,rfl⟩;obtain ⟨a6,k,h⟩:=aa h;refine gU (oR (lL k ⟨ax,204, #[], #[],J,call204.out,fun _ _ hh=>xr hh⟩)) (cG g7 J) ?_;exact gY
 exact eY
def kS (N:Nat)(a1:Int)(a0:W0):Option (Bool×W0):=
 some (true,(⟨Bq a0.at_ a1 true⟩:W0))
def cP (a0:W0)(a1:Int)(a2:W3):Option (Bool×W0):=
 (sW N a1).bind fun y6=>bif !y6 then (some (false,a0)) else ((qg N a2).bind fun y8=>bif !y8 then (some (false,(⟨Dx a0.at_ a1⟩:W0))) else (kS N a1 a0))
theorem jr {N:Nat}{a0:W0}{a2:W3}{r:Bool×W0}(h:cP N a0 a1 a2=some r):Okc Xk 141 [pV B1 0,iV a1,.agg #[iV a2.Zh,iV a2.Zq,iV a2.Zm,iV a2.Zn,W A3 n3 c3,W A4 n4 c4]] ([aQ A3 n3 c3 a2.Zj,aQ A4 n4 c4 a2.Zi,ah B1 213 [.map (some M2)],bE jJ rb M2 a0.at_]) (fun u post=> ∃M0,u=.bool r.1/\post=[ah B1 213 [.map (some M0)],bE jJ rb M0 r.2.at_]):=by
 refine ce Tryz.func141 ?_;intro B5;refine sY ?_;refine fS (dO J WA) ?_
 refine cR h (fun _ k=>GH k) fun y6 h=> ?_
 refine gH J h ?_ ?_<;>intro h
 ·exact eY
 refine sY ?_
 refine cR h (fun _ k=>Eg k) fun y8 h=> ?_
 refine gH J h ?_ ?_<;>intro h
 ·refine ab ?_;refine GB (NL (a:=a1) 4 J J J WF (lq WB)) ?_;exact eN
 refine ab ?_;refine ak (fun s L=>kS N a1 a0=some r/\s=[(0,pV B1 0),(1,iV a1),(6,.bool false)]/\L=[bE jJ rb M2 a0.at_,ah B1 213 [.map (some M2)]]) ?_ ?_
 ·refine ab ?_;refine fS (Oc J WF) ?_;exact fY J<|jY
 rintro _ _ ⟨h,rfl,rfl⟩;refine ab ?_;refine GB (nS (a:=a1) (b:=true) 0 J J J J WF (lq WB)) ?_;exact eN
theorem qZ {r:Bool×W0}{B1:Nat}: ∀v post,((fun (u:Value) (post:Xi)=> ∃M0,u=.bool r.1/\post=[ah B1 213 [.map (some M0)],bE jJ rb M0 r.2.at_])) v post-> ∀c∈post,iS c:=by
 rintro _ _ ⟨_,rfl,rfl⟩;exact t5 Cw (t5 Dq (ax))
end
section
variable {A1 A2 A3 A4 A5 A6 A7 A8 A9:Option Addr}{B1 B2 B3 B6 M3 M7 c1 c2 c3 c4 c5 c6 c7 c8 c9 n1 n2 n3 n4 n5 n6 n7 n8 n9:Nat}
open Go.RowKit Asn
set_option maxRecDepth 20000
def na (N:Nat)(a0:W4)(y17_0:Int)(a6 a7:W3)(a8:(List (Int×Bool))):Option (Int×W4):=
 some (0,(⟨(⟨List.set (List.set a0.m_.Zp y17_0.toNat (⟨a6.Zh,a6.Zq,a6.Zm,a6.Zn,a6.Zj,a6.Zi⟩:W3)) y17_0.toNat (⟨(⟨a6.Zh,a6.Zq,a6.Zm,a6.Zn,a6.Zj,a6.Zi⟩:W3).Zh,(⟨a6.Zh,a6.Zq,a6.Zm,a6.Zn,a6.Zj,a6.Zi⟩:W3).Zq,(⟨a6.Zh,a6.Zq,a6.Zm,a6.Zn,a6.Zj,a6.Zi⟩:W3).Zm,a7.Zn,(⟨a6.Zh,a6.Zq,a6.Zm,a6.Zn,a6.Zj,a6.Zi⟩:W3).Zj,(⟨a6.Zh,a6.Zq,a6.Zm,a6.Zn,a6.Zj,a6.Zi⟩:W3).Zi⟩:W3),a0.m_.Zr⟩:WY),a0.ZA,a0.ZC,(⟨a8⟩:W0)⟩:W4))
def mZ (N:Nat)(a0:W4)(y17_1:Int)(a6 a7:W3)(a8:(List (Int×Bool))):Option (Int×W4):=
 some (0,(⟨(⟨a0.m_.Zp,List.set (List.set a0.m_.Zr y17_1.toNat (⟨a6.Zh,a6.Zq,a6.Zm,a6.Zn,a6.Zj,a6.Zi⟩:W3)) y17_1.toNat (⟨(⟨a6.Zh,a6.Zq,a6.Zm,a6.Zn,a6.Zj,a6.Zi⟩:W3).Zh,(⟨a6.Zh,a6.Zq,a6.Zm,a6.Zn,a6.Zj,a6.Zi⟩:W3).Zq,(⟨a6.Zh,a6.Zq,a6.Zm,a6.Zn,a6.Zj,a6.Zi⟩:W3).Zm,a7.Zn,(⟨a6.Zh,a6.Zq,a6.Zm,a6.Zn,a6.Zj,a6.Zi⟩:W3).Zj,(⟨a6.Zh,a6.Zq,a6.Zm,a6.Zn,a6.Zj,a6.Zi⟩:W3).Zi⟩:W3)⟩:WY),a0.ZA,a0.ZC,(⟨a8⟩:W0)⟩:W4))
def mw (a0:W4)(a1:Int)(a2:W3):Option (Int×W4):=
 (aR N a0).bind fun b5=>bif b5 then (some (1,a0)) else ((jZ N a0 a1).bind fun b6=>bif !b6 then (some (50,a0)) else ((gG N a2).bind fun b7=>bif !b7 then (some (51,a0)) else ((ik N a0 a1).bind fun b9=>Er b9 (fun y17_0=>(aq a0.m_.Zp y17_0).bind fun a6=>(fO N a2).bind fun a7=>bif decide (a1.tmod 2=0) then ((cP N a0.ZD a1 a2).bind fun d0=>na N a0 y17_0 a7 a6 d0.2.at_) else (na N a0 y17_0 a7 a6 a0.ZD.at_)) (fun y17_1=>(aq a0.m_.Zr y17_1).bind fun a8=>(fO N a2).bind fun b0=>bif decide (a1.tmod 2=0) then ((cP N a0.ZD a1 a2).bind fun d1=>mZ N a0 y17_1 b0 a8 d1.2.at_) else (mZ N a0 y17_1 b0 a8 a0.ZD.at_)))))
theorem Dn {N:Nat}{a0:W4}{a2:W3}{r:Int×W4}(h:mw N a0 a1 a2=some r):Okc Xk 97 [pV B1 0,iV a1,.agg #[iV a2.Zh,iV a2.Zq,iV a2.Zm,iV a2.Zn,W A8 n8 c8,W A9 n9 c9]] ([aQ A8 n8 c8 a2.Zj,aQ A9 n9 c9 a2.Zi,ah B1 124 [W A2 n2 c2,W A3 n3 c3,W A4 n4 c4,W A5 n5 c5,pV B6 0],iF A2 n2 c2 a0.m_.Zp,iF A3 n3 c3 a0.m_.Zr,bj A4 n4 c4 a0.ZA,bj A5 n5 c5 a0.ZC,ah B6 213 [.map (some M7)],bE jJ rb M7 a0.ZD.at_]) (fun u post=> ∃A0 n0 c0 A1 n1 c1 A2 n2 c2 A3 n3 c3 M4,u=iV r.1/\post=[ah B1 124 [W A0 n0 c0,W A1 n1 c1,W A2 n2 c2,W A3 n3 c3,pV B6 0],iF A0 n0 c0 r.2.m_.Zp,iF A1 n1 c1 r.2.m_.Zr,bj A2 n2 c2 r.2.ZA,bj A3 n3 c3 r.2.ZC,ah B6 213 [.map (some M4)],bE jJ rb M4 r.2.ZD.at_]):=by
 refine ce Tryz.func97 ?_;intro e3;refine sY ?_
 refine cR h (fun _ k=>dj k) fun g0 h=> ?_
 refine gH J h ?_ ?_<;>intro h
 ·exact eY
 refine cR h (fun _ k=>rz k) fun g1 h=> ?_
 refine gH J h ?_ ?_<;>intro h
 ·exact eY
 refine cR h (fun _ k=>mJ k) fun g2 h=> ?_
 refine gH J h ?_ ?_<;>intro h
 ·exact eY
 refine ab ?_;obtain ⟨f9,d2,h⟩:=aa h;rcases f9 with y17_0|y17_1
 ·replace h:=G9 h;refine gD (oR (gr d2)) ?_;rintro _ _ ⟨_,⟨rfl,rfl⟩,rfl⟩;obtain ⟨d0,a8,b0,b7,h⟩:=ba h;refine ab ?_;refine gR (mU 4 J aj J (toNat_lt a8 b0))<|gR (qi 4 J aj J (toNat_lt a8 b0) tu)<|JX (li (u:=iV d0.Zn) 4 J aj J b7 wc (fun _ _ _ h=>by obtain ⟨_,_,_,_,_,_,e,_⟩:=h;rw [e];rfl)) ?_;obtain ⟨a6,k,h⟩:=aa h;refine gD (oR (iP k)) ?_;rintro _ _ ⟨_,⟨e4,e5,e6,e7,e8,e9,rfl,rfl⟩,rfl⟩;refine gR (mU 6 J aj J (toNat_lt a8 b0))<|mP (bn 0 J)<|mP (bn 1 J)<|GB (bZ (us:=(iM a6 e4 e5 e6 e7 e8 e9)) (z:=(⟨a6.Zh,a6.Zq,a6.Zm,a6.Zn,a6.Zj,a6.Zi⟩:W3)) 6 J J J J size94.out J (toNat_lt a8 b0) J (fun S w vs xk hk hr ho=>by obtain rfl:=YX (hk.symm.trans b7);obtain ⟨_,_,_,_,_,_,rfl,s4,s5⟩:=hr;exact ⟨_,_,_,_,_,_,rfl,ho 0 _ rfl rfl,ho 1 _ rfl rfl⟩)) ?_;have d3:=EH (z:=(⟨a6.Zh,a6.Zq,a6.Zm,a6.Zn,a6.Zj,a6.Zi⟩:W3)) b7
  refine gR (mU 6 J aj J (sE (toNat_lt a8 b0)))<|gR (qi 6 J aj J (sE (toNat_lt a8 b0)) tu)<|GB (bZ (us:=[iV d0.Zn]) (z:=(⟨(⟨a6.Zh,a6.Zq,a6.Zm,a6.Zn,a6.Zj,a6.Zi⟩:W3).Zh,(⟨a6.Zh,a6.Zq,a6.Zm,a6.Zn,a6.Zj,a6.Zi⟩:W3).Zq,(⟨a6.Zh,a6.Zq,a6.Zm,a6.Zn,a6.Zj,a6.Zi⟩:W3).Zm,d0.Zn,(⟨a6.Zh,a6.Zq,a6.Zm,a6.Zn,a6.Zj,a6.Zi⟩:W3).Zj,(⟨a6.Zh,a6.Zq,a6.Zm,a6.Zn,a6.Zj,a6.Zi⟩:W3).Zi⟩:W3)) 6 J J J J size3.out J (sE (toNat_lt a8 b0)) J (fun S w vs xk hk hr ho=>by obtain rfl:=YX (hk.symm.trans d3);obtain ⟨_,_,_,_,_,_,rfl,s4,s5⟩:=hr;exact ⟨_,_,_,_,_,_,rfl,s4,s5⟩)) ?_
  refine ak (fun s L=> ∃d4 d6,na N a0 y17_0 a6 d0 d4=some r/\s=[(6,iV 0)]/\L=[iF A2 n2 c2 (List.set (List.set a0.m_.Zp y17_0.toNat (⟨a6.Zh,a6.Zq,a6.Zm,a6.Zn,a6.Zj,a6.Zi⟩:W3)) y17_0.toNat (⟨(⟨a6.Zh,a6.Zq,a6.Zm,a6.Zn,a6.Zj,a6.Zi⟩:W3).Zh,(⟨a6.Zh,a6.Zq,a6.Zm,a6.Zn,a6.Zj,a6.Zi⟩:W3).Zq,(⟨a6.Zh,a6.Zq,a6.Zm,a6.Zn,a6.Zj,a6.Zi⟩:W3).Zm,d0.Zn,(⟨a6.Zh,a6.Zq,a6.Zm,a6.Zn,a6.Zj,a6.Zi⟩:W3).Zj,(⟨a6.Zh,a6.Zq,a6.Zm,a6.Zn,a6.Zj,a6.Zi⟩:W3).Zi⟩:W3)),iF A3 n3 c3 a0.m_.Zr,bj A4 n4 c4 a0.ZA,bj A5 n5 c5 a0.ZC,ah B1 124 [W A2 n2 c2,W A3 n3 c3,W A4 n4 c4,W A5 n5 c5,pV B6 0],bE jJ rb d6 d4,ah B6 213 [.map (some d6)]]) ?_ ?_
  ·refine ab ?_;refine fS (sJ J J (by decide)) ?_;refine gH J h ?_ ?_<;>intro h
   ·refine be O ([aQ e4 e5 e6 a6.Zj,aQ e7 e8 e9 a6.Zi,ah e3 94 (iM a2 A8 n8 c8 A9 n9 c9),aQ A8 n8 c8 a2.Zj,aQ A9 n9 c9 a2.Zi,ah B1 124 [W A2 n2 c2,W A3 n3 c3,W A4 n4 c4,W A5 n5 c5,pV B6 0],iF A2 n2 c2 (List.set (List.set a0.m_.Zp y17_0.toNat (⟨a6.Zh,a6.Zq,a6.Zm,a6.Zn,a6.Zj,a6.Zi⟩:W3)) y17_0.toNat (⟨(⟨a6.Zh,a6.Zq,a6.Zm,a6.Zn,a6.Zj,a6.Zi⟩:W3).Zh,(⟨a6.Zh,a6.Zq,a6.Zm,a6.Zn,a6.Zj,a6.Zi⟩:W3).Zq,(⟨a6.Zh,a6.Zq,a6.Zm,a6.Zn,a6.Zj,a6.Zi⟩:W3).Zm,d0.Zn,(⟨a6.Zh,a6.Zq,a6.Zm,a6.Zn,a6.Zj,a6.Zi⟩:W3).Zj,(⟨a6.Zh,a6.Zq,a6.Zm,a6.Zn,a6.Zj,a6.Zi⟩:W3).Zi⟩:W3)),iF A3 n3 c3 a0.m_.Zr,bj A4 n4 c4 a0.ZA,bj A5 n5 c5 a0.ZC]) (cS [0,1,2,3,4,5,6,7,8,9] 12) ?_;refine ab ?_;obtain ⟨g3,k,h⟩:=aa h
    refine Ng 6 J (oC (jr k)) fun g4=> ?_
    exact jY
   exact jY
  rintro _ _ ⟨d4,d6,h,rfl,rfl⟩;exact eY
 replace h:=G8 h;refine gD (oR (gr d2)) ?_;rintro _ _ ⟨_,⟨rfl,rfl⟩,rfl⟩;obtain ⟨d1,b5,b6,b9,h⟩:=ba h;refine ab ?_;refine gR (mU 5 J aj J (toNat_lt b5 b6))<|gR (qi 5 J aj J (toNat_lt b5 b6) tu)<|JX (li (u:=iV d1.Zn) 5 J aj J b9 wc (fun _ _ _ h=>by obtain ⟨_,_,_,_,_,_,e,_⟩:=h;rw [e];rfl)) ?_;obtain ⟨a7,k,h⟩:=aa h;refine gD (oR (iP k)) ?_;rintro _ _ ⟨_,⟨f0,f1,f2,f3,f4,f6,rfl,rfl⟩,rfl⟩;refine gR (mU 7 J aj J (toNat_lt b5 b6))<|mP (bn 0 J)<|mP (bn 1 J)<|ab ?_;refine GB (bZ (us:=(iM a7 f0 f1 f2 f3 f4 f6)) (z:=(⟨a7.Zh,a7.Zq,a7.Zm,a7.Zn,a7.Zj,a7.Zi⟩:W3)) 7 J J J J size94.out J (toNat_lt b5 b6) J (fun S w vs xk hk hr ho=>by obtain rfl:=YX (hk.symm.trans b9);obtain ⟨_,_,_,_,_,_,rfl,s4,s5⟩:=hr;exact ⟨_,_,_,_,_,_,rfl,ho 0 _ rfl rfl,ho 1 _ rfl rfl⟩)) ?_;have e0:=EH (z:=(⟨a7.Zh,a7.Zq,a7.Zm,a7.Zn,a7.Zj,a7.Zi⟩:W3)) b9
 refine gR (mU 7 J aj J (sE (toNat_lt b5 b6)))<|gR (qi 7 J aj J (sE (toNat_lt b5 b6)) tu)<|GB (bZ (us:=[iV d1.Zn]) (z:=(⟨(⟨a7.Zh,a7.Zq,a7.Zm,a7.Zn,a7.Zj,a7.Zi⟩:W3).Zh,(⟨a7.Zh,a7.Zq,a7.Zm,a7.Zn,a7.Zj,a7.Zi⟩:W3).Zq,(⟨a7.Zh,a7.Zq,a7.Zm,a7.Zn,a7.Zj,a7.Zi⟩:W3).Zm,d1.Zn,(⟨a7.Zh,a7.Zq,a7.Zm,a7.Zn,a7.Zj,a7.Zi⟩:W3).Zj,(⟨a7.Zh,a7.Zq,a7.Zm,a7.Zn,a7.Zj,a7.Zi⟩:W3).Zi⟩:W3)) 7 J J J J size3.out J (sE (toNat_lt b5 b6)) J (fun S w vs xk hk hr ho=>by obtain rfl:=YX (hk.symm.trans e0);obtain ⟨_,_,_,_,_,_,rfl,s4,s5⟩:=hr;exact ⟨_,_,_,_,_,_,rfl,s4,s5⟩)) ?_
 refine ak (fun s L=> ∃e1 e2,mZ N a0 y17_1 a7 d1 e1=some r/\s=[(6,iV 0)]/\L=[iF A2 n2 c2 a0.m_.Zp,iF A3 n3 c3 (List.set (List.set a0.m_.Zr y17_1.toNat (⟨a7.Zh,a7.Zq,a7.Zm,a7.Zn,a7.Zj,a7.Zi⟩:W3)) y17_1.toNat (⟨(⟨a7.Zh,a7.Zq,a7.Zm,a7.Zn,a7.Zj,a7.Zi⟩:W3).Zh,(⟨a7.Zh,a7.Zq,a7.Zm,a7.Zn,a7.Zj,a7.Zi⟩:W3).Zq,(⟨a7.Zh,a7.Zq,a7.Zm,a7.Zn,a7.Zj,a7.Zi⟩:W3).Zm,d1.Zn,(⟨a7.Zh,a7.Zq,a7.Zm,a7.Zn,a7.Zj,a7.Zi⟩:W3).Zj,(⟨a7.Zh,a7.Zq,a7.Zm,a7.Zn,a7.Zj,a7.Zi⟩:W3).Zi⟩:W3)),bj A4 n4 c4 a0.ZA,bj A5 n5 c5 a0.ZC,ah B1 124 [W A2 n2 c2,W A3 n3 c3,W A4 n4 c4,W A5 n5 c5,pV B6 0],bE jJ rb e2 e1,ah B6 213 [.map (some e2)]]) ?_ ?_
 ·refine ab ?_;refine fS (sJ J J (by decide)) ?_;refine gH J h ?_ ?_<;>intro h
  ·refine be O ([aQ f0 f1 f2 a7.Zj,aQ f3 f4 f6 a7.Zi,ah e3 94 (iM a2 A8 n8 c8 A9 n9 c9),aQ A8 n8 c8 a2.Zj,aQ A9 n9 c9 a2.Zi,ah B1 124 [W A2 n2 c2,W A3 n3 c3,W A4 n4 c4,W A5 n5 c5,pV B6 0],iF A2 n2 c2 a0.m_.Zp,iF A3 n3 c3 (List.set (List.set a0.m_.Zr y17_1.toNat (⟨a7.Zh,a7.Zq,a7.Zm,a7.Zn,a7.Zj,a7.Zi⟩:W3)) y17_1.toNat (⟨(⟨a7.Zh,a7.Zq,a7.Zm,a7.Zn,a7.Zj,a7.Zi⟩:W3).Zh,(⟨a7.Zh,a7.Zq,a7.Zm,a7.Zn,a7.Zj,a7.Zi⟩:W3).Zq,(⟨a7.Zh,a7.Zq,a7.Zm,a7.Zn,a7.Zj,a7.Zi⟩:W3).Zm,d1.Zn,(⟨a7.Zh,a7.Zq,a7.Zm,a7.Zn,a7.Zj,a7.Zi⟩:W3).Zj,(⟨a7.Zh,a7.Zq,a7.Zm,a7.Zn,a7.Zj,a7.Zi⟩:W3).Zi⟩:W3)),bj A4 n4 c4 a0.ZA,bj A5 n5 c5 a0.ZC]) (cS [0,1,2,3,4,5,6,7,8,9] 12) ?_;refine ab ?_;obtain ⟨g5,k,h⟩:=aa h
   refine Ng 6 J (oC (jr k)) fun g6=> ?_
   exact jY
  exact jY
 rintro _ _ ⟨e1,e2,h,rfl,rfl⟩;exact eY
def ox (N:Nat)(a0:W4)(y17_0:Int)(a6 a7 a2:W3)(a8:(List (Int×Bool))):Option (Int×W4):=
 some (0,(⟨(⟨List.set (List.set a0.m_.Zp y17_0.toNat (⟨a6.Zh,a6.Zq,a6.Zm,a6.Zn,a6.Zj,a6.Zi⟩:W3)) y17_0.toNat (⟨(⟨a6.Zh,a6.Zq,a6.Zm,a6.Zn,a6.Zj,a6.Zi⟩:W3).Zh,(⟨a6.Zh,a6.Zq,a6.Zm,a6.Zn,a6.Zj,a6.Zi⟩:W3).Zq,(⟨a6.Zh,a6.Zq,a6.Zm,a6.Zn,a6.Zj,a6.Zi⟩:W3).Zm,a7.Zn,(⟨a6.Zh,a6.Zq,a6.Zm,a6.Zn,a6.Zj,a6.Zi⟩:W3).Zj,(⟨a6.Zh,a6.Zq,a6.Zm,a6.Zn,a6.Zj,a6.Zi⟩:W3).Zi⟩:W3),a0.m_.Zr⟩:WY),a0.ZA,a0.ZC,(⟨a8⟩:W0)⟩:W4))
def ov (N:Nat)(a0:W4)(y17_1:Int)(a6 a7 a2:W3)(a8:(List (Int×Bool))):Option (Int×W4):=
 some (0,(⟨(⟨a0.m_.Zp,List.set (List.set a0.m_.Zr y17_1.toNat (⟨a6.Zh,a6.Zq,a6.Zm,a6.Zn,a6.Zj,a6.Zi⟩:W3)) y17_1.toNat (⟨(⟨a6.Zh,a6.Zq,a6.Zm,a6.Zn,a6.Zj,a6.Zi⟩:W3).Zh,(⟨a6.Zh,a6.Zq,a6.Zm,a6.Zn,a6.Zj,a6.Zi⟩:W3).Zq,(⟨a6.Zh,a6.Zq,a6.Zm,a6.Zn,a6.Zj,a6.Zi⟩:W3).Zm,a7.Zn,(⟨a6.Zh,a6.Zq,a6.Zm,a6.Zn,a6.Zj,a6.Zi⟩:W3).Zj,(⟨a6.Zh,a6.Zq,a6.Zm,a6.Zn,a6.Zj,a6.Zi⟩:W3).Zi⟩:W3)⟩:WY),a0.ZA,a0.ZC,(⟨a8⟩:W0)⟩:W4))
def qF (a0:W4)(a1:Int)(a2:W3):Option (Int×W4):=
 (aR N a0).bind fun b5=>bif b5 then (some (1,a0)) else ((jZ N a0 a1).bind fun b6=>bif !b6 then (some (50,a0)) else ((gG N a2).bind fun b7=>bif !b7 then (some (51,a0)) else ((ik N a0 a1).bind fun b9=>Er b9 (fun y17_0=>(aq a0.m_.Zp y17_0).bind fun a6=>(fO N a2).bind fun a7=>bif decide (a1.tmod 2=0) then ((cP N a0.ZD a1 a2).bind fun d0=>ox N a0 y17_0 a7 a6 a2 d0.2.at_) else (ox N a0 y17_0 a7 a6 a2 a0.ZD.at_)) (fun y17_1=>(aq a0.m_.Zr y17_1).bind fun a8=>(fO N a2).bind fun b0=>bif decide (a1.tmod 2=0) then ((cP N a0.ZD a1 a2).bind fun d1=>ov N a0 y17_1 b0 a8 a2 d1.2.at_) else (ov N a0 y17_1 b0 a8 a2 a0.ZD.at_)))))
theorem AZ {N:Nat}{a0:W4}{a2:W3}{r:Int×W4}(h:qF N a0 a1 a2=some r):Okc Xk 97 [pV B1 0,iV a1,.agg #[iV a2.Zh,iV a2.Zq,iV a2.Zm,iV a2.Zn,W A8 n8 c8,W A9 n9 c9]] ([ah B1 124 [W A2 n2 c2,W A3 n3 c3,W A4 n4 c4,W A5 n5 c5,pV B6 0],iF A2 n2 c2 a0.m_.Zp,iF A3 n3 c3 a0.m_.Zr,bj A4 n4 c4 a0.ZA,bj A5 n5 c5 a0.ZC,ah B6 213 [.map (some M7)],bE jJ rb M7 a0.ZD.at_,bj A8 n8 c8 a2.Zj,bj A9 n9 c9 a2.Zi]) (fun u post=> ∃d2 d3 d4 d6 e0 e1 e2 e3 e4 e5 e6 e7 e8,u=iV r.1/\post=[ah B1 124 [W d2 d3 d4,W d6 e0 e1,W e2 e3 e4,W e5 e6 e7,pV B6 0],iF d2 d3 d4 r.2.m_.Zp,iF d6 e0 e1 r.2.m_.Zr,bj e2 e3 e4 r.2.ZA,bj e5 e6 e7 r.2.ZC,ah B6 213 [.map (some e8)],bE jJ rb e8 r.2.ZD.at_,bj A8 n8 c8 a2.Zj,bj A9 n9 c9 a2.Zi]):=by
 refine ce Tryz.func97 ?_;intro f9;refine sY ?_
 refine cR h (fun _ k=>dj k) fun h3 h=> ?_
 refine gH J h ?_ ?_<;>intro h
 ·exact eY
 refine cR h (fun _ k=>rz k) fun h4 h=> ?_
 refine gH J h ?_ ?_<;>intro h
 ·exact eY
 refine cR h (fun _ k=>mJ k) fun h5 h=> ?_
 refine gH J h ?_ ?_<;>intro h
 ·exact eY
 refine ab ?_;obtain ⟨h2,e9,h⟩:=aa h;rcases h2 with y17_0|y17_1
 ·replace h:=G9 h;refine gD (oR (gr e9)) ?_;rintro _ _ ⟨_,⟨rfl,rfl⟩,rfl⟩;obtain ⟨d0,a8,b0,b7,h⟩:=ba h;refine ab ?_;refine gR (mU 2 J aj J (toNat_lt a8 b0))<|gR (qi 2 J aj J (toNat_lt a8 b0) tu)<|JX (li (u:=iV d0.Zn) 2 J aj J b7 wc (fun _ _ _ h=>by obtain ⟨_,_,_,_,_,_,e,_⟩:=h;rw [e];rfl)) ?_;obtain ⟨a6,k,h⟩:=aa h;refine gD (oR (iP k)) ?_;rintro _ _ ⟨_,⟨g0,g1,g2,g3,g4,g5,rfl,rfl⟩,rfl⟩;refine gR (mU 4 J aj J (toNat_lt a8 b0))<|mP (bn 0 J)<|mP (bn 1 J)<|GB (bZ (us:=(iM a6 g0 g1 g2 g3 g4 g5)) (z:=(⟨a6.Zh,a6.Zq,a6.Zm,a6.Zn,a6.Zj,a6.Zi⟩:W3)) 4 J J J J size94.out J (toNat_lt a8 b0) J (fun S w vs xk hk hr ho=>by obtain rfl:=YX (hk.symm.trans b7);obtain ⟨_,_,_,_,_,_,rfl,s4,s5⟩:=hr;exact ⟨_,_,_,_,_,_,rfl,ho 0 _ rfl rfl,ho 1 _ rfl rfl⟩)) ?_;have f0:=EH (z:=(⟨a6.Zh,a6.Zq,a6.Zm,a6.Zn,a6.Zj,a6.Zi⟩:W3)) b7
  refine gR (mU 4 J aj J (sE (toNat_lt a8 b0)))<|gR (qi 4 J aj J (sE (toNat_lt a8 b0)) tu)<|GB (bZ (us:=[iV d0.Zn]) (z:=(⟨(⟨a6.Zh,a6.Zq,a6.Zm,a6.Zn,a6.Zj,a6.Zi⟩:W3).Zh,(⟨a6.Zh,a6.Zq,a6.Zm,a6.Zn,a6.Zj,a6.Zi⟩:W3).Zq,(⟨a6.Zh,a6.Zq,a6.Zm,a6.Zn,a6.Zj,a6.Zi⟩:W3).Zm,d0.Zn,(⟨a6.Zh,a6.Zq,a6.Zm,a6.Zn,a6.Zj,a6.Zi⟩:W3).Zj,(⟨a6.Zh,a6.Zq,a6.Zm,a6.Zn,a6.Zj,a6.Zi⟩:W3).Zi⟩:W3)) 4 J J J J size3.out J (sE (toNat_lt a8 b0)) J (fun S w vs xk hk hr ho=>by obtain rfl:=YX (hk.symm.trans f0);obtain ⟨_,_,_,_,_,_,rfl,s4,s5⟩:=hr;exact ⟨_,_,_,_,_,_,rfl,s4,s5⟩)) ?_
  refine ak (fun s L=> ∃f1 f2,ox N a0 y17_0 a6 d0 a2 f1=some r/\s=[(6,iV 0)]/\L=[iF A2 n2 c2 (List.set (List.set a0.m_.Zp y17_0.toNat (⟨a6.Zh,a6.Zq,a6.Zm,a6.Zn,a6.Zj,a6.Zi⟩:W3)) y17_0.toNat (⟨(⟨a6.Zh,a6.Zq,a6.Zm,a6.Zn,a6.Zj,a6.Zi⟩:W3).Zh,(⟨a6.Zh,a6.Zq,a6.Zm,a6.Zn,a6.Zj,a6.Zi⟩:W3).Zq,(⟨a6.Zh,a6.Zq,a6.Zm,a6.Zn,a6.Zj,a6.Zi⟩:W3).Zm,d0.Zn,(⟨a6.Zh,a6.Zq,a6.Zm,a6.Zn,a6.Zj,a6.Zi⟩:W3).Zj,(⟨a6.Zh,a6.Zq,a6.Zm,a6.Zn,a6.Zj,a6.Zi⟩:W3).Zi⟩:W3)),iF A3 n3 c3 a0.m_.Zr,bj A4 n4 c4 a0.ZA,bj A5 n5 c5 a0.ZC,ah B1 124 [W A2 n2 c2,W A3 n3 c3,W A4 n4 c4,W A5 n5 c5,pV B6 0],bE jJ rb f2 f1,ah B6 213 [.map (some f2)],bj A8 n8 c8 a2.Zj,bj A9 n9 c9 a2.Zi]) ?_ ?_
  ·refine ab ?_;refine fS (sJ J J (by decide)) ?_;refine gH J h ?_ ?_<;>intro h
   ·refine be O ([aQ g0 g1 g2 a6.Zj,aQ g3 g4 g5 a6.Zi,ah f9 94 (iM a2 A8 n8 c8 A9 n9 c9),ah B1 124 [W A2 n2 c2,W A3 n3 c3,W A4 n4 c4,W A5 n5 c5,pV B6 0],iF A2 n2 c2 (List.set (List.set a0.m_.Zp y17_0.toNat (⟨a6.Zh,a6.Zq,a6.Zm,a6.Zn,a6.Zj,a6.Zi⟩:W3)) y17_0.toNat (⟨(⟨a6.Zh,a6.Zq,a6.Zm,a6.Zn,a6.Zj,a6.Zi⟩:W3).Zh,(⟨a6.Zh,a6.Zq,a6.Zm,a6.Zn,a6.Zj,a6.Zi⟩:W3).Zq,(⟨a6.Zh,a6.Zq,a6.Zm,a6.Zn,a6.Zj,a6.Zi⟩:W3).Zm,d0.Zn,(⟨a6.Zh,a6.Zq,a6.Zm,a6.Zn,a6.Zj,a6.Zi⟩:W3).Zj,(⟨a6.Zh,a6.Zq,a6.Zm,a6.Zn,a6.Zj,a6.Zi⟩:W3).Zi⟩:W3)),iF A3 n3 c3 a0.m_.Zr,bj A4 n4 c4 a0.ZA,bj A5 n5 c5 a0.ZC,bj A8 n8 c8 a2.Zj,bj A9 n9 c9 a2.Zi]) (cS [0,1,2,3,4,5,6,7,10,11] 12) ?_;refine ab ?_;obtain ⟨h6,k,h⟩:=aa h;refine kM (cS [8,9,0,1,2,3,4,5,6,7,10,11] 12) (cS [2,3,4,5,6,7,8,9,10,11] 12) ?_
    refine Ng 6 J (FG 2 2 (jr k) J J J J (t5 (tM (i:=10) J J) (t5 (tM (i:=11) J J) ax)) qZ) fun h7=> ?_
    exact jY
   exact jY
  rintro _ _ ⟨f1,f2,h,rfl,rfl⟩;exact eY
 replace h:=G8 h;refine gD (oR (gr e9)) ?_;rintro _ _ ⟨_,⟨rfl,rfl⟩,rfl⟩;obtain ⟨d1,b5,b6,b9,h⟩:=ba h;refine ab ?_;refine gR (mU 3 J aj J (toNat_lt b5 b6))<|gR (qi 3 J aj J (toNat_lt b5 b6) tu)<|JX (li (u:=iV d1.Zn) 3 J aj J b9 wc (fun _ _ _ h=>by obtain ⟨_,_,_,_,_,_,e,_⟩:=h;rw [e];rfl)) ?_;obtain ⟨a7,k,h⟩:=aa h;refine gD (oR (iP k)) ?_;rintro _ _ ⟨_,⟨g6,g7,g8,g9,h0,h1,rfl,rfl⟩,rfl⟩;refine gR (mU 5 J aj J (toNat_lt b5 b6))<|mP (bn 0 J)<|mP (bn 1 J)<|ab ?_;refine GB (bZ (us:=(iM a7 g6 g7 g8 g9 h0 h1)) (z:=(⟨a7.Zh,a7.Zq,a7.Zm,a7.Zn,a7.Zj,a7.Zi⟩:W3)) 5 J J J J size94.out J (toNat_lt b5 b6) J (fun S w vs xk hk hr ho=>by obtain rfl:=YX (hk.symm.trans b9);obtain ⟨_,_,_,_,_,_,rfl,s4,s5⟩:=hr;exact ⟨_,_,_,_,_,_,rfl,ho 0 _ rfl rfl,ho 1 _ rfl rfl⟩)) ?_;have f3:=EH (z:=(⟨a7.Zh,a7.Zq,a7.Zm,a7.Zn,a7.Zj,a7.Zi⟩:W3)) b9
 refine gR (mU 5 J aj J (sE (toNat_lt b5 b6)))<|gR (qi 5 J aj J (sE (toNat_lt b5 b6)) tu)<|GB (bZ (us:=[iV d1.Zn]) (z:=(⟨(⟨a7.Zh,a7.Zq,a7.Zm,a7.Zn,a7.Zj,a7.Zi⟩:W3).Zh,(⟨a7.Zh,a7.Zq,a7.Zm,a7.Zn,a7.Zj,a7.Zi⟩:W3).Zq,(⟨a7.Zh,a7.Zq,a7.Zm,a7.Zn,a7.Zj,a7.Zi⟩:W3).Zm,d1.Zn,(⟨a7.Zh,a7.Zq,a7.Zm,a7.Zn,a7.Zj,a7.Zi⟩:W3).Zj,(⟨a7.Zh,a7.Zq,a7.Zm,a7.Zn,a7.Zj,a7.Zi⟩:W3).Zi⟩:W3)) 5 J J J J size3.out J (sE (toNat_lt b5 b6)) J (fun S w vs xk hk hr ho=>by obtain rfl:=YX (hk.symm.trans f3);obtain ⟨_,_,_,_,_,_,rfl,s4,s5⟩:=hr;exact ⟨_,_,_,_,_,_,rfl,s4,s5⟩)) ?_
 refine ak (fun s L=> ∃f4 f6,ov N a0 y17_1 a7 d1 a2 f4=some r/\s=[(6,iV 0)]/\L=[iF A2 n2 c2 a0.m_.Zp,iF A3 n3 c3 (List.set (List.set a0.m_.Zr y17_1.toNat (⟨a7.Zh,a7.Zq,a7.Zm,a7.Zn,a7.Zj,a7.Zi⟩:W3)) y17_1.toNat (⟨(⟨a7.Zh,a7.Zq,a7.Zm,a7.Zn,a7.Zj,a7.Zi⟩:W3).Zh,(⟨a7.Zh,a7.Zq,a7.Zm,a7.Zn,a7.Zj,a7.Zi⟩:W3).Zq,(⟨a7.Zh,a7.Zq,a7.Zm,a7.Zn,a7.Zj,a7.Zi⟩:W3).Zm,d1.Zn,(⟨a7.Zh,a7.Zq,a7.Zm,a7.Zn,a7.Zj,a7.Zi⟩:W3).Zj,(⟨a7.Zh,a7.Zq,a7.Zm,a7.Zn,a7.Zj,a7.Zi⟩:W3).Zi⟩:W3)),bj A4 n4 c4 a0.ZA,bj A5 n5 c5 a0.ZC,ah B1 124 [W A2 n2 c2,W A3 n3 c3,W A4 n4 c4,W A5 n5 c5,pV B6 0],bE jJ rb f6 f4,ah B6 213 [.map (some f6)],bj A8 n8 c8 a2.Zj,bj A9 n9 c9 a2.Zi]) ?_ ?_
 ·refine ab ?_;refine fS (sJ J J (by decide)) ?_;refine gH J h ?_ ?_<;>intro h
  ·refine be O ([aQ g6 g7 g8 a7.Zj,aQ g9 h0 h1 a7.Zi,ah f9 94 (iM a2 A8 n8 c8 A9 n9 c9),ah B1 124 [W A2 n2 c2,W A3 n3 c3,W A4 n4 c4,W A5 n5 c5,pV B6 0],iF A2 n2 c2 a0.m_.Zp,iF A3 n3 c3 (List.set (List.set a0.m_.Zr y17_1.toNat (⟨a7.Zh,a7.Zq,a7.Zm,a7.Zn,a7.Zj,a7.Zi⟩:W3)) y17_1.toNat (⟨(⟨a7.Zh,a7.Zq,a7.Zm,a7.Zn,a7.Zj,a7.Zi⟩:W3).Zh,(⟨a7.Zh,a7.Zq,a7.Zm,a7.Zn,a7.Zj,a7.Zi⟩:W3).Zq,(⟨a7.Zh,a7.Zq,a7.Zm,a7.Zn,a7.Zj,a7.Zi⟩:W3).Zm,d1.Zn,(⟨a7.Zh,a7.Zq,a7.Zm,a7.Zn,a7.Zj,a7.Zi⟩:W3).Zj,(⟨a7.Zh,a7.Zq,a7.Zm,a7.Zn,a7.Zj,a7.Zi⟩:W3).Zi⟩:W3)),bj A4 n4 c4 a0.ZA,bj A5 n5 c5 a0.ZC,bj A8 n8 c8 a2.Zj,bj A9 n9 c9 a2.Zi]) (cS [0,1,2,3,4,5,6,7,10,11] 12) ?_;refine ab ?_;obtain ⟨h8,k,h⟩:=aa h;refine kM (cS [8,9,0,1,2,3,4,5,6,7,10,11] 12) (cS [2,3,4,5,6,7,8,9,10,11] 12) ?_
   refine Ng 6 J (FG 2 2 (jr k) J J J J (t5 (tM (i:=10) J J) (t5 (tM (i:=11) J J) ax)) qZ) fun h9=> ?_
   exact jY
  exact jY
 rintro _ _ ⟨f4,f6,h,rfl,rfl⟩;exact eY
theorem AY {N:Nat}{a0:W4}{a2:W3}{r:Int×W4}(h:mw N a0 a1 a2=some r):Okc Xk 97 [pV B1 0,iV a1,.agg #[iV a2.Zh,iV a2.Zq,iV a2.Zm,iV a2.Zn,W A2 n2 c2,W A3 n3 c3]] ([aQ A2 n2 c2 a2.Zj,aQ A3 n3 c3 a2.Zi,oDHeap B1 a0]) (fun u post=>u=iV r.1/\post=[oDHeap B1 r.2]):=Mk 2 rfl (fun _=>Dn h)
theorem yL {N:Nat}{a0:W4}{a2:W3}{r:Int×W4}(h:qF N a0 a1 a2=some r):Okc Xk 97 [pV B1 0,iV a1,.agg #[iV a2.Zh,iV a2.Zq,iV a2.Zm,iV a2.Zn,W A2 n2 c2,W A3 n3 c3]] ([oDHeap B1 a0,bj A2 n2 c2 a2.Zj,bj A3 n3 c3 a2.Zi]) (fun u post=>u=iV r.1/\post=[oDHeap B1 r.2,bj A2 n2 c2 a2.Zj,bj A3 n3 c3 a2.Zi]):=Mk 0 rfl (fun _=>AZ h)
def aA (a0:WP)(a1:WZ)(a2:W3):Option WP:=
 (iU N a1).bind fun a6=>bif a6 then ((mw N a0.Zv a1.N a2).bind fun a7=>some (⟨a0.ZI,a0.ZB,(),a7.2,a0.Zw,a0.ZF,a0.ZL,a0.ZM,a0.ZN,a0.ZG,a0.ZH⟩:WP)) else (some a0)
theorem AI {N:Nat}{a1:WZ}{a2:W3}{r:WP}(h:aA N a0 a1 a2=some r):Okc Xk 51 [pV B1 0,(aF a1),.agg #[iV a2.Zh,iV a2.Zq,iV a2.Zm,iV a2.Zn,W A7 n7 c7,W A8 n8 c8]] ([aQ A7 n7 c7 a2.Zj,aQ A8 n8 c8 a2.Zi,ah B1 81 (At a0 B2 B3 A4 n4 c4 A5 n5 c5 A6 n6 c6),oDHeap B2 a0.Zv,oDTable B3 a0.Zw,pQ A4 n4 c4 a0.ZF,AV A5 n5 c5 a0.ZG,pQ A6 n6 c6 a0.ZH]) (fun u post=> ∃A0 n0 c0 A1 n1 c1 A2 n2 c2,u=.tuple #[]/\post=[ah B1 81 (At r B2 B3 A0 n0 c0 A1 n1 c1 A2 n2 c2),oDHeap B2 r.Zv,oDTable B3 r.Zw,pQ A0 n0 c0 r.ZF,AV A1 n1 c1 r.ZG,pQ A2 n2 c2 r.ZH]):=by
 refine ce Tryz.func51 ?_;intro B9
 refine cl fun a6=> ?_
 refine fS (wr J WC) ?_
 refine cR h (fun _ k=>ug k) fun a7 h=> ?_
 refine gH J h ?_ ?_<;>intro h
 ·refine be O ([ah a6 94 (iM a2 A7 n7 c7 A8 n8 c8),ah B9 28 (bU a1),aQ A7 n7 c7 a2.Zj,aQ A8 n8 c8 a2.Zi,ah B1 81 (At a0 B2 B3 A4 n4 c4 A5 n5 c5 A6 n6 c6),oDTable B3 a0.Zw,pQ A4 n4 c4 a0.ZF,AV A5 n5 c5 a0.ZG,pQ A6 n6 c6 a0.ZH]) (cS [0,1,2,3,4,6,7,8,9] 10) ?_;refine ab ?_;obtain ⟨a8,k,h⟩:=aa h;refine zD 7 J (oC (AY k)) ?_;rintro _ _ ⟨_,⟨rfl,rfl⟩,rfl⟩;refine bL ?_;exact eY
 exact eY
def iz (a0:WP)(a1:WZ)(a2:W3):Option WP:=
 (iU N a1).bind fun a6=>bif a6 then ((qF N a0.Zv a1.N a2).bind fun a7=>some (⟨a0.ZI,a0.ZB,(),a7.2,a0.Zw,a0.ZF,a0.ZL,a0.ZM,a0.ZN,a0.ZG,a0.ZH⟩:WP)) else (some a0)
theorem yh {N:Nat}{a1:WZ}{a2:W3}{r:WP}(h:iz N a0 a1 a2=some r):Okc Xk 51 [pV B1 0,(aF a1),.agg #[iV a2.Zh,iV a2.Zq,iV a2.Zm,iV a2.Zn,W A7 n7 c7,W A8 n8 c8]] ([ah B1 81 (At a0 B2 B3 A4 n4 c4 A5 n5 c5 A6 n6 c6),oDHeap B2 a0.Zv,oDTable B3 a0.Zw,pQ A4 n4 c4 a0.ZF,AV A5 n5 c5 a0.ZG,pQ A6 n6 c6 a0.ZH,bj A7 n7 c7 a2.Zj,bj A8 n8 c8 a2.Zi]) (fun u post=> ∃a6 a7 a8 b0 b5 b6 b7 b9 d0,u=.tuple #[]/\post=[ah B1 81 (At r B2 B3 a6 a7 a8 b0 b5 b6 b7 b9 d0),oDHeap B2 r.Zv,oDTable B3 r.Zw,pQ a6 a7 a8 r.ZF,AV b0 b5 b6 r.ZG,pQ b7 b9 d0 r.ZH,bj A7 n7 c7 a2.Zj,bj A8 n8 c8 a2.Zi]):=by
 refine ce Tryz.func51 ?_;intro B9
 refine cl fun d1=> ?_
 refine fS (wr J WC) ?_
 refine cR h (fun _ k=>ug k) fun d2 h=> ?_
 refine gH J h ?_ ?_<;>intro h
 ·refine be O ([ah d1 94 (iM a2 A7 n7 c7 A8 n8 c8),ah B9 28 (bU a1),ah B1 81 (At a0 B2 B3 A4 n4 c4 A5 n5 c5 A6 n6 c6),oDTable B3 a0.Zw,pQ A4 n4 c4 a0.ZF,AV A5 n5 c5 a0.ZG,pQ A6 n6 c6 a0.ZH,bj A7 n7 c7 a2.Zj,bj A8 n8 c8 a2.Zi]) (cS [0,1,2,4,5,6,7,8,9] 10) ?_;refine ab ?_;obtain ⟨d3,k,h⟩:=aa h;refine zD 7 J (oC (yL k)) ?_;rintro _ _ ⟨_,⟨rfl,rfl⟩,rfl⟩;refine bL ?_;exact eY
 exact eY
theorem dC {N:Nat}{a1:WZ}{a2:W3}{r:WP}(h:aA N a0 a1 a2=some r){B1 B2 B3:Nat}:Okc Xk 51 [pV B1 0,(aF a1),.agg #[iV a2.Zh,iV a2.Zq,iV a2.Zm,iV a2.Zn,W A4 n4 c4,W A5 n5 c5]] ([aQ A4 n4 c4 a2.Zj,aQ A5 n5 c5 a2.Zi,oDWorld B1 B2 B3 a0]) (fun u post=>u=.tuple #[]/\post=[oDWorld B1 B2 B3 r]):=Mk 2 rfl (fun _=>AI h)
theorem wH {N:Nat}{a1:WZ}{a2:W3}{r:WP}(h:iz N a0 a1 a2=some r){B1 B2 B3:Nat}:Okc Xk 51 [pV B1 0,(aF a1),.agg #[iV a2.Zh,iV a2.Zq,iV a2.Zm,iV a2.Zn,W A4 n4 c4,W A5 n5 c5]] ([oDWorld B1 B2 B3 a0,bj A4 n4 c4 a2.Zj,bj A5 n5 c5 a2.Zi]) (fun u post=>u=.tuple #[]/\post=[oDWorld B1 B2 B3 r,bj A4 n4 c4 a2.Zj,bj A5 n5 c5 a2.Zi]):=Mk 0 rfl (fun _=>yh h)
def ou (N:Nat)(a0:WP):Option WP:=
 aI (in64 (a0.ZL+1)) (some (⟨a0.ZI,a0.ZB,(),a0.Zv,a0.Zw,a0.ZF,a0.ZL+1,a0.ZM,a0.ZN,a0.ZG,a0.ZH⟩:WP))
theorem yg {N:Nat}{r:WP}(h:ou N a0=some r):Okc Xk 119 [pV B1 0] ([ah B1 81 (At a0 B2 B3 A4 n4 c4 A5 n5 c5 A6 n6 c6),oDHeap B2 a0.Zv,oDTable B3 a0.Zw,pQ A4 n4 c4 a0.ZF,AV A5 n5 c5 a0.ZG,pQ A6 n6 c6 a0.ZH]) (fun u post=> ∃A0 n0 c0 A1 n1 c1 A2 n2 c2,u=.tuple #[]/\post=[ah B1 81 (At r B2 B3 A0 n0 c0 A1 n1 c1 A2 n2 c2),oDHeap B2 r.Zv,oDTable B3 r.Zw,pQ A0 n0 c0 r.ZF,AV A1 n1 c1 r.ZG,pQ A2 n2 c2 r.ZH]):=by
 refine ce Tryz.func119 ?_;refine fS (wr J WC) ?_;refine jE J<|ab ?_;obtain ⟨q7,h⟩:=ac h;exact eY
theorem wG {N:Nat}{r:WP}(h:ou N a0=some r){B1 B2 B3:Nat}:Okc Xk 119 [pV B1 0] ([oDWorld B1 B2 B3 a0]) (fun u post=>u=.tuple #[]/\post=[oDWorld B1 B2 B3 r]):=Mk 0 rfl (fun _=>yg h)
def bN (a0:WV)(a1:Bool):Option WV:=
 (iz N a0.w_ a0.at_ a0.Zu).bind fun y7=>(bif a1 then (some (!decide (ai .i64 a0.Zu.Zm 16=0))) else (some false)).bind fun b8=>bif b8 then ((ou N y7).bind fun a6=>some (⟨a0.Zu,a6,a0.at_⟩:WV)) else (some (⟨a0.Zu,y7,a0.at_⟩:WV))
theorem jH {N:Nat}{a0:WV}{a1:Bool}{r:WV}(h:bN N a0 a1=some r){B4 B5 B6:Nat}:Okc Xk 79 [pV B1 0,.bool a1] ([ah B1 135 [iV a0.Zu.Zh,iV a0.Zu.Zq,iV a0.Zu.Zm,iV a0.Zu.Zn,W A2 n2 c2,W A3 n3 c3,pV B4 0,iV a0.at_.Zh,iV a0.at_.N,.string a0.at_.S],bj A2 n2 c2 a0.Zu.Zj,bj A3 n3 c3 a0.Zu.Zi,oDWorld B4 B5 B6 a0.w_]) (fun u post=> ∃A0 n0 c0 A1 n1 c1,u=.tuple #[]/\post=[ah B1 135 [iV r.Zu.Zh,iV r.Zu.Zq,iV r.Zu.Zm,iV r.Zu.Zn,W A0 n0 c0,W A1 n1 c1,pV B4 0,iV r.at_.Zh,iV r.at_.N,.string r.at_.S],bj A0 n0 c0 r.Zu.Zj,bj A1 n1 c1 r.Zu.Zi,oDWorld B4 B5 B6 r.w_]):=by
 refine Ca Tryz.func79 J J ?_;simp only [qI];refine aB<|be O ([ah B1 135 [iV a0.Zu.Zh,iV a0.Zu.Zq,iV a0.Zu.Zm,iV a0.Zu.Zn,W A2 n2 c2,W A3 n3 c3,pV B4 0,iV a0.at_.Zh,iV a0.at_.N,.string a0.at_.S],bj A2 n2 c2 a0.Zu.Zj,bj A3 n3 c3 a0.Zu.Zi]) (cS [0,1,2] 4) ?_;refine ab ?_;obtain ⟨y7,k,h⟩:=aa h;refine zD 12 J (oC (wH k)) ?_;rintro _ _ ⟨_,⟨rfl,rfl⟩,rfl⟩;refine bL ?_;refine ab ?_
 refine oz 8 26 18 h (fun _ g8 h=> ?_) fun b8 h=> ?_
 ·refine ab ?_;exact eP (aP J J) J (bW g8 J) J<|gY
 refine dk h ?_ ?_<;>intro h
 ·refine cC h (fun _ k=>wG k) fun a6 h=> ?_
  exact eN
 exact eY
def fM (a0:WP)(a1:WZ)(a2:WX):Option (Bool×WP):=
 (gF N a0 a1).bind fun y6=>Er y6 (fun y6_0=>some (false,a0)) (fun y6_1=>(ci N (⟨y6_1.Zu,a0,y6_1.at_⟩:WV) a2).bind fun a6=>bif !a6.2.2 then (some (true,a0)) else (bif decide (ai .i64 a6.1.Zk 4=0) then (some (false,a0)) else ((cU N a0).bind fun b5=>(ee N a0.Zw y6_1.Zu.Zq a2).bind fun a7=>bif !decide (a7.2.1=0) then (some (false,(⟨a0.ZI,a0.ZB,(),a0.Zv,a7.2.2,a0.ZF,a0.ZL,a0.ZM,a0.ZN,a0.ZG,a0.ZH⟩:WP))) else (aI (in64 (a6.2.1+1)) (aI (in64 (a6.2.1+2)) ((oZ N y6_1.Zu.Zj (a6.2.1+1) (a6.2.1+2)).bind fun a8=>(bN N (⟨(⟨y6_1.Zu.Zh,a7.1,y6_1.Zu.Zm,y6_1.Zu.Zn,a8,y6_1.Zu.Zi⟩:W3),(⟨a0.ZI,a0.ZB,(),a0.Zv,a7.2.2,a0.ZF,a0.ZL,a0.ZM,a0.ZN,a0.ZG,a0.ZH⟩:WP),y6_1.at_⟩:WV) true).bind fun b0=>some (true,b0.w_)))))))
theorem ru {N:Nat}{a1:WZ}{r:Bool×WP}(h:fM N a0 a1 a2=some r){B1 B2 B3:Nat}:Okc Xk 50 [pV B1 0,(aF a1),(eI a2)] ([oDWorld B1 B2 B3 a0]) (fun u post=>u=.bool r.1/\post=[oDWorld B1 B2 B3 r.2]):=by
 refine ce Tryz.func50 ?_;intro B4
 refine cl fun B5=> ?_
 obtain ⟨y6,a6,h⟩:=aa h;rcases y6 with y6_0|y6_1
 ·replace h:=G9 h;refine gD (oR (dc a6)) ?_;rintro _ _ ⟨_,⟨rfl,rfl⟩,rfl⟩;refine sY ?_;exact jE J<|eY
 replace h:=G8 h;refine gD (oR (dc a6)) ?_;rintro _ _ ⟨_,⟨B7,A8,n8,c8,A9,n9,c9,rfl,rfl⟩,rfl⟩;refine sY ?_
 refine fY J<|cR h (fun _ k=>kT k) fun a7 h=> ?_
 intro a8;refine sY ?_;refine gH J h ?_ ?_<;>intro h
 ·exact eY
 refine sY ?_;refine fS (aP J J) ?_;refine gH J h ?_ ?_<;>intro h
 ·exact eY
 refine ab ?_;refine aB<|be O ([ah a8 50 (co a7.1),ah B7 135 [iV y6_1.Zu.Zh,iV y6_1.Zu.Zq,iV y6_1.Zu.Zm,iV y6_1.Zu.Zn,W A8 n8 c8,W A9 n9 c9,pV B1 0,iV y6_1.at_.Zh,iV y6_1.at_.N,.string y6_1.at_.S],bj A8 n8 c8 y6_1.Zu.Zj,bj A9 n9 c9 y6_1.Zu.Zi,ah B5 39 (jw a2),ah B4 28 (bU a1)]) (cS [0,1,2,3,4,5] 7) ?_;refine zY [0,2,3,4,5,6,7] ?_;obtain ⟨b0,k,h⟩:=aa h;refine zD 1 J (oR (eS k)) ?_;rintro _ _ ⟨_,⟨rfl,rfl⟩,rfl⟩;refine bL ?_;refine kM ((cS [6,0,1,2,3,4,5] 7).trans AP) (cS [2,3,4,5,6,7] 8) ?_;obtain ⟨b5,k,h⟩:=aa h;refine zD 8 J (oC (vE k)) ?_;rintro _ _ ⟨_,⟨rfl,rfl⟩,rfl⟩;refine bL ?_;refine kM (Be) (cS [1,2,3,4,5,6] 7) ?_;refine zX [9,10,11,12,13] ?_;refine sY ?_;refine gH J h ?_ ?_<;>intro h
 ·exact eY
 refine ab ?_;obtain ⟨b6,h⟩:=ac h;refine ab ?_;obtain ⟨b7,h⟩:=ac h;refine ab ?_;obtain ⟨b9,k,h⟩:=aa h
 refine sI (oC (C0 (R:=ay) k)) fun d0 d1 d2=> ?_
 refine Ua h (fun _ k=>jH k) fun d3 d4 d6 e0 e1 e2 e3 h=> ?_
 exact eN
def wv (a2 a7:Int)(a1:WZ)(y5:W3×Bool)(p15:W8)(a8:WP):Option (Bool×WP):=
 (ca N a8 a1).bind fun a6=>aI ((0:Int)<=a7/\a7.toNat<=p15.length) ((aA N a8 a1 (⟨a6.1.Zh,a6.1.Zq,a6.1.Zm,a6.1.Zn,a6.1.Zj,List.take a7.toNat p15⟩:W3)).bind fun b0=>some (decide (a7=a2),b0))
def rK (N:Nat)(a6:Int->WP->Option (Bool×WP))(a2 b0:Int)(b5:Xh)(a7:Int)(a1:WZ)(y5:W3×Bool)(p15:W8)(a8:WP):Option (Bool×WP):=
 aI (in64 (a7+1)) (a6 (a7+1) a8)
def jl (N:Nat)(a2 a6:Int)(a7:Xh)(a1:WZ)(y5:W3×Bool)(p15:W8):Nat->Int->WP->Option (Bool×WP)
 |0,_,_=>none
 |b6+1,a8,b0=>bif decide (a8<(a7.length:Int)) then ((aq a7 a8).bind fun b5=>(bif decide (b5.Zo.Zh=0) then (some (decide (a6<=b5.Zo.N))) else (some false)).bind fun b7=>bif b7 then ((fM N b0 a1 b5.Zo).bind fun b9=>rK N (jl N a2 a6 a7 a1 y5 p15 b6) a2 a6 a7 a8 a1 y5 p15 b9.2) else (rK N (jl N a2 a6 a7 a1 y5 p15 b6) a2 a6 a7 a8 a1 y5 p15 b0)) else (wv N a2 a6 a1 y5 p15 b0)
def oe (a2:Int)(a0:WP)(a1:WZ)(y5:W3×Bool)(p15:W8)(a6:Int):Option (Bool×WP):=
 (js N a0 a1).bind fun a7=>jl N a2 a6 a7 a1 y5 p15 N 0 a0
def od (N:Nat)(a6:Int->Int->Option (Bool×WP))(a2:Int)(b0:Xh)(a7:Int)(a0:WP)(a1:WZ)(y5:W3×Bool)(p15:W8)(a8:Int):Option (Bool×WP):=
 aI (in64 (a7+1)) (a6 a8 (a7+1))
def jm (N:Nat)(a2:Int)(a6:Xh)(a0:WP)(a1:WZ)(y5:W3×Bool)(p15:W8):Nat->Int->Int->Option (Bool×WP)
 |0,_,_=>none
 |b5+1,b0,a7=>bif decide (a7<(a6.length:Int)) then ((aq a6 a7).bind fun a8=>(bif decide (a8.Zo.Zh=0) then (some (decide (ai .i64 a8.Zk 4=0))) else (some false)).bind fun b6=>bif b6 then (aI (in64 (a8.Zo.N+1)) (od N (jm N a2 a6 a0 a1 y5 p15 b5) a2 a6 a7 a0 a1 y5 p15 (max b0 (a8.Zo.N+1)))) else (od N (jm N a2 a6 a0 a1 y5 p15 b5) a2 a6 a7 a0 a1 y5 p15 b0)) else (oe N a2 a0 a1 y5 p15 b0)
def og (a2:Int)(a0:WP)(a1:WZ)(y5:W3×Bool)(p15:W8):Option (Bool×WP):=
 (js N a0 a1).bind fun a6=>jm N a2 a6 a0 a1 y5 p15 N a2 0
def oa (N:Nat)(a2:Int)(a0:WP)(a1:WZ)(y5:W3×Bool):Nat->W8->Option (Bool×WP)
 |0,_=>none
 |a7+1,a6=>bif decide ((a6.length:Int)<a2) then (aI (bm (a6.length+([(⟨8,0,(⟨#[]⟩:ByteArray)⟩:WZ)]:List WZ).length)) ((oa N a2 a0 a1 y5 a7) (a6++([(⟨8,0,(⟨#[]⟩:ByteArray)⟩:WZ)]:List WZ)))) else (og N a2 a0 a1 y5 a6)
def jD (a0:WP)(a1:WZ)(a2:Int):Option (Bool×WP):=
 (ca N a0 a1).bind fun y5=>(bif !y5.2 then (some true) else (some (decide (a2<0)))).bind fun b9=>(bif b9 then (some true) else (some (decide (4096<a2)))).bind fun a6=>(bif a6 then (some true) else ((bif !decide (ai .i64 y5.1.Zm 32=0) then (some (!decide (a2=(y5.1.Zi.length:Int)))) else (some false)).bind fun b12=>some b12)).bind fun a7=>bif a7 then (some (false,a0)) else (oa N a2 a0 a1 y5 N y5.1.Zi)
theorem pp {N:Nat}{a1:WZ}{a2:Int}{r:Bool×WP}(h:jD N a0 a1 a2=some r){B1 B2 B3:Nat}:Okc Xk 17 [pV B1 0,(aF a1),iV a2] ([sG,oDWorld B1 B2 B3 a0]) (fun u post=>u=.bool r.1/\post=[oDWorld B1 B2 B3 r.2]):=by
 refine ce Tryz.func17 ?_;intro B4
 refine G0 h (fun _ k=>dH k) fun y5 A6 n6 c6 A7 n7 c7 h=> ?_
 intro B8;refine sY ?_;refine gS 3 27 24 h ?_;intro b9 h;refine ab ?_;refine gS 3 31 28 h ?_;intro g9 h;refine ab ?_
 refine xv 12 44 32 h (fun _ f1 h=> ?_) fun h0 h=> ?_
 ·refine ab ?_;refine eP (aP J J) J (cG f1 J) J<|ab ?_;refine gS 6 43 37 h ?_;intro b12 h;exact gY
 refine dk h ?_ ?_<;>intro h
 ·exact eY
 refine ab ?_;refine ak (fun s L=> ∃p15 a6 a7 a8,og N a2 a0 a1 y5 p15=some r/\s=[(0,pV B1 0),(2,iV a2),(4,pV B4 0),(6,.bool false),(7,pV B8 0)]/\L=[oDWorld B1 B2 B3 a0,ah B4 28 (bU a1),bj A6 n6 c6 y5.1.Zj,bj a6 a7 a8 p15,ah B8 94 (iM y5.1 A6 n6 c6 a6 a7 a8),sG]) ?_ ?_
 ·refine ab ?_;refine lK (fun m s L=> ∃(d1:W8) (e2:Option Addr) (e3 e4:Nat),oa N a2 a0 a1 y5 m d1=some r/\s=[(0,pV B1 0),(2,iV a2),(4,pV B4 0),(6,.bool false),(7,pV B8 0)]/\L=[oDWorld B1 B2 B3 a0,ah B4 28 (bU a1),bj A6 n6 c6 y5.1.Zj,bj e2 e3 e4 d1,ah B8 94 (iM y5.1 A6 n6 c6 e2 e3 e4),sG]) N ?_;rintro f2 _ _ ⟨d1,e2,e3,e4,h,rfl,rfl⟩;rw [oa.eq_2] at h;refine sZ ?_;refine gH J h ?_ ?_<;>intro h
  ·refine ab ?_;refine gD (aw (R:=ay) (vss:=[UD]) (xs:=[(⟨8,0,(⟨#[]⟩:ByteArray)⟩:WZ)]) J (jy _ _ _) J J (fun _ _ hr=> .cons J All2.nil)) ?_;rintro _ _ ⟨h1,h2,h3,rfl,rfl⟩;obtain ⟨f3,h⟩:=ac h
   refine sI (az 4 0 J J aj J J t9 sw J J f3) fun f4 f6 f9=> ?_
   exact ⟨f2,_,_,Xb _,⟨d1++([(⟨8,0,(⟨#[]⟩:ByteArray)⟩:WZ)]:List WZ),f4,f6,f9,h,J,J⟩,sA,cS [1,2,3,4,5,6] 7⟩
  exact jY
 rintro _ _ ⟨p15,a6,a7,a8,h,rfl,rfl⟩;refine ab ?_;refine ak (fun s L=> ∃b0,oe N a2 a0 a1 y5 p15 b0=some r/\s=[(0,pV B1 0),(2,iV a2),(4,pV B4 0),(6,.bool false),(7,pV B8 0),(9,iV b0)]/\L=[oDWorld B1 B2 B3 a0,ah B4 28 (bU a1),bj A6 n6 c6 y5.1.Zj,bj a6 a7 a8 p15,ah B8 94 (iM y5.1 A6 n6 c6 a6 a7 a8),sG]) ?_ ?_
 ·refine LD h (fun _ k=>o9 k) fun b5 d2 d3 d4 h=> ?_
  refine lK (fun m s L=> ∃(e5:Int) (b7:Int),jm N a2 b5 a0 a1 y5 p15 m e5 b7=some r/\s=[(0,pV B1 0),(2,iV a2),(4,pV B4 0),(6,.bool false),(7,pV B8 0),(9,iV e5),(59,W d2 d3 d4),(60,iV (b5.length:Int)),(61,iV b7)]/\L=[bf ip 50 (W d2 d3 d4) b5,oDWorld B1 B2 B3 a0,ah B4 28 (bU a1),bj A6 n6 c6 y5.1.Zj,bj a6 a7 a8 p15,ah B8 94 (iM y5.1 A6 n6 c6 a6 a7 a8),sG]) N ?_;rintro g0 _ _ ⟨e5,b7,h,rfl,rfl⟩;rw [jm.eq_2] at h;refine ab ?_;refine aB<|gH J h (fun h=> ?_) (fun h=> ?_)
  ·refine ab ?_;refine ak (fun s L=> ∃e6,od N (jm N a2 b5 a0 a1 y5 p15 g0) a2 b5 b7 a0 a1 y5 p15 e6=some r/\s=[(0,pV B1 0),(2,iV a2),(4,pV B4 0),(6,.bool false),(7,pV B8 0),(9,iV e6),(59,W d2 d3 d4),(60,iV (b5.length:Int)),(61,iV b7)]/\L=[bf ip 50 (W d2 d3 d4) b5,oDWorld B1 B2 B3 a0,ah B4 28 (bU a1),bj A6 n6 c6 y5.1.Zj,bj a6 a7 a8 p15,ah B8 94 (iM y5.1 A6 n6 c6 a6 a7 a8),sG]) ?_ ?_
   ·refine ab ?_;obtain ⟨h4,g1,g2,g3,h⟩:=ba h
    refine cl fun h5=> ?_
    refine oz 5 74 69 h (fun _ g4 h=> ?_) fun h6 h=> ?_
    ·refine ab ?_;exact eP (aP J J) J (bW g4 J) J<|gY
    refine dk h ?_ ?_<;>intro h
    ·refine ab ?_;obtain ⟨h7,h⟩:=ac h;refine ab ?_;refine fS (TD J J WB WB) ?_;exact jN
    exact jY
   rintro _ _ ⟨e6,h,rfl,rfl⟩;refine ab ?_;obtain ⟨h8,h⟩:=ac h;exact lY
  exact jY
 rintro _ _ ⟨b0,h,rfl,rfl⟩;refine ak (fun s L=> ∃e7,wv N a2 b0 a1 y5 p15 e7=some r/\s=[(0,pV B1 0),(2,iV a2),(4,pV B4 0),(6,.bool false),(7,pV B8 0),(9,iV b0)]/\L=[oDWorld B1 B2 B3 e7,ah B4 28 (bU a1),bj A6 n6 c6 y5.1.Zj,bj a6 a7 a8 p15,ah B8 94 (iM y5.1 A6 n6 c6 a6 a7 a8),sG]) ?_ ?_
 ·refine LD h (fun _ k=>o9 k) fun b6 d6 e0 e1 h=> ?_
  refine lK (fun m s L=> ∃(d0:Int) (e8:WP),jl N a2 b0 b6 a1 y5 p15 m d0 e8=some r/\s=[(0,pV B1 0),(2,iV a2),(4,pV B4 0),(6,.bool false),(7,pV B8 0),(9,iV b0),(84,W d6 e0 e1),(85,iV (b6.length:Int)),(86,iV d0)]/\L=[bf ip 50 (W d6 e0 e1) b6,oDWorld B1 B2 B3 e8,ah B4 28 (bU a1),bj A6 n6 c6 y5.1.Zj,bj a6 a7 a8 p15,ah B8 94 (iM y5.1 A6 n6 c6 a6 a7 a8),sG]) N ?_;rintro g5 _ _ ⟨d0,e8,h,rfl,rfl⟩;rw [jl.eq_2] at h;refine ab ?_;refine aB<|gH J h (fun h=> ?_) (fun h=> ?_)
  ·refine ab ?_;refine ak (fun s L=> ∃e9,rK N (jl N a2 b0 b6 a1 y5 p15 g5) a2 b0 b6 d0 a1 y5 p15 e9=some r/\s=[(0,pV B1 0),(2,iV a2),(4,pV B4 0),(6,.bool false),(7,pV B8 0),(9,iV b0),(84,W d6 e0 e1),(85,iV (b6.length:Int)),(86,iV d0)]/\L=[bf ip 50 (W d6 e0 e1) b6,oDWorld B1 B2 B3 e9,ah B4 28 (bU a1),bj A6 n6 c6 y5.1.Zj,bj a6 a7 a8 p15,ah B8 94 (iM y5.1 A6 n6 c6 a6 a7 a8),sG]) ?_ ?_
   ·refine ab ?_;obtain ⟨h9,g6,g7,g8,h⟩:=ba h
    refine cl fun i0=> ?_
    refine gS 6 100 94 h ?_;intro i1 h;refine dk h ?_ ?_<;>intro h
    ·refine cC h (fun _ k=>ru k) fun i2 h=> ?_
     exact jN
    exact jY
   rintro _ _ ⟨e9,h,rfl,rfl⟩;refine ab ?_;obtain ⟨i3,h⟩:=ac h;exact lY
  exact jY
 rintro _ _ ⟨e7,h,rfl,rfl⟩
 refine G0 h (fun _ k=>dH k) fun i4 i5 i6 i7 i8 i9 j0 h=> ?_
 intro j1;refine ab ?_;obtain ⟨f0,h⟩:=ac h
 refine sI (QZ (k:=b0.toNat) 6 J J t9 size28.out J (by rw [Xz f0.1];rfl) (by rw [Xz f0.1];rfl) f0.2) fun j2 j3 j4=> ?_
 refine mP (bn 1 J)<|mP (bn 6 J)<|cC h (fun _ k=>dC k) fun j5 h=> ?_
 exact eN
def oE (N:Nat)(p21:WP):Option (Bool×Bool×WP):=
 some (true,false,p21)
def oD (N:Nat)(a6:Bool×WP)(a7:WP):Option (Bool×Bool×WP):=
 some (a6.1,false,a7)
def ne (a0:WP)(a1:WZ)(a2:W3)(a3:WW):Option (Bool×Bool×WP):=
 (bif !decide (ai .i64 a3.Has 1=0) then ((bif !decide (a3.Value.Zh=3) then (some true) else (some (decide (a3.Value.N<0)))).bind fun b5=>(bif b5 then (some true) else (some (decide (4096<a3.Value.N)))).bind fun b6=>some b6) else (some false)).bind fun b9=>bif b9 then (some (false,true,a0)) else ((nJ N a2).bind fun b7=>(cg N).bind fun d0=>(dw N b7 true true d0 a3).bind fun b0=>bif !b0.2 then (some (false,false,a0)) else (bif !(!decide (ai .i64 a3.Has 1=0)) then (bif decide (ai .i64 b0.1.Zk 1=0) then ((ca N a0 a1).bind fun a6=>(aA N a0 a1 (⟨a6.1.Zh,a6.1.Zq,cO .i64 a6.1.Zm 32,a6.1.Zn,a6.1.Zj,a6.1.Zi⟩:W3)).bind fun d1=>oE N d1) else (oE N a0)) else ((jD N a0 a1 a3.Value.N).bind fun a8=>bif decide (ai .i64 b0.1.Zk 1=0) then ((ca N a8.2 a1).bind fun a7=>(aA N a8.2 a1 (⟨a7.1.Zh,a7.1.Zq,cO .i64 a7.1.Zm 32,a7.1.Zn,a7.1.Zj,a7.1.Zi⟩:W3)).bind fun d2=>oD N a8 d2) else (oD N a8 a8.2))))
theorem Bi {N:Nat}{a1:WZ}{a2:W3}{a3:WW}{r:Bool×Bool×WP}(h:ne N a0 a1 a2 a3=some r){B1 B2 B3:Nat}:Okc Xk 58 [pV B1 0,(aF a1),.agg #[iV a2.Zh,iV a2.Zq,iV a2.Zm,iV a2.Zn,W A4 n4 c4,W A5 n5 c5],(fT a3)] ([aQ A4 n4 c4 a2.Zj,aQ A5 n5 c5 a2.Zi,sG,oDWorld B1 B2 B3 a0]) (fun u post=>u=.tuple #[.bool r.1,.bool r.2.1]/\post=[oDWorld B1 B2 B3 r.2.2]):=by
 refine ce Tryz.func58 ?_;intro B6
 refine cl fun B7=> ?_
 intro B8;refine ab ?_;refine fS (aP J J) ?_;refine sZ ?_
 refine oz 17 35 18 h (fun _ g9 h=> ?_) fun b9 h=> ?_
 ·refine ab ?_;refine gS 5 28 23 h ?_;intro d4 h;refine ab ?_;refine gS 5 34 29 h ?_;intro d6 h;exact gY
 refine dk h ?_ ?_<;>intro h
 ·exact eY
 refine ab ?_;refine aB ?_;obtain ⟨d2,a8,h⟩:=aa h;obtain ⟨b0,b5,h⟩:=aa h;obtain ⟨a6,b6,h⟩:=aa h;refine gw (t:=[(0,pV B1 0),(5,pV B6 0),(6,pV B7 0),(7,pV B8 0),(8,.bool false),(9,.bool false),(10,.bool (!decide (ai .i64 a3.Has 1=0)))]) ?_ ml (ae _)
 refine iR O 9 [7] [6,7,8] [37,38,39,40,41,36,42,43,11] [[],[0],[],[],[1,2,3],[4],[5],[5],[]] [aV (.agg #[iV a2.Zh,iV a2.Zq,iV a2.Zm,iV a2.Zn,W A4 n4 c4,W A5 n5 c5]),
aV ((cm d2)),
aV (.agg #[iV b0.Zh,iV b0.N,.string b0.S]),
aV ((fT a3)),
aV (.tuple #[(cm a6.1),.bool a6.2]),
aV (.tuple #[(cm a6.1),.bool a6.2]),
aV ((cm a6.1)),
aV (.bool a6.2),
aX1 (fun (a7:Nat)=>pV a7 0) (fun a7=> [ah a7 50 [iV 0,iV 0,.string (⟨#[]⟩),iV 0,iV 0,iV 0,.string (⟨#[]⟩),iV 0,iV 0,.string (⟨#[]⟩),iV 0,iV 0,.string (⟨#[]⟩)]])] [] (ae _) (fu rfl me) O rfl rfl ?_ ?_ ?_
 ·exact ft J (nK (dl J J) J (iI J (ae _)))<|md
 ·refine aG J ?_ ?_
  ·refine tH (bF zero50.out J) J ?_;rintro _ _ ⟨d3,rfl,rfl⟩;exact Oi d3 (ae _)
  refine qE (dl J J) ?_;refine qE (dl J J) ?_;refine qE (ap J) ?_;refine aG J ?_ ?_
  ·refine tH (oR (vK b6)) J ?_;rintro _ _ ⟨_,⟨rfl,rfl⟩,rfl⟩;exact iI J (ae _)
  refine qR (aD (us:=iv a3) 0 J J agg41.out J) ?_;refine aG J ?_ ?_
  ·refine tH (oR (jz b5)) J ?_;rintro _ _ ⟨_,⟨rfl,rfl⟩,rfl⟩;exact iI J (ae _)
  refine aG J ?_ ?_
  ·refine tH (oR (xA a8)) J ?_;rintro _ _ ⟨_,⟨rfl,rfl⟩,rfl⟩;exact iI J (ae _)
  refine qR (aD (us:=(iM a2 A4 n4 c4 A5 n5 c5)) 1 J J agg94.out J) ?_;exact dK
 intro a7;refine oq (t:=[(42,(cm a6.1)),(43,.bool a6.2),(11,pV a7 0),(0,pV B1 0),(5,pV B6 0),(6,pV B7 0),(7,pV B8 0),(8,.bool false),(9,.bool false),(10,.bool (!decide (ai .i64 a3.Has 1=0)))]) (L':=[ah a7 50 [iV 0,iV 0,.string (⟨#[]⟩),iV 0,iV 0,iV 0,.string (⟨#[]⟩),iV 0,iV 0,.string (⟨#[]⟩),iV 0,iV 0,.string (⟨#[]⟩)],ah B8 41 (iv a3),ah B7 94 (iM a2 A4 n4 c4 A5 n5 c5),ah B6 28 (bU a1),aQ A4 n4 c4 a2.Zj,aQ A5 n5 c5 a2.Zi,sG,oDWorld B1 B2 B3 a0]) ?_ ml (ae _);refine pU 9 J O (ao (us:=co a6.1) (cs':=co a6.1) 0 J J J J size50.out J J J) J J ?_;rintro _ _ rfl;refine CS 10 J O (ck J) J J J<|mj O<|sY ?_;refine gH J h ?_ ?_<;>intro h
 ·exact eY
 refine ab ?_;refine fU 48 J (fun b7=> ?_) (fun b7=> ?_)
 ·replace h:=cZ b7 h;refine ab ?_;refine ak (fun s L=> ∃p21,oE N p21=some r/\s=[(8,.bool true),(9,.bool false)]/\L=[oDWorld B1 B2 B3 p21,sG]) ?_ ?_
  ·refine ab ?_;refine fS (aP J J) ?_;refine gH J h ?_ ?_<;>intro h
   ·refine G0 h (fun _ k=>dH k) fun e0 e1 e2 e3 e4 e5 e6 h=> ?_
    refine fS (pR J J) ?_
    refine mP (bn 0 J)<|mP (bn 1 J)<|cC h (fun _ k=>dC k) fun e7 h=> ?_
    exact jN
   exact jY
  rintro _ _ ⟨p21,h,rfl,rfl⟩;exact eY
 replace h:=db b7 h
 refine cC h (fun _ k=>pp k) fun d1 h=> ?_
 refine ak (fun s L=> ∃d0,oD N d1 d0=some r/\s=[(8,.bool d1.1),(9,.bool false)]/\L=[oDWorld B1 B2 B3 d0,sG]) ?_ ?_
 ·refine ab ?_;refine fS (aP J J) ?_;refine gH J h ?_ ?_<;>intro h
  ·refine G0 h (fun _ k=>dH k) fun e8 e9 f0 f1 f2 f3 f4 h=> ?_
   refine fS (pR J J) ?_
   refine mP (bn 0 J)<|mP (bn 1 J)<|cC h (fun _ k=>dC k) fun f6 h=> ?_
   exact jN
  exact jY
 rintro _ _ ⟨d0,h,rfl,rfl⟩;exact eY
def eu (N:Nat)(a0:W3)(a1:Int):Option Bool:=
 (bif decide (a1<(a0.Zi.length:Int)) then ((aq a0.Zi a1).bind fun x5=>some (!decide (x5=(⟨8,0,(⟨#[]⟩:ByteArray)⟩:WZ)))) else (some false)).bind fun b4=>some b4
theorem zd {N:Nat}{a0:W3}{r:Bool}(h:eu N a0 a1=some r):Okc Xk 48 [.agg #[iV a0.Zh,iV a0.Zq,iV a0.Zm,iV a0.Zn,W A1 n1 c1,W A2 n2 c2],iV a1] ([aQ A1 n1 c1 a0.Zj,aQ A2 n2 c2 a0.Zi,sG]) (fun u post=>u=.bool r/\post=[]):=by
 refine ce Tryz.func48 ?_;intro B3;refine ab ?_;refine dY [0,1,2,3,4,5] ?_
 refine yJ [6,7,8,9,10,11,12,13] 1 10 18 h (fun _ g4 h rest=> ?_) (fun _ g4 h rest=> ?_) fun b4 h=> ?_
 ·refine yY [6,7,8] ?_;obtain ⟨x5,a6,a7,a8,h⟩:=ba h;refine yY [9,10,11] ?_;refine il 12 J O (zI (x:=x5) (y:=(⟨8,0,(⟨#[]⟩:ByteArray)⟩:WZ)) J J) (bW g4 J) J<|zE 13 J (gv g4 J J) ?_;exact yS rest h
 ·refine yY [6,7,8,9,10,11,12,13] ?_;exact yS rest h
 refine zX [14] ?_;exact eY
def qv (a0:WP)(a1:WZ)(a2:WX):Option (WS×Bool):=
 (gF N a0 a1).bind fun y7=>Er y7 (fun y7_0=>some ((⟨(⟨0,0,⟨#[]⟩⟩:WX),0,(⟨0,0,⟨#[]⟩⟩:WZ),(⟨0,0,⟨#[]⟩⟩:WZ),(⟨0,0,⟨#[]⟩⟩:WZ)⟩:WS),false)) (fun y7_1=>(ci N (⟨y7_1.Zu,a0,y7_1.at_⟩:WV) a2).bind fun a6=>some (a6.1,a6.2.2))
theorem Aq {N:Nat}{a1:WZ}{r:WS×Bool}(h:qv N a0 a1 a2=some r){B1 B2 B3:Nat}:Okc Xk 49 [pV B1 0,(aF a1),(eI a2)] ([pDWorld B1 B2 B3 a0]) (fun u post=>u=.tuple #[(cm r.1),.bool r.2]/\post=[]):=by
 refine ce Tryz.func49 ?_;intro B4
 refine cl fun B5=> ?_
 intro B6;refine ab ?_;obtain ⟨y7,a6,h⟩:=aa h;rcases y7 with y7_0|y7_1
 ·replace h:=G9 h;refine gD (oR (dc a6)) ?_;rintro _ _ ⟨_,⟨rfl,rfl⟩,rfl⟩;refine sY ?_;exact jE J<|eY
 replace h:=G8 h;refine gD (oR (dc a6)) ?_;rintro _ _ ⟨_,⟨B8,A9,n9,c9,a7,a8,b0,rfl,rfl⟩,rfl⟩;refine sY ?_
 refine fY J<|cR h (fun _ k=>kT k) fun b5 h=> ?_
 intro b6;exact eY
def lI (a0:WP)(a1:WZ)(a2:WX):Option (WS×Bool):=
 (ca N a0 a1).bind fun y7=>bif !y7.2 then (some ((⟨(⟨0,0,⟨#[]⟩⟩:WX),0,(⟨0,0,⟨#[]⟩⟩:WZ),(⟨0,0,⟨#[]⟩⟩:WZ),(⟨0,0,⟨#[]⟩⟩:WZ)⟩:WS),false)) else ((cg N).bind fun a7=>bif decide (a2=a7) then ((nJ N y7.1).bind fun a8=>some (a8,true)) else ((bif decide (a2.Zh=0) then ((bd N a2).bind fun b0=>some b0) else (some false)).bind fun b5=>(bif b5 then ((eu N y7.1 a2.N).bind fun b6=>some b6) else (some false)).bind fun b7=>bif b7 then ((aq y7.1.Zi a2.N).bind fun b9=>some ((⟨a2,7,b9,(⟨0,0,⟨#[]⟩⟩:WZ),(⟨0,0,⟨#[]⟩⟩:WZ)⟩:WS),true)) else ((qv N a0 a1 a2).bind fun a6=>some (a6.1,a6.2))))
theorem xj {N:Nat}{a1:WZ}{r:WS×Bool}(h:lI N a0 a1 a2=some r){B1 B2 B3:Nat}:Okc Xk 16 [pV B1 0,(aF a1),(eI a2)] ([pDWorld B1 B2 B3 a0,sG]) (fun u post=>u=.tuple #[(cm r.1),.bool r.2]/\post=[]):=by
 refine ce Tryz.func16 ?_;intro B4
 refine cl fun B5=> ?_
 intro B6
 refine G0 h (fun _ k=>dH k) fun y7 A8 n8 c8 A9 n9 c9 h=> ?_
 intro b6;refine sY ?_;refine gH J h ?_ ?_<;>intro h
 ·exact eY
 refine dY [] ?_;refine ab ?_;obtain ⟨a7,k,h⟩:=aa h;refine zD 1 J (oR (jz k)) ?_;rintro _ _ ⟨_,⟨rfl,rfl⟩,rfl⟩;refine ⟨_,ae _,ae _,?_⟩;refine zE 2 J (wp (x:=a2) (y:=a7) J J) ?_;refine dk h ?_ ?_<;>intro h
 ·refine cR h (fun _ k=>xA k) fun b7 h=> ?_
  exact eN
 refine ab ?_
 refine oz 3 33 30 h (fun _ b9 h=> ?_) fun d0 h=> ?_
 ·refine cR h (fun _ k=>nU k) fun d1 h=> ?_
  exact gY
 refine ab ?_
 refine oz 5 39 34 h (fun _ d2 h=> ?_) fun d3 h=> ?_
 ·refine cR h (fun _ k=>zd k) fun d4 h=> ?_
  exact gY
 refine dk h ?_ ?_<;>intro h
 ·refine dY [] ?_;refine ab ?_;obtain ⟨a6,a8,b0,b5,h⟩:=ba h;refine ab ?_;refine gI 8 J O O (ao (us:=[iV a2.Zh,iV a2.N,.string a2.S,iV 7,iV a6.Zh,iV a6.N,.string a6.S,iV 0,iV 0,.string (⟨#[]⟩),iV 0,iV 0,.string (⟨#[]⟩)]) (cs':=[iV a2.Zh,iV a2.N,.string a2.S,iV 7,iV a6.Zh,iV a6.N,.string a6.S,iV 0,iV 0,.string (⟨#[]⟩),iV 0,iV 0,.string (⟨#[]⟩)]) 3 J J J J size50.out J J J) ?_;rintro _ _ rfl;exact eY
 refine cR h (fun _ k=>Aq k) fun d6 h=> ?_
 exact eN
def tC (a0:WP)(a1:WZ)(a2:WX)(a3:Bool):Option WP:=
 bif a3 then ((fM N a0 a1 a2).bind fun y7=>some y7.2) else (some a0)
theorem G1 {N:Nat}{a1:WZ}{a3:Bool}{r:WP}(h:tC N a0 a1 a2 a3=some r){B1 B2 B3:Nat}:Okc Xk 103 [pV B1 0,(aF a1),(eI a2),.bool a3] ([oDWorld B1 B2 B3 a0]) (fun u post=>u=.tuple #[]/\post=[oDWorld B1 B2 B3 r]):=by
 refine ce Tryz.func103 ?_;intro B4
 refine cl fun B5=> ?_
 refine gH J h ?_ ?_<;>intro h
 ·refine cC h (fun _ k=>ru k) fun y7 h=> ?_
  exact eN
 exact eY
def jq (a0:WR)(a1:Int)(a2:WX)(a3:Int):Option (Int×Int×WR):=
 (fE N a0 a1 a2 a3).bind fun y5=>bif !decide (y5=0) then (some (0,y5,a0)) else ((dA N a0 a1 a2).bind fun y7=>bif y7.2.2 then (some (0,4,a0)) else ((fo N a0 a1).bind fun y9=>bif decide (1024<=y9) then (some (0,9,a0)) else ((kh N a0 a1 ([(⟨0,a2,a3,0⟩:W2)]:List W2)).bind fun a6=>some (a6.1,a6.2.1,a6.2.2))))
theorem zS {N:Nat}{a0:WR}{r:Int×Int×WR}(h:jq N a0 a1 a2 a3=some r):Okc Xk 149 [pV B1 0,iV a1,(eI a2),iV a3] ([ah B1 170 [W A2 n2 c2,.map (some M3)],bf bA 166 (W A2 n2 c2) a0.Zw,bE er wx M3 a0.ZK]) (fun u post=> ∃A0 n0 c0 M1,u=.tuple #[iV r.1,iV r.2.1]/\post=[ah B1 170 [W A0 n0 c0,.map (some M1)],bf bA 166 (W A0 n0 c0) r.2.2.Zw,bE er wx M1 r.2.2.ZK]):=by
 refine ce Tryz.func149 ?_;intro B4;refine sY ?_
 refine cR h (fun _ k=>nq k) fun y5 h=> ?_
 refine gH J h ?_ ?_<;>intro h
 ·exact eY
 refine sY ?_
 refine cR h (fun _ k=>kR k) fun y7 h=> ?_
 refine gH J h ?_ ?_<;>intro h
 ·exact eY
 refine sY ?_
 refine cR h (fun _ k=>px k) fun y9 h=> ?_
 refine gH J h ?_ ?_<;>intro h
 ·exact eY
 refine ab ?_;refine gD (aw (R:=bA) (vss:=[[iV 0,iV a2.Zh,iV a2.N,.string a2.S,iV a3,iV 0]]) (xs:=[(⟨0,a2,a3,0⟩:W2)]) J (Dy _ _ _ _ _ _) J J (fun _ _ hr=> .cons J All2.nil)) ?_;rintro _ _ ⟨a6,a7,a8,rfl,rfl⟩;refine mP (bn 0 J) ?_;obtain ⟨b0,k,h⟩:=aa h;refine gD (oC (pu k)) ?_;rintro _ _ ⟨_,⟨b5,b6,b7,b9,rfl,rfl⟩,rfl⟩;exact eY
theorem xD {N:Nat}{a0:WR}{r:Int×Int×WR}(h:jq N a0 a1 a2 a3=some r):Okc Xk 149 [pV B1 0,iV a1,(eI a2),iV a3] ([oDTable B1 a0]) (fun u post=>u=.tuple #[iV r.1,iV r.2.1]/\post=[oDTable B1 r.2.2]):=Mk 0 rfl (fun _=>zS h)
def iC (a0:WV)(a1:WS)(a2:WZ):Option (WZ×WP):=
 bif decide (ai .i64 a1.Zk 8=0) then (some (a1.Value,a0.w_)) else ((bif decide (a2.Zh=9) then ((bR N a0.w_ a2).bind fun a7=>some (decide (a7.Zh=5))) else (some false)).bind fun a8=>bif a8 then ((aA N a0.w_ a2 (⟨5,0,0,0,([a1.Zx,a1.Zy]:List WZ),[]⟩:W3)).bind fun b0=>some (a2,b0)) else ((cV N a0.w_ (⟨5,0,0,0,([a1.Zx,a1.Zy]:List WZ),[]⟩:W3)).bind fun a6=>some (a6.1,a6.2)))
theorem nz {N:Nat}{a0:WV}{a1:WS}{a2:WZ}{r:WZ×WP}(h:iC N a0 a1 a2=some r){B4 B5 B6:Nat}:Okc Xk 150 [pV B1 0,(cm a1),(aF a2)] ([ah B1 135 [iV a0.Zu.Zh,iV a0.Zu.Zq,iV a0.Zu.Zm,iV a0.Zu.Zn,W A2 n2 c2,W A3 n3 c3,pV B4 0,iV a0.at_.Zh,iV a0.at_.N,.string a0.at_.S],bj A2 n2 c2 a0.Zu.Zj,bj A3 n3 c3 a0.Zu.Zi,oDWorld B4 B5 B6 a0.w_]) (fun u post=>u=.agg #[iV r.1.Zh,iV r.1.N,.string r.1.S]/\post=[oDWorld B4 B5 B6 r.2,ah B1 135 [iV a0.Zu.Zh,iV a0.Zu.Zq,iV a0.Zu.Zm,iV a0.Zu.Zn,W A2 n2 c2,W A3 n3 c3,pV B4 0,iV a0.at_.Zh,iV a0.at_.N,.string a0.at_.S],bj A2 n2 c2 a0.Zu.Zj,bj A3 n3 c3 a0.Zu.Zi]):=by
 refine ce Tryz.func150 ?_;intro B7
 refine cl fun B8=> ?_
 intro B9;refine sY ?_;refine fS (aP J J) ?_;refine gH J h ?_ ?_<;>intro h
 ·exact eY
 refine ab ?_
 refine sI (aw (R:=ay) (vss:=[(bU a1.Zx),(bU a1.Zy)]) (xs:=[a1.Zx,a1.Zy]) J (Kj _ _ _ _ _ _) J J (fun _ _ hr=> .cons J (.cons J All2.nil))) fun a8 b0 b5=> ?_
 intro b6;refine ab ?_;refine aB<|dY [0,1,2,3] ?_
 refine yJ [4,5,6,7,8,9,10,11,12] 0 23 32 h (fun _ a7 h rest=> ?_) (fun _ a7 h rest=> ?_) fun b7 h=> ?_
 ·refine yY [4,5,6,7,8] ?_;obtain ⟨b9,k,h⟩:=aa h;refine kI 9 J O (oR (jG k)) J (bW a7 J) J ?_;rintro _ _ ⟨_,⟨d0,d1,d2,d3,d4,d6,rfl,rfl⟩,rfl⟩;refine bL ?_;refine il 10 J O (PM J (PA _ _ _ _ _ _ _ _ _ _)) (bW a7 J) J<|yY [11,12] ?_;exact yS rest h
 ·refine yY [4,5,6,7,8,9,10,11,12] ?_;exact yS rest h
 refine aY O<|dk h (fun h=> ?_) (fun h=> ?_)
 ·refine aB<|be O ([ah b6 94 [iV 5,iV 0,iV 0,iV 0,W a8 b0 b5,W none 0 0],ah B9 28 [iV 0,iV 0,.string (⟨#[]⟩)],ah B8 28 (bU a2),ah B7 50 (co a1),ah B1 135 [iV a0.Zu.Zh,iV a0.Zu.Zq,iV a0.Zu.Zm,iV a0.Zu.Zn,W A2 n2 c2,W A3 n3 c3,pV B4 0,iV a0.at_.Zh,iV a0.at_.N,.string a0.at_.S],bj A2 n2 c2 a0.Zu.Zj,bj A3 n3 c3 a0.Zu.Zi]) (cS [0,2,3,4,5,6,7] 9) ?_;refine ab ?_;refine kM (bn 1 J) (cS [0,2,3,4,5,6,7] 9) ?_;obtain ⟨e0,k,h⟩:=aa h;refine kM (qL ay _) (cS [1,3,4,5,6,7,8] 10) ?_;refine zD 6 J (oC (dC k)) ?_;rintro _ _ ⟨_,⟨rfl,rfl⟩,rfl⟩;refine bL ?_;exact eY
 refine ab ?_;refine aB<|be O ([ah b6 94 [iV 5,iV 0,iV 0,iV 0,W a8 b0 b5,W none 0 0],ah B9 28 [iV 0,iV 0,.string (⟨#[]⟩)],ah B8 28 (bU a2),ah B7 50 (co a1),ah B1 135 [iV a0.Zu.Zh,iV a0.Zu.Zq,iV a0.Zu.Zm,iV a0.Zu.Zn,W A2 n2 c2,W A3 n3 c3,pV B4 0,iV a0.at_.Zh,iV a0.at_.N,.string a0.at_.S],bj A2 n2 c2 a0.Zu.Zj,bj A3 n3 c3 a0.Zu.Zi]) (cS [0,2,3,4,5,6,7] 9) ?_;refine ab ?_;refine kM (bn 1 J) (cS [0,2,3,4,5,6,7] 9) ?_;obtain ⟨a6,k,h⟩:=aa h;refine kM (qL ay _) (cS [1,3,4,5,6,7,8] 10) ?_;refine zD 5 J (oC (xK k)) ?_;rintro _ _ ⟨_,⟨rfl,rfl⟩,rfl⟩;refine bL ?_;refine gI 6 J O O (ao (us:=[iV a6.1.Zh,iV a6.1.N,.string a6.1.S]) (cs':=[iV a6.1.Zh,iV a6.1.N,.string a6.1.S]) 4 J J J J size28.out J J J) ?_;rintro _ _ rfl;exact eY
end
end Go.Proofs.YtmcifcmlojonnaaGreatDoor