/- Merged texts: part 5. No conditions of their own. -/
import Derived.Test.YtmcifcmlojonnaaGreatDoorG4
set_option maxHeartbeats 4000000
namespace Go.Proofs.YtmcifcmlojonnaaGreatDoor
variable (N:Nat){a1 a3:Int}{ff:Int->Option Bool}{vf:Value}{G:W6}{a0:WH}{a2:WP}
section
theorem Wu:type_of% Tryz.underlying211:=Tryz.underlying211
theorem Wt:type_of% Tryz.underlying4:=Tryz.underlying4
theorem Ws:type_of% Tryz.underlying252:=Tryz.underlying252
variable {A1 A2 A3 A5 A6 A7:Option Addr}{B1 B2 B3 B6 c1 c2 c3 c5 c6 c7 n1 n2 n3 n5 n6 n7:Nat}
open Go.RowKit Asn
set_option maxRecDepth 20000
def gQ (a2:Int)(p5:WV)(p6:Int):Option WV:=
 aG (in64 (a2 - p6)) ((cE N p5 (a2 - p6) a2 p6).bind fun a6=>some a6)
def cU (N:Nat)(a2:Int):Nat->WV->Int->Int->Option WV
 |0,_,_,_=>none
 |m7+1,p8,p9,a6=>bif !decide (p9=a6) then (bif decide (a6<p9) then (aG (in64 (a2 - p9)) ((cE N p8 (a2 - p9) a2 a6).bind fun a7=>aG (in64 (p9 - a6)) ((cU N a2 m7) a7 (p9 - a6) a6))) else (aG (in64 (a2 - p9)) (aG (in64 (a2+a6)) (aG (in64 ((a2+a6) - p9)) ((cE N p8 (a2 - p9) ((a2+a6) - p9) p9).bind fun a8=>aG (in64 (a6 - p9)) ((cU N a2 m7) a8 p9 (a6 - p9))))))) else (gQ N a2 p8 p9)
def eI (a0:WV)(a1 a2 a3:Int):Option WV:=
 aG (in64 (a2 - a1)) (aG (in64 (a3 - a2)) (cU N a2 N a0 (a2 - a1) (a3 - a2)))
theorem rL {N:Nat}{a0:WV}{a2:Int}{r:WV}(h:eI N a0 a1 a2 a3=some r):Okc W8 198 [W A1 n1 c1,iV a1,iV a2,iV a3,.func (.func 91) #[] #[]] ([nZ A1 n1 c1 a0]) (fun u post=>u=.tuple #[]/\post=[nZ A1 n1 c1 r]):=by
 refine ce Tryz.func198 ?_;obtain ⟨q2,h⟩:=ae h;refine ab ?_;obtain ⟨q3,h⟩:=ae h;refine ab ?_;refine ao (fun s L=> ∃p5 p6,gQ N a2 p5 p6=some r/\s=[(0,W A1 n1 c1),(2,iV a2),(4,.func (.func 91) #[] #[]),(10,iV p6)]/\L=[nZ A1 n1 c1 p5]) ?_ ?_
 ·refine ab ?_;refine lK (fun m s L=> ∃(p8:WV) (p9:Int) (a6:Int),cU N a2 m p8 p9 a6=some r/\s=[(0,W A1 n1 c1),(2,iV a2),(4,.func (.func 91) #[] #[]),(10,iV p9),(11,iV a6)]/\L=[nZ A1 n1 c1 p8]) N ?_;rintro m7 _ _ ⟨p8,p9,a6,h,rfl,rfl⟩;rw [cU.eq_2] at h;refine sZ ?_;refine gH J h ?_ ?_<;>intro h
  ·refine dr h ?_ ?_<;>intro h
   ·refine ab ?_;obtain ⟨a7,h⟩:=ae h
    refine cC h (fun _ k=>fm k) fun a8 h=> ?_
    obtain ⟨b0,h⟩:=ae h;exact lY
   refine ab ?_;obtain ⟨b5,h⟩:=ae h;refine ab ?_;obtain ⟨b6,h⟩:=ae h;refine ab ?_;obtain ⟨b7,h⟩:=ae h
   refine cC h (fun _ k=>fm k) fun b9 h=> ?_
   obtain ⟨d0,h⟩:=ae h;exact lY
  exact jY
 rintro _ _ ⟨p5,p6,h,rfl,rfl⟩;refine ab ?_;obtain ⟨d1,h⟩:=ae h
 refine cC h (fun _ k=>fm k) fun d2 h=> ?_
 exact eN
def cx (N:Nat)(a8:WV->Int->Int->Int->Option WV)(a3 a1 a2 a6:Int)(a7:WV):Option WV:=
 (bif decide ((IntKind.i64.wrap ((IntKind.u64.wrap (a1+a3)).fdiv (2 ^ 1)))<((IntKind.i64.wrap ((IntKind.u64.wrap (a1+a3)).fdiv (2 ^ 1)))+a2) - a6) then (some (decide (((IntKind.i64.wrap ((IntKind.u64.wrap (a1+a3)).fdiv (2 ^ 1)))+a2) - a6<a3))) else (some false)).bind fun b0=>bif b0 then ((a8 a7 (IntKind.i64.wrap ((IntKind.u64.wrap (a1+a3)).fdiv (2 ^ 1))) (((IntKind.i64.wrap ((IntKind.u64.wrap (a1+a3)).fdiv (2 ^ 1)))+a2) - a6) a3).bind fun b5=>some b5) else (some a7)
def cy (a7:WV->Int->Int->Int->Option WV)(a1 a3 a6 a2:Int)(a8:WV):Option WV:=
 (bif decide (a1<a6) then (some (decide (a6<(IntKind.i64.wrap ((IntKind.u64.wrap (a1+a3)).fdiv (2 ^ 1)))))) else (some false)).bind fun b0=>bif b0 then ((a7 a8 a1 a6 (IntKind.i64.wrap ((IntKind.u64.wrap (a1+a3)).fdiv (2 ^ 1)))).bind fun b5=>cx N a7 a3 a1 a2 a6 b5) else (cx N a7 a3 a1 a2 a6 a8)
def dj (a7:WV->Int->Int->Int->Option WV)(a1 a2 a3:Int)(a0:WV)(a6:Int):Option WV:=
 aG (in64 (((IntKind.i64.wrap ((IntKind.u64.wrap (a1+a3)).fdiv (2 ^ 1)))+a2) - a6)) ((bif decide (a6<a2) then (some (decide (a2<((IntKind.i64.wrap ((IntKind.u64.wrap (a1+a3)).fdiv (2 ^ 1)))+a2) - a6))) else (some false)).bind fun a8=>bif a8 then ((eI N a0 a6 a2 (((IntKind.i64.wrap ((IntKind.u64.wrap (a1+a3)).fdiv (2 ^ 1)))+a2) - a6)).bind fun b0=>cy N a7 a1 a3 a6 a2 b0) else (cy N a7 a1 a3 a6 a2 a0))
def cp (N:Nat)(a8:WV->Int->Int->Int->Option WV)(a1 a2 a3:Int)(a0:WV):Nat->Int->Int->Option WV
 |0,_,_=>none
 |b0+1,a6,a7=>bif decide (a6<a7) then (aG (in64 (a6+a7)) (aG (in64 ((((IntKind.i64.wrap ((IntKind.u64.wrap (a1+a3)).fdiv (2 ^ 1)))+a2) - 1) - (IntKind.i64.wrap ((IntKind.u64.wrap (a6+a7)).fdiv (2 ^ 1))))) ((au a0 ((((IntKind.i64.wrap ((IntKind.u64.wrap (a1+a3)).fdiv (2 ^ 1)))+a2) - 1) - (IntKind.i64.wrap ((IntKind.u64.wrap (a6+a7)).fdiv (2 ^ 1))))).bind fun b5=>(au a0 (IntKind.i64.wrap ((IntKind.u64.wrap (a6+a7)).fdiv (2 ^ 1)))).bind fun b6=>(nm N b5 b6).bind fun b7=>bif !(decide (b7<0)) then (aG (in64 ((IntKind.i64.wrap ((IntKind.u64.wrap (a6+a7)).fdiv (2 ^ 1)))+1)) ((cp N a8 a1 a2 a3 a0 b0) ((IntKind.i64.wrap ((IntKind.u64.wrap (a6+a7)).fdiv (2 ^ 1)))+1) a7)) else ((cp N a8 a1 a2 a3 a0 b0) a6 (IntKind.i64.wrap ((IntKind.u64.wrap (a6+a7)).fdiv (2 ^ 1))))))) else (dj N a8 a1 a2 a3 a0 a6)
def dk (a6:WV->Int->Int->Int->Option WV)(a1 a2 a3:Int)(a0:WV)(a7 a8:Int):Option WV:=
 aG (in64 (((IntKind.i64.wrap ((IntKind.u64.wrap (a1+a3)).fdiv (2 ^ 1)))+a2) - 1)) (cp N a6 a1 a2 a3 a0 N a7 a8)
def dl (a6:WV->Int->Int->Int->Option WV)(a1 a2 a3:Int)(a0:WV):Option WV:=
 aG (in64 (a1+a3)) (aG (in64 ((IntKind.i64.wrap ((IntKind.u64.wrap (a1+a3)).fdiv (2 ^ 1)))+a2)) (bif decide ((IntKind.i64.wrap ((IntKind.u64.wrap (a1+a3)).fdiv (2 ^ 1)))<a2) then (aG (in64 (((IntKind.i64.wrap ((IntKind.u64.wrap (a1+a3)).fdiv (2 ^ 1)))+a2) - a3)) (dk N a6 a1 a2 a3 a0 (((IntKind.i64.wrap ((IntKind.u64.wrap (a1+a3)).fdiv (2 ^ 1)))+a2) - a3) (IntKind.i64.wrap ((IntKind.u64.wrap (a1+a3)).fdiv (2 ^ 1))))) else (dk N a6 a1 a2 a3 a0 a1 a2)))
def cq (N:Nat)(b6:WV->Int->Int->Int->Option WV)(a1 a2 a3 b5:Int):Nat->WV->Int->Option WV
 |0,_,_=>none
 |b7+1,a7,a6=>bif decide (b5<a6) then (aG (in64 (a6 - 1)) (aG (in64 (a6 - 1)) ((au a7 (a6 - 1)).bind fun a8=>(au a7 a6).bind fun b0=>(au a7 a6).bind fun b9=>(au (List.set a7 a6.toNat (⟨a8.Za,a8.N,a8.S⟩:WP)) (a6 - 1)).bind fun d0=>aG (in64 (a6 - 1)) ((cq N b6 a1 a2 a3 b5 b7) (List.set (List.set a7 a6.toNat (⟨a8.Za,a8.N,a8.S⟩:WP)) ((a6 - 1).toNat) (⟨b0.Za,b0.N,b0.S⟩:WP)) (a6 - 1))))) else (some a7)
def fk (a6:WV->Int->Int->Int->Option WV)(a1 a2 a3:Int)(a0:WV)(a7:Int):Option WV:=
 cq N a6 a1 a2 a3 a7 N a0 a2
def cr (N:Nat)(a8:WV->Int->Int->Int->Option WV)(a1 a2 a3:Int)(a0:WV):Nat->Int->Int->Option WV
 |0,_,_=>none
 |b0+1,a6,a7=>bif decide (a6<a7) then (aG (in64 (a6+a7)) ((au a0 a2).bind fun b5=>(au a0 (IntKind.i64.wrap ((IntKind.u64.wrap (a6+a7)).fdiv (2 ^ 1)))).bind fun b6=>(nm N b5 b6).bind fun b7=>bif !(decide (b7<0)) then (aG (in64 ((IntKind.i64.wrap ((IntKind.u64.wrap (a6+a7)).fdiv (2 ^ 1)))+1)) ((cr N a8 a1 a2 a3 a0 b0) ((IntKind.i64.wrap ((IntKind.u64.wrap (a6+a7)).fdiv (2 ^ 1)))+1) a7)) else ((cr N a8 a1 a2 a3 a0 b0) a6 (IntKind.i64.wrap ((IntKind.u64.wrap (a6+a7)).fdiv (2 ^ 1)))))) else (fk N a8 a1 a2 a3 a0 a6)
def dt (a6:WV->Int->Int->Int->Option WV)(a1 a2 a3:Int)(a0:WV):Option WV:=
 aG (in64 (a3 - a2)) (bif decide (a3 - a2=1) then (cr N a6 a1 a2 a3 a0 N a1 a2) else (dl N a6 a1 a2 a3 a0))
def cu (N:Nat)(b5:WV->Int->Int->Int->Option WV)(a1 a2 a3 p7:Int):Nat->WV->Int->Option WV
 |0,_,_=>none
 |b6+1,a7,a6=>aG (in64 (p7 - 1)) (bif decide (a6<p7 - 1) then (aG (in64 (a6+1)) (aG (in64 (a6+1)) ((au a7 (a6+1)).bind fun a8=>(au a7 a6).bind fun b0=>(au a7 a6).bind fun b7=>(au (List.set a7 a6.toNat (⟨a8.Za,a8.N,a8.S⟩:WP)) (a6+1)).bind fun b9=>aG (in64 (a6+1)) ((cu N b5 a1 a2 a3 p7 b6) (List.set (List.set a7 a6.toNat (⟨a8.Za,a8.N,a8.S⟩:WP)) ((a6+1).toNat) (⟨b0.Za,b0.N,b0.S⟩:WP)) (a6+1))))) else (some a7))
def fV (a6:WV->Int->Int->Int->Option WV)(a1 a2 a3:Int)(a0:WV)(p7:Int):Option WV:=
 cu N a6 a1 a2 a3 p7 N a0 a1
def bV (N:Nat)(a7:WV->Int->Int->Int->Option WV)(a1 a2 a3:Int)(a0:WV):Nat->Int->Int->Option WV
 |0,_,_=>none
 |m8+1,p9,a6=>bif decide (p9<a6) then (aG (in64 (p9+a6)) ((au a0 (IntKind.i64.wrap ((IntKind.u64.wrap (p9+a6)).fdiv (2 ^ 1)))).bind fun a8=>(au a0 a1).bind fun b0=>(nm N a8 b0).bind fun b5=>bif decide (b5<0) then (aG (in64 ((IntKind.i64.wrap ((IntKind.u64.wrap (p9+a6)).fdiv (2 ^ 1)))+1)) ((bV N a7 a1 a2 a3 a0 m8) ((IntKind.i64.wrap ((IntKind.u64.wrap (p9+a6)).fdiv (2 ^ 1)))+1) a6)) else ((bV N a7 a1 a2 a3 a0 m8) p9 (IntKind.i64.wrap ((IntKind.u64.wrap (p9+a6)).fdiv (2 ^ 1)))))) else (fV N a7 a1 a2 a3 a0 p9)
def ak (N:Nat):Nat->WV->Int->Int->Int->Option WV
 |0,_,_,_,_=>none
 |m2+1,a0,a1,a2,a3=>aG (in64 (a2 - a1)) (bif decide (a2 - a1=1) then (bV N (ak N m2) a1 a2 a3 a0 N a2 a3) else (dt N (ak N m2) a1 a2 a3 a0))
theorem jS {N m2:Nat}{a0:WV}{a2:Int}:ak N (m2+1) a0 a1 a2 a3=aG (in64 (a2 - a1)) (bif decide (a2 - a1=1) then (bV N (ak N m2) a1 a2 a3 a0 N a2 a3) else (dt N (ak N m2) a1 a2 a3 a0)):=rfl
def bl (a0:WV)(a1 a2 a3:Int):Option WV:=ak N N a0 a1 a2 a3
theorem pS {N:Nat}: ∀(m0:Nat) {a0:WV} {a1:Int} {a2:Int} {a3:Int} {r:WV} (h:ak N m0 a0 a1 a2 a3=some r) {A1:Option Addr} {n1 c1:Nat},Okc W8 173 [W A1 n1 c1,iV a1,iV a2,iV a3,.func (.func 91) #[] #[]] ([nZ A1 n1 c1 a0]) (fun u post=>u=.tuple #[]/\post=[nZ A1 n1 c1 r]):=by
 intro m0
 induction m0 with
 |zero=>intro a0 a1 a2 a3 r h A1 n1 c1;exact aU h
 | succ m2 ih=>
  intro a0 a1 a2 a3 r h A1 n1 c1;rw [jS] at h;refine CZ Tryz.func173 J J ?_;simp only [qM];refine ao (fun s L=>dt N (ak N m2) a1 a2 a3 a0=some r/\s=[(0,W A1 n1 c1),(1,iV a1),(2,iV a2),(3,iV a3),(4,.func (.func 91) #[] #[])]/\L=[nZ A1 n1 c1 a0]) ?_ ?_
  ·refine ab ?_;obtain ⟨q4,h⟩:=ae h;refine dr h ?_ ?_<;>intro h
   ·refine ab ?_;refine ao (fun s L=> ∃p7,fV N (ak N m2) a1 a2 a3 a0 p7=some r/\s=[(0,W A1 n1 c1),(1,iV a1),(2,iV a2),(3,iV a3),(4,.func (.func 91) #[] #[]),(10,iV p7)]/\L=[nZ A1 n1 c1 a0]) ?_ ?_
    ·refine ab ?_;refine lK (fun m s L=> ∃(p9:Int) (e2:Int),bV N (ak N m2) a1 a2 a3 a0 m p9 e2=some r/\s=[(0,W A1 n1 c1),(1,iV a1),(2,iV a2),(3,iV a3),(4,.func (.func 91) #[] #[]),(10,iV p9),(11,iV e2)]/\L=[nZ A1 n1 c1 a0]) N ?_;rintro m8 _ _ ⟨p9,e2,h,rfl,rfl⟩;rw [bV.eq_2] at h;refine sZ ?_;refine gH J h ?_ ?_<;>intro h
     ·refine ab ?_;obtain ⟨j4,h⟩:=ae h;refine ab ?_;refine gE (xe J J Ws)<|gE (IC (v:=(IntKind.u64.wrap (p9+e2)).fdiv (2 ^ 1)) J J (fun _=>J))<|ga (xe J J Wo) ?_;refine dY [] ?_;refine ab ?_;obtain ⟨j5,h6,h7,h8,h⟩:=bz h;refine ab ?_;obtain ⟨j6,h9,i0,i1,h⟩:=bz h;refine ab ?_;obtain ⟨j7,k,h⟩:=aa h;refine zD 9 J (kU (sU k) J J J (aw) qn) ?_;rintro _ _ ⟨_,⟨rfl,rfl⟩,rfl⟩;refine ⟨_,ad _,ad _,?_⟩;refine dr h ?_ ?_<;>intro h
      ·refine ab ?_;obtain ⟨j8,h⟩:=ae h;exact lY
      exact lY
     exact jY
    rintro _ _ ⟨p7,h,rfl,rfl⟩;refine sZ ?_;refine lK (fun m s L=> ∃(e3:WV) (a6:Int),cu N (ak N m2) a1 a2 a3 p7 m e3 a6=some r/\s=[(0,W A1 n1 c1),(1,iV a1),(2,iV a2),(3,iV a3),(4,.func (.func 91) #[] #[]),(10,iV p7),(13,iV a6)]/\L=[nZ A1 n1 c1 e3]) N ?_;rintro j9 _ _ ⟨e3,a6,h,rfl,rfl⟩;rw [cu.eq_2] at h;refine sZ ?_;obtain ⟨k0,h⟩:=ae h;refine dr h ?_ ?_<;>intro h
    ·refine sY ?_;obtain ⟨e4,h⟩:=ae h;obtain ⟨h4,h⟩:=ae h;obtain ⟨a7,f1,f2,f3,h⟩:=bz h;obtain ⟨a8,f4,f6,f9,h⟩:=bz h;refine gI (t:=[(0,W A1 n1 c1),(1,iV a1),(2,iV a2),(3,iV a3),(4,.func (.func 91) #[] #[]),(10,iV p7),(13,iV a6)]) ?_ mc (ad _)
     refine iQ O 14 [2,3,4] [0,1,2,4,9,13] [61,62,63,64,65,66,67,68,69,70,71,72,73,74] [[],[],[],[],[3],[],[],[6],[5,7],[8],[],[],[10,11],[12]] [aV (W A1 n1 c1),
aV (iV a6),
aV (W A1 n1 c1),
aV (iV a6),
aV (iV (a6+1)),
aV (W A1 n1 c1),
aV (iV a6),
aV (iV (a6+1)),
aV (dD (W A1 n1 c1) ((a6+1).toNat) 3 0),
aV (.agg #[iV a7.Za,iV a7.N,.string a7.S]),
aV (W A1 n1 c1),
aV (iV a6),
aV (dD (W A1 n1 c1) a6.toNat 3 0),
aV (.agg #[iV a8.Za,iV a8.N,.string a8.S])] [] (ad _) (fB rfl (fB rfl (fB rfl lV))) O rfl rfl ?_ ?_ ?_
     ·exact fA J (nz (aq J) J (iH J (ad _)))<|fA J (nz (aq J) J (iH J (ad _)))<|fA J (nz (iN J J e4.1 e4.2) J (iH J (ad _)))<|lU
     ·refine aF J (yQ (eU (us:=[iV a8.Za,iV a8.N,.string a8.S]) 0 J ap J f9 agg39.out (fun _ _ _ h=>by rw [show _=_ from h];rfl)) J (iH J (ad _)))<|qR (cT 0 J ap J J EM size39.out f4 f6) ?_;refine qE (aq J) ?_;refine qE (aq J) ?_;refine aF J (yQ (eU (us:=[iV a7.Za,iV a7.N,.string a7.S]) 0 J ap J f3 agg39.out (fun _ _ _ h=>by rw [show _=_ from h];rfl)) J (iH J (ad _)))<|qR (cT 0 J ap J J EM size39.out f1 f2) ?_;refine qE (iN J J h4.1 h4.2) ?_;refine qE (aq J) ?_;refine qE (aq J) ?_;refine qE (iN J J e4.1 e4.2) ?_;refine qE (aq J) ?_;refine qE (aq J) ?_;refine qE (aq J) ?_;refine qE (aq J) ?_;exact dI
     refine oa (t:=[(61,W A1 n1 c1),(62,iV a6),(63,W A1 n1 c1),(65,iV (a6+1)),(70,.agg #[iV a7.Za,iV a7.N,.string a7.S]),(74,.agg #[iV a8.Za,iV a8.N,.string a8.S]),(0,W A1 n1 c1),(1,iV a1),(2,iV a2),(3,iV a3),(4,.func (.func 91) #[] #[]),(10,iV p7),(13,iV a6)]) (L':=[nZ A1 n1 c1 e3]) ?_ mc (ad _);obtain ⟨k1,d0,d1,g0,h⟩:=bz h;refine J9 14 J O (cT 0 J ap J J EM size39.out d0 d1) J J J<|pL 15 J O (cg (us:=[iV a7.Za,iV a7.N,.string a7.S]) (z:=(⟨a7.Za,a7.N,a7.S⟩:WP)) 0 J J J J size39.out J (toNat_lt d0 d1) J (fun S w vs xk hk hr ho=>by obtain rfl:=YL (hk.symm.trans g0);rw [show _=_ from hr];rfl)) J J ?_;rintro _ _ rfl;refine Ab ?_;obtain ⟨k2,d2,d3,g1,h⟩:=bz h;refine J9 16 J O (cT 0 J ap J J EM size39.out d2 d3) J J J<|pL 17 J O (cg (us:=[iV a8.Za,iV a8.N,.string a8.S]) (z:=(⟨a8.Za,a8.N,a8.S⟩:WP)) 0 J J J J size39.out J (toNat_lt d2 d3) J (fun S w vs xk hk hr ho=>by obtain rfl:=YL (hk.symm.trans g1);rw [show _=_ from hr];rfl)) J J ?_;rintro _ _ rfl;refine Ab ?_;refine mb O<|ab ?_;obtain ⟨k3,h⟩:=ae h;exact lY
    exact eY
   exact jY
  rintro _ _ ⟨h,rfl,rfl⟩;refine ao (fun s L=>dl N (ak N m2) a1 a2 a3 a0=some r/\s=[(0,W A1 n1 c1),(1,iV a1),(2,iV a2),(3,iV a3),(4,.func (.func 91) #[] #[])]/\L=[nZ A1 n1 c1 a0]) ?_ ?_
  ·refine ab ?_;obtain ⟨k4,h⟩:=ae h;refine dr h ?_ ?_<;>intro h
   ·refine ab ?_;refine ao (fun s L=> ∃b9,fk N (ak N m2) a1 a2 a3 a0 b9=some r/\s=[(0,W A1 n1 c1),(1,iV a1),(2,iV a2),(3,iV a3),(4,.func (.func 91) #[] #[]),(14,iV b9)]/\L=[nZ A1 n1 c1 a0]) ?_ ?_
    ·refine ab ?_;refine lK (fun m s L=> ∃(e5:Int) (e6:Int),cr N (ak N m2) a1 a2 a3 a0 m e5 e6=some r/\s=[(0,W A1 n1 c1),(1,iV a1),(2,iV a2),(3,iV a3),(4,.func (.func 91) #[] #[]),(14,iV e5),(15,iV e6)]/\L=[nZ A1 n1 c1 a0]) N ?_;rintro k5 _ _ ⟨e5,e6,h,rfl,rfl⟩;rw [cr.eq_2] at h;refine sZ ?_;refine gH J h ?_ ?_<;>intro h
     ·refine ab ?_;obtain ⟨k6,h⟩:=ae h;refine ab ?_;refine gE (xe J J Ws)<|gE (IC (v:=(IntKind.u64.wrap (e5+e6)).fdiv (2 ^ 1)) J J (fun _=>J))<|ga (xe J J Wo) ?_;refine dY [] ?_;refine ab ?_;obtain ⟨k7,i2,i3,i4,h⟩:=bz h;refine ab ?_;obtain ⟨k8,i5,i6,i7,h⟩:=bz h;refine ab ?_;obtain ⟨k9,k,h⟩:=aa h;refine zD 9 J (kU (sU k) J J J (aw) qn) ?_;rintro _ _ ⟨_,⟨rfl,rfl⟩,rfl⟩;refine ⟨_,ad _,ad _,?_⟩;refine dr h ?_ ?_<;>intro h
      ·refine ab ?_;obtain ⟨l0,h⟩:=ae h;exact lY
      exact lY
     exact jY
    rintro _ _ ⟨b9,h,rfl,rfl⟩;refine sZ ?_;refine lK (fun m s L=> ∃(e7:WV) (b0:Int),cq N (ak N m2) a1 a2 a3 b9 m e7 b0=some r/\s=[(0,W A1 n1 c1),(1,iV a1),(2,iV a2),(3,iV a3),(4,.func (.func 91) #[] #[]),(14,iV b9),(17,iV b0)]/\L=[nZ A1 n1 c1 e7]) N ?_;rintro l1 _ _ ⟨e7,b0,h,rfl,rfl⟩;rw [cq.eq_2] at h;refine sZ ?_;refine gH J h ?_ ?_<;>intro h
    ·refine sY ?_;obtain ⟨e8,h⟩:=ae h;obtain ⟨h5,h⟩:=ae h;obtain ⟨b5,g2,g3,g4,h⟩:=bz h;obtain ⟨b6,g5,g6,g7,h⟩:=bz h;refine gI (t:=[(0,W A1 n1 c1),(1,iV a1),(2,iV a2),(3,iV a3),(4,.func (.func 91) #[] #[]),(14,iV b9),(17,iV b0)]) ?_ mc (ad _)
     refine iQ O 14 [2,3,4] [0,1,2,4,9,13] [113,114,115,116,117,118,119,120,121,122,123,124,125,126] [[],[],[],[],[3],[],[],[6],[5,7],[8],[],[],[10,11],[12]] [aV (W A1 n1 c1),
aV (iV b0),
aV (W A1 n1 c1),
aV (iV b0),
aV (iV (b0 - 1)),
aV (W A1 n1 c1),
aV (iV b0),
aV (iV (b0 - 1)),
aV (dD (W A1 n1 c1) ((b0 - 1).toNat) 3 0),
aV (.agg #[iV b5.Za,iV b5.N,.string b5.S]),
aV (W A1 n1 c1),
aV (iV b0),
aV (dD (W A1 n1 c1) b0.toNat 3 0),
aV (.agg #[iV b6.Za,iV b6.N,.string b6.S])] [] (ad _) (fB rfl (fB rfl (fB rfl lV))) O rfl rfl ?_ ?_ ?_
     ·exact fA J (nz (aq J) J (iH J (ad _)))<|fA J (nz (aq J) J (iH J (ad _)))<|fA J (nz (wP J J e8.1 e8.2) J (iH J (ad _)))<|lU
     ·refine aF J (yQ (eU (us:=[iV b6.Za,iV b6.N,.string b6.S]) 0 J ap J g7 agg39.out (fun _ _ _ h=>by rw [show _=_ from h];rfl)) J (iH J (ad _)))<|qR (cT 0 J ap J J EM size39.out g5 g6) ?_;refine qE (aq J) ?_;refine qE (aq J) ?_;refine aF J (yQ (eU (us:=[iV b5.Za,iV b5.N,.string b5.S]) 0 J ap J g4 agg39.out (fun _ _ _ h=>by rw [show _=_ from h];rfl)) J (iH J (ad _)))<|qR (cT 0 J ap J J EM size39.out g2 g3) ?_;refine qE (wP J J h5.1 h5.2) ?_;refine qE (aq J) ?_;refine qE (aq J) ?_;refine qE (wP J J e8.1 e8.2) ?_;refine qE (aq J) ?_;refine qE (aq J) ?_;refine qE (aq J) ?_;refine qE (aq J) ?_;exact dI
     refine oa (t:=[(113,W A1 n1 c1),(114,iV b0),(115,W A1 n1 c1),(117,iV (b0 - 1)),(122,.agg #[iV b5.Za,iV b5.N,.string b5.S]),(126,.agg #[iV b6.Za,iV b6.N,.string b6.S]),(0,W A1 n1 c1),(1,iV a1),(2,iV a2),(3,iV a3),(4,.func (.func 91) #[] #[]),(14,iV b9),(17,iV b0)]) (L':=[nZ A1 n1 c1 e7]) ?_ mc (ad _);obtain ⟨l2,d4,d6,g8,h⟩:=bz h;refine J9 14 J O (cT 0 J ap J J EM size39.out d4 d6) J J J<|pL 15 J O (cg (us:=[iV b5.Za,iV b5.N,.string b5.S]) (z:=(⟨b5.Za,b5.N,b5.S⟩:WP)) 0 J J J J size39.out J (toNat_lt d4 d6) J (fun S w vs xk hk hr ho=>by obtain rfl:=YL (hk.symm.trans g8);rw [show _=_ from hr];rfl)) J J ?_;rintro _ _ rfl;refine Ab ?_;obtain ⟨l3,e0,e1,g9,h⟩:=bz h;refine J9 16 J O (cT 0 J ap J J EM size39.out e0 e1) J J J<|pL 17 J O (cg (us:=[iV b6.Za,iV b6.N,.string b6.S]) (z:=(⟨b6.Za,b6.N,b6.S⟩:WP)) 0 J J J J size39.out J (toNat_lt e0 e1) J (fun S w vs xk hk hr ho=>by obtain rfl:=YL (hk.symm.trans g9);rw [show _=_ from hr];rfl)) J J ?_;rintro _ _ rfl;refine Ab ?_;refine mb O<|ab ?_;obtain ⟨l4,h⟩:=ae h;exact lY
    exact eY
   exact jY
  rintro _ _ ⟨h,rfl,rfl⟩;refine ab ?_;obtain ⟨l5,h⟩:=ae h;refine ab ?_;refine gE (xe J J Ws)<|gE (IC (v:=(IntKind.u64.wrap (a1+a3)).fdiv (2 ^ 1)) J J (fun _=>J))<|ga (xe J J Wo) ?_;obtain ⟨l6,h⟩:=ae h;refine ab ?_;refine ao (fun s L=> ∃h0 h1,dk N (ak N m2) a1 a2 a3 a0 h0 h1=some r/\s=[(0,W A1 n1 c1),(1,iV a1),(2,iV a2),(3,iV a3),(4,.func (.func 91) #[] #[]),(18,iV (IntKind.i64.wrap ((IntKind.u64.wrap (a1+a3)).fdiv (2 ^ 1)))),(19,iV ((IntKind.i64.wrap ((IntKind.u64.wrap (a1+a3)).fdiv (2 ^ 1)))+a2)),(20,iV h0),(21,iV h1)]/\L=[nZ A1 n1 c1 a0]) ?_ ?_
  ·refine dr h ?_ ?_<;>intro h
   ·refine ab ?_;obtain ⟨l7,h⟩:=ae h;exact jY
   exact jY
  rintro _ _ ⟨h0,h1,h,rfl,rfl⟩;refine ab ?_;obtain ⟨l8,h⟩:=ae h;refine ab ?_;refine ao (fun s L=> ∃b7,dj N (ak N m2) a1 a2 a3 a0 b7=some r/\s=[(0,W A1 n1 c1),(1,iV a1),(2,iV a2),(3,iV a3),(4,.func (.func 91) #[] #[]),(18,iV (IntKind.i64.wrap ((IntKind.u64.wrap (a1+a3)).fdiv (2 ^ 1)))),(19,iV ((IntKind.i64.wrap ((IntKind.u64.wrap (a1+a3)).fdiv (2 ^ 1)))+a2)),(20,iV b7)]/\L=[nZ A1 n1 c1 a0]) ?_ ?_
  ·refine ab ?_;refine lK (fun m s L=> ∃(e9:Int) (f0:Int),cp N (ak N m2) a1 a2 a3 a0 m e9 f0=some r/\s=[(0,W A1 n1 c1),(1,iV a1),(2,iV a2),(3,iV a3),(4,.func (.func 91) #[] #[]),(18,iV (IntKind.i64.wrap ((IntKind.u64.wrap (a1+a3)).fdiv (2 ^ 1)))),(19,iV ((IntKind.i64.wrap ((IntKind.u64.wrap (a1+a3)).fdiv (2 ^ 1)))+a2)),(20,iV e9),(21,iV f0),(22,iV (((IntKind.i64.wrap ((IntKind.u64.wrap (a1+a3)).fdiv (2 ^ 1)))+a2) - 1))]/\L=[nZ A1 n1 c1 a0]) N ?_;rintro l9 _ _ ⟨e9,f0,h,rfl,rfl⟩;rw [cp.eq_2] at h;refine sZ ?_;refine gH J h ?_ ?_<;>intro h
   ·refine ab ?_;obtain ⟨m1,h⟩:=ae h;refine ab ?_;refine gE (xe J J Ws)<|gE (IC (v:=(IntKind.u64.wrap (e9+f0)).fdiv (2 ^ 1)) J J (fun _=>J))<|ga (xe J J Wo) ?_;refine dY [] ?_;refine ab ?_;obtain ⟨m3,h⟩:=ae h;refine ab ?_;obtain ⟨m4,i8,i9,j0,h⟩:=bz h;refine ab ?_;obtain ⟨m5,j1,j2,j3,h⟩:=bz h;refine ab ?_;obtain ⟨m6,k,h⟩:=aa h;refine zD 11 J (kU (sU k) J J J (aw) qn) ?_;rintro _ _ ⟨_,⟨rfl,rfl⟩,rfl⟩;refine ⟨_,ad _,ad _,?_⟩;refine dr h ?_ ?_<;>intro h
    ·refine ab ?_;obtain ⟨m7,h⟩:=ae h;exact lY
    exact lY
   exact jY
  rintro _ _ ⟨b7,h,rfl,rfl⟩;refine ab ?_;obtain ⟨m9,h⟩:=ae h;refine ab ?_;refine ao (fun s L=> ∃h2,cy N (ak N m2) a1 a3 b7 a2 h2=some r/\s=[(0,W A1 n1 c1),(1,iV a1),(3,iV a3),(4,.func (.func 91) #[] #[]),(18,iV (IntKind.i64.wrap ((IntKind.u64.wrap (a1+a3)).fdiv (2 ^ 1)))),(20,iV b7),(24,iV (((IntKind.i64.wrap ((IntKind.u64.wrap (a1+a3)).fdiv (2 ^ 1)))+a2) - b7))]/\L=[nZ A1 n1 c1 h2]) ?_ ?_
  ·refine ab ?_;refine gS 4 185 181 h ?_;intro n0 h;refine dr h ?_ ?_<;>intro h
   ·refine cC h (fun _ k=>rL k) fun o0 h=> ?_
    exact jN
   exact jY
  rintro _ _ ⟨h2,h,rfl,rfl⟩;refine ao (fun s L=> ∃h3,cx N (ak N m2) a3 a1 a2 b7 h3=some r/\s=[(0,W A1 n1 c1),(3,iV a3),(4,.func (.func 91) #[] #[]),(18,iV (IntKind.i64.wrap ((IntKind.u64.wrap (a1+a3)).fdiv (2 ^ 1)))),(24,iV (((IntKind.i64.wrap ((IntKind.u64.wrap (a1+a3)).fdiv (2 ^ 1)))+a2) - b7))]/\L=[nZ A1 n1 c1 h3]) ?_ ?_
  ·refine ab ?_;refine gS 4 199 195 h ?_;intro o1 h;refine dr h ?_ ?_<;>intro h
   ·refine cC h (fun _ k=>ih k) fun o2 h=> ?_
    exact jN
   exact jY
  rintro _ _ ⟨h3,h,rfl,rfl⟩;refine ab ?_;refine gS 4 213 209 h ?_;intro p1 h;refine dr h ?_ ?_<;>intro h
  ·refine cC h (fun _ k=>ih k) fun p2 h=> ?_
   exact eN
  exact eY
theorem bU {N:Nat}{a0:WV}{a2:Int}{r:WV}(h:bl N a0 a1 a2 a3=some r):Okc W8 173 [W A1 n1 c1,iV a1,iV a2,iV a3,.func (.func 91) #[] #[]] ([nZ A1 n1 c1 a0]) (fun u post=>u=.tuple #[]/\post=[nZ A1 n1 c1 r]):=pS N h
def gl (N:Nat)(a6:WV->Int->Option WV)(a1 a7:Int)(a8:WV):Option WV:=
 aG (in64 (a7*2)) (a6 a8 (a7*2))
def qQ (a6:WV->Int->Option WV)(a1 a7:Int)(p15:WV):Option WV:=
 aG (in64 (0+a7)) (bif decide (0+a7<a1) then ((bl N p15 0 (0+a7) a1).bind fun a8=>gl N a6 a1 a7 a8) else (gl N a6 a1 a7 p15))
def gk (N:Nat)(a6:WV->Int->Option WV)(a1 a7:Int)(a8:WV):Option WV:=
 aG (in64 (a7*2)) (a6 a8 (a7*2))
def kO (a6:WV->Int->Option WV)(a1 a7:Int)(p21:WV)(a8:Int):Option WV:=
 aG (in64 (a8+a7)) (bif decide (a8+a7<a1) then ((bl N p21 a8 (a8+a7) a1).bind fun b0=>gk N a6 a1 a7 b0) else (gk N a6 a1 a7 p21))
def gg (N:Nat)(a7:WV->Int->Option WV)(a1 a6:Int):Nat->WV->Int->Int->Option WV
 |0,_,_,_=>none
 |b6+1,b5,b0,a8=>bif decide (a8<=a1) then (aG (in64 (b0+a6)) ((bl N b5 b0 (b0+a6) a8).bind fun b7=>aG (in64 (2*a6)) (aG (in64 (a8+(2*a6))) ((gg N a7 a1 a6 b6) b7 a8 (a8+(2*a6)))))) else (kO N a7 a1 a6 b5 b0)
def bm (N:Nat)(a1:Int):Nat->WV->Int->Option WV
 |0,_,_=>none
 |a7+1,p15,a6=>bif decide (a6<a1) then (aG (in64 (2*a6)) (gg N (bm N a1 a7) a1 a6 N p15 0 (2*a6))) else (some p15)
def rK (a1:Int)(a0:WV):Option WV:=
 (bD N a0 0 a1).bind fun a6=>bm N a1 N a6 20
def gi (N:Nat)(a6:WV->Int->Option WV)(a1 a7:Int)(a8:WV):Option WV:=
 aG (in64 (a7*2)) (a6 a8 (a7*2))
def qP (a6:WV->Int->Option WV)(a1 a7:Int)(a8:WV):Option WV:=
 aG (in64 (0+a7)) (bif decide (0+a7<a1) then ((bl N a8 0 (0+a7) a1).bind fun b0=>gi N a6 a1 a7 b0) else (gi N a6 a1 a7 a8))
def dK (N:Nat)(a6:WV->Int->Option WV)(a1 a7:Int)(a8:WV):Option WV:=
 aG (in64 (a7*2)) (a6 a8 (a7*2))
def gj (a6:WV->Int->Option WV)(a1 a7:Int)(b0:WV)(a8:Int):Option WV:=
 aG (in64 (a8+a7)) (bif decide (a8+a7<a1) then ((bl N b0 a8 (a8+a7) a1).bind fun b5=>dK N a6 a1 a7 b5) else (dK N a6 a1 a7 b0))
def dJ (N:Nat)(a7:WV->Int->Option WV)(a1 a6:Int):Nat->WV->Int->Int->Option WV
 |0,_,_,_=>none
 |b6+1,b5,b0,a8=>bif decide (a8<=a1) then (aG (in64 (b0+a6)) ((bl N b5 b0 (b0+a6) a8).bind fun b7=>aG (in64 (2*a6)) (aG (in64 (a8+(2*a6))) ((dJ N a7 a1 a6 b6) b7 a8 (a8+(2*a6)))))) else (gj N a7 a1 a6 b5 b0)
def aH (N:Nat)(a1:Int):Nat->WV->Int->Option WV
 |0,_,_=>none
 |a8+1,a7,a6=>bif decide (a6<a1) then (aG (in64 (2*a6)) (dJ N (aH N a1 a8) a1 a6 N a7 0 (2*a6))) else (some a7)
def gP (a1:Int)(p4:WV)(p5:Int):Option WV:=
 (bD N p4 p5 a1).bind fun a6=>aH N a1 N a6 20
def dZ (N:Nat)(a1:Int):Nat->WV->Int->Int->Option WV
 |0,_,_,_=>none
 |m6+1,p7,p8,p9=>bif decide (p9<=a1) then ((bD N p7 p8 p9).bind fun a6=>aG (in64 (p9+20)) ((dZ N a1 m6) a6 p9 (p9+20))) else (gP N a1 p7 p8)
def iq (a0:WV)(a1:Int):Option WV:=
 dZ N a1 N a0 0 20
theorem rJ {N:Nat}{a0 r:WV}(h:iq N a0 a1=some r):Okc W8 131 [W A1 n1 c1,iV a1,.func (.func 91) #[] #[]] ([nZ A1 n1 c1 a0]) (fun u post=>u=.tuple #[]/\post=[nZ A1 n1 c1 r]):=by
 refine ce Tryz.func131 ?_;refine ao (fun s L=>(rK N a1 a0=some r/\s=[(0,W A1 n1 c1),(1,iV a1),(2,.func (.func 91) #[] #[]),(6,iV 20),(7,iV 0)]/\L=[nZ A1 n1 c1 a0])\/(∃p4 p5,gP N a1 p4 p5=some r/\s=[(0,W A1 n1 c1),(1,iV a1),(2,.func (.func 91) #[] #[]),(6,iV 20),(7,iV p5)]/\L=[nZ A1 n1 c1 p4])) ?_ ?_
 ·refine ab ?_;refine lK (fun m s L=> ∃(p7:WV) (p8:Int) (p9:Int),dZ N a1 m p7 p8 p9=some r/\s=[(0,W A1 n1 c1),(1,iV a1),(2,.func (.func 91) #[] #[]),(6,iV 20),(7,iV p8),(8,iV p9)]/\L=[nZ A1 n1 c1 p7]) N ?_;rintro m6 _ _ ⟨p7,p8,p9,h,rfl,rfl⟩;rw [dZ.eq_2] at h;refine sZ ?_;refine gH J h ?_ ?_<;>intro h
  ·refine cC h (fun _ k=>dQ k) fun f2 h=> ?_
   obtain ⟨f3,h⟩:=ae h;exact lY
  refine ab ?_;exact ⟨_,_,.inr (⟨p7,p8,h,J,J⟩),sA,cS [0] 1⟩
 rintro _ _ (⟨h,rfl,rfl⟩|⟨p4,p5,h,rfl,rfl⟩)
 ·refine cC h (fun _ k=>dQ k) fun f4 h=> ?_
  refine lK (fun m s L=> ∃(p15:WV) (a6:Int),bm N a1 m p15 a6=some r/\s=[(0,W A1 n1 c1),(1,iV a1),(2,.func (.func 91) #[] #[]),(6,iV a6)]/\L=[nZ A1 n1 c1 p15]) N ?_;rintro a8 _ _ ⟨p15,a6,h,rfl,rfl⟩;rw [bm.eq_2] at h;refine sZ ?_;refine gH J h ?_ ?_<;>intro h
  ·refine ab ?_;obtain ⟨e4,h⟩:=ae h;refine ga (rg J J e4.1 e4.2) ?_;refine ao (fun s L=>(qQ N (bm N a1 a8) a1 a6 p15=some r/\s=[(0,W A1 n1 c1),(1,iV a1),(2,.func (.func 91) #[] #[]),(6,iV a6),(7,iV 0)]/\L=[nZ A1 n1 c1 p15])\/(∃p21 d1,kO N (bm N a1 a8) a1 a6 p21 d1=some r/\s=[(0,W A1 n1 c1),(1,iV a1),(2,.func (.func 91) #[] #[]),(6,iV a6),(7,iV d1)]/\L=[nZ A1 n1 c1 p21])) ?_ ?_
   ·refine ab ?_;refine lK (fun m s L=> ∃(b6:WV) (b7:Int) (d2:Int),gg N (bm N a1 a8) a1 a6 m b6 b7 d2=some r/\s=[(0,W A1 n1 c1),(1,iV a1),(2,.func (.func 91) #[] #[]),(6,iV a6),(7,iV b7),(8,iV d2)]/\L=[nZ A1 n1 c1 b6]) N ?_;rintro f6 _ _ ⟨b6,b7,d2,h,rfl,rfl⟩;rw [gg.eq_2] at h;refine sZ ?_;refine gH J h ?_ ?_<;>intro h
    ·refine ab ?_;obtain ⟨f9,h⟩:=ae h
     refine cC h (fun _ k=>bU k) fun g0 h=> ?_
     obtain ⟨e5,h⟩:=ae h;refine gE (rg J J e5.1 e5.2) ?_;obtain ⟨g1,h⟩:=ae h;exact lY
    refine ab ?_;exact ⟨_,_,.inr (⟨b6,b7,h,J,J⟩),sA,cS [0] 1⟩
   rintro _ _ (⟨h,rfl,rfl⟩|⟨p21,d1,h,rfl,rfl⟩)
   ·refine ao (fun s L=> ∃d3,gl N (bm N a1 a8) a1 a6 d3=some r/\s=[(0,W A1 n1 c1),(1,iV a1),(2,.func (.func 91) #[] #[]),(6,iV a6)]/\L=[nZ A1 n1 c1 d3]) ?_ ?_
    ·refine ab ?_;obtain ⟨g2,h⟩:=ae h;refine dr h ?_ ?_<;>intro h
     ·refine cC h (fun _ k=>bU k) fun g3 h=> ?_
      exact jN
     exact jY
    rintro _ _ ⟨d3,h,rfl,rfl⟩;refine ab ?_;obtain ⟨e6,h⟩:=ae h;refine ga (rg J J e6.1 e6.2) ?_;exact lN
   refine ao (fun s L=> ∃d4,gk N (bm N a1 a8) a1 a6 d4=some r/\s=[(0,W A1 n1 c1),(1,iV a1),(2,.func (.func 91) #[] #[]),(6,iV a6)]/\L=[nZ A1 n1 c1 d4]) ?_ ?_
   ·refine ab ?_;obtain ⟨g4,h⟩:=ae h;refine dr h ?_ ?_<;>intro h
    ·refine cC h (fun _ k=>bU k) fun g5 h=> ?_
     exact jN
    exact jY
   rintro _ _ ⟨d4,h,rfl,rfl⟩;refine ab ?_;obtain ⟨e7,h⟩:=ae h;refine ga (rg J J e7.1 e7.2) ?_;exact lN
  exact eY
 refine cC h (fun _ k=>dQ k) fun g6 h=> ?_
 refine lK (fun m s L=> ∃(b0:WV) (a7:Int),aH N a1 m b0 a7=some r/\s=[(0,W A1 n1 c1),(1,iV a1),(2,.func (.func 91) #[] #[]),(6,iV a7)]/\L=[nZ A1 n1 c1 b0]) N ?_;rintro b5 _ _ ⟨b0,a7,h,rfl,rfl⟩;rw [aH.eq_2] at h;refine sZ ?_;refine gH J h ?_ ?_<;>intro h
 ·refine ab ?_;obtain ⟨e8,h⟩:=ae h;refine ga (rg J J e8.1 e8.2) ?_;refine ao (fun s L=>(qP N (aH N a1 b5) a1 a7 b0=some r/\s=[(0,W A1 n1 c1),(1,iV a1),(2,.func (.func 91) #[] #[]),(6,iV a7),(7,iV 0)]/\L=[nZ A1 n1 c1 b0])\/(∃d6 e0,gj N (aH N a1 b5) a1 a7 d6 e0=some r/\s=[(0,W A1 n1 c1),(1,iV a1),(2,.func (.func 91) #[] #[]),(6,iV a7),(7,iV e0)]/\L=[nZ A1 n1 c1 d6])) ?_ ?_
  ·refine ab ?_;refine lK (fun m s L=> ∃(b9:WV) (d0:Int) (e1:Int),dJ N (aH N a1 b5) a1 a7 m b9 d0 e1=some r/\s=[(0,W A1 n1 c1),(1,iV a1),(2,.func (.func 91) #[] #[]),(6,iV a7),(7,iV d0),(8,iV e1)]/\L=[nZ A1 n1 c1 b9]) N ?_;rintro g7 _ _ ⟨b9,d0,e1,h,rfl,rfl⟩;rw [dJ.eq_2] at h;refine sZ ?_;refine gH J h ?_ ?_<;>intro h
   ·refine ab ?_;obtain ⟨g8,h⟩:=ae h
    refine cC h (fun _ k=>bU k) fun g9 h=> ?_
    obtain ⟨e9,h⟩:=ae h;refine gE (rg J J e9.1 e9.2) ?_;obtain ⟨h0,h⟩:=ae h;exact lY
   refine ab ?_;exact ⟨_,_,.inr (⟨b9,d0,h,J,J⟩),sA,cS [0] 1⟩
  rintro _ _ (⟨h,rfl,rfl⟩|⟨d6,e0,h,rfl,rfl⟩)
  ·refine ao (fun s L=> ∃e2,gi N (aH N a1 b5) a1 a7 e2=some r/\s=[(0,W A1 n1 c1),(1,iV a1),(2,.func (.func 91) #[] #[]),(6,iV a7)]/\L=[nZ A1 n1 c1 e2]) ?_ ?_
   ·refine ab ?_;obtain ⟨h1,h⟩:=ae h;refine dr h ?_ ?_<;>intro h
    ·refine cC h (fun _ k=>bU k) fun h2 h=> ?_
     exact jN
    exact jY
   rintro _ _ ⟨e2,h,rfl,rfl⟩;refine ab ?_;obtain ⟨f0,h⟩:=ae h;refine ga (rg J J f0.1 f0.2) ?_;exact lN
  refine ao (fun s L=> ∃e3,dK N (aH N a1 b5) a1 a7 e3=some r/\s=[(0,W A1 n1 c1),(1,iV a1),(2,.func (.func 91) #[] #[]),(6,iV a7)]/\L=[nZ A1 n1 c1 e3]) ?_ ?_
  ·refine ab ?_;obtain ⟨h3,h⟩:=ae h;refine dr h ?_ ?_<;>intro h
   ·refine cC h (fun _ k=>bU k) fun h4 h=> ?_
    exact jN
   exact jY
  rintro _ _ ⟨e3,h,rfl,rfl⟩;refine ab ?_;obtain ⟨f1,h⟩:=ae h;refine ga (rg J J f1.1 f1.2) ?_;exact lN
 exact eY
def d5 (a0:WV):Option WV:=
 (iq N a0 (a0.length:Int)).bind fun y2=>some y2
theorem qS {N:Nat}{a0 r:WV}(h:d5 N a0=some r):Okc W8 90 [W A1 n1 c1,.func (.func 91) #[] #[]] ([nZ A1 n1 c1 a0]) (fun u post=>u=.tuple #[]/\post=[nZ A1 n1 c1 r]):=by
 refine ce Tryz.func90 ?_
 refine cC h (fun _ k=>rJ k) fun y2 h=> ?_
 exact eN
def wL (p3:WV):Option WV:=
 (d5 N p3).bind fun a6=>some a6
def sV (N:Nat)(a6:WV->Int->Option WV)(a0:WV)(p6:Int)(a7:WV):Option WV:=
 aG (in64 (p6+1)) (a6 a7 (p6+1))
def nN (N:Nat)(a0:WV):Nat->WV->Int->Option WV
 |0,_,_=>none
 |m4+1,p5,p6=>bif decide (p6<(a0.length:Int)) then ((au a0 p6).bind fun a6=>(aZ N a6).bind fun a7=>bif a7 then (aG (bu (p5.length+([a6]:List WP).length)) (sV N (nN N a0 m4) a0 p6 (p5++([a6]:List WP)))) else (sV N (nN N a0 m4) a0 p6 p5)) else (wL N p5)
def pF (a0:WV):Option WV:=
 nN N a0 N [] 0
theorem Ip {N:Nat}{a0 r:WV}(h:pF N a0=some r):Okc W8 45 [W A1 n1 c1] ([KY A1 n1 c1 a0]) (fun u post=> ∃A0 n0 c0,u=W A0 n0 c0/\post=[nZ A0 n0 c0 r]):=by
 refine ce Tryz.func45 ?_;refine ao (fun s L=> ∃p3 A3 n3 c3,wL N p3=some r/\s=[(2,W none 0 0),(3,W A3 n3 c3)]/\L=[nZ A3 n3 c3 p3]) ?_ ?_
 ·refine ab ?_;refine kq (fun m s L=> ∃p5 p6 A5 n5 c5,nN N a0 m p5 p6=some r/\s=[(2,W none 0 0),(3,W A5 n5 c5),(6,W A1 n1 c1),(7,iV (a0.length:Int)),(8,iV p6)]/\L=[nZ A5 n5 c5 p5,KY A1 n1 c1 a0]) N _ _ ⟨[],0,none,0,0,h,J,J⟩ sA ((cj sy 39 _).trans (cS [0,1] 2)) ?_;rintro (_|m4) _ _ ⟨p5,p6,A5,n5,c5,h,rfl,rfl⟩
  ·exact aU h
  rw [nN.eq_2] at h;refine ab ?_;refine aA<|gH J h (fun h=> ?_) (fun h=> ?_)
  ·refine ab ?_;refine ao (fun s L=> ∃a7 a8 b0 b5,sV N (nN N a0 m4) a0 p6 a7=some r/\s=[(2,W none 0 0),(3,W a8 b0 b5),(6,W A1 n1 c1),(7,iV (a0.length:Int)),(8,iV p6)]/\L=[nZ a8 b0 b5 a7,KY A1 n1 c1 a0]) ?_ ?_
   ·refine ab ?_;obtain ⟨a6,b6,b7,b9,h⟩:=bz h
    refine cn fun d1=> ?_
    obtain ⟨d2,k,h⟩:=aa h;refine Gl (oR (nM k)) ?_;refine gH J h ?_ ?_<;>intro h
    ·refine ab ?_;refine gD (aB (R:=sy) (vss:=[[iV a6.Za,iV a6.N,.string a6.S]]) (xs:=[a6]) J (yI _ _ _) J J (fun _ _ hr=> .cons J All2.nil)) ?_;rintro _ _ ⟨d3,d4,d6,rfl,rfl⟩;obtain ⟨d0,h⟩:=ae h
     refine vo (aR 2 0 J J ap J J EM Oo J J d0) fun e0 e1 e2=> ?_
     exact jN
    exact jY
   rintro _ _ ⟨a7,a8,b0,b5,h,rfl,rfl⟩;refine ab ?_;obtain ⟨e3,h⟩:=ae h;exact lY
  exact jY
 rintro _ _ ⟨p3,A3,n3,c3,h,rfl,rfl⟩;refine ab ?_;obtain ⟨e4,k,h⟩:=aa h;refine Gl (oC (qS k)) ?_;exact eN
def uu (a6:WV):Option WV:=
 (pF N a6).bind fun a7=>some a7
def qx (N:Nat)(a7:((List WJ))):Nat->Int->WV->Option WV
 |0,_,_=>none
 |b5+1,a6,a8=>bif decide (a6<(a7.length:Int)) then ((au a7 a6).bind fun b0=>aG (bu (a8.length+([b0.Zg]:List WP).length)) (aG (in64 (a6+1)) ((qx N a7 b5) (a6+1) (a8++([b0.Zg]:List WP))))) else (uu N a8)
def ik (N:Nat)(a0:WH)(a1:WK)(a6:Int×WK):(WV)->Option (Option Exit×WV)
 |p15=>aG (bu (p15.length+([(⟨0,a6.1,⟨#[]⟩⟩:WP)]:List WP).length)) (some (none,p15++([(⟨0,a6.1,⟨#[]⟩⟩:WP)]:List WP)))
def ko (a0:WH)(a1:WK):Option WV:=
 (cD N a0 a1).bind fun y5=>bif !y5.2 then (some []) else ((rl N y5.1).bind fun b0=>(sF N y5.1 (cM (fun x st=>ik N a0 a1 x st)) (none,[])).bind fun a6=>qN a6.1 ((bZ N).bind fun a7=>aG (bu (a6.2.length+([a7]:List WP).length)) ((jn N a0 a1).bind fun a8=>qx N a8 N 0 (a6.2++([a7]:List WP)))) none (fun _=>none))
theorem vy {N:Nat}{a1:WK}{r:WV}(h:ko N a0 a1=some r){B1 B2 B3:Nat}:Okc W8 15 [pV B1 0,(aE a1)] ([pDWorld B1 B2 B3 a0,ug]) (fun u post=> ∃A0 n0 c0,u=W A0 n0 c0/\post=[nZ A0 n0 c0 r]):=by
 refine ce Tryz.func15 ?_;intro B4
 refine IK h (fun _ k=>fg k) fun y5 A6 n6 c6 A7 n7 c7 h=> ?_
 intro B8;refine sY ?_;refine gH J h ?_ ?_<;>intro h
 ·refine ab ?_;obtain rfl:=bF h;exact pI J J ((cj sy 39 _).trans (cS [0] 7)) ⟨_,_,_,J,J⟩
 refine cn fun a6=> ?_
 refine sZ ?_;obtain ⟨g3,k,h⟩:=aa h;refine gD (oR (CA k)) ?_;rintro _ _ ⟨_,⟨e9,rfl,rfl⟩,rfl⟩;refine ab ?_;refine gI ?_ bw (kZ 0 J);refine gI ?_ bw (bq 3 J);refine ab ?_;refine gI ?_ bw (bq 4 J);obtain ⟨f0,k,h⟩:=aa h;refine uw (en:=(fun x=> [iV x.1,.agg #[iV x.2.Za,iV x.2.N,.string x.2.S]])) (fun x st=>ik N a0 a1 x st) (fun (st:WV) (mz:((Option Addr×Nat×Nat)))=> [pDWorld B1 B2 B3 a0,ah B4 28 (bS a1),bc sy 39 (.slice mz.1 mz.2.1 mz.2.2) st,ah a6 47 [.slice mz.1 mz.2.1 mz.2.2],ug]) [aQ e9 94 (iL y5.1 A6 n6 c6 A7 n7 c7),aX A6 n6 c6 y5.1.Zc,aX A7 n7 c7 y5.1.Zb,ug] ([]) ((none,0,0)) J J call85.out J (fun _=>J) (fun l G hY=>(yO k hY).mono fun _ _ hh=>hh.2) ((cj sy 39 _).trans (bP [1,4,5,8] [] [7,6,0,2,8] 9 J)) h ?_ ?_ ?_ ?_
 ·rintro l b6 p15 je sr14 ⟨a7,a8,b0⟩ h;replace h:ik N a0 a1 b6 p15=some (je,sr14):=h;simp only [AO,Yt,Yu,Yv,Yn,Yo,Y3,Xs];refine ab ?_;refine gD (aB (R:=sy) (vss:=[[iV 0,iV b6.1,.string (⟨#[]⟩)]]) (xs:=[(⟨0,b6.1,⟨#[]⟩⟩:WP)]) J (yI _ _ _) J J (fun _ _ hr=> .cons J All2.nil)) ?_;rintro _ _ ⟨g4,g5,g6,rfl,rfl⟩;obtain ⟨f1,h⟩:=ae h
  refine vo (aR 3 0 J J ap J J EM Oo J J f1) fun f2 f3 f4=> ?_
  obtain ⟨rfl,rfl⟩:=YN (YL h);exact Dr ((cS [1,2,3,4,5] 6).trans (gb (f2,f3,f4) J))
 ·rintro ⟨a7,a8,b0⟩ h;refine qA ([pDWorld B1 B2 B3 a0,ah B4 28 (bS a1),nZ a7 a8 b0 f0.2,ah a6 47 [W a7 a8 b0],ug]) J<|ab ?_;refine dY [] ?_;refine ab ?_;obtain ⟨b5,k,h⟩:=aa h;refine zD 1 J (oR (js k)) ?_;rintro _ _ ⟨_,⟨rfl,rfl⟩,rfl⟩;refine ⟨_,ad _,ad _,?_⟩
  refine Du 2 J (aB (R:=sy) (vss:=[[iV b5.Za,iV b5.N,.string b5.S]]) (xs:=[b5]) J (yI _ _ _) J J (fun _ _ hr=> .cons J All2.nil)) fun g7 g8 g9=> ?_
  obtain ⟨f6,h⟩:=ae h;refine IV 3 J O O (aR 3 0 J J ap J J EM Oo J J f6) ?_;rintro _ _ ⟨e2,e3,e4,rfl,rfl⟩;refine gN 4 J O O (am (us:=[W e2 e3 e4]) (cs':=[W e2 e3 e4]) 4 J J J J size47.out J J J) ?_;rintro _ _ rfl;refine ab ?_;refine ao (fun s L=> ∃b7 b9 d0 d1,uu N b7=some r/\s=[(4,W none 0 0),(7,pV a6 0)]/\L=[nZ b9 d0 d1 b7,ah a6 47 [W b9 d0 d1],ug]) ?_ ?_
  ·refine MG h (fun _ k=>oW k) fun d2 e5 e6 e7 h=> ?_
   refine lK (fun m s L=> ∃(d3:Int) (d4:WV) (d6:Option Addr) (e0 e1:Nat),qx N d2 m d3 d4=some r/\s=[(4,W none 0 0),(7,pV a6 0),(34,W e5 e6 e7),(35,iV (d2.length:Int)),(36,iV d3)]/\L=[bc ir 50 (W e5 e6 e7) d2,nZ d6 e0 e1 d4,ah a6 47 [W d6 e0 e1],ug]) N ?_;rintro h0 _ _ ⟨d3,d4,d6,e0,e1,h,rfl,rfl⟩;rw [qx.eq_2] at h;refine ab ?_;refine aA<|gH J h (fun h=> ?_) (fun h=> ?_)
   ·refine sY ?_;obtain ⟨e8,f9,g0,g1,h⟩:=bz h
    refine cn fun h1=> ?_
    refine gD (aB (R:=sy) (vss:=[(ls e8.Zg)]) (xs:=[e8.Zg]) J (yI _ _ _) J J (fun _ _ hr=> .cons J All2.nil)) ?_;rintro _ _ ⟨h2,h3,h4,rfl,rfl⟩;obtain ⟨g2,h⟩:=ae h
    refine vo (aR 3 0 J J ap J J EM Oo J J g2) fun h5 h6 h7=> ?_
    obtain ⟨h8,h⟩:=ae h;exact lY
   exact jY
  rintro _ _ ⟨b7,b9,d0,d1,h,rfl,rfl⟩
  refine MG h (fun _ k=>Ip k) fun h9 i0 i1 i2 h=> ?_
  exact eN
 ·rintro ⟨a7,a8,b0⟩ h;exact aU h
 rintro i ⟨a7,a8,b0⟩ h;exact aU h
theorem sq {r:WV}: ∀v post,((fun (u:Value) (post:W6)=> ∃A0 n0 c0,u=W A0 n0 c0/\post=[nZ A0 n0 c0 r])) v post-> ∀c∈post,im c:=by
 rintro _ _ ⟨_,_,_,rfl,rfl⟩;exact t5 qp (aw)
def pn (N:Nat)(a0:Int):Option WP:=
 some (⟨0,a0,⟨#[]⟩⟩:WP)
theorem pP {N:Nat}{a0:Int}{r:WP}(h:pn N a0=some r):Okc W8 23 [iV a0] ([]) (fun u post=>u=(eW r)/\post=[]):=by
 refine ce Tryz.func23 ?_;intro B1;exact eY
theorem na {r:WP}: ∀v post,((fun (u:Value) (post:W6)=>u=(eW r)/\post=[])) v post-> ∀c∈post,im c:=by
 rintro _ _ ⟨rfl,rfl⟩;exact aw
def bN (N:Nat):Option WP:=
 some (⟨1,0,(⟨#[108,101,110,103,116,104]⟩:ByteArray)⟩:WP)
theorem iT {N:Nat}{r:WP}(h:bN N=some r):Okc W8 19 [] ([]) (fun u post=>u=(eW r)/\post=[]):=by
 refine ce Tryz.func19 ?_;intro B1;exact eY
theorem mh {r:WP}: ∀v post,((fun (u:Value) (post:W6)=>u=(eW r)/\post=[])) v post-> ∀c∈post,im c:=by
 rintro _ _ ⟨rfl,rfl⟩;exact aw
def DK (N:Nat):Option Bool:=
 some true
def yg (N:Nat)(a0 a1:WV):Nat->Int->Option Bool
 |0,_=>none
 |m5+1,p6=>bif decide (p6<(a0.length:Int)) then ((au a0 p6).bind fun x8=>(au a1 p6).bind fun x9=>bif !decide (x8=x9) then (some false) else (aG (in64 (p6+1)) ((yg N a0 a1 m5) (p6+1)))) else (DK N)
def Az (a0 a1:WV):Option Bool:=
 bif !decide ((a0.length:Int)=(a1.length:Int)) then (some false) else (yg N a0 a1 N 0)
theorem DJ {N:Nat}{a0 a1:WV}{r:Bool}(h:Az N a0 a1=some r):Okc W8 22 [W A1 n1 c1,W A2 n2 c2] ([KY A1 n1 c1 a0,KY A2 n2 c2 a1]) (fun u post=>u=.bool r/\post=[]):=by
 refine ce Tryz.func22 ?_;refine sZ ?_;refine gH J h ?_ ?_<;>intro h
 ·exact eY
 refine ab ?_;refine ao (fun s L=>DK N=some r/\s=[(4,.bool false)]/\L=[]) ?_ ?_
 ·refine ab ?_;refine lK (fun m s L=> ∃(p6:Int),yg N a0 a1 m p6=some r/\s=[(0,W A1 n1 c1),(1,W A2 n2 c2),(4,.bool false),(5,iV p6)]/\L=[KY A1 n1 c1 a0,KY A2 n2 c2 a1]) N ?_;rintro m5 _ _ ⟨p6,h,rfl,rfl⟩;rw [yg.eq_2] at h;refine sZ ?_;refine gH J h ?_ ?_<;>intro h
  ·refine sY ?_;refine dY [] ?_;refine ab ?_;obtain ⟨x8,a6,a7,a8,h⟩:=bz h;refine ab ?_;obtain ⟨x9,b0,b5,b6,h⟩:=bz h;refine ab ?_;refine zE 8 J (Dh (x:=x8) (y:=x9) J J) ?_;refine dr h ?_ ?_<;>intro h
   ·exact eY
   refine ab ?_;obtain ⟨b7,h⟩:=ae h;exact lY
  exact jY
 rintro _ _ ⟨h,rfl,rfl⟩;exact eY
theorem zW {r:Bool}: ∀v post,((fun (u:Value) (post:W6)=>u=.bool r/\post=[])) v post-> ∀c∈post,im c:=by
 rintro _ _ ⟨rfl,rfl⟩;exact aw
def Aj (N:Nat)(a0 a1:Int):Option WU:=
 some (⟨51,a1,(⟨3,a0,⟨#[]⟩⟩:WK),(⟨0,0,⟨#[]⟩⟩:WK),(⟨0,0,⟨#[]⟩⟩:WK)⟩:WU)
theorem Dz {N:Nat}{a0:Int}{r:WU}(h:Aj N a0 a1=some r):Okc W8 25 [iV a0,iV a1] ([]) (fun u post=>u=(fW r)/\post=[]):=by
 refine ce Tryz.func25 ?_;intro B1;exact eY
theorem zL {r:WU}: ∀v post,((fun (u:Value) (post:W6)=>u=(fW r)/\post=[])) v post-> ∀c∈post,im c:=by
 rintro _ _ ⟨rfl,rfl⟩;exact aw
def aP (N:Nat)(a0:WU)(a1:Int):Option Bool:=
 some (!decide (ai .i64 a0.Has a1=0))
theorem bG {N:Nat}{a0:WU}{r:Bool}(h:aP N a0 a1=some r):Okc W8 99 [(fW a0),iV a1] ([]) (fun u post=>u=.bool r/\post=[]):=by
 refine ce Tryz.func99 ?_;intro B1;refine ab ?_;refine ga (aI J J) ?_;exact eN
def qr (N:Nat)(a6:Int):Option Int:=
 some a6
def rD (a0:WU)(p7:Int):Option Int:=
 (aP N a0 32).bind fun a6=>bif a6 then (qr N (cP .i64 p7 4)) else (qr N p7)
def rE (a0:WU)(p3:Int):Option Int:=
 (aP N a0 16).bind fun y8=>bif y8 then (rD N a0 (cP .i64 p3 2)) else (rD N a0 p3)
def qt (a0:WU):Option Int:=
 (aP N a0 2).bind fun y4=>bif y4 then (rE N a0 (cP .i64 0 1)) else (rE N a0 0)
theorem Ae {N:Nat}{a0:WU}{r:Int}(h:qt N a0=some r):Okc W8 100 [(fW a0)] ([]) (fun u post=>u=iV r/\post=[]):=by
 refine ce Tryz.func100 ?_;intro B1;refine ab ?_;refine ao (fun s L=> ∃p3,rE N a0 p3=some r/\s=[(1,pV B1 0),(2,iV 0),(3,iV p3)]/\L=[ah B1 41 (iy a0)]) ?_ ?_
 ·refine cR h (fun _ k=>bG k) fun y4 h=> ?_
  refine gH J h ?_ ?_<;>intro h
  ·refine ab ?_;refine ga (pH J J) ?_;exact jN
  exact jY
 rintro _ _ ⟨p3,h,rfl,rfl⟩;refine ao (fun s L=> ∃p7,rD N a0 p7=some r/\s=[(1,pV B1 0),(2,iV 0),(3,iV p7)]/\L=[ah B1 41 (iy a0)]) ?_ ?_
 ·refine cR h (fun _ k=>bG k) fun y8 h=> ?_
  refine gH J h ?_ ?_<;>intro h
  ·refine ab ?_;refine ga (pH J J) ?_;exact jN
  exact jY
 rintro _ _ ⟨p7,h,rfl,rfl⟩;refine ao (fun s L=> ∃a6,qr N a6=some r/\s=[(2,iV 0),(3,iV a6)]/\L=[]) ?_ ?_
 ·refine cR h (fun _ k=>bG k) fun a7 h=> ?_
  refine gH J h ?_ ?_<;>intro h
  ·refine ab ?_;refine ga (pH J J) ?_;exact jN
  exact jY
 rintro _ _ ⟨a6,h,rfl,rfl⟩;exact eY
def uY (N:Nat)(a0:WK):Option Bool:=
 (bif decide (a0.Za=0) then (some true) else (some (decide (a0.Za=7)))).bind fun b2=>some b2
theorem Ct {N:Nat}{a0:WK}{r:Bool}(h:uY N a0=some r):Okc W8 101 [(aE a0)] ([]) (fun u post=>u=.bool r/\post=[]):=by
 refine ce Tryz.func101 ?_;intro B1;refine ab ?_;refine gS 4 10 6 h ?_;intro b2 h;exact eY
def fG (a0:WU):Option Bool:=
 (bif !decide (be .i64 a0.Has 63=0) then (some true) else ((aP N a0 3).bind fun y3=>(bif y3 then ((aP N a0 12).bind fun y5=>some y5) else (some false)).bind fun b4=>some b4)).bind fun b2=>(bif b2 then (some true) else ((qt N a0).bind fun y7=>some (!decide (be .i64 a0.Zd y7=0)))).bind fun b6=>bif b6 then (some false) else ((bif decide (a0.Value.Za<0) then (some true) else (some (decide (7<a0.Value.Za)))).bind fun b9=>(bif b9 then (some true) else ((uY N a0.Zq).bind fun a6=>some (!a6))).bind fun a7=>(bif a7 then (some true) else ((uY N a0.Zr).bind fun a8=>some (!a8))).bind fun b12=>bif b12 then (some false) else ((aP N a0 1).bind fun b0=>(bif b0 then (some true) else (some (decide (a0.Value=(⟨0,0,⟨#[]⟩⟩:WK))))).bind fun b5=>(bif b5 then ((aP N a0 4).bind fun b7=>(bif b7 then (some true) else (some (decide (a0.Zq=(⟨0,0,⟨#[]⟩⟩:WK))))).bind fun d0=>some d0) else (some false)).bind fun d1=>(bif d1 then ((aP N a0 8).bind fun d2=>(bif d2 then (some true) else (some (decide (a0.Zr=(⟨0,0,⟨#[]⟩⟩:WK))))).bind fun d3=>some d3) else (some false)).bind fun d4=>some d4))
theorem GI {N:Nat}{a0:WU}{r:Bool}(h:fG N a0=some r):Okc W8 57 [(fW a0)] ([]) (fun u post=>u=.bool r/\post=[]):=by
 refine ce Tryz.func57 ?_;intro B1;refine ab ?_;refine aA<|dY [0,1] ?_;refine zE 2 J (rC J J) ?_;refine zY [3,4] ?_
 refine yJ [5,6,7,8,9,10,11] 8 8 15 h (fun _ g2 h rest=> ?_) (fun _ g2 h rest=> ?_) fun b2 h=> ?_
 ·refine yY [5,6,7,8,9,10,11] ?_;exact yS rest h
 ·refine r7 5 J O (aC (us:=iy a0) 0 J J agg41.out J) (cL g2 J) J ?_;obtain ⟨y3,k,h⟩:=aa h;refine ny 6 J O (oR (bG k)) J (cL g2 J) J ?_;rintro _ _ ⟨_,⟨rfl,rfl⟩,rfl⟩;refine ⟨_,ad _,ad _,?_⟩
  refine dH 7 J O (aq J) (cL g2 J) J<|yJ [8,9,10] 9 11 14 h (fun _ g4 h rest=> ?_) (fun _ g4 h rest=> ?_) fun b4 h=> ?_
  ·refine r7 8 J O (aC (us:=iy a0) 0 J J agg41.out J) (bW g4 J) J ?_;obtain ⟨y5,k,h⟩:=aa h;refine ny 9 J O (oR (bG k)) J (bW g4 J) J ?_;rintro _ _ ⟨_,⟨rfl,rfl⟩,rfl⟩;refine ⟨_,ad _,ad _,?_⟩;exact dH 10 J O (eP g4 J J) (cL g2 J) J<|yS rest h
  ·refine yY [8,9] ?_;exact dH 10 J O (fE g4 J J) (cL g2 J) J<|yS rest h
  refine zE 11 J (fE g2 J J) ?_;exact yS rest h
 refine zY [12] ?_
 refine yJ [13,14,15,16,17,18,19] 0 16 23 h (fun _ g6 h rest=> ?_) (fun _ g6 h rest=> ?_) fun b6 h=> ?_
 ·refine yY [13,14,15,16,17,18,19] ?_;exact yS rest h
 ·refine yY [13,14,15] ?_;obtain ⟨y7,k,h⟩:=aa h;refine ny 16 J O (oR (Ae k)) J (cL g6 J) J ?_;rintro _ _ ⟨_,⟨rfl,rfl⟩,rfl⟩;refine ⟨_,ad _,ad _,?_⟩;refine dH 17 J O (rC J J) (cL g6 J) J<|yY [18,19] ?_;exact yS rest h
 refine bn O<|dr h (fun h=> ?_) (fun h=> ?_)
 ·exact eY
 refine sY ?_;refine gS 5 33 28 h ?_;intro b9 h;refine ab ?_
 refine xc 5 39 34 h (fun _ b0 h=> ?_) fun b5 h=> ?_
 ·refine cR h (fun _ k=>Ct k) fun b7 h=> ?_
  exact gY
 refine ab ?_
 refine xc 5 45 40 h (fun _ d0 h=> ?_) fun b12 h=> ?_
 ·refine cR h (fun _ k=>Ct k) fun d1 h=> ?_
  exact gY
 refine dr h ?_ ?_<;>intro h
 ·exact eY
 refine cn fun d2=> ?_
 refine cR h (fun _ k=>bG k) fun d3 h=> ?_
 refine xc 5 54 49 h (fun _ a6 h=> ?_) fun d4 h=> ?_
 ·refine ab ?_;exact fb (vX (x:=a0.Value) (y:=(⟨0,0,⟨#[]⟩⟩:WK)) J J) J (cL a6 J) J<|gY
 refine ab ?_
 refine oo 9 64 55 h (fun _ d6 h=> ?_) fun e0 h=> ?_
 ·refine cR h (fun _ k=>bG k) fun e1 h=> ?_
  refine xc 5 63 58 h (fun _ a7 h=> ?_) fun e2 h=> ?_
  ·refine ab ?_;exact fb (vX (x:=a0.Zq) (y:=(⟨0,0,⟨#[]⟩⟩:WK)) J J) J (cL a7 J) J<|gY
  exact gY
 refine ab ?_
 refine oo 9 74 65 h (fun _ e3 h=> ?_) fun e4 h=> ?_
 ·refine cR h (fun _ k=>bG k) fun e5 h=> ?_
  refine xc 5 73 68 h (fun _ a8 h=> ?_) fun e6 h=> ?_
  ·refine ab ?_;exact fb (vX (x:=a0.Zr) (y:=(⟨0,0,⟨#[]⟩⟩:WK)) J J) J (cL a8 J) J<|gY
  exact gY
 exact eY
def pa (N:Nat)(y5:WP)(a0:WI)(p9:Int):Option WJ:=
 some (⟨y5,p9,(⟨3,(a0.Zb.length:Int),⟨#[]⟩⟩:WK),(⟨0,0,⟨#[]⟩⟩:WK),(⟨0,0,⟨#[]⟩⟩:WK)⟩:WJ)
def nw (a0:WI):Option WJ:=
 (bZ N).bind fun y5=>bif !decide (ai .i64 a0.Ze 32=0) then (pa N y5 a0 0) else (pa N y5 a0 1)
theorem xh {N:Nat}{a0:WI}{r:WJ}(h:nw N a0=some r):Okc W8 46 [.agg #[iV a0.Za,iV a0.Zi,iV a0.Ze,iV a0.Zf,W A1 n1 c1,W A2 n2 c2]] ([aX A1 n1 c1 a0.Zc,aX A2 n2 c2 a0.Zb]) (fun u post=>u=(cG r)/\post=[]):=by
 refine ce Tryz.func46 ?_;intro B3
 refine cn fun B4=> ?_
 refine aA ?_;obtain ⟨y5,a6,h⟩:=aa h;refine gI (t:=[(1,pV B3 0),(2,pV B4 0)]) ?_ mc (ad _)
 refine iQ O 7 [] [5,6] [4,5,6,7,8,9,3] [[],[],[1],[2],[3],[0,4],[]] [aV (.agg #[iV y5.Za,iV y5.N,.string y5.S]),
 aV (pV B3 5),
 aV (W A2 n2 c2),
 aV (iV (a0.Zb.length:Int)),
 aV (.agg #[iV 3,iV (a0.Zb.length:Int),.string (⟨#[]⟩)]),
 aV (.agg #[iV y5.Za,iV y5.N,.string y5.S,iV 1,iV 3,iV (a0.Zb.length:Int),.string (⟨#[]⟩),iV 0,iV 0,.string (⟨#[]⟩),iV 0,iV 0,.string (⟨#[]⟩)]),
 aX1 (fun (B7:Nat)=>pV B7 0) (fun B7=> [ah B7 50 [iV 0,iV 0,.string (⟨#[]⟩),iV 0,iV 0,iV 0,.string (⟨#[]⟩),iV 0,iV 0,.string (⟨#[]⟩),iV 0,iV 0,.string (⟨#[]⟩)]])] [] (ad _) (lV) O rfl rfl ?_ ?_ ?_
 ·exact lU
 ·refine aF J ?_ ?_
  ·refine tl (bJ zero50.out J) J ?_;rintro _ _ ⟨B6,rfl,rfl⟩;exact N4 B6 (ad _)
  refine qE (nv J (bld_50_0_1_2 _ _ _ _ _ _ _).out) ?_;refine qE (nv J (bld_28_0_1 _ _).out) ?_;refine qR (lO 3 J bi J t9) ?_;refine qR (bM 1 J J sC J) ?_;refine qE (jD J wO) ?_;refine aF J ?_ ?_
  ·refine tl (oR (js a6)) J ?_;rintro _ _ ⟨_,⟨rfl,rfl⟩,rfl⟩;exact iH J (ad _)
  exact dI
 intro B7;refine oa (t:=[(9,.agg #[iV y5.Za,iV y5.N,.string y5.S,iV 1,iV 3,iV (a0.Zb.length:Int),.string (⟨#[]⟩),iV 0,iV 0,.string (⟨#[]⟩),iV 0,iV 0,.string (⟨#[]⟩)]),(3,pV B7 0),(1,pV B3 0),(2,pV B4 0)]) (L':=[ah B7 50 [iV 0,iV 0,.string (⟨#[]⟩),iV 0,iV 0,iV 0,.string (⟨#[]⟩),iV 0,iV 0,.string (⟨#[]⟩),iV 0,iV 0,.string (⟨#[]⟩)],ah B4 50 [iV 0,iV 0,.string (⟨#[]⟩),iV 0,iV 0,iV 0,.string (⟨#[]⟩),iV 0,iV 0,.string (⟨#[]⟩),iV 0,iV 0,.string (⟨#[]⟩)],ah B3 94 (iL a0 A1 n1 c1 A2 n2 c2),aX A1 n1 c1 a0.Zc,aX A2 n2 c2 a0.Zb]) ?_ mc (ad _);refine pL 7 J O (am (us:=[iV y5.Za,iV y5.N,.string y5.S,iV 1,iV 3,iV (a0.Zb.length:Int),.string (⟨#[]⟩),iV 0,iV 0,.string (⟨#[]⟩),iV 0,iV 0,.string (⟨#[]⟩)]) (cs':=[iV y5.Za,iV y5.N,.string y5.S,iV 1,iV 3,iV (a0.Zb.length:Int),.string (⟨#[]⟩),iV 0,iV 0,.string (⟨#[]⟩),iV 0,iV 0,.string (⟨#[]⟩)]) 0 J J J J size50.out J J J) J J ?_;rintro _ _ rfl;refine mb O<|ab ?_;refine ao (fun s L=> ∃p9,pa N y5 a0 p9=some r/\s=[(2,pV B4 0),(3,pV B7 0)]/\L=[ah B4 50 [iV 0,iV 0,.string (⟨#[]⟩),iV 0,iV 0,iV 0,.string (⟨#[]⟩),iV 0,iV 0,.string (⟨#[]⟩),iV 0,iV 0,.string (⟨#[]⟩)],ah B7 50 [iV y5.Za,iV y5.N,.string y5.S,iV p9,iV 3,iV (a0.Zb.length:Int),.string (⟨#[]⟩),iV 0,iV 0,.string (⟨#[]⟩),iV 0,iV 0,.string (⟨#[]⟩)]]) ?_ ?_
 ·refine ab ?_;refine ga (aI J J) ?_;refine gH J h ?_ ?_<;>intro h
  ·exact jY
  exact jY
 rintro _ _ ⟨p9,h,rfl,rfl⟩;exact eY
end
section
variable {A1 A2 A3 A4 A5 A7 A9:Option Addr}{B1 B2 B3 B6 M2 M3 c1 c2 c3 c4 c5 c7 c9 n1 n2 n3 n4 n5 n7 n9:Nat}
open Go.RowKit Asn
set_option maxRecDepth 20000
def o3 (N:Nat)(a1:WP)(a7 a6:Int)(a2:WU)(a8 b0:Int)(b5:ByteArray)(b6 b7:Int)(b9:ByteArray)(d0 d1:Int)(d2:ByteArray):Option WJ:=
 some (⟨a1,cP .i64 (be .i64 a7 a6) (ai .i64 a2.Zd a6),(⟨a8,b0,b5⟩:WK),(⟨b6,b7,b9⟩:WK),(⟨d0,d1,d2⟩:WK)⟩:WJ)
def o4 (a2:WU)(a1:WP)(a6 a7 a8 b0:Int)(b5:ByteArray)(d0 p15:Int)(d1:ByteArray)(b6 b7:Int)(b9:ByteArray):Option WJ:=
 (aP N a2 8).bind fun d2=>bif d2 then (o3 N a1 a6 a7 a2 a8 b0 b5 b6 b7 b9 a2.Zr.Za a2.Zr.N a2.Zr.S) else (o3 N a1 a6 a7 a2 a8 b0 b5 b6 b7 b9 d0 p15 d1)
def o5 (a2:WU)(a1:WP)(a6 a7 b9 d0:Int)(p13:ByteArray)(a8 p15:Int)(b0:ByteArray)(b5 b6:Int)(b7:ByteArray):Option WJ:=
 (aP N a2 4).bind fun d1=>bif d1 then (o4 N a2 a1 a6 a7 b5 b6 b7 a8 p15 b0 a2.Zq.Za a2.Zq.N a2.Zq.S) else (o4 N a2 a1 a6 a7 b5 b6 b7 a8 p15 b0 b9 d0 p13)
def o6 (a2:WU)(a1:WP)(p21 b7:Int)(b9:ByteArray)(a6 a7:Int)(p13:ByteArray)(a8 p15:Int)(b0:ByteArray)(b5:Int):Option WJ:=
 (qt N a2).bind fun b6=>(aP N a2 1).bind fun d0=>bif d0 then (o5 N a2 a1 b5 b6 a6 a7 p13 a8 p15 b0 a2.Value.Za a2.Value.N a2.Value.S) else (o5 N a2 a1 b5 b6 a6 a7 p13 a8 p15 b0 p21 b7 b9)
def o7 (b6:Bool)(a0:WJ)(a2:WU)(a1:WP)(a6 a7:Int)(p13:ByteArray)(a8 p15:Int)(b0:ByteArray)(b5 p21 b7:Int)(b9:ByteArray):Option WJ:=
 bif b6 then (o6 N a2 a1 p21 b7 b9 a6 a7 p13 a8 p15 b0 (cP .i64 (cP .i64 b5 (ai .i64 a0.Zd 6)) 8)) else (o6 N a2 a1 p21 b7 b9 a6 a7 p13 a8 p15 b0 (cP .i64 b5 (ai .i64 a0.Zd 6)))
def o8 (a0:WJ)(b6:Bool)(a2:WU)(a1:WP)(a6 a7:Int)(p13:ByteArray)(a8 p15:Int)(b0:ByteArray):Option WJ:=
 (bif !b6 then (some (!(!decide (ai .i64 a0.Zd 8=0)))) else (some false)).bind fun b5=>bif b5 then (o7 N b6 a0 a2 a1 a6 a7 p13 a8 p15 b0 (ai .i64 a0.Zd 1) a0.Value.Za a0.Value.N a0.Value.S) else (o7 N b6 a0 a2 a1 a6 a7 p13 a8 p15 b0 0 0 0 (⟨#[]⟩))
def oL (a0:WJ)(a1:WP)(a2:WU):Option WJ:=
 (aP N a2 12).bind fun y5=>(bif y5 then (some true) else ((bif !decide (ai .i64 a0.Zd 8=0) then ((aP N a2 3).bind fun y8=>some (!y8)) else (some false)).bind fun b7=>some b7)).bind fun b6=>(bif b6 then (some (!decide (ai .i64 a0.Zd 8=0))) else (some false)).bind fun a6=>bif a6 then (o8 N a0 b6 a2 a1 a0.Zq.Za a0.Zq.N a0.Zq.S a0.Zr.Za a0.Zr.N a0.Zr.S) else (o8 N a0 b6 a2 a1 0 0 (⟨#[]⟩) 0 0 (⟨#[]⟩))
theorem yA {N:Nat}{a0:WJ}{a1:WP}{a2:WU}{r:WJ}(h:oL N a0 a1 a2=some r):Okc W8 145 [(cG a0),(eW a1),(fW a2)] ([]) (fun u post=>u=(cG r)/\post=[]):=by
 refine ce Tryz.func145 ?_;intro B1
 refine cn fun B2=> ?_
 intro B3
 refine cn fun B4=> ?_
 refine ga (aI J J) ?_
 refine cR h (fun _ k=>bG k) fun y5 h=> ?_
 refine xc 7 24 17 h (fun _ g6 h=> ?_) fun b6 h=> ?_
 ·refine ab ?_
  refine oo 4 23 19 h (fun _ g7 h=> ?_) fun b7 h=> ?_
  ·refine cR h (fun _ k=>bG k) fun y8 h=> ?_
   exact gY
  exact gY
 refine cn fun B9=> ?_
 refine ao (fun s L=> ∃a8 b0 p13 a6 p15 a7,o8 N a0 b6 a2 a1 a8 b0 p13 a6 p15 a7=some r/\s=[(3,pV B1 0),(5,pV B3 0),(6,pV B4 0),(7,.bool (!decide (ai .i64 a0.Zd 8=0))),(8,.bool b6),(9,pV B9 0)]/\L=[ah B1 50 (cm a0),ah B3 41 (iy a2),ah B4 50 [iV 0,iV 0,.string (⟨#[]⟩),iV 0,iV 0,iV 0,.string (⟨#[]⟩),iV 0,iV 0,.string (⟨#[]⟩),iV 0,iV 0,.string (⟨#[]⟩)],ah B9 50 [iV a1.Za,iV a1.N,.string a1.S,iV 0,iV 0,iV 0,.string (⟨#[]⟩),iV a8,iV b0,.string p13,iV a6,iV p15,.string a7]]) ?_ ?_
 ·refine ab ?_;refine gS 2 30 28 h ?_;intro e6 h;refine dr h ?_ ?_<;>intro h
  ·refine ba O ([ah B4 50 [iV 0,iV 0,.string (⟨#[]⟩),iV 0,iV 0,iV 0,.string (⟨#[]⟩),iV 0,iV 0,.string (⟨#[]⟩),iV 0,iV 0,.string (⟨#[]⟩)],ah B3 41 (iy a2),ah B2 39 (ls a1),ah B1 50 (cm a0)]) (cS [1,2,3,4] 5) ?_;refine ab ?_;refine zO 5 J (am (us:=bS a0.Zq) (cs':=[iV a1.Za,iV a1.N,.string a1.S,iV 0,iV 0,iV 0,.string (⟨#[]⟩),iV a0.Zq.Za,iV a0.Zq.N,.string a0.Zq.S,iV 0,iV 0,.string (⟨#[]⟩)]) 0 J J J J size28.out J J J) ?_;rintro _ _ rfl;refine ca ?_;refine ab ?_;refine zO 7 J (am (us:=bS a0.Zr) (cs':=[iV a1.Za,iV a1.N,.string a1.S,iV 0,iV 0,iV 0,.string (⟨#[]⟩),iV a0.Zq.Za,iV a0.Zq.N,.string a0.Zq.S,iV a0.Zr.Za,iV a0.Zr.N,.string a0.Zr.S]) 0 J J J J size28.out J J J) ?_;rintro _ _ rfl;refine ca ?_;exact jY
  exact jY
 rintro _ _ ⟨a8,b0,p13,a6,p15,a7,h,rfl,rfl⟩;refine ao (fun s L=> ∃e2 p21 d3 d4,o7 N b6 a0 a2 a1 a8 b0 p13 a6 p15 a7 e2 p21 d3 d4=some r/\s=[(3,pV B1 0),(5,pV B3 0),(6,pV B4 0),(8,.bool b6),(9,pV B9 0)]/\L=[ah B1 50 (cm a0),ah B3 41 (iy a2),ah B4 50 [iV 0,iV 0,.string (⟨#[]⟩),iV 0,iV 0,iV 0,.string (⟨#[]⟩),iV 0,iV 0,.string (⟨#[]⟩),iV 0,iV 0,.string (⟨#[]⟩)],ah B9 50 [iV a1.Za,iV a1.N,.string a1.S,iV e2,iV p21,iV d3,.string d4,iV a8,iV b0,.string p13,iV a6,iV p15,.string a7]]) ?_ ?_
 ·refine ab ?_;refine gS 3 42 39 h ?_;intro e7 h;refine dr h ?_ ?_<;>intro h
  ·refine ab ?_;refine ga (aI J J) ?_;exact jN
  exact jY
 rintro _ _ ⟨e2,p21,d3,d4,h,rfl,rfl⟩;refine ab ?_;refine gE (aI J J)<|ga (pH J J) ?_;refine ao (fun s L=> ∃b5,o6 N a2 a1 p21 d3 d4 a8 b0 p13 a6 p15 a7 b5=some r/\s=[(5,pV B3 0),(6,pV B4 0),(9,pV B9 0)]/\L=[ah B3 41 (iy a2),ah B4 50 [iV 0,iV 0,.string (⟨#[]⟩),iV 0,iV 0,iV 0,.string (⟨#[]⟩),iV 0,iV 0,.string (⟨#[]⟩),iV 0,iV 0,.string (⟨#[]⟩)],ah B9 50 [iV a1.Za,iV a1.N,.string a1.S,iV b5,iV p21,iV d3,.string d4,iV a8,iV b0,.string p13,iV a6,iV p15,.string a7]]) ?_ ?_
 ·refine dr h ?_ ?_<;>intro h
  ·refine ab ?_;refine ga (pH J J) ?_;exact jN
  exact jY
 rintro _ _ ⟨b5,h,rfl,rfl⟩
 refine cR h (fun _ k=>Ae k) fun b9 h=> ?_
 refine ga (rC J J) ?_;refine gE (aI J J)<|ga (pH J J) ?_;refine ao (fun s L=> ∃d0 d1 d2,o5 N a2 a1 b5 b9 a8 b0 p13 a6 p15 a7 d0 d1 d2=some r/\s=[(5,pV B3 0),(6,pV B4 0),(9,pV B9 0)]/\L=[ah B3 41 (iy a2),ah B4 50 [iV 0,iV 0,.string (⟨#[]⟩),iV 0,iV 0,iV 0,.string (⟨#[]⟩),iV 0,iV 0,.string (⟨#[]⟩),iV 0,iV 0,.string (⟨#[]⟩)],ah B9 50 [iV a1.Za,iV a1.N,.string a1.S,iV (cP .i64 (be .i64 b5 b9) (ai .i64 a2.Zd b9)),iV d0,iV d1,.string d2,iV a8,iV b0,.string p13,iV a6,iV p15,.string a7]]) ?_ ?_
 ·refine cR h (fun _ k=>bG k) fun e8 h=> ?_
  refine gH J h ?_ ?_<;>intro h
  ·exact jY
  exact jY
 rintro _ _ ⟨d0,d1,d2,h,rfl,rfl⟩;refine ao (fun s L=> ∃d6 e0 e1,o4 N a2 a1 b5 b9 d0 d1 d2 a6 p15 a7 d6 e0 e1=some r/\s=[(5,pV B3 0),(6,pV B4 0),(9,pV B9 0)]/\L=[ah B3 41 (iy a2),ah B4 50 [iV 0,iV 0,.string (⟨#[]⟩),iV 0,iV 0,iV 0,.string (⟨#[]⟩),iV 0,iV 0,.string (⟨#[]⟩),iV 0,iV 0,.string (⟨#[]⟩)],ah B9 50 [iV a1.Za,iV a1.N,.string a1.S,iV (cP .i64 (be .i64 b5 b9) (ai .i64 a2.Zd b9)),iV d0,iV d1,.string d2,iV d6,iV e0,.string e1,iV a6,iV p15,.string a7]]) ?_ ?_
 ·refine cR h (fun _ k=>bG k) fun e9 h=> ?_
  refine gH J h ?_ ?_<;>intro h
  ·exact jY
  exact jY
 rintro _ _ ⟨d6,e0,e1,h,rfl,rfl⟩;refine ao (fun s L=> ∃e3 e4 e5,o3 N a1 b5 b9 a2 d0 d1 d2 d6 e0 e1 e3 e4 e5=some r/\s=[(6,pV B4 0),(9,pV B9 0)]/\L=[ah B4 50 [iV 0,iV 0,.string (⟨#[]⟩),iV 0,iV 0,iV 0,.string (⟨#[]⟩),iV 0,iV 0,.string (⟨#[]⟩),iV 0,iV 0,.string (⟨#[]⟩)],ah B9 50 [iV a1.Za,iV a1.N,.string a1.S,iV (cP .i64 (be .i64 b5 b9) (ai .i64 a2.Zd b9)),iV d0,iV d1,.string d2,iV d6,iV e0,.string e1,iV e3,iV e4,.string e5]]) ?_ ?_
 ·refine cR h (fun _ k=>bG k) fun f0 h=> ?_
  refine gH J h ?_ ?_<;>intro h
  ·exact jY
  exact jY
 rintro _ _ ⟨e3,e4,e5,h,rfl,rfl⟩;exact eY
def uZ (a0:WU)(a1:WP):Option WJ:=
 (oL N (⟨(⟨0,0,⟨#[]⟩⟩:WP),0,(⟨0,0,⟨#[]⟩⟩:WK),(⟨0,0,⟨#[]⟩⟩:WK),(⟨0,0,⟨#[]⟩⟩:WK)⟩:WJ) a1 a0).bind fun y4=>some y4
theorem IE {N:Nat}{a0:WU}{a1:WP}{r:WJ}(h:uZ N a0 a1=some r):Okc W8 143 [(fW a0),(eW a1)] ([]) (fun u post=>u=(cG r)/\post=[]):=by
 refine ce Tryz.func143 ?_;intro B1
 refine cn fun B2=> ?_
 intro B3
 refine cR h (fun _ k=>yA k) fun y4 h=> ?_
 exact eN
def ki (N:Nat)(a0 a1:WK):Option Bool:=
 some (decide (a0=a1))
theorem vt {N:Nat}{a0 a1:WK}{r:Bool}(h:ki N a0 a1=some r):Okc W8 184 [(aE a0),(aE a1)] ([]) (fun u post=>u=.bool r/\post=[]):=by
 refine ce Tryz.func184 ?_;intro B1
 refine cn fun B2=> ?_
 refine ga (vX (x:=a0) (y:=a1) J J) ?_;exact eN
def ii (a0:WJ)(a1:WU):Option Bool:=
 (aP N a1 32).bind fun y3=>(bif y3 then (some (!decide (ai .i64 a1.Zd 4=0))) else (some false)).bind fun b4=>(bif b4 then (some true) else ((aP N a1 16).bind fun y6=>(bif y6 then (some (!decide (ai .i64 (EB .i64 a1.Zd a0.Zd) 2=0))) else (some false)).bind fun b7=>some b7)).bind fun b5=>bif b5 then (some true) else (bif !decide (ai .i64 a0.Zd 8=0) then ((aP N a1 3).bind fun a6=>(bif a6 then (some true) else ((aP N a1 4).bind fun a7=>(bif a7 then ((ki N a1.Zq a0.Zq).bind fun a8=>some (!a8)) else (some false)).bind fun b0=>some b0)).bind fun b6=>(bif b6 then (some true) else ((aP N a1 8).bind fun b9=>(bif b9 then ((ki N a1.Zr a0.Zr).bind fun d0=>some (!d0)) else (some false)).bind fun d1=>some d1)).bind fun d2=>some d2) else ((aP N a1 12).bind fun d3=>bif d3 then (some true) else ((bif decide (ai .i64 a0.Zd 1=0) then ((aP N a1 2).bind fun d4=>(bif d4 then (some (!decide (ai .i64 a1.Zd 1=0))) else (some false)).bind fun d6=>(bif d6 then (some true) else ((aP N a1 1).bind fun e0=>(bif e0 then ((ki N a1.Value a0.Value).bind fun e1=>some (!e1)) else (some false)).bind fun e2=>some e2)).bind fun e3=>some e3) else (some false)).bind fun e4=>some e4)))
theorem ID {N:Nat}{a0:WJ}{a1:WU}{r:Bool}(h:ii N a0 a1=some r):Okc W8 144 [(cG a0),(fW a1)] ([]) (fun u post=>u=.bool r/\post=[]):=by
 refine ce Tryz.func144 ?_;intro B1
 refine cn fun B2=> ?_
 refine sZ ?_
 refine cR h (fun _ k=>bG k) fun y3 h=> ?_
 refine oo 5 12 7 h (fun _ g4 h=> ?_) fun b4 h=> ?_
 ·refine ab ?_;exact fb (aI J J) J (bW g4 J) J<|gY
 refine ab ?_
 refine xc 12 25 13 h (fun _ g5 h=> ?_) fun b5 h=> ?_
 ·refine cR h (fun _ k=>bG k) fun y6 h=> ?_
  refine oo 8 24 16 h (fun _ g7 h=> ?_) fun b7 h=> ?_
  ·refine ab ?_;exact fb (Lg J J) J (bW g7 J) J<|fb (aI J J) J (bW g7 J) J<|gY
  exact gY
 refine dr h ?_ ?_<;>intro h
 ·exact eY
 refine sY ?_;refine ga (aI J J) ?_;refine gH J h ?_ ?_<;>intro h
 ·refine cR h (fun _ k=>bG k) fun a7 h=> ?_
  refine xc 11 43 32 h (fun _ a8 h=> ?_) fun b0 h=> ?_
  ·refine cR h (fun _ k=>bG k) fun b6 h=> ?_
   refine oo 7 42 35 h (fun _ b9 h=> ?_) fun d0 h=> ?_
   ·refine cR h (fun _ k=>vt k) fun d1 h=> ?_
    exact gY
   exact gY
  refine ab ?_
  refine xc 11 55 44 h (fun _ d2 h=> ?_) fun d3 h=> ?_
  ·refine cR h (fun _ k=>bG k) fun d4 h=> ?_
   refine oo 7 54 47 h (fun _ d6 h=> ?_) fun e0 h=> ?_
   ·refine cR h (fun _ k=>vt k) fun e1 h=> ?_
    exact gY
   exact gY
  exact eY
 refine sY ?_
 refine cR h (fun _ k=>bG k) fun e2 h=> ?_
 refine gH J h ?_ ?_<;>intro h
 ·exact eY
 refine ab ?_;refine ga (aI J J) ?_
 refine oo 21 83 62 h (fun _ e3 h=> ?_) fun e4 h=> ?_
 ·refine cR h (fun _ k=>bG k) fun e5 h=> ?_
  refine oo 5 70 65 h (fun _ a6 h=> ?_) fun e6 h=> ?_
  ·refine ab ?_;exact fb (aI J J) J (bW a6 J) J<|gY
  refine ab ?_
  refine xc 11 82 71 h (fun _ e7 h=> ?_) fun e8 h=> ?_
  ·refine cR h (fun _ k=>bG k) fun e9 h=> ?_
   refine oo 7 81 74 h (fun _ f0 h=> ?_) fun f1 h=> ?_
   ·refine cR h (fun _ k=>vt k) fun f2 h=> ?_
    exact gY
   exact gY
  exact gY
 exact eY
def dq (a0:WJ)(a1 a2:Bool)(a3:WP)(a4:WU):Option (WJ×Bool):=
 bif !a1 then (bif !a2 then (some ((⟨(⟨0,0,⟨#[]⟩⟩:WP),0,(⟨0,0,⟨#[]⟩⟩:WK),(⟨0,0,⟨#[]⟩⟩:WK),(⟨0,0,⟨#[]⟩⟩:WK)⟩:WJ),false)) else ((uZ N a4 a3).bind fun y7=>some (y7,true))) else ((bif decide (ai .i64 a0.Zd 4=0) then ((ii N a0 a4).bind fun y9=>some y9) else (some false)).bind fun b8=>bif b8 then (some ((⟨(⟨0,0,⟨#[]⟩⟩:WP),0,(⟨0,0,⟨#[]⟩⟩:WK),(⟨0,0,⟨#[]⟩⟩:WK),(⟨0,0,⟨#[]⟩⟩:WK)⟩:WJ),false)) else ((oL N a0 a3 a4).bind fun a6=>some (a6,true)))
theorem vq {N:Nat}{a0:WJ}{a1 a2:Bool}{a3:WP}{a4:WU}{r:WJ×Bool}(h:dq N a0 a1 a2 a3 a4=some r):Okc W8 102 [(cG a0),.bool a1,.bool a2,(eW a3),(fW a4)] ([]) (fun u post=>u=.tuple #[(cG r.1),.bool r.2]/\post=[]):=by
 refine ce Tryz.func102 ?_;intro B1
 refine cn fun B2=> ?_
 intro B3
 refine cn fun B4=> ?_
 refine sZ ?_;refine gH J h ?_ ?_<;>intro h
 ·refine sZ ?_;refine gH J h ?_ ?_<;>intro h
  ·exact eY
  refine cR h (fun _ k=>IE k) fun y7 h=> ?_
  exact eN
 refine sY ?_;refine ga (aI J J) ?_
 refine oo 4 28 24 h (fun _ g8 h=> ?_) fun b8 h=> ?_
 ·refine cR h (fun _ k=>ID k) fun y9 h=> ?_
  exact gY
 refine dr h ?_ ?_<;>intro h
 ·exact eY
 refine cR h (fun _ k=>yA k) fun a6 h=> ?_
 exact eN
def sw (N:Nat):Option (Int×Int×Bool):=
 some (0,0,false)
def jV (N:Nat)(a0:WG)(a2:WP):Nat->Int->Int->Int->ByteArray->Int->Int->Option (Int×Int×Bool)
 |0,_,_,_,_,_,_=>none
 |a8+1,b0,p13,b5,p15,b6,a7=>bif decide (0<a7) then (bif decide ((⟨p13,b5,p15⟩:WP)=a2) then (aG (in64 (a7 - 1)) (some (a7 - 1,b6,true))) else ((au a0.Zp b0).bind fun a6=>(jV N a0 a2 a8) a6.Up a6.Zg.Za a6.Zg.N a6.Zg.S a6.Zd a6.ZC)) else (sw N)
def dw (a0:WG)(a1:Int)(a2:WP):Option (Int×Int×Bool):=
 (ft N a0 a1).bind fun y5=>bif !y5 then (some (0,0,false)) else ((au a0.Zp a1).bind fun x8=>jV N a0 a2 N x8.Up x8.Zg.Za x8.Zg.N x8.Zg.S x8.Zd x8.ZC)
theorem kH {N:Nat}{a0:WG}{r:Int×Int×Bool}(h:dw N a0 a1 a2=some r):Okc W8 133 [pV B1 0,iV a1,(eW a2)] ([aQ B1 170 [W A2 n2 c2,.map (some M3)],iI bC (W A2 n2 c2) a0.Zp,qD eC we M3 a0.ZD]) (fun u post=>u=.tuple #[iV r.1,iV r.2.1,.bool r.2.2]/\post=[]):=by
 refine ce Tryz.func133 ?_;intro B4;refine sY ?_
 refine cR h (fun _ k=>pg k) fun y5 h=> ?_
 refine gH J h ?_ ?_<;>intro h
 ·exact eY
 refine ab ?_;refine ao (fun s L=>sw N=some r/\s=[(6,iV 0),(7,iV 0),(8,.bool false)]/\L=[]) ?_ ?_
 ·refine ab ?_;obtain ⟨x8,d1,d2,d3,h⟩:=bz h
  refine cn fun B9=> ?_
  refine lK (fun m s L=> ∃(a7:Int) (p13:Int) (a6:Int) (p15:ByteArray) (a8:Int) (b0:Int) (b5:Nat),jV N a0 a2 m a7 p13 a6 p15 a8 b0=some r/\s=[(0,pV B1 0),(5,pV B4 0),(6,iV 0),(7,iV 0),(8,.bool false),(9,pV b5 0)]/\L=[ah b5 166 [iV a7,iV p13,iV a6,.string p15,iV a8,iV b0],iI bC (W A2 n2 c2) a0.Zp,qD eC we M3 a0.ZD,aQ B1 170 [W A2 n2 c2,.map (some M3)],ah B4 39 (ls a2)]) N ?_;rintro d4 _ _ ⟨a7,p13,a6,p15,a8,b0,b5,h,rfl,rfl⟩;rw [jV.eq_2] at h;refine sZ ?_;refine gH J h ?_ ?_<;>intro h
  ·refine sY ?_;refine ga (ul (x:=(⟨p13,a6,p15⟩:WP)) (y:=a2) J J) ?_;refine gH J h ?_ ?_<;>intro h
   ·refine dY [] ?_;refine ab ?_;obtain ⟨d6,h⟩:=ae h;exact eY
   refine sY ?_;intro e0;refine ab ?_;refine ba O _ (ad _)<|ab ?_;obtain ⟨b6,b7,b9,d0,h⟩:=bz h;refine ab ?_;refine gN 8 J O O (am (us:=Et b6) (cs':=Et b6) 0 J J J J size166.out J J J) ?_;rintro _ _ rfl;exact lY
  exact jY
 rintro _ _ ⟨h,rfl,rfl⟩;exact eY
theorem xm {N:Nat}{a0:WG}{r:Int×Int×Bool}(h:dw N a0 a1 a2=some r):Okc W8 133 [pV B1 0,iV a1,(eW a2)] ([pDTable B1 a0]) (fun u post=>u=.tuple #[iV r.1,iV r.2.1,.bool r.2.2]/\post=[]):=Nz 0 rfl (fun _=>kH h)
def cc (a0:WD)(a1:WP):Option (WJ×Int×Bool):=
 (cV N a0.w_).bind fun y9=>(dw N a0.w_.Zp a0.Zn.Zi a1).bind fun a6=>bif !a6.2.2 then (some ((⟨(⟨0,0,⟨#[]⟩⟩:WP),0,(⟨0,0,⟨#[]⟩⟩:WK),(⟨0,0,⟨#[]⟩⟩:WK),(⟨0,0,⟨#[]⟩⟩:WK)⟩:WJ),0,false)) else ((fN N a0 a6.1 a1 a6.2.1).bind fun a7=>some (a7,a6.1,true))
theorem kJ {N:Nat}{a0:WD}{a1:WP}{r:WJ×Int×Bool}(h:cc N a0 a1=some r){B4 B5 B6:Nat}:Okc W8 93 [pV B1 0,(eW a1)] ([aQ B1 135 [iV a0.Zn.Za,iV a0.Zn.Zi,iV a0.Zn.Ze,iV a0.Zn.Zf,W A2 n2 c2,W A3 n3 c3,pV B4 0,iV a0.at_.Za,iV a0.at_.N,.string a0.at_.S],aX A2 n2 c2 a0.Zn.Zc,aX A3 n3 c3 a0.Zn.Zb,pDWorld B4 B5 B6 a0.w_]) (fun u post=>u=.tuple #[(cG r.1),iV r.2.1,.bool r.2.2]/\post=[]):=by
 refine ce Tryz.func93 ?_;intro B7
 refine cn fun B8=> ?_
 refine dY [0,1,2,3,5,6,7,8,9,10] ?_;obtain ⟨y9,k,h⟩:=aa h;refine zD 4 J (oR (eS k)) ?_;rintro _ _ ⟨_,⟨rfl,rfl⟩,rfl⟩;refine ⟨_,ad _,ad _,?_⟩;obtain ⟨a6,k,h⟩:=aa h;refine zD 11 J (oR (xm k)) ?_;rintro _ _ ⟨_,⟨rfl,rfl⟩,rfl⟩;refine ⟨_,ad _,ad _,?_⟩;refine zX [12,13,14,15,16,17,18] ?_;refine sY ?_;refine gH J h ?_ ?_<;>intro h
 ·exact eY
 refine cR h (fun _ k=>rS k) fun a7 h=> ?_
 exact eN
def pp (N:Nat)(a0:Int):Option Bool:=
 (bif decide (0<=a0) then (some (decide (a0<=15))) else (some false)).bind fun b1=>(bif b1 then (some (!decide (ai .i64 a0 9=9))) else (some false)).bind fun b2=>some b2
theorem H1 {N:Nat}{a0:Int}{r:Bool}(h:pp N a0=some r):Okc W8 176 [iV a0] ([]) (fun u post=>u=.bool r/\post=[]):=by
 refine ce Tryz.func176 ?_;refine gS 3 8 5 h ?_;intro b1 h;refine ab ?_
 refine oo 4 13 9 h (fun _ g2 h=> ?_) fun b2 h=> ?_
 ·refine ab ?_;exact fb (aI J J) J (bW g2 J) J<|gY
 exact eY
def fK (a0:WG)(a1:Int)(a2:WP)(a3:Int):Option Int:=
 (ft N a0 a1).bind fun y5=>bif !y5 then (some 2) else ((aZ N a2).bind fun y7=>(bif !y7 then (some true) else ((pp N a3).bind fun y9=>some (!y9))).bind fun b8=>bif b8 then (some 1) else (some 0))
theorem nb {N:Nat}{a0:WG}{r:Int}(h:fK N a0 a1 a2 a3=some r):Okc W8 134 [pV B1 0,iV a1,(eW a2),iV a3] ([aQ B1 170 [W A2 n2 c2,.map (some M3)],iI bC (W A2 n2 c2) a0.Zp,qD eC we M3 a0.ZD]) (fun u post=>u=iV r/\post=[]):=by
 refine ce Tryz.func134 ?_;intro B4;refine sY ?_;refine ga (dO J Tryz.underlying77) ?_
 refine ge J<|cR h (fun _ k=>pg k) fun y5 h=> ?_
 refine gH J h ?_ ?_<;>intro h
 ·exact eY
 refine cR h (fun _ k=>nM k) fun y7 h=> ?_
 refine xc 4 25 21 h (fun _ g8 h=> ?_) fun b8 h=> ?_
 ·refine cR h (fun _ k=>H1 k) fun y9 h=> ?_
  exact gY
 refine dr h ?_ ?_<;>intro h
 ·exact eY
 exact eY
def qI (N:Nat)(p5:Int):Option Int:=
 some p5
def jy (N:Nat)(a2:Int)(a0:WG):Nat->Int->Option Int
 |0,_=>none
 |m6+1,p7=>(au a0.Zp p7).bind fun x8=>bif decide (a2<x8.ZC) then ((au a0.Zp p7).bind fun a6=>(jy N a2 a0 m6) a6.Up) else (qI N p7)
def gT (a0:WG)(a1 a2:Int):Option Int:=
 jy N a2 a0 N a1
theorem qH {N:Nat}{a0:WG}{a2 r:Int}(h:gT N a0 a1 a2=some r):Okc W8 136 [pV B1 0,iV a1,iV a2] ([aQ B1 170 [W A2 n2 c2,.map (some M3)],iI bC (W A2 n2 c2) a0.Zp,qD eC we M3 a0.ZD]) (fun u post=>u=iV r/\post=[]):=by
 refine ce Tryz.func136 ?_;refine ao (fun s L=> ∃p5,qI N p5=some r/\s=[(1,iV p5),(6,iV 0)]/\L=[]) ?_ ?_
 ·refine ab ?_;refine lK (fun m s L=> ∃(p7:Int),jy N a2 a0 m p7=some r/\s=[(0,pV B1 0),(1,iV p7),(2,iV a2),(6,iV 0)]/\L=[iI bC (W A2 n2 c2) a0.Zp,qD eC we M3 a0.ZD,aQ B1 170 [W A2 n2 c2,.map (some M3)]]) N ?_;rintro m6 _ _ ⟨p7,h,rfl,rfl⟩;rw [jy.eq_2] at h;refine sZ ?_;obtain ⟨x8,a8,b0,b6,h⟩:=bz h;refine ab ?_;refine K9 (uJ 0 J bi J (toNat_lt a8 b0) FW) ?_;refine gH J h ?_ ?_<;>intro h
  ·refine ab ?_;obtain ⟨b7,a6,a7,b5,h⟩:=bz h;refine ab ?_;refine K9 (se 0 J bi J (toNat_lt a6 a7) FY) ?_;exact lN
  exact jY
 rintro _ _ ⟨p5,h,rfl,rfl⟩;exact eY
def su (N:Nat)(a6:Int)(p21:List WQ)(a7:(List (WM×Int))):Option (Int×Int×WG):=
 some (a6,0,(⟨p21,a7⟩:WG))
def kF (N:Nat)(p7:List WQ):Nat->Int->Int->(List WQ)->(List (WM×Int))->Option (Int×Int×WG)
 |0,_,_,_,_=>none
 |b7+1,a7,b5,a8,b6=>bif decide (b5<(p7.length:Int)) then ((au p7 b5).bind fun a6=>(au a8 a7).bind fun b0=>aG (in64 (b0.ZC+1)) (aG (bu (a8.length+([(⟨a7,a6.Zg,a6.Zd,b0.ZC+1⟩:WQ)]:List WQ).length)) (aG (in64 (((a8++([(⟨a7,a6.Zg,a6.Zd,b0.ZC+1⟩:WQ)]:List WQ)).length:Int) - 1)) (aG (in64 (b5+1)) ((kF N p7 b7) (((a8++([(⟨a7,a6.Zg,a6.Zd,b0.ZC+1⟩:WQ)]:List WQ)).length:Int) - 1) (b5+1) (a8++([(⟨a7,a6.Zg,a6.Zd,b0.ZC+1⟩:WQ)]:List WQ)) (AZ b6 (⟨a7,a6.Zg,a6.Zd⟩:WM) (a8.length:Int))))))) else (su N a7 a8 b6)
def gm (a0:WG)(p6:Int)(p7:List WQ):Option (Int×Int×WG):=
 aG (in64 (1073741824 - (a0.Zp.length:Int))) (bif decide (1073741824 - (a0.Zp.length:Int)<(p7.length:Int)) then (some (0,5,a0)) else (kF N p7 N p6 0 a0.Zp a0.ZD))
def lG (N:Nat)(a0:WG):Nat->Int->(List WQ)->Option (Int×Int×WG)
 |0,_,_=>none
 |m8+1,p9,a6=>bif decide (0<(a6.length:Int)) then ((au a6 0).bind fun a7=>(au a6 0).bind fun a8=>bif !((lk a0.ZD (⟨p9,a7.Zg,a8.Zd⟩:WM)).isSome) then (gm N a0 p9 a6) else (aG ((0:Int)<=1/\(1:Int).toNat<=a6.length/\a6.length<=a6.length) ((lG N a0 m8) ((lk a0.ZD (⟨p9,a7.Zg,a8.Zd⟩:WM)).getD 0) ((a6.drop ((1:Int).toNat)).take (a6.length - (1:Int).toNat))))) else (gm N a0 p9 a6)
def jU (a0:WG)(a1:Int)(a2:List WQ):Option (Int×Int×WG):=
 lG N a0 N a1 a2
theorem pf {N:Nat}{a0:WG}{a2:List WQ}{r:Int×Int×WG}(h:jU N a0 a1 a2=some r):Okc W8 135 [pV B1 0,iV a1,W A4 n4 c4] ([iI bC (W A4 n4 c4) a2,ah B1 170 [W A2 n2 c2,.map (some M3)],bc bC 166 (W A2 n2 c2) a0.Zp,bE eC we M3 a0.ZD]) (fun u post=> ∃A0 n0 c0 M1,u=.tuple #[iV r.1,iV r.2.1]/\post=[ah B1 170 [W A0 n0 c0,.map (some M1)],bc bC 166 (W A0 n0 c0) r.2.2.Zp,bE eC we M1 r.2.2.ZD]):=by
 refine ce Tryz.func135 ?_;refine ao (fun s L=> ∃p6 p7 A7 n7 c7,gm N a0 p6 p7=some r/\s=[(0,pV B1 0),(6,iV 0),(7,iV 0),(8,iV p6),(9,W A7 n7 c7)]/\L=[iI bC (W A7 n7 c7) p7,bc bC 166 (W A2 n2 c2) a0.Zp,bE eC we M3 a0.ZD,ah B1 170 [W A2 n2 c2,.map (some M3)]]) ?_ ?_
 ·refine ab ?_;refine lK (fun m s L=> ∃(p9:Int) (e0:List WQ) (e3:Option Addr) (e4 e5:Nat),lG N a0 m p9 e0=some r/\s=[(0,pV B1 0),(6,iV 0),(7,iV 0),(8,iV p9),(9,W e3 e4 e5)]/\L=[iI bC (W e3 e4 e5) e0,bc bC 166 (W A2 n2 c2) a0.Zp,bE eC we M3 a0.ZD,ah B1 170 [W A2 n2 c2,.map (some M3)]]) N ?_;rintro m8 _ _ ⟨p9,e0,e3,e4,e5,h,rfl,rfl⟩;rw [lG.eq_2] at h;refine sZ ?_;refine gH J h ?_ ?_<;>intro h
  ·refine ab ?_;refine dY [] ?_;refine ab ?_;obtain ⟨g3,e6,e7,g4,h⟩:=bz h;refine ab ?_;refine zR 7 J (uJ 0 J bi J (toNat_lt e6 e7) FX) ?_;refine ab ?_;obtain ⟨g5,e8,e9,g6,h⟩:=bz h;refine ab ?_;refine zR 11 J (uJ 0 J bi J (toNat_lt e8 e9) Co) ?_;refine ab ?_;refine zR 14 J (Bt (a:=(⟨p9,g3.Zg,g5.Zd⟩:WM)) (z:=0) 2 J Fz J J Tryz.underlying168 FI zero3.out) ?_;refine sY ?_;refine gH J h ?_ ?_<;>intro h
   ·refine ab ?_;exact Vx J<|jY
   refine ab ?_;refine ba O _ (ad _)<|zY [0,1] ?_;obtain ⟨e1,h⟩:=ae h;refine IU 0 J (l:=(1:Int).toNat) (h:=e0.length) e1.2.1 e1.2.2 ?_;rintro h5 h6 h7 g7;refine zR 2 J (Bu 1 J g7 J Wl size166.out J (by rw [Xn e1.1];rfl) e1.2.1) ?_;refine zX [3,4] ?_;exact lY
  exact jY
 rintro _ _ ⟨p6,p7,A7,n7,c7,h,rfl,rfl⟩;refine sZ ?_;obtain ⟨h8,h⟩:=ae h;refine dr h ?_ ?_<;>intro h
 ·exact eY
 refine ab ?_;refine ao (fun s L=> ∃f0 p21 f1 f2 f3 f4,su N f0 p21 f1=some r/\s=[(6,iV 0),(7,iV 0),(8,iV f0)]/\L=[bc bC 166 (W f2 f3 f4) p21,bE eC we M3 f1,ah B1 170 [W f2 f3 f4,.map (some M3)]]) ?_ ?_
 ·refine ab ?_;refine lK (fun m s L=> ∃(a7:Int) (d2:Int) (b7:List WQ) (e2:(List (WM×Int))) (a8:Option Addr) (b0 b5:Nat),kF N p7 m a7 d2 b7 e2=some r/\s=[(0,pV B1 0),(6,iV 0),(7,iV 0),(8,iV a7),(51,W A7 n7 c7),(52,iV (p7.length:Int)),(53,iV d2)]/\L=[iI bC (W A7 n7 c7) p7,bc bC 166 (W a8 b0 b5) b7,bE eC we M3 e2,ah B1 170 [W a8 b0 b5,.map (some M3)]]) N ?_;rintro h9 _ _ ⟨a7,d2,b7,e2,a8,b0,b5,h,rfl,rfl⟩;rw [kF.eq_2] at h;refine ab ?_;refine aA<|gH J h (fun h=> ?_) (fun h=> ?_)
  ·refine sY ?_;obtain ⟨a6,g8,g9,h0,h⟩:=bz h
   refine cn fun d3=> ?_
   refine dY [] ?_;refine ab ?_;refine gN 15 J O O (nK (a:=(⟨a7,a6.Zg,a6.Zd⟩:WM)) (b:=(b7.length:Int)) 3 J J J J Tryz.underlying168 FI) ?_;rintro _ _ rfl;refine ab ?_;refine aA ?_;obtain ⟨b6,d4,d6,f6,h⟩:=bz h;obtain ⟨f9,h⟩:=ae h;refine gI (t:=[(0,pV B1 0),(6,iV 0),(7,iV 0),(8,iV a7),(13,pV d3 0),(51,W A7 n7 c7),(52,iV (p7.length:Int)),(53,iV d2)]) ?_ mc (ad _)
   refine iQ O 21 [0] [0,4,20] [72,73,74,75,76,77,78,79,80,81,82,83,84,85,86,87,88,89,90,91,92] [[],[],[1],[2],[3],[],[],[6],[],[8],[],[10],[11],[12],[],[13,14],[15],[16],[17],[5,7,9,18],[19]] [aV (pV B1 0),
aV (pV B1 0),
aV (pV B1 0),
aV (pV B1 0),
aV (W a8 b0 b5),
aV (iV a7),
aV (pV d3 1),
aV ((eW a6.Zg)),
aV (pV d3 4),
aV (iV a6.Zd),
aV (pV B1 0),
aV (pV B1 0),
aV (pV B1 0),
aV (W a8 b0 b5),
aV (iV a7),
aV (dD (W a8 b0 b5) a7.toNat 6 0),
aV (dD (W a8 b0 b5) a7.toNat 6 5),
aV (iV b6.ZC),
aV (iV (b6.ZC+1)),
aV (.agg #[iV a7,iV a6.Zg.Za,iV a6.Zg.N,.string a6.Zg.S,iV a6.Zd,iV (b6.ZC+1)]),
aX3 (fun (b9:Option Addr) (d0 d1:Nat)=> W b9 d0 d1) (fun b9 d0 d1=> [bc bC 166 (W b9 d0 d1) ([(⟨a7,a6.Zg,a6.Zd,b6.ZC+1⟩:WQ)]:List WQ)])] [] (ad _) (fB rfl lV) O rfl rfl ?_ ?_ ?_
   ·exact fA J (nz (aq J) J (iH J (ad _)))<|lU
   ·refine aF J ?_ ?_
    ·refine tl (aB (R:=bC) (vss:=[[iV a7,iV a6.Zg.Za,iV a6.Zg.N,.string a6.Zg.S,iV a6.Zd,iV (b6.ZC+1)]]) (xs:=[(⟨a7,a6.Zg,a6.Zd,b6.ZC+1⟩:WQ)]) J (Dn _ _ _ _ _ _) J J (fun _ _ hr=> .cons J All2.nil)) J ?_;rintro _ _ ⟨h1,h2,h3,rfl,rfl⟩;exact N3 h1 h2 h3 (ad _)
    refine qE (nv J (bld_166_0_1_2_3 _ _ _ _ _ _).out) ?_;refine qE (iN J J f9.1 f9.2) ?_;refine aF J (yQ (mg (u:=iV b6.ZC) 2 J ap J f6 rR (fun _ _ _ h=>by rw [show _=_ from h];rfl)) J (iH J (ad _)))<|qR (uJ 2 J ap J (toNat_lt d4 d6) FW) ?_;refine qR (cT 2 J ap J J Wl size166.out d4 d6) ?_;refine qE (aq J) ?_;refine qR (bM 4 J J KN J) ?_;refine qE (nu J Cn) ?_;refine qE (dC J) ?_;refine qE (aq J) ?_;refine qR (bM 0 J J rR J) ?_;refine qE (jD J Co) ?_;refine qR (aC (us:=ls a6.Zg) 0 J J agg39.out J) ?_;refine qE (jD J FX) ?_;refine qE (aq J) ?_;refine qR (bM 4 J J KN J) ?_;refine qE (nu J Cn) ?_;refine qE (dC J) ?_;refine qE (aq J) ?_;refine qE (aq J) ?_;exact dI
   intro b9 d0 d1;refine oa (t:=[(72,pV B1 0),(76,W a8 b0 b5),(92,W b9 d0 d1),(0,pV B1 0),(6,iV 0),(7,iV 0),(8,iV a7),(13,pV d3 0),(51,W A7 n7 c7),(52,iV (p7.length:Int)),(53,iV d2)]) (L':=[bc bC 166 (W b9 d0 d1) ([(⟨a7,a6.Zg,a6.Zd,b6.ZC+1⟩:WQ)]:List WQ),ah d3 166 (Et a6),iI bC (W A7 n7 c7) p7,bc bC 166 (W a8 b0 b5) b7,bE eC we M3 (AZ e2 (⟨a7,a6.Zg,a6.Zd⟩:WM) (b7.length:Int)),ah B1 170 [W a8 b0 b5,.map (some M3)]]) ?_ mc (ad _);obtain ⟨h4,h⟩:=ae h;refine uv 21 J O (aR 3 0 J J ap J J Wl TY J J h4) J J J ?_;rintro _ _ ⟨g0,g1,g2,rfl,rfl⟩;refine CF 22 J O (dC J) J J J<|CF 23 J O (nu J Cn) J J J<|pL 24 J O (am (us:=[W g0 g1 g2]) (cs':=[W g0 g1 g2,.map (some M3)]) 5 J J J J size167.out J J J) J J ?_;rintro _ _ rfl;refine Ab ?_;refine mb O<|ab ?_;obtain ⟨i0,h⟩:=ae h;refine ab ?_;obtain ⟨i1,h⟩:=ae h;exact lY
  exact jY
 rintro _ _ ⟨f0,p21,f1,f2,f3,f4,h,rfl,rfl⟩;exact eY
def ej (a0:WG)(a1:Int)(a2:WP):Option (Int×Int×WG):=
 (fK N a0 a1 a2 0).bind fun y5=>bif !decide (y5=0) then (some (0,y5,a0)) else ((dw N a0 a1 a2).bind fun y7=>bif !y7.2.2 then (some (0,3,a0)) else ((gT N a0 a1 y7.1).bind fun y9=>(fq N a0 a1).bind fun a6=>aG (in64 (y7.1+1)) (aG ((0:Int)<=y7.1+1/\(y7.1+1).toNat<=a6.length/\a6.length<=a6.length) ((jU N a0 y9 ((a6.drop ((y7.1+1).toNat)).take (a6.length - (y7.1+1).toNat))).bind fun a7=>some (a7.1,a7.2.1,a7.2.2)))))
theorem wk {N:Nat}{a0:WG}{r:Int×Int×WG}(h:ej N a0 a1 a2=some r):Okc W8 94 [pV B1 0,iV a1,(eW a2)] ([ah B1 170 [W A2 n2 c2,.map (some M3)],bc bC 166 (W A2 n2 c2) a0.Zp,bE eC we M3 a0.ZD]) (fun u post=> ∃A0 n0 c0 M1,u=.tuple #[iV r.1,iV r.2.1]/\post=[ah B1 170 [W A0 n0 c0,.map (some M1)],bc bC 166 (W A0 n0 c0) r.2.2.Zp,bE eC we M1 r.2.2.ZD]):=by
 refine ce Tryz.func94 ?_;intro B4;refine sY ?_
 refine cR h (fun _ k=>nb k) fun y5 h=> ?_
 refine gH J h ?_ ?_<;>intro h
 ·exact eY
 refine cR h (fun _ k=>kH k) fun y7 h=> ?_
 refine sZ ?_;refine gH J h ?_ ?_<;>intro h
 ·exact eY
 refine cR h (fun _ k=>qH k) fun y9 h=> ?_
 refine MG h (fun _ k=>lF k) fun a7 b0 b5 b6 h=> ?_
 obtain ⟨b7,h⟩:=ae h;refine ab ?_;refine mX (bq 0 J) ?_;obtain ⟨a6,h⟩:=ae h;refine Qm 0 J (l:=(y7.1+1).toNat) (h:=a7.length) a6.2.1 a6.2.2 ?_;rintro b9 d0 d1 a8;refine gR (Bu 1 J a8 J Wl size166.out J (by rw [Xn a6.1];rfl) a6.2.1) ?_;obtain ⟨d2,k,h⟩:=aa h;refine gD (oC (pf k)) ?_;rintro _ _ ⟨_,⟨d3,d4,d6,e0,rfl,rfl⟩,rfl⟩;exact eY
theorem vi {N:Nat}{a0:WG}{r:Int×Int×WG}(h:ej N a0 a1 a2=some r):Okc W8 94 [pV B1 0,iV a1,(eW a2)] ([oDTable B1 a0]) (fun u post=>u=.tuple #[iV r.1,iV r.2.1]/\post=[oDTable B1 r.2.2]):=LW 0 rfl (fun _=>wk h)
def sH (N:Nat)(a0:Int):Option Bool:=
 (bif decide (0<a0) then (some (decide (a0.tmod 2=0))) else (some false)).bind fun b1=>some b1
theorem Gt {N:Nat}{a0:Int}{r:Bool}(h:sH N a0=some r):Okc W8 181 [iV a0] ([]) (fun u post=>u=.bool r/\post=[]):=by
 refine ce Tryz.func181 ?_
 refine oo 4 9 5 h (fun _ g1 h=> ?_) fun b1 h=> ?_
 ·refine ab ?_;exact fb (sm J J (by decide)) J (bW g1 J) J<|gY
 exact eY
def tg (N:Nat)(a0:WK):Option Bool:=
 (bif decide (a0.Za=7) then (some true) else (some (decide (a0.Za=9)))).bind fun b2=>some b2
theorem GJ {N:Nat}{a0:WK}{r:Bool}(h:tg N a0=some r):Okc W8 205 [(aE a0)] ([]) (fun u post=>u=.bool r/\post=[]):=by
 refine ce Tryz.func205 ?_;intro B1;refine ab ?_;refine gS 4 10 6 h ?_;intro b2 h;exact eY
def fI (a1:Bool)(x8:Bool×WK):(W4)->Option (Option Exit×W4)
 |p9=>(bif x8.1==a1 then ((tg N x8.2).bind fun a6=>some a6) else (some false)).bind fun a7=>bif a7 then (aG (bu (p9.length+([x8.2.N]:List Int).length)) (some (none,p9++([x8.2.N]:List Int)))) else (some (none,p9))
def lj (a0:WI)(a1:Bool):Option W4:=
 (ur N a0).bind fun y6=>(oN N a0 (cM (fun x st=>fI N a1 x st)) (none,[])).bind fun a6=>qN a6.1 (some a6.2) none (fun _=>none)
theorem vb {N:Nat}{a0:WI}{a1:Bool}{r:W4}(h:lj N a0 a1=some r):Okc W8 188 [.agg #[iV a0.Za,iV a0.Zi,iV a0.Ze,iV a0.Zf,W A1 n1 c1,W A2 n2 c2],.bool a1] ([aX A1 n1 c1 a0.Zc,aX A2 n2 c2 a0.Zb]) (fun u post=> ∃A0 n0 c0,u=W A0 n0 c0/\post=[uA A0 n0 c0 r]):=by
 refine ce Tryz.func188 ?_;intro B3
 refine cn fun B4=> ?_
 intro B5;refine sY ?_;obtain ⟨y6,k,h⟩:=aa h;refine gD (oR (DV k)) ?_;rintro _ _ ⟨_,⟨B7,rfl,rfl⟩,rfl⟩;refine ab ?_;refine gI ?_ bw (kZ 0 J);obtain ⟨a6,k,h⟩:=aa h;refine uw (en:=(fun x=> [.bool x.1,.agg #[iV x.2.Za,iV x.2.N,.string x.2.S]])) (fun x st=>fI N a1 x st) (fun (st:W4) (mz:((Option Addr×Nat×Nat)))=> [ah B4 4 [.bool a1],bc (nE .i64) 3 (.slice mz.1 mz.2.1 mz.2.2) st,ah B5 144 [.slice mz.1 mz.2.1 mz.2.2]]) [aQ B7 94 (iL a0 A1 n1 c1 A2 n2 c2),aX A1 n1 c1 a0.Zc,aX A2 n2 c2 a0.Zb] ([]) ((none,0,0)) J J call199.out J (fun _=>J) (fun l G hY=>(yG k hY).mono fun _ _ hh=>hh.2) ((cj (nE .i64) 3 _).trans (bP [1,5,6] [] [3,0,2] 7 J)) h ?_ ?_ ?_ ?_
 ·rintro l x8 p9 je sr8 ⟨A9,n9,c9⟩ h;replace h:fI N a1 x8 p9=some (je,sr8):=h;simp only [AO,Yt,Yu,Yv,Yn,Yo,Y3,Xs]
  refine cn fun b6=> ?_
  refine ga (Dj J J Wt) ?_
  refine oo 3 18 15 h (fun _ b7 h=> ?_) fun b9 h=> ?_
  ·refine cR h (fun _ k=>GJ k) fun d0 h=> ?_
   exact gY
  refine dr h ?_ ?_<;>intro h
  ·refine ab ?_;refine gD (aB (R:=(nE .i64)) (vss:=[[iV x8.2.N]]) (xs:=[x8.2.N]) J (rj _) J J (fun _ _ hr=> .cons J All2.nil)) ?_;rintro _ _ ⟨d1,d2,d3,rfl,rfl⟩;obtain ⟨a7,h⟩:=ae h
   refine vo (aR 3 0 J J ap J J Wk Se J J a7) fun a8 b0 b5=> ?_
   obtain ⟨rfl,rfl⟩:=YN (YL h);exact Dr ((cS [2,3,4] 5).trans (gb (a8,b0,b5) J))
  refine ab ?_;obtain ⟨rfl,rfl⟩:=YN (YL h);exact Dr ((cS [1,2,3] 4).trans (gb (A9,n9,c9) J))
 ·rintro ⟨A9,n9,c9⟩ h;exact qA ([ah B4 4 [.bool a1],uA A9 n9 c9 a6.2,ah B5 144 [W A9 n9 c9]]) J<|eY
 ·rintro ⟨A9,n9,c9⟩ h;exact aU h
 rintro i ⟨A9,n9,c9⟩ h;exact aU h
def nQ (a0:WI):Option W4:=
 (lj N a0 true).bind fun y4=>some y4
theorem vv {N:Nat}{a0:WI}{r:W4}(h:nQ N a0=some r):Okc W8 156 [.agg #[iV a0.Za,iV a0.Zi,iV a0.Ze,iV a0.Zf,W A1 n1 c1,W A2 n2 c2]] ([aX A1 n1 c1 a0.Zc,aX A2 n2 c2 a0.Zb]) (fun u post=> ∃A0 n0 c0,u=W A0 n0 c0/\post=[uA A0 n0 c0 r]):=by
 refine ce Tryz.func156 ?_;intro B3
 refine MG h (fun _ k=>vb k) fun y4 A5 n5 c5 h=> ?_
 exact eN
def ss (N:Nat)(ff:Int->Option Bool):Option Int:=
 some (-1)
def dR (N:Nat)(ff:Int->Option Bool)(a0:W4):Nat->Int->Option Int
 |0,_=>none
 |m3+1,p4=>bif decide (p4<(a0.length:Int)) then ((au a0 p4).bind fun x6=>(ff x6).bind fun y7=>bif y7 then (some p4) else (aG (in64 (p4+1)) ((dR N ff a0 m3) (p4+1)))) else (ss N ff)
def lz (a0:W4)(ff:Int->Option Bool):Option Int:=
 dR N ff a0 N 0
theorem zv {N:Nat}{a0:W4}{r:Int}(h:lz N a0 ff=some r)(hf:Qn W8 vf G (fun x=> [iV x]) (fun r=> .bool r) ff):Okc W8 189 [W A1 n1 c1,vf] (xz A1 n1 c1 a0::G) (fun u post=>u=iV r/\post=[]):=by
 refine ce Tryz.func189 ?_;refine ao (fun s L=>ss N ff=some r/\s=[(4,iV 0)]/\L=G) ?_ ?_
 ·refine ab ?_;refine lK (fun m s L=> ∃(p4:Int),dR N ff a0 m p4=some r/\s=[(0,W A1 n1 c1),(1,vf),(4,iV 0),(7,iV (a0.length:Int)),(8,iV p4)]/\L=xz A1 n1 c1 a0::G) N ?_;rintro m3 _ _ ⟨p4,h,rfl,rfl⟩;rw [dR.eq_2] at h;refine ab ?_;refine aA<|gH J h (fun h=> ?_) (fun h=> ?_)
  ·refine sY ?_;obtain ⟨x6,a6,a7,a8,h⟩:=bz h;refine ab ?_;obtain ⟨y7,k,h⟩:=aa h;refine gD (Jt (a:=x6) [xz A1 n1 c1 a0] hf k J J) ?_;rintro _ _ ⟨rfl,rfl⟩;refine dr h ?_ ?_<;>intro h
   ·exact eY
   refine ab ?_;obtain ⟨q9,h⟩:=ae h;exact lY
  exact jY
 rintro _ _ ⟨h,rfl,rfl⟩;exact eY
theorem xi {r:Int}: ∀v post,((fun (u:Value) (post:W6)=>u=iV r/\post=[])) v post-> ∀c∈post,im c:=by
 rintro _ _ ⟨rfl,rfl⟩;exact aw
def cH (a0:W4)(ff:Int->Option Bool):Option Bool:=
 (lz N a0 ff).bind fun y2=>some (decide (0<=y2))
theorem lC {N:Nat}{a0:W4}{r:Bool}(h:cH N a0 ff=some r)(hf:Qn W8 vf G (fun x=> [iV x]) (fun r=> .bool r) ff):Okc W8 158 [W A1 n1 c1,vf] (xz A1 n1 c1 a0::G) (fun u post=>u=.bool r/\post=[]):=by
 refine ce Tryz.func158 ?_;obtain ⟨y2,k,h⟩:=aa h;refine Gl (aJ (zv k hf) J (t5 (dN (i:=0) J J) (Hh (E:=[xz A1 n1 c1 a0]) hf.1)) xi) ?_;exact eN
def ne (N:Nat)(a0:Int):Option Bool:=
 (bif decide (0<a0) then (some (decide (a0.tmod 2=1))) else (some false)).bind fun b1=>some b1
theorem wZ {N:Nat}{a0:Int}{r:Bool}(h:ne N a0=some r):Okc W8 204 [iV a0] ([]) (fun u post=>u=.bool r/\post=[]):=by
 refine ce Tryz.func204 ?_
 refine oo 4 9 5 h (fun _ g1 h=> ?_) fun b1 h=> ?_
 ·refine ab ?_;exact fb (sm J J (by decide)) J (bW g1 J) J<|gY
 exact eY
def oO (a0:WI):Option W4:=
 (lj N a0 false).bind fun y4=>some y4
theorem yH {N:Nat}{a0:WI}{r:W4}(h:oO N a0=some r):Okc W8 157 [.agg #[iV a0.Za,iV a0.Zi,iV a0.Ze,iV a0.Zf,W A1 n1 c1,W A2 n2 c2]] ([aX A1 n1 c1 a0.Zc,aX A2 n2 c2 a0.Zb]) (fun u post=> ∃A0 n0 c0,u=W A0 n0 c0/\post=[uA A0 n0 c0 r]):=by
 refine ce Tryz.func157 ?_;intro B3
 refine MG h (fun _ k=>vb k) fun y4 A5 n5 c5 h=> ?_
 exact eN
def pX (a0:WI):Option Bool:=
 (nQ N a0).bind fun y4=>(cH N y4 (fun x=>ne N x)).bind fun y6=>(bif y6 then (some true) else ((oO N a0).bind fun y8=>(cH N y8 (fun x=>ne N x)).bind fun a6=>some a6)).bind fun b7=>some b7
theorem D6 {N:Nat}{a0:WI}{r:Bool}(h:pX N a0=some r):Okc W8 182 [.agg #[iV a0.Za,iV a0.Zi,iV a0.Ze,iV a0.Zf,W A1 n1 c1,W A2 n2 c2]] ([aX A1 n1 c1 a0.Zc,aX A2 n2 c2 a0.Zb]) (fun u post=>u=.bool r/\post=[]):=by
 refine ce Tryz.func182 ?_;intro B3;refine ab ?_;obtain ⟨y4,k,h⟩:=aa h;refine gD (oR (vv k)) ?_;rintro _ _ ⟨_,⟨A5,n5,c5,rfl,rfl⟩,rfl⟩;obtain ⟨y6,k,h⟩:=aa h;refine Gl (oR (lC k ⟨aw,204, #[], #[],J,call204.out,fun _ _ hh=>wZ hh⟩)) ?_
 refine xc 4 10 6 h (fun _ g7 h=> ?_) fun b7 h=> ?_
 ·refine ab ?_;obtain ⟨y8,k,h⟩:=aa h;refine CH (oR (yH k)) J (cL g7 J) J ?_;rintro _ _ ⟨_,⟨A9,n9,c9,rfl,rfl⟩,rfl⟩;obtain ⟨a6,k,h⟩:=aa h;refine gU (oR (lC k ⟨aw,204, #[], #[],J,call204.out,fun _ _ hh=>wZ hh⟩)) (cL g7 J) ?_;exact gY
 exact eY
def kI (N:Nat)(a1:Int)(a0:WT):Option (Bool×WT):=
 some (true,(⟨AZ a0.at_ a1 true⟩:WT))
def cQ (a0:WT)(a1:Int)(a2:WI):Option (Bool×WT):=
 (sH N a1).bind fun y6=>bif !y6 then (some (false,a0)) else ((pX N a2).bind fun y8=>bif !y8 then (some (false,(⟨Dm a0.at_ a1⟩:WT))) else (kI N a1 a0))
theorem jm {N:Nat}{a0:WT}{a2:WI}{r:Bool×WT}(h:cQ N a0 a1 a2=some r):Okc W8 141 [pV B1 0,iV a1,.agg #[iV a2.Za,iV a2.Zi,iV a2.Ze,iV a2.Zf,W A3 n3 c3,W A4 n4 c4]] ([aX A3 n3 c3 a2.Zc,aX A4 n4 c4 a2.Zb,ah B1 213 [.map (some M2)],bE jC qL M2 a0.at_]) (fun u post=> ∃M0,u=.bool r.1/\post=[ah B1 213 [.map (some M0)],bE jC qL M0 r.2.at_]):=by
 refine ce Tryz.func141 ?_;intro B5;refine sY ?_;refine ga (dO J Wn) ?_
 refine cR h (fun _ k=>Gt k) fun y6 h=> ?_
 refine gH J h ?_ ?_<;>intro h
 ·exact eY
 refine sY ?_
 refine cR h (fun _ k=>D6 k) fun y8 h=> ?_
 refine gH J h ?_ ?_<;>intro h
 ·refine ab ?_;refine Hr (Ny (a:=a1) 4 J J J Wu (kX Wo)) ?_;exact eN
 refine ab ?_;refine ao (fun s L=>kI N a1 a0=some r/\s=[(0,pV B1 0),(1,iV a1),(6,.bool false)]/\L=[bE jC qL M2 a0.at_,ah B1 213 [.map (some M2)]]) ?_ ?_
 ·refine ab ?_;refine ga (NY J Wu) ?_;exact ge J<|jY
 rintro _ _ ⟨h,rfl,rfl⟩;refine ab ?_;refine Hr (nK (a:=a1) (b:=true) 0 J J J J Wu (kX Wo)) ?_;exact eN
theorem qJ {r:Bool×WT}{B1:Nat}: ∀v post,((fun (u:Value) (post:W6)=> ∃M0,u=.bool r.1/\post=[ah B1 213 [.map (some M0)],bE jC qL M0 r.2.at_])) v post-> ∀c∈post,im c:=by
 rintro _ _ ⟨_,rfl,rfl⟩;exact t5 Cg (t5 Df (aw))
end
section
variable {A1 A2 A3 A4 A5 A6 A7 A8 A9:Option Addr}{B1 B2 B3 B6 M3 M7 c1 c2 c3 c4 c5 c6 c7 c8 c9 n1 n2 n3 n4 n5 n6 n7 n8 n9:Nat}
open Go.RowKit Asn
set_option maxRecDepth 20000
def mR (N:Nat)(a0:WN)(y17_0:Int)(a6 a7:WI)(a8:(List (Int×Bool))):Option (Int×WN):=
 some (0,(⟨(⟨List.set (List.set a0.m_.Zh y17_0.toNat (⟨a6.Za,a6.Zi,a6.Ze,a6.Zf,a6.Zc,a6.Zb⟩:WI)) y17_0.toNat (⟨(⟨a6.Za,a6.Zi,a6.Ze,a6.Zf,a6.Zc,a6.Zb⟩:WI).Za,(⟨a6.Za,a6.Zi,a6.Ze,a6.Zf,a6.Zc,a6.Zb⟩:WI).Zi,(⟨a6.Za,a6.Zi,a6.Ze,a6.Zf,a6.Zc,a6.Zb⟩:WI).Ze,a7.Zf,(⟨a6.Za,a6.Zi,a6.Ze,a6.Zf,a6.Zc,a6.Zb⟩:WI).Zc,(⟨a6.Za,a6.Zi,a6.Ze,a6.Zf,a6.Zc,a6.Zb⟩:WI).Zb⟩:WI),a0.m_.Zj⟩:WO),a0.Zt,a0.Zv,(⟨a8⟩:WT)⟩:WN))
def mQ (N:Nat)(a0:WN)(y17_1:Int)(a6 a7:WI)(a8:(List (Int×Bool))):Option (Int×WN):=
 some (0,(⟨(⟨a0.m_.Zh,List.set (List.set a0.m_.Zj y17_1.toNat (⟨a6.Za,a6.Zi,a6.Ze,a6.Zf,a6.Zc,a6.Zb⟩:WI)) y17_1.toNat (⟨(⟨a6.Za,a6.Zi,a6.Ze,a6.Zf,a6.Zc,a6.Zb⟩:WI).Za,(⟨a6.Za,a6.Zi,a6.Ze,a6.Zf,a6.Zc,a6.Zb⟩:WI).Zi,(⟨a6.Za,a6.Zi,a6.Ze,a6.Zf,a6.Zc,a6.Zb⟩:WI).Ze,a7.Zf,(⟨a6.Za,a6.Zi,a6.Ze,a6.Zf,a6.Zc,a6.Zb⟩:WI).Zc,(⟨a6.Za,a6.Zi,a6.Ze,a6.Zf,a6.Zc,a6.Zb⟩:WI).Zb⟩:WI)⟩:WO),a0.Zt,a0.Zv,(⟨a8⟩:WT)⟩:WN))
def ml (a0:WN)(a1:Int)(a2:WI):Option (Int×WN):=
 (aL N a0).bind fun b5=>bif b5 then (some (1,a0)) else ((jQ N a0 a1).bind fun b6=>bif !b6 then (some (50,a0)) else ((gM N a2).bind fun b7=>bif !b7 then (some (51,a0)) else ((ip N a0 a1).bind fun b9=>Ef b9 (fun y17_0=>(au a0.m_.Zh y17_0).bind fun a6=>(fT N a2).bind fun a7=>bif decide (a1.tmod 2=0) then ((cQ N a0.Zw a1 a2).bind fun d0=>mR N a0 y17_0 a7 a6 d0.2.at_) else (mR N a0 y17_0 a7 a6 a0.Zw.at_)) (fun y17_1=>(au a0.m_.Zj y17_1).bind fun a8=>(fT N a2).bind fun b0=>bif decide (a1.tmod 2=0) then ((cQ N a0.Zw a1 a2).bind fun d1=>mQ N a0 y17_1 b0 a8 d1.2.at_) else (mQ N a0 y17_1 b0 a8 a0.Zw.at_)))))
theorem Dc {N:Nat}{a0:WN}{a2:WI}{r:Int×WN}(h:ml N a0 a1 a2=some r):Okc W8 97 [pV B1 0,iV a1,.agg #[iV a2.Za,iV a2.Zi,iV a2.Ze,iV a2.Zf,W A8 n8 c8,W A9 n9 c9]] ([aX A8 n8 c8 a2.Zc,aX A9 n9 c9 a2.Zb,ah B1 124 [W A2 n2 c2,W A3 n3 c3,W A4 n4 c4,W A5 n5 c5,pV B6 0],iF A2 n2 c2 a0.m_.Zh,iF A3 n3 c3 a0.m_.Zj,bf A4 n4 c4 a0.Zt,bf A5 n5 c5 a0.Zv,ah B6 213 [.map (some M7)],bE jC qL M7 a0.Zw.at_]) (fun u post=> ∃A0 n0 c0 A1 n1 c1 A2 n2 c2 A3 n3 c3 M4,u=iV r.1/\post=[ah B1 124 [W A0 n0 c0,W A1 n1 c1,W A2 n2 c2,W A3 n3 c3,pV B6 0],iF A0 n0 c0 r.2.m_.Zh,iF A1 n1 c1 r.2.m_.Zj,bf A2 n2 c2 r.2.Zt,bf A3 n3 c3 r.2.Zv,ah B6 213 [.map (some M4)],bE jC qL M4 r.2.Zw.at_]):=by
 refine ce Tryz.func97 ?_;intro e3;refine sY ?_
 refine cR h (fun _ k=>di k) fun g0 h=> ?_
 refine gH J h ?_ ?_<;>intro h
 ·exact eY
 refine cR h (fun _ k=>rb k) fun g1 h=> ?_
 refine gH J h ?_ ?_<;>intro h
 ·exact eY
 refine cR h (fun _ k=>mD k) fun g2 h=> ?_
 refine gH J h ?_ ?_<;>intro h
 ·exact eY
 refine ab ?_;obtain ⟨f9,d2,h⟩:=aa h;rcases f9 with y17_0|y17_1
 ·replace h:=GS h;refine gD (oR (gC d2)) ?_;rintro _ _ ⟨_,⟨rfl,rfl⟩,rfl⟩;obtain ⟨d0,a8,b0,b7,h⟩:=bz h;refine ab ?_;refine gR (mM 4 J ap J (toNat_lt a8 b0))<|gR (uJ 4 J ap J (toNat_lt a8 b0) sX)<|K9 (mg (u:=iV d0.Zf) 4 J ap J b7 rR (fun _ _ _ h=>by obtain ⟨_,_,_,_,_,_,e,_⟩:=h;rw [e];rfl)) ?_;obtain ⟨a6,k,h⟩:=aa h;refine gD (oR (iO k)) ?_;rintro _ _ ⟨_,⟨e4,e5,e6,e7,e8,e9,rfl,rfl⟩,rfl⟩;refine gR (mM 6 J ap J (toNat_lt a8 b0))<|mX (bq 0 J)<|mX (bq 1 J)<|Hr (cg (us:=(iL a6 e4 e5 e6 e7 e8 e9)) (z:=(⟨a6.Za,a6.Zi,a6.Ze,a6.Zf,a6.Zc,a6.Zb⟩:WI)) 6 J J J J size94.out J (toNat_lt a8 b0) J (fun S w vs xk hk hr ho=>by obtain rfl:=YL (hk.symm.trans b7);obtain ⟨_,_,_,_,_,_,rfl,s4,s5⟩:=hr;exact ⟨_,_,_,_,_,_,rfl,ho 0 _ rfl rfl,ho 1 _ rfl rfl⟩)) ?_;have d3:=Eu (z:=(⟨a6.Za,a6.Zi,a6.Ze,a6.Zf,a6.Zc,a6.Zb⟩:WI)) b7
  refine gR (mM 6 J ap J (si (toNat_lt a8 b0)))<|gR (uJ 6 J ap J (si (toNat_lt a8 b0)) sX)<|Hr (cg (us:=[iV d0.Zf]) (z:=(⟨(⟨a6.Za,a6.Zi,a6.Ze,a6.Zf,a6.Zc,a6.Zb⟩:WI).Za,(⟨a6.Za,a6.Zi,a6.Ze,a6.Zf,a6.Zc,a6.Zb⟩:WI).Zi,(⟨a6.Za,a6.Zi,a6.Ze,a6.Zf,a6.Zc,a6.Zb⟩:WI).Ze,d0.Zf,(⟨a6.Za,a6.Zi,a6.Ze,a6.Zf,a6.Zc,a6.Zb⟩:WI).Zc,(⟨a6.Za,a6.Zi,a6.Ze,a6.Zf,a6.Zc,a6.Zb⟩:WI).Zb⟩:WI)) 6 J J J J size3.out J (si (toNat_lt a8 b0)) J (fun S w vs xk hk hr ho=>by obtain rfl:=YL (hk.symm.trans d3);obtain ⟨_,_,_,_,_,_,rfl,s4,s5⟩:=hr;exact ⟨_,_,_,_,_,_,rfl,s4,s5⟩)) ?_
  refine ao (fun s L=> ∃d4 d6,mR N a0 y17_0 a6 d0 d4=some r/\s=[(6,iV 0)]/\L=[iF A2 n2 c2 (List.set (List.set a0.m_.Zh y17_0.toNat (⟨a6.Za,a6.Zi,a6.Ze,a6.Zf,a6.Zc,a6.Zb⟩:WI)) y17_0.toNat (⟨(⟨a6.Za,a6.Zi,a6.Ze,a6.Zf,a6.Zc,a6.Zb⟩:WI).Za,(⟨a6.Za,a6.Zi,a6.Ze,a6.Zf,a6.Zc,a6.Zb⟩:WI).Zi,(⟨a6.Za,a6.Zi,a6.Ze,a6.Zf,a6.Zc,a6.Zb⟩:WI).Ze,d0.Zf,(⟨a6.Za,a6.Zi,a6.Ze,a6.Zf,a6.Zc,a6.Zb⟩:WI).Zc,(⟨a6.Za,a6.Zi,a6.Ze,a6.Zf,a6.Zc,a6.Zb⟩:WI).Zb⟩:WI)),iF A3 n3 c3 a0.m_.Zj,bf A4 n4 c4 a0.Zt,bf A5 n5 c5 a0.Zv,ah B1 124 [W A2 n2 c2,W A3 n3 c3,W A4 n4 c4,W A5 n5 c5,pV B6 0],bE jC qL d6 d4,ah B6 213 [.map (some d6)]]) ?_ ?_
  ·refine ab ?_;refine ga (sm J J (by decide)) ?_;refine gH J h ?_ ?_<;>intro h
   ·refine ba O ([aX e4 e5 e6 a6.Zc,aX e7 e8 e9 a6.Zb,ah e3 94 (iL a2 A8 n8 c8 A9 n9 c9),aX A8 n8 c8 a2.Zc,aX A9 n9 c9 a2.Zb,ah B1 124 [W A2 n2 c2,W A3 n3 c3,W A4 n4 c4,W A5 n5 c5,pV B6 0],iF A2 n2 c2 (List.set (List.set a0.m_.Zh y17_0.toNat (⟨a6.Za,a6.Zi,a6.Ze,a6.Zf,a6.Zc,a6.Zb⟩:WI)) y17_0.toNat (⟨(⟨a6.Za,a6.Zi,a6.Ze,a6.Zf,a6.Zc,a6.Zb⟩:WI).Za,(⟨a6.Za,a6.Zi,a6.Ze,a6.Zf,a6.Zc,a6.Zb⟩:WI).Zi,(⟨a6.Za,a6.Zi,a6.Ze,a6.Zf,a6.Zc,a6.Zb⟩:WI).Ze,d0.Zf,(⟨a6.Za,a6.Zi,a6.Ze,a6.Zf,a6.Zc,a6.Zb⟩:WI).Zc,(⟨a6.Za,a6.Zi,a6.Ze,a6.Zf,a6.Zc,a6.Zb⟩:WI).Zb⟩:WI)),iF A3 n3 c3 a0.m_.Zj,bf A4 n4 c4 a0.Zt,bf A5 n5 c5 a0.Zv]) (cS [0,1,2,3,4,5,6,7,8,9] 12) ?_;refine ab ?_;obtain ⟨g3,k,h⟩:=aa h
    refine MR 6 J (oC (jm k)) fun g4=> ?_
    exact jY
   exact jY
  rintro _ _ ⟨d4,d6,h,rfl,rfl⟩;exact eY
 replace h:=GR h;refine gD (oR (gC d2)) ?_;rintro _ _ ⟨_,⟨rfl,rfl⟩,rfl⟩;obtain ⟨d1,b5,b6,b9,h⟩:=bz h;refine ab ?_;refine gR (mM 5 J ap J (toNat_lt b5 b6))<|gR (uJ 5 J ap J (toNat_lt b5 b6) sX)<|K9 (mg (u:=iV d1.Zf) 5 J ap J b9 rR (fun _ _ _ h=>by obtain ⟨_,_,_,_,_,_,e,_⟩:=h;rw [e];rfl)) ?_;obtain ⟨a7,k,h⟩:=aa h;refine gD (oR (iO k)) ?_;rintro _ _ ⟨_,⟨f0,f1,f2,f3,f4,f6,rfl,rfl⟩,rfl⟩;refine gR (mM 7 J ap J (toNat_lt b5 b6))<|mX (bq 0 J)<|mX (bq 1 J)<|ab ?_;refine Hr (cg (us:=(iL a7 f0 f1 f2 f3 f4 f6)) (z:=(⟨a7.Za,a7.Zi,a7.Ze,a7.Zf,a7.Zc,a7.Zb⟩:WI)) 7 J J J J size94.out J (toNat_lt b5 b6) J (fun S w vs xk hk hr ho=>by obtain rfl:=YL (hk.symm.trans b9);obtain ⟨_,_,_,_,_,_,rfl,s4,s5⟩:=hr;exact ⟨_,_,_,_,_,_,rfl,ho 0 _ rfl rfl,ho 1 _ rfl rfl⟩)) ?_;have e0:=Eu (z:=(⟨a7.Za,a7.Zi,a7.Ze,a7.Zf,a7.Zc,a7.Zb⟩:WI)) b9
 refine gR (mM 7 J ap J (si (toNat_lt b5 b6)))<|gR (uJ 7 J ap J (si (toNat_lt b5 b6)) sX)<|Hr (cg (us:=[iV d1.Zf]) (z:=(⟨(⟨a7.Za,a7.Zi,a7.Ze,a7.Zf,a7.Zc,a7.Zb⟩:WI).Za,(⟨a7.Za,a7.Zi,a7.Ze,a7.Zf,a7.Zc,a7.Zb⟩:WI).Zi,(⟨a7.Za,a7.Zi,a7.Ze,a7.Zf,a7.Zc,a7.Zb⟩:WI).Ze,d1.Zf,(⟨a7.Za,a7.Zi,a7.Ze,a7.Zf,a7.Zc,a7.Zb⟩:WI).Zc,(⟨a7.Za,a7.Zi,a7.Ze,a7.Zf,a7.Zc,a7.Zb⟩:WI).Zb⟩:WI)) 7 J J J J size3.out J (si (toNat_lt b5 b6)) J (fun S w vs xk hk hr ho=>by obtain rfl:=YL (hk.symm.trans e0);obtain ⟨_,_,_,_,_,_,rfl,s4,s5⟩:=hr;exact ⟨_,_,_,_,_,_,rfl,s4,s5⟩)) ?_
 refine ao (fun s L=> ∃e1 e2,mQ N a0 y17_1 a7 d1 e1=some r/\s=[(6,iV 0)]/\L=[iF A2 n2 c2 a0.m_.Zh,iF A3 n3 c3 (List.set (List.set a0.m_.Zj y17_1.toNat (⟨a7.Za,a7.Zi,a7.Ze,a7.Zf,a7.Zc,a7.Zb⟩:WI)) y17_1.toNat (⟨(⟨a7.Za,a7.Zi,a7.Ze,a7.Zf,a7.Zc,a7.Zb⟩:WI).Za,(⟨a7.Za,a7.Zi,a7.Ze,a7.Zf,a7.Zc,a7.Zb⟩:WI).Zi,(⟨a7.Za,a7.Zi,a7.Ze,a7.Zf,a7.Zc,a7.Zb⟩:WI).Ze,d1.Zf,(⟨a7.Za,a7.Zi,a7.Ze,a7.Zf,a7.Zc,a7.Zb⟩:WI).Zc,(⟨a7.Za,a7.Zi,a7.Ze,a7.Zf,a7.Zc,a7.Zb⟩:WI).Zb⟩:WI)),bf A4 n4 c4 a0.Zt,bf A5 n5 c5 a0.Zv,ah B1 124 [W A2 n2 c2,W A3 n3 c3,W A4 n4 c4,W A5 n5 c5,pV B6 0],bE jC qL e2 e1,ah B6 213 [.map (some e2)]]) ?_ ?_
 ·refine ab ?_;refine ga (sm J J (by decide)) ?_;refine gH J h ?_ ?_<;>intro h
  ·refine ba O ([aX f0 f1 f2 a7.Zc,aX f3 f4 f6 a7.Zb,ah e3 94 (iL a2 A8 n8 c8 A9 n9 c9),aX A8 n8 c8 a2.Zc,aX A9 n9 c9 a2.Zb,ah B1 124 [W A2 n2 c2,W A3 n3 c3,W A4 n4 c4,W A5 n5 c5,pV B6 0],iF A2 n2 c2 a0.m_.Zh,iF A3 n3 c3 (List.set (List.set a0.m_.Zj y17_1.toNat (⟨a7.Za,a7.Zi,a7.Ze,a7.Zf,a7.Zc,a7.Zb⟩:WI)) y17_1.toNat (⟨(⟨a7.Za,a7.Zi,a7.Ze,a7.Zf,a7.Zc,a7.Zb⟩:WI).Za,(⟨a7.Za,a7.Zi,a7.Ze,a7.Zf,a7.Zc,a7.Zb⟩:WI).Zi,(⟨a7.Za,a7.Zi,a7.Ze,a7.Zf,a7.Zc,a7.Zb⟩:WI).Ze,d1.Zf,(⟨a7.Za,a7.Zi,a7.Ze,a7.Zf,a7.Zc,a7.Zb⟩:WI).Zc,(⟨a7.Za,a7.Zi,a7.Ze,a7.Zf,a7.Zc,a7.Zb⟩:WI).Zb⟩:WI)),bf A4 n4 c4 a0.Zt,bf A5 n5 c5 a0.Zv]) (cS [0,1,2,3,4,5,6,7,8,9] 12) ?_;refine ab ?_;obtain ⟨g5,k,h⟩:=aa h
   refine MR 6 J (oC (jm k)) fun g6=> ?_
   exact jY
  exact jY
 rintro _ _ ⟨e1,e2,h,rfl,rfl⟩;exact eY
def oh (N:Nat)(a0:WN)(y17_0:Int)(a6 a7 a2:WI)(a8:(List (Int×Bool))):Option (Int×WN):=
 some (0,(⟨(⟨List.set (List.set a0.m_.Zh y17_0.toNat (⟨a6.Za,a6.Zi,a6.Ze,a6.Zf,a6.Zc,a6.Zb⟩:WI)) y17_0.toNat (⟨(⟨a6.Za,a6.Zi,a6.Ze,a6.Zf,a6.Zc,a6.Zb⟩:WI).Za,(⟨a6.Za,a6.Zi,a6.Ze,a6.Zf,a6.Zc,a6.Zb⟩:WI).Zi,(⟨a6.Za,a6.Zi,a6.Ze,a6.Zf,a6.Zc,a6.Zb⟩:WI).Ze,a7.Zf,(⟨a6.Za,a6.Zi,a6.Ze,a6.Zf,a6.Zc,a6.Zb⟩:WI).Zc,(⟨a6.Za,a6.Zi,a6.Ze,a6.Zf,a6.Zc,a6.Zb⟩:WI).Zb⟩:WI),a0.m_.Zj⟩:WO),a0.Zt,a0.Zv,(⟨a8⟩:WT)⟩:WN))
def og (N:Nat)(a0:WN)(y17_1:Int)(a6 a7 a2:WI)(a8:(List (Int×Bool))):Option (Int×WN):=
 some (0,(⟨(⟨a0.m_.Zh,List.set (List.set a0.m_.Zj y17_1.toNat (⟨a6.Za,a6.Zi,a6.Ze,a6.Zf,a6.Zc,a6.Zb⟩:WI)) y17_1.toNat (⟨(⟨a6.Za,a6.Zi,a6.Ze,a6.Zf,a6.Zc,a6.Zb⟩:WI).Za,(⟨a6.Za,a6.Zi,a6.Ze,a6.Zf,a6.Zc,a6.Zb⟩:WI).Zi,(⟨a6.Za,a6.Zi,a6.Ze,a6.Zf,a6.Zc,a6.Zb⟩:WI).Ze,a7.Zf,(⟨a6.Za,a6.Zi,a6.Ze,a6.Zf,a6.Zc,a6.Zb⟩:WI).Zc,(⟨a6.Za,a6.Zi,a6.Ze,a6.Zf,a6.Zc,a6.Zb⟩:WI).Zb⟩:WI)⟩:WO),a0.Zt,a0.Zv,(⟨a8⟩:WT)⟩:WN))
def qo (a0:WN)(a1:Int)(a2:WI):Option (Int×WN):=
 (aL N a0).bind fun b5=>bif b5 then (some (1,a0)) else ((jQ N a0 a1).bind fun b6=>bif !b6 then (some (50,a0)) else ((gM N a2).bind fun b7=>bif !b7 then (some (51,a0)) else ((ip N a0 a1).bind fun b9=>Ef b9 (fun y17_0=>(au a0.m_.Zh y17_0).bind fun a6=>(fT N a2).bind fun a7=>bif decide (a1.tmod 2=0) then ((cQ N a0.Zw a1 a2).bind fun d0=>oh N a0 y17_0 a7 a6 a2 d0.2.at_) else (oh N a0 y17_0 a7 a6 a2 a0.Zw.at_)) (fun y17_1=>(au a0.m_.Zj y17_1).bind fun a8=>(fT N a2).bind fun b0=>bif decide (a1.tmod 2=0) then ((cQ N a0.Zw a1 a2).bind fun d1=>og N a0 y17_1 b0 a8 a2 d1.2.at_) else (og N a0 y17_1 b0 a8 a2 a0.Zw.at_)))))
theorem AM {N:Nat}{a0:WN}{a2:WI}{r:Int×WN}(h:qo N a0 a1 a2=some r):Okc W8 97 [pV B1 0,iV a1,.agg #[iV a2.Za,iV a2.Zi,iV a2.Ze,iV a2.Zf,W A8 n8 c8,W A9 n9 c9]] ([ah B1 124 [W A2 n2 c2,W A3 n3 c3,W A4 n4 c4,W A5 n5 c5,pV B6 0],iF A2 n2 c2 a0.m_.Zh,iF A3 n3 c3 a0.m_.Zj,bf A4 n4 c4 a0.Zt,bf A5 n5 c5 a0.Zv,ah B6 213 [.map (some M7)],bE jC qL M7 a0.Zw.at_,bf A8 n8 c8 a2.Zc,bf A9 n9 c9 a2.Zb]) (fun u post=> ∃d2 d3 d4 d6 e0 e1 e2 e3 e4 e5 e6 e7 e8,u=iV r.1/\post=[ah B1 124 [W d2 d3 d4,W d6 e0 e1,W e2 e3 e4,W e5 e6 e7,pV B6 0],iF d2 d3 d4 r.2.m_.Zh,iF d6 e0 e1 r.2.m_.Zj,bf e2 e3 e4 r.2.Zt,bf e5 e6 e7 r.2.Zv,ah B6 213 [.map (some e8)],bE jC qL e8 r.2.Zw.at_,bf A8 n8 c8 a2.Zc,bf A9 n9 c9 a2.Zb]):=by
 refine ce Tryz.func97 ?_;intro f9;refine sY ?_
 refine cR h (fun _ k=>di k) fun h3 h=> ?_
 refine gH J h ?_ ?_<;>intro h
 ·exact eY
 refine cR h (fun _ k=>rb k) fun h4 h=> ?_
 refine gH J h ?_ ?_<;>intro h
 ·exact eY
 refine cR h (fun _ k=>mD k) fun h5 h=> ?_
 refine gH J h ?_ ?_<;>intro h
 ·exact eY
 refine ab ?_;obtain ⟨h2,e9,h⟩:=aa h;rcases h2 with y17_0|y17_1
 ·replace h:=GS h;refine gD (oR (gC e9)) ?_;rintro _ _ ⟨_,⟨rfl,rfl⟩,rfl⟩;obtain ⟨d0,a8,b0,b7,h⟩:=bz h;refine ab ?_;refine gR (mM 2 J ap J (toNat_lt a8 b0))<|gR (uJ 2 J ap J (toNat_lt a8 b0) sX)<|K9 (mg (u:=iV d0.Zf) 2 J ap J b7 rR (fun _ _ _ h=>by obtain ⟨_,_,_,_,_,_,e,_⟩:=h;rw [e];rfl)) ?_;obtain ⟨a6,k,h⟩:=aa h;refine gD (oR (iO k)) ?_;rintro _ _ ⟨_,⟨g0,g1,g2,g3,g4,g5,rfl,rfl⟩,rfl⟩;refine gR (mM 4 J ap J (toNat_lt a8 b0))<|mX (bq 0 J)<|mX (bq 1 J)<|Hr (cg (us:=(iL a6 g0 g1 g2 g3 g4 g5)) (z:=(⟨a6.Za,a6.Zi,a6.Ze,a6.Zf,a6.Zc,a6.Zb⟩:WI)) 4 J J J J size94.out J (toNat_lt a8 b0) J (fun S w vs xk hk hr ho=>by obtain rfl:=YL (hk.symm.trans b7);obtain ⟨_,_,_,_,_,_,rfl,s4,s5⟩:=hr;exact ⟨_,_,_,_,_,_,rfl,ho 0 _ rfl rfl,ho 1 _ rfl rfl⟩)) ?_;have f0:=Eu (z:=(⟨a6.Za,a6.Zi,a6.Ze,a6.Zf,a6.Zc,a6.Zb⟩:WI)) b7
  refine gR (mM 4 J ap J (si (toNat_lt a8 b0)))<|gR (uJ 4 J ap J (si (toNat_lt a8 b0)) sX)<|Hr (cg (us:=[iV d0.Zf]) (z:=(⟨(⟨a6.Za,a6.Zi,a6.Ze,a6.Zf,a6.Zc,a6.Zb⟩:WI).Za,(⟨a6.Za,a6.Zi,a6.Ze,a6.Zf,a6.Zc,a6.Zb⟩:WI).Zi,(⟨a6.Za,a6.Zi,a6.Ze,a6.Zf,a6.Zc,a6.Zb⟩:WI).Ze,d0.Zf,(⟨a6.Za,a6.Zi,a6.Ze,a6.Zf,a6.Zc,a6.Zb⟩:WI).Zc,(⟨a6.Za,a6.Zi,a6.Ze,a6.Zf,a6.Zc,a6.Zb⟩:WI).Zb⟩:WI)) 4 J J J J size3.out J (si (toNat_lt a8 b0)) J (fun S w vs xk hk hr ho=>by obtain rfl:=YL (hk.symm.trans f0);obtain ⟨_,_,_,_,_,_,rfl,s4,s5⟩:=hr;exact ⟨_,_,_,_,_,_,rfl,s4,s5⟩)) ?_
  refine ao (fun s L=> ∃f1 f2,oh N a0 y17_0 a6 d0 a2 f1=some r/\s=[(6,iV 0)]/\L=[iF A2 n2 c2 (List.set (List.set a0.m_.Zh y17_0.toNat (⟨a6.Za,a6.Zi,a6.Ze,a6.Zf,a6.Zc,a6.Zb⟩:WI)) y17_0.toNat (⟨(⟨a6.Za,a6.Zi,a6.Ze,a6.Zf,a6.Zc,a6.Zb⟩:WI).Za,(⟨a6.Za,a6.Zi,a6.Ze,a6.Zf,a6.Zc,a6.Zb⟩:WI).Zi,(⟨a6.Za,a6.Zi,a6.Ze,a6.Zf,a6.Zc,a6.Zb⟩:WI).Ze,d0.Zf,(⟨a6.Za,a6.Zi,a6.Ze,a6.Zf,a6.Zc,a6.Zb⟩:WI).Zc,(⟨a6.Za,a6.Zi,a6.Ze,a6.Zf,a6.Zc,a6.Zb⟩:WI).Zb⟩:WI)),iF A3 n3 c3 a0.m_.Zj,bf A4 n4 c4 a0.Zt,bf A5 n5 c5 a0.Zv,ah B1 124 [W A2 n2 c2,W A3 n3 c3,W A4 n4 c4,W A5 n5 c5,pV B6 0],bE jC qL f2 f1,ah B6 213 [.map (some f2)],bf A8 n8 c8 a2.Zc,bf A9 n9 c9 a2.Zb]) ?_ ?_
  ·refine ab ?_;refine ga (sm J J (by decide)) ?_;refine gH J h ?_ ?_<;>intro h
   ·refine ba O ([aX g0 g1 g2 a6.Zc,aX g3 g4 g5 a6.Zb,ah f9 94 (iL a2 A8 n8 c8 A9 n9 c9),ah B1 124 [W A2 n2 c2,W A3 n3 c3,W A4 n4 c4,W A5 n5 c5,pV B6 0],iF A2 n2 c2 (List.set (List.set a0.m_.Zh y17_0.toNat (⟨a6.Za,a6.Zi,a6.Ze,a6.Zf,a6.Zc,a6.Zb⟩:WI)) y17_0.toNat (⟨(⟨a6.Za,a6.Zi,a6.Ze,a6.Zf,a6.Zc,a6.Zb⟩:WI).Za,(⟨a6.Za,a6.Zi,a6.Ze,a6.Zf,a6.Zc,a6.Zb⟩:WI).Zi,(⟨a6.Za,a6.Zi,a6.Ze,a6.Zf,a6.Zc,a6.Zb⟩:WI).Ze,d0.Zf,(⟨a6.Za,a6.Zi,a6.Ze,a6.Zf,a6.Zc,a6.Zb⟩:WI).Zc,(⟨a6.Za,a6.Zi,a6.Ze,a6.Zf,a6.Zc,a6.Zb⟩:WI).Zb⟩:WI)),iF A3 n3 c3 a0.m_.Zj,bf A4 n4 c4 a0.Zt,bf A5 n5 c5 a0.Zv,bf A8 n8 c8 a2.Zc,bf A9 n9 c9 a2.Zb]) (cS [0,1,2,3,4,5,6,7,10,11] 12) ?_;refine ab ?_;obtain ⟨h6,k,h⟩:=aa h;refine kC (cS [8,9,0,1,2,3,4,5,6,7,10,11] 12) (cS [2,3,4,5,6,7,8,9,10,11] 12) ?_
    refine MR 6 J (Fn 2 2 (jm k) J J J J (t5 (tu (i:=10) J J) (t5 (tu (i:=11) J J) aw)) qJ) fun h7=> ?_
    exact jY
   exact jY
  rintro _ _ ⟨f1,f2,h,rfl,rfl⟩;exact eY
 replace h:=GR h;refine gD (oR (gC e9)) ?_;rintro _ _ ⟨_,⟨rfl,rfl⟩,rfl⟩;obtain ⟨d1,b5,b6,b9,h⟩:=bz h;refine ab ?_;refine gR (mM 3 J ap J (toNat_lt b5 b6))<|gR (uJ 3 J ap J (toNat_lt b5 b6) sX)<|K9 (mg (u:=iV d1.Zf) 3 J ap J b9 rR (fun _ _ _ h=>by obtain ⟨_,_,_,_,_,_,e,_⟩:=h;rw [e];rfl)) ?_;obtain ⟨a7,k,h⟩:=aa h;refine gD (oR (iO k)) ?_;rintro _ _ ⟨_,⟨g6,g7,g8,g9,h0,h1,rfl,rfl⟩,rfl⟩;refine gR (mM 5 J ap J (toNat_lt b5 b6))<|mX (bq 0 J)<|mX (bq 1 J)<|ab ?_;refine Hr (cg (us:=(iL a7 g6 g7 g8 g9 h0 h1)) (z:=(⟨a7.Za,a7.Zi,a7.Ze,a7.Zf,a7.Zc,a7.Zb⟩:WI)) 5 J J J J size94.out J (toNat_lt b5 b6) J (fun S w vs xk hk hr ho=>by obtain rfl:=YL (hk.symm.trans b9);obtain ⟨_,_,_,_,_,_,rfl,s4,s5⟩:=hr;exact ⟨_,_,_,_,_,_,rfl,ho 0 _ rfl rfl,ho 1 _ rfl rfl⟩)) ?_;have f3:=Eu (z:=(⟨a7.Za,a7.Zi,a7.Ze,a7.Zf,a7.Zc,a7.Zb⟩:WI)) b9
 refine gR (mM 5 J ap J (si (toNat_lt b5 b6)))<|gR (uJ 5 J ap J (si (toNat_lt b5 b6)) sX)<|Hr (cg (us:=[iV d1.Zf]) (z:=(⟨(⟨a7.Za,a7.Zi,a7.Ze,a7.Zf,a7.Zc,a7.Zb⟩:WI).Za,(⟨a7.Za,a7.Zi,a7.Ze,a7.Zf,a7.Zc,a7.Zb⟩:WI).Zi,(⟨a7.Za,a7.Zi,a7.Ze,a7.Zf,a7.Zc,a7.Zb⟩:WI).Ze,d1.Zf,(⟨a7.Za,a7.Zi,a7.Ze,a7.Zf,a7.Zc,a7.Zb⟩:WI).Zc,(⟨a7.Za,a7.Zi,a7.Ze,a7.Zf,a7.Zc,a7.Zb⟩:WI).Zb⟩:WI)) 5 J J J J size3.out J (si (toNat_lt b5 b6)) J (fun S w vs xk hk hr ho=>by obtain rfl:=YL (hk.symm.trans f3);obtain ⟨_,_,_,_,_,_,rfl,s4,s5⟩:=hr;exact ⟨_,_,_,_,_,_,rfl,s4,s5⟩)) ?_
 refine ao (fun s L=> ∃f4 f6,og N a0 y17_1 a7 d1 a2 f4=some r/\s=[(6,iV 0)]/\L=[iF A2 n2 c2 a0.m_.Zh,iF A3 n3 c3 (List.set (List.set a0.m_.Zj y17_1.toNat (⟨a7.Za,a7.Zi,a7.Ze,a7.Zf,a7.Zc,a7.Zb⟩:WI)) y17_1.toNat (⟨(⟨a7.Za,a7.Zi,a7.Ze,a7.Zf,a7.Zc,a7.Zb⟩:WI).Za,(⟨a7.Za,a7.Zi,a7.Ze,a7.Zf,a7.Zc,a7.Zb⟩:WI).Zi,(⟨a7.Za,a7.Zi,a7.Ze,a7.Zf,a7.Zc,a7.Zb⟩:WI).Ze,d1.Zf,(⟨a7.Za,a7.Zi,a7.Ze,a7.Zf,a7.Zc,a7.Zb⟩:WI).Zc,(⟨a7.Za,a7.Zi,a7.Ze,a7.Zf,a7.Zc,a7.Zb⟩:WI).Zb⟩:WI)),bf A4 n4 c4 a0.Zt,bf A5 n5 c5 a0.Zv,ah B1 124 [W A2 n2 c2,W A3 n3 c3,W A4 n4 c4,W A5 n5 c5,pV B6 0],bE jC qL f6 f4,ah B6 213 [.map (some f6)],bf A8 n8 c8 a2.Zc,bf A9 n9 c9 a2.Zb]) ?_ ?_
 ·refine ab ?_;refine ga (sm J J (by decide)) ?_;refine gH J h ?_ ?_<;>intro h
  ·refine ba O ([aX g6 g7 g8 a7.Zc,aX g9 h0 h1 a7.Zb,ah f9 94 (iL a2 A8 n8 c8 A9 n9 c9),ah B1 124 [W A2 n2 c2,W A3 n3 c3,W A4 n4 c4,W A5 n5 c5,pV B6 0],iF A2 n2 c2 a0.m_.Zh,iF A3 n3 c3 (List.set (List.set a0.m_.Zj y17_1.toNat (⟨a7.Za,a7.Zi,a7.Ze,a7.Zf,a7.Zc,a7.Zb⟩:WI)) y17_1.toNat (⟨(⟨a7.Za,a7.Zi,a7.Ze,a7.Zf,a7.Zc,a7.Zb⟩:WI).Za,(⟨a7.Za,a7.Zi,a7.Ze,a7.Zf,a7.Zc,a7.Zb⟩:WI).Zi,(⟨a7.Za,a7.Zi,a7.Ze,a7.Zf,a7.Zc,a7.Zb⟩:WI).Ze,d1.Zf,(⟨a7.Za,a7.Zi,a7.Ze,a7.Zf,a7.Zc,a7.Zb⟩:WI).Zc,(⟨a7.Za,a7.Zi,a7.Ze,a7.Zf,a7.Zc,a7.Zb⟩:WI).Zb⟩:WI)),bf A4 n4 c4 a0.Zt,bf A5 n5 c5 a0.Zv,bf A8 n8 c8 a2.Zc,bf A9 n9 c9 a2.Zb]) (cS [0,1,2,3,4,5,6,7,10,11] 12) ?_;refine ab ?_;obtain ⟨h8,k,h⟩:=aa h;refine kC (cS [8,9,0,1,2,3,4,5,6,7,10,11] 12) (cS [2,3,4,5,6,7,8,9,10,11] 12) ?_
   refine MR 6 J (Fn 2 2 (jm k) J J J J (t5 (tu (i:=10) J J) (t5 (tu (i:=11) J J) aw)) qJ) fun h9=> ?_
   exact jY
  exact jY
 rintro _ _ ⟨f4,f6,h,rfl,rfl⟩;exact eY
theorem AL {N:Nat}{a0:WN}{a2:WI}{r:Int×WN}(h:ml N a0 a1 a2=some r):Okc W8 97 [pV B1 0,iV a1,.agg #[iV a2.Za,iV a2.Zi,iV a2.Ze,iV a2.Zf,W A2 n2 c2,W A3 n3 c3]] ([aX A2 n2 c2 a2.Zc,aX A3 n3 c3 a2.Zb,oDHeap B1 a0]) (fun u post=>u=iV r.1/\post=[oDHeap B1 r.2]):=LW 2 rfl (fun _=>Dc h)
theorem yt {N:Nat}{a0:WN}{a2:WI}{r:Int×WN}(h:qo N a0 a1 a2=some r):Okc W8 97 [pV B1 0,iV a1,.agg #[iV a2.Za,iV a2.Zi,iV a2.Ze,iV a2.Zf,W A2 n2 c2,W A3 n3 c3]] ([oDHeap B1 a0,bf A2 n2 c2 a2.Zc,bf A3 n3 c3 a2.Zb]) (fun u post=>u=iV r.1/\post=[oDHeap B1 r.2,bf A2 n2 c2 a2.Zc,bf A3 n3 c3 a2.Zb]):=LW 0 rfl (fun _=>AM h)
def ay (a0:WH)(a1:WK)(a2:WI):Option WH:=
 (iS N a1).bind fun a6=>bif a6 then ((ml N a0.Zo a1.N a2).bind fun a7=>some (⟨a0.ZB,a0.Zu,(),a7.2,a0.Zp,a0.Zy,a0.ZE,a0.ZF,a0.ZG,a0.Zz,a0.ZA⟩:WH)) else (some a0)
theorem Aq {N:Nat}{a1:WK}{a2:WI}{r:WH}(h:ay N a0 a1 a2=some r):Okc W8 51 [pV B1 0,(aE a1),.agg #[iV a2.Za,iV a2.Zi,iV a2.Ze,iV a2.Zf,W A7 n7 c7,W A8 n8 c8]] ([aX A7 n7 c7 a2.Zc,aX A8 n8 c8 a2.Zb,ah B1 81 (Ac a0 B2 B3 A4 n4 c4 A5 n5 c5 A6 n6 c6),oDHeap B2 a0.Zo,oDTable B3 a0.Zp,pG A4 n4 c4 a0.Zy,AI A5 n5 c5 a0.Zz,pG A6 n6 c6 a0.ZA]) (fun u post=> ∃A0 n0 c0 A1 n1 c1 A2 n2 c2,u=.tuple #[]/\post=[ah B1 81 (Ac r B2 B3 A0 n0 c0 A1 n1 c1 A2 n2 c2),oDHeap B2 r.Zo,oDTable B3 r.Zp,pG A0 n0 c0 r.Zy,AI A1 n1 c1 r.Zz,pG A2 n2 c2 r.ZA]):=by
 refine ce Tryz.func51 ?_;intro B9
 refine cn fun a6=> ?_
 refine ga (vY J Wp) ?_
 refine cR h (fun _ k=>tO k) fun a7 h=> ?_
 refine gH J h ?_ ?_<;>intro h
 ·refine ba O ([ah a6 94 (iL a2 A7 n7 c7 A8 n8 c8),ah B9 28 (bS a1),aX A7 n7 c7 a2.Zc,aX A8 n8 c8 a2.Zb,ah B1 81 (Ac a0 B2 B3 A4 n4 c4 A5 n5 c5 A6 n6 c6),oDTable B3 a0.Zp,pG A4 n4 c4 a0.Zy,AI A5 n5 c5 a0.Zz,pG A6 n6 c6 a0.ZA]) (cS [0,1,2,3,4,6,7,8,9] 10) ?_;refine ab ?_;obtain ⟨a8,k,h⟩:=aa h;refine zD 7 J (oC (AL k)) ?_;rintro _ _ ⟨_,⟨rfl,rfl⟩,rfl⟩;refine ca ?_;exact eY
 exact eY
def iz (a0:WH)(a1:WK)(a2:WI):Option WH:=
 (iS N a1).bind fun a6=>bif a6 then ((qo N a0.Zo a1.N a2).bind fun a7=>some (⟨a0.ZB,a0.Zu,(),a7.2,a0.Zp,a0.Zy,a0.ZE,a0.ZF,a0.ZG,a0.Zz,a0.ZA⟩:WH)) else (some a0)
theorem xQ {N:Nat}{a1:WK}{a2:WI}{r:WH}(h:iz N a0 a1 a2=some r):Okc W8 51 [pV B1 0,(aE a1),.agg #[iV a2.Za,iV a2.Zi,iV a2.Ze,iV a2.Zf,W A7 n7 c7,W A8 n8 c8]] ([ah B1 81 (Ac a0 B2 B3 A4 n4 c4 A5 n5 c5 A6 n6 c6),oDHeap B2 a0.Zo,oDTable B3 a0.Zp,pG A4 n4 c4 a0.Zy,AI A5 n5 c5 a0.Zz,pG A6 n6 c6 a0.ZA,bf A7 n7 c7 a2.Zc,bf A8 n8 c8 a2.Zb]) (fun u post=> ∃a6 a7 a8 b0 b5 b6 b7 b9 d0,u=.tuple #[]/\post=[ah B1 81 (Ac r B2 B3 a6 a7 a8 b0 b5 b6 b7 b9 d0),oDHeap B2 r.Zo,oDTable B3 r.Zp,pG a6 a7 a8 r.Zy,AI b0 b5 b6 r.Zz,pG b7 b9 d0 r.ZA,bf A7 n7 c7 a2.Zc,bf A8 n8 c8 a2.Zb]):=by
 refine ce Tryz.func51 ?_;intro B9
 refine cn fun d1=> ?_
 refine ga (vY J Wp) ?_
 refine cR h (fun _ k=>tO k) fun d2 h=> ?_
 refine gH J h ?_ ?_<;>intro h
 ·refine ba O ([ah d1 94 (iL a2 A7 n7 c7 A8 n8 c8),ah B9 28 (bS a1),ah B1 81 (Ac a0 B2 B3 A4 n4 c4 A5 n5 c5 A6 n6 c6),oDTable B3 a0.Zp,pG A4 n4 c4 a0.Zy,AI A5 n5 c5 a0.Zz,pG A6 n6 c6 a0.ZA,bf A7 n7 c7 a2.Zc,bf A8 n8 c8 a2.Zb]) (cS [0,1,2,4,5,6,7,8,9] 10) ?_;refine ab ?_;obtain ⟨d3,k,h⟩:=aa h;refine zD 7 J (oC (yt k)) ?_;rintro _ _ ⟨_,⟨rfl,rfl⟩,rfl⟩;refine ca ?_;exact eY
 exact eY
theorem dy {N:Nat}{a1:WK}{a2:WI}{r:WH}(h:ay N a0 a1 a2=some r){B1 B2 B3:Nat}:Okc W8 51 [pV B1 0,(aE a1),.agg #[iV a2.Za,iV a2.Zi,iV a2.Ze,iV a2.Zf,W A4 n4 c4,W A5 n5 c5]] ([aX A4 n4 c4 a2.Zc,aX A5 n5 c5 a2.Zb,oDWorld B1 B2 B3 a0]) (fun u post=>u=.tuple #[]/\post=[oDWorld B1 B2 B3 r]):=LW 2 rfl (fun _=>Aq h)
theorem wp {N:Nat}{a1:WK}{a2:WI}{r:WH}(h:iz N a0 a1 a2=some r){B1 B2 B3:Nat}:Okc W8 51 [pV B1 0,(aE a1),.agg #[iV a2.Za,iV a2.Zi,iV a2.Ze,iV a2.Zf,W A4 n4 c4,W A5 n5 c5]] ([oDWorld B1 B2 B3 a0,bf A4 n4 c4 a2.Zc,bf A5 n5 c5 a2.Zb]) (fun u post=>u=.tuple #[]/\post=[oDWorld B1 B2 B3 r,bf A4 n4 c4 a2.Zc,bf A5 n5 c5 a2.Zb]):=LW 0 rfl (fun _=>xQ h)
def oe (N:Nat)(a0:WH):Option WH:=
 aG (in64 (a0.ZE+1)) (some (⟨a0.ZB,a0.Zu,(),a0.Zo,a0.Zp,a0.Zy,a0.ZE+1,a0.ZF,a0.ZG,a0.Zz,a0.ZA⟩:WH))
theorem xP {N:Nat}{r:WH}(h:oe N a0=some r):Okc W8 119 [pV B1 0] ([ah B1 81 (Ac a0 B2 B3 A4 n4 c4 A5 n5 c5 A6 n6 c6),oDHeap B2 a0.Zo,oDTable B3 a0.Zp,pG A4 n4 c4 a0.Zy,AI A5 n5 c5 a0.Zz,pG A6 n6 c6 a0.ZA]) (fun u post=> ∃A0 n0 c0 A1 n1 c1 A2 n2 c2,u=.tuple #[]/\post=[ah B1 81 (Ac r B2 B3 A0 n0 c0 A1 n1 c1 A2 n2 c2),oDHeap B2 r.Zo,oDTable B3 r.Zp,pG A0 n0 c0 r.Zy,AI A1 n1 c1 r.Zz,pG A2 n2 c2 r.ZA]):=by
 refine ce Tryz.func119 ?_;refine ga (vY J Wp) ?_;refine jx J<|ab ?_;obtain ⟨q7,h⟩:=ae h;exact eY
theorem wo {N:Nat}{r:WH}(h:oe N a0=some r){B1 B2 B3:Nat}:Okc W8 119 [pV B1 0] ([oDWorld B1 B2 B3 a0]) (fun u post=>u=.tuple #[]/\post=[oDWorld B1 B2 B3 r]):=LW 0 rfl (fun _=>xP h)
def bK (a0:WD)(a1:Bool):Option WD:=
 (iz N a0.w_ a0.at_ a0.Zn).bind fun y7=>(bif a1 then (some (!decide (ai .i64 a0.Zn.Ze 16=0))) else (some false)).bind fun b8=>bif b8 then ((oe N y7).bind fun a6=>some (⟨a0.Zn,a6,a0.at_⟩:WD)) else (some (⟨a0.Zn,y7,a0.at_⟩:WD))
theorem jA {N:Nat}{a0:WD}{a1:Bool}{r:WD}(h:bK N a0 a1=some r){B4 B5 B6:Nat}:Okc W8 79 [pV B1 0,.bool a1] ([ah B1 135 [iV a0.Zn.Za,iV a0.Zn.Zi,iV a0.Zn.Ze,iV a0.Zn.Zf,W A2 n2 c2,W A3 n3 c3,pV B4 0,iV a0.at_.Za,iV a0.at_.N,.string a0.at_.S],bf A2 n2 c2 a0.Zn.Zc,bf A3 n3 c3 a0.Zn.Zb,oDWorld B4 B5 B6 a0.w_]) (fun u post=> ∃A0 n0 c0 A1 n1 c1,u=.tuple #[]/\post=[ah B1 135 [iV r.Zn.Za,iV r.Zn.Zi,iV r.Zn.Ze,iV r.Zn.Zf,W A0 n0 c0,W A1 n1 c1,pV B4 0,iV r.at_.Za,iV r.at_.N,.string r.at_.S],bf A0 n0 c0 r.Zn.Zc,bf A1 n1 c1 r.Zn.Zb,oDWorld B4 B5 B6 r.w_]):=by
 refine CZ Tryz.func79 J J ?_;simp only [qM];refine aA<|ba O ([ah B1 135 [iV a0.Zn.Za,iV a0.Zn.Zi,iV a0.Zn.Ze,iV a0.Zn.Zf,W A2 n2 c2,W A3 n3 c3,pV B4 0,iV a0.at_.Za,iV a0.at_.N,.string a0.at_.S],bf A2 n2 c2 a0.Zn.Zc,bf A3 n3 c3 a0.Zn.Zb]) (cS [0,1,2] 4) ?_;refine ab ?_;obtain ⟨y7,k,h⟩:=aa h;refine zD 12 J (oC (wp k)) ?_;rintro _ _ ⟨_,⟨rfl,rfl⟩,rfl⟩;refine ca ?_;refine ab ?_
 refine oo 8 26 18 h (fun _ g8 h=> ?_) fun b8 h=> ?_
 ·refine ab ?_;exact fb (aI J J) J (bW g8 J) J<|gY
 refine dr h ?_ ?_<;>intro h
 ·refine cC h (fun _ k=>wo k) fun a6 h=> ?_
  exact eN
 exact eY
def fR (a0:WH)(a1:WK)(a2:WP):Option (Bool×WH):=
 (gL N a0 a1).bind fun y6=>Ef y6 (fun y6_0=>some (false,a0)) (fun y6_1=>(cc N (⟨y6_1.Zn,a0,y6_1.at_⟩:WD) a2).bind fun a6=>bif !a6.2.2 then (some (true,a0)) else (bif decide (ai .i64 a6.1.Zd 4=0) then (some (false,a0)) else ((cV N a0).bind fun b5=>(ej N a0.Zp y6_1.Zn.Zi a2).bind fun a7=>bif !decide (a7.2.1=0) then (some (false,(⟨a0.ZB,a0.Zu,(),a0.Zo,a7.2.2,a0.Zy,a0.ZE,a0.ZF,a0.ZG,a0.Zz,a0.ZA⟩:WH))) else (aG (in64 (a6.2.1+1)) (aG (in64 (a6.2.1+2)) ((oP N y6_1.Zn.Zc (a6.2.1+1) (a6.2.1+2)).bind fun a8=>(bK N (⟨(⟨y6_1.Zn.Za,a7.1,y6_1.Zn.Ze,y6_1.Zn.Zf,a8,y6_1.Zn.Zb⟩:WI),(⟨a0.ZB,a0.Zu,(),a0.Zo,a7.2.2,a0.Zy,a0.ZE,a0.ZF,a0.ZG,a0.Zz,a0.ZA⟩:WH),y6_1.at_⟩:WD) true).bind fun b0=>some (true,b0.w_)))))))
theorem qZ {N:Nat}{a1:WK}{r:Bool×WH}(h:fR N a0 a1 a2=some r){B1 B2 B3:Nat}:Okc W8 50 [pV B1 0,(aE a1),(eW a2)] ([oDWorld B1 B2 B3 a0]) (fun u post=>u=.bool r.1/\post=[oDWorld B1 B2 B3 r.2]):=by
 refine ce Tryz.func50 ?_;intro B4
 refine cn fun B5=> ?_
 obtain ⟨y6,a6,h⟩:=aa h;rcases y6 with y6_0|y6_1
 ·replace h:=GS h;refine gD (oR (db a6)) ?_;rintro _ _ ⟨_,⟨rfl,rfl⟩,rfl⟩;refine sY ?_;exact jx J<|eY
 replace h:=GR h;refine gD (oR (db a6)) ?_;rintro _ _ ⟨_,⟨B7,A8,n8,c8,A9,n9,c9,rfl,rfl⟩,rfl⟩;refine sY ?_
 refine ge J<|cR h (fun _ k=>kJ k) fun a7 h=> ?_
 intro a8;refine sY ?_;refine gH J h ?_ ?_<;>intro h
 ·exact eY
 refine sY ?_;refine ga (aI J J) ?_;refine gH J h ?_ ?_<;>intro h
 ·exact eY
 refine ab ?_;refine aA<|ba O ([ah a8 50 (cm a7.1),ah B7 135 [iV y6_1.Zn.Za,iV y6_1.Zn.Zi,iV y6_1.Zn.Ze,iV y6_1.Zn.Zf,W A8 n8 c8,W A9 n9 c9,pV B1 0,iV y6_1.at_.Za,iV y6_1.at_.N,.string y6_1.at_.S],bf A8 n8 c8 y6_1.Zn.Zc,bf A9 n9 c9 y6_1.Zn.Zb,ah B5 39 (ls a2),ah B4 28 (bS a1)]) (cS [0,1,2,3,4,5] 7) ?_;refine zY [0,2,3,4,5,6,7] ?_;obtain ⟨b0,k,h⟩:=aa h;refine zD 1 J (oR (eS k)) ?_;rintro _ _ ⟨_,⟨rfl,rfl⟩,rfl⟩;refine ca ?_;refine kC ((cS [6,0,1,2,3,4,5] 7).trans AC) (cS [2,3,4,5,6,7] 8) ?_;obtain ⟨b5,k,h⟩:=aa h;refine zD 8 J (oC (vi k)) ?_;rintro _ _ ⟨_,⟨rfl,rfl⟩,rfl⟩;refine ca ?_;refine kC (AP) (cS [1,2,3,4,5,6] 7) ?_;refine zX [9,10,11,12,13] ?_;refine sY ?_;refine gH J h ?_ ?_<;>intro h
 ·exact eY
 refine ab ?_;obtain ⟨b6,h⟩:=ae h;refine ab ?_;obtain ⟨b7,h⟩:=ae h;refine ab ?_;obtain ⟨b9,k,h⟩:=aa h
 refine vo (oC (CO (R:=ax) k)) fun d0 d1 d2=> ?_
 refine TU h (fun _ k=>jA k) fun d3 d4 d6 e0 e1 e2 e3 h=> ?_
 exact eN
def wb (a2 a7:Int)(a1:WK)(y5:WI×Bool)(p15:WW)(a8:WH):Option (Bool×WH):=
 (cD N a8 a1).bind fun a6=>aG ((0:Int)<=a7/\a7.toNat<=p15.length) ((ay N a8 a1 (⟨a6.1.Za,a6.1.Zi,a6.1.Ze,a6.1.Zf,a6.1.Zc,List.take a7.toNat p15⟩:WI)).bind fun b0=>some (decide (a7=a2),b0))
def rn (N:Nat)(a6:Int->WH->Option (Bool×WH))(a2 b0:Int)(b5:((List WJ)))(a7:Int)(a1:WK)(y5:WI×Bool)(p15:WW)(a8:WH):Option (Bool×WH):=
 aG (in64 (a7+1)) (a6 (a7+1) a8)
def jh (N:Nat)(a2 a6:Int)(a7:((List WJ)))(a1:WK)(y5:WI×Bool)(p15:WW):Nat->Int->WH->Option (Bool×WH)
 |0,_,_=>none
 |b6+1,a8,b0=>bif decide (a8<(a7.length:Int)) then ((au a7 a8).bind fun b5=>(bif decide (b5.Zg.Za=0) then (some (decide (a6<=b5.Zg.N))) else (some false)).bind fun b7=>bif b7 then ((fR N b0 a1 b5.Zg).bind fun b9=>rn N (jh N a2 a6 a7 a1 y5 p15 b6) a2 a6 a7 a8 a1 y5 p15 b9.2) else (rn N (jh N a2 a6 a7 a1 y5 p15 b6) a2 a6 a7 a8 a1 y5 p15 b0)) else (wb N a2 a6 a1 y5 p15 b0)
def nU (a2:Int)(a0:WH)(a1:WK)(y5:WI×Bool)(p15:WW)(a6:Int):Option (Bool×WH):=
 (jn N a0 a1).bind fun a7=>jh N a2 a6 a7 a1 y5 p15 N 0 a0
def nT (N:Nat)(a6:Int->Int->Option (Bool×WH))(a2:Int)(b0:((List WJ)))(a7:Int)(a0:WH)(a1:WK)(y5:WI×Bool)(p15:WW)(a8:Int):Option (Bool×WH):=
 aG (in64 (a7+1)) (a6 a8 (a7+1))
def ji (N:Nat)(a2:Int)(a6:((List WJ)))(a0:WH)(a1:WK)(y5:WI×Bool)(p15:WW):Nat->Int->Int->Option (Bool×WH)
 |0,_,_=>none
 |b5+1,b0,a7=>bif decide (a7<(a6.length:Int)) then ((au a6 a7).bind fun a8=>(bif decide (a8.Zg.Za=0) then (some (decide (ai .i64 a8.Zd 4=0))) else (some false)).bind fun b6=>bif b6 then (aG (in64 (a8.Zg.N+1)) (nT N (ji N a2 a6 a0 a1 y5 p15 b5) a2 a6 a7 a0 a1 y5 p15 (max b0 (a8.Zg.N+1)))) else (nT N (ji N a2 a6 a0 a1 y5 p15 b5) a2 a6 a7 a0 a1 y5 p15 b0)) else (nU N a2 a0 a1 y5 p15 b0)
def nV (a2:Int)(a0:WH)(a1:WK)(y5:WI×Bool)(p15:WW):Option (Bool×WH):=
 (jn N a0 a1).bind fun a6=>ji N a2 a6 a0 a1 y5 p15 N a2 0
def nS (N:Nat)(a2:Int)(a0:WH)(a1:WK)(y5:WI×Bool):Nat->WW->Option (Bool×WH)
 |0,_=>none
 |a7+1,a6=>bif decide ((a6.length:Int)<a2) then (aG (bu (a6.length+([(⟨8,0,(⟨#[]⟩:ByteArray)⟩:WK)]:List WK).length)) ((nS N a2 a0 a1 y5 a7) (a6++([(⟨8,0,(⟨#[]⟩:ByteArray)⟩:WK)]:List WK)))) else (nV N a2 a0 a1 y5 a6)
def jw (a0:WH)(a1:WK)(a2:Int):Option (Bool×WH):=
 (cD N a0 a1).bind fun y5=>(bif !y5.2 then (some true) else (some (decide (a2<0)))).bind fun b9=>(bif b9 then (some true) else (some (decide (4096<a2)))).bind fun a6=>(bif a6 then (some true) else ((bif !decide (ai .i64 y5.1.Ze 32=0) then (some (!decide (a2=(y5.1.Zb.length:Int)))) else (some false)).bind fun b12=>some b12)).bind fun a7=>bif a7 then (some (false,a0)) else (nS N a2 a0 a1 y5 N y5.1.Zb)
theorem pc {N:Nat}{a1:WK}{a2:Int}{r:Bool×WH}(h:jw N a0 a1 a2=some r){B1 B2 B3:Nat}:Okc W8 17 [pV B1 0,(aE a1),iV a2] ([ug,oDWorld B1 B2 B3 a0]) (fun u post=>u=.bool r.1/\post=[oDWorld B1 B2 B3 r.2]):=by
 refine ce Tryz.func17 ?_;intro B4
 refine IK h (fun _ k=>fg k) fun y5 A6 n6 c6 A7 n7 c7 h=> ?_
 intro B8;refine sY ?_;refine gS 3 27 24 h ?_;intro b9 h;refine ab ?_;refine gS 3 31 28 h ?_;intro g9 h;refine ab ?_
 refine xc 12 44 32 h (fun _ f1 h=> ?_) fun h0 h=> ?_
 ·refine ab ?_;refine fb (aI J J) J (cL f1 J) J<|ab ?_;refine gS 6 43 37 h ?_;intro b12 h;exact gY
 refine dr h ?_ ?_<;>intro h
 ·exact eY
 refine ab ?_;refine ao (fun s L=> ∃p15 a6 a7 a8,nV N a2 a0 a1 y5 p15=some r/\s=[(0,pV B1 0),(2,iV a2),(4,pV B4 0),(6,.bool false),(7,pV B8 0)]/\L=[oDWorld B1 B2 B3 a0,ah B4 28 (bS a1),bf A6 n6 c6 y5.1.Zc,bf a6 a7 a8 p15,ah B8 94 (iL y5.1 A6 n6 c6 a6 a7 a8),ug]) ?_ ?_
 ·refine ab ?_;refine lK (fun m s L=> ∃(d1:WW) (e2:Option Addr) (e3 e4:Nat),nS N a2 a0 a1 y5 m d1=some r/\s=[(0,pV B1 0),(2,iV a2),(4,pV B4 0),(6,.bool false),(7,pV B8 0)]/\L=[oDWorld B1 B2 B3 a0,ah B4 28 (bS a1),bf A6 n6 c6 y5.1.Zc,bf e2 e3 e4 d1,ah B8 94 (iL y5.1 A6 n6 c6 e2 e3 e4),ug]) N ?_;rintro f2 _ _ ⟨d1,e2,e3,e4,h,rfl,rfl⟩;rw [nS.eq_2] at h;refine sZ ?_;refine gH J h ?_ ?_<;>intro h
  ·refine ab ?_;refine gD (aB (R:=ax) (vss:=[Uw]) (xs:=[(⟨8,0,(⟨#[]⟩:ByteArray)⟩:WK)]) J (jr _ _ _) J J (fun _ _ hr=> .cons J All2.nil)) ?_;rintro _ _ ⟨h1,h2,h3,rfl,rfl⟩;obtain ⟨f3,h⟩:=ae h
   refine vo (aR 4 0 J J ap J J t9 r9 J J f3) fun f4 f6 f9=> ?_
   exact ⟨f2,_,_,WZ _,⟨d1++([(⟨8,0,(⟨#[]⟩:ByteArray)⟩:WK)]:List WK),f4,f6,f9,h,J,J⟩,sA,cS [1,2,3,4,5,6] 7⟩
  exact jY
 rintro _ _ ⟨p15,a6,a7,a8,h,rfl,rfl⟩;refine ab ?_;refine ao (fun s L=> ∃b0,nU N a2 a0 a1 y5 p15 b0=some r/\s=[(0,pV B1 0),(2,iV a2),(4,pV B4 0),(6,.bool false),(7,pV B8 0),(9,iV b0)]/\L=[oDWorld B1 B2 B3 a0,ah B4 28 (bS a1),bf A6 n6 c6 y5.1.Zc,bf a6 a7 a8 p15,ah B8 94 (iL y5.1 A6 n6 c6 a6 a7 a8),ug]) ?_ ?_
 ·refine MG h (fun _ k=>oW k) fun b5 d2 d3 d4 h=> ?_
  refine lK (fun m s L=> ∃(e5:Int) (b7:Int),ji N a2 b5 a0 a1 y5 p15 m e5 b7=some r/\s=[(0,pV B1 0),(2,iV a2),(4,pV B4 0),(6,.bool false),(7,pV B8 0),(9,iV e5),(59,W d2 d3 d4),(60,iV (b5.length:Int)),(61,iV b7)]/\L=[bc ir 50 (W d2 d3 d4) b5,oDWorld B1 B2 B3 a0,ah B4 28 (bS a1),bf A6 n6 c6 y5.1.Zc,bf a6 a7 a8 p15,ah B8 94 (iL y5.1 A6 n6 c6 a6 a7 a8),ug]) N ?_;rintro g0 _ _ ⟨e5,b7,h,rfl,rfl⟩;rw [ji.eq_2] at h;refine ab ?_;refine aA<|gH J h (fun h=> ?_) (fun h=> ?_)
  ·refine ab ?_;refine ao (fun s L=> ∃e6,nT N (ji N a2 b5 a0 a1 y5 p15 g0) a2 b5 b7 a0 a1 y5 p15 e6=some r/\s=[(0,pV B1 0),(2,iV a2),(4,pV B4 0),(6,.bool false),(7,pV B8 0),(9,iV e6),(59,W d2 d3 d4),(60,iV (b5.length:Int)),(61,iV b7)]/\L=[bc ir 50 (W d2 d3 d4) b5,oDWorld B1 B2 B3 a0,ah B4 28 (bS a1),bf A6 n6 c6 y5.1.Zc,bf a6 a7 a8 p15,ah B8 94 (iL y5.1 A6 n6 c6 a6 a7 a8),ug]) ?_ ?_
   ·refine ab ?_;obtain ⟨h4,g1,g2,g3,h⟩:=bz h
    refine cn fun h5=> ?_
    refine oo 5 74 69 h (fun _ g4 h=> ?_) fun h6 h=> ?_
    ·refine ab ?_;exact fb (aI J J) J (bW g4 J) J<|gY
    refine dr h ?_ ?_<;>intro h
    ·refine ab ?_;obtain ⟨h7,h⟩:=ae h;refine ab ?_;refine ga (Tw J J Wo Wo) ?_;exact jN
    exact jY
   rintro _ _ ⟨e6,h,rfl,rfl⟩;refine ab ?_;obtain ⟨h8,h⟩:=ae h;exact lY
  exact jY
 rintro _ _ ⟨b0,h,rfl,rfl⟩;refine ao (fun s L=> ∃e7,wb N a2 b0 a1 y5 p15 e7=some r/\s=[(0,pV B1 0),(2,iV a2),(4,pV B4 0),(6,.bool false),(7,pV B8 0),(9,iV b0)]/\L=[oDWorld B1 B2 B3 e7,ah B4 28 (bS a1),bf A6 n6 c6 y5.1.Zc,bf a6 a7 a8 p15,ah B8 94 (iL y5.1 A6 n6 c6 a6 a7 a8),ug]) ?_ ?_
 ·refine MG h (fun _ k=>oW k) fun b6 d6 e0 e1 h=> ?_
  refine lK (fun m s L=> ∃(d0:Int) (e8:WH),jh N a2 b0 b6 a1 y5 p15 m d0 e8=some r/\s=[(0,pV B1 0),(2,iV a2),(4,pV B4 0),(6,.bool false),(7,pV B8 0),(9,iV b0),(84,W d6 e0 e1),(85,iV (b6.length:Int)),(86,iV d0)]/\L=[bc ir 50 (W d6 e0 e1) b6,oDWorld B1 B2 B3 e8,ah B4 28 (bS a1),bf A6 n6 c6 y5.1.Zc,bf a6 a7 a8 p15,ah B8 94 (iL y5.1 A6 n6 c6 a6 a7 a8),ug]) N ?_;rintro g5 _ _ ⟨d0,e8,h,rfl,rfl⟩;rw [jh.eq_2] at h;refine ab ?_;refine aA<|gH J h (fun h=> ?_) (fun h=> ?_)
  ·refine ab ?_;refine ao (fun s L=> ∃e9,rn N (jh N a2 b0 b6 a1 y5 p15 g5) a2 b0 b6 d0 a1 y5 p15 e9=some r/\s=[(0,pV B1 0),(2,iV a2),(4,pV B4 0),(6,.bool false),(7,pV B8 0),(9,iV b0),(84,W d6 e0 e1),(85,iV (b6.length:Int)),(86,iV d0)]/\L=[bc ir 50 (W d6 e0 e1) b6,oDWorld B1 B2 B3 e9,ah B4 28 (bS a1),bf A6 n6 c6 y5.1.Zc,bf a6 a7 a8 p15,ah B8 94 (iL y5.1 A6 n6 c6 a6 a7 a8),ug]) ?_ ?_
   ·refine ab ?_;obtain ⟨h9,g6,g7,g8,h⟩:=bz h
    refine cn fun i0=> ?_
    refine gS 6 100 94 h ?_;intro i1 h;refine dr h ?_ ?_<;>intro h
    ·refine cC h (fun _ k=>qZ k) fun i2 h=> ?_
     exact jN
    exact jY
   rintro _ _ ⟨e9,h,rfl,rfl⟩;refine ab ?_;obtain ⟨i3,h⟩:=ae h;exact lY
  exact jY
 rintro _ _ ⟨e7,h,rfl,rfl⟩
 refine IK h (fun _ k=>fg k) fun i4 i5 i6 i7 i8 i9 j0 h=> ?_
 intro j1;refine ab ?_;obtain ⟨f0,h⟩:=ae h
 refine vo (QN (k:=b0.toNat) 6 J J t9 size28.out J (by rw [Xn f0.1];rfl) (by rw [Xn f0.1];rfl) f0.2) fun j2 j3 j4=> ?_
 refine mX (bq 1 J)<|mX (bq 6 J)<|cC h (fun _ k=>dy k) fun j5 h=> ?_
 exact eN
def ov (N:Nat)(p21:WH):Option (Bool×Bool×WH):=
 some (true,false,p21)
def ou (N:Nat)(a6:Bool×WH)(a7:WH):Option (Bool×Bool×WH):=
 some (a6.1,false,a7)
def mV (a0:WH)(a1:WK)(a2:WI)(a3:WU):Option (Bool×Bool×WH):=
 (bif !decide (ai .i64 a3.Has 1=0) then ((bif !decide (a3.Value.Za=3) then (some true) else (some (decide (a3.Value.N<0)))).bind fun b5=>(bif b5 then (some true) else (some (decide (4096<a3.Value.N)))).bind fun b6=>some b6) else (some false)).bind fun b9=>bif b9 then (some (false,true,a0)) else ((nw N a2).bind fun b7=>(bZ N).bind fun d0=>(dq N b7 true true d0 a3).bind fun b0=>bif !b0.2 then (some (false,false,a0)) else (bif !(!decide (ai .i64 a3.Has 1=0)) then (bif decide (ai .i64 b0.1.Zd 1=0) then ((cD N a0 a1).bind fun a6=>(ay N a0 a1 (⟨a6.1.Za,a6.1.Zi,cP .i64 a6.1.Ze 32,a6.1.Zf,a6.1.Zc,a6.1.Zb⟩:WI)).bind fun d1=>ov N d1) else (ov N a0)) else ((jw N a0 a1 a3.Value.N).bind fun a8=>bif decide (ai .i64 b0.1.Zd 1=0) then ((cD N a8.2 a1).bind fun a7=>(ay N a8.2 a1 (⟨a7.1.Za,a7.1.Zi,cP .i64 a7.1.Ze 32,a7.1.Zf,a7.1.Zc,a7.1.Zb⟩:WI)).bind fun d2=>ou N a8 d2) else (ou N a8 a8.2))))
theorem AT {N:Nat}{a1:WK}{a2:WI}{a3:WU}{r:Bool×Bool×WH}(h:mV N a0 a1 a2 a3=some r){B1 B2 B3:Nat}:Okc W8 58 [pV B1 0,(aE a1),.agg #[iV a2.Za,iV a2.Zi,iV a2.Ze,iV a2.Zf,W A4 n4 c4,W A5 n5 c5],(fW a3)] ([aX A4 n4 c4 a2.Zc,aX A5 n5 c5 a2.Zb,ug,oDWorld B1 B2 B3 a0]) (fun u post=>u=.tuple #[.bool r.1,.bool r.2.1]/\post=[oDWorld B1 B2 B3 r.2.2]):=by
 refine ce Tryz.func58 ?_;intro B6
 refine cn fun B7=> ?_
 intro B8;refine ab ?_;refine ga (aI J J) ?_;refine sZ ?_
 refine oo 17 35 18 h (fun _ g9 h=> ?_) fun b9 h=> ?_
 ·refine ab ?_;refine gS 5 28 23 h ?_;intro d4 h;refine ab ?_;refine gS 5 34 29 h ?_;intro d6 h;exact gY
 refine dr h ?_ ?_<;>intro h
 ·exact eY
 refine ab ?_;refine aA ?_;obtain ⟨d2,a8,h⟩:=aa h;obtain ⟨b0,b5,h⟩:=aa h;obtain ⟨a6,b6,h⟩:=aa h;refine gI (t:=[(0,pV B1 0),(5,pV B6 0),(6,pV B7 0),(7,pV B8 0),(8,.bool false),(9,.bool false),(10,.bool (!decide (ai .i64 a3.Has 1=0)))]) ?_ mc (ad _)
 refine iQ O 9 [7] [6,7,8] [37,38,39,40,41,36,42,43,11] [[],[0],[],[],[1,2,3],[4],[5],[5],[]] [aV (.agg #[iV a2.Za,iV a2.Zi,iV a2.Ze,iV a2.Zf,W A4 n4 c4,W A5 n5 c5]),
aV ((cG d2)),
aV (.agg #[iV b0.Za,iV b0.N,.string b0.S]),
aV ((fW a3)),
aV (.tuple #[(cG a6.1),.bool a6.2]),
aV (.tuple #[(cG a6.1),.bool a6.2]),
aV ((cG a6.1)),
aV (.bool a6.2),
aX1 (fun (a7:Nat)=>pV a7 0) (fun a7=> [ah a7 50 [iV 0,iV 0,.string (⟨#[]⟩),iV 0,iV 0,iV 0,.string (⟨#[]⟩),iV 0,iV 0,.string (⟨#[]⟩),iV 0,iV 0,.string (⟨#[]⟩)]])] [] (ad _) (fB rfl lV) O rfl rfl ?_ ?_ ?_
 ·exact fA J (nz (dW J J) J (iH J (ad _)))<|lU
 ·refine aF J ?_ ?_
  ·refine tl (bJ zero50.out J) J ?_;rintro _ _ ⟨d3,rfl,rfl⟩;exact N4 d3 (ad _)
  refine qE (dW J J) ?_;refine qE (dW J J) ?_;refine qE (aq J) ?_;refine aF J ?_ ?_
  ·refine tl (oR (vq b6)) J ?_;rintro _ _ ⟨_,⟨rfl,rfl⟩,rfl⟩;exact iH J (ad _)
  refine qR (aC (us:=iy a3) 0 J J agg41.out J) ?_;refine aF J ?_ ?_
  ·refine tl (oR (js b5)) J ?_;rintro _ _ ⟨_,⟨rfl,rfl⟩,rfl⟩;exact iH J (ad _)
  refine aF J ?_ ?_
  ·refine tl (oR (xh a8)) J ?_;rintro _ _ ⟨_,⟨rfl,rfl⟩,rfl⟩;exact iH J (ad _)
  refine qR (aC (us:=(iL a2 A4 n4 c4 A5 n5 c5)) 1 J J agg94.out J) ?_;exact dI
 intro a7;refine oa (t:=[(42,(cG a6.1)),(43,.bool a6.2),(11,pV a7 0),(0,pV B1 0),(5,pV B6 0),(6,pV B7 0),(7,pV B8 0),(8,.bool false),(9,.bool false),(10,.bool (!decide (ai .i64 a3.Has 1=0)))]) (L':=[ah a7 50 [iV 0,iV 0,.string (⟨#[]⟩),iV 0,iV 0,iV 0,.string (⟨#[]⟩),iV 0,iV 0,.string (⟨#[]⟩),iV 0,iV 0,.string (⟨#[]⟩)],ah B8 41 (iy a3),ah B7 94 (iL a2 A4 n4 c4 A5 n5 c5),ah B6 28 (bS a1),aX A4 n4 c4 a2.Zc,aX A5 n5 c5 a2.Zb,ug,oDWorld B1 B2 B3 a0]) ?_ mc (ad _);refine pL 9 J O (am (us:=cm a6.1) (cs':=cm a6.1) 0 J J J J size50.out J J J) J J ?_;rintro _ _ rfl;refine CF 10 J O (ci J) J J J<|mb O<|sY ?_;refine gH J h ?_ ?_<;>intro h
 ·exact eY
 refine ab ?_;refine fX 48 J (fun b7=> ?_) (fun b7=> ?_)
 ·replace h:=cN b7 h;refine ab ?_;refine ao (fun s L=> ∃p21,ov N p21=some r/\s=[(8,.bool true),(9,.bool false)]/\L=[oDWorld B1 B2 B3 p21,ug]) ?_ ?_
  ·refine ab ?_;refine ga (aI J J) ?_;refine gH J h ?_ ?_<;>intro h
   ·refine IK h (fun _ k=>fg k) fun e0 e1 e2 e3 e4 e5 e6 h=> ?_
    refine ga (pH J J) ?_
    refine mX (bq 0 J)<|mX (bq 1 J)<|cC h (fun _ k=>dy k) fun e7 h=> ?_
    exact jN
   exact jY
  rintro _ _ ⟨p21,h,rfl,rfl⟩;exact eY
 replace h:=cO b7 h
 refine cC h (fun _ k=>pc k) fun d1 h=> ?_
 refine ao (fun s L=> ∃d0,ou N d1 d0=some r/\s=[(8,.bool d1.1),(9,.bool false)]/\L=[oDWorld B1 B2 B3 d0,ug]) ?_ ?_
 ·refine ab ?_;refine ga (aI J J) ?_;refine gH J h ?_ ?_<;>intro h
  ·refine IK h (fun _ k=>fg k) fun e8 e9 f0 f1 f2 f3 f4 h=> ?_
   refine ga (pH J J) ?_
   refine mX (bq 0 J)<|mX (bq 1 J)<|cC h (fun _ k=>dy k) fun f6 h=> ?_
   exact jN
  exact jY
 rintro _ _ ⟨d0,h,rfl,rfl⟩;exact eY
def eD (N:Nat)(a0:WI)(a1:Int):Option Bool:=
 (bif decide (a1<(a0.Zb.length:Int)) then ((au a0.Zb a1).bind fun x5=>some (!decide (x5=(⟨8,0,(⟨#[]⟩:ByteArray)⟩:WK)))) else (some false)).bind fun b4=>some b4
theorem yM {N:Nat}{a0:WI}{r:Bool}(h:eD N a0 a1=some r):Okc W8 48 [.agg #[iV a0.Za,iV a0.Zi,iV a0.Ze,iV a0.Zf,W A1 n1 c1,W A2 n2 c2],iV a1] ([aX A1 n1 c1 a0.Zc,aX A2 n2 c2 a0.Zb,ug]) (fun u post=>u=.bool r/\post=[]):=by
 refine ce Tryz.func48 ?_;intro B3;refine ab ?_;refine dY [0,1,2,3,4,5] ?_
 refine yJ [6,7,8,9,10,11,12,13] 1 10 18 h (fun _ g4 h rest=> ?_) (fun _ g4 h rest=> ?_) fun b4 h=> ?_
 ·refine yY [6,7,8] ?_;obtain ⟨x5,a6,a7,a8,h⟩:=bz h;refine yY [9,10,11] ?_;refine dH 12 J O (Di (x:=x5) (y:=(⟨8,0,(⟨#[]⟩:ByteArray)⟩:WK)) J J) (bW g4 J) J<|zE 13 J (eP g4 J J) ?_;exact yS rest h
 ·refine yY [6,7,8,9,10,11,12,13] ?_;exact yS rest h
 refine zX [14] ?_;exact eY
def qg (a0:WH)(a1:WK)(a2:WP):Option (WJ×Bool):=
 (gL N a0 a1).bind fun y7=>Ef y7 (fun y7_0=>some ((⟨(⟨0,0,⟨#[]⟩⟩:WP),0,(⟨0,0,⟨#[]⟩⟩:WK),(⟨0,0,⟨#[]⟩⟩:WK),(⟨0,0,⟨#[]⟩⟩:WK)⟩:WJ),false)) (fun y7_1=>(cc N (⟨y7_1.Zn,a0,y7_1.at_⟩:WD) a2).bind fun a6=>some (a6.1,a6.2.2))
theorem Aa {N:Nat}{a1:WK}{r:WJ×Bool}(h:qg N a0 a1 a2=some r){B1 B2 B3:Nat}:Okc W8 49 [pV B1 0,(aE a1),(eW a2)] ([pDWorld B1 B2 B3 a0]) (fun u post=>u=.tuple #[(cG r.1),.bool r.2]/\post=[]):=by
 refine ce Tryz.func49 ?_;intro B4
 refine cn fun B5=> ?_
 intro B6;refine ab ?_;obtain ⟨y7,a6,h⟩:=aa h;rcases y7 with y7_0|y7_1
 ·replace h:=GS h;refine gD (oR (db a6)) ?_;rintro _ _ ⟨_,⟨rfl,rfl⟩,rfl⟩;refine sY ?_;exact jx J<|eY
 replace h:=GR h;refine gD (oR (db a6)) ?_;rintro _ _ ⟨_,⟨B8,A9,n9,c9,a7,a8,b0,rfl,rfl⟩,rfl⟩;refine sY ?_
 refine ge J<|cR h (fun _ k=>kJ k) fun b5 h=> ?_
 intro b6;exact eY
def pK (a0:WH)(a1:WK)(a2:WP):Option (WJ×Bool):=
 (cD N a0 a1).bind fun y7=>bif !y7.2 then (some ((⟨(⟨0,0,⟨#[]⟩⟩:WP),0,(⟨0,0,⟨#[]⟩⟩:WK),(⟨0,0,⟨#[]⟩⟩:WK),(⟨0,0,⟨#[]⟩⟩:WK)⟩:WJ),false)) else ((bZ N).bind fun a7=>bif decide (a2=a7) then ((nw N y7.1).bind fun a8=>some (a8,true)) else ((bif decide (a2.Za=0) then ((aZ N a2).bind fun b0=>some b0) else (some false)).bind fun b5=>(bif b5 then ((eD N y7.1 a2.N).bind fun b6=>some b6) else (some false)).bind fun b7=>bif b7 then ((au y7.1.Zb a2.N).bind fun b9=>some ((⟨a2,7,b9,(⟨0,0,⟨#[]⟩⟩:WK),(⟨0,0,⟨#[]⟩⟩:WK)⟩:WJ),true)) else ((qg N a0 a1 a2).bind fun a6=>some (a6.1,a6.2))))
theorem CC {N:Nat}{a1:WK}{r:WJ×Bool}(h:pK N a0 a1 a2=some r){B1 B2 B3:Nat}:Okc W8 16 [pV B1 0,(aE a1),(eW a2)] ([pDWorld B1 B2 B3 a0,ug]) (fun u post=>u=.tuple #[(cG r.1),.bool r.2]/\post=[]):=by
 refine ce Tryz.func16 ?_;intro B4
 refine cn fun B5=> ?_
 intro B6
 refine IK h (fun _ k=>fg k) fun y7 A8 n8 c8 A9 n9 c9 h=> ?_
 intro b6;refine sY ?_;refine gH J h ?_ ?_<;>intro h
 ·exact eY
 refine dY [] ?_;refine ab ?_;obtain ⟨a7,k,h⟩:=aa h;refine zD 1 J (oR (js k)) ?_;rintro _ _ ⟨_,⟨rfl,rfl⟩,rfl⟩;refine ⟨_,ad _,ad _,?_⟩;refine zE 2 J (ul (x:=a2) (y:=a7) J J) ?_;refine dr h ?_ ?_<;>intro h
 ·refine cR h (fun _ k=>xh k) fun b7 h=> ?_
  exact eN
 refine ab ?_
 refine oo 3 33 30 h (fun _ b9 h=> ?_) fun d0 h=> ?_
 ·refine cR h (fun _ k=>nM k) fun d1 h=> ?_
  exact gY
 refine ab ?_
 refine oo 5 39 34 h (fun _ d2 h=> ?_) fun d3 h=> ?_
 ·refine cR h (fun _ k=>yM k) fun d4 h=> ?_
  exact gY
 refine dr h ?_ ?_<;>intro h
 ·refine dY [] ?_;refine ab ?_;obtain ⟨a6,a8,b0,b5,h⟩:=bz h;refine ab ?_;refine gN 8 J O O (am (us:=[iV a2.Za,iV a2.N,.string a2.S,iV 7,iV a6.Za,iV a6.N,.string a6.S,iV 0,iV 0,.string (⟨#[]⟩),iV 0,iV 0,.string (⟨#[]⟩)]) (cs':=[iV a2.Za,iV a2.N,.string a2.S,iV 7,iV a6.Za,iV a6.N,.string a6.S,iV 0,iV 0,.string (⟨#[]⟩),iV 0,iV 0,.string (⟨#[]⟩)]) 3 J J J J size50.out J J J) ?_;rintro _ _ rfl;exact eY
 refine cR h (fun _ k=>Aa k) fun d6 h=> ?_
 exact eN
def th (a0:WH)(a1:WK)(a2:WP)(a3:Bool):Option WH:=
 bif a3 then ((fR N a0 a1 a2).bind fun y7=>some y7.2) else (some a0)
theorem GK {N:Nat}{a1:WK}{a3:Bool}{r:WH}(h:th N a0 a1 a2 a3=some r){B1 B2 B3:Nat}:Okc W8 103 [pV B1 0,(aE a1),(eW a2),.bool a3] ([oDWorld B1 B2 B3 a0]) (fun u post=>u=.tuple #[]/\post=[oDWorld B1 B2 B3 r]):=by
 refine ce Tryz.func103 ?_;intro B4
 refine cn fun B5=> ?_
 refine gH J h ?_ ?_<;>intro h
 ·refine cC h (fun _ k=>qZ k) fun y7 h=> ?_
  exact eN
 exact eY
def jl (a0:WG)(a1:Int)(a2:WP)(a3:Int):Option (Int×Int×WG):=
 (fK N a0 a1 a2 a3).bind fun y5=>bif !decide (y5=0) then (some (0,y5,a0)) else ((dw N a0 a1 a2).bind fun y7=>bif y7.2.2 then (some (0,4,a0)) else ((fu N a0 a1).bind fun y9=>bif decide (1024<=y9) then (some (0,9,a0)) else ((jU N a0 a1 ([(⟨0,a2,a3,0⟩:WQ)]:List WQ)).bind fun a6=>some (a6.1,a6.2.1,a6.2.2))))
theorem zx {N:Nat}{a0:WG}{r:Int×Int×WG}(h:jl N a0 a1 a2 a3=some r):Okc W8 149 [pV B1 0,iV a1,(eW a2),iV a3] ([ah B1 170 [W A2 n2 c2,.map (some M3)],bc bC 166 (W A2 n2 c2) a0.Zp,bE eC we M3 a0.ZD]) (fun u post=> ∃A0 n0 c0 M1,u=.tuple #[iV r.1,iV r.2.1]/\post=[ah B1 170 [W A0 n0 c0,.map (some M1)],bc bC 166 (W A0 n0 c0) r.2.2.Zp,bE eC we M1 r.2.2.ZD]):=by
 refine ce Tryz.func149 ?_;intro B4;refine sY ?_
 refine cR h (fun _ k=>nb k) fun y5 h=> ?_
 refine gH J h ?_ ?_<;>intro h
 ·exact eY
 refine sY ?_
 refine cR h (fun _ k=>kH k) fun y7 h=> ?_
 refine gH J h ?_ ?_<;>intro h
 ·exact eY
 refine sY ?_
 refine cR h (fun _ k=>ph k) fun y9 h=> ?_
 refine gH J h ?_ ?_<;>intro h
 ·exact eY
 refine ab ?_;refine gD (aB (R:=bC) (vss:=[[iV 0,iV a2.Za,iV a2.N,.string a2.S,iV a3,iV 0]]) (xs:=[(⟨0,a2,a3,0⟩:WQ)]) J (Dn _ _ _ _ _ _) J J (fun _ _ hr=> .cons J All2.nil)) ?_;rintro _ _ ⟨a6,a7,a8,rfl,rfl⟩;refine mX (bq 0 J) ?_;obtain ⟨b0,k,h⟩:=aa h;refine gD (oC (pf k)) ?_;rintro _ _ ⟨_,⟨b5,b6,b7,b9,rfl,rfl⟩,rfl⟩;exact eY
theorem xj {N:Nat}{a0:WG}{r:Int×Int×WG}(h:jl N a0 a1 a2 a3=some r):Okc W8 149 [pV B1 0,iV a1,(eW a2),iV a3] ([oDTable B1 a0]) (fun u post=>u=.tuple #[iV r.1,iV r.2.1]/\post=[oDTable B1 r.2.2]):=LW 0 rfl (fun _=>zx h)
def iC (a0:WD)(a1:WJ)(a2:WK):Option (WK×WH):=
 bif decide (ai .i64 a1.Zd 8=0) then (some (a1.Value,a0.w_)) else ((bif decide (a2.Za=9) then ((bR N a0.w_ a2).bind fun a7=>some (decide (a7.Za=5))) else (some false)).bind fun a8=>bif a8 then ((ay N a0.w_ a2 (⟨5,0,0,0,([a1.Zq,a1.Zr]:List WK),[]⟩:WI)).bind fun b0=>some (a2,b0)) else ((cW N a0.w_ (⟨5,0,0,0,([a1.Zq,a1.Zr]:List WK),[]⟩:WI)).bind fun a6=>some (a6.1,a6.2)))
theorem nj {N:Nat}{a0:WD}{a1:WJ}{a2:WK}{r:WK×WH}(h:iC N a0 a1 a2=some r){B4 B5 B6:Nat}:Okc W8 150 [pV B1 0,(cG a1),(aE a2)] ([ah B1 135 [iV a0.Zn.Za,iV a0.Zn.Zi,iV a0.Zn.Ze,iV a0.Zn.Zf,W A2 n2 c2,W A3 n3 c3,pV B4 0,iV a0.at_.Za,iV a0.at_.N,.string a0.at_.S],bf A2 n2 c2 a0.Zn.Zc,bf A3 n3 c3 a0.Zn.Zb,oDWorld B4 B5 B6 a0.w_]) (fun u post=>u=.agg #[iV r.1.Za,iV r.1.N,.string r.1.S]/\post=[oDWorld B4 B5 B6 r.2,ah B1 135 [iV a0.Zn.Za,iV a0.Zn.Zi,iV a0.Zn.Ze,iV a0.Zn.Zf,W A2 n2 c2,W A3 n3 c3,pV B4 0,iV a0.at_.Za,iV a0.at_.N,.string a0.at_.S],bf A2 n2 c2 a0.Zn.Zc,bf A3 n3 c3 a0.Zn.Zb]):=by
 refine ce Tryz.func150 ?_;intro B7
 refine cn fun B8=> ?_
 intro B9;refine sY ?_;refine ga (aI J J) ?_;refine gH J h ?_ ?_<;>intro h
 ·exact eY
 refine ab ?_
 refine vo (aB (R:=ax) (vss:=[(bS a1.Zq),(bS a1.Zr)]) (xs:=[a1.Zq,a1.Zr]) J (J3 _ _ _ _ _ _) J J (fun _ _ hr=> .cons J (.cons J All2.nil))) fun a8 b0 b5=> ?_
 intro b6;refine ab ?_;refine aA<|dY [0,1,2,3] ?_
 refine yJ [4,5,6,7,8,9,10,11,12] 0 23 32 h (fun _ a7 h rest=> ?_) (fun _ a7 h rest=> ?_) fun b7 h=> ?_
 ·refine yY [4,5,6,7,8] ?_;obtain ⟨b9,k,h⟩:=aa h;refine ny 9 J O (oR (jz k)) J (bW a7 J) J ?_;rintro _ _ ⟨_,⟨d0,d1,d2,d3,d4,d6,rfl,rfl⟩,rfl⟩;refine ca ?_;refine dH 10 J O (Pz J (Pp _ _ _ _ _ _ _ _ _ _)) (bW a7 J) J<|yY [11,12] ?_;exact yS rest h
 ·refine yY [4,5,6,7,8,9,10,11,12] ?_;exact yS rest h
 refine bn O<|dr h (fun h=> ?_) (fun h=> ?_)
 ·refine aA<|ba O ([ah b6 94 [iV 5,iV 0,iV 0,iV 0,W a8 b0 b5,W none 0 0],ah B9 28 [iV 0,iV 0,.string (⟨#[]⟩)],ah B8 28 (bS a2),ah B7 50 (cm a1),ah B1 135 [iV a0.Zn.Za,iV a0.Zn.Zi,iV a0.Zn.Ze,iV a0.Zn.Zf,W A2 n2 c2,W A3 n3 c3,pV B4 0,iV a0.at_.Za,iV a0.at_.N,.string a0.at_.S],bf A2 n2 c2 a0.Zn.Zc,bf A3 n3 c3 a0.Zn.Zb]) (cS [0,2,3,4,5,6,7] 9) ?_;refine ab ?_;refine kC (bq 1 J) (cS [0,2,3,4,5,6,7] 9) ?_;obtain ⟨e0,k,h⟩:=aa h;refine kC (qu ax _) (cS [1,3,4,5,6,7,8] 10) ?_;refine zD 6 J (oC (dy k)) ?_;rintro _ _ ⟨_,⟨rfl,rfl⟩,rfl⟩;refine ca ?_;exact eY
 refine ab ?_;refine aA<|ba O ([ah b6 94 [iV 5,iV 0,iV 0,iV 0,W a8 b0 b5,W none 0 0],ah B9 28 [iV 0,iV 0,.string (⟨#[]⟩)],ah B8 28 (bS a2),ah B7 50 (cm a1),ah B1 135 [iV a0.Zn.Za,iV a0.Zn.Zi,iV a0.Zn.Ze,iV a0.Zn.Zf,W A2 n2 c2,W A3 n3 c3,pV B4 0,iV a0.at_.Za,iV a0.at_.N,.string a0.at_.S],bf A2 n2 c2 a0.Zn.Zc,bf A3 n3 c3 a0.Zn.Zb]) (cS [0,2,3,4,5,6,7] 9) ?_;refine ab ?_;refine kC (bq 1 J) (cS [0,2,3,4,5,6,7] 9) ?_;obtain ⟨a6,k,h⟩:=aa h;refine kC (qu ax _) (cS [1,3,4,5,6,7,8] 10) ?_;refine zD 5 J (oC (xt k)) ?_;rintro _ _ ⟨_,⟨rfl,rfl⟩,rfl⟩;refine ca ?_;refine gN 6 J O O (am (us:=[iV a6.1.Za,iV a6.1.N,.string a6.1.S]) (cs':=[iV a6.1.Za,iV a6.1.N,.string a6.1.S]) 4 J J J J size28.out J J J) ?_;rintro _ _ rfl;exact eY
end
end Go.Proofs.YtmcifcmlojonnaaGreatDoor