/- Merged texts: part 5. No conditions of their own. -/
import Derived.Test.YtmcifcmlojonnaaGreatDoorG4
set_option maxHeartbeats 4000000
namespace Go.Proofs.YtmcifcmlojonnaaGreatDoor
variable (N:Nat){a1 a3:Int}{ff:Int->Option Bool}{vf:Value}{G:W8}{a2:WL}{a0:WM}
section
theorem Wv:type_of% Tryz.underlying211:=Tryz.underlying211
theorem Wu:type_of% Tryz.underlying4:=Tryz.underlying4
theorem Wt:type_of% Tryz.underlying252:=Tryz.underlying252
variable {A1 A2 A3 A5 A6 A7:Option Addr}{B1 B2 B3 B6 c1 c2 c3 c5 c6 c7 n1 n2 n3 n5 n6 n7:Nat}
open Go.RowKit Asn
set_option maxRecDepth 20000
def gM (a2:Int)(p5:WX)(p6:Int):Option WX:=
 aL (in64 (a2 - p6)) ((cD N p5 (a2 - p6) a2 p6).bind fun a6=>some a6)
def cT (N:Nat)(a2:Int):Nat->WX->Int->Int->Option WX
 |0,_,_,_=>none
 |m7+1,p8,p9,a6=>bif !decide (p9=a6) then (bif decide (a6<p9) then (aL (in64 (a2 - p9)) ((cD N p8 (a2 - p9) a2 a6).bind fun a7=>aL (in64 (p9 - a6)) ((cT N a2 m7) a7 (p9 - a6) a6))) else (aL (in64 (a2 - p9)) (aL (in64 (a2+a6)) (aL (in64 ((a2+a6) - p9)) ((cD N p8 (a2 - p9) ((a2+a6) - p9) p9).bind fun a8=>aL (in64 (a6 - p9)) ((cT N a2 m7) a8 p9 (a6 - p9))))))) else (gM N a2 p8 p9)
def eD (a0:WX)(a1 a2 a3:Int):Option WX:=
 aL (in64 (a2 - a1)) (aL (in64 (a3 - a2)) (cT N a2 N a0 (a2 - a1) (a3 - a2)))
theorem rQ {N:Nat}{a0:WX}{a2:Int}{r:WX}(h:eD N a0 a1 a2 a3=some r):Okc Xa 198 [W A1 n1 c1,iV a1,iV a2,iV a3,.func (.func 91) #[] #[]] ([nE A1 n1 c1 a0]) (fun u post=>u=.tuple #[]/\post=[nE A1 n1 c1 r]):=by
 refine ce Tryz.func198 ?_;obtain ⟨q2,h⟩:=ae h;refine ab ?_;obtain ⟨q3,h⟩:=ae h;refine ab ?_;refine am (fun s L=> ∃p5 p6,gM N a2 p5 p6=some r/\s=[(0,W A1 n1 c1),(2,iV a2),(4,.func (.func 91) #[] #[]),(10,iV p6)]/\L=[nE A1 n1 c1 p5]) ?_ ?_
 ·refine ab ?_;refine lK (fun m s L=> ∃(p8:WX) (p9:Int) (a6:Int),cT N a2 m p8 p9 a6=some r/\s=[(0,W A1 n1 c1),(2,iV a2),(4,.func (.func 91) #[] #[]),(10,iV p9),(11,iV a6)]/\L=[nE A1 n1 c1 p8]) N ?_;rintro m7 _ _ ⟨p8,p9,a6,h,rfl,rfl⟩;rw [cT.eq_2] at h;refine sZ ?_;refine gH J h ?_ ?_<;>intro h
  ·refine dv h ?_ ?_<;>intro h
   ·refine ab ?_;obtain ⟨a7,h⟩:=ae h
    refine cC h (fun _ k=>fm k) fun a8 h=> ?_
    obtain ⟨b0,h⟩:=ae h;exact lY
   refine ab ?_;obtain ⟨b5,h⟩:=ae h;refine ab ?_;obtain ⟨b6,h⟩:=ae h;refine ab ?_;obtain ⟨b7,h⟩:=ae h
   refine cC h (fun _ k=>fm k) fun b9 h=> ?_
   obtain ⟨d0,h⟩:=ae h;exact lY
  exact jY
 rintro _ _ ⟨p5,p6,h,rfl,rfl⟩;refine ab ?_;obtain ⟨d1,h⟩:=ae h
 refine cC h (fun _ k=>fm k) fun d2 h=> ?_
 exact eN
def cu (N:Nat)(a8:WX->Int->Int->Int->Option WX)(a3 a1 a2 a6:Int)(a7:WX):Option WX:=
 (bif decide ((IntKind.i64.wrap ((IntKind.u64.wrap (a1+a3)).fdiv (2 ^ 1)))<((IntKind.i64.wrap ((IntKind.u64.wrap (a1+a3)).fdiv (2 ^ 1)))+a2) - a6) then (some (decide (((IntKind.i64.wrap ((IntKind.u64.wrap (a1+a3)).fdiv (2 ^ 1)))+a2) - a6<a3))) else (some false)).bind fun b0=>bif b0 then ((a8 a7 (IntKind.i64.wrap ((IntKind.u64.wrap (a1+a3)).fdiv (2 ^ 1))) (((IntKind.i64.wrap ((IntKind.u64.wrap (a1+a3)).fdiv (2 ^ 1)))+a2) - a6) a3).bind fun b5=>some b5) else (some a7)
def cx (a7:WX->Int->Int->Int->Option WX)(a1 a3 a6 a2:Int)(a8:WX):Option WX:=
 (bif decide (a1<a6) then (some (decide (a6<(IntKind.i64.wrap ((IntKind.u64.wrap (a1+a3)).fdiv (2 ^ 1)))))) else (some false)).bind fun b0=>bif b0 then ((a7 a8 a1 a6 (IntKind.i64.wrap ((IntKind.u64.wrap (a1+a3)).fdiv (2 ^ 1)))).bind fun b5=>cu N a7 a3 a1 a2 a6 b5) else (cu N a7 a3 a1 a2 a6 a8)
def dk (a7:WX->Int->Int->Int->Option WX)(a1 a2 a3:Int)(a0:WX)(a6:Int):Option WX:=
 aL (in64 (((IntKind.i64.wrap ((IntKind.u64.wrap (a1+a3)).fdiv (2 ^ 1)))+a2) - a6)) ((bif decide (a6<a2) then (some (decide (a2<((IntKind.i64.wrap ((IntKind.u64.wrap (a1+a3)).fdiv (2 ^ 1)))+a2) - a6))) else (some false)).bind fun a8=>bif a8 then ((eD N a0 a6 a2 (((IntKind.i64.wrap ((IntKind.u64.wrap (a1+a3)).fdiv (2 ^ 1)))+a2) - a6)).bind fun b0=>cx N a7 a1 a3 a6 a2 b0) else (cx N a7 a1 a3 a6 a2 a0))
def co (N:Nat)(a8:WX->Int->Int->Int->Option WX)(a1 a2 a3:Int)(a0:WX):Nat->Int->Int->Option WX
 |0,_,_=>none
 |b0+1,a6,a7=>bif decide (a6<a7) then (aL (in64 (a6+a7)) (aL (in64 ((((IntKind.i64.wrap ((IntKind.u64.wrap (a1+a3)).fdiv (2 ^ 1)))+a2) - 1) - (IntKind.i64.wrap ((IntKind.u64.wrap (a6+a7)).fdiv (2 ^ 1))))) ((aq a0 ((((IntKind.i64.wrap ((IntKind.u64.wrap (a1+a3)).fdiv (2 ^ 1)))+a2) - 1) - (IntKind.i64.wrap ((IntKind.u64.wrap (a6+a7)).fdiv (2 ^ 1))))).bind fun b5=>(aq a0 (IntKind.i64.wrap ((IntKind.u64.wrap (a6+a7)).fdiv (2 ^ 1)))).bind fun b6=>(nv N b5 b6).bind fun b7=>bif !(decide (b7<0)) then (aL (in64 ((IntKind.i64.wrap ((IntKind.u64.wrap (a6+a7)).fdiv (2 ^ 1)))+1)) ((co N a8 a1 a2 a3 a0 b0) ((IntKind.i64.wrap ((IntKind.u64.wrap (a6+a7)).fdiv (2 ^ 1)))+1) a7)) else ((co N a8 a1 a2 a3 a0 b0) a6 (IntKind.i64.wrap ((IntKind.u64.wrap (a6+a7)).fdiv (2 ^ 1))))))) else (dk N a8 a1 a2 a3 a0 a6)
def dl (a6:WX->Int->Int->Int->Option WX)(a1 a2 a3:Int)(a0:WX)(a7 a8:Int):Option WX:=
 aL (in64 (((IntKind.i64.wrap ((IntKind.u64.wrap (a1+a3)).fdiv (2 ^ 1)))+a2) - 1)) (co N a6 a1 a2 a3 a0 N a7 a8)
def dm (a6:WX->Int->Int->Int->Option WX)(a1 a2 a3:Int)(a0:WX):Option WX:=
 aL (in64 (a1+a3)) (aL (in64 ((IntKind.i64.wrap ((IntKind.u64.wrap (a1+a3)).fdiv (2 ^ 1)))+a2)) (bif decide ((IntKind.i64.wrap ((IntKind.u64.wrap (a1+a3)).fdiv (2 ^ 1)))<a2) then (aL (in64 (((IntKind.i64.wrap ((IntKind.u64.wrap (a1+a3)).fdiv (2 ^ 1)))+a2) - a3)) (dl N a6 a1 a2 a3 a0 (((IntKind.i64.wrap ((IntKind.u64.wrap (a1+a3)).fdiv (2 ^ 1)))+a2) - a3) (IntKind.i64.wrap ((IntKind.u64.wrap (a1+a3)).fdiv (2 ^ 1))))) else (dl N a6 a1 a2 a3 a0 a1 a2)))
def cp (N:Nat)(b6:WX->Int->Int->Int->Option WX)(a1 a2 a3 b5:Int):Nat->WX->Int->Option WX
 |0,_,_=>none
 |b7+1,a7,a6=>bif decide (b5<a6) then (aL (in64 (a6 - 1)) (aL (in64 (a6 - 1)) ((aq a7 (a6 - 1)).bind fun a8=>(aq a7 a6).bind fun b0=>(aq a7 a6).bind fun b9=>(aq (List.set a7 a6.toNat (⟨a8.Za,a8.N,a8.S⟩:WL)) (a6 - 1)).bind fun d0=>aL (in64 (a6 - 1)) ((cp N b6 a1 a2 a3 b5 b7) (List.set (List.set a7 a6.toNat (⟨a8.Za,a8.N,a8.S⟩:WL)) ((a6 - 1).toNat) (⟨b0.Za,b0.N,b0.S⟩:WL)) (a6 - 1))))) else (some a7)
def fk (a6:WX->Int->Int->Int->Option WX)(a1 a2 a3:Int)(a0:WX)(a7:Int):Option WX:=
 cp N a6 a1 a2 a3 a7 N a0 a2
def cq (N:Nat)(a8:WX->Int->Int->Int->Option WX)(a1 a2 a3:Int)(a0:WX):Nat->Int->Int->Option WX
 |0,_,_=>none
 |b0+1,a6,a7=>bif decide (a6<a7) then (aL (in64 (a6+a7)) ((aq a0 a2).bind fun b5=>(aq a0 (IntKind.i64.wrap ((IntKind.u64.wrap (a6+a7)).fdiv (2 ^ 1)))).bind fun b6=>(nv N b5 b6).bind fun b7=>bif !(decide (b7<0)) then (aL (in64 ((IntKind.i64.wrap ((IntKind.u64.wrap (a6+a7)).fdiv (2 ^ 1)))+1)) ((cq N a8 a1 a2 a3 a0 b0) ((IntKind.i64.wrap ((IntKind.u64.wrap (a6+a7)).fdiv (2 ^ 1)))+1) a7)) else ((cq N a8 a1 a2 a3 a0 b0) a6 (IntKind.i64.wrap ((IntKind.u64.wrap (a6+a7)).fdiv (2 ^ 1)))))) else (fk N a8 a1 a2 a3 a0 a6)
def dx (a6:WX->Int->Int->Int->Option WX)(a1 a2 a3:Int)(a0:WX):Option WX:=
 aL (in64 (a3 - a2)) (bif decide (a3 - a2=1) then (cq N a6 a1 a2 a3 a0 N a1 a2) else (dm N a6 a1 a2 a3 a0))
def cr (N:Nat)(b5:WX->Int->Int->Int->Option WX)(a1 a2 a3 p7:Int):Nat->WX->Int->Option WX
 |0,_,_=>none
 |b6+1,a7,a6=>aL (in64 (p7 - 1)) (bif decide (a6<p7 - 1) then (aL (in64 (a6+1)) (aL (in64 (a6+1)) ((aq a7 (a6+1)).bind fun a8=>(aq a7 a6).bind fun b0=>(aq a7 a6).bind fun b7=>(aq (List.set a7 a6.toNat (⟨a8.Za,a8.N,a8.S⟩:WL)) (a6+1)).bind fun b9=>aL (in64 (a6+1)) ((cr N b5 a1 a2 a3 p7 b6) (List.set (List.set a7 a6.toNat (⟨a8.Za,a8.N,a8.S⟩:WL)) ((a6+1).toNat) (⟨b0.Za,b0.N,b0.S⟩:WL)) (a6+1))))) else (some a7))
def fU (a6:WX->Int->Int->Int->Option WX)(a1 a2 a3:Int)(a0:WX)(p7:Int):Option WX:=
 cr N a6 a1 a2 a3 p7 N a0 a1
def bT (N:Nat)(a7:WX->Int->Int->Int->Option WX)(a1 a2 a3:Int)(a0:WX):Nat->Int->Int->Option WX
 |0,_,_=>none
 |m8+1,p9,a6=>bif decide (p9<a6) then (aL (in64 (p9+a6)) ((aq a0 (IntKind.i64.wrap ((IntKind.u64.wrap (p9+a6)).fdiv (2 ^ 1)))).bind fun a8=>(aq a0 a1).bind fun b0=>(nv N a8 b0).bind fun b5=>bif decide (b5<0) then (aL (in64 ((IntKind.i64.wrap ((IntKind.u64.wrap (p9+a6)).fdiv (2 ^ 1)))+1)) ((bT N a7 a1 a2 a3 a0 m8) ((IntKind.i64.wrap ((IntKind.u64.wrap (p9+a6)).fdiv (2 ^ 1)))+1) a6)) else ((bT N a7 a1 a2 a3 a0 m8) p9 (IntKind.i64.wrap ((IntKind.u64.wrap (p9+a6)).fdiv (2 ^ 1)))))) else (fU N a7 a1 a2 a3 a0 p9)
def ak (N:Nat):Nat->WX->Int->Int->Int->Option WX
 |0,_,_,_,_=>none
 |m2+1,a0,a1,a2,a3=>aL (in64 (a2 - a1)) (bif decide (a2 - a1=1) then (bT N (ak N m2) a1 a2 a3 a0 N a2 a3) else (dx N (ak N m2) a1 a2 a3 a0))
theorem ke {N m2:Nat}{a0:WX}{a2:Int}:ak N (m2+1) a0 a1 a2 a3=aL (in64 (a2 - a1)) (bif decide (a2 - a1=1) then (bT N (ak N m2) a1 a2 a3 a0 N a2 a3) else (dx N (ak N m2) a1 a2 a3 a0)):=rfl
def bn (a0:WX)(a1 a2 a3:Int):Option WX:=ak N N a0 a1 a2 a3
theorem pU {N:Nat}: ∀(m0:Nat) {a0:WX} {a1:Int} {a2:Int} {a3:Int} {r:WX} (h:ak N m0 a0 a1 a2 a3=some r) {A1:Option Addr} {n1 c1:Nat},Okc Xa 173 [W A1 n1 c1,iV a1,iV a2,iV a3,.func (.func 91) #[] #[]] ([nE A1 n1 c1 a0]) (fun u post=>u=.tuple #[]/\post=[nE A1 n1 c1 r]):=by
 intro m0
 induction m0 with
 |zero=>intro a0 a1 a2 a3 r h A1 n1 c1;exact aJ h
 | succ m2 ih=>
  intro a0 a1 a2 a3 r h A1 n1 c1;rw [ke] at h;refine CJ Tryz.func173 J J ?_;simp only [qQ];refine am (fun s L=>dx N (ak N m2) a1 a2 a3 a0=some r/\s=[(0,W A1 n1 c1),(1,iV a1),(2,iV a2),(3,iV a3),(4,.func (.func 91) #[] #[])]/\L=[nE A1 n1 c1 a0]) ?_ ?_
  ·refine ab ?_;obtain ⟨q4,h⟩:=ae h;refine dv h ?_ ?_<;>intro h
   ·refine ab ?_;refine am (fun s L=> ∃p7,fU N (ak N m2) a1 a2 a3 a0 p7=some r/\s=[(0,W A1 n1 c1),(1,iV a1),(2,iV a2),(3,iV a3),(4,.func (.func 91) #[] #[]),(10,iV p7)]/\L=[nE A1 n1 c1 a0]) ?_ ?_
    ·refine ab ?_;refine lK (fun m s L=> ∃(p9:Int) (e2:Int),bT N (ak N m2) a1 a2 a3 a0 m p9 e2=some r/\s=[(0,W A1 n1 c1),(1,iV a1),(2,iV a2),(3,iV a3),(4,.func (.func 91) #[] #[]),(10,iV p9),(11,iV e2)]/\L=[nE A1 n1 c1 a0]) N ?_;rintro m8 _ _ ⟨p9,e2,h,rfl,rfl⟩;rw [bT.eq_2] at h;refine sZ ?_;refine gH J h ?_ ?_<;>intro h
     ·refine ab ?_;obtain ⟨j4,h⟩:=ae h;refine ab ?_;refine gE (wV J J Wt) ?_;refine gE (Im (v:=(IntKind.u64.wrap (p9+e2)).fdiv (2 ^ 1)) J J (fun _=>J)) ?_;refine fY (wV J J Wp) ?_;refine dY [] ?_;refine ab ?_;obtain ⟨j5,h6,h7,h8,h⟩:=bz h;refine ab ?_;obtain ⟨j6,h9,i0,i1,h⟩:=bz h;refine ab ?_;obtain ⟨j7,k,h⟩:=aa h;refine zD 9 J (lm (sR k) J J J (au) qt) ?_;rintro _ _ ⟨_,⟨rfl,rfl⟩,rfl⟩;refine ⟨_,ad _,ad _,?_⟩;refine dv h ?_ ?_<;>intro h
      ·refine ab ?_;obtain ⟨j8,h⟩:=ae h;exact lY
      exact lY
     exact jY
    rintro _ _ ⟨p7,h,rfl,rfl⟩;refine sZ ?_;refine lK (fun m s L=> ∃(e3:WX) (a6:Int),cr N (ak N m2) a1 a2 a3 p7 m e3 a6=some r/\s=[(0,W A1 n1 c1),(1,iV a1),(2,iV a2),(3,iV a3),(4,.func (.func 91) #[] #[]),(10,iV p7),(13,iV a6)]/\L=[nE A1 n1 c1 e3]) N ?_;rintro j9 _ _ ⟨e3,a6,h,rfl,rfl⟩;rw [cr.eq_2] at h;refine sZ ?_;obtain ⟨k0,h⟩:=ae h;refine dv h ?_ ?_<;>intro h
    ·refine sY ?_;obtain ⟨e4,h⟩:=ae h;obtain ⟨h4,h⟩:=ae h;obtain ⟨a7,f1,f2,f3,h⟩:=bz h;obtain ⟨a8,f4,f6,f9,h⟩:=bz h;refine gw (t:=[(0,W A1 n1 c1),(1,iV a1),(2,iV a2),(3,iV a3),(4,.func (.func 91) #[] #[]),(10,iV p7),(13,iV a6)]) ?_ mh (ad _)
     refine iW O 14 [2,3,4] [0,1,2,4,9,13] [61,62,63,64,65,66,67,68,69,70,71,72,73,74] [[],[],[],[],[3],[],[],[6],[5,7],[8],[],[],[10,11],[12]] [aV (W A1 n1 c1),
aV (iV a6),
aV (W A1 n1 c1),
aV (iV a6),
aV (iV (a6+1)),
aV (W A1 n1 c1),
aV (iV a6),
aV (iV (a6+1)),
aV (dF (W A1 n1 c1) ((a6+1).toNat) 3 0),
aV (.agg #[iV a7.Za,iV a7.N,.string a7.S]),
aV (W A1 n1 c1),
aV (iV a6),
aV (dF (W A1 n1 c1) a6.toNat 3 0),
aV (.agg #[iV a8.Za,iV a8.N,.string a8.S])] [] (ad _) (fA rfl (fA rfl (fA rfl mc))) O rfl rfl ?_ ?_ ?_
     ·refine fz J ?_ ?_
      ·exact nD (ap J) J (iL J (ad _))
      refine fz J ?_ ?_
      ·exact nD (ap J) J (iL J (ad _))
      refine fz J ?_ ?_
      ·exact nD (iz J J e4.1 e4.2) J (iL J (ad _))
      exact mb
     ·refine aF J ?_ ?_
      ·exact yE (ee (us:=[iV a8.Za,iV a8.N,.string a8.S]) 0 J ao J f9 agg39.out (fun _ _ _ h=>by rw [show _=_ from h];rfl)) J (iL J (ad _))
      refine qR (cM 0 J ao J J Wj size39.out f4 f6) ?_;refine qE (ap J) ?_;refine qE (ap J) ?_;refine aF J ?_ ?_
      ·exact yE (ee (us:=[iV a7.Za,iV a7.N,.string a7.S]) 0 J ao J f3 agg39.out (fun _ _ _ h=>by rw [show _=_ from h];rfl)) J (iL J (ad _))
      refine qR (cM 0 J ao J J Wj size39.out f1 f2) ?_;refine qE (iz J J h4.1 h4.2) ?_;refine qE (ap J) ?_;refine qE (ap J) ?_;refine qE (iz J J e4.1 e4.2) ?_;refine qE (ap J) ?_;refine qE (ap J) ?_;refine qE (ap J) ?_;refine qE (ap J) ?_;exact dH
     refine oe (t:=[(61,W A1 n1 c1),(62,iV a6),(63,W A1 n1 c1),(65,iV (a6+1)),(70,.agg #[iV a7.Za,iV a7.N,.string a7.S]),(74,.agg #[iV a8.Za,iV a8.N,.string a8.S]),(0,W A1 n1 c1),(1,iV a1),(2,iV a2),(3,iV a3),(4,.func (.func 91) #[] #[]),(10,iV p7),(13,iV a6)]) (L':=[nE A1 n1 c1 e3]) ?_ mh (ad _);obtain ⟨k1,d0,d1,g0,h⟩:=bz h;refine J4 14 J O (cM 0 J ao J J Wj size39.out d0 d1) J J J ?_;refine pO 15 J O (cg (us:=[iV a7.Za,iV a7.N,.string a7.S]) (z:=(⟨a7.Za,a7.N,a7.S⟩:WL)) 0 J J J J size39.out J (toNat_lt d0 d1) J (fun S w vs xk hk hr ho=>by obtain rfl:=YM (hk.symm.trans g0);rw [show _=_ from hr];rfl)) J J ?_;rintro _ _ rfl;refine zW ?_;obtain ⟨k2,d2,d3,g1,h⟩:=bz h;refine J4 16 J O (cM 0 J ao J J Wj size39.out d2 d3) J J J ?_;refine pO 17 J O (cg (us:=[iV a8.Za,iV a8.N,.string a8.S]) (z:=(⟨a8.Za,a8.N,a8.S⟩:WL)) 0 J J J J size39.out J (toNat_lt d2 d3) J (fun S w vs xk hk hr ho=>by obtain rfl:=YM (hk.symm.trans g1);rw [show _=_ from hr];rfl)) J J ?_;rintro _ _ rfl;refine zW ?_;refine mg O ?_;refine ab ?_;obtain ⟨k3,h⟩:=ae h;exact lY
    exact eY
   exact jY
  rintro _ _ ⟨h,rfl,rfl⟩;refine am (fun s L=>dm N (ak N m2) a1 a2 a3 a0=some r/\s=[(0,W A1 n1 c1),(1,iV a1),(2,iV a2),(3,iV a3),(4,.func (.func 91) #[] #[])]/\L=[nE A1 n1 c1 a0]) ?_ ?_
  ·refine ab ?_;obtain ⟨k4,h⟩:=ae h;refine dv h ?_ ?_<;>intro h
   ·refine ab ?_;refine am (fun s L=> ∃b9,fk N (ak N m2) a1 a2 a3 a0 b9=some r/\s=[(0,W A1 n1 c1),(1,iV a1),(2,iV a2),(3,iV a3),(4,.func (.func 91) #[] #[]),(14,iV b9)]/\L=[nE A1 n1 c1 a0]) ?_ ?_
    ·refine ab ?_;refine lK (fun m s L=> ∃(e5:Int) (e6:Int),cq N (ak N m2) a1 a2 a3 a0 m e5 e6=some r/\s=[(0,W A1 n1 c1),(1,iV a1),(2,iV a2),(3,iV a3),(4,.func (.func 91) #[] #[]),(14,iV e5),(15,iV e6)]/\L=[nE A1 n1 c1 a0]) N ?_;rintro k5 _ _ ⟨e5,e6,h,rfl,rfl⟩;rw [cq.eq_2] at h;refine sZ ?_;refine gH J h ?_ ?_<;>intro h
     ·refine ab ?_;obtain ⟨k6,h⟩:=ae h;refine ab ?_;refine gE (wV J J Wt) ?_;refine gE (Im (v:=(IntKind.u64.wrap (e5+e6)).fdiv (2 ^ 1)) J J (fun _=>J)) ?_;refine fY (wV J J Wp) ?_;refine dY [] ?_;refine ab ?_;obtain ⟨k7,i2,i3,i4,h⟩:=bz h;refine ab ?_;obtain ⟨k8,i5,i6,i7,h⟩:=bz h;refine ab ?_;obtain ⟨k9,k,h⟩:=aa h;refine zD 9 J (lm (sR k) J J J (au) qt) ?_;rintro _ _ ⟨_,⟨rfl,rfl⟩,rfl⟩;refine ⟨_,ad _,ad _,?_⟩;refine dv h ?_ ?_<;>intro h
      ·refine ab ?_;obtain ⟨l0,h⟩:=ae h;exact lY
      exact lY
     exact jY
    rintro _ _ ⟨b9,h,rfl,rfl⟩;refine sZ ?_;refine lK (fun m s L=> ∃(e7:WX) (b0:Int),cp N (ak N m2) a1 a2 a3 b9 m e7 b0=some r/\s=[(0,W A1 n1 c1),(1,iV a1),(2,iV a2),(3,iV a3),(4,.func (.func 91) #[] #[]),(14,iV b9),(17,iV b0)]/\L=[nE A1 n1 c1 e7]) N ?_;rintro l1 _ _ ⟨e7,b0,h,rfl,rfl⟩;rw [cp.eq_2] at h;refine sZ ?_;refine gH J h ?_ ?_<;>intro h
    ·refine sY ?_;obtain ⟨e8,h⟩:=ae h;obtain ⟨h5,h⟩:=ae h;obtain ⟨b5,g2,g3,g4,h⟩:=bz h;obtain ⟨b6,g5,g6,g7,h⟩:=bz h;refine gw (t:=[(0,W A1 n1 c1),(1,iV a1),(2,iV a2),(3,iV a3),(4,.func (.func 91) #[] #[]),(14,iV b9),(17,iV b0)]) ?_ mh (ad _)
     refine iW O 14 [2,3,4] [0,1,2,4,9,13] [113,114,115,116,117,118,119,120,121,122,123,124,125,126] [[],[],[],[],[3],[],[],[6],[5,7],[8],[],[],[10,11],[12]] [aV (W A1 n1 c1),
aV (iV b0),
aV (W A1 n1 c1),
aV (iV b0),
aV (iV (b0 - 1)),
aV (W A1 n1 c1),
aV (iV b0),
aV (iV (b0 - 1)),
aV (dF (W A1 n1 c1) ((b0 - 1).toNat) 3 0),
aV (.agg #[iV b5.Za,iV b5.N,.string b5.S]),
aV (W A1 n1 c1),
aV (iV b0),
aV (dF (W A1 n1 c1) b0.toNat 3 0),
aV (.agg #[iV b6.Za,iV b6.N,.string b6.S])] [] (ad _) (fA rfl (fA rfl (fA rfl mc))) O rfl rfl ?_ ?_ ?_
     ·refine fz J ?_ ?_
      ·exact nD (ap J) J (iL J (ad _))
      refine fz J ?_ ?_
      ·exact nD (ap J) J (iL J (ad _))
      refine fz J ?_ ?_
      ·exact nD (wD J J e8.1 e8.2) J (iL J (ad _))
      exact mb
     ·refine aF J ?_ ?_
      ·exact yE (ee (us:=[iV b6.Za,iV b6.N,.string b6.S]) 0 J ao J g7 agg39.out (fun _ _ _ h=>by rw [show _=_ from h];rfl)) J (iL J (ad _))
      refine qR (cM 0 J ao J J Wj size39.out g5 g6) ?_;refine qE (ap J) ?_;refine qE (ap J) ?_;refine aF J ?_ ?_
      ·exact yE (ee (us:=[iV b5.Za,iV b5.N,.string b5.S]) 0 J ao J g4 agg39.out (fun _ _ _ h=>by rw [show _=_ from h];rfl)) J (iL J (ad _))
      refine qR (cM 0 J ao J J Wj size39.out g2 g3) ?_;refine qE (wD J J h5.1 h5.2) ?_;refine qE (ap J) ?_;refine qE (ap J) ?_;refine qE (wD J J e8.1 e8.2) ?_;refine qE (ap J) ?_;refine qE (ap J) ?_;refine qE (ap J) ?_;refine qE (ap J) ?_;exact dH
     refine oe (t:=[(113,W A1 n1 c1),(114,iV b0),(115,W A1 n1 c1),(117,iV (b0 - 1)),(122,.agg #[iV b5.Za,iV b5.N,.string b5.S]),(126,.agg #[iV b6.Za,iV b6.N,.string b6.S]),(0,W A1 n1 c1),(1,iV a1),(2,iV a2),(3,iV a3),(4,.func (.func 91) #[] #[]),(14,iV b9),(17,iV b0)]) (L':=[nE A1 n1 c1 e7]) ?_ mh (ad _);obtain ⟨l2,d4,d6,g8,h⟩:=bz h;refine J4 14 J O (cM 0 J ao J J Wj size39.out d4 d6) J J J ?_;refine pO 15 J O (cg (us:=[iV b5.Za,iV b5.N,.string b5.S]) (z:=(⟨b5.Za,b5.N,b5.S⟩:WL)) 0 J J J J size39.out J (toNat_lt d4 d6) J (fun S w vs xk hk hr ho=>by obtain rfl:=YM (hk.symm.trans g8);rw [show _=_ from hr];rfl)) J J ?_;rintro _ _ rfl;refine zW ?_;obtain ⟨l3,e0,e1,g9,h⟩:=bz h;refine J4 16 J O (cM 0 J ao J J Wj size39.out e0 e1) J J J ?_;refine pO 17 J O (cg (us:=[iV b6.Za,iV b6.N,.string b6.S]) (z:=(⟨b6.Za,b6.N,b6.S⟩:WL)) 0 J J J J size39.out J (toNat_lt e0 e1) J (fun S w vs xk hk hr ho=>by obtain rfl:=YM (hk.symm.trans g9);rw [show _=_ from hr];rfl)) J J ?_;rintro _ _ rfl;refine zW ?_;refine mg O ?_;refine ab ?_;obtain ⟨l4,h⟩:=ae h;exact lY
    exact eY
   exact jY
  rintro _ _ ⟨h,rfl,rfl⟩;refine ab ?_;obtain ⟨l5,h⟩:=ae h;refine ab ?_;refine gE (wV J J Wt) ?_;refine gE (Im (v:=(IntKind.u64.wrap (a1+a3)).fdiv (2 ^ 1)) J J (fun _=>J)) ?_;refine fY (wV J J Wp) ?_;obtain ⟨l6,h⟩:=ae h;refine ab ?_;refine am (fun s L=> ∃h0 h1,dl N (ak N m2) a1 a2 a3 a0 h0 h1=some r/\s=[(0,W A1 n1 c1),(1,iV a1),(2,iV a2),(3,iV a3),(4,.func (.func 91) #[] #[]),(18,iV (IntKind.i64.wrap ((IntKind.u64.wrap (a1+a3)).fdiv (2 ^ 1)))),(19,iV ((IntKind.i64.wrap ((IntKind.u64.wrap (a1+a3)).fdiv (2 ^ 1)))+a2)),(20,iV h0),(21,iV h1)]/\L=[nE A1 n1 c1 a0]) ?_ ?_
  ·refine dv h ?_ ?_<;>intro h
   ·refine ab ?_;obtain ⟨l7,h⟩:=ae h;exact jY
   exact jY
  rintro _ _ ⟨h0,h1,h,rfl,rfl⟩;refine ab ?_;obtain ⟨l8,h⟩:=ae h;refine ab ?_;refine am (fun s L=> ∃b7,dk N (ak N m2) a1 a2 a3 a0 b7=some r/\s=[(0,W A1 n1 c1),(1,iV a1),(2,iV a2),(3,iV a3),(4,.func (.func 91) #[] #[]),(18,iV (IntKind.i64.wrap ((IntKind.u64.wrap (a1+a3)).fdiv (2 ^ 1)))),(19,iV ((IntKind.i64.wrap ((IntKind.u64.wrap (a1+a3)).fdiv (2 ^ 1)))+a2)),(20,iV b7)]/\L=[nE A1 n1 c1 a0]) ?_ ?_
  ·refine ab ?_;refine lK (fun m s L=> ∃(e9:Int) (f0:Int),co N (ak N m2) a1 a2 a3 a0 m e9 f0=some r/\s=[(0,W A1 n1 c1),(1,iV a1),(2,iV a2),(3,iV a3),(4,.func (.func 91) #[] #[]),(18,iV (IntKind.i64.wrap ((IntKind.u64.wrap (a1+a3)).fdiv (2 ^ 1)))),(19,iV ((IntKind.i64.wrap ((IntKind.u64.wrap (a1+a3)).fdiv (2 ^ 1)))+a2)),(20,iV e9),(21,iV f0),(22,iV (((IntKind.i64.wrap ((IntKind.u64.wrap (a1+a3)).fdiv (2 ^ 1)))+a2) - 1))]/\L=[nE A1 n1 c1 a0]) N ?_;rintro l9 _ _ ⟨e9,f0,h,rfl,rfl⟩;rw [co.eq_2] at h;refine sZ ?_;refine gH J h ?_ ?_<;>intro h
   ·refine ab ?_;obtain ⟨m1,h⟩:=ae h;refine ab ?_;refine gE (wV J J Wt) ?_;refine gE (Im (v:=(IntKind.u64.wrap (e9+f0)).fdiv (2 ^ 1)) J J (fun _=>J)) ?_;refine fY (wV J J Wp) ?_;refine dY [] ?_;refine ab ?_;obtain ⟨m3,h⟩:=ae h;refine ab ?_;obtain ⟨m4,i8,i9,j0,h⟩:=bz h;refine ab ?_;obtain ⟨m5,j1,j2,j3,h⟩:=bz h;refine ab ?_;obtain ⟨m6,k,h⟩:=aa h;refine zD 11 J (lm (sR k) J J J (au) qt) ?_;rintro _ _ ⟨_,⟨rfl,rfl⟩,rfl⟩;refine ⟨_,ad _,ad _,?_⟩;refine dv h ?_ ?_<;>intro h
    ·refine ab ?_;obtain ⟨m7,h⟩:=ae h;exact lY
    exact lY
   exact jY
  rintro _ _ ⟨b7,h,rfl,rfl⟩;refine ab ?_;obtain ⟨m9,h⟩:=ae h;refine ab ?_;refine am (fun s L=> ∃h2,cx N (ak N m2) a1 a3 b7 a2 h2=some r/\s=[(0,W A1 n1 c1),(1,iV a1),(3,iV a3),(4,.func (.func 91) #[] #[]),(18,iV (IntKind.i64.wrap ((IntKind.u64.wrap (a1+a3)).fdiv (2 ^ 1)))),(20,iV b7),(24,iV (((IntKind.i64.wrap ((IntKind.u64.wrap (a1+a3)).fdiv (2 ^ 1)))+a2) - b7))]/\L=[nE A1 n1 c1 h2]) ?_ ?_
  ·refine ab ?_;refine gS 4 185 181 h ?_;intro n0 h;refine dv h ?_ ?_<;>intro h
   ·refine cC h (fun _ k=>rQ k) fun o0 h=> ?_
    exact jN
   exact jY
  rintro _ _ ⟨h2,h,rfl,rfl⟩;refine am (fun s L=> ∃h3,cu N (ak N m2) a3 a1 a2 b7 h3=some r/\s=[(0,W A1 n1 c1),(3,iV a3),(4,.func (.func 91) #[] #[]),(18,iV (IntKind.i64.wrap ((IntKind.u64.wrap (a1+a3)).fdiv (2 ^ 1)))),(24,iV (((IntKind.i64.wrap ((IntKind.u64.wrap (a1+a3)).fdiv (2 ^ 1)))+a2) - b7))]/\L=[nE A1 n1 c1 h3]) ?_ ?_
  ·refine ab ?_;refine gS 4 199 195 h ?_;intro o1 h;refine dv h ?_ ?_<;>intro h
   ·refine cC h (fun _ k=>ih k) fun o2 h=> ?_
    exact jN
   exact jY
  rintro _ _ ⟨h3,h,rfl,rfl⟩;refine ab ?_;refine gS 4 213 209 h ?_;intro p1 h;refine dv h ?_ ?_<;>intro h
  ·refine cC h (fun _ k=>ih k) fun p2 h=> ?_
   exact eN
  exact eY
theorem bS {N:Nat}{a0:WX}{a2:Int}{r:WX}(h:bn N a0 a1 a2 a3=some r):Okc Xa 173 [W A1 n1 c1,iV a1,iV a2,iV a3,.func (.func 91) #[] #[]] ([nE A1 n1 c1 a0]) (fun u post=>u=.tuple #[]/\post=[nE A1 n1 c1 r]):=pU N h
def gi (N:Nat)(a6:WX->Int->Option WX)(a1 a7:Int)(a8:WX):Option WX:=
 aL (in64 (a7*2)) (a6 a8 (a7*2))
def qX (a6:WX->Int->Option WX)(a1 a7:Int)(p15:WX):Option WX:=
 aL (in64 (0+a7)) (bif decide (0+a7<a1) then ((bn N p15 0 (0+a7) a1).bind fun a8=>gi N a6 a1 a7 a8) else (gi N a6 a1 a7 p15))
def gg (N:Nat)(a6:WX->Int->Option WX)(a1 a7:Int)(a8:WX):Option WX:=
 aL (in64 (a7*2)) (a6 a8 (a7*2))
def lb (a6:WX->Int->Option WX)(a1 a7:Int)(p21:WX)(a8:Int):Option WX:=
 aL (in64 (a8+a7)) (bif decide (a8+a7<a1) then ((bn N p21 a8 (a8+a7) a1).bind fun b0=>gg N a6 a1 a7 b0) else (gg N a6 a1 a7 p21))
def ga (N:Nat)(a7:WX->Int->Option WX)(a1 a6:Int):Nat->WX->Int->Int->Option WX
 |0,_,_,_=>none
 |b6+1,b5,b0,a8=>bif decide (a8<=a1) then (aL (in64 (b0+a6)) ((bn N b5 b0 (b0+a6) a8).bind fun b7=>aL (in64 (2*a6)) (aL (in64 (a8+(2*a6))) ((ga N a7 a1 a6 b6) b7 a8 (a8+(2*a6)))))) else (lb N a7 a1 a6 b5 b0)
def bp (N:Nat)(a1:Int):Nat->WX->Int->Option WX
 |0,_,_=>none
 |a7+1,p15,a6=>bif decide (a6<a1) then (aL (in64 (2*a6)) (ga N (bp N a1 a7) a1 a6 N p15 0 (2*a6))) else (some p15)
def rP (a1:Int)(a0:WX):Option WX:=
 (bE N a0 0 a1).bind fun a6=>bp N a1 N a6 20
def gb (N:Nat)(a6:WX->Int->Option WX)(a1 a7:Int)(a8:WX):Option WX:=
 aL (in64 (a7*2)) (a6 a8 (a7*2))
def qW (a6:WX->Int->Option WX)(a1 a7:Int)(a8:WX):Option WX:=
 aL (in64 (0+a7)) (bif decide (0+a7<a1) then ((bn N a8 0 (0+a7) a1).bind fun b0=>gb N a6 a1 a7 b0) else (gb N a6 a1 a7 a8))
def dJ (N:Nat)(a6:WX->Int->Option WX)(a1 a7:Int)(a8:WX):Option WX:=
 aL (in64 (a7*2)) (a6 a8 (a7*2))
def ge (a6:WX->Int->Option WX)(a1 a7:Int)(b0:WX)(a8:Int):Option WX:=
 aL (in64 (a8+a7)) (bif decide (a8+a7<a1) then ((bn N b0 a8 (a8+a7) a1).bind fun b5=>dJ N a6 a1 a7 b5) else (dJ N a6 a1 a7 b0))
def dI (N:Nat)(a7:WX->Int->Option WX)(a1 a6:Int):Nat->WX->Int->Int->Option WX
 |0,_,_,_=>none
 |b6+1,b5,b0,a8=>bif decide (a8<=a1) then (aL (in64 (b0+a6)) ((bn N b5 b0 (b0+a6) a8).bind fun b7=>aL (in64 (2*a6)) (aL (in64 (a8+(2*a6))) ((dI N a7 a1 a6 b6) b7 a8 (a8+(2*a6)))))) else (ge N a7 a1 a6 b5 b0)
def aG (N:Nat)(a1:Int):Nat->WX->Int->Option WX
 |0,_,_=>none
 |a8+1,a7,a6=>bif decide (a6<a1) then (aL (in64 (2*a6)) (dI N (aG N a1 a8) a1 a6 N a7 0 (2*a6))) else (some a7)
def gL (a1:Int)(p4:WX)(p5:Int):Option WX:=
 (bE N p4 p5 a1).bind fun a6=>aG N a1 N a6 20
def dU (N:Nat)(a1:Int):Nat->WX->Int->Int->Option WX
 |0,_,_,_=>none
 |m6+1,p7,p8,p9=>bif decide (p9<=a1) then ((bE N p7 p8 p9).bind fun a6=>aL (in64 (p9+20)) ((dU N a1 m6) a6 p9 (p9+20))) else (gL N a1 p7 p8)
def ip (a0:WX)(a1:Int):Option WX:=
 dU N a1 N a0 0 20
theorem rO {N:Nat}{a0 r:WX}(h:ip N a0 a1=some r):Okc Xa 131 [W A1 n1 c1,iV a1,.func (.func 91) #[] #[]] ([nE A1 n1 c1 a0]) (fun u post=>u=.tuple #[]/\post=[nE A1 n1 c1 r]):=by
 refine ce Tryz.func131 ?_;refine am (fun s L=>(rP N a1 a0=some r/\s=[(0,W A1 n1 c1),(1,iV a1),(2,.func (.func 91) #[] #[]),(6,iV 20),(7,iV 0)]/\L=[nE A1 n1 c1 a0])\/(∃p4 p5,gL N a1 p4 p5=some r/\s=[(0,W A1 n1 c1),(1,iV a1),(2,.func (.func 91) #[] #[]),(6,iV 20),(7,iV p5)]/\L=[nE A1 n1 c1 p4])) ?_ ?_
 ·refine ab ?_;refine lK (fun m s L=> ∃(p7:WX) (p8:Int) (p9:Int),dU N a1 m p7 p8 p9=some r/\s=[(0,W A1 n1 c1),(1,iV a1),(2,.func (.func 91) #[] #[]),(6,iV 20),(7,iV p8),(8,iV p9)]/\L=[nE A1 n1 c1 p7]) N ?_;rintro m6 _ _ ⟨p7,p8,p9,h,rfl,rfl⟩;rw [dU.eq_2] at h;refine sZ ?_;refine gH J h ?_ ?_<;>intro h
  ·refine cC h (fun _ k=>dN k) fun f2 h=> ?_
   obtain ⟨f3,h⟩:=ae h;exact lY
  refine ab ?_;exact ⟨_,_,.inr (⟨p7,p8,h,J,J⟩),sA,cS [0] 1⟩
 rintro _ _ (⟨h,rfl,rfl⟩|⟨p4,p5,h,rfl,rfl⟩)
 ·refine cC h (fun _ k=>dN k) fun f4 h=> ?_
  refine lK (fun m s L=> ∃(p15:WX) (a6:Int),bp N a1 m p15 a6=some r/\s=[(0,W A1 n1 c1),(1,iV a1),(2,.func (.func 91) #[] #[]),(6,iV a6)]/\L=[nE A1 n1 c1 p15]) N ?_;rintro a8 _ _ ⟨p15,a6,h,rfl,rfl⟩;rw [bp.eq_2] at h;refine sZ ?_;refine gH J h ?_ ?_<;>intro h
  ·refine ab ?_;obtain ⟨e4,h⟩:=ae h;refine fY (rp J J e4.1 e4.2) ?_;refine am (fun s L=>(qX N (bp N a1 a8) a1 a6 p15=some r/\s=[(0,W A1 n1 c1),(1,iV a1),(2,.func (.func 91) #[] #[]),(6,iV a6),(7,iV 0)]/\L=[nE A1 n1 c1 p15])\/(∃p21 d1,lb N (bp N a1 a8) a1 a6 p21 d1=some r/\s=[(0,W A1 n1 c1),(1,iV a1),(2,.func (.func 91) #[] #[]),(6,iV a6),(7,iV d1)]/\L=[nE A1 n1 c1 p21])) ?_ ?_
   ·refine ab ?_;refine lK (fun m s L=> ∃(b6:WX) (b7:Int) (d2:Int),ga N (bp N a1 a8) a1 a6 m b6 b7 d2=some r/\s=[(0,W A1 n1 c1),(1,iV a1),(2,.func (.func 91) #[] #[]),(6,iV a6),(7,iV b7),(8,iV d2)]/\L=[nE A1 n1 c1 b6]) N ?_;rintro f6 _ _ ⟨b6,b7,d2,h,rfl,rfl⟩;rw [ga.eq_2] at h;refine sZ ?_;refine gH J h ?_ ?_<;>intro h
    ·refine ab ?_;obtain ⟨f9,h⟩:=ae h
     refine cC h (fun _ k=>bS k) fun g0 h=> ?_
     obtain ⟨e5,h⟩:=ae h;refine gE (rp J J e5.1 e5.2) ?_;obtain ⟨g1,h⟩:=ae h;exact lY
    refine ab ?_;exact ⟨_,_,.inr (⟨b6,b7,h,J,J⟩),sA,cS [0] 1⟩
   rintro _ _ (⟨h,rfl,rfl⟩|⟨p21,d1,h,rfl,rfl⟩)
   ·refine am (fun s L=> ∃d3,gi N (bp N a1 a8) a1 a6 d3=some r/\s=[(0,W A1 n1 c1),(1,iV a1),(2,.func (.func 91) #[] #[]),(6,iV a6)]/\L=[nE A1 n1 c1 d3]) ?_ ?_
    ·refine ab ?_;obtain ⟨g2,h⟩:=ae h;refine dv h ?_ ?_<;>intro h
     ·refine cC h (fun _ k=>bS k) fun g3 h=> ?_
      exact jN
     exact jY
    rintro _ _ ⟨d3,h,rfl,rfl⟩;refine ab ?_;obtain ⟨e6,h⟩:=ae h;refine fY (rp J J e6.1 e6.2) ?_;exact lN
   refine am (fun s L=> ∃d4,gg N (bp N a1 a8) a1 a6 d4=some r/\s=[(0,W A1 n1 c1),(1,iV a1),(2,.func (.func 91) #[] #[]),(6,iV a6)]/\L=[nE A1 n1 c1 d4]) ?_ ?_
   ·refine ab ?_;obtain ⟨g4,h⟩:=ae h;refine dv h ?_ ?_<;>intro h
    ·refine cC h (fun _ k=>bS k) fun g5 h=> ?_
     exact jN
    exact jY
   rintro _ _ ⟨d4,h,rfl,rfl⟩;refine ab ?_;obtain ⟨e7,h⟩:=ae h;refine fY (rp J J e7.1 e7.2) ?_;exact lN
  exact eY
 refine cC h (fun _ k=>dN k) fun g6 h=> ?_
 refine lK (fun m s L=> ∃(b0:WX) (a7:Int),aG N a1 m b0 a7=some r/\s=[(0,W A1 n1 c1),(1,iV a1),(2,.func (.func 91) #[] #[]),(6,iV a7)]/\L=[nE A1 n1 c1 b0]) N ?_;rintro b5 _ _ ⟨b0,a7,h,rfl,rfl⟩;rw [aG.eq_2] at h;refine sZ ?_;refine gH J h ?_ ?_<;>intro h
 ·refine ab ?_;obtain ⟨e8,h⟩:=ae h;refine fY (rp J J e8.1 e8.2) ?_;refine am (fun s L=>(qW N (aG N a1 b5) a1 a7 b0=some r/\s=[(0,W A1 n1 c1),(1,iV a1),(2,.func (.func 91) #[] #[]),(6,iV a7),(7,iV 0)]/\L=[nE A1 n1 c1 b0])\/(∃d6 e0,ge N (aG N a1 b5) a1 a7 d6 e0=some r/\s=[(0,W A1 n1 c1),(1,iV a1),(2,.func (.func 91) #[] #[]),(6,iV a7),(7,iV e0)]/\L=[nE A1 n1 c1 d6])) ?_ ?_
  ·refine ab ?_;refine lK (fun m s L=> ∃(b9:WX) (d0:Int) (e1:Int),dI N (aG N a1 b5) a1 a7 m b9 d0 e1=some r/\s=[(0,W A1 n1 c1),(1,iV a1),(2,.func (.func 91) #[] #[]),(6,iV a7),(7,iV d0),(8,iV e1)]/\L=[nE A1 n1 c1 b9]) N ?_;rintro g7 _ _ ⟨b9,d0,e1,h,rfl,rfl⟩;rw [dI.eq_2] at h;refine sZ ?_;refine gH J h ?_ ?_<;>intro h
   ·refine ab ?_;obtain ⟨g8,h⟩:=ae h
    refine cC h (fun _ k=>bS k) fun g9 h=> ?_
    obtain ⟨e9,h⟩:=ae h;refine gE (rp J J e9.1 e9.2) ?_;obtain ⟨h0,h⟩:=ae h;exact lY
   refine ab ?_;exact ⟨_,_,.inr (⟨b9,d0,h,J,J⟩),sA,cS [0] 1⟩
  rintro _ _ (⟨h,rfl,rfl⟩|⟨d6,e0,h,rfl,rfl⟩)
  ·refine am (fun s L=> ∃e2,gb N (aG N a1 b5) a1 a7 e2=some r/\s=[(0,W A1 n1 c1),(1,iV a1),(2,.func (.func 91) #[] #[]),(6,iV a7)]/\L=[nE A1 n1 c1 e2]) ?_ ?_
   ·refine ab ?_;obtain ⟨h1,h⟩:=ae h;refine dv h ?_ ?_<;>intro h
    ·refine cC h (fun _ k=>bS k) fun h2 h=> ?_
     exact jN
    exact jY
   rintro _ _ ⟨e2,h,rfl,rfl⟩;refine ab ?_;obtain ⟨f0,h⟩:=ae h;refine fY (rp J J f0.1 f0.2) ?_;exact lN
  refine am (fun s L=> ∃e3,dJ N (aG N a1 b5) a1 a7 e3=some r/\s=[(0,W A1 n1 c1),(1,iV a1),(2,.func (.func 91) #[] #[]),(6,iV a7)]/\L=[nE A1 n1 c1 e3]) ?_ ?_
  ·refine ab ?_;obtain ⟨h3,h⟩:=ae h;refine dv h ?_ ?_<;>intro h
   ·refine cC h (fun _ k=>bS k) fun h4 h=> ?_
    exact jN
   exact jY
  rintro _ _ ⟨e3,h,rfl,rfl⟩;refine ab ?_;obtain ⟨f1,h⟩:=ae h;refine fY (rp J J f1.1 f1.2) ?_;exact lN
 exact eY
def dV (a0:WX):Option WX:=
 (ip N a0 (a0.length:Int)).bind fun y2=>some y2
theorem qY {N:Nat}{a0 r:WX}(h:dV N a0=some r):Okc Xa 90 [W A1 n1 c1,.func (.func 91) #[] #[]] ([nE A1 n1 c1 a0]) (fun u post=>u=.tuple #[]/\post=[nE A1 n1 c1 r]):=by
 refine ce Tryz.func90 ?_
 refine cC h (fun _ k=>rO k) fun y2 h=> ?_
 exact eN
def wy (p3:WX):Option WX:=
 (dV N p3).bind fun a6=>some a6
def sS (N:Nat)(a6:WX->Int->Option WX)(a0:WX)(p6:Int)(a7:WX):Option WX:=
 aL (in64 (p6+1)) (a6 a7 (p6+1))
def nN (N:Nat)(a0:WX):Nat->WX->Int->Option WX
 |0,_,_=>none
 |m4+1,p5,p6=>bif decide (p6<(a0.length:Int)) then ((aq a0 p6).bind fun a6=>(bc N a6).bind fun a7=>bif a7 then (aL (cF (p5.length+([a6]:List WL).length)) (sS N (nN N a0 m4) a0 p6 (p5++([a6]:List WL)))) else (sS N (nN N a0 m4) a0 p6 p5)) else (wy N p5)
def pI (a0:WX):Option WX:=
 nN N a0 N [] 0
theorem Ia {N:Nat}{a0 r:WX}(h:pI N a0=some r):Okc Xa 45 [W A1 n1 c1] ([gK nY (W A1 n1 c1) a0]) (fun u post=> ∃A0 n0 c0,u=W A0 n0 c0/\post=[nE A0 n0 c0 r]):=by
 refine ce Tryz.func45 ?_;refine am (fun s L=> ∃p3 A3 n3 c3,wy N p3=some r/\s=[(2,W none 0 0),(3,W A3 n3 c3)]/\L=[nE A3 n3 c3 p3]) ?_ ?_
 ·refine ab ?_;refine iX (fun m s L=> ∃p5 p6 A5 n5 c5,nN N a0 m p5 p6=some r/\s=[(2,W none 0 0),(3,W A5 n5 c5),(6,W A1 n1 c1),(7,iV (a0.length:Int)),(8,iV p6)]/\L=[nE A5 n5 c5 p5,gK nY (W A1 n1 c1) a0]) N _ _ ⟨[],0,none,0,0,h,J,J⟩ sA ((ci nY 39 _).trans (cS [0,1] 2)) ?_;rintro (_|m4) _ _ ⟨p5,p6,A5,n5,c5,h,rfl,rfl⟩
  ·exact aJ h
  rw [nN.eq_2] at h;refine ab ?_;refine aA ?_;refine gH J h ?_ ?_<;>intro h
  ·refine ab ?_;refine am (fun s L=> ∃a7 a8 b0 b5,sS N (nN N a0 m4) a0 p6 a7=some r/\s=[(2,W none 0 0),(3,W a8 b0 b5),(6,W A1 n1 c1),(7,iV (a0.length:Int)),(8,iV p6)]/\L=[nE a8 b0 b5 a7,gK nY (W A1 n1 c1) a0]) ?_ ?_
   ·refine ab ?_;obtain ⟨a6,b6,b7,b9,h⟩:=bz h
    refine cl fun d1=> ?_
    obtain ⟨d2,k,h⟩:=aa h;refine F6 (oR (nM k)) ?_;refine gH J h ?_ ?_<;>intro h
    ·refine ab ?_;refine gD (aB (R:=nY) (vss:=[[iV a6.Za,iV a6.N,.string a6.S]]) (xs:=[a6]) J (yw _ _ _) J J (fun _ _ hr=> .cons J All2.nil)) ?_;rintro _ _ ⟨d3,d4,d6,rfl,rfl⟩;obtain ⟨d0,h⟩:=ae h
     refine vc (aX 2 0 J J ao J J Wj Ok J J d0) fun e0 e1 e2=> ?_
     exact jN
    exact jY
   rintro _ _ ⟨a7,a8,b0,b5,h,rfl,rfl⟩;refine ab ?_;obtain ⟨e3,h⟩:=ae h;exact lY
  exact jY
 rintro _ _ ⟨p3,A3,n3,c3,h,rfl,rfl⟩;refine ab ?_;obtain ⟨e4,k,h⟩:=aa h;refine F6 (oC (qY k)) ?_;exact eN
def uj (a6:WX):Option WX:=
 (pI N a6).bind fun a7=>some a7
def qC (N:Nat)(a7:W7):Nat->Int->WX->Option WX
 |0,_,_=>none
 |b5+1,a6,a8=>bif decide (a6<(a7.length:Int)) then ((aq a7 a6).bind fun b0=>aL (cF (a8.length+([b0.Zf]:List WL).length)) (aL (in64 (a6+1)) ((qC N a7 b5) (a6+1) (a8++([b0.Zf]:List WL))))) else (uj N a8)
def ii (N:Nat)(a0:WM)(a1:WV)(a6:Int×WV):(WX)->Option (Option Exit×WX)
 |p15=>aL (cF (p15.length+([(⟨0,a6.1,⟨#[]⟩⟩:WL)]:List WL).length)) (some (none,p15++([(⟨0,a6.1,⟨#[]⟩⟩:WL)]:List WL)))
def kA (a0:WM)(a1:WV):Option WX:=
 (cB N a0 a1).bind fun y5=>bif !y5.2 then (some []) else ((rv N y5.1).bind fun b0=>(sE N y5.1 (cN (fun x st=>ii N a0 a1 x st)) (none,[])).bind fun a6=>qT a6.1 ((bX N).bind fun a7=>aL (cF (a6.2.length+([a7]:List WL).length)) ((ju N a0 a1).bind fun a8=>qC N a8 N 0 (a6.2++([a7]:List WL)))) none (fun _=>none))
theorem rL {N:Nat}{a1:WV}{r:WX}(h:kA N a0 a1=some r){B1 B2 B3:Nat}:Okc Xa 15 [pV B1 0,(aE a1)] ([pDWorld B1 B2 B3 a0,rE]) (fun u post=> ∃A0 n0 c0,u=W A0 n0 c0/\post=[nE A0 n0 c0 r]):=by
 refine ce Tryz.func15 ?_;intro B4
 refine Ix h (fun _ k=>fi k) fun y5 A6 n6 c6 A7 n7 c7 h=> ?_
 intro B8;refine sY ?_;refine gH J h ?_ ?_<;>intro h
 ·refine ab ?_;obtain rfl:=bD h;exact od J J ((ci nY 39 _).trans (cS [0] 7)) ⟨_,_,_,J,J⟩
 refine cl fun a6=> ?_
 refine sZ ?_;obtain ⟨g3,k,h⟩:=aa h;refine gD (oR (Cj k)) ?_;rintro _ _ ⟨_,⟨e9,rfl,rfl⟩,rfl⟩;refine ab ?_;refine gw ?_ bQ (lr 0 J);refine gw ?_ bQ (bv 3 J);refine ab ?_;refine gw ?_ bQ (bv 4 J);obtain ⟨f0,k,h⟩:=aa h;refine ul (en:=(fun x=> [iV x.1,.agg #[iV x.2.Za,iV x.2.N,.string x.2.S]])) (fun x st=>ii N a0 a1 x st) (fun (st:WX) (mz:((Option Addr×Nat×Nat)))=> [pDWorld B1 B2 B3 a0,ah B4 28 (bP a1),bd nY 39 (.slice mz.1 mz.2.1 mz.2.2) st,ah a6 47 [.slice mz.1 mz.2.1 mz.2.2],rE]) [aW e9 94 (iS y5.1 A6 n6 c6 A7 n7 c7),aY A6 n6 c6 y5.1.Zc,aY A7 n7 c7 y5.1.Zb,rE] ([]) ((none,0,0)) J J call85.out J (fun _=>J) (fun l G hY=>(yA k hY).mono fun _ _ hh=>hh.2) ((ci nY 39 _).trans (bH [1,4,5,8] [] [7,6,0,2,8] 9 J)) h ?_ ?_ ?_ ?_
 ·rintro l b6 p15 je sr14 ⟨a7,a8,b0⟩ h;replace h:ii N a0 a1 b6 p15=some (je,sr14):=h;simp only [AH,Yu,Yv,Yw,Yo,Yp,Y4,Xu];refine ab ?_;refine gD (aB (R:=nY) (vss:=[[iV 0,iV b6.1,.string (⟨#[]⟩)]]) (xs:=[(⟨0,b6.1,⟨#[]⟩⟩:WL)]) J (yw _ _ _) J J (fun _ _ hr=> .cons J All2.nil)) ?_;rintro _ _ ⟨g4,g5,g6,rfl,rfl⟩;obtain ⟨f1,h⟩:=ae h
  refine vc (aX 3 0 J J ao J J Wj Ok J J f1) fun f2 f3 f4=> ?_
  obtain ⟨rfl,rfl⟩:=YO (YM h);exact Da ((cS [1,2,3,4,5] 6).trans (fZ (f2,f3,f4) J))
 ·rintro ⟨a7,a8,b0⟩ h;refine qG ([pDWorld B1 B2 B3 a0,ah B4 28 (bP a1),nE a7 a8 b0 f0.2,ah a6 47 [W a7 a8 b0],rE]) J ?_;refine ab ?_;refine dY [] ?_;refine ab ?_;obtain ⟨b5,k,h⟩:=aa h;refine zD 1 J (oR (jB k)) ?_;rintro _ _ ⟨_,⟨rfl,rfl⟩,rfl⟩;refine ⟨_,ad _,ad _,?_⟩
  refine Dc 2 J (aB (R:=nY) (vss:=[[iV b5.Za,iV b5.N,.string b5.S]]) (xs:=[b5]) J (yw _ _ _) J J (fun _ _ hr=> .cons J All2.nil)) fun g7 g8 g9=> ?_
  obtain ⟨f6,h⟩:=ae h;refine IJ 3 J O O (aX 3 0 J J ao J J Wj Ok J J f6) ?_;rintro _ _ ⟨e2,e3,e4,rfl,rfl⟩;refine gI 4 J O O (aj (us:=[W e2 e3 e4]) (cs':=[W e2 e3 e4]) 4 J J J J size47.out J J J) ?_;rintro _ _ rfl;refine ab ?_;refine am (fun s L=> ∃b7 b9 d0 d1,uj N b7=some r/\s=[(4,W none 0 0),(7,pV a6 0)]/\L=[nE b9 d0 d1 b7,ah a6 47 [W b9 d0 d1],rE]) ?_ ?_
  ·refine MB h (fun _ k=>o3 k) fun d2 e5 e6 e7 h=> ?_
   refine lK (fun m s L=> ∃(d3:Int) (d4:WX) (d6:Option Addr) (e0 e1:Nat),qC N d2 m d3 d4=some r/\s=[(4,W none 0 0),(7,pV a6 0),(34,W e5 e6 e7),(35,iV (d2.length:Int)),(36,iV d3)]/\L=[bd iq 50 (W e5 e6 e7) d2,nE d6 e0 e1 d4,ah a6 47 [W d6 e0 e1],rE]) N ?_;rintro h0 _ _ ⟨d3,d4,d6,e0,e1,h,rfl,rfl⟩;rw [qC.eq_2] at h;refine ab ?_;refine aA ?_;refine gH J h ?_ ?_<;>intro h
   ·refine sY ?_;obtain ⟨e8,f9,g0,g1,h⟩:=bz h
    refine cl fun h1=> ?_
    refine gD (aB (R:=nY) (vss:=[(lH e8.Zf)]) (xs:=[e8.Zf]) J (yw _ _ _) J J (fun _ _ hr=> .cons J All2.nil)) ?_;rintro _ _ ⟨h2,h3,h4,rfl,rfl⟩;obtain ⟨g2,h⟩:=ae h
    refine vc (aX 3 0 J J ao J J Wj Ok J J g2) fun h5 h6 h7=> ?_
    obtain ⟨h8,h⟩:=ae h;exact lY
   exact jY
  rintro _ _ ⟨b7,b9,d0,d1,h,rfl,rfl⟩
  refine MB h (fun _ k=>Ia k) fun h9 i0 i1 i2 h=> ?_
  exact eN
 ·rintro ⟨a7,a8,b0⟩ h;exact aJ h
 rintro i ⟨a7,a8,b0⟩ h;exact aJ h
theorem ph {r:WX}: ∀v post,((fun (u:Value) (post:W8)=> ∃A0 n0 c0,u=W A0 n0 c0/\post=[nE A0 n0 c0 r])) v post-> ∀c∈post,ij c:=by
 rintro _ _ ⟨_,_,_,rfl,rfl⟩;exact t5 qv (au)
def pu (N:Nat)(a0:Int):Option WL:=
 some (⟨0,a0,⟨#[]⟩⟩:WL)
theorem pS {N:Nat}{a0:Int}{r:WL}(h:pu N a0=some r):Okc Xa 23 [iV a0] ([]) (fun u post=>u=(eT r)/\post=[]):=by
 refine ce Tryz.func23 ?_;intro B1;exact eY
theorem nh {r:WL}: ∀v post,((fun (u:Value) (post:W8)=>u=(eT r)/\post=[])) v post-> ∀c∈post,ij c:=by
 rintro _ _ ⟨rfl,rfl⟩;exact au
def dp (N:Nat):Option WL:=
 some (⟨1,0,(⟨#[108,101,110,103,116,104]⟩:ByteArray)⟩:WL)
theorem kC {N:Nat}{r:WL}(h:dp N=some r):Okc Xa 19 [] ([]) (fun u post=>u=(eT r)/\post=[]):=by
 refine ce Tryz.func19 ?_;intro B1;exact eY
theorem oX {r:WL}: ∀v post,((fun (u:Value) (post:W8)=>u=(eT r)/\post=[])) v post-> ∀c∈post,ij c:=by
 rintro _ _ ⟨rfl,rfl⟩;exact au
def Dt (N:Nat):Option Bool:=
 some true
def xU (N:Nat)(a0 a1:WX):Nat->Int->Option Bool
 |0,_=>none
 |m5+1,p6=>bif decide (p6<(a0.length:Int)) then ((aq a0 p6).bind fun x8=>(aq a1 p6).bind fun x9=>bif !decide (x8=x9) then (some false) else (aL (in64 (p6+1)) ((xU N a0 a1 m5) (p6+1)))) else (Dt N)
def Ap (a0 a1:WX):Option Bool:=
 bif !decide ((a0.length:Int)=(a1.length:Int)) then (some false) else (xU N a0 a1 N 0)
theorem Dr {N:Nat}{a0 a1:WX}{r:Bool}(h:Ap N a0 a1=some r):Okc Xa 22 [W A1 n1 c1,W A2 n2 c2] ([gK nY (W A1 n1 c1) a0,gK nY (W A2 n2 c2) a1]) (fun u post=>u=.bool r/\post=[]):=by
 refine ce Tryz.func22 ?_;refine sZ ?_;refine gH J h ?_ ?_<;>intro h
 ·exact eY
 refine ab ?_;refine am (fun s L=>Dt N=some r/\s=[(4,.bool false)]/\L=[]) ?_ ?_
 ·refine ab ?_;refine lK (fun m s L=> ∃(p6:Int),xU N a0 a1 m p6=some r/\s=[(0,W A1 n1 c1),(1,W A2 n2 c2),(4,.bool false),(5,iV p6)]/\L=[gK nY (W A1 n1 c1) a0,gK nY (W A2 n2 c2) a1]) N ?_;rintro m5 _ _ ⟨p6,h,rfl,rfl⟩;rw [xU.eq_2] at h;refine sZ ?_;refine gH J h ?_ ?_<;>intro h
  ·refine sY ?_;refine dY [] ?_;refine ab ?_;obtain ⟨x8,a6,a7,a8,h⟩:=bz h;refine ab ?_;obtain ⟨x9,b0,b5,b6,h⟩:=bz h;refine ab ?_;refine zE 8 J (C0 (x:=x8) (y:=x9) J J) ?_;refine dv h ?_ ?_<;>intro h
   ·exact eY
   refine ab ?_;obtain ⟨b7,h⟩:=ae h;exact lY
  exact jY
 rintro _ _ ⟨h,rfl,rfl⟩;exact eY
theorem zN {r:Bool}: ∀v post,((fun (u:Value) (post:W8)=>u=.bool r/\post=[])) v post-> ∀c∈post,ij c:=by
 rintro _ _ ⟨rfl,rfl⟩;exact au
def Ad (N:Nat)(a0 a1:Int):Option WG:=
 some (⟨51,a1,(⟨3,a0,⟨#[]⟩⟩:WV),(⟨0,0,⟨#[]⟩⟩:WV),(⟨0,0,⟨#[]⟩⟩:WV)⟩:WG)
theorem Di {N:Nat}{a0:Int}{r:WG}(h:Ad N a0 a1=some r):Okc Xa 25 [iV a0,iV a1] ([]) (fun u post=>u=(fV r)/\post=[]):=by
 refine ce Tryz.func25 ?_;intro B1;exact eY
theorem zG {r:WG}: ∀v post,((fun (u:Value) (post:W8)=>u=(fV r)/\post=[])) v post-> ∀c∈post,ij c:=by
 rintro _ _ ⟨rfl,rfl⟩;exact au
def aR (N:Nat)(a0:WG)(a1:Int):Option Bool:=
 some (!decide (ai .i64 a0.Has a1=0))
theorem bG {N:Nat}{a0:WG}{r:Bool}(h:aR N a0 a1=some r):Okc Xa 99 [(fV a0),iV a1] ([]) (fun u post=>u=.bool r/\post=[]):=by
 refine ce Tryz.func99 ?_;intro B1;refine ab ?_;refine fY (aI J J) ?_;exact eN
def qy (N:Nat)(a6:Int):Option Int:=
 some a6
def rI (a0:WG)(p7:Int):Option Int:=
 (aR N a0 32).bind fun a6=>bif a6 then (qy N (cP .i64 p7 4)) else (qy N p7)
def rJ (a0:WG)(p3:Int):Option Int:=
 (aR N a0 16).bind fun y8=>bif y8 then (rI N a0 (cP .i64 p3 2)) else (rI N a0 p3)
def qz (a0:WG):Option Int:=
 (aR N a0 2).bind fun y4=>bif y4 then (rJ N a0 (cP .i64 0 1)) else (rJ N a0 0)
theorem z7 {N:Nat}{a0:WG}{r:Int}(h:qz N a0=some r):Okc Xa 100 [(fV a0)] ([]) (fun u post=>u=iV r/\post=[]):=by
 refine ce Tryz.func100 ?_;intro B1;refine ab ?_;refine am (fun s L=> ∃p3,rJ N a0 p3=some r/\s=[(1,pV B1 0),(2,iV 0),(3,iV p3)]/\L=[ah B1 41 (iw a0)]) ?_ ?_
 ·refine cR h (fun _ k=>bG k) fun y4 h=> ?_
  refine gH J h ?_ ?_<;>intro h
  ·refine ab ?_;refine fY (pK J J) ?_;exact jN
  exact jY
 rintro _ _ ⟨p3,h,rfl,rfl⟩;refine am (fun s L=> ∃p7,rI N a0 p7=some r/\s=[(1,pV B1 0),(2,iV 0),(3,iV p7)]/\L=[ah B1 41 (iw a0)]) ?_ ?_
 ·refine cR h (fun _ k=>bG k) fun y8 h=> ?_
  refine gH J h ?_ ?_<;>intro h
  ·refine ab ?_;refine fY (pK J J) ?_;exact jN
  exact jY
 rintro _ _ ⟨p7,h,rfl,rfl⟩;refine am (fun s L=> ∃a6,qy N a6=some r/\s=[(2,iV 0),(3,iV a6)]/\L=[]) ?_ ?_
 ·refine cR h (fun _ k=>bG k) fun a7 h=> ?_
  refine gH J h ?_ ?_<;>intro h
  ·refine ab ?_;refine fY (pK J J) ?_;exact jN
  exact jY
 rintro _ _ ⟨a6,h,rfl,rfl⟩;exact eY
def uO (N:Nat)(a0:WV):Option Bool:=
 (bif decide (a0.Za=0) then (some true) else (some (decide (a0.Za=7)))).bind fun b2=>some b2
theorem Cd {N:Nat}{a0:WV}{r:Bool}(h:uO N a0=some r):Okc Xa 101 [(aE a0)] ([]) (fun u post=>u=.bool r/\post=[]):=by
 refine ce Tryz.func101 ?_;intro B1;refine ab ?_;refine gS 4 10 6 h ?_;intro b2 h;exact eY
def fD (a0:WG):Option Bool:=
 (bif !decide (be .i64 a0.Has 63=0) then (some true) else ((aR N a0 3).bind fun y3=>(bif y3 then ((aR N a0 12).bind fun y5=>some y5) else (some false)).bind fun b4=>some b4)).bind fun b2=>(bif b2 then (some true) else ((qz N a0).bind fun y7=>some (!decide (be .i64 a0.Zd y7=0)))).bind fun b6=>bif b6 then (some false) else ((bif decide (a0.Value.Za<0) then (some true) else (some (decide (7<a0.Value.Za)))).bind fun b9=>(bif b9 then (some true) else ((uO N a0.Zq).bind fun a6=>some (!a6))).bind fun a7=>(bif a7 then (some true) else ((uO N a0.Zr).bind fun a8=>some (!a8))).bind fun b12=>bif b12 then (some false) else ((aR N a0 1).bind fun b0=>(bif b0 then (some true) else (some (decide (a0.Value=(⟨0,0,⟨#[]⟩⟩:WV))))).bind fun b5=>(bif b5 then ((aR N a0 4).bind fun b7=>(bif b7 then (some true) else (some (decide (a0.Zq=(⟨0,0,⟨#[]⟩⟩:WV))))).bind fun d0=>some d0) else (some false)).bind fun d1=>(bif d1 then ((aR N a0 8).bind fun d2=>(bif d2 then (some true) else (some (decide (a0.Zr=(⟨0,0,⟨#[]⟩⟩:WV))))).bind fun d3=>some d3) else (some false)).bind fun d4=>some d4))
theorem Gt {N:Nat}{a0:WG}{r:Bool}(h:fD N a0=some r):Okc Xa 57 [(fV a0)] ([]) (fun u post=>u=.bool r/\post=[]):=by
 refine ce Tryz.func57 ?_;intro B1;refine ab ?_;refine aA ?_;refine dY [0,1] ?_;refine zE 2 J (rH J J) ?_;refine zY [3,4] ?_
 refine yJ [5,6,7,8,9,10,11] 8 8 15 h (fun _ g2 h rest=> ?_) (fun _ g2 h rest=> ?_) fun b2 h=> ?_
 ·refine yY [5,6,7,8,9,10,11] ?_;exact yS rest h
 ·refine sF 5 J O (ax (us:=iw a0) 0 J J agg41.out J) (dw g2 J) J ?_;obtain ⟨y3,k,h⟩:=aa h;refine pt 6 J O (oR (bG k)) J (dw g2 J) J ?_;rintro _ _ ⟨_,⟨rfl,rfl⟩,rfl⟩;refine ⟨_,ad _,ad _,?_⟩;refine io 7 J O (ap J) (dw g2 J) J ?_
  refine yJ [8,9,10] 9 11 14 h (fun _ g4 h rest=> ?_) (fun _ g4 h rest=> ?_) fun b4 h=> ?_
  ·refine sF 8 J O (ax (us:=iw a0) 0 J J agg41.out J) (ca g4 J) J ?_;obtain ⟨y5,k,h⟩:=aa h;refine pt 9 J O (oR (bG k)) J (ca g4 J) J ?_;rintro _ _ ⟨_,⟨rfl,rfl⟩,rfl⟩;refine ⟨_,ad _,ad _,?_⟩;refine io 10 J O (iy g4 J J) (dw g2 J) J ?_;exact yS rest h
  ·refine yY [8,9] ?_;refine io 10 J O (jy g4 J J) (dw g2 J) J ?_;exact yS rest h
  refine zE 11 J (jy g2 J J) ?_;exact yS rest h
 refine zY [12] ?_
 refine yJ [13,14,15,16,17,18,19] 0 16 23 h (fun _ g6 h rest=> ?_) (fun _ g6 h rest=> ?_) fun b6 h=> ?_
 ·refine yY [13,14,15,16,17,18,19] ?_;exact yS rest h
 ·refine yY [13,14,15] ?_;obtain ⟨y7,k,h⟩:=aa h;refine pt 16 J O (oR (z7 k)) J (dw g6 J) J ?_;rintro _ _ ⟨_,⟨rfl,rfl⟩,rfl⟩;refine ⟨_,ad _,ad _,?_⟩;refine io 17 J O (rH J J) (dw g6 J) J ?_;refine yY [18,19] ?_;exact yS rest h
 refine bq O ?_;refine dv h ?_ ?_<;>intro h
 ·exact eY
 refine sY ?_;refine gS 5 33 28 h ?_;intro b9 h;refine ab ?_
 refine wT 5 39 34 h (fun _ b0 h=> ?_) fun b5 h=> ?_
 ·refine cR h (fun _ k=>Cd k) fun b7 h=> ?_
  exact gY
 refine ab ?_
 refine wT 5 45 40 h (fun _ d0 h=> ?_) fun b12 h=> ?_
 ·refine cR h (fun _ k=>Cd k) fun d1 h=> ?_
  exact gY
 refine dv h ?_ ?_<;>intro h
 ·exact eY
 refine cl fun d2=> ?_
 refine cR h (fun _ k=>bG k) fun d3 h=> ?_
 refine wT 5 54 49 h (fun _ a6 h=> ?_) fun d4 h=> ?_
 ·refine ab ?_;refine eW (vP (x:=a0.Value) (y:=(⟨0,0,⟨#[]⟩⟩:WV)) J J) J (dw a6 J) J ?_;exact gY
 refine ab ?_
 refine ou 9 64 55 h (fun _ d6 h=> ?_) fun e0 h=> ?_
 ·refine cR h (fun _ k=>bG k) fun e1 h=> ?_
  refine wT 5 63 58 h (fun _ a7 h=> ?_) fun e2 h=> ?_
  ·refine ab ?_;refine eW (vP (x:=a0.Zq) (y:=(⟨0,0,⟨#[]⟩⟩:WV)) J J) J (dw a7 J) J ?_;exact gY
  exact gY
 refine ab ?_
 refine ou 9 74 65 h (fun _ e3 h=> ?_) fun e4 h=> ?_
 ·refine cR h (fun _ k=>bG k) fun e5 h=> ?_
  refine wT 5 73 68 h (fun _ a8 h=> ?_) fun e6 h=> ?_
  ·refine ab ?_;refine eW (vP (x:=a0.Zr) (y:=(⟨0,0,⟨#[]⟩⟩:WV)) J J) J (dw a8 J) J ?_;exact gY
  exact gY
 exact eY
def pg (N:Nat)(y5:WL)(a0:WI)(p9:Int):Option WU:=
 some (⟨y5,p9,(⟨3,(a0.Zb.length:Int),⟨#[]⟩⟩:WV),(⟨0,0,⟨#[]⟩⟩:WV),(⟨0,0,⟨#[]⟩⟩:WV)⟩:WU)
def nC (a0:WI):Option WU:=
 (bX N).bind fun y5=>bif !decide (ai .i64 a0.Ze 32=0) then (pg N y5 a0 0) else (pg N y5 a0 1)
theorem wY {N:Nat}{a0:WI}{r:WU}(h:nC N a0=some r):Okc Xa 46 [.agg #[iV a0.Za,iV a0.Zi,iV a0.Ze,iV a0.Zg,W A1 n1 c1,W A2 n2 c2]] ([aY A1 n1 c1 a0.Zc,aY A2 n2 c2 a0.Zb]) (fun u post=>u=(cc r)/\post=[]):=by
 refine ce Tryz.func46 ?_;intro B3
 refine cl fun B4=> ?_
 refine aA ?_;obtain ⟨y5,a6,h⟩:=aa h;refine gw (t:=[(1,pV B3 0),(2,pV B4 0)]) ?_ mh (ad _)
 refine iW O 7 [] [5,6] [4,5,6,7,8,9,3] [[],[],[1],[2],[3],[0,4],[]] [aV (.agg #[iV y5.Za,iV y5.N,.string y5.S]),
 aV (pV B3 5),
 aV (W A2 n2 c2),
 aV (iV (a0.Zb.length:Int)),
 aV (.agg #[iV 3,iV (a0.Zb.length:Int),.string (⟨#[]⟩)]),
 aV (.agg #[iV y5.Za,iV y5.N,.string y5.S,iV 1,iV 3,iV (a0.Zb.length:Int),.string (⟨#[]⟩),iV 0,iV 0,.string (⟨#[]⟩),iV 0,iV 0,.string (⟨#[]⟩)]),
 aX1 (fun (B7:Nat)=>pV B7 0) (fun B7=> [ah B7 50 [iV 0,iV 0,.string (⟨#[]⟩),iV 0,iV 0,iV 0,.string (⟨#[]⟩),iV 0,iV 0,.string (⟨#[]⟩),iV 0,iV 0,.string (⟨#[]⟩)]])] [] (ad _) (mc) O rfl rfl ?_ ?_ ?_
 ·exact mb
 ·refine aF J ?_ ?_
  ·refine th (bw zero50.out J) J ?_;rintro _ _ ⟨B6,rfl,rfl⟩;exact N0 B6 (ad _)
  refine qE (nB J (bld_50_0_1_2 _ _ _ _ _ _ _).out) ?_;refine qE (nB J (bld_28_0_1 _ _).out) ?_;refine qR (lj 3 J bj J t9) ?_;refine qR (ck 1 J J sC J) ?_;refine qE (kH J wB) ?_;refine aF J ?_ ?_
  ·refine th (oR (jB a6)) J ?_;rintro _ _ ⟨_,⟨rfl,rfl⟩,rfl⟩;exact iL J (ad _)
  exact dH
 intro B7;refine oe (t:=[(9,.agg #[iV y5.Za,iV y5.N,.string y5.S,iV 1,iV 3,iV (a0.Zb.length:Int),.string (⟨#[]⟩),iV 0,iV 0,.string (⟨#[]⟩),iV 0,iV 0,.string (⟨#[]⟩)]),(3,pV B7 0),(1,pV B3 0),(2,pV B4 0)]) (L':=[ah B7 50 [iV 0,iV 0,.string (⟨#[]⟩),iV 0,iV 0,iV 0,.string (⟨#[]⟩),iV 0,iV 0,.string (⟨#[]⟩),iV 0,iV 0,.string (⟨#[]⟩)],ah B4 50 [iV 0,iV 0,.string (⟨#[]⟩),iV 0,iV 0,iV 0,.string (⟨#[]⟩),iV 0,iV 0,.string (⟨#[]⟩),iV 0,iV 0,.string (⟨#[]⟩)],ah B3 94 (iS a0 A1 n1 c1 A2 n2 c2),aY A1 n1 c1 a0.Zc,aY A2 n2 c2 a0.Zb]) ?_ mh (ad _);refine pO 7 J O (aj (us:=[iV y5.Za,iV y5.N,.string y5.S,iV 1,iV 3,iV (a0.Zb.length:Int),.string (⟨#[]⟩),iV 0,iV 0,.string (⟨#[]⟩),iV 0,iV 0,.string (⟨#[]⟩)]) (cs':=[iV y5.Za,iV y5.N,.string y5.S,iV 1,iV 3,iV (a0.Zb.length:Int),.string (⟨#[]⟩),iV 0,iV 0,.string (⟨#[]⟩),iV 0,iV 0,.string (⟨#[]⟩)]) 0 J J J J size50.out J J J) J J ?_;rintro _ _ rfl;refine mg O ?_;refine ab ?_;refine am (fun s L=> ∃p9,pg N y5 a0 p9=some r/\s=[(2,pV B4 0),(3,pV B7 0)]/\L=[ah B4 50 [iV 0,iV 0,.string (⟨#[]⟩),iV 0,iV 0,iV 0,.string (⟨#[]⟩),iV 0,iV 0,.string (⟨#[]⟩),iV 0,iV 0,.string (⟨#[]⟩)],ah B7 50 [iV y5.Za,iV y5.N,.string y5.S,iV p9,iV 3,iV (a0.Zb.length:Int),.string (⟨#[]⟩),iV 0,iV 0,.string (⟨#[]⟩),iV 0,iV 0,.string (⟨#[]⟩)]]) ?_ ?_
 ·refine ab ?_;refine fY (aI J J) ?_;refine gH J h ?_ ?_<;>intro h
  ·exact jY
  exact jY
 rintro _ _ ⟨p9,h,rfl,rfl⟩;exact eY
end
section
variable {A1 A2 A3 A4 A5 A7 A9:Option Addr}{B1 B2 B3 B6 M2 M3 c1 c2 c3 c4 c5 c7 c9 n1 n2 n3 n4 n5 n7 n9:Nat}
open Go.RowKit Asn
set_option maxRecDepth 20000
def o7 (N:Nat)(a1:WL)(a7 a6:Int)(a2:WG)(a8 b0:Int)(b5:ByteArray)(b6 b7:Int)(b9:ByteArray)(d0 d1:Int)(d2:ByteArray):Option WU:=
 some (⟨a1,cP .i64 (be .i64 a7 a6) (ai .i64 a2.Zd a6),(⟨a8,b0,b5⟩:WV),(⟨b6,b7,b9⟩:WV),(⟨d0,d1,d2⟩:WV)⟩:WU)
def o8 (a2:WG)(a1:WL)(a6 a7 a8 b0:Int)(b5:ByteArray)(d0 p15:Int)(d1:ByteArray)(b6 b7:Int)(b9:ByteArray):Option WU:=
 (aR N a2 8).bind fun d2=>bif d2 then (o7 N a1 a6 a7 a2 a8 b0 b5 b6 b7 b9 a2.Zr.Za a2.Zr.N a2.Zr.S) else (o7 N a1 a6 a7 a2 a8 b0 b5 b6 b7 b9 d0 p15 d1)
def o9 (a2:WG)(a1:WL)(a6 a7 b9 d0:Int)(p13:ByteArray)(a8 p15:Int)(b0:ByteArray)(b5 b6:Int)(b7:ByteArray):Option WU:=
 (aR N a2 4).bind fun d1=>bif d1 then (o8 N a2 a1 a6 a7 b5 b6 b7 a8 p15 b0 a2.Zq.Za a2.Zq.N a2.Zq.S) else (o8 N a2 a1 a6 a7 b5 b6 b7 a8 p15 b0 b9 d0 p13)
def pa (a2:WG)(a1:WL)(p21 b7:Int)(b9:ByteArray)(a6 a7:Int)(p13:ByteArray)(a8 p15:Int)(b0:ByteArray)(b5:Int):Option WU:=
 (qz N a2).bind fun b6=>(aR N a2 1).bind fun d0=>bif d0 then (o9 N a2 a1 b5 b6 a6 a7 p13 a8 p15 b0 a2.Value.Za a2.Value.N a2.Value.S) else (o9 N a2 a1 b5 b6 a6 a7 p13 a8 p15 b0 p21 b7 b9)
def pc (b6:Bool)(a0:WU)(a2:WG)(a1:WL)(a6 a7:Int)(p13:ByteArray)(a8 p15:Int)(b0:ByteArray)(b5 p21 b7:Int)(b9:ByteArray):Option WU:=
 bif b6 then (pa N a2 a1 p21 b7 b9 a6 a7 p13 a8 p15 b0 (cP .i64 (cP .i64 b5 (ai .i64 a0.Zd 6)) 8)) else (pa N a2 a1 p21 b7 b9 a6 a7 p13 a8 p15 b0 (cP .i64 b5 (ai .i64 a0.Zd 6)))
def pe (a0:WU)(b6:Bool)(a2:WG)(a1:WL)(a6 a7:Int)(p13:ByteArray)(a8 p15:Int)(b0:ByteArray):Option WU:=
 (bif !b6 then (some (!(!decide (ai .i64 a0.Zd 8=0)))) else (some false)).bind fun b5=>bif b5 then (pc N b6 a0 a2 a1 a6 a7 p13 a8 p15 b0 (ai .i64 a0.Zd 1) a0.Value.Za a0.Value.N a0.Value.S) else (pc N b6 a0 a2 a1 a6 a7 p13 a8 p15 b0 0 0 0 (⟨#[]⟩))
def oN (a0:WU)(a1:WL)(a2:WG):Option WU:=
 (aR N a2 12).bind fun y5=>(bif y5 then (some true) else ((bif !decide (ai .i64 a0.Zd 8=0) then ((aR N a2 3).bind fun y8=>some (!y8)) else (some false)).bind fun b7=>some b7)).bind fun b6=>(bif b6 then (some (!decide (ai .i64 a0.Zd 8=0))) else (some false)).bind fun a6=>bif a6 then (pe N a0 b6 a2 a1 a0.Zq.Za a0.Zq.N a0.Zq.S a0.Zr.Za a0.Zr.N a0.Zr.S) else (pe N a0 b6 a2 a1 0 0 (⟨#[]⟩) 0 0 (⟨#[]⟩))
theorem yn {N:Nat}{a0:WU}{a1:WL}{a2:WG}{r:WU}(h:oN N a0 a1 a2=some r):Okc Xa 145 [(cc a0),(eT a1),(fV a2)] ([]) (fun u post=>u=(cc r)/\post=[]):=by
 refine ce Tryz.func145 ?_;intro B1
 refine cl fun B2=> ?_
 intro B3
 refine cl fun B4=> ?_
 refine fY (aI J J) ?_
 refine cR h (fun _ k=>bG k) fun y5 h=> ?_
 refine wT 7 24 17 h (fun _ g6 h=> ?_) fun b6 h=> ?_
 ·refine ab ?_
  refine ou 4 23 19 h (fun _ g7 h=> ?_) fun b7 h=> ?_
  ·refine cR h (fun _ k=>bG k) fun y8 h=> ?_
   exact gY
  exact gY
 refine cl fun B9=> ?_
 refine am (fun s L=> ∃a8 b0 p13 a6 p15 a7,pe N a0 b6 a2 a1 a8 b0 p13 a6 p15 a7=some r/\s=[(3,pV B1 0),(5,pV B3 0),(6,pV B4 0),(7,.bool (!decide (ai .i64 a0.Zd 8=0))),(8,.bool b6),(9,pV B9 0)]/\L=[ah B1 50 (bW a0),ah B3 41 (iw a2),ah B4 50 [iV 0,iV 0,.string (⟨#[]⟩),iV 0,iV 0,iV 0,.string (⟨#[]⟩),iV 0,iV 0,.string (⟨#[]⟩),iV 0,iV 0,.string (⟨#[]⟩)],ah B9 50 [iV a1.Za,iV a1.N,.string a1.S,iV 0,iV 0,iV 0,.string (⟨#[]⟩),iV a8,iV b0,.string p13,iV a6,iV p15,.string a7]]) ?_ ?_
 ·refine ab ?_;refine gS 2 30 28 h ?_;intro e6 h;refine dv h ?_ ?_<;>intro h
  ·refine bh O ([ah B4 50 [iV 0,iV 0,.string (⟨#[]⟩),iV 0,iV 0,iV 0,.string (⟨#[]⟩),iV 0,iV 0,.string (⟨#[]⟩),iV 0,iV 0,.string (⟨#[]⟩)],ah B3 41 (iw a2),ah B2 39 (lH a1),ah B1 50 (bW a0)]) (cS [1,2,3,4] 5) ?_;refine ab ?_;refine zO 5 J (aj (us:=bP a0.Zq) (cs':=[iV a1.Za,iV a1.N,.string a1.S,iV 0,iV 0,iV 0,.string (⟨#[]⟩),iV a0.Zq.Za,iV a0.Zq.N,.string a0.Zq.S,iV 0,iV 0,.string (⟨#[]⟩)]) 0 J J J J size28.out J J J) ?_;rintro _ _ rfl;refine bY ?_;refine ab ?_;refine zO 7 J (aj (us:=bP a0.Zr) (cs':=[iV a1.Za,iV a1.N,.string a1.S,iV 0,iV 0,iV 0,.string (⟨#[]⟩),iV a0.Zq.Za,iV a0.Zq.N,.string a0.Zq.S,iV a0.Zr.Za,iV a0.Zr.N,.string a0.Zr.S]) 0 J J J J size28.out J J J) ?_;rintro _ _ rfl;refine bY ?_;exact jY
  exact jY
 rintro _ _ ⟨a8,b0,p13,a6,p15,a7,h,rfl,rfl⟩;refine am (fun s L=> ∃e2 p21 d3 d4,pc N b6 a0 a2 a1 a8 b0 p13 a6 p15 a7 e2 p21 d3 d4=some r/\s=[(3,pV B1 0),(5,pV B3 0),(6,pV B4 0),(8,.bool b6),(9,pV B9 0)]/\L=[ah B1 50 (bW a0),ah B3 41 (iw a2),ah B4 50 [iV 0,iV 0,.string (⟨#[]⟩),iV 0,iV 0,iV 0,.string (⟨#[]⟩),iV 0,iV 0,.string (⟨#[]⟩),iV 0,iV 0,.string (⟨#[]⟩)],ah B9 50 [iV a1.Za,iV a1.N,.string a1.S,iV e2,iV p21,iV d3,.string d4,iV a8,iV b0,.string p13,iV a6,iV p15,.string a7]]) ?_ ?_
 ·refine ab ?_;refine gS 3 42 39 h ?_;intro e7 h;refine dv h ?_ ?_<;>intro h
  ·refine ab ?_;refine fY (aI J J) ?_;exact jN
  exact jY
 rintro _ _ ⟨e2,p21,d3,d4,h,rfl,rfl⟩;refine ab ?_;refine gE (aI J J) ?_;refine fY (pK J J) ?_;refine am (fun s L=> ∃b5,pa N a2 a1 p21 d3 d4 a8 b0 p13 a6 p15 a7 b5=some r/\s=[(5,pV B3 0),(6,pV B4 0),(9,pV B9 0)]/\L=[ah B3 41 (iw a2),ah B4 50 [iV 0,iV 0,.string (⟨#[]⟩),iV 0,iV 0,iV 0,.string (⟨#[]⟩),iV 0,iV 0,.string (⟨#[]⟩),iV 0,iV 0,.string (⟨#[]⟩)],ah B9 50 [iV a1.Za,iV a1.N,.string a1.S,iV b5,iV p21,iV d3,.string d4,iV a8,iV b0,.string p13,iV a6,iV p15,.string a7]]) ?_ ?_
 ·refine dv h ?_ ?_<;>intro h
  ·refine ab ?_;refine fY (pK J J) ?_;exact jN
  exact jY
 rintro _ _ ⟨b5,h,rfl,rfl⟩
 refine cR h (fun _ k=>z7 k) fun b9 h=> ?_
 refine fY (rH J J) ?_;refine gE (aI J J) ?_;refine fY (pK J J) ?_;refine am (fun s L=> ∃d0 d1 d2,o9 N a2 a1 b5 b9 a8 b0 p13 a6 p15 a7 d0 d1 d2=some r/\s=[(5,pV B3 0),(6,pV B4 0),(9,pV B9 0)]/\L=[ah B3 41 (iw a2),ah B4 50 [iV 0,iV 0,.string (⟨#[]⟩),iV 0,iV 0,iV 0,.string (⟨#[]⟩),iV 0,iV 0,.string (⟨#[]⟩),iV 0,iV 0,.string (⟨#[]⟩)],ah B9 50 [iV a1.Za,iV a1.N,.string a1.S,iV (cP .i64 (be .i64 b5 b9) (ai .i64 a2.Zd b9)),iV d0,iV d1,.string d2,iV a8,iV b0,.string p13,iV a6,iV p15,.string a7]]) ?_ ?_
 ·refine cR h (fun _ k=>bG k) fun e8 h=> ?_
  refine gH J h ?_ ?_<;>intro h
  ·exact jY
  exact jY
 rintro _ _ ⟨d0,d1,d2,h,rfl,rfl⟩;refine am (fun s L=> ∃d6 e0 e1,o8 N a2 a1 b5 b9 d0 d1 d2 a6 p15 a7 d6 e0 e1=some r/\s=[(5,pV B3 0),(6,pV B4 0),(9,pV B9 0)]/\L=[ah B3 41 (iw a2),ah B4 50 [iV 0,iV 0,.string (⟨#[]⟩),iV 0,iV 0,iV 0,.string (⟨#[]⟩),iV 0,iV 0,.string (⟨#[]⟩),iV 0,iV 0,.string (⟨#[]⟩)],ah B9 50 [iV a1.Za,iV a1.N,.string a1.S,iV (cP .i64 (be .i64 b5 b9) (ai .i64 a2.Zd b9)),iV d0,iV d1,.string d2,iV d6,iV e0,.string e1,iV a6,iV p15,.string a7]]) ?_ ?_
 ·refine cR h (fun _ k=>bG k) fun e9 h=> ?_
  refine gH J h ?_ ?_<;>intro h
  ·exact jY
  exact jY
 rintro _ _ ⟨d6,e0,e1,h,rfl,rfl⟩;refine am (fun s L=> ∃e3 e4 e5,o7 N a1 b5 b9 a2 d0 d1 d2 d6 e0 e1 e3 e4 e5=some r/\s=[(6,pV B4 0),(9,pV B9 0)]/\L=[ah B4 50 [iV 0,iV 0,.string (⟨#[]⟩),iV 0,iV 0,iV 0,.string (⟨#[]⟩),iV 0,iV 0,.string (⟨#[]⟩),iV 0,iV 0,.string (⟨#[]⟩)],ah B9 50 [iV a1.Za,iV a1.N,.string a1.S,iV (cP .i64 (be .i64 b5 b9) (ai .i64 a2.Zd b9)),iV d0,iV d1,.string d2,iV d6,iV e0,.string e1,iV e3,iV e4,.string e5]]) ?_ ?_
 ·refine cR h (fun _ k=>bG k) fun f0 h=> ?_
  refine gH J h ?_ ?_<;>intro h
  ·exact jY
  exact jY
 rintro _ _ ⟨e3,e4,e5,h,rfl,rfl⟩;exact eY
def uP (a0:WG)(a1:WL):Option WU:=
 (oN N (⟨(⟨0,0,⟨#[]⟩⟩:WL),0,(⟨0,0,⟨#[]⟩⟩:WV),(⟨0,0,⟨#[]⟩⟩:WV),(⟨0,0,⟨#[]⟩⟩:WV)⟩:WU) a1 a0).bind fun y4=>some y4
theorem Iq {N:Nat}{a0:WG}{a1:WL}{r:WU}(h:uP N a0 a1=some r):Okc Xa 143 [(fV a0),(eT a1)] ([]) (fun u post=>u=(cc r)/\post=[]):=by
 refine ce Tryz.func143 ?_;intro B1
 refine cl fun B2=> ?_
 intro B3
 refine cR h (fun _ k=>yn k) fun y4 h=> ?_
 exact eN
def kr (N:Nat)(a0 a1:WV):Option Bool:=
 some (decide (a0=a1))
theorem vg {N:Nat}{a0 a1:WV}{r:Bool}(h:kr N a0 a1=some r):Okc Xa 184 [(aE a0),(aE a1)] ([]) (fun u post=>u=.bool r/\post=[]):=by
 refine ce Tryz.func184 ?_;intro B1
 refine cl fun B2=> ?_
 refine fY (vP (x:=a0) (y:=a1) J J) ?_;exact eN
def ic (a0:WU)(a1:WG):Option Bool:=
 (aR N a1 32).bind fun y3=>(bif y3 then (some (!decide (ai .i64 a1.Zd 4=0))) else (some false)).bind fun b4=>(bif b4 then (some true) else ((aR N a1 16).bind fun y6=>(bif y6 then (some (!decide (ai .i64 (Ei .i64 a1.Zd a0.Zd) 2=0))) else (some false)).bind fun b7=>some b7)).bind fun b5=>bif b5 then (some true) else (bif !decide (ai .i64 a0.Zd 8=0) then ((aR N a1 3).bind fun a6=>(bif a6 then (some true) else ((aR N a1 4).bind fun a7=>(bif a7 then ((kr N a1.Zq a0.Zq).bind fun a8=>some (!a8)) else (some false)).bind fun b0=>some b0)).bind fun b6=>(bif b6 then (some true) else ((aR N a1 8).bind fun b9=>(bif b9 then ((kr N a1.Zr a0.Zr).bind fun d0=>some (!d0)) else (some false)).bind fun d1=>some d1)).bind fun d2=>some d2) else ((aR N a1 12).bind fun d3=>bif d3 then (some true) else ((bif decide (ai .i64 a0.Zd 1=0) then ((aR N a1 2).bind fun d4=>(bif d4 then (some (!decide (ai .i64 a1.Zd 1=0))) else (some false)).bind fun d6=>(bif d6 then (some true) else ((aR N a1 1).bind fun e0=>(bif e0 then ((kr N a1.Value a0.Value).bind fun e1=>some (!e1)) else (some false)).bind fun e2=>some e2)).bind fun e3=>some e3) else (some false)).bind fun e4=>some e4)))
theorem Ip {N:Nat}{a0:WU}{a1:WG}{r:Bool}(h:ic N a0 a1=some r):Okc Xa 144 [(cc a0),(fV a1)] ([]) (fun u post=>u=.bool r/\post=[]):=by
 refine ce Tryz.func144 ?_;intro B1
 refine cl fun B2=> ?_
 refine sZ ?_
 refine cR h (fun _ k=>bG k) fun y3 h=> ?_
 refine ou 5 12 7 h (fun _ g4 h=> ?_) fun b4 h=> ?_
 ·refine ab ?_;refine eW (aI J J) J (ca g4 J) J ?_;exact gY
 refine ab ?_
 refine wT 12 25 13 h (fun _ g5 h=> ?_) fun b5 h=> ?_
 ·refine cR h (fun _ k=>bG k) fun y6 h=> ?_
  refine ou 8 24 16 h (fun _ g7 h=> ?_) fun b7 h=> ?_
  ·refine ab ?_;refine eW (Ld J J) J (ca g7 J) J ?_;refine eW (aI J J) J (ca g7 J) J ?_;exact gY
  exact gY
 refine dv h ?_ ?_<;>intro h
 ·exact eY
 refine sY ?_;refine fY (aI J J) ?_;refine gH J h ?_ ?_<;>intro h
 ·refine cR h (fun _ k=>bG k) fun a7 h=> ?_
  refine wT 11 43 32 h (fun _ a8 h=> ?_) fun b0 h=> ?_
  ·refine cR h (fun _ k=>bG k) fun b6 h=> ?_
   refine ou 7 42 35 h (fun _ b9 h=> ?_) fun d0 h=> ?_
   ·refine cR h (fun _ k=>vg k) fun d1 h=> ?_
    exact gY
   exact gY
  refine ab ?_
  refine wT 11 55 44 h (fun _ d2 h=> ?_) fun d3 h=> ?_
  ·refine cR h (fun _ k=>bG k) fun d4 h=> ?_
   refine ou 7 54 47 h (fun _ d6 h=> ?_) fun e0 h=> ?_
   ·refine cR h (fun _ k=>vg k) fun e1 h=> ?_
    exact gY
   exact gY
  exact eY
 refine sY ?_
 refine cR h (fun _ k=>bG k) fun e2 h=> ?_
 refine gH J h ?_ ?_<;>intro h
 ·exact eY
 refine ab ?_;refine fY (aI J J) ?_
 refine ou 21 83 62 h (fun _ e3 h=> ?_) fun e4 h=> ?_
 ·refine cR h (fun _ k=>bG k) fun e5 h=> ?_
  refine ou 5 70 65 h (fun _ a6 h=> ?_) fun e6 h=> ?_
  ·refine ab ?_;refine eW (aI J J) J (ca a6 J) J ?_;exact gY
  refine ab ?_
  refine wT 11 82 71 h (fun _ e7 h=> ?_) fun e8 h=> ?_
  ·refine cR h (fun _ k=>bG k) fun e9 h=> ?_
   refine ou 7 81 74 h (fun _ f0 h=> ?_) fun f1 h=> ?_
   ·refine cR h (fun _ k=>vg k) fun f2 h=> ?_
    exact gY
   exact gY
  exact gY
 exact eY
def du (a0:WU)(a1 a2:Bool)(a3:WL)(a4:WG):Option (WU×Bool):=
 bif !a1 then (bif !a2 then (some ((⟨(⟨0,0,⟨#[]⟩⟩:WL),0,(⟨0,0,⟨#[]⟩⟩:WV),(⟨0,0,⟨#[]⟩⟩:WV),(⟨0,0,⟨#[]⟩⟩:WV)⟩:WU),false)) else ((uP N a4 a3).bind fun y7=>some (y7,true))) else ((bif decide (ai .i64 a0.Zd 4=0) then ((ic N a0 a4).bind fun y9=>some y9) else (some false)).bind fun b8=>bif b8 then (some ((⟨(⟨0,0,⟨#[]⟩⟩:WL),0,(⟨0,0,⟨#[]⟩⟩:WV),(⟨0,0,⟨#[]⟩⟩:WV),(⟨0,0,⟨#[]⟩⟩:WV)⟩:WU),false)) else ((oN N a0 a3 a4).bind fun a6=>some (a6,true)))
theorem ve {N:Nat}{a0:WU}{a1 a2:Bool}{a3:WL}{a4:WG}{r:WU×Bool}(h:du N a0 a1 a2 a3 a4=some r):Okc Xa 102 [(cc a0),.bool a1,.bool a2,(eT a3),(fV a4)] ([]) (fun u post=>u=.tuple #[(cc r.1),.bool r.2]/\post=[]):=by
 refine ce Tryz.func102 ?_;intro B1
 refine cl fun B2=> ?_
 intro B3
 refine cl fun B4=> ?_
 refine sZ ?_;refine gH J h ?_ ?_<;>intro h
 ·refine sZ ?_;refine gH J h ?_ ?_<;>intro h
  ·exact eY
  refine cR h (fun _ k=>Iq k) fun y7 h=> ?_
  exact eN
 refine sY ?_;refine fY (aI J J) ?_
 refine ou 4 28 24 h (fun _ g8 h=> ?_) fun b8 h=> ?_
 ·refine cR h (fun _ k=>Ip k) fun y9 h=> ?_
  exact gY
 refine dv h ?_ ?_<;>intro h
 ·exact eY
 refine cR h (fun _ k=>yn k) fun a6 h=> ?_
 exact eN
def sx (N:Nat):Option (Int×Int×Bool):=
 some (0,0,false)
def ki (N:Nat)(a0:WQ)(a2:WL):Nat->Int->Int->Int->ByteArray->Int->Int->Option (Int×Int×Bool)
 |0,_,_,_,_,_,_=>none
 |a8+1,b0,p13,b5,p15,b6,a7=>bif decide (0<a7) then (bif decide ((⟨p13,b5,p15⟩:WL)=a2) then (aL (in64 (a7 - 1)) (some (a7 - 1,b6,true))) else ((aq a0.Zp b0).bind fun a6=>(ki N a0 a2 a8) a6.Up a6.Zf.Za a6.Zf.N a6.Zf.S a6.Zd a6.ZC)) else (sx N)
def dA (a0:WQ)(a1:Int)(a2:WL):Option (Int×Int×Bool):=
 (ft N a0 a1).bind fun y5=>bif !y5 then (some (0,0,false)) else ((aq a0.Zp a1).bind fun x8=>ki N a0 a2 N x8.Up x8.Zf.Za x8.Zf.N x8.Zf.S x8.Zd x8.ZC)
theorem kS {N:Nat}{a0:WQ}{r:Int×Int×Bool}(h:dA N a0 a1 a2=some r):Okc Xa 133 [pV B1 0,iV a1,(eT a2)] ([aW B1 170 [W A2 n2 c2,.map (some M3)],gK bC (W A2 n2 c2) a0.Zp,qJ eo vV M3 a0.ZD]) (fun u post=>u=.tuple #[iV r.1,iV r.2.1,.bool r.2.2]/\post=[]):=by
 refine ce Tryz.func133 ?_;intro B4;refine sY ?_
 refine cR h (fun _ k=>pm k) fun y5 h=> ?_
 refine gH J h ?_ ?_<;>intro h
 ·exact eY
 refine ab ?_;refine am (fun s L=>sx N=some r/\s=[(6,iV 0),(7,iV 0),(8,.bool false)]/\L=[]) ?_ ?_
 ·refine ab ?_;obtain ⟨x8,d1,d2,d3,h⟩:=bz h
  refine cl fun B9=> ?_
  refine lK (fun m s L=> ∃(a7:Int) (p13:Int) (a6:Int) (p15:ByteArray) (a8:Int) (b0:Int) (b5:Nat),ki N a0 a2 m a7 p13 a6 p15 a8 b0=some r/\s=[(0,pV B1 0),(5,pV B4 0),(6,iV 0),(7,iV 0),(8,.bool false),(9,pV b5 0)]/\L=[ah b5 166 [iV a7,iV p13,iV a6,.string p15,iV a8,iV b0],gK bC (W A2 n2 c2) a0.Zp,qJ eo vV M3 a0.ZD,aW B1 170 [W A2 n2 c2,.map (some M3)],ah B4 39 (lH a2)]) N ?_;rintro d4 _ _ ⟨a7,p13,a6,p15,a8,b0,b5,h,rfl,rfl⟩;rw [ki.eq_2] at h;refine sZ ?_;refine gH J h ?_ ?_<;>intro h
  ·refine sY ?_;refine fY (vO (x:=(⟨p13,a6,p15⟩:WL)) (y:=a2) J J) ?_;refine gH J h ?_ ?_<;>intro h
   ·refine dY [] ?_;refine ab ?_;obtain ⟨d6,h⟩:=ae h;exact eY
   refine sY ?_;intro e0;refine ab ?_;refine bh O _ (ad _) ?_;refine ab ?_;obtain ⟨b6,b7,b9,d0,h⟩:=bz h;refine ab ?_;refine gI 8 J O O (aj (us:=D9 b6) (cs':=D9 b6) 0 J J J J size166.out J J J) ?_;rintro _ _ rfl;exact lY
  exact jY
 rintro _ _ ⟨h,rfl,rfl⟩;exact eY
theorem xc {N:Nat}{a0:WQ}{r:Int×Int×Bool}(h:dA N a0 a1 a2=some r):Okc Xa 133 [pV B1 0,iV a1,(eT a2)] ([pDTable B1 a0]) (fun u post=>u=.tuple #[iV r.1,iV r.2.1,.bool r.2.2]/\post=[]):=Nr 0 rfl (fun _=>kS h)
def bZ (a0:WN)(a1:WL):Option (WU×Int×Bool):=
 (cV N a0.w_).bind fun y9=>(dA N a0.w_.Zp a0.Zn.Zi a1).bind fun a6=>bif !a6.2.2 then (some ((⟨(⟨0,0,⟨#[]⟩⟩:WL),0,(⟨0,0,⟨#[]⟩⟩:WV),(⟨0,0,⟨#[]⟩⟩:WV),(⟨0,0,⟨#[]⟩⟩:WV)⟩:WU),0,false)) else ((fM N a0 a6.1 a1 a6.2.1).bind fun a7=>some (a7,a6.1,true))
theorem kU {N:Nat}{a0:WN}{a1:WL}{r:WU×Int×Bool}(h:bZ N a0 a1=some r){B4 B5 B6:Nat}:Okc Xa 93 [pV B1 0,(eT a1)] ([aW B1 135 [iV a0.Zn.Za,iV a0.Zn.Zi,iV a0.Zn.Ze,iV a0.Zn.Zg,W A2 n2 c2,W A3 n3 c3,pV B4 0,iV a0.at_.Za,iV a0.at_.N,.string a0.at_.S],aY A2 n2 c2 a0.Zn.Zc,aY A3 n3 c3 a0.Zn.Zb,pDWorld B4 B5 B6 a0.w_]) (fun u post=>u=.tuple #[(cc r.1),iV r.2.1,.bool r.2.2]/\post=[]):=by
 refine ce Tryz.func93 ?_;intro B7
 refine cl fun B8=> ?_
 refine dY [0,1,2,3,5,6,7,8,9,10] ?_;obtain ⟨y9,k,h⟩:=aa h;refine zD 4 J (oR (eP k)) ?_;rintro _ _ ⟨_,⟨rfl,rfl⟩,rfl⟩;refine ⟨_,ad _,ad _,?_⟩;obtain ⟨a6,k,h⟩:=aa h;refine zD 11 J (oR (xc k)) ?_;rintro _ _ ⟨_,⟨rfl,rfl⟩,rfl⟩;refine ⟨_,ad _,ad _,?_⟩;refine zX [12,13,14,15,16,17,18] ?_;refine sY ?_;refine gH J h ?_ ?_<;>intro h
 ·exact eY
 refine cR h (fun _ k=>rW k) fun a7 h=> ?_
 exact eN
def px (N:Nat)(a0:Int):Option Bool:=
 (bif decide (0<=a0) then (some (decide (a0<=15))) else (some false)).bind fun b1=>(bif b1 then (some (!decide (ai .i64 a0 9=9))) else (some false)).bind fun b2=>some b2
theorem HL {N:Nat}{a0:Int}{r:Bool}(h:px N a0=some r):Okc Xa 176 [iV a0] ([]) (fun u post=>u=.bool r/\post=[]):=by
 refine ce Tryz.func176 ?_;refine gS 3 8 5 h ?_;intro b1 h;refine ab ?_
 refine ou 4 13 9 h (fun _ g2 h=> ?_) fun b2 h=> ?_
 ·refine ab ?_;refine eW (aI J J) J (ca g2 J) J ?_;exact gY
 exact eY
def fJ (a0:WQ)(a1:Int)(a2:WL)(a3:Int):Option Int:=
 (ft N a0 a1).bind fun y5=>bif !y5 then (some 2) else ((bc N a2).bind fun y7=>(bif !y7 then (some true) else ((px N a3).bind fun y9=>some (!y9))).bind fun b8=>bif b8 then (some 1) else (some 0))
theorem ni {N:Nat}{a0:WQ}{r:Int}(h:fJ N a0 a1 a2 a3=some r):Okc Xa 134 [pV B1 0,iV a1,(eT a2),iV a3] ([aW B1 170 [W A2 n2 c2,.map (some M3)],gK bC (W A2 n2 c2) a0.Zp,qJ eo vV M3 a0.ZD]) (fun u post=>u=iV r/\post=[]):=by
 refine ce Tryz.func134 ?_;intro B4;refine sY ?_;refine fY (dL J Tryz.underlying77) ?_;refine fG J ?_
 refine cR h (fun _ k=>pm k) fun y5 h=> ?_
 refine gH J h ?_ ?_<;>intro h
 ·exact eY
 refine cR h (fun _ k=>nM k) fun y7 h=> ?_
 refine wT 4 25 21 h (fun _ g8 h=> ?_) fun b8 h=> ?_
 ·refine cR h (fun _ k=>HL k) fun y9 h=> ?_
  exact gY
 refine dv h ?_ ?_<;>intro h
 ·exact eY
 exact eY
def qM (N:Nat)(p5:Int):Option Int:=
 some p5
def jG (N:Nat)(a2:Int)(a0:WQ):Nat->Int->Option Int
 |0,_=>none
 |m6+1,p7=>(aq a0.Zp p7).bind fun x8=>bif decide (a2<x8.ZC) then ((aq a0.Zp p7).bind fun a6=>(jG N a2 a0 m6) a6.Up) else (qM N p7)
def gN (a0:WQ)(a1 a2:Int):Option Int:=
 jG N a2 a0 N a1
theorem qL {N:Nat}{a0:WQ}{a2 r:Int}(h:gN N a0 a1 a2=some r):Okc Xa 136 [pV B1 0,iV a1,iV a2] ([aW B1 170 [W A2 n2 c2,.map (some M3)],gK bC (W A2 n2 c2) a0.Zp,qJ eo vV M3 a0.ZD]) (fun u post=>u=iV r/\post=[]):=by
 refine ce Tryz.func136 ?_;refine am (fun s L=> ∃p5,qM N p5=some r/\s=[(1,iV p5),(6,iV 0)]/\L=[]) ?_ ?_
 ·refine ab ?_;refine lK (fun m s L=> ∃(p7:Int),jG N a2 a0 m p7=some r/\s=[(0,pV B1 0),(1,iV p7),(2,iV a2),(6,iV 0)]/\L=[gK bC (W A2 n2 c2) a0.Zp,qJ eo vV M3 a0.ZD,aW B1 170 [W A2 n2 c2,.map (some M3)]]) N ?_;rintro m6 _ _ ⟨p7,h,rfl,rfl⟩;rw [jG.eq_2] at h;refine sZ ?_;obtain ⟨x8,a8,b0,b6,h⟩:=bz h;refine ab ?_;refine K7 (uB 0 J bj J (toNat_lt a8 b0) FH) ?_;refine gH J h ?_ ?_<;>intro h
  ·refine ab ?_;obtain ⟨b7,a6,a7,b5,h⟩:=bz h;refine ab ?_;refine K7 (sg 0 J bj J (toNat_lt a6 a7) FJ) ?_;exact lN
  exact jY
 rintro _ _ ⟨p5,h,rfl,rfl⟩;exact eY
def sv (N:Nat)(a6:Int)(p21:List WE)(a7:(List (WT×Int))):Option (Int×Int×WQ):=
 some (a6,0,(⟨p21,a7⟩:WQ))
def kQ (N:Nat)(p7:List WE):Nat->Int->Int->(List WE)->(List (WT×Int))->Option (Int×Int×WQ)
 |0,_,_,_,_=>none
 |b7+1,a7,b5,a8,b6=>bif decide (b5<(p7.length:Int)) then ((aq p7 b5).bind fun a6=>(aq a8 a7).bind fun b0=>aL (in64 (b0.ZC+1)) (aL (cF (a8.length+([(⟨a7,a6.Zf,a6.Zd,b0.ZC+1⟩:WE)]:List WE).length)) (aL (in64 (((a8++([(⟨a7,a6.Zf,a6.Zd,b0.ZC+1⟩:WE)]:List WE)).length:Int) - 1)) (aL (in64 (b5+1)) ((kQ N p7 b7) (((a8++([(⟨a7,a6.Zf,a6.Zd,b0.ZC+1⟩:WE)]:List WE)).length:Int) - 1) (b5+1) (a8++([(⟨a7,a6.Zf,a6.Zd,b0.ZC+1⟩:WE)]:List WE)) (yI b6 (⟨a7,a6.Zf,a6.Zd⟩:WT) (a8.length:Int))))))) else (sv N a7 a8 b6)
def gj (a0:WQ)(p6:Int)(p7:List WE):Option (Int×Int×WQ):=
 aL (in64 (1073741824 - (a0.Zp.length:Int))) (bif decide (1073741824 - (a0.Zp.length:Int)<(p7.length:Int)) then (some (0,5,a0)) else (kQ N p7 N p6 0 a0.Zp a0.ZD))
def lQ (N:Nat)(a0:WQ):Nat->Int->(List WE)->Option (Int×Int×WQ)
 |0,_,_=>none
 |m8+1,p9,a6=>bif decide (0<(a6.length:Int)) then ((aq a6 0).bind fun a7=>(aq a6 0).bind fun a8=>bif !((lk a0.ZD (⟨p9,a7.Zf,a8.Zd⟩:WT)).isSome) then (gj N a0 p9 a6) else (aL ((0:Int)<=1/\(1:Int).toNat<=a6.length/\a6.length<=a6.length) ((lQ N a0 m8) ((lk a0.ZD (⟨p9,a7.Zf,a8.Zd⟩:WT)).getD 0) ((a6.drop ((1:Int).toNat)).take (a6.length - (1:Int).toNat))))) else (gj N a0 p9 a6)
def kh (a0:WQ)(a1:Int)(a2:List WE):Option (Int×Int×WQ):=
 lQ N a0 N a1 a2
theorem pj {N:Nat}{a0:WQ}{a2:List WE}{r:Int×Int×WQ}(h:kh N a0 a1 a2=some r):Okc Xa 135 [pV B1 0,iV a1,W A4 n4 c4] ([gK bC (W A4 n4 c4) a2,ah B1 170 [W A2 n2 c2,.map (some M3)],bd bC 166 (W A2 n2 c2) a0.Zp,bB eo vV M3 a0.ZD]) (fun u post=> ∃A0 n0 c0 M1,u=.tuple #[iV r.1,iV r.2.1]/\post=[ah B1 170 [W A0 n0 c0,.map (some M1)],bd bC 166 (W A0 n0 c0) r.2.2.Zp,bB eo vV M1 r.2.2.ZD]):=by
 refine ce Tryz.func135 ?_;refine am (fun s L=> ∃p6 p7 A7 n7 c7,gj N a0 p6 p7=some r/\s=[(0,pV B1 0),(6,iV 0),(7,iV 0),(8,iV p6),(9,W A7 n7 c7)]/\L=[gK bC (W A7 n7 c7) p7,bd bC 166 (W A2 n2 c2) a0.Zp,bB eo vV M3 a0.ZD,ah B1 170 [W A2 n2 c2,.map (some M3)]]) ?_ ?_
 ·refine ab ?_;refine lK (fun m s L=> ∃(p9:Int) (e0:List WE) (e3:Option Addr) (e4 e5:Nat),lQ N a0 m p9 e0=some r/\s=[(0,pV B1 0),(6,iV 0),(7,iV 0),(8,iV p9),(9,W e3 e4 e5)]/\L=[gK bC (W e3 e4 e5) e0,bd bC 166 (W A2 n2 c2) a0.Zp,bB eo vV M3 a0.ZD,ah B1 170 [W A2 n2 c2,.map (some M3)]]) N ?_;rintro m8 _ _ ⟨p9,e0,e3,e4,e5,h,rfl,rfl⟩;rw [lQ.eq_2] at h;refine sZ ?_;refine gH J h ?_ ?_<;>intro h
  ·refine ab ?_;refine dY [] ?_;refine ab ?_;obtain ⟨g3,e6,e7,g4,h⟩:=bz h;refine ab ?_;refine zR 7 J (uB 0 J bj J (toNat_lt e6 e7) FI) ?_;refine ab ?_;obtain ⟨g5,e8,e9,g6,h⟩:=bz h;refine ab ?_;refine zR 11 J (uB 0 J bj J (toNat_lt e8 e9) BY) ?_;refine ab ?_;refine zR 14 J (Bh (a:=(⟨p9,g3.Zf,g5.Zd⟩:WT)) (z:=0) 2 J CP J J Tryz.underlying168 Fs zero3.out) ?_;refine sY ?_;refine gH J h ?_ ?_<;>intro h
   ·refine ab ?_;refine Vx J ?_;exact jY
   refine ab ?_;refine bh O _ (ad _) ?_;refine zY [0,1] ?_;obtain ⟨e1,h⟩:=ae h;refine II 0 J (l:=(1:Int).toNat) (h:=e0.length) e1.2.1 e1.2.2 ?_;rintro h5 h6 h7 g7;refine zR 2 J (Bi 1 J g7 J Wm size166.out J (by rw [Xp e1.1];rfl) e1.2.1) ?_;refine zX [3,4] ?_;exact lY
  exact jY
 rintro _ _ ⟨p6,p7,A7,n7,c7,h,rfl,rfl⟩;refine sZ ?_;obtain ⟨h8,h⟩:=ae h;refine dv h ?_ ?_<;>intro h
 ·exact eY
 refine ab ?_;refine am (fun s L=> ∃f0 p21 f1 f2 f3 f4,sv N f0 p21 f1=some r/\s=[(6,iV 0),(7,iV 0),(8,iV f0)]/\L=[bd bC 166 (W f2 f3 f4) p21,bB eo vV M3 f1,ah B1 170 [W f2 f3 f4,.map (some M3)]]) ?_ ?_
 ·refine ab ?_;refine lK (fun m s L=> ∃(a7:Int) (d2:Int) (b7:List WE) (e2:(List (WT×Int))) (a8:Option Addr) (b0 b5:Nat),kQ N p7 m a7 d2 b7 e2=some r/\s=[(0,pV B1 0),(6,iV 0),(7,iV 0),(8,iV a7),(51,W A7 n7 c7),(52,iV (p7.length:Int)),(53,iV d2)]/\L=[gK bC (W A7 n7 c7) p7,bd bC 166 (W a8 b0 b5) b7,bB eo vV M3 e2,ah B1 170 [W a8 b0 b5,.map (some M3)]]) N ?_;rintro h9 _ _ ⟨a7,d2,b7,e2,a8,b0,b5,h,rfl,rfl⟩;rw [kQ.eq_2] at h;refine ab ?_;refine aA ?_;refine gH J h ?_ ?_<;>intro h
  ·refine sY ?_;obtain ⟨a6,g8,g9,h0,h⟩:=bz h
   refine cl fun d3=> ?_
   refine dY [] ?_;refine ab ?_;refine gI 15 J O O (md (a:=(⟨a7,a6.Zf,a6.Zd⟩:WT)) (b:=(b7.length:Int)) 3 J J J J Tryz.underlying168 Fs) ?_;rintro _ _ rfl;refine ab ?_;refine aA ?_;obtain ⟨b6,d4,d6,f6,h⟩:=bz h;obtain ⟨f9,h⟩:=ae h;refine gw (t:=[(0,pV B1 0),(6,iV 0),(7,iV 0),(8,iV a7),(13,pV d3 0),(51,W A7 n7 c7),(52,iV (p7.length:Int)),(53,iV d2)]) ?_ mh (ad _)
   refine iW O 21 [0] [0,4,20] [72,73,74,75,76,77,78,79,80,81,82,83,84,85,86,87,88,89,90,91,92] [[],[],[1],[2],[3],[],[],[6],[],[8],[],[10],[11],[12],[],[13,14],[15],[16],[17],[5,7,9,18],[19]] [aV (pV B1 0),
aV (pV B1 0),
aV (pV B1 0),
aV (pV B1 0),
aV (W a8 b0 b5),
aV (iV a7),
aV (pV d3 1),
aV ((eT a6.Zf)),
aV (pV d3 4),
aV (iV a6.Zd),
aV (pV B1 0),
aV (pV B1 0),
aV (pV B1 0),
aV (W a8 b0 b5),
aV (iV a7),
aV (dF (W a8 b0 b5) a7.toNat 6 0),
aV (dF (W a8 b0 b5) a7.toNat 6 5),
aV (iV b6.ZC),
aV (iV (b6.ZC+1)),
aV (.agg #[iV a7,iV a6.Zf.Za,iV a6.Zf.N,.string a6.Zf.S,iV a6.Zd,iV (b6.ZC+1)]),
aX3 (fun (b9:Option Addr) (d0 d1:Nat)=> W b9 d0 d1) (fun b9 d0 d1=> [bd bC 166 (W b9 d0 d1) ([(⟨a7,a6.Zf,a6.Zd,b6.ZC+1⟩:WE)]:List WE)])] [] (ad _) (fA rfl mc) O rfl rfl ?_ ?_ ?_
   ·refine fz J ?_ ?_
    ·exact nD (ap J) J (iL J (ad _))
    exact mb
   ·refine aF J ?_ ?_
    ·refine th (aB (R:=bC) (vss:=[[iV a7,iV a6.Zf.Za,iV a6.Zf.N,.string a6.Zf.S,iV a6.Zd,iV (b6.ZC+1)]]) (xs:=[(⟨a7,a6.Zf,a6.Zd,b6.ZC+1⟩:WE)]) J (C6 _ _ _ _ _ _) J J (fun _ _ hr=> .cons J All2.nil)) J ?_;rintro _ _ ⟨h1,h2,h3,rfl,rfl⟩;exact NZ h1 h2 h3 (ad _)
    refine qE (nB J (bld_166_0_1_2_3 _ _ _ _ _ _).out) ?_;refine qE (iz J J f9.1 f9.2) ?_;refine aF J ?_ ?_
    ·exact yE (mq (u:=iV b6.ZC) 2 J ao J f6 va (fun _ _ _ h=>by rw [show _=_ from h];rfl)) J (iL J (ad _))
    refine qR (uB 2 J ao J (toNat_lt d4 d6) FH) ?_;refine qR (cM 2 J ao J J Wm size166.out d4 d6) ?_;refine qE (ap J) ?_;refine qR (ck 4 J J KJ J) ?_;refine qE (qx J BX) ?_;refine qE (dE J) ?_;refine qE (ap J) ?_;refine qR (ck 0 J J va J) ?_;refine qE (kH J BY) ?_;refine qR (ax (us:=lH a6.Zf) 0 J J agg39.out J) ?_;refine qE (kH J FI) ?_;refine qE (ap J) ?_;refine qR (ck 4 J J KJ J) ?_;refine qE (qx J BX) ?_;refine qE (dE J) ?_;refine qE (ap J) ?_;refine qE (ap J) ?_;exact dH
   intro b9 d0 d1;refine oe (t:=[(72,pV B1 0),(76,W a8 b0 b5),(92,W b9 d0 d1),(0,pV B1 0),(6,iV 0),(7,iV 0),(8,iV a7),(13,pV d3 0),(51,W A7 n7 c7),(52,iV (p7.length:Int)),(53,iV d2)]) (L':=[bd bC 166 (W b9 d0 d1) ([(⟨a7,a6.Zf,a6.Zd,b6.ZC+1⟩:WE)]:List WE),ah d3 166 (D9 a6),gK bC (W A7 n7 c7) p7,bd bC 166 (W a8 b0 b5) b7,bB eo vV M3 (yI e2 (⟨a7,a6.Zf,a6.Zd⟩:WT) (b7.length:Int)),ah B1 170 [W a8 b0 b5,.map (some M3)]]) ?_ mh (ad _);obtain ⟨h4,h⟩:=ae h;refine uk 21 J O (aX 3 0 J J ao J J Wm TX J J h4) J J J ?_;rintro _ _ ⟨g0,g1,g2,rfl,rfl⟩;refine Cn 22 J O (dE J) J J J ?_;refine Cn 23 J O (qx J BX) J J J ?_;refine pO 24 J O (aj (us:=[W g0 g1 g2]) (cs':=[W g0 g1 g2,.map (some M3)]) 5 J J J J size167.out J J J) J J ?_;rintro _ _ rfl;refine zW ?_;refine mg O ?_;refine ab ?_;obtain ⟨i0,h⟩:=ae h;refine ab ?_;obtain ⟨i1,h⟩:=ae h;exact lY
  exact jY
 rintro _ _ ⟨f0,p21,f1,f2,f3,f4,h,rfl,rfl⟩;exact eY
def d8 (a0:WQ)(a1:Int)(a2:WL):Option (Int×Int×WQ):=
 (fJ N a0 a1 a2 0).bind fun y5=>bif !decide (y5=0) then (some (0,y5,a0)) else ((dA N a0 a1 a2).bind fun y7=>bif !y7.2.2 then (some (0,3,a0)) else ((gN N a0 a1 y7.1).bind fun y9=>(fq N a0 a1).bind fun a6=>aL (in64 (y7.1+1)) (aL ((0:Int)<=y7.1+1/\(y7.1+1).toNat<=a6.length/\a6.length<=a6.length) ((kh N a0 y9 ((a6.drop ((y7.1+1).toNat)).take (a6.length - (y7.1+1).toNat))).bind fun a7=>some (a7.1,a7.2.1,a7.2.2)))))
theorem wb {N:Nat}{a0:WQ}{r:Int×Int×WQ}(h:d8 N a0 a1 a2=some r):Okc Xa 94 [pV B1 0,iV a1,(eT a2)] ([ah B1 170 [W A2 n2 c2,.map (some M3)],bd bC 166 (W A2 n2 c2) a0.Zp,bB eo vV M3 a0.ZD]) (fun u post=> ∃A0 n0 c0 M1,u=.tuple #[iV r.1,iV r.2.1]/\post=[ah B1 170 [W A0 n0 c0,.map (some M1)],bd bC 166 (W A0 n0 c0) r.2.2.Zp,bB eo vV M1 r.2.2.ZD]):=by
 refine ce Tryz.func94 ?_;intro B4;refine sY ?_
 refine cR h (fun _ k=>ni k) fun y5 h=> ?_
 refine gH J h ?_ ?_<;>intro h
 ·exact eY
 refine cR h (fun _ k=>kS k) fun y7 h=> ?_
 refine sZ ?_;refine gH J h ?_ ?_<;>intro h
 ·exact eY
 refine cR h (fun _ k=>qL k) fun y9 h=> ?_
 refine MB h (fun _ k=>lP k) fun a7 b0 b5 b6 h=> ?_
 obtain ⟨b7,h⟩:=ae h;refine ab ?_;refine mO (bv 0 J) ?_;obtain ⟨a6,h⟩:=ae h;refine Ql 0 J (l:=(y7.1+1).toNat) (h:=a7.length) a6.2.1 a6.2.2 ?_;rintro b9 d0 d1 a8;refine gR (Bi 1 J a8 J Wm size166.out J (by rw [Xp a6.1];rfl) a6.2.1) ?_;obtain ⟨d2,k,h⟩:=aa h;refine gD (oC (pj k)) ?_;rintro _ _ ⟨_,⟨d3,d4,d6,e0,rfl,rfl⟩,rfl⟩;exact eY
theorem uX {N:Nat}{a0:WQ}{r:Int×Int×WQ}(h:d8 N a0 a1 a2=some r):Okc Xa 94 [pV B1 0,iV a1,(eT a2)] ([oDTable B1 a0]) (fun u post=>u=.tuple #[iV r.1,iV r.2.1]/\post=[oDTable B1 r.2.2]):=LS 0 rfl (fun _=>wb h)
def sH (N:Nat)(a0:Int):Option Bool:=
 (bif decide (0<a0) then (some (decide (a0.tmod 2=0))) else (some false)).bind fun b1=>some b1
theorem Gc {N:Nat}{a0:Int}{r:Bool}(h:sH N a0=some r):Okc Xa 181 [iV a0] ([]) (fun u post=>u=.bool r/\post=[]):=by
 refine ce Tryz.func181 ?_
 refine ou 4 9 5 h (fun _ g1 h=> ?_) fun b1 h=> ?_
 ·refine ab ?_;refine eW (sn J J (by decide)) J (ca g1 J) J ?_;exact gY
 exact eY
def tc (N:Nat)(a0:WV):Option Bool:=
 (bif decide (a0.Za=7) then (some true) else (some (decide (a0.Za=9)))).bind fun b2=>some b2
theorem Gu {N:Nat}{a0:WV}{r:Bool}(h:tc N a0=some r):Okc Xa 205 [(aE a0)] ([]) (fun u post=>u=.bool r/\post=[]):=by
 refine ce Tryz.func205 ?_;intro B1;refine ab ?_;refine gS 4 10 6 h ?_;intro b2 h;exact eY
def fF (a1:Bool)(x8:Bool×WV):(W5)->Option (Option Exit×W5)
 |p9=>(bif x8.1==a1 then ((tc N x8.2).bind fun a6=>some a6) else (some false)).bind fun a7=>bif a7 then (aL (cF (p9.length+([x8.2.N]:List Int).length)) (some (none,p9++([x8.2.N]:List Int)))) else (some (none,p9))
def lC (a0:WI)(a1:Bool):Option W5:=
 (uh N a0).bind fun y6=>(oP N a0 (cN (fun x st=>fF N a1 x st)) (none,[])).bind fun a6=>qT a6.1 (some a6.2) none (fun _=>none)
theorem uR {N:Nat}{a0:WI}{a1:Bool}{r:W5}(h:lC N a0 a1=some r):Okc Xa 188 [.agg #[iV a0.Za,iV a0.Zi,iV a0.Ze,iV a0.Zg,W A1 n1 c1,W A2 n2 c2],.bool a1] ([aY A1 n1 c1 a0.Zc,aY A2 n2 c2 a0.Zb]) (fun u post=> ∃A0 n0 c0,u=W A0 n0 c0/\post=[ur A0 n0 c0 r]):=by
 refine ce Tryz.func188 ?_;intro B3
 refine cl fun B4=> ?_
 intro B5;refine sY ?_;obtain ⟨y6,k,h⟩:=aa h;refine gD (oR (DD k)) ?_;rintro _ _ ⟨_,⟨B7,rfl,rfl⟩,rfl⟩;refine ab ?_;refine gw ?_ bQ (lr 0 J);obtain ⟨a6,k,h⟩:=aa h;refine ul (en:=(fun x=> [.bool x.1,.agg #[iV x.2.Za,iV x.2.N,.string x.2.S]])) (fun x st=>fF N a1 x st) (fun (st:W5) (mz:((Option Addr×Nat×Nat)))=> [ah B4 4 [.bool a1],bd (nH .i64) 3 (.slice mz.1 mz.2.1 mz.2.2) st,ah B5 144 [.slice mz.1 mz.2.1 mz.2.2]]) [aW B7 94 (iS a0 A1 n1 c1 A2 n2 c2),aY A1 n1 c1 a0.Zc,aY A2 n2 c2 a0.Zb] ([]) ((none,0,0)) J J call199.out J (fun _=>J) (fun l G hY=>(yu k hY).mono fun _ _ hh=>hh.2) ((ci (nH .i64) 3 _).trans (bH [1,5,6] [] [3,0,2] 7 J)) h ?_ ?_ ?_ ?_
 ·rintro l x8 p9 je sr8 ⟨A9,n9,c9⟩ h;replace h:fF N a1 x8 p9=some (je,sr8):=h;simp only [AH,Yu,Yv,Yw,Yo,Yp,Y4,Xu]
  refine cl fun b6=> ?_
  refine fY (C4 J J Wu) ?_
  refine ou 3 18 15 h (fun _ b7 h=> ?_) fun b9 h=> ?_
  ·refine cR h (fun _ k=>Gu k) fun d0 h=> ?_
   exact gY
  refine dv h ?_ ?_<;>intro h
  ·refine ab ?_;refine gD (aB (R:=(nH .i64)) (vss:=[[iV x8.2.N]]) (xs:=[x8.2.N]) J (ru _) J J (fun _ _ hr=> .cons J All2.nil)) ?_;rintro _ _ ⟨d1,d2,d3,rfl,rfl⟩;obtain ⟨a7,h⟩:=ae h
   refine vc (aX 3 0 J J ao J J Wl Sg J J a7) fun a8 b0 b5=> ?_
   obtain ⟨rfl,rfl⟩:=YO (YM h);exact Da ((cS [2,3,4] 5).trans (fZ (a8,b0,b5) J))
  refine ab ?_;obtain ⟨rfl,rfl⟩:=YO (YM h);exact Da ((cS [1,2,3] 4).trans (fZ (A9,n9,c9) J))
 ·rintro ⟨A9,n9,c9⟩ h;refine qG ([ah B4 4 [.bool a1],ur A9 n9 c9 a6.2,ah B5 144 [W A9 n9 c9]]) J ?_;exact eY
 ·rintro ⟨A9,n9,c9⟩ h;exact aJ h
 rintro i ⟨A9,n9,c9⟩ h;exact aJ h
def nQ (a0:WI):Option W5:=
 (lC N a0 true).bind fun y4=>some y4
theorem vi {N:Nat}{a0:WI}{r:W5}(h:nQ N a0=some r):Okc Xa 156 [.agg #[iV a0.Za,iV a0.Zi,iV a0.Ze,iV a0.Zg,W A1 n1 c1,W A2 n2 c2]] ([aY A1 n1 c1 a0.Zc,aY A2 n2 c2 a0.Zb]) (fun u post=> ∃A0 n0 c0,u=W A0 n0 c0/\post=[ur A0 n0 c0 r]):=by
 refine ce Tryz.func156 ?_;intro B3
 refine MB h (fun _ k=>uR k) fun y4 A5 n5 c5 h=> ?_
 exact eN
def su (N:Nat)(ff:Int->Option Bool):Option Int:=
 some (-1)
def dO (N:Nat)(ff:Int->Option Bool)(a0:W5):Nat->Int->Option Int
 |0,_=>none
 |m3+1,p4=>bif decide (p4<(a0.length:Int)) then ((aq a0 p4).bind fun x6=>(ff x6).bind fun y7=>bif y7 then (some p4) else (aL (in64 (p4+1)) ((dO N ff a0 m3) (p4+1)))) else (su N ff)
def lI (a0:W5)(ff:Int->Option Bool):Option Int:=
 dO N ff a0 N 0
theorem zp {N:Nat}{a0:W5}{r:Int}(h:lI N a0 ff=some r)(hf:Qm Xa vf G (fun x=> [iV x]) (fun r=> .bool r) ff):Okc Xa 189 [W A1 n1 c1,vf] (xp A1 n1 c1 a0::G) (fun u post=>u=iV r/\post=[]):=by
 refine ce Tryz.func189 ?_;refine am (fun s L=>su N ff=some r/\s=[(4,iV 0)]/\L=G) ?_ ?_
 ·refine ab ?_;refine lK (fun m s L=> ∃(p4:Int),dO N ff a0 m p4=some r/\s=[(0,W A1 n1 c1),(1,vf),(4,iV 0),(7,iV (a0.length:Int)),(8,iV p4)]/\L=xp A1 n1 c1 a0::G) N ?_;rintro m3 _ _ ⟨p4,h,rfl,rfl⟩;rw [dO.eq_2] at h;refine ab ?_;refine aA ?_;refine gH J h ?_ ?_<;>intro h
  ·refine sY ?_;obtain ⟨x6,a6,a7,a8,h⟩:=bz h;refine ab ?_;obtain ⟨y7,k,h⟩:=aa h;refine gD (Ji (a:=x6) [xp A1 n1 c1 a0] hf k J J) ?_;rintro _ _ ⟨rfl,rfl⟩;refine dv h ?_ ?_<;>intro h
   ·exact eY
   refine ab ?_;obtain ⟨q9,h⟩:=ae h;exact lY
  exact jY
 rintro _ _ ⟨h,rfl,rfl⟩;exact eY
theorem wZ {r:Int}: ∀v post,((fun (u:Value) (post:W8)=>u=iV r/\post=[])) v post-> ∀c∈post,ij c:=by
 rintro _ _ ⟨rfl,rfl⟩;exact au
def cI (a0:W5)(ff:Int->Option Bool):Option Bool:=
 (lI N a0 ff).bind fun y2=>some (decide (0<=y2))
theorem lJ {N:Nat}{a0:W5}{r:Bool}(h:cI N a0 ff=some r)(hf:Qm Xa vf G (fun x=> [iV x]) (fun r=> .bool r) ff):Okc Xa 158 [W A1 n1 c1,vf] (xp A1 n1 c1 a0::G) (fun u post=>u=.bool r/\post=[]):=by
 refine ce Tryz.func158 ?_;obtain ⟨y2,k,h⟩:=aa h;refine F6 (aH (zp k hf) J (t5 (dc (i:=0) J J) (G0 (E:=[xp A1 n1 c1 a0]) hf.1)) wZ) ?_;exact eN
def nk (N:Nat)(a0:Int):Option Bool:=
 (bif decide (0<a0) then (some (decide (a0.tmod 2=1))) else (some false)).bind fun b1=>some b1
theorem wP {N:Nat}{a0:Int}{r:Bool}(h:nk N a0=some r):Okc Xa 204 [iV a0] ([]) (fun u post=>u=.bool r/\post=[]):=by
 refine ce Tryz.func204 ?_
 refine ou 4 9 5 h (fun _ g1 h=> ?_) fun b1 h=> ?_
 ·refine ab ?_;refine eW (sn J J (by decide)) J (ca g1 J) J ?_;exact gY
 exact eY
def oQ (a0:WI):Option W5:=
 (lC N a0 false).bind fun y4=>some y4
theorem yv {N:Nat}{a0:WI}{r:W5}(h:oQ N a0=some r):Okc Xa 157 [.agg #[iV a0.Za,iV a0.Zi,iV a0.Ze,iV a0.Zg,W A1 n1 c1,W A2 n2 c2]] ([aY A1 n1 c1 a0.Zc,aY A2 n2 c2 a0.Zb]) (fun u post=> ∃A0 n0 c0,u=W A0 n0 c0/\post=[ur A0 n0 c0 r]):=by
 refine ce Tryz.func157 ?_;intro B3
 refine MB h (fun _ k=>uR k) fun y4 A5 n5 c5 h=> ?_
 exact eN
def pY (a0:WI):Option Bool:=
 (nQ N a0).bind fun y4=>(cI N y4 (fun x=>nk N x)).bind fun y6=>(bif y6 then (some true) else ((oQ N a0).bind fun y8=>(cI N y8 (fun x=>nk N x)).bind fun a6=>some a6)).bind fun b7=>some b7
theorem DO {N:Nat}{a0:WI}{r:Bool}(h:pY N a0=some r):Okc Xa 182 [.agg #[iV a0.Za,iV a0.Zi,iV a0.Ze,iV a0.Zg,W A1 n1 c1,W A2 n2 c2]] ([aY A1 n1 c1 a0.Zc,aY A2 n2 c2 a0.Zb]) (fun u post=>u=.bool r/\post=[]):=by
 refine ce Tryz.func182 ?_;intro B3;refine ab ?_;obtain ⟨y4,k,h⟩:=aa h;refine gD (oR (vi k)) ?_;rintro _ _ ⟨_,⟨A5,n5,c5,rfl,rfl⟩,rfl⟩;obtain ⟨y6,k,h⟩:=aa h;refine F6 (oR (lJ k ⟨au,204, #[], #[],J,call204.out,fun _ _ hh=>wP hh⟩)) ?_
 refine wT 4 10 6 h (fun _ g7 h=> ?_) fun b7 h=> ?_
 ·refine ab ?_;obtain ⟨y8,k,h⟩:=aa h;refine Cp (oR (yv k)) J (dw g7 J) J ?_;rintro _ _ ⟨_,⟨A9,n9,c9,rfl,rfl⟩,rfl⟩;obtain ⟨a6,k,h⟩:=aa h;refine gU (oR (lJ k ⟨au,204, #[], #[],J,call204.out,fun _ _ hh=>wP hh⟩)) (dw g7 J) ?_;exact gY
 exact eY
def kT (N:Nat)(a1:Int)(a0:WR):Option (Bool×WR):=
 some (true,(⟨yI a0.at_ a1 true⟩:WR))
def cQ (a0:WR)(a1:Int)(a2:WI):Option (Bool×WR):=
 (sH N a1).bind fun y6=>bif !y6 then (some (false,a0)) else ((pY N a2).bind fun y8=>bif !y8 then (some (false,(⟨yp a0.at_ a1⟩:WR))) else (kT N a1 a0))
theorem jt {N:Nat}{a0:WR}{a2:WI}{r:Bool×WR}(h:cQ N a0 a1 a2=some r):Okc Xa 141 [pV B1 0,iV a1,.agg #[iV a2.Za,iV a2.Zi,iV a2.Ze,iV a2.Zg,W A3 n3 c3,W A4 n4 c4]] ([aY A3 n3 c3 a2.Zc,aY A4 n4 c4 a2.Zb,ah B1 213 [.map (some M2)],bB jK qP M2 a0.at_]) (fun u post=> ∃M0,u=.bool r.1/\post=[ah B1 213 [.map (some M0)],bB jK qP M0 r.2.at_]):=by
 refine ce Tryz.func141 ?_;intro B5;refine sY ?_;refine fY (dL J Wo) ?_
 refine cR h (fun _ k=>Gc k) fun y6 h=> ?_
 refine gH J h ?_ ?_<;>intro h
 ·exact eY
 refine sY ?_
 refine cR h (fun _ k=>DO k) fun y8 h=> ?_
 refine gH J h ?_ ?_<;>intro h
 ·refine ab ?_;refine G8 (GS (a:=a1) 4 J J J Wv (lq Wp)) ?_;exact eN
 refine ab ?_;refine am (fun s L=>kT N a1 a0=some r/\s=[(0,pV B1 0),(1,iV a1),(6,.bool false)]/\L=[bB jK qP M2 a0.at_,ah B1 213 [.map (some M2)]]) ?_ ?_
 ·refine ab ?_;refine fY (NT J Wv) ?_;refine fG J ?_;exact jY
 rintro _ _ ⟨h,rfl,rfl⟩;refine ab ?_;refine G8 (md (a:=a1) (b:=true) 0 J J J J Wv (lq Wp)) ?_;exact eN
theorem qN {r:Bool×WR}{B1:Nat}: ∀v post,((fun (u:Value) (post:W8)=> ∃M0,u=.bool r.1/\post=[ah B1 213 [.map (some M0)],bB jK qP M0 r.2.at_])) v post-> ∀c∈post,ij c:=by
 rintro _ _ ⟨_,rfl,rfl⟩;exact t5 BT (t5 CY (au))
end
section
variable {A1 A2 A3 A4 A5 A6 A7 A8 A9:Option Addr}{B1 B2 B3 B6 M3 M7 c1 c2 c3 c4 c5 c6 c7 c8 c9 n1 n2 n3 n4 n5 n6 n7 n8 n9:Nat}
open Go.RowKit Asn
set_option maxRecDepth 20000
def mY (N:Nat)(a0:WD)(y17_0:Int)(a6 a7:WI)(a8:(List (Int×Bool))):Option (Int×WD):=
 some (0,(⟨(⟨List.set (List.set a0.m_.Zh y17_0.toNat (⟨a6.Za,a6.Zi,a6.Ze,a6.Zg,a6.Zc,a6.Zb⟩:WI)) y17_0.toNat (⟨(⟨a6.Za,a6.Zi,a6.Ze,a6.Zg,a6.Zc,a6.Zb⟩:WI).Za,(⟨a6.Za,a6.Zi,a6.Ze,a6.Zg,a6.Zc,a6.Zb⟩:WI).Zi,(⟨a6.Za,a6.Zi,a6.Ze,a6.Zg,a6.Zc,a6.Zb⟩:WI).Ze,a7.Zg,(⟨a6.Za,a6.Zi,a6.Ze,a6.Zg,a6.Zc,a6.Zb⟩:WI).Zc,(⟨a6.Za,a6.Zi,a6.Ze,a6.Zg,a6.Zc,a6.Zb⟩:WI).Zb⟩:WI),a0.m_.Zj⟩:WK),a0.Zt,a0.Zv,(⟨a8⟩:WR)⟩:WD))
def mX (N:Nat)(a0:WD)(y17_1:Int)(a6 a7:WI)(a8:(List (Int×Bool))):Option (Int×WD):=
 some (0,(⟨(⟨a0.m_.Zh,List.set (List.set a0.m_.Zj y17_1.toNat (⟨a6.Za,a6.Zi,a6.Ze,a6.Zg,a6.Zc,a6.Zb⟩:WI)) y17_1.toNat (⟨(⟨a6.Za,a6.Zi,a6.Ze,a6.Zg,a6.Zc,a6.Zb⟩:WI).Za,(⟨a6.Za,a6.Zi,a6.Ze,a6.Zg,a6.Zc,a6.Zb⟩:WI).Zi,(⟨a6.Za,a6.Zi,a6.Ze,a6.Zg,a6.Zc,a6.Zb⟩:WI).Ze,a7.Zg,(⟨a6.Za,a6.Zi,a6.Ze,a6.Zg,a6.Zc,a6.Zb⟩:WI).Zc,(⟨a6.Za,a6.Zi,a6.Ze,a6.Zg,a6.Zc,a6.Zb⟩:WI).Zb⟩:WI)⟩:WK),a0.Zt,a0.Zv,(⟨a8⟩:WR)⟩:WD))
def mv (a0:WD)(a1:Int)(a2:WI):Option (Int×WD):=
 (aM N a0).bind fun b5=>bif b5 then (some (1,a0)) else ((jX N a0 a1).bind fun b6=>bif !b6 then (some (50,a0)) else ((gG N a2).bind fun b7=>bif !b7 then (some (51,a0)) else ((il N a0 a1).bind fun b9=>DY b9 (fun y17_0=>(aq a0.m_.Zh y17_0).bind fun a6=>(fS N a2).bind fun a7=>bif decide (a1.tmod 2=0) then ((cQ N a0.Zw a1 a2).bind fun d0=>mY N a0 y17_0 a7 a6 d0.2.at_) else (mY N a0 y17_0 a7 a6 a0.Zw.at_)) (fun y17_1=>(aq a0.m_.Zj y17_1).bind fun a8=>(fS N a2).bind fun b0=>bif decide (a1.tmod 2=0) then ((cQ N a0.Zw a1 a2).bind fun d1=>mX N a0 y17_1 b0 a8 d1.2.at_) else (mX N a0 y17_1 b0 a8 a0.Zw.at_)))))
theorem CV {N:Nat}{a0:WD}{a2:WI}{r:Int×WD}(h:mv N a0 a1 a2=some r):Okc Xa 97 [pV B1 0,iV a1,.agg #[iV a2.Za,iV a2.Zi,iV a2.Ze,iV a2.Zg,W A8 n8 c8,W A9 n9 c9]] ([aY A8 n8 c8 a2.Zc,aY A9 n9 c9 a2.Zb,ah B1 124 [W A2 n2 c2,W A3 n3 c3,W A4 n4 c4,W A5 n5 c5,pV B6 0],iJ A2 n2 c2 a0.m_.Zh,iJ A3 n3 c3 a0.m_.Zj,bf A4 n4 c4 a0.Zt,bf A5 n5 c5 a0.Zv,ah B6 213 [.map (some M7)],bB jK qP M7 a0.Zw.at_]) (fun u post=> ∃A0 n0 c0 A1 n1 c1 A2 n2 c2 A3 n3 c3 M4,u=iV r.1/\post=[ah B1 124 [W A0 n0 c0,W A1 n1 c1,W A2 n2 c2,W A3 n3 c3,pV B6 0],iJ A0 n0 c0 r.2.m_.Zh,iJ A1 n1 c1 r.2.m_.Zj,bf A2 n2 c2 r.2.Zt,bf A3 n3 c3 r.2.Zv,ah B6 213 [.map (some M4)],bB jK qP M4 r.2.Zw.at_]):=by
 refine ce Tryz.func97 ?_;intro e3;refine sY ?_
 refine cR h (fun _ k=>dj k) fun g0 h=> ?_
 refine gH J h ?_ ?_<;>intro h
 ·exact eY
 refine cR h (fun _ k=>ri k) fun g1 h=> ?_
 refine gH J h ?_ ?_<;>intro h
 ·exact eY
 refine cR h (fun _ k=>mI k) fun g2 h=> ?_
 refine gH J h ?_ ?_<;>intro h
 ·exact eY
 refine ab ?_;obtain ⟨f9,d2,h⟩:=aa h;rcases f9 with y17_0|y17_1
 ·replace h:=GD h;refine gD (oR (gt d2)) ?_;rintro _ _ ⟨_,⟨rfl,rfl⟩,rfl⟩;obtain ⟨d0,a8,b0,b7,h⟩:=bz h;refine ab ?_;refine gR (mT 4 J ao J (toNat_lt a8 b0)) ?_;refine gR (uB 4 J ao J (toNat_lt a8 b0) sV) ?_;refine K7 (mq (u:=iV d0.Zg) 4 J ao J b7 va (fun _ _ _ h=>by obtain ⟨_,_,_,_,_,_,e,_⟩:=h;rw [e];rfl)) ?_;obtain ⟨a6,k,h⟩:=aa h;refine gD (oR (iU k)) ?_;rintro _ _ ⟨_,⟨e4,e5,e6,e7,e8,e9,rfl,rfl⟩,rfl⟩;refine gR (mT 6 J ao J (toNat_lt a8 b0)) ?_;refine mO (bv 0 J) ?_;refine mO (bv 1 J) ?_;refine G8 (cg (us:=(iS a6 e4 e5 e6 e7 e8 e9)) (z:=(⟨a6.Za,a6.Zi,a6.Ze,a6.Zg,a6.Zc,a6.Zb⟩:WI)) 6 J J J J size94.out J (toNat_lt a8 b0) J (fun S w vs xk hk hr ho=>by obtain rfl:=YM (hk.symm.trans b7);obtain ⟨_,_,_,_,_,_,rfl,s4,s5⟩:=hr;exact ⟨_,_,_,_,_,_,rfl,ho 0 _ rfl rfl,ho 1 _ rfl rfl⟩)) ?_;have d3:=Ec (z:=(⟨a6.Za,a6.Zi,a6.Ze,a6.Zg,a6.Zc,a6.Zb⟩:WI)) b7;refine gR (mT 6 J ao J (sk (toNat_lt a8 b0))) ?_;refine gR (uB 6 J ao J (sk (toNat_lt a8 b0)) sV) ?_
  refine G8 (cg (us:=[iV d0.Zg]) (z:=(⟨(⟨a6.Za,a6.Zi,a6.Ze,a6.Zg,a6.Zc,a6.Zb⟩:WI).Za,(⟨a6.Za,a6.Zi,a6.Ze,a6.Zg,a6.Zc,a6.Zb⟩:WI).Zi,(⟨a6.Za,a6.Zi,a6.Ze,a6.Zg,a6.Zc,a6.Zb⟩:WI).Ze,d0.Zg,(⟨a6.Za,a6.Zi,a6.Ze,a6.Zg,a6.Zc,a6.Zb⟩:WI).Zc,(⟨a6.Za,a6.Zi,a6.Ze,a6.Zg,a6.Zc,a6.Zb⟩:WI).Zb⟩:WI)) 6 J J J J size3.out J (sk (toNat_lt a8 b0)) J (fun S w vs xk hk hr ho=>by obtain rfl:=YM (hk.symm.trans d3);obtain ⟨_,_,_,_,_,_,rfl,s4,s5⟩:=hr;exact ⟨_,_,_,_,_,_,rfl,s4,s5⟩)) ?_;refine am (fun s L=> ∃d4 d6,mY N a0 y17_0 a6 d0 d4=some r/\s=[(6,iV 0)]/\L=[iJ A2 n2 c2 (List.set (List.set a0.m_.Zh y17_0.toNat (⟨a6.Za,a6.Zi,a6.Ze,a6.Zg,a6.Zc,a6.Zb⟩:WI)) y17_0.toNat (⟨(⟨a6.Za,a6.Zi,a6.Ze,a6.Zg,a6.Zc,a6.Zb⟩:WI).Za,(⟨a6.Za,a6.Zi,a6.Ze,a6.Zg,a6.Zc,a6.Zb⟩:WI).Zi,(⟨a6.Za,a6.Zi,a6.Ze,a6.Zg,a6.Zc,a6.Zb⟩:WI).Ze,d0.Zg,(⟨a6.Za,a6.Zi,a6.Ze,a6.Zg,a6.Zc,a6.Zb⟩:WI).Zc,(⟨a6.Za,a6.Zi,a6.Ze,a6.Zg,a6.Zc,a6.Zb⟩:WI).Zb⟩:WI)),iJ A3 n3 c3 a0.m_.Zj,bf A4 n4 c4 a0.Zt,bf A5 n5 c5 a0.Zv,ah B1 124 [W A2 n2 c2,W A3 n3 c3,W A4 n4 c4,W A5 n5 c5,pV B6 0],bB jK qP d6 d4,ah B6 213 [.map (some d6)]]) ?_ ?_
  ·refine ab ?_;refine fY (sn J J (by decide)) ?_;refine gH J h ?_ ?_<;>intro h
   ·refine bh O ([aY e4 e5 e6 a6.Zc,aY e7 e8 e9 a6.Zb,ah e3 94 (iS a2 A8 n8 c8 A9 n9 c9),aY A8 n8 c8 a2.Zc,aY A9 n9 c9 a2.Zb,ah B1 124 [W A2 n2 c2,W A3 n3 c3,W A4 n4 c4,W A5 n5 c5,pV B6 0],iJ A2 n2 c2 (List.set (List.set a0.m_.Zh y17_0.toNat (⟨a6.Za,a6.Zi,a6.Ze,a6.Zg,a6.Zc,a6.Zb⟩:WI)) y17_0.toNat (⟨(⟨a6.Za,a6.Zi,a6.Ze,a6.Zg,a6.Zc,a6.Zb⟩:WI).Za,(⟨a6.Za,a6.Zi,a6.Ze,a6.Zg,a6.Zc,a6.Zb⟩:WI).Zi,(⟨a6.Za,a6.Zi,a6.Ze,a6.Zg,a6.Zc,a6.Zb⟩:WI).Ze,d0.Zg,(⟨a6.Za,a6.Zi,a6.Ze,a6.Zg,a6.Zc,a6.Zb⟩:WI).Zc,(⟨a6.Za,a6.Zi,a6.Ze,a6.Zg,a6.Zc,a6.Zb⟩:WI).Zb⟩:WI)),iJ A3 n3 c3 a0.m_.Zj,bf A4 n4 c4 a0.Zt,bf A5 n5 c5 a0.Zv]) (cS [0,1,2,3,4,5,6,7,8,9] 12) ?_;refine ab ?_;obtain ⟨g3,k,h⟩:=aa h
    refine MN 6 J (oC (jt k)) fun g4=> ?_
    exact jY
   exact jY
  rintro _ _ ⟨d4,d6,h,rfl,rfl⟩;exact eY
 replace h:=GC h;refine gD (oR (gt d2)) ?_;rintro _ _ ⟨_,⟨rfl,rfl⟩,rfl⟩;obtain ⟨d1,b5,b6,b9,h⟩:=bz h;refine ab ?_;refine gR (mT 5 J ao J (toNat_lt b5 b6)) ?_;refine gR (uB 5 J ao J (toNat_lt b5 b6) sV) ?_;refine K7 (mq (u:=iV d1.Zg) 5 J ao J b9 va (fun _ _ _ h=>by obtain ⟨_,_,_,_,_,_,e,_⟩:=h;rw [e];rfl)) ?_;obtain ⟨a7,k,h⟩:=aa h;refine gD (oR (iU k)) ?_;rintro _ _ ⟨_,⟨f0,f1,f2,f3,f4,f6,rfl,rfl⟩,rfl⟩;refine gR (mT 7 J ao J (toNat_lt b5 b6)) ?_;refine mO (bv 0 J) ?_;refine mO (bv 1 J) ?_;refine ab ?_;refine G8 (cg (us:=(iS a7 f0 f1 f2 f3 f4 f6)) (z:=(⟨a7.Za,a7.Zi,a7.Ze,a7.Zg,a7.Zc,a7.Zb⟩:WI)) 7 J J J J size94.out J (toNat_lt b5 b6) J (fun S w vs xk hk hr ho=>by obtain rfl:=YM (hk.symm.trans b9);obtain ⟨_,_,_,_,_,_,rfl,s4,s5⟩:=hr;exact ⟨_,_,_,_,_,_,rfl,ho 0 _ rfl rfl,ho 1 _ rfl rfl⟩)) ?_;have e0:=Ec (z:=(⟨a7.Za,a7.Zi,a7.Ze,a7.Zg,a7.Zc,a7.Zb⟩:WI)) b9;refine gR (mT 7 J ao J (sk (toNat_lt b5 b6))) ?_;refine gR (uB 7 J ao J (sk (toNat_lt b5 b6)) sV) ?_
 refine G8 (cg (us:=[iV d1.Zg]) (z:=(⟨(⟨a7.Za,a7.Zi,a7.Ze,a7.Zg,a7.Zc,a7.Zb⟩:WI).Za,(⟨a7.Za,a7.Zi,a7.Ze,a7.Zg,a7.Zc,a7.Zb⟩:WI).Zi,(⟨a7.Za,a7.Zi,a7.Ze,a7.Zg,a7.Zc,a7.Zb⟩:WI).Ze,d1.Zg,(⟨a7.Za,a7.Zi,a7.Ze,a7.Zg,a7.Zc,a7.Zb⟩:WI).Zc,(⟨a7.Za,a7.Zi,a7.Ze,a7.Zg,a7.Zc,a7.Zb⟩:WI).Zb⟩:WI)) 7 J J J J size3.out J (sk (toNat_lt b5 b6)) J (fun S w vs xk hk hr ho=>by obtain rfl:=YM (hk.symm.trans e0);obtain ⟨_,_,_,_,_,_,rfl,s4,s5⟩:=hr;exact ⟨_,_,_,_,_,_,rfl,s4,s5⟩)) ?_;refine am (fun s L=> ∃e1 e2,mX N a0 y17_1 a7 d1 e1=some r/\s=[(6,iV 0)]/\L=[iJ A2 n2 c2 a0.m_.Zh,iJ A3 n3 c3 (List.set (List.set a0.m_.Zj y17_1.toNat (⟨a7.Za,a7.Zi,a7.Ze,a7.Zg,a7.Zc,a7.Zb⟩:WI)) y17_1.toNat (⟨(⟨a7.Za,a7.Zi,a7.Ze,a7.Zg,a7.Zc,a7.Zb⟩:WI).Za,(⟨a7.Za,a7.Zi,a7.Ze,a7.Zg,a7.Zc,a7.Zb⟩:WI).Zi,(⟨a7.Za,a7.Zi,a7.Ze,a7.Zg,a7.Zc,a7.Zb⟩:WI).Ze,d1.Zg,(⟨a7.Za,a7.Zi,a7.Ze,a7.Zg,a7.Zc,a7.Zb⟩:WI).Zc,(⟨a7.Za,a7.Zi,a7.Ze,a7.Zg,a7.Zc,a7.Zb⟩:WI).Zb⟩:WI)),bf A4 n4 c4 a0.Zt,bf A5 n5 c5 a0.Zv,ah B1 124 [W A2 n2 c2,W A3 n3 c3,W A4 n4 c4,W A5 n5 c5,pV B6 0],bB jK qP e2 e1,ah B6 213 [.map (some e2)]]) ?_ ?_
 ·refine ab ?_;refine fY (sn J J (by decide)) ?_;refine gH J h ?_ ?_<;>intro h
  ·refine bh O ([aY f0 f1 f2 a7.Zc,aY f3 f4 f6 a7.Zb,ah e3 94 (iS a2 A8 n8 c8 A9 n9 c9),aY A8 n8 c8 a2.Zc,aY A9 n9 c9 a2.Zb,ah B1 124 [W A2 n2 c2,W A3 n3 c3,W A4 n4 c4,W A5 n5 c5,pV B6 0],iJ A2 n2 c2 a0.m_.Zh,iJ A3 n3 c3 (List.set (List.set a0.m_.Zj y17_1.toNat (⟨a7.Za,a7.Zi,a7.Ze,a7.Zg,a7.Zc,a7.Zb⟩:WI)) y17_1.toNat (⟨(⟨a7.Za,a7.Zi,a7.Ze,a7.Zg,a7.Zc,a7.Zb⟩:WI).Za,(⟨a7.Za,a7.Zi,a7.Ze,a7.Zg,a7.Zc,a7.Zb⟩:WI).Zi,(⟨a7.Za,a7.Zi,a7.Ze,a7.Zg,a7.Zc,a7.Zb⟩:WI).Ze,d1.Zg,(⟨a7.Za,a7.Zi,a7.Ze,a7.Zg,a7.Zc,a7.Zb⟩:WI).Zc,(⟨a7.Za,a7.Zi,a7.Ze,a7.Zg,a7.Zc,a7.Zb⟩:WI).Zb⟩:WI)),bf A4 n4 c4 a0.Zt,bf A5 n5 c5 a0.Zv]) (cS [0,1,2,3,4,5,6,7,8,9] 12) ?_;refine ab ?_;obtain ⟨g5,k,h⟩:=aa h
   refine MN 6 J (oC (jt k)) fun g6=> ?_
   exact jY
  exact jY
 rintro _ _ ⟨e1,e2,h,rfl,rfl⟩;exact eY
def oq (N:Nat)(a0:WD)(y17_0:Int)(a6 a7 a2:WI)(a8:(List (Int×Bool))):Option (Int×WD):=
 some (0,(⟨(⟨List.set (List.set a0.m_.Zh y17_0.toNat (⟨a6.Za,a6.Zi,a6.Ze,a6.Zg,a6.Zc,a6.Zb⟩:WI)) y17_0.toNat (⟨(⟨a6.Za,a6.Zi,a6.Ze,a6.Zg,a6.Zc,a6.Zb⟩:WI).Za,(⟨a6.Za,a6.Zi,a6.Ze,a6.Zg,a6.Zc,a6.Zb⟩:WI).Zi,(⟨a6.Za,a6.Zi,a6.Ze,a6.Zg,a6.Zc,a6.Zb⟩:WI).Ze,a7.Zg,(⟨a6.Za,a6.Zi,a6.Ze,a6.Zg,a6.Zc,a6.Zb⟩:WI).Zc,(⟨a6.Za,a6.Zi,a6.Ze,a6.Zg,a6.Zc,a6.Zb⟩:WI).Zb⟩:WI),a0.m_.Zj⟩:WK),a0.Zt,a0.Zv,(⟨a8⟩:WR)⟩:WD))
def oo (N:Nat)(a0:WD)(y17_1:Int)(a6 a7 a2:WI)(a8:(List (Int×Bool))):Option (Int×WD):=
 some (0,(⟨(⟨a0.m_.Zh,List.set (List.set a0.m_.Zj y17_1.toNat (⟨a6.Za,a6.Zi,a6.Ze,a6.Zg,a6.Zc,a6.Zb⟩:WI)) y17_1.toNat (⟨(⟨a6.Za,a6.Zi,a6.Ze,a6.Zg,a6.Zc,a6.Zb⟩:WI).Za,(⟨a6.Za,a6.Zi,a6.Ze,a6.Zg,a6.Zc,a6.Zb⟩:WI).Zi,(⟨a6.Za,a6.Zi,a6.Ze,a6.Zg,a6.Zc,a6.Zb⟩:WI).Ze,a7.Zg,(⟨a6.Za,a6.Zi,a6.Ze,a6.Zg,a6.Zc,a6.Zb⟩:WI).Zc,(⟨a6.Za,a6.Zi,a6.Ze,a6.Zg,a6.Zc,a6.Zb⟩:WI).Zb⟩:WI)⟩:WK),a0.Zt,a0.Zv,(⟨a8⟩:WR)⟩:WD))
def qu (a0:WD)(a1:Int)(a2:WI):Option (Int×WD):=
 (aM N a0).bind fun b5=>bif b5 then (some (1,a0)) else ((jX N a0 a1).bind fun b6=>bif !b6 then (some (50,a0)) else ((gG N a2).bind fun b7=>bif !b7 then (some (51,a0)) else ((il N a0 a1).bind fun b9=>DY b9 (fun y17_0=>(aq a0.m_.Zh y17_0).bind fun a6=>(fS N a2).bind fun a7=>bif decide (a1.tmod 2=0) then ((cQ N a0.Zw a1 a2).bind fun d0=>oq N a0 y17_0 a7 a6 a2 d0.2.at_) else (oq N a0 y17_0 a7 a6 a2 a0.Zw.at_)) (fun y17_1=>(aq a0.m_.Zj y17_1).bind fun a8=>(fS N a2).bind fun b0=>bif decide (a1.tmod 2=0) then ((cQ N a0.Zw a1 a2).bind fun d1=>oo N a0 y17_1 b0 a8 a2 d1.2.at_) else (oo N a0 y17_1 b0 a8 a2 a0.Zw.at_)))))
theorem AF {N:Nat}{a0:WD}{a2:WI}{r:Int×WD}(h:qu N a0 a1 a2=some r):Okc Xa 97 [pV B1 0,iV a1,.agg #[iV a2.Za,iV a2.Zi,iV a2.Ze,iV a2.Zg,W A8 n8 c8,W A9 n9 c9]] ([ah B1 124 [W A2 n2 c2,W A3 n3 c3,W A4 n4 c4,W A5 n5 c5,pV B6 0],iJ A2 n2 c2 a0.m_.Zh,iJ A3 n3 c3 a0.m_.Zj,bf A4 n4 c4 a0.Zt,bf A5 n5 c5 a0.Zv,ah B6 213 [.map (some M7)],bB jK qP M7 a0.Zw.at_,bf A8 n8 c8 a2.Zc,bf A9 n9 c9 a2.Zb]) (fun u post=> ∃d2 d3 d4 d6 e0 e1 e2 e3 e4 e5 e6 e7 e8,u=iV r.1/\post=[ah B1 124 [W d2 d3 d4,W d6 e0 e1,W e2 e3 e4,W e5 e6 e7,pV B6 0],iJ d2 d3 d4 r.2.m_.Zh,iJ d6 e0 e1 r.2.m_.Zj,bf e2 e3 e4 r.2.Zt,bf e5 e6 e7 r.2.Zv,ah B6 213 [.map (some e8)],bB jK qP e8 r.2.Zw.at_,bf A8 n8 c8 a2.Zc,bf A9 n9 c9 a2.Zb]):=by
 refine ce Tryz.func97 ?_;intro f9;refine sY ?_
 refine cR h (fun _ k=>dj k) fun h3 h=> ?_
 refine gH J h ?_ ?_<;>intro h
 ·exact eY
 refine cR h (fun _ k=>ri k) fun h4 h=> ?_
 refine gH J h ?_ ?_<;>intro h
 ·exact eY
 refine cR h (fun _ k=>mI k) fun h5 h=> ?_
 refine gH J h ?_ ?_<;>intro h
 ·exact eY
 refine ab ?_;obtain ⟨h2,e9,h⟩:=aa h;rcases h2 with y17_0|y17_1
 ·replace h:=GD h;refine gD (oR (gt e9)) ?_;rintro _ _ ⟨_,⟨rfl,rfl⟩,rfl⟩;obtain ⟨d0,a8,b0,b7,h⟩:=bz h;refine ab ?_;refine gR (mT 2 J ao J (toNat_lt a8 b0)) ?_;refine gR (uB 2 J ao J (toNat_lt a8 b0) sV) ?_;refine K7 (mq (u:=iV d0.Zg) 2 J ao J b7 va (fun _ _ _ h=>by obtain ⟨_,_,_,_,_,_,e,_⟩:=h;rw [e];rfl)) ?_;obtain ⟨a6,k,h⟩:=aa h;refine gD (oR (iU k)) ?_;rintro _ _ ⟨_,⟨g0,g1,g2,g3,g4,g5,rfl,rfl⟩,rfl⟩;refine gR (mT 4 J ao J (toNat_lt a8 b0)) ?_;refine mO (bv 0 J) ?_;refine mO (bv 1 J) ?_;refine G8 (cg (us:=(iS a6 g0 g1 g2 g3 g4 g5)) (z:=(⟨a6.Za,a6.Zi,a6.Ze,a6.Zg,a6.Zc,a6.Zb⟩:WI)) 4 J J J J size94.out J (toNat_lt a8 b0) J (fun S w vs xk hk hr ho=>by obtain rfl:=YM (hk.symm.trans b7);obtain ⟨_,_,_,_,_,_,rfl,s4,s5⟩:=hr;exact ⟨_,_,_,_,_,_,rfl,ho 0 _ rfl rfl,ho 1 _ rfl rfl⟩)) ?_;have f0:=Ec (z:=(⟨a6.Za,a6.Zi,a6.Ze,a6.Zg,a6.Zc,a6.Zb⟩:WI)) b7;refine gR (mT 4 J ao J (sk (toNat_lt a8 b0))) ?_;refine gR (uB 4 J ao J (sk (toNat_lt a8 b0)) sV) ?_
  refine G8 (cg (us:=[iV d0.Zg]) (z:=(⟨(⟨a6.Za,a6.Zi,a6.Ze,a6.Zg,a6.Zc,a6.Zb⟩:WI).Za,(⟨a6.Za,a6.Zi,a6.Ze,a6.Zg,a6.Zc,a6.Zb⟩:WI).Zi,(⟨a6.Za,a6.Zi,a6.Ze,a6.Zg,a6.Zc,a6.Zb⟩:WI).Ze,d0.Zg,(⟨a6.Za,a6.Zi,a6.Ze,a6.Zg,a6.Zc,a6.Zb⟩:WI).Zc,(⟨a6.Za,a6.Zi,a6.Ze,a6.Zg,a6.Zc,a6.Zb⟩:WI).Zb⟩:WI)) 4 J J J J size3.out J (sk (toNat_lt a8 b0)) J (fun S w vs xk hk hr ho=>by obtain rfl:=YM (hk.symm.trans f0);obtain ⟨_,_,_,_,_,_,rfl,s4,s5⟩:=hr;exact ⟨_,_,_,_,_,_,rfl,s4,s5⟩)) ?_;refine am (fun s L=> ∃f1 f2,oq N a0 y17_0 a6 d0 a2 f1=some r/\s=[(6,iV 0)]/\L=[iJ A2 n2 c2 (List.set (List.set a0.m_.Zh y17_0.toNat (⟨a6.Za,a6.Zi,a6.Ze,a6.Zg,a6.Zc,a6.Zb⟩:WI)) y17_0.toNat (⟨(⟨a6.Za,a6.Zi,a6.Ze,a6.Zg,a6.Zc,a6.Zb⟩:WI).Za,(⟨a6.Za,a6.Zi,a6.Ze,a6.Zg,a6.Zc,a6.Zb⟩:WI).Zi,(⟨a6.Za,a6.Zi,a6.Ze,a6.Zg,a6.Zc,a6.Zb⟩:WI).Ze,d0.Zg,(⟨a6.Za,a6.Zi,a6.Ze,a6.Zg,a6.Zc,a6.Zb⟩:WI).Zc,(⟨a6.Za,a6.Zi,a6.Ze,a6.Zg,a6.Zc,a6.Zb⟩:WI).Zb⟩:WI)),iJ A3 n3 c3 a0.m_.Zj,bf A4 n4 c4 a0.Zt,bf A5 n5 c5 a0.Zv,ah B1 124 [W A2 n2 c2,W A3 n3 c3,W A4 n4 c4,W A5 n5 c5,pV B6 0],bB jK qP f2 f1,ah B6 213 [.map (some f2)],bf A8 n8 c8 a2.Zc,bf A9 n9 c9 a2.Zb]) ?_ ?_
  ·refine ab ?_;refine fY (sn J J (by decide)) ?_;refine gH J h ?_ ?_<;>intro h
   ·refine bh O ([aY g0 g1 g2 a6.Zc,aY g3 g4 g5 a6.Zb,ah f9 94 (iS a2 A8 n8 c8 A9 n9 c9),ah B1 124 [W A2 n2 c2,W A3 n3 c3,W A4 n4 c4,W A5 n5 c5,pV B6 0],iJ A2 n2 c2 (List.set (List.set a0.m_.Zh y17_0.toNat (⟨a6.Za,a6.Zi,a6.Ze,a6.Zg,a6.Zc,a6.Zb⟩:WI)) y17_0.toNat (⟨(⟨a6.Za,a6.Zi,a6.Ze,a6.Zg,a6.Zc,a6.Zb⟩:WI).Za,(⟨a6.Za,a6.Zi,a6.Ze,a6.Zg,a6.Zc,a6.Zb⟩:WI).Zi,(⟨a6.Za,a6.Zi,a6.Ze,a6.Zg,a6.Zc,a6.Zb⟩:WI).Ze,d0.Zg,(⟨a6.Za,a6.Zi,a6.Ze,a6.Zg,a6.Zc,a6.Zb⟩:WI).Zc,(⟨a6.Za,a6.Zi,a6.Ze,a6.Zg,a6.Zc,a6.Zb⟩:WI).Zb⟩:WI)),iJ A3 n3 c3 a0.m_.Zj,bf A4 n4 c4 a0.Zt,bf A5 n5 c5 a0.Zv,bf A8 n8 c8 a2.Zc,bf A9 n9 c9 a2.Zb]) (cS [0,1,2,3,4,5,6,7,10,11] 12) ?_;refine ab ?_;obtain ⟨h6,k,h⟩:=aa h;refine kJ (cS [8,9,0,1,2,3,4,5,6,7,10,11] 12) (cS [2,3,4,5,6,7,8,9,10,11] 12) ?_
    refine MN 6 J (E8 2 2 (jt k) J J J J (t5 (tq (i:=10) J J) (t5 (tq (i:=11) J J) au)) qN) fun h7=> ?_
    exact jY
   exact jY
  rintro _ _ ⟨f1,f2,h,rfl,rfl⟩;exact eY
 replace h:=GC h;refine gD (oR (gt e9)) ?_;rintro _ _ ⟨_,⟨rfl,rfl⟩,rfl⟩;obtain ⟨d1,b5,b6,b9,h⟩:=bz h;refine ab ?_;refine gR (mT 3 J ao J (toNat_lt b5 b6)) ?_;refine gR (uB 3 J ao J (toNat_lt b5 b6) sV) ?_;refine K7 (mq (u:=iV d1.Zg) 3 J ao J b9 va (fun _ _ _ h=>by obtain ⟨_,_,_,_,_,_,e,_⟩:=h;rw [e];rfl)) ?_;obtain ⟨a7,k,h⟩:=aa h;refine gD (oR (iU k)) ?_;rintro _ _ ⟨_,⟨g6,g7,g8,g9,h0,h1,rfl,rfl⟩,rfl⟩;refine gR (mT 5 J ao J (toNat_lt b5 b6)) ?_;refine mO (bv 0 J) ?_;refine mO (bv 1 J) ?_;refine ab ?_;refine G8 (cg (us:=(iS a7 g6 g7 g8 g9 h0 h1)) (z:=(⟨a7.Za,a7.Zi,a7.Ze,a7.Zg,a7.Zc,a7.Zb⟩:WI)) 5 J J J J size94.out J (toNat_lt b5 b6) J (fun S w vs xk hk hr ho=>by obtain rfl:=YM (hk.symm.trans b9);obtain ⟨_,_,_,_,_,_,rfl,s4,s5⟩:=hr;exact ⟨_,_,_,_,_,_,rfl,ho 0 _ rfl rfl,ho 1 _ rfl rfl⟩)) ?_;have f3:=Ec (z:=(⟨a7.Za,a7.Zi,a7.Ze,a7.Zg,a7.Zc,a7.Zb⟩:WI)) b9;refine gR (mT 5 J ao J (sk (toNat_lt b5 b6))) ?_;refine gR (uB 5 J ao J (sk (toNat_lt b5 b6)) sV) ?_
 refine G8 (cg (us:=[iV d1.Zg]) (z:=(⟨(⟨a7.Za,a7.Zi,a7.Ze,a7.Zg,a7.Zc,a7.Zb⟩:WI).Za,(⟨a7.Za,a7.Zi,a7.Ze,a7.Zg,a7.Zc,a7.Zb⟩:WI).Zi,(⟨a7.Za,a7.Zi,a7.Ze,a7.Zg,a7.Zc,a7.Zb⟩:WI).Ze,d1.Zg,(⟨a7.Za,a7.Zi,a7.Ze,a7.Zg,a7.Zc,a7.Zb⟩:WI).Zc,(⟨a7.Za,a7.Zi,a7.Ze,a7.Zg,a7.Zc,a7.Zb⟩:WI).Zb⟩:WI)) 5 J J J J size3.out J (sk (toNat_lt b5 b6)) J (fun S w vs xk hk hr ho=>by obtain rfl:=YM (hk.symm.trans f3);obtain ⟨_,_,_,_,_,_,rfl,s4,s5⟩:=hr;exact ⟨_,_,_,_,_,_,rfl,s4,s5⟩)) ?_;refine am (fun s L=> ∃f4 f6,oo N a0 y17_1 a7 d1 a2 f4=some r/\s=[(6,iV 0)]/\L=[iJ A2 n2 c2 a0.m_.Zh,iJ A3 n3 c3 (List.set (List.set a0.m_.Zj y17_1.toNat (⟨a7.Za,a7.Zi,a7.Ze,a7.Zg,a7.Zc,a7.Zb⟩:WI)) y17_1.toNat (⟨(⟨a7.Za,a7.Zi,a7.Ze,a7.Zg,a7.Zc,a7.Zb⟩:WI).Za,(⟨a7.Za,a7.Zi,a7.Ze,a7.Zg,a7.Zc,a7.Zb⟩:WI).Zi,(⟨a7.Za,a7.Zi,a7.Ze,a7.Zg,a7.Zc,a7.Zb⟩:WI).Ze,d1.Zg,(⟨a7.Za,a7.Zi,a7.Ze,a7.Zg,a7.Zc,a7.Zb⟩:WI).Zc,(⟨a7.Za,a7.Zi,a7.Ze,a7.Zg,a7.Zc,a7.Zb⟩:WI).Zb⟩:WI)),bf A4 n4 c4 a0.Zt,bf A5 n5 c5 a0.Zv,ah B1 124 [W A2 n2 c2,W A3 n3 c3,W A4 n4 c4,W A5 n5 c5,pV B6 0],bB jK qP f6 f4,ah B6 213 [.map (some f6)],bf A8 n8 c8 a2.Zc,bf A9 n9 c9 a2.Zb]) ?_ ?_
 ·refine ab ?_;refine fY (sn J J (by decide)) ?_;refine gH J h ?_ ?_<;>intro h
  ·refine bh O ([aY g6 g7 g8 a7.Zc,aY g9 h0 h1 a7.Zb,ah f9 94 (iS a2 A8 n8 c8 A9 n9 c9),ah B1 124 [W A2 n2 c2,W A3 n3 c3,W A4 n4 c4,W A5 n5 c5,pV B6 0],iJ A2 n2 c2 a0.m_.Zh,iJ A3 n3 c3 (List.set (List.set a0.m_.Zj y17_1.toNat (⟨a7.Za,a7.Zi,a7.Ze,a7.Zg,a7.Zc,a7.Zb⟩:WI)) y17_1.toNat (⟨(⟨a7.Za,a7.Zi,a7.Ze,a7.Zg,a7.Zc,a7.Zb⟩:WI).Za,(⟨a7.Za,a7.Zi,a7.Ze,a7.Zg,a7.Zc,a7.Zb⟩:WI).Zi,(⟨a7.Za,a7.Zi,a7.Ze,a7.Zg,a7.Zc,a7.Zb⟩:WI).Ze,d1.Zg,(⟨a7.Za,a7.Zi,a7.Ze,a7.Zg,a7.Zc,a7.Zb⟩:WI).Zc,(⟨a7.Za,a7.Zi,a7.Ze,a7.Zg,a7.Zc,a7.Zb⟩:WI).Zb⟩:WI)),bf A4 n4 c4 a0.Zt,bf A5 n5 c5 a0.Zv,bf A8 n8 c8 a2.Zc,bf A9 n9 c9 a2.Zb]) (cS [0,1,2,3,4,5,6,7,10,11] 12) ?_;refine ab ?_;obtain ⟨h8,k,h⟩:=aa h;refine kJ (cS [8,9,0,1,2,3,4,5,6,7,10,11] 12) (cS [2,3,4,5,6,7,8,9,10,11] 12) ?_
   refine MN 6 J (E8 2 2 (jt k) J J J J (t5 (tq (i:=10) J J) (t5 (tq (i:=11) J J) au)) qN) fun h9=> ?_
   exact jY
  exact jY
 rintro _ _ ⟨f4,f6,h,rfl,rfl⟩;exact eY
theorem AE {N:Nat}{a0:WD}{a2:WI}{r:Int×WD}(h:mv N a0 a1 a2=some r):Okc Xa 97 [pV B1 0,iV a1,.agg #[iV a2.Za,iV a2.Zi,iV a2.Ze,iV a2.Zg,W A2 n2 c2,W A3 n3 c3]] ([aY A2 n2 c2 a2.Zc,aY A3 n3 c3 a2.Zb,oDHeap B1 a0]) (fun u post=>u=iV r.1/\post=[oDHeap B1 r.2]):=LS 2 rfl (fun _=>CV h)
theorem yf {N:Nat}{a0:WD}{a2:WI}{r:Int×WD}(h:qu N a0 a1 a2=some r):Okc Xa 97 [pV B1 0,iV a1,.agg #[iV a2.Za,iV a2.Zi,iV a2.Ze,iV a2.Zg,W A2 n2 c2,W A3 n3 c3]] ([oDHeap B1 a0,bf A2 n2 c2 a2.Zc,bf A3 n3 c3 a2.Zb]) (fun u post=>u=iV r.1/\post=[oDHeap B1 r.2,bf A2 n2 c2 a2.Zc,bf A3 n3 c3 a2.Zb]):=LS 0 rfl (fun _=>AF h)
def az (a0:WM)(a1:WV)(a2:WI):Option WM:=
 (iZ N a1).bind fun a6=>bif a6 then ((mv N a0.Zo a1.N a2).bind fun a7=>some (⟨a0.ZB,a0.Zu,(),a7.2,a0.Zp,a0.Zy,a0.ZE,a0.ZF,a0.ZG,a0.Zz,a0.ZA⟩:WM)) else (some a0)
theorem Ak {N:Nat}{a1:WV}{a2:WI}{r:WM}(h:az N a0 a1 a2=some r):Okc Xa 51 [pV B1 0,(aE a1),.agg #[iV a2.Za,iV a2.Zi,iV a2.Ze,iV a2.Zg,W A7 n7 c7,W A8 n8 c8]] ([aY A7 n7 c7 a2.Zc,aY A8 n8 c8 a2.Zb,ah B1 81 (zZ a0 B2 B3 A4 n4 c4 A5 n5 c5 A6 n6 c6),oDHeap B2 a0.Zo,oDTable B3 a0.Zp,pJ A4 n4 c4 a0.Zy,AB A5 n5 c5 a0.Zz,pJ A6 n6 c6 a0.ZA]) (fun u post=> ∃A0 n0 c0 A1 n1 c1 A2 n2 c2,u=.tuple #[]/\post=[ah B1 81 (zZ r B2 B3 A0 n0 c0 A1 n1 c1 A2 n2 c2),oDHeap B2 r.Zo,oDTable B3 r.Zp,pJ A0 n0 c0 r.Zy,AB A1 n1 c1 r.Zz,pJ A2 n2 c2 r.ZA]):=by
 refine ce Tryz.func51 ?_;intro B9
 refine cl fun a6=> ?_
 refine fY (vQ J Ws) ?_
 refine cR h (fun _ k=>tI k) fun a7 h=> ?_
 refine gH J h ?_ ?_<;>intro h
 ·refine bh O ([ah a6 94 (iS a2 A7 n7 c7 A8 n8 c8),ah B9 28 (bP a1),aY A7 n7 c7 a2.Zc,aY A8 n8 c8 a2.Zb,ah B1 81 (zZ a0 B2 B3 A4 n4 c4 A5 n5 c5 A6 n6 c6),oDTable B3 a0.Zp,pJ A4 n4 c4 a0.Zy,AB A5 n5 c5 a0.Zz,pJ A6 n6 c6 a0.ZA]) (cS [0,1,2,3,4,6,7,8,9] 10) ?_;refine ab ?_;obtain ⟨a8,k,h⟩:=aa h;refine zD 7 J (oC (AE k)) ?_;rintro _ _ ⟨_,⟨rfl,rfl⟩,rfl⟩;refine bY ?_;exact eY
 exact eY
def iD (a0:WM)(a1:WV)(a2:WI):Option WM:=
 (iZ N a1).bind fun a6=>bif a6 then ((qu N a0.Zo a1.N a2).bind fun a7=>some (⟨a0.ZB,a0.Zu,(),a7.2,a0.Zp,a0.Zy,a0.ZE,a0.ZF,a0.ZG,a0.Zz,a0.ZA⟩:WM)) else (some a0)
theorem xG {N:Nat}{a1:WV}{a2:WI}{r:WM}(h:iD N a0 a1 a2=some r):Okc Xa 51 [pV B1 0,(aE a1),.agg #[iV a2.Za,iV a2.Zi,iV a2.Ze,iV a2.Zg,W A7 n7 c7,W A8 n8 c8]] ([ah B1 81 (zZ a0 B2 B3 A4 n4 c4 A5 n5 c5 A6 n6 c6),oDHeap B2 a0.Zo,oDTable B3 a0.Zp,pJ A4 n4 c4 a0.Zy,AB A5 n5 c5 a0.Zz,pJ A6 n6 c6 a0.ZA,bf A7 n7 c7 a2.Zc,bf A8 n8 c8 a2.Zb]) (fun u post=> ∃a6 a7 a8 b0 b5 b6 b7 b9 d0,u=.tuple #[]/\post=[ah B1 81 (zZ r B2 B3 a6 a7 a8 b0 b5 b6 b7 b9 d0),oDHeap B2 r.Zo,oDTable B3 r.Zp,pJ a6 a7 a8 r.Zy,AB b0 b5 b6 r.Zz,pJ b7 b9 d0 r.ZA,bf A7 n7 c7 a2.Zc,bf A8 n8 c8 a2.Zb]):=by
 refine ce Tryz.func51 ?_;intro B9
 refine cl fun d1=> ?_
 refine fY (vQ J Ws) ?_
 refine cR h (fun _ k=>tI k) fun d2 h=> ?_
 refine gH J h ?_ ?_<;>intro h
 ·refine bh O ([ah d1 94 (iS a2 A7 n7 c7 A8 n8 c8),ah B9 28 (bP a1),ah B1 81 (zZ a0 B2 B3 A4 n4 c4 A5 n5 c5 A6 n6 c6),oDTable B3 a0.Zp,pJ A4 n4 c4 a0.Zy,AB A5 n5 c5 a0.Zz,pJ A6 n6 c6 a0.ZA,bf A7 n7 c7 a2.Zc,bf A8 n8 c8 a2.Zb]) (cS [0,1,2,4,5,6,7,8,9] 10) ?_;refine ab ?_;obtain ⟨d3,k,h⟩:=aa h;refine zD 7 J (oC (yf k)) ?_;rintro _ _ ⟨_,⟨rfl,rfl⟩,rfl⟩;refine bY ?_;exact eY
 exact eY
theorem dB {N:Nat}{a1:WV}{a2:WI}{r:WM}(h:az N a0 a1 a2=some r){B1 B2 B3:Nat}:Okc Xa 51 [pV B1 0,(aE a1),.agg #[iV a2.Za,iV a2.Zi,iV a2.Ze,iV a2.Zg,W A4 n4 c4,W A5 n5 c5]] ([aY A4 n4 c4 a2.Zc,aY A5 n5 c5 a2.Zb,oDWorld B1 B2 B3 a0]) (fun u post=>u=.tuple #[]/\post=[oDWorld B1 B2 B3 r]):=LS 2 rfl (fun _=>Ak h)
theorem wi {N:Nat}{a1:WV}{a2:WI}{r:WM}(h:iD N a0 a1 a2=some r){B1 B2 B3:Nat}:Okc Xa 51 [pV B1 0,(aE a1),.agg #[iV a2.Za,iV a2.Zi,iV a2.Ze,iV a2.Zg,W A4 n4 c4,W A5 n5 c5]] ([oDWorld B1 B2 B3 a0,bf A4 n4 c4 a2.Zc,bf A5 n5 c5 a2.Zb]) (fun u post=>u=.tuple #[]/\post=[oDWorld B1 B2 B3 r,bf A4 n4 c4 a2.Zc,bf A5 n5 c5 a2.Zb]):=LS 0 rfl (fun _=>xG h)
def om (N:Nat)(a0:WM):Option WM:=
 aL (in64 (a0.ZE+1)) (some (⟨a0.ZB,a0.Zu,(),a0.Zo,a0.Zp,a0.Zy,a0.ZE+1,a0.ZF,a0.ZG,a0.Zz,a0.ZA⟩:WM))
theorem xF {N:Nat}{r:WM}(h:om N a0=some r):Okc Xa 119 [pV B1 0] ([ah B1 81 (zZ a0 B2 B3 A4 n4 c4 A5 n5 c5 A6 n6 c6),oDHeap B2 a0.Zo,oDTable B3 a0.Zp,pJ A4 n4 c4 a0.Zy,AB A5 n5 c5 a0.Zz,pJ A6 n6 c6 a0.ZA]) (fun u post=> ∃A0 n0 c0 A1 n1 c1 A2 n2 c2,u=.tuple #[]/\post=[ah B1 81 (zZ r B2 B3 A0 n0 c0 A1 n1 c1 A2 n2 c2),oDHeap B2 r.Zo,oDTable B3 r.Zp,pJ A0 n0 c0 r.Zy,AB A1 n1 c1 r.Zz,pJ A2 n2 c2 r.ZA]):=by
 refine ce Tryz.func119 ?_;refine fY (vQ J Ws) ?_;refine iN J ?_;refine ab ?_;obtain ⟨q7,h⟩:=ae h;exact eY
theorem wh {N:Nat}{r:WM}(h:om N a0=some r){B1 B2 B3:Nat}:Okc Xa 119 [pV B1 0] ([oDWorld B1 B2 B3 a0]) (fun u post=>u=.tuple #[]/\post=[oDWorld B1 B2 B3 r]):=LS 0 rfl (fun _=>xF h)
def bJ (a0:WN)(a1:Bool):Option WN:=
 (iD N a0.w_ a0.at_ a0.Zn).bind fun y7=>(bif a1 then (some (!decide (ai .i64 a0.Zn.Ze 16=0))) else (some false)).bind fun b8=>bif b8 then ((om N y7).bind fun a6=>some (⟨a0.Zn,a6,a0.at_⟩:WN)) else (some (⟨a0.Zn,y7,a0.at_⟩:WN))
theorem jI {N:Nat}{a0:WN}{a1:Bool}{r:WN}(h:bJ N a0 a1=some r){B4 B5 B6:Nat}:Okc Xa 79 [pV B1 0,.bool a1] ([ah B1 135 [iV a0.Zn.Za,iV a0.Zn.Zi,iV a0.Zn.Ze,iV a0.Zn.Zg,W A2 n2 c2,W A3 n3 c3,pV B4 0,iV a0.at_.Za,iV a0.at_.N,.string a0.at_.S],bf A2 n2 c2 a0.Zn.Zc,bf A3 n3 c3 a0.Zn.Zb,oDWorld B4 B5 B6 a0.w_]) (fun u post=> ∃A0 n0 c0 A1 n1 c1,u=.tuple #[]/\post=[ah B1 135 [iV r.Zn.Za,iV r.Zn.Zi,iV r.Zn.Ze,iV r.Zn.Zg,W A0 n0 c0,W A1 n1 c1,pV B4 0,iV r.at_.Za,iV r.at_.N,.string r.at_.S],bf A0 n0 c0 r.Zn.Zc,bf A1 n1 c1 r.Zn.Zb,oDWorld B4 B5 B6 r.w_]):=by
 refine CJ Tryz.func79 J J ?_;simp only [qQ];refine aA ?_;refine bh O ([ah B1 135 [iV a0.Zn.Za,iV a0.Zn.Zi,iV a0.Zn.Ze,iV a0.Zn.Zg,W A2 n2 c2,W A3 n3 c3,pV B4 0,iV a0.at_.Za,iV a0.at_.N,.string a0.at_.S],bf A2 n2 c2 a0.Zn.Zc,bf A3 n3 c3 a0.Zn.Zb]) (cS [0,1,2] 4) ?_;refine ab ?_;obtain ⟨y7,k,h⟩:=aa h;refine zD 12 J (oC (wi k)) ?_;rintro _ _ ⟨_,⟨rfl,rfl⟩,rfl⟩;refine bY ?_;refine ab ?_
 refine ou 8 26 18 h (fun _ g8 h=> ?_) fun b8 h=> ?_
 ·refine ab ?_;refine eW (aI J J) J (ca g8 J) J ?_;exact gY
 refine dv h ?_ ?_<;>intro h
 ·refine cC h (fun _ k=>wh k) fun a6 h=> ?_
  exact eN
 exact eY
def fQ (a0:WM)(a1:WV)(a2:WL):Option (Bool×WM):=
 (gF N a0 a1).bind fun y6=>DY y6 (fun y6_0=>some (false,a0)) (fun y6_1=>(bZ N (⟨y6_1.Zn,a0,y6_1.at_⟩:WN) a2).bind fun a6=>bif !a6.2.2 then (some (true,a0)) else (bif decide (ai .i64 a6.1.Zd 4=0) then (some (false,a0)) else ((cV N a0).bind fun b5=>(d8 N a0.Zp y6_1.Zn.Zi a2).bind fun a7=>bif !decide (a7.2.1=0) then (some (false,(⟨a0.ZB,a0.Zu,(),a0.Zo,a7.2.2,a0.Zy,a0.ZE,a0.ZF,a0.ZG,a0.Zz,a0.ZA⟩:WM))) else (aL (in64 (a6.2.1+1)) (aL (in64 (a6.2.1+2)) ((oT N y6_1.Zn.Zc (a6.2.1+1) (a6.2.1+2)).bind fun a8=>(bJ N (⟨(⟨y6_1.Zn.Za,a7.1,y6_1.Zn.Ze,y6_1.Zn.Zg,a8,y6_1.Zn.Zb⟩:WI),(⟨a0.ZB,a0.Zu,(),a0.Zo,a7.2.2,a0.Zy,a0.ZE,a0.ZF,a0.ZG,a0.Zz,a0.ZA⟩:WM),y6_1.at_⟩:WN) true).bind fun b0=>some (true,b0.w_)))))))
theorem rg {N:Nat}{a1:WV}{r:Bool×WM}(h:fQ N a0 a1 a2=some r){B1 B2 B3:Nat}:Okc Xa 50 [pV B1 0,(aE a1),(eT a2)] ([oDWorld B1 B2 B3 a0]) (fun u post=>u=.bool r.1/\post=[oDWorld B1 B2 B3 r.2]):=by
 refine ce Tryz.func50 ?_;intro B4
 refine cl fun B5=> ?_
 obtain ⟨y6,a6,h⟩:=aa h;rcases y6 with y6_0|y6_1
 ·replace h:=GD h;refine gD (oR (db a6)) ?_;rintro _ _ ⟨_,⟨rfl,rfl⟩,rfl⟩;refine sY ?_;refine iN J ?_;exact eY
 replace h:=GC h;refine gD (oR (db a6)) ?_;rintro _ _ ⟨_,⟨B7,A8,n8,c8,A9,n9,c9,rfl,rfl⟩,rfl⟩;refine sY ?_;refine fG J ?_
 refine cR h (fun _ k=>kU k) fun a7 h=> ?_
 intro a8;refine sY ?_;refine gH J h ?_ ?_<;>intro h
 ·exact eY
 refine sY ?_;refine fY (aI J J) ?_;refine gH J h ?_ ?_<;>intro h
 ·exact eY
 refine ab ?_;refine aA ?_;refine bh O ([ah a8 50 (bW a7.1),ah B7 135 [iV y6_1.Zn.Za,iV y6_1.Zn.Zi,iV y6_1.Zn.Ze,iV y6_1.Zn.Zg,W A8 n8 c8,W A9 n9 c9,pV B1 0,iV y6_1.at_.Za,iV y6_1.at_.N,.string y6_1.at_.S],bf A8 n8 c8 y6_1.Zn.Zc,bf A9 n9 c9 y6_1.Zn.Zb,ah B5 39 (lH a2),ah B4 28 (bP a1)]) (cS [0,1,2,3,4,5] 7) ?_;refine zY [0,2,3,4,5,6,7] ?_;obtain ⟨b0,k,h⟩:=aa h;refine zD 1 J (oR (eP k)) ?_;rintro _ _ ⟨_,⟨rfl,rfl⟩,rfl⟩;refine bY ?_;refine kJ ((cS [6,0,1,2,3,4,5] 7).trans At) (cS [2,3,4,5,6,7] 8) ?_;obtain ⟨b5,k,h⟩:=aa h;refine zD 8 J (oC (uX k)) ?_;rintro _ _ ⟨_,⟨rfl,rfl⟩,rfl⟩;refine bY ?_;refine kJ (AI) (cS [1,2,3,4,5,6] 7) ?_;refine zX [9,10,11,12,13] ?_;refine sY ?_;refine gH J h ?_ ?_<;>intro h
 ·exact eY
 refine ab ?_;obtain ⟨b6,h⟩:=ae h;refine ab ?_;obtain ⟨b7,h⟩:=ae h;refine ab ?_;obtain ⟨b9,k,h⟩:=aa h
 refine vc (oC (Cw (R:=ay) k)) fun d0 d1 d2=> ?_
 refine TT h (fun _ k=>jI k) fun d3 d4 d6 e0 e1 e2 e3 h=> ?_
 exact eN
def vS (a2 a7:Int)(a1:WV)(y5:WI×Bool)(p15:WW)(a8:WM):Option (Bool×WM):=
 (cB N a8 a1).bind fun a6=>aL ((0:Int)<=a7/\a7.toNat<=p15.length) ((az N a8 a1 (⟨a6.1.Za,a6.1.Zi,a6.1.Ze,a6.1.Zg,a6.1.Zc,List.take a7.toNat p15⟩:WI)).bind fun b0=>some (decide (a7=a2),b0))
def rx (N:Nat)(a6:Int->WM->Option (Bool×WM))(a2 b0:Int)(b5:W7)(a7:Int)(a1:WV)(y5:WI×Bool)(p15:WW)(a8:WM):Option (Bool×WM):=
 aL (in64 (a7+1)) (a6 (a7+1) a8)
def jp (N:Nat)(a2 a6:Int)(a7:W7)(a1:WV)(y5:WI×Bool)(p15:WW):Nat->Int->WM->Option (Bool×WM)
 |0,_,_=>none
 |b6+1,a8,b0=>bif decide (a8<(a7.length:Int)) then ((aq a7 a8).bind fun b5=>(bif decide (b5.Zf.Za=0) then (some (decide (a6<=b5.Zf.N))) else (some false)).bind fun b7=>bif b7 then ((fQ N b0 a1 b5.Zf).bind fun b9=>rx N (jp N a2 a6 a7 a1 y5 p15 b6) a2 a6 a7 a8 a1 y5 p15 b9.2) else (rx N (jp N a2 a6 a7 a1 y5 p15 b6) a2 a6 a7 a8 a1 y5 p15 b0)) else (vS N a2 a6 a1 y5 p15 b0)
def nU (a2:Int)(a0:WM)(a1:WV)(y5:WI×Bool)(p15:WW)(a6:Int):Option (Bool×WM):=
 (ju N a0 a1).bind fun a7=>jp N a2 a6 a7 a1 y5 p15 N 0 a0
def nT (N:Nat)(a6:Int->Int->Option (Bool×WM))(a2:Int)(b0:W7)(a7:Int)(a0:WM)(a1:WV)(y5:WI×Bool)(p15:WW)(a8:Int):Option (Bool×WM):=
 aL (in64 (a7+1)) (a6 a8 (a7+1))
def jq (N:Nat)(a2:Int)(a6:W7)(a0:WM)(a1:WV)(y5:WI×Bool)(p15:WW):Nat->Int->Int->Option (Bool×WM)
 |0,_,_=>none
 |b5+1,b0,a7=>bif decide (a7<(a6.length:Int)) then ((aq a6 a7).bind fun a8=>(bif decide (a8.Zf.Za=0) then (some (decide (ai .i64 a8.Zd 4=0))) else (some false)).bind fun b6=>bif b6 then (aL (in64 (a8.Zf.N+1)) (nT N (jq N a2 a6 a0 a1 y5 p15 b5) a2 a6 a7 a0 a1 y5 p15 (max b0 (a8.Zf.N+1)))) else (nT N (jq N a2 a6 a0 a1 y5 p15 b5) a2 a6 a7 a0 a1 y5 p15 b0)) else (nU N a2 a0 a1 y5 p15 b0)
def nV (a2:Int)(a0:WM)(a1:WV)(y5:WI×Bool)(p15:WW):Option (Bool×WM):=
 (ju N a0 a1).bind fun a6=>jq N a2 a6 a0 a1 y5 p15 N a2 0
def nS (N:Nat)(a2:Int)(a0:WM)(a1:WV)(y5:WI×Bool):Nat->WW->Option (Bool×WM)
 |0,_=>none
 |a7+1,a6=>bif decide ((a6.length:Int)<a2) then (aL (cF (a6.length+([(⟨8,0,(⟨#[]⟩:ByteArray)⟩:WV)]:List WV).length)) ((nS N a2 a0 a1 y5 a7) (a6++([(⟨8,0,(⟨#[]⟩:ByteArray)⟩:WV)]:List WV)))) else (nV N a2 a0 a1 y5 a6)
def ig (a0:WM)(a1:WV)(a2:Int):Option (Bool×WM):=
 (cB N a0 a1).bind fun y5=>(bif !y5.2 then (some true) else (some (decide (a2<0)))).bind fun b9=>(bif b9 then (some true) else (some (decide (4096<a2)))).bind fun a6=>(bif a6 then (some true) else ((bif !decide (ai .i64 y5.1.Ze 32=0) then (some (!decide (a2=(y5.1.Zb.length:Int)))) else (some false)).bind fun b12=>some b12)).bind fun a7=>bif a7 then (some (false,a0)) else (nS N a2 a0 a1 y5 N y5.1.Zb)
theorem my {N:Nat}{a1:WV}{a2:Int}{r:Bool×WM}(h:ig N a0 a1 a2=some r){B1 B2 B3:Nat}:Okc Xa 17 [pV B1 0,(aE a1),iV a2] ([rE,oDWorld B1 B2 B3 a0]) (fun u post=>u=.bool r.1/\post=[oDWorld B1 B2 B3 r.2]):=by
 refine ce Tryz.func17 ?_;intro B4
 refine Ix h (fun _ k=>fi k) fun y5 A6 n6 c6 A7 n7 c7 h=> ?_
 intro B8;refine sY ?_;refine gS 3 27 24 h ?_;intro b9 h;refine ab ?_;refine gS 3 31 28 h ?_;intro g9 h;refine ab ?_
 refine wT 12 44 32 h (fun _ f1 h=> ?_) fun h0 h=> ?_
 ·refine ab ?_;refine eW (aI J J) J (dw f1 J) J ?_;refine ab ?_;refine gS 6 43 37 h ?_;intro b12 h;exact gY
 refine dv h ?_ ?_<;>intro h
 ·exact eY
 refine ab ?_;refine am (fun s L=> ∃p15 a6 a7 a8,nV N a2 a0 a1 y5 p15=some r/\s=[(0,pV B1 0),(2,iV a2),(4,pV B4 0),(6,.bool false),(7,pV B8 0)]/\L=[oDWorld B1 B2 B3 a0,ah B4 28 (bP a1),bf A6 n6 c6 y5.1.Zc,bf a6 a7 a8 p15,ah B8 94 (iS y5.1 A6 n6 c6 a6 a7 a8),rE]) ?_ ?_
 ·refine ab ?_;refine lK (fun m s L=> ∃(d1:WW) (e2:Option Addr) (e3 e4:Nat),nS N a2 a0 a1 y5 m d1=some r/\s=[(0,pV B1 0),(2,iV a2),(4,pV B4 0),(6,.bool false),(7,pV B8 0)]/\L=[oDWorld B1 B2 B3 a0,ah B4 28 (bP a1),bf A6 n6 c6 y5.1.Zc,bf e2 e3 e4 d1,ah B8 94 (iS y5.1 A6 n6 c6 e2 e3 e4),rE]) N ?_;rintro f2 _ _ ⟨d1,e2,e3,e4,h,rfl,rfl⟩;rw [nS.eq_2] at h;refine sZ ?_;refine gH J h ?_ ?_<;>intro h
  ·refine ab ?_;refine gD (aB (R:=ay) (vss:=[Uu]) (xs:=[(⟨8,0,(⟨#[]⟩:ByteArray)⟩:WV)]) J (jA _ _ _) J J (fun _ _ hr=> .cons J All2.nil)) ?_;rintro _ _ ⟨h1,h2,h3,rfl,rfl⟩;obtain ⟨f3,h⟩:=ae h
   refine vc (aX 4 0 J J ao J J t9 sd J J f3) fun f4 f6 f9=> ?_
   exact ⟨f2,_,_,W0 _,⟨d1++([(⟨8,0,(⟨#[]⟩:ByteArray)⟩:WV)]:List WV),f4,f6,f9,h,J,J⟩,sA,cS [1,2,3,4,5,6] 7⟩
  exact jY
 rintro _ _ ⟨p15,a6,a7,a8,h,rfl,rfl⟩;refine ab ?_;refine am (fun s L=> ∃b0,nU N a2 a0 a1 y5 p15 b0=some r/\s=[(0,pV B1 0),(2,iV a2),(4,pV B4 0),(6,.bool false),(7,pV B8 0),(9,iV b0)]/\L=[oDWorld B1 B2 B3 a0,ah B4 28 (bP a1),bf A6 n6 c6 y5.1.Zc,bf a6 a7 a8 p15,ah B8 94 (iS y5.1 A6 n6 c6 a6 a7 a8),rE]) ?_ ?_
 ·refine MB h (fun _ k=>o3 k) fun b5 d2 d3 d4 h=> ?_
  refine lK (fun m s L=> ∃(e5:Int) (b7:Int),jq N a2 b5 a0 a1 y5 p15 m e5 b7=some r/\s=[(0,pV B1 0),(2,iV a2),(4,pV B4 0),(6,.bool false),(7,pV B8 0),(9,iV e5),(59,W d2 d3 d4),(60,iV (b5.length:Int)),(61,iV b7)]/\L=[bd iq 50 (W d2 d3 d4) b5,oDWorld B1 B2 B3 a0,ah B4 28 (bP a1),bf A6 n6 c6 y5.1.Zc,bf a6 a7 a8 p15,ah B8 94 (iS y5.1 A6 n6 c6 a6 a7 a8),rE]) N ?_;rintro g0 _ _ ⟨e5,b7,h,rfl,rfl⟩;rw [jq.eq_2] at h;refine ab ?_;refine aA ?_;refine gH J h ?_ ?_<;>intro h
  ·refine ab ?_;refine am (fun s L=> ∃e6,nT N (jq N a2 b5 a0 a1 y5 p15 g0) a2 b5 b7 a0 a1 y5 p15 e6=some r/\s=[(0,pV B1 0),(2,iV a2),(4,pV B4 0),(6,.bool false),(7,pV B8 0),(9,iV e6),(59,W d2 d3 d4),(60,iV (b5.length:Int)),(61,iV b7)]/\L=[bd iq 50 (W d2 d3 d4) b5,oDWorld B1 B2 B3 a0,ah B4 28 (bP a1),bf A6 n6 c6 y5.1.Zc,bf a6 a7 a8 p15,ah B8 94 (iS y5.1 A6 n6 c6 a6 a7 a8),rE]) ?_ ?_
   ·refine ab ?_;obtain ⟨h4,g1,g2,g3,h⟩:=bz h
    refine cl fun h5=> ?_
    refine ou 5 74 69 h (fun _ g4 h=> ?_) fun h6 h=> ?_
    ·refine ab ?_;refine eW (aI J J) J (ca g4 J) J ?_;exact gY
    refine dv h ?_ ?_<;>intro h
    ·refine ab ?_;obtain ⟨h7,h⟩:=ae h;refine ab ?_;refine fY (Tv J J Wp Wp) ?_;exact jN
    exact jY
   rintro _ _ ⟨e6,h,rfl,rfl⟩;refine ab ?_;obtain ⟨h8,h⟩:=ae h;exact lY
  exact jY
 rintro _ _ ⟨b0,h,rfl,rfl⟩;refine am (fun s L=> ∃e7,vS N a2 b0 a1 y5 p15 e7=some r/\s=[(0,pV B1 0),(2,iV a2),(4,pV B4 0),(6,.bool false),(7,pV B8 0),(9,iV b0)]/\L=[oDWorld B1 B2 B3 e7,ah B4 28 (bP a1),bf A6 n6 c6 y5.1.Zc,bf a6 a7 a8 p15,ah B8 94 (iS y5.1 A6 n6 c6 a6 a7 a8),rE]) ?_ ?_
 ·refine MB h (fun _ k=>o3 k) fun b6 d6 e0 e1 h=> ?_
  refine lK (fun m s L=> ∃(d0:Int) (e8:WM),jp N a2 b0 b6 a1 y5 p15 m d0 e8=some r/\s=[(0,pV B1 0),(2,iV a2),(4,pV B4 0),(6,.bool false),(7,pV B8 0),(9,iV b0),(84,W d6 e0 e1),(85,iV (b6.length:Int)),(86,iV d0)]/\L=[bd iq 50 (W d6 e0 e1) b6,oDWorld B1 B2 B3 e8,ah B4 28 (bP a1),bf A6 n6 c6 y5.1.Zc,bf a6 a7 a8 p15,ah B8 94 (iS y5.1 A6 n6 c6 a6 a7 a8),rE]) N ?_;rintro g5 _ _ ⟨d0,e8,h,rfl,rfl⟩;rw [jp.eq_2] at h;refine ab ?_;refine aA ?_;refine gH J h ?_ ?_<;>intro h
  ·refine ab ?_;refine am (fun s L=> ∃e9,rx N (jp N a2 b0 b6 a1 y5 p15 g5) a2 b0 b6 d0 a1 y5 p15 e9=some r/\s=[(0,pV B1 0),(2,iV a2),(4,pV B4 0),(6,.bool false),(7,pV B8 0),(9,iV b0),(84,W d6 e0 e1),(85,iV (b6.length:Int)),(86,iV d0)]/\L=[bd iq 50 (W d6 e0 e1) b6,oDWorld B1 B2 B3 e9,ah B4 28 (bP a1),bf A6 n6 c6 y5.1.Zc,bf a6 a7 a8 p15,ah B8 94 (iS y5.1 A6 n6 c6 a6 a7 a8),rE]) ?_ ?_
   ·refine ab ?_;obtain ⟨h9,g6,g7,g8,h⟩:=bz h
    refine cl fun i0=> ?_
    refine gS 6 100 94 h ?_;intro i1 h;refine dv h ?_ ?_<;>intro h
    ·refine cC h (fun _ k=>rg k) fun i2 h=> ?_
     exact jN
    exact jY
   rintro _ _ ⟨e9,h,rfl,rfl⟩;refine ab ?_;obtain ⟨i3,h⟩:=ae h;exact lY
  exact jY
 rintro _ _ ⟨e7,h,rfl,rfl⟩
 refine Ix h (fun _ k=>fi k) fun i4 i5 i6 i7 i8 i9 j0 h=> ?_
 intro j1;refine ab ?_;obtain ⟨f0,h⟩:=ae h
 refine vc (QT (k:=b0.toNat) 6 J J t9 size28.out J (by rw [Xp f0.1];rfl) (by rw [Xp f0.1];rfl) f0.2) fun j2 j3 j4=> ?_
 refine mO (bv 1 J) ?_;refine mO (bv 6 J) ?_
 refine cC h (fun _ k=>dB k) fun j5 h=> ?_
 exact eN
def oz (N:Nat)(p21:WM):Option (Bool×Bool×WM):=
 some (true,false,p21)
def oy (N:Nat)(a6:Bool×WM)(a7:WM):Option (Bool×Bool×WM):=
 some (a6.1,false,a7)
def nb (a0:WM)(a1:WV)(a2:WI)(a3:WG):Option (Bool×Bool×WM):=
 (bif !decide (ai .i64 a3.Has 1=0) then ((bif !decide (a3.Value.Za=3) then (some true) else (some (decide (a3.Value.N<0)))).bind fun b5=>(bif b5 then (some true) else (some (decide (4096<a3.Value.N)))).bind fun b6=>some b6) else (some false)).bind fun b9=>bif b9 then (some (false,true,a0)) else ((nC N a2).bind fun b7=>(bX N).bind fun d0=>(du N b7 true true d0 a3).bind fun b0=>bif !b0.2 then (some (false,false,a0)) else (bif !(!decide (ai .i64 a3.Has 1=0)) then (bif decide (ai .i64 b0.1.Zd 1=0) then ((cB N a0 a1).bind fun a6=>(az N a0 a1 (⟨a6.1.Za,a6.1.Zi,cP .i64 a6.1.Ze 32,a6.1.Zg,a6.1.Zc,a6.1.Zb⟩:WI)).bind fun d1=>oz N d1) else (oz N a0)) else ((ig N a0 a1 a3.Value.N).bind fun a8=>bif decide (ai .i64 b0.1.Zd 1=0) then ((cB N a8.2 a1).bind fun a7=>(az N a8.2 a1 (⟨a7.1.Za,a7.1.Zi,cP .i64 a7.1.Ze 32,a7.1.Zg,a7.1.Zc,a7.1.Zb⟩:WI)).bind fun d2=>oy N a8 d2) else (oy N a8 a8.2))))
theorem AM {N:Nat}{a1:WV}{a2:WI}{a3:WG}{r:Bool×Bool×WM}(h:nb N a0 a1 a2 a3=some r){B1 B2 B3:Nat}:Okc Xa 58 [pV B1 0,(aE a1),.agg #[iV a2.Za,iV a2.Zi,iV a2.Ze,iV a2.Zg,W A4 n4 c4,W A5 n5 c5],(fV a3)] ([aY A4 n4 c4 a2.Zc,aY A5 n5 c5 a2.Zb,rE,oDWorld B1 B2 B3 a0]) (fun u post=>u=.tuple #[.bool r.1,.bool r.2.1]/\post=[oDWorld B1 B2 B3 r.2.2]):=by
 refine ce Tryz.func58 ?_;intro B6
 refine cl fun B7=> ?_
 intro B8;refine ab ?_;refine fY (aI J J) ?_;refine sZ ?_
 refine ou 17 35 18 h (fun _ g9 h=> ?_) fun b9 h=> ?_
 ·refine ab ?_;refine gS 5 28 23 h ?_;intro d4 h;refine ab ?_;refine gS 5 34 29 h ?_;intro d6 h;exact gY
 refine dv h ?_ ?_<;>intro h
 ·exact eY
 refine ab ?_;refine aA ?_;obtain ⟨d2,a8,h⟩:=aa h;obtain ⟨b0,b5,h⟩:=aa h;obtain ⟨a6,b6,h⟩:=aa h;refine gw (t:=[(0,pV B1 0),(5,pV B6 0),(6,pV B7 0),(7,pV B8 0),(8,.bool false),(9,.bool false),(10,.bool (!decide (ai .i64 a3.Has 1=0)))]) ?_ mh (ad _)
 refine iW O 9 [7] [6,7,8] [37,38,39,40,41,36,42,43,11] [[],[0],[],[],[1,2,3],[4],[5],[5],[]] [aV (.agg #[iV a2.Za,iV a2.Zi,iV a2.Ze,iV a2.Zg,W A4 n4 c4,W A5 n5 c5]),
aV ((cc d2)),
aV (.agg #[iV b0.Za,iV b0.N,.string b0.S]),
aV ((fV a3)),
aV (.tuple #[(cc a6.1),.bool a6.2]),
aV (.tuple #[(cc a6.1),.bool a6.2]),
aV ((cc a6.1)),
aV (.bool a6.2),
aX1 (fun (a7:Nat)=>pV a7 0) (fun a7=> [ah a7 50 [iV 0,iV 0,.string (⟨#[]⟩),iV 0,iV 0,iV 0,.string (⟨#[]⟩),iV 0,iV 0,.string (⟨#[]⟩),iV 0,iV 0,.string (⟨#[]⟩)]])] [] (ad _) (fA rfl mc) O rfl rfl ?_ ?_ ?_
 ·refine fz J ?_ ?_
  ·exact nD (cO J J) J (iL J (ad _))
  exact mb
 ·refine aF J ?_ ?_
  ·refine th (bw zero50.out J) J ?_;rintro _ _ ⟨d3,rfl,rfl⟩;exact N0 d3 (ad _)
  refine qE (cO J J) ?_;refine qE (cO J J) ?_;refine qE (ap J) ?_;refine aF J ?_ ?_
  ·refine th (oR (ve b6)) J ?_;rintro _ _ ⟨_,⟨rfl,rfl⟩,rfl⟩;exact iL J (ad _)
  refine qR (ax (us:=iw a3) 0 J J agg41.out J) ?_;refine aF J ?_ ?_
  ·refine th (oR (jB b5)) J ?_;rintro _ _ ⟨_,⟨rfl,rfl⟩,rfl⟩;exact iL J (ad _)
  refine aF J ?_ ?_
  ·refine th (oR (wY a8)) J ?_;rintro _ _ ⟨_,⟨rfl,rfl⟩,rfl⟩;exact iL J (ad _)
  refine qR (ax (us:=(iS a2 A4 n4 c4 A5 n5 c5)) 1 J J agg94.out J) ?_;exact dH
 intro a7;refine oe (t:=[(42,(cc a6.1)),(43,.bool a6.2),(11,pV a7 0),(0,pV B1 0),(5,pV B6 0),(6,pV B7 0),(7,pV B8 0),(8,.bool false),(9,.bool false),(10,.bool (!decide (ai .i64 a3.Has 1=0)))]) (L':=[ah a7 50 [iV 0,iV 0,.string (⟨#[]⟩),iV 0,iV 0,iV 0,.string (⟨#[]⟩),iV 0,iV 0,.string (⟨#[]⟩),iV 0,iV 0,.string (⟨#[]⟩)],ah B8 41 (iw a3),ah B7 94 (iS a2 A4 n4 c4 A5 n5 c5),ah B6 28 (bP a1),aY A4 n4 c4 a2.Zc,aY A5 n5 c5 a2.Zb,rE,oDWorld B1 B2 B3 a0]) ?_ mh (ad _);refine pO 9 J O (aj (us:=bW a6.1) (cs':=bW a6.1) 0 J J J J size50.out J J J) J J ?_;rintro _ _ rfl;refine Cn 10 J O (cm J) J J J ?_;refine mg O ?_;refine sY ?_;refine gH J h ?_ ?_<;>intro h
 ·exact eY
 refine ab ?_;refine eC 48 J (fun b7=> ?_) (fun b7=> ?_)
 ·replace h:=cG b7 h;refine ab ?_;refine am (fun s L=> ∃p21,oz N p21=some r/\s=[(8,.bool true),(9,.bool false)]/\L=[oDWorld B1 B2 B3 p21,rE]) ?_ ?_
  ·refine ab ?_;refine fY (aI J J) ?_;refine gH J h ?_ ?_<;>intro h
   ·refine Ix h (fun _ k=>fi k) fun e0 e1 e2 e3 e4 e5 e6 h=> ?_
    refine fY (pK J J) ?_;refine mO (bv 0 J) ?_;refine mO (bv 1 J) ?_
    refine cC h (fun _ k=>dB k) fun e7 h=> ?_
    exact jN
   exact jY
  rintro _ _ ⟨p21,h,rfl,rfl⟩;exact eY
 replace h:=cH b7 h
 refine cC h (fun _ k=>my k) fun d1 h=> ?_
 refine am (fun s L=> ∃d0,oy N d1 d0=some r/\s=[(8,.bool d1.1),(9,.bool false)]/\L=[oDWorld B1 B2 B3 d0,rE]) ?_ ?_
 ·refine ab ?_;refine fY (aI J J) ?_;refine gH J h ?_ ?_<;>intro h
  ·refine Ix h (fun _ k=>fi k) fun e8 e9 f0 f1 f2 f3 f4 h=> ?_
   refine fY (pK J J) ?_;refine mO (bv 0 J) ?_;refine mO (bv 1 J) ?_
   refine cC h (fun _ k=>dB k) fun f6 h=> ?_
   exact jN
  exact jY
 rintro _ _ ⟨d0,h,rfl,rfl⟩;exact eY
def er (N:Nat)(a0:WI)(a1:Int):Option Bool:=
 (bif decide (a1<(a0.Zb.length:Int)) then ((aq a0.Zb a1).bind fun x5=>some (!decide (x5=(⟨8,0,(⟨#[]⟩:ByteArray)⟩:WV)))) else (some false)).bind fun b4=>some b4
theorem yz {N:Nat}{a0:WI}{r:Bool}(h:er N a0 a1=some r):Okc Xa 48 [.agg #[iV a0.Za,iV a0.Zi,iV a0.Ze,iV a0.Zg,W A1 n1 c1,W A2 n2 c2],iV a1] ([aY A1 n1 c1 a0.Zc,aY A2 n2 c2 a0.Zb,rE]) (fun u post=>u=.bool r/\post=[]):=by
 refine ce Tryz.func48 ?_;intro B3;refine ab ?_;refine dY [0,1,2,3,4,5] ?_
 refine yJ [6,7,8,9,10,11,12,13] 1 10 18 h (fun _ g4 h rest=> ?_) (fun _ g4 h rest=> ?_) fun b4 h=> ?_
 ·refine yY [6,7,8] ?_;obtain ⟨x5,a6,a7,a8,h⟩:=bz h;refine yY [9,10,11] ?_;refine io 12 J O (C3 (x:=x5) (y:=(⟨8,0,(⟨#[]⟩:ByteArray)⟩:WV)) J J) (ca g4 J) J ?_;refine zE 13 J (iy g4 J J) ?_;exact yS rest h
 ·refine yY [6,7,8,9,10,11,12,13] ?_;exact yS rest h
 refine zX [14] ?_;exact eY
def qi (a0:WM)(a1:WV)(a2:WL):Option (WU×Bool):=
 (gF N a0 a1).bind fun y7=>DY y7 (fun y7_0=>some ((⟨(⟨0,0,⟨#[]⟩⟩:WL),0,(⟨0,0,⟨#[]⟩⟩:WV),(⟨0,0,⟨#[]⟩⟩:WV),(⟨0,0,⟨#[]⟩⟩:WV)⟩:WU),false)) (fun y7_1=>(bZ N (⟨y7_1.Zn,a0,y7_1.at_⟩:WN) a2).bind fun a6=>some (a6.1,a6.2.2))
theorem zV {N:Nat}{a1:WV}{r:WU×Bool}(h:qi N a0 a1 a2=some r){B1 B2 B3:Nat}:Okc Xa 49 [pV B1 0,(aE a1),(eT a2)] ([pDWorld B1 B2 B3 a0]) (fun u post=>u=.tuple #[(cc r.1),.bool r.2]/\post=[]):=by
 refine ce Tryz.func49 ?_;intro B4
 refine cl fun B5=> ?_
 intro B6;refine ab ?_;obtain ⟨y7,a6,h⟩:=aa h;rcases y7 with y7_0|y7_1
 ·replace h:=GD h;refine gD (oR (db a6)) ?_;rintro _ _ ⟨_,⟨rfl,rfl⟩,rfl⟩;refine sY ?_;refine iN J ?_;exact eY
 replace h:=GC h;refine gD (oR (db a6)) ?_;rintro _ _ ⟨_,⟨B8,A9,n9,c9,a7,a8,b0,rfl,rfl⟩,rfl⟩;refine sY ?_;refine fG J ?_
 refine cR h (fun _ k=>kU k) fun b5 h=> ?_
 intro b6;exact eY
def jh (a0:WM)(a1:WV)(a2:WL):Option (WU×Bool):=
 (cB N a0 a1).bind fun y7=>bif !y7.2 then (some ((⟨(⟨0,0,⟨#[]⟩⟩:WL),0,(⟨0,0,⟨#[]⟩⟩:WV),(⟨0,0,⟨#[]⟩⟩:WV),(⟨0,0,⟨#[]⟩⟩:WV)⟩:WU),false)) else ((bX N).bind fun a7=>bif decide (a2=a7) then ((nC N y7.1).bind fun a8=>some (a8,true)) else ((bif decide (a2.Za=0) then ((bc N a2).bind fun b0=>some b0) else (some false)).bind fun b5=>(bif b5 then ((er N y7.1 a2.N).bind fun b6=>some b6) else (some false)).bind fun b7=>bif b7 then ((aq y7.1.Zb a2.N).bind fun b9=>some ((⟨a2,7,b9,(⟨0,0,⟨#[]⟩⟩:WV),(⟨0,0,⟨#[]⟩⟩:WV)⟩:WU),true)) else ((qi N a0 a1 a2).bind fun a6=>some (a6.1,a6.2))))
theorem tf {N:Nat}{a1:WV}{r:WU×Bool}(h:jh N a0 a1 a2=some r){B1 B2 B3:Nat}:Okc Xa 16 [pV B1 0,(aE a1),(eT a2)] ([pDWorld B1 B2 B3 a0,rE]) (fun u post=>u=.tuple #[(cc r.1),.bool r.2]/\post=[]):=by
 refine ce Tryz.func16 ?_;intro B4
 refine cl fun B5=> ?_
 intro B6
 refine Ix h (fun _ k=>fi k) fun y7 A8 n8 c8 A9 n9 c9 h=> ?_
 intro b6;refine sY ?_;refine gH J h ?_ ?_<;>intro h
 ·exact eY
 refine dY [] ?_;refine ab ?_;obtain ⟨a7,k,h⟩:=aa h;refine zD 1 J (oR (jB k)) ?_;rintro _ _ ⟨_,⟨rfl,rfl⟩,rfl⟩;refine ⟨_,ad _,ad _,?_⟩;refine zE 2 J (vO (x:=a2) (y:=a7) J J) ?_;refine dv h ?_ ?_<;>intro h
 ·refine cR h (fun _ k=>wY k) fun b7 h=> ?_
  exact eN
 refine ab ?_
 refine ou 3 33 30 h (fun _ b9 h=> ?_) fun d0 h=> ?_
 ·refine cR h (fun _ k=>nM k) fun d1 h=> ?_
  exact gY
 refine ab ?_
 refine ou 5 39 34 h (fun _ d2 h=> ?_) fun d3 h=> ?_
 ·refine cR h (fun _ k=>yz k) fun d4 h=> ?_
  exact gY
 refine dv h ?_ ?_<;>intro h
 ·refine dY [] ?_;refine ab ?_;obtain ⟨a6,a8,b0,b5,h⟩:=bz h;refine ab ?_;refine gI 8 J O O (aj (us:=[iV a2.Za,iV a2.N,.string a2.S,iV 7,iV a6.Za,iV a6.N,.string a6.S,iV 0,iV 0,.string (⟨#[]⟩),iV 0,iV 0,.string (⟨#[]⟩)]) (cs':=[iV a2.Za,iV a2.N,.string a2.S,iV 7,iV a6.Za,iV a6.N,.string a6.S,iV 0,iV 0,.string (⟨#[]⟩),iV 0,iV 0,.string (⟨#[]⟩)]) 3 J J J J size50.out J J J) ?_;rintro _ _ rfl;exact eY
 refine cR h (fun _ k=>zV k) fun d6 h=> ?_
 exact eN
theorem yC {r:WU×Bool}: ∀v post,((fun (u:Value) (post:W8)=>u=.tuple #[(cc r.1),.bool r.2]/\post=[])) v post-> ∀c∈post,ij c:=by
 rintro _ _ ⟨rfl,rfl⟩;exact au
def td (a0:WM)(a1:WV)(a2:WL)(a3:Bool):Option WM:=
 bif a3 then ((fQ N a0 a1 a2).bind fun y7=>some y7.2) else (some a0)
theorem Gv {N:Nat}{a1:WV}{a3:Bool}{r:WM}(h:td N a0 a1 a2 a3=some r){B1 B2 B3:Nat}:Okc Xa 103 [pV B1 0,(aE a1),(eT a2),.bool a3] ([oDWorld B1 B2 B3 a0]) (fun u post=>u=.tuple #[]/\post=[oDWorld B1 B2 B3 r]):=by
 refine ce Tryz.func103 ?_;intro B4
 refine cl fun B5=> ?_
 refine gH J h ?_ ?_<;>intro h
 ·refine cC h (fun _ k=>rg k) fun y7 h=> ?_
  exact eN
 exact eY
def js (a0:WQ)(a1:Int)(a2:WL)(a3:Int):Option (Int×Int×WQ):=
 (fJ N a0 a1 a2 a3).bind fun y5=>bif !decide (y5=0) then (some (0,y5,a0)) else ((dA N a0 a1 a2).bind fun y7=>bif y7.2.2 then (some (0,4,a0)) else ((fu N a0 a1).bind fun y9=>bif decide (1024<=y9) then (some (0,9,a0)) else ((kh N a0 a1 ([(⟨0,a2,a3,0⟩:WE)]:List WE)).bind fun a6=>some (a6.1,a6.2.1,a6.2.2))))
theorem zr {N:Nat}{a0:WQ}{r:Int×Int×WQ}(h:js N a0 a1 a2 a3=some r):Okc Xa 149 [pV B1 0,iV a1,(eT a2),iV a3] ([ah B1 170 [W A2 n2 c2,.map (some M3)],bd bC 166 (W A2 n2 c2) a0.Zp,bB eo vV M3 a0.ZD]) (fun u post=> ∃A0 n0 c0 M1,u=.tuple #[iV r.1,iV r.2.1]/\post=[ah B1 170 [W A0 n0 c0,.map (some M1)],bd bC 166 (W A0 n0 c0) r.2.2.Zp,bB eo vV M1 r.2.2.ZD]):=by
 refine ce Tryz.func149 ?_;intro B4;refine sY ?_
 refine cR h (fun _ k=>ni k) fun y5 h=> ?_
 refine gH J h ?_ ?_<;>intro h
 ·exact eY
 refine sY ?_
 refine cR h (fun _ k=>kS k) fun y7 h=> ?_
 refine gH J h ?_ ?_<;>intro h
 ·exact eY
 refine sY ?_
 refine cR h (fun _ k=>pn k) fun y9 h=> ?_
 refine gH J h ?_ ?_<;>intro h
 ·exact eY
 refine ab ?_;refine gD (aB (R:=bC) (vss:=[[iV 0,iV a2.Za,iV a2.N,.string a2.S,iV a3,iV 0]]) (xs:=[(⟨0,a2,a3,0⟩:WE)]) J (C6 _ _ _ _ _ _) J J (fun _ _ hr=> .cons J All2.nil)) ?_;rintro _ _ ⟨a6,a7,a8,rfl,rfl⟩;refine mO (bv 0 J) ?_;obtain ⟨b0,k,h⟩:=aa h;refine gD (oC (pj k)) ?_;rintro _ _ ⟨_,⟨b5,b6,b7,b9,rfl,rfl⟩,rfl⟩;exact eY
theorem xa {N:Nat}{a0:WQ}{r:Int×Int×WQ}(h:js N a0 a1 a2 a3=some r):Okc Xa 149 [pV B1 0,iV a1,(eT a2),iV a3] ([oDTable B1 a0]) (fun u post=>u=.tuple #[iV r.1,iV r.2.1]/\post=[oDTable B1 r.2.2]):=LS 0 rfl (fun _=>zr h)
def iG (a0:WN)(a1:WU)(a2:WV):Option (WV×WM):=
 bif decide (ai .i64 a1.Zd 8=0) then (some (a1.Value,a0.w_)) else ((bif decide (a2.Za=9) then ((bO N a0.w_ a2).bind fun a7=>some (decide (a7.Za=5))) else (some false)).bind fun a8=>bif a8 then ((az N a0.w_ a2 (⟨5,0,0,0,([a1.Zq,a1.Zr]:List WV),[]⟩:WI)).bind fun b0=>some (a2,b0)) else ((cW N a0.w_ (⟨5,0,0,0,([a1.Zq,a1.Zr]:List WV),[]⟩:WI)).bind fun a6=>some (a6.1,a6.2)))
theorem nq {N:Nat}{a0:WN}{a1:WU}{a2:WV}{r:WV×WM}(h:iG N a0 a1 a2=some r){B4 B5 B6:Nat}:Okc Xa 150 [pV B1 0,(cc a1),(aE a2)] ([ah B1 135 [iV a0.Zn.Za,iV a0.Zn.Zi,iV a0.Zn.Ze,iV a0.Zn.Zg,W A2 n2 c2,W A3 n3 c3,pV B4 0,iV a0.at_.Za,iV a0.at_.N,.string a0.at_.S],bf A2 n2 c2 a0.Zn.Zc,bf A3 n3 c3 a0.Zn.Zb,oDWorld B4 B5 B6 a0.w_]) (fun u post=>u=.agg #[iV r.1.Za,iV r.1.N,.string r.1.S]/\post=[oDWorld B4 B5 B6 r.2,ah B1 135 [iV a0.Zn.Za,iV a0.Zn.Zi,iV a0.Zn.Ze,iV a0.Zn.Zg,W A2 n2 c2,W A3 n3 c3,pV B4 0,iV a0.at_.Za,iV a0.at_.N,.string a0.at_.S],bf A2 n2 c2 a0.Zn.Zc,bf A3 n3 c3 a0.Zn.Zb]):=by
 refine ce Tryz.func150 ?_;intro B7
 refine cl fun B8=> ?_
 intro B9;refine sY ?_;refine fY (aI J J) ?_;refine gH J h ?_ ?_<;>intro h
 ·exact eY
 refine ab ?_
 refine vc (aB (R:=ay) (vss:=[(bP a1.Zq),(bP a1.Zr)]) (xs:=[a1.Zq,a1.Zr]) J (JY _ _ _ _ _ _) J J (fun _ _ hr=> .cons J (.cons J All2.nil))) fun a8 b0 b5=> ?_
 intro b6;refine ab ?_;refine aA ?_;refine dY [0,1,2,3] ?_
 refine yJ [4,5,6,7,8,9,10,11,12] 0 23 32 h (fun _ a7 h rest=> ?_) (fun _ a7 h rest=> ?_) fun b7 h=> ?_
 ·refine yY [4,5,6,7,8] ?_;obtain ⟨b9,k,h⟩:=aa h;refine pt 9 J O (oR (jH k)) J (ca a7 J) J ?_;rintro _ _ ⟨_,⟨d0,d1,d2,d3,d4,d6,rfl,rfl⟩,rfl⟩;refine bY ?_;refine io 10 J O (Py J (Po _ _ _ _ _ _ _ _ _ _)) (ca a7 J) J ?_;refine yY [11,12] ?_;exact yS rest h
 ·refine yY [4,5,6,7,8,9,10,11,12] ?_;exact yS rest h
 refine bq O ?_;refine dv h ?_ ?_<;>intro h
 ·refine aA ?_;refine bh O ([ah b6 94 [iV 5,iV 0,iV 0,iV 0,W a8 b0 b5,W none 0 0],ah B9 28 [iV 0,iV 0,.string (⟨#[]⟩)],ah B8 28 (bP a2),ah B7 50 (bW a1),ah B1 135 [iV a0.Zn.Za,iV a0.Zn.Zi,iV a0.Zn.Ze,iV a0.Zn.Zg,W A2 n2 c2,W A3 n3 c3,pV B4 0,iV a0.at_.Za,iV a0.at_.N,.string a0.at_.S],bf A2 n2 c2 a0.Zn.Zc,bf A3 n3 c3 a0.Zn.Zb]) (cS [0,2,3,4,5,6,7] 9) ?_;refine ab ?_;refine kJ (bv 1 J) (cS [0,2,3,4,5,6,7] 9) ?_;obtain ⟨e0,k,h⟩:=aa h;refine kJ (qA ay _) (cS [1,3,4,5,6,7,8] 10) ?_;refine zD 6 J (oC (dB k)) ?_;rintro _ _ ⟨_,⟨rfl,rfl⟩,rfl⟩;refine bY ?_;exact eY
 refine ab ?_;refine aA ?_;refine bh O ([ah b6 94 [iV 5,iV 0,iV 0,iV 0,W a8 b0 b5,W none 0 0],ah B9 28 [iV 0,iV 0,.string (⟨#[]⟩)],ah B8 28 (bP a2),ah B7 50 (bW a1),ah B1 135 [iV a0.Zn.Za,iV a0.Zn.Zi,iV a0.Zn.Ze,iV a0.Zn.Zg,W A2 n2 c2,W A3 n3 c3,pV B4 0,iV a0.at_.Za,iV a0.at_.N,.string a0.at_.S],bf A2 n2 c2 a0.Zn.Zc,bf A3 n3 c3 a0.Zn.Zb]) (cS [0,2,3,4,5,6,7] 9) ?_;refine ab ?_;refine kJ (bv 1 J) (cS [0,2,3,4,5,6,7] 9) ?_;obtain ⟨a6,k,h⟩:=aa h;refine kJ (qA ay _) (cS [1,3,4,5,6,7,8] 10) ?_;refine zD 5 J (oC (xi k)) ?_;rintro _ _ ⟨_,⟨rfl,rfl⟩,rfl⟩;refine bY ?_;refine gI 6 J O O (aj (us:=[iV a6.1.Za,iV a6.1.N,.string a6.1.S]) (cs':=[iV a6.1.Za,iV a6.1.N,.string a6.1.S]) 4 J J J J size28.out J J J) ?_;rintro _ _ rfl;exact eY
end
end Go.Proofs.YtmcifcmlojonnaaGreatDoor