/- Merged texts: part 7. No conditions of their own. -/
import Derived.Test.YtanojiedimeegaaGreatG6
namespace Go.Proofs.YtanojiedimeegaaGreat
theorem Ap:type_of% Tryz.underlying60:=Tryz.underlying60
variable {A1 A10 A12 A13 A14 A2 A3 A4 A5 A6:Option Addr} {B1 B2 B7 B9 M11 M3 M8 c1 c10 c12 c13 c14 c2 c3 c4 c5 c6 n1 n10 n12 n13 n14 n2 n3 n4 n5 n6:Nat}
open Go.RowKit Asn
set_option maxRecDepth 20000
def lD (N:Nat)(a0:Int):Option Bool:=
 some (!decide (a0=a0))
theorem nJ {N:Nat}{a0:Int}{r:Bool}(h:lD N a0=some r):Okc Tryz.prog 103 [iV a0] ([]) (fun u post=>u=.bool r∧post=[]):=by
 refine bh Tryz.func103 J J ?_;simp only [aL];refine I ?_;obtain rfl:=ak h;exact aE J J (cS [] 0) ⟨J,J⟩
theorem lC {r:Bool}: ∀v post,((fun (u:Value) (post:List Chunk)=>u=.bool r∧post=[])) v post→ ∀c∈post,bL c:=by
 rintro _ _ ⟨rfl,rfl⟩;exact ac
def jQ (N:Nat)(a0:Int)(a1:Int):Option Int:=
 (lD N a0).bind fun y1=>(lD N a1).bind fun y2=>bif y1 then (bif y2 then (some 0) else (some (-1))) else (bif y2 then (some 1) else (bif decide (a0<a1) then (some (-1)) else (bif decide (a1<a0) then (some 1) else (some 0))))
theorem lE {N:Nat}{a0:Int}{a1:Int}{r:Int}(h:jQ N a0 a1=some r):Okc Tryz.prog 88 [iV a0,iV a1] ([]) (fun u post=>u=iV r∧post=[]):=by
 refine bh Tryz.func88 J J ?_;simp only [aL];refine I ?_;obtain ⟨y1,hy1,h⟩:=aa h;refine gD (ag (nJ hy1) tH J (ac) lC) ?_;rintro _ _ ⟨_,⟨rfl,rfl⟩,rfl⟩;refine I ?_;obtain ⟨y2,hy2,h⟩:=aa h;refine gD (ag (nJ hy2) tH J (ac) lC) ?_;rintro _ _ ⟨_,⟨rfl,rfl⟩,rfl⟩;refine I ?_;refine aw ?_;refine I ?_;refine ap J (fun g3=> ?_) (fun g3=> ?_)
 ·replace h:=ad g3 h;refine aw ?_;refine I ?_;refine ap J (fun g4=> ?_) (fun g4=> ?_)
  ·replace h:=ad g4 h;refine I ?_;obtain rfl:=ak h;exact aE J J (cS [] 0) ⟨J,J⟩
  replace h:=ae g4 h;refine I ?_;obtain rfl:=ak h;exact aE J J (cS [] 0) ⟨J,J⟩
 replace h:=ae g3 h;refine I ?_;refine aw ?_;refine I ?_;refine ap J (fun g5=> ?_) (fun g5=> ?_)
 ·replace h:=ad g5 h;refine I ?_;obtain rfl:=ak h;exact aE J J (cS [] 0) ⟨J,J⟩
 replace h:=ae g5 h;refine I ?_;refine aw ?_;refine I ?_;refine ap J (fun g6=> ?_) (fun g6=> ?_)
 ·replace h:=ad g6 h;refine I ?_;obtain rfl:=ak h;exact aE J J (cS [] 0) ⟨J,J⟩
 replace h:=ae g6 h;refine I ?_;refine aw ?_;refine I ?_;refine ap J (fun g7=> ?_) (fun g7=> ?_)
 ·replace h:=ad g7 h;refine I ?_;obtain rfl:=ak h;exact aE J J (cS [] 0) ⟨J,J⟩
 replace h:=ae g7 h;refine I ?_;obtain rfl:=ak h;exact aE J J (cS [] 0) ⟨J,J⟩
theorem kh {r:Int}: ∀v post,((fun (u:Value) (post:List Chunk)=>u=iV r∧post=[])) v post→ ∀c∈post,bL c:=by
 rintro _ _ ⟨rfl,rfl⟩;exact ac
def dU (N:Nat)(a0:Au)(a1:Au):Option Int:=
 (bif decide (a0.Kind=0) then (some (decide (a1.Kind=0))) else (some false)).bind fun b3=>bif b3 then ((jQ N a0.N a1.N).bind fun y5=>some y5) else ((jQ N a0.Kind a1.Kind).bind fun y6=>some y6)
theorem d7 {N:Nat}{a0:Au}{a1:Au}{r:Int}(h:dU N a0 a1=some r):Okc Tryz.prog 68 [.agg #[iV a0.Kind,iV a0.N,.string a0.S],.agg #[iV a1.Kind,iV a1.N,.string a1.S]] ([]) (fun u post=>u=iV r∧post=[]):=by
 refine bh Tryz.func68 J J ?_;simp only [aL];refine I ?_;refine gD (aI J J) ?_;rintro _ _ ⟨B1,rfl,rfl⟩;refine gD (aI J J) ?_;rintro _ _ ⟨B2,rfl,rfl⟩;refine I ?_;refine aw ?_;refine I ?_;obtain ⟨b3,hb3,h⟩:=aa h;refine aC 4 12 b3 ?_ ?_
 ·clear h;refine ay 8 J (fun g3=> ?_) (fun g3=> ?_)
  ·have h:=ad g3 hb3;refine I ?_;obtain rfl:=ak h;exact ab sA (cS [0,1] 2)
  have h:=ae g3 hb3;refine I ?_;obtain rfl:=ak h;exact ab sA (cS [0,1] 2)
 refine I ?_;refine ap J (fun g4=> ?_) (fun g4=> ?_)
 ·replace h:=ad g4 h;refine I ?_;obtain ⟨y5,hy5,h⟩:=aa h;refine gD (ag (lE hy5) uX J (ac) kh) ?_;rintro _ _ ⟨_,⟨rfl,rfl⟩,rfl⟩;refine I ?_;obtain rfl:=ak h;exact aE J J (cS [] 2) ⟨J,J⟩
 replace h:=ae g4 h;refine I ?_;obtain ⟨y6,hy6,h⟩:=aa h;refine gD (ag (lE hy6) uX J (ac) kh) ?_;rintro _ _ ⟨_,⟨rfl,rfl⟩,rfl⟩;refine I ?_;obtain rfl:=ak h;exact aE J J (cS [] 2) ⟨J,J⟩
theorem pH {r:Int}: ∀v post,((fun (u:Value) (post:List Chunk)=>u=iV r∧post=[])) v post→ ∀c∈post,bL c:=by
 rintro _ _ ⟨rfl,rfl⟩;exact ac
def df (N:Nat)(kb3:(List Au)→Int→Option (List Au))(a1:Int)(a2:Int)(p5:Int)(p8:(List Au)):Option (List Au):=
 dC (bV (p5+1)) (kb3 p8 (p5+1))
def ck (N:Nat)(kb3:(List Au)→Int→Option (List Au))(a1:Int)(a2:Int)(p5:Int):Nat→(List Au)→Int→Option (List Au)
 |0,_,_=>none
 |m9+1,p10,p11=>(bif decide (a1<p11) then ((cg p10 p11).bind fun x13=>dC (bV (p11 - 1)) ((cg p10 (p11 - 1)).bind fun x15=>(dU N x13 x15).bind fun y16=>some (decide (y16<0)))) else (some false)).bind fun b12=>bif b12 then (dC (bV (p11 - 1)) (dC (bV (p11 - 1)) ((cg p10 (p11 - 1)).bind fun x20=>(cg p10 p11).bind fun x21=>(cg p10 p11).bind fun x22=>(cg (List.set p10 p11.toNat (⟨x20.Kind,x20.N,x20.S⟩:Au)) (p11 - 1)).bind fun x23=>dC (bV (p11 - 1)) ((ck N kb3 a1 a2 p5 m9) (List.set (List.set p10 p11.toNat (⟨x20.Kind,x20.N,x20.S⟩:Au)) ((p11 - 1).toNat) (⟨x21.Kind,x21.N,x21.S⟩:Au)) (p11 - 1))))) else (df N kb3 a1 a2 p5 p10)
def bu (N:Nat)(a1:Int)(a2:Int):Nat→(List Au)→Int→Option (List Au)
 |0,_,_=>none
 |m3+1,p4,p5=>bif decide (p5<a2) then (ck N (bu N a1 a2 m3) a1 a2 p5 N p4 p5) else (some p4)
def bN (N:Nat)(a0:(List Au))(a1:Int)(a2:Int):Option (List Au):=
 dC (bV (a1+1)) (bu N a1 a2 N a0 (a1+1))
theorem cj {N:Nat}{a0:(List Au)}{a1:Int}{a2:Int}{r:(List Au)}(h:bN N a0 a1 a2=some r):Okc Tryz.prog 101 [Y A1 n1 c1,iV a1,iV a2,.func (.func 68) #[] #[]] ([kk A1 n1 c1 a0]) (fun u post=>u=.tuple #[]∧post=[kk A1 n1 c1 r]):=by
 refine bh Tryz.func101 J J ?_;simp only [aL];refine I ?_;obtain ⟨q2,h⟩:=aA h;refine gE (bT J J q2.1 q2.2) ?_;refine I ?_;refine cC (fun m s L=> ∃p4 p5,bu N a1 a2 m p4 p5=some r∧s=[(0,Y A1 n1 c1),(1,iV a1),(2,iV a2),(3,.func (.func 68) #[] #[]),(8,iV p5)]∧L=[kk A1 n1 c1 p4]) N _ _ ⟨a0,a1+1,h,J,J⟩ sA (cS [0] 1) ?_;rintro (_|m3) _ _ ⟨p4,p5,h,rfl,rfl⟩
 ·exact bj h
 rw [bu.eq_2] at h;refine aw ?_;refine I ?_;refine ap J (fun g6=> ?_) (fun g6=> ?_)
 ·replace h:=ad g6 h;refine I ?_;refine aW (fun s L=> ∃p8,df N (bu N a1 a2 m3) a1 a2 p5 p8=some r∧s=[(0,Y A1 n1 c1),(1,iV a1),(2,iV a2),(3,.func (.func 68) #[] #[]),(8,iV p5)]∧L=[kk A1 n1 c1 p8]) ?_ ?_
  ·refine I ?_;refine cC (fun m s L=> ∃p10 p11,ck N (bu N a1 a2 m3) a1 a2 p5 m p10 p11=some r∧s=[(0,Y A1 n1 c1),(1,iV a1),(2,iV a2),(3,.func (.func 68) #[] #[]),(8,iV p5),(9,iV p11)]∧L=[kk A1 n1 c1 p10]) N _ _ ⟨p4,p5,h,J,J⟩ sA (cS [0] 1) ?_;rintro (_|m9) _ _ ⟨p10,p11,h,rfl,rfl⟩
   ·exact bj h
   rw [ck.eq_2] at h;refine aw ?_;refine aw ?_;refine bg V _ (am _) ?_;refine zE 0 J (av J) ?_;refine zE 1 J (av J) ?_;refine zE 2 J (xl J J) ?_;refine zE 3 J (av J) ?_;obtain ⟨b12,hb12,h⟩:=aa h;refine qb (fun l=>(((((((((((((l.setIfInBounds 4 true).setIfInBounds 5 true).setIfInBounds 6 true).setIfInBounds 7 true).setIfInBounds 8 true).setIfInBounds 9 true).setIfInBounds 10 true).setIfInBounds 11 true).setIfInBounds 12 true).setIfInBounds 13 true).setIfInBounds 14 true).setIfInBounds 15 true).setIfInBounds 16 true)) 0 34 b12 (fun rest=> ?_) ?_
   ·clear h;refine rz 21 J (fun g12=> ?_) (fun g12=> ?_)
    ·have h:=ad g12 hb12;refine jE 4 J V (av J) (aS g12 J) J ?_;refine jE 5 J V (av J) (aS g12 J) J ?_;refine jE 6 J V (av J) (aS g12 J) J ?_;obtain ⟨x13,hx13,h⟩:=aa h;obtain ⟨lx13,ux13,hx13⟩:=aF hx13;refine mE 7 J V (bf 0 J ax J J Ao fu lx13 ux13) (aS g12 J) J ?_;refine mE 8 J V (bn (us:=[iV x13.Kind,iV x13.N,.string x13.S]) 0 J ax J hx13 ci (fun _ _ _ h=>by rw [show _=_ from h];rfl)) (aS g12 J) J ?_;refine jE 9 J V (av J) (aS g12 J) J ?_;refine jE 10 J V (av J) (aS g12 J) J ?_;obtain ⟨q14,h⟩:=aA h;refine jE 11 J V (gc J J q14.1 q14.2) (aS g12 J) J ?_;obtain ⟨x15,hx15,h⟩:=aa h;obtain ⟨lx15,ux15,hx15⟩:=aF hx15;refine mE 12 J V (bf 0 J ax J J Ao fu lx15 ux15) (aS g12 J) J ?_;refine mE 13 J V (bn (us:=[iV x15.Kind,iV x15.N,.string x15.S]) 0 J ax J hx15 ci (fun _ _ _ h=>by rw [show _=_ from h];rfl)) (aS g12 J) J ?_;obtain ⟨y16,hy16,h⟩:=aa h;refine qa 14 J V (fN (d7 hy16) mV J J J (ac) pH) J (aS g12 J) J ?_;rintro _ _ ⟨_,⟨rfl,rfl⟩,rfl⟩;refine ⟨_,am _,am _,?_⟩;refine jE 15 J V (xj J J) (aS g12 J) J ?_;refine zE 16 J (kD g12 J J) ?_;obtain rfl:=ak h
     exact na rest (iW J (aO (aO (aO (aO (aO (aO (aO (aO (aO (aO (aO (aO (aO dn J) J) J) J) J) J) J) J) J) J) J) J) J)) (am _) (am _)
    have h:=ae g12 hb12;refine ed 4 J V (gZ g12 J) J ?_;refine ed 5 J V (gZ g12 J) J ?_;refine ed 6 J V (gZ g12 J) J ?_;refine ed 7 J V (gZ g12 J) J ?_;refine ed 8 J V (gZ g12 J) J ?_;refine ed 9 J V (gZ g12 J) J ?_;refine ed 10 J V (gZ g12 J) J ?_;refine ed 11 J V (gZ g12 J) J ?_;refine ed 12 J V (gZ g12 J) J ?_;refine ed 13 J V (gZ g12 J) J ?_;refine ed 14 J V (gZ g12 J) J ?_;refine ed 15 J V (gZ g12 J) J ?_;refine zE 16 J (kE g12 J J) ?_;obtain rfl:=ak h;exact na rest (iW J (aO (aO (aO (aO (aO (aO (aO (aO (aO (aO (aO (aO (aO dn J) J) J) J) J) J) J) J) J) J) J) J) J)) (am _) (am _)
   refine aZ V ?_;refine eB ?_;refine ap J (fun g17=> ?_) (fun g17=> ?_)
   ·replace h:=ad g17 h;refine I ?_;refine aw ?_;refine gj ?_;obtain ⟨q18,h⟩:=aA h;obtain ⟨q19,h⟩:=aA h;obtain ⟨x20,hx20,h⟩:=aa h;obtain ⟨lx20,ux20,hx20⟩:=aF hx20;obtain ⟨x21,hx21,h⟩:=aa h;obtain ⟨lx21,ux21,hx21⟩:=aF hx21;refine jl (t:=[(0,Y A1 n1 c1),(1,iV a1),(2,iV a2),(3,.func (.func 68) #[] #[]),(8,iV p5),(9,iV p11)]) ?_ me (am _)
    refine jF V 14 [2,3,4] [0,1,2,4,9,13] [37,38,39,40,41,42,43,44,45,46,47,48,49,50] [[],[],[],[],[3],[],[],[6],[5,7],[8],[],[],[10,11],[12]] [aV (Y A1 n1 c1),
 aV (iV p11),
 aV (Y A1 n1 c1),
 aV (iV p11),
 aV (iV (p11 - 1)),
 aV (Y A1 n1 c1),
 aV (iV p11),
 aV (iV (p11 - 1)),
 aV (dB (Y A1 n1 c1) ((p11 - 1).toNat) 3 0),
 aV (.agg #[iV x20.Kind,iV x20.N,.string x20.S]),
 aV (Y A1 n1 c1),
 aV (iV p11),
 aV (dB (Y A1 n1 c1) p11.toNat 3 0),
 aV (.agg #[iV x21.Kind,iV x21.N,.string x21.S])] [] (am _) (ju rfl (ju rfl (ju rfl lr))) V rfl rfl ?_ ?_ ?_
    ·refine jt J ?_ ?_
     ·exact oP (av J) J (bC J (am _))
     refine jt J ?_ ?_
     ·exact oP (av J) J (bC J (am _))
     refine jt J ?_ ?_
     ·exact oP (gc J J q18.1 q18.2) J (bC J (am _))
     exact lq
    ·refine aq J ?_ ?_
     ·exact ib (bn (us:=[iV x21.Kind,iV x21.N,.string x21.S]) 0 J ax J hx21 ci (fun _ _ _ h=>by rw [show _=_ from h];rfl)) J (bC J (am _))
     refine aq J ?_ ?_
     ·exact ib (bf 0 J ax J J Ao fu lx21 ux21) J (bC J (am _))
     refine aq J ?_ ?_
     ·exact cI (av J) J (bC J (am _))
     refine aq J ?_ ?_
     ·exact cI (av J) J (bC J (am _))
     refine aq J ?_ ?_
     ·exact ib (bn (us:=[iV x20.Kind,iV x20.N,.string x20.S]) 0 J ax J hx20 ci (fun _ _ _ h=>by rw [show _=_ from h];rfl)) J (bC J (am _))
     refine aq J ?_ ?_
     ·exact ib (bf 0 J ax J J Ao fu lx20 ux20) J (bC J (am _))
     refine aq J ?_ ?_
     ·exact cI (gc J J q19.1 q19.2) J (bC J (am _))
     refine aq J ?_ ?_
     ·exact cI (av J) J (bC J (am _))
     refine aq J ?_ ?_
     ·exact cI (av J) J (bC J (am _))
     refine aq J ?_ ?_
     ·exact cI (gc J J q18.1 q18.2) J (bC J (am _))
     refine aq J ?_ ?_
     ·exact cI (av J) J (bC J (am _))
     refine aq J ?_ ?_
     ·exact cI (av J) J (bC J (am _))
     refine aq J ?_ ?_
     ·exact cI (av J) J (bC J (am _))
     refine aq J ?_ ?_
     ·exact cI (av J) J (bC J (am _))
     exact fI
    refine nQ (t:=[(37,Y A1 n1 c1),(38,iV p11),(39,Y A1 n1 c1),(41,iV (p11 - 1)),(46,.agg #[iV x20.Kind,iV x20.N,.string x20.S]),(50,.agg #[iV x21.Kind,iV x21.N,.string x21.S]),(0,Y A1 n1 c1),(1,iV a1),(2,iV a2),(3,.func (.func 68) #[] #[]),(8,iV p5),(9,iV p11)]) (L':=[kk A1 n1 c1 p10]) ?_ me (am _);obtain ⟨x22,hx22,h⟩:=aa h;obtain ⟨lx22,ux22,hx22⟩:=aF hx22;refine zk 14 J V (bf 0 J ax J J Ao fu lx22 ux22) J J J ?_;refine qd 15 J V (dk (us:=[iV x20.Kind,iV x20.N,.string x20.S]) (z:=(⟨x20.Kind,x20.N,x20.S⟩:Au)) 0 J J J J fu J (aQ lx22 ux22) J (fun S w vs xk hk hr ho=>by obtain rfl:=Option.some.inj (hk.symm.trans hx22);rw [show _=_ from hr];rfl)) J J ?_;rintro _ _ rfl;obtain ⟨x23,hx23,h⟩:=aa h;obtain ⟨lx23,ux23,hx23⟩:=aF hx23;refine zk 16 J V (bf 0 J ax J J Ao fu lx23 ux23) J J J ?_;refine qd 17 J V (dk (us:=[iV x21.Kind,iV x21.N,.string x21.S]) (z:=(⟨x21.Kind,x21.N,x21.S⟩:Au)) 0 J J J J fu J (aQ lx23 ux23) J (fun S w vs xk hk hr ho=>by obtain rfl:=Option.some.inj (hk.symm.trans hx23);rw [show _=_ from hr];rfl)) J J ?_;rintro _ _ rfl;refine lK V ?_;refine I ?_;obtain ⟨q24,h⟩:=aA h;refine gE (gc J J q24.1 q24.2) ?_;refine I ?_
    exact ⟨m9,_,_,AK _,⟨List.set (List.set p10 p11.toNat (⟨x20.Kind,x20.N,x20.S⟩:Au)) ((p11 - 1).toNat) (⟨x21.Kind,x21.N,x21.S⟩:Au),p11 - 1,h,J,J⟩,sA,cS [0] 1⟩
   replace h:=ae g17 h;refine I ?_;exact ⟨_,_,⟨p10,h,J,J⟩,sA,cS [0] 1⟩
  rintro _ _ ⟨p8,h,rfl,rfl⟩;refine I ?_;obtain ⟨q25,h⟩:=aA h;refine gE (bT J J q25.1 q25.2) ?_;refine I ?_;exact ⟨m3,_,_,AK _,⟨p8,p5+1,h,J,J⟩,sA,cS [0] 1⟩
 replace h:=ae g6 h;refine I ?_;obtain rfl:=ak h;exact d8 J (cS [0] 1) ⟨J,J⟩
def bH (N:Nat)(a0:(List Au))(a1:Int)(a2:Int)(a3:Int)(ff:(Au×Au)→Option Int):Option Unit:=
 none
theorem bP {N:Nat}{a0:(List Au)}{a1:Int}{a2:Int}{a3:Int}{ff:(Au×Au)→Option Int}{r:Unit}(h:bH N a0 a1 a2 a3 ff=some r){vf:Value}{G:List Chunk}(hf:xb Tryz.prog vf G (fun x=> [.agg #[iV x.1.Kind,iV x.1.N,.string x.1.S],.agg #[iV x.2.Kind,iV x.2.N,.string x.2.S]]) (fun r=>iV r) ff):Okc Tryz.prog 102 [Y A1 n1 c1,iV a1,iV a2,iV a3,vf] (ko lm (Y A1 n1 c1) a0::G) (fun u post=>u=.tuple #[]∧post=[]):=by
 exact bj h
theorem bI: ∀v post,((fun (u:Value) (post:List Chunk)=>u=.tuple #[]∧post=[])) v post→ ∀c∈post,bL c:=by
 rintro _ _ ⟨rfl,rfl⟩;exact ac
def cO (N:Nat)(kb14:Int→Option (List Au))(a1:Int)(p15:Int)(y13:((List Au))):Option (List Au):=
 dC (bV (p15*2)) (kb14 (p15*2))
def gr (N:Nat)(kb14:Int→Option (List Au))(a1:Int)(p15:Int)(y13:((List Au))):Option (List Au):=
 dC (bV (0+p15)) (bif decide (0+p15<a1) then ((bH N y13 0 (0+p15) a1 (fun x=>dU N x.1 x.2)).bind fun y32=>cO N kb14 a1 p15 y13) else (cO N kb14 a1 p15 y13))
def cN (N:Nat)(kb14:Int→Option (List Au))(a1:Int)(p15:Int)(y13:((List Au))):Option (List Au):=
 dC (bV (p15*2)) (kb14 (p15*2))
def dK (N:Nat)(kb14:Int→Option (List Au))(a1:Int)(p15:Int)(y13:((List Au)))(p20:Int):Option (List Au):=
 dC (bV (p20+p15)) (bif decide (p20+p15<a1) then ((bH N y13 p20 (p20+p15) a1 (fun x=>dU N x.1 x.2)).bind fun y37=>cN N kb14 a1 p15 y13) else (cN N kb14 a1 p15 y13))
def cK (N:Nat)(kb14:Int→Option (List Au))(a1:Int)(p15:Int)(y13:((List Au))):Nat→Int→Int→Option (List Au)
 |0,_,_=>none
 |m21+1,p22,p23=>bif decide (p23≤a1) then (dC (bV (p22+p15)) ((bH N y13 p22 (p22+p15) p23 (fun x=>dU N x.1 x.2)).bind fun y26=>dC (bV (2*p15)) (dC (bV (p23+(2*p15))) ((cK N kb14 a1 p15 y13 m21) p23 (p23+(2*p15)))))) else (dK N kb14 a1 p15 y13 p22)
def bc (N:Nat)(a1:Int)(y13:((List Au))):Nat→Int→Option (List Au)
 |0,_=>none
 |m14+1,p15=>bif decide (p15<a1) then (dC (bV (2*p15)) (cK N (bc N a1 y13 m14) a1 p15 y13 N 0 (2*p15))) else (some y13)
def gJ (N:Nat)(a1:Int)(a0:(List Au)):Option (List Au):=
 (bN N a0 0 a1).bind fun y13=>bc N a1 y13 N 20
def cM (N:Nat)(kb40:Int→Option (List Au))(a1:Int)(p41:Int)(y39:((List Au))):Option (List Au):=
 dC (bV (p41*2)) (kb40 (p41*2))
def gq (N:Nat)(kb40:Int→Option (List Au))(a1:Int)(p41:Int)(y39:((List Au))):Option (List Au):=
 dC (bV (0+p41)) (bif decide (0+p41<a1) then ((bH N y39 0 (0+p41) a1 (fun x=>dU N x.1 x.2)).bind fun y58=>cM N kb40 a1 p41 y39) else (cM N kb40 a1 p41 y39))
def cL (N:Nat)(kb40:Int→Option (List Au))(a1:Int)(p41:Int)(y39:((List Au))):Option (List Au):=
 dC (bV (p41*2)) (kb40 (p41*2))
def dJ (N:Nat)(kb40:Int→Option (List Au))(a1:Int)(p41:Int)(y39:((List Au)))(p46:Int):Option (List Au):=
 dC (bV (p46+p41)) (bif decide (p46+p41<a1) then ((bH N y39 p46 (p46+p41) a1 (fun x=>dU N x.1 x.2)).bind fun y63=>cL N kb40 a1 p41 y39) else (cL N kb40 a1 p41 y39))
def cJ (N:Nat)(kb40:Int→Option (List Au))(a1:Int)(p41:Int)(y39:((List Au))):Nat→Int→Int→Option (List Au)
 |0,_,_=>none
 |m47+1,p48,p49=>bif decide (p49≤a1) then (dC (bV (p48+p41)) ((bH N y39 p48 (p48+p41) p49 (fun x=>dU N x.1 x.2)).bind fun y52=>dC (bV (2*p41)) (dC (bV (p49+(2*p41))) ((cJ N kb40 a1 p41 y39 m47) p49 (p49+(2*p41)))))) else (dJ N kb40 a1 p41 y39 p48)
def ba (N:Nat)(a1:Int)(y39:((List Au))):Nat→Int→Option (List Au)
 |0,_=>none
 |m40+1,p41=>bif decide (p41<a1) then (dC (bV (2*p41)) (cJ N (ba N a1 y39 m40) a1 p41 y39 N 0 (2*p41))) else (some y39)
def dR (N:Nat)(a1:Int)(p4:(List Au))(p5:Int):Option (List Au):=
 (bN N p4 p5 a1).bind fun y39=>ba N a1 y39 N 20
def cT (N:Nat)(a1:Int):Nat→(List Au)→Int→Int→Option (List Au)
 |0,_,_,_=>none
 |m6+1,p7,p8,p9=>bif decide (p9≤a1) then ((bN N p7 p8 p9).bind fun y11=>dC (bV (p9+20)) ((cT N a1 m6) y11 p9 (p9+20))) else (dR N a1 p7 p8)
def eb (N:Nat)(a0:(List Au))(a1:Int):Option (List Au):=
 cT N a1 N a0 0 20
set_option maxHeartbeats 4000000 in
theorem gI {N:Nat}{a0:(List Au)}{a1:Int}{r:(List Au)}(h:eb N a0 a1=some r):Okc Tryz.prog 87 [Y A1 n1 c1,iV a1,.func (.func 68) #[] #[]] ([kk A1 n1 c1 a0]) (fun u post=>u=.tuple #[]∧post=[kk A1 n1 c1 r]):=by
 refine bh Tryz.func87 J J ?_;simp only [aL];refine I ?_;refine aW (fun s L=>(gJ N a1 a0=some r∧s=[(0,Y A1 n1 c1),(1,iV a1),(2,.func (.func 68) #[] #[]),(6,iV 20),(7,iV 0)]∧L=[kk A1 n1 c1 a0])∨(∃p4 p5,dR N a1 p4 p5=some r∧s=[(0,Y A1 n1 c1),(1,iV a1),(2,.func (.func 68) #[] #[]),(6,iV 20),(7,iV p5)]∧L=[kk A1 n1 c1 p4])) ?_ ?_
 ·refine gj ?_;refine cC (fun m s L=> ∃p7 p8 p9,cT N a1 m p7 p8 p9=some r∧s=[(0,Y A1 n1 c1),(1,iV a1),(2,.func (.func 68) #[] #[]),(6,iV 20),(7,iV p8),(8,iV p9)]∧L=[kk A1 n1 c1 p7]) N _ _ ⟨a0,0,20,h,J,J⟩ sA (cS [0] 1) ?_;rintro (_|m6) _ _ ⟨p7,p8,p9,h,rfl,rfl⟩
  ·exact bj h
  rw [cT.eq_2] at h;refine aw ?_;refine I ?_;refine ap J (fun g10=> ?_) (fun g10=> ?_)
  ·replace h:=ad g10 h;refine I ?_;obtain ⟨y11,hy11,h⟩:=aa h;refine gD (aB (cj hy11) rp J (az [] [0] [] 1 J)) ?_;rintro _ _ ⟨_,⟨rfl,rfl⟩,rfl⟩;refine I ?_;obtain ⟨q12,h⟩:=aA h;refine gE (bT J J q12.1 q12.2) ?_;refine I ?_;exact ⟨m6,_,_,AK _,⟨y11,p9,p9+20,h,J,J⟩,sA,cS [0] 1⟩
  replace h:=ae g10 h;refine I ?_;exact ⟨_,_,.inr (⟨p7,p8,h,J,J⟩),sA,cS [0] 1⟩
 rintro _ _ (⟨h,rfl,rfl⟩|⟨p4,p5,h,rfl,rfl⟩)
 ·refine I ?_;obtain ⟨y13,hy13,h⟩:=aa h;refine gD (aB (cj hy13) rp J (az [] [0] [] 1 J)) ?_;rintro _ _ ⟨_,⟨rfl,rfl⟩,rfl⟩;refine I ?_;refine cC (fun m s L=> ∃p15,bc N a1 y13 m p15=some r∧s=[(0,Y A1 n1 c1),(1,iV a1),(2,.func (.func 68) #[] #[]),(6,iV p15)]∧L=[kk A1 n1 c1 y13]) N _ _ ⟨20,h,J,J⟩ sA (cS [0] 1) ?_;rintro (_|m14) _ _ ⟨p15,h,rfl,rfl⟩
  ·exact bj h
  rw [bc.eq_2] at h;refine aw ?_;refine I ?_;refine ap J (fun g16=> ?_) (fun g16=> ?_)
  ·replace h:=ad g16 h;refine I ?_;obtain ⟨q17,h⟩:=aA h;refine gE (jK J J q17.1 q17.2) ?_;refine I ?_;refine aW (fun s L=>(gr N (bc N a1 y13 m14) a1 p15 y13=some r∧s=[(0,Y A1 n1 c1),(1,iV a1),(2,.func (.func 68) #[] #[]),(6,iV p15),(7,iV 0)]∧L=[kk A1 n1 c1 y13])∨(∃p20,dK N (bc N a1 y13 m14) a1 p15 y13 p20=some r∧s=[(0,Y A1 n1 c1),(1,iV a1),(2,.func (.func 68) #[] #[]),(6,iV p15),(7,iV p20)]∧L=[kk A1 n1 c1 y13])) ?_ ?_
   ·refine gj ?_;refine cC (fun m s L=> ∃p22 p23,cK N (bc N a1 y13 m14) a1 p15 y13 m p22 p23=some r∧s=[(0,Y A1 n1 c1),(1,iV a1),(2,.func (.func 68) #[] #[]),(6,iV p15),(7,iV p22),(8,iV p23)]∧L=[kk A1 n1 c1 y13]) N _ _ ⟨0,2*p15,h,J,J⟩ sA (cS [0] 1) ?_;rintro (_|m21) _ _ ⟨p22,p23,h,rfl,rfl⟩
    ·exact bj h
    rw [cK.eq_2] at h;refine aw ?_;refine I ?_;refine ap J (fun g24=> ?_) (fun g24=> ?_)
    ·replace h:=ad g24 h;refine I ?_;obtain ⟨q25,h⟩:=aA h;refine gE (bT J J q25.1 q25.2) ?_;refine I ?_;obtain ⟨y26,hy26,h⟩:=aa h;refine gD (ag (bP hy26 ⟨ac,68, #[], #[],J,mV,fun _ _ hh=>d7 hh⟩) ma J (hD (ah (i:=0) J) ac) bI) ?_;rintro _ _ ⟨_,⟨rfl,rfl⟩,rfl⟩;refine I ?_;obtain ⟨q27,h⟩:=aA h;refine gE (jK J J q27.1 q27.2) ?_;obtain ⟨q28,h⟩:=aA h;refine gE (bT J J q28.1 q28.2) ?_;refine I ?_;exact ⟨m21,_,_,AK _,⟨p23,p23+(2*p15),h,J,J⟩,sA,cS [0] 1⟩
    replace h:=ae g24 h;refine I ?_;exact ⟨_,_,.inr (⟨p22,h,J,J⟩),sA,cS [0] 1⟩
   rintro _ _ (⟨h,rfl,rfl⟩|⟨p20,h,rfl,rfl⟩)
   ·refine aW (fun s L=>cO N (bc N a1 y13 m14) a1 p15 y13=some r∧s=[(0,Y A1 n1 c1),(1,iV a1),(2,.func (.func 68) #[] #[]),(6,iV p15)]∧L=[kk A1 n1 c1 y13]) ?_ ?_
    ·refine I ?_;obtain ⟨q30,h⟩:=aA h;refine gE (bT J J q30.1 q30.2) ?_;refine I ?_;refine ap J (fun g31=> ?_) (fun g31=> ?_)
     ·replace h:=ad g31 h;refine I ?_;obtain ⟨y32,hy32,h⟩:=aa h;refine gD (ag (bP hy32 ⟨ac,68, #[], #[],J,mV,fun _ _ hh=>d7 hh⟩) ma J (hD (ah (i:=0) J) ac) bI) ?_;rintro _ _ ⟨_,⟨rfl,rfl⟩,rfl⟩;refine I ?_;exact ⟨_,_,⟨h,J,J⟩,sA,cS [0] 1⟩
     replace h:=ae g31 h;refine I ?_;exact ⟨_,_,⟨h,J,J⟩,sA,cS [0] 1⟩
    rintro _ _ ⟨h,rfl,rfl⟩;refine I ?_;obtain ⟨q33,h⟩:=aA h;refine gE (jK J J q33.1 q33.2) ?_;refine I ?_;exact ⟨m14,_,_,AK _,⟨p15*2,h,J,J⟩,sA,cS [0] 1⟩
   refine aW (fun s L=>cN N (bc N a1 y13 m14) a1 p15 y13=some r∧s=[(0,Y A1 n1 c1),(1,iV a1),(2,.func (.func 68) #[] #[]),(6,iV p15)]∧L=[kk A1 n1 c1 y13]) ?_ ?_
   ·refine I ?_;obtain ⟨q35,h⟩:=aA h;refine gE (bT J J q35.1 q35.2) ?_;refine I ?_;refine ap J (fun g36=> ?_) (fun g36=> ?_)
    ·replace h:=ad g36 h;refine I ?_;obtain ⟨y37,hy37,h⟩:=aa h;refine gD (ag (bP hy37 ⟨ac,68, #[], #[],J,mV,fun _ _ hh=>d7 hh⟩) ma J (hD (ah (i:=0) J) ac) bI) ?_;rintro _ _ ⟨_,⟨rfl,rfl⟩,rfl⟩;refine I ?_;exact ⟨_,_,⟨h,J,J⟩,sA,cS [0] 1⟩
    replace h:=ae g36 h;refine I ?_;exact ⟨_,_,⟨h,J,J⟩,sA,cS [0] 1⟩
   rintro _ _ ⟨h,rfl,rfl⟩;refine I ?_;obtain ⟨q38,h⟩:=aA h;refine gE (jK J J q38.1 q38.2) ?_;refine I ?_;exact ⟨m14,_,_,AK _,⟨p15*2,h,J,J⟩,sA,cS [0] 1⟩
  replace h:=ae g16 h;refine I ?_;obtain rfl:=ak h;exact d8 J (cS [0] 1) ⟨J,J⟩
 refine I ?_;obtain ⟨y39,hy39,h⟩:=aa h;refine gD (aB (cj hy39) rp J (az [] [0] [] 1 J)) ?_;rintro _ _ ⟨_,⟨rfl,rfl⟩,rfl⟩;refine bJ ?_;refine I ?_;refine cC (fun m s L=> ∃p41,ba N a1 y39 m p41=some r∧s=[(0,Y A1 n1 c1),(1,iV a1),(2,.func (.func 68) #[] #[]),(6,iV p41)]∧L=[kk A1 n1 c1 y39]) N _ _ ⟨20,h,J,J⟩ sA (cS [0] 1) ?_;rintro (_|m40) _ _ ⟨p41,h,rfl,rfl⟩
 ·exact bj h
 rw [ba.eq_2] at h;refine aw ?_;refine I ?_;refine ap J (fun g42=> ?_) (fun g42=> ?_)
 ·replace h:=ad g42 h;refine I ?_;obtain ⟨q43,h⟩:=aA h;refine gE (jK J J q43.1 q43.2) ?_;refine I ?_;refine aW (fun s L=>(gq N (ba N a1 y39 m40) a1 p41 y39=some r∧s=[(0,Y A1 n1 c1),(1,iV a1),(2,.func (.func 68) #[] #[]),(6,iV p41),(7,iV 0)]∧L=[kk A1 n1 c1 y39])∨(∃p46,dJ N (ba N a1 y39 m40) a1 p41 y39 p46=some r∧s=[(0,Y A1 n1 c1),(1,iV a1),(2,.func (.func 68) #[] #[]),(6,iV p41),(7,iV p46)]∧L=[kk A1 n1 c1 y39])) ?_ ?_
  ·refine gj ?_;refine cC (fun m s L=> ∃p48 p49,cJ N (ba N a1 y39 m40) a1 p41 y39 m p48 p49=some r∧s=[(0,Y A1 n1 c1),(1,iV a1),(2,.func (.func 68) #[] #[]),(6,iV p41),(7,iV p48),(8,iV p49)]∧L=[kk A1 n1 c1 y39]) N _ _ ⟨0,2*p41,h,J,J⟩ sA (cS [0] 1) ?_;rintro (_|m47) _ _ ⟨p48,p49,h,rfl,rfl⟩
   ·exact bj h
   rw [cJ.eq_2] at h;refine aw ?_;refine I ?_;refine ap J (fun g50=> ?_) (fun g50=> ?_)
   ·replace h:=ad g50 h;refine I ?_;obtain ⟨q51,h⟩:=aA h;refine gE (bT J J q51.1 q51.2) ?_;refine I ?_;obtain ⟨y52,hy52,h⟩:=aa h;refine gD (ag (bP hy52 ⟨ac,68, #[], #[],J,mV,fun _ _ hh=>d7 hh⟩) ma J (hD (ah (i:=0) J) ac) bI) ?_;rintro _ _ ⟨_,⟨rfl,rfl⟩,rfl⟩;refine I ?_;obtain ⟨q53,h⟩:=aA h;refine gE (jK J J q53.1 q53.2) ?_;obtain ⟨q54,h⟩:=aA h;refine gE (bT J J q54.1 q54.2) ?_;refine I ?_;exact ⟨m47,_,_,AK _,⟨p49,p49+(2*p41),h,J,J⟩,sA,cS [0] 1⟩
   replace h:=ae g50 h;refine I ?_;exact ⟨_,_,.inr (⟨p48,h,J,J⟩),sA,cS [0] 1⟩
  rintro _ _ (⟨h,rfl,rfl⟩|⟨p46,h,rfl,rfl⟩)
  ·refine aW (fun s L=>cM N (ba N a1 y39 m40) a1 p41 y39=some r∧s=[(0,Y A1 n1 c1),(1,iV a1),(2,.func (.func 68) #[] #[]),(6,iV p41)]∧L=[kk A1 n1 c1 y39]) ?_ ?_
   ·refine I ?_;obtain ⟨q56,h⟩:=aA h;refine gE (bT J J q56.1 q56.2) ?_;refine I ?_;refine ap J (fun g57=> ?_) (fun g57=> ?_)
    ·replace h:=ad g57 h;refine I ?_;obtain ⟨y58,hy58,h⟩:=aa h;refine gD (ag (bP hy58 ⟨ac,68, #[], #[],J,mV,fun _ _ hh=>d7 hh⟩) ma J (hD (ah (i:=0) J) ac) bI) ?_;rintro _ _ ⟨_,⟨rfl,rfl⟩,rfl⟩;refine I ?_;exact ⟨_,_,⟨h,J,J⟩,sA,cS [0] 1⟩
    replace h:=ae g57 h;refine I ?_;exact ⟨_,_,⟨h,J,J⟩,sA,cS [0] 1⟩
   rintro _ _ ⟨h,rfl,rfl⟩;refine I ?_;obtain ⟨q59,h⟩:=aA h;refine gE (jK J J q59.1 q59.2) ?_;refine I ?_;exact ⟨m40,_,_,AK _,⟨p41*2,h,J,J⟩,sA,cS [0] 1⟩
  refine aW (fun s L=>cL N (ba N a1 y39 m40) a1 p41 y39=some r∧s=[(0,Y A1 n1 c1),(1,iV a1),(2,.func (.func 68) #[] #[]),(6,iV p41)]∧L=[kk A1 n1 c1 y39]) ?_ ?_
  ·refine I ?_;obtain ⟨q61,h⟩:=aA h;refine gE (bT J J q61.1 q61.2) ?_;refine I ?_;refine ap J (fun g62=> ?_) (fun g62=> ?_)
   ·replace h:=ad g62 h;refine I ?_;obtain ⟨y63,hy63,h⟩:=aa h;refine gD (ag (bP hy63 ⟨ac,68, #[], #[],J,mV,fun _ _ hh=>d7 hh⟩) ma J (hD (ah (i:=0) J) ac) bI) ?_;rintro _ _ ⟨_,⟨rfl,rfl⟩,rfl⟩;refine I ?_;exact ⟨_,_,⟨h,J,J⟩,sA,cS [0] 1⟩
   replace h:=ae g62 h;refine I ?_;exact ⟨_,_,⟨h,J,J⟩,sA,cS [0] 1⟩
  rintro _ _ ⟨h,rfl,rfl⟩;refine I ?_;obtain ⟨q64,h⟩:=aA h;refine gE (jK J J q64.1 q64.2) ?_;refine I ?_;exact ⟨m40,_,_,AK _,⟨p41*2,h,J,J⟩,sA,cS [0] 1⟩
 replace h:=ae g42 h;refine I ?_;obtain rfl:=ak h;exact d8 J (cS [0] 1) ⟨J,J⟩
def dS (N:Nat)(a0:(List Au)):Option (List Au):=
 (eb N a0 (a0.length:Int)).bind fun y2=>some y2
theorem gt {N:Nat}{a0:(List Au)}{r:(List Au)}(h:dS N a0=some r):Okc Tryz.prog 67 [Y A1 n1 c1,.func (.func 68) #[] #[]] ([kk A1 n1 c1 a0]) (fun u post=>u=.tuple #[]∧post=[kk A1 n1 c1 r]):=by
 refine bh Tryz.func67 J J ?_;simp only [aL];refine I ?_;refine gR (bz 0 J ax J Ao) ?_;refine I ?_;obtain ⟨y2,hy2,h⟩:=aa h;refine gD (aB (gI hy2) yc J (az [] [0] [] 1 J)) ?_;rintro _ _ ⟨_,⟨rfl,rfl⟩,rfl⟩;refine nS ?_;obtain rfl:=ak h;exact d8 J (cS [0] 1) ⟨J,J⟩
def nu (N:Nat)(p3:(List Au)):Option (List Au):=
 (dS N p3).bind fun y19=>some y19
def kz (N:Nat)(kb4:(List Au)→Int→Option (List Au))(a0:(List Au))(p6:Int)(p10:(List Au)):Option (List Au):=
 dC (bV (p6+1)) (kb4 p10 (p6+1))
def f3 (N:Nat)(a0:(List Au)):Nat→(List Au)→Int→Option (List Au)
 |0,_,_=>none
 |m4+1,p5,p6=>bif decide (p6<(a0.length:Int)) then ((cg a0 p6).bind fun x11=>(gY N x11).bind fun y13=>bif y13 then (dC (my (p5.length+([x11]:List Au).length)) (kz N (f3 N a0 m4) a0 p6 (p5++([x11]:List Au)))) else (kz N (f3 N a0 m4) a0 p6 p5)) else (nu N p5)
def oF (N:Nat)(a0:(List Au)):Option (List Au):=
 f3 N a0 N [] 0
theorem qT {N:Nat}{a0:(List Au)}{r:(List Au)}(h:oF N a0=some r):Okc Tryz.prog 42 [Y A1 n1 c1] ([ko lm (Y A1 n1 c1) a0]) (fun u post=> ∃A0 n0 c0,u=Y A0 n0 c0∧post=[kk A0 n0 c0 r]):=by
 refine bh Tryz.func42 J J ?_;simp only [aL];refine I ?_;refine aW (fun s L=> ∃p3 A3 n3 c3,nu N p3=some r∧s=[(2,Y none 0 0),(3,Y A3 n3 c3)]∧L=[kk A3 n3 c3 p3]) ?_ ?_
 ·refine I ?_;refine gR (bz 0 J aG J Ao) ?_;refine I ?_;refine cC (fun m s L=> ∃p5 p6 A5 n5 c5,f3 N a0 m p5 p6=some r∧s=[(2,Y none 0 0),(3,Y A5 n5 c5),(6,Y A1 n1 c1),(7,iV (a0.length:Int)),(8,iV p6)]∧L=[kk A5 n5 c5 p5,ko lm (Y A1 n1 c1) a0]) N _ _ ⟨[],0,none,0,0,h,J,J⟩ sA ((ep lm 44 _).trans (cS [0,1] 2)) ?_;rintro (_|m4) _ _ ⟨p5,p6,A5,n5,c5,h,rfl,rfl⟩
  ·exact bj h
  rw [f3.eq_2] at h;refine I ?_;refine aw ?_;refine ap J (fun g8=> ?_) (fun g8=> ?_)
  ·replace h:=ad g8 h;refine I ?_;refine aW (fun s L=> ∃p10 A10 n10 c10,kz N (f3 N a0 m4) a0 p6 p10=some r∧s=[(2,Y none 0 0),(3,Y A10 n10 c10),(6,Y A1 n1 c1),(7,iV (a0.length:Int)),(8,iV p6)]∧L=[kk A10 n10 c10 p10,ko lm (Y A1 n1 c1) a0]) ?_ ?_
   ·refine I ?_;obtain ⟨x11,hx11,h⟩:=aa h;obtain ⟨lx11,ux11,hx11⟩:=aF hx11;refine gR (bf 1 J aG J J Ao fu lx11 ux11) ?_;refine gR (bn (us:=[iV x11.Kind,iV x11.N,.string x11.S]) 1 J aG J hx11 ci (fun _ _ _ h=>by rw [show _=_ from h];rfl)) ?_;refine gD (aP sc J) ?_;rintro _ _ ⟨B12,rfl,rfl⟩;refine gO (ar (us:=[iV x11.Kind,iV x11.N,.string x11.S]) (cs':=[iV x11.Kind,iV x11.N,.string x11.S]) 0 J J J J fu J J J) ?_;rintro _ _ rfl;refine I ?_;refine gR (aj (us:=[iV x11.Kind,iV x11.N,.string x11.S]) 0 J J ci J) ?_;obtain ⟨y13,hy13,h⟩:=aa h;refine gD (ag (iL hy13) rk J (ac) f0) ?_;rintro _ _ ⟨_,⟨rfl,rfl⟩,rfl⟩;refine I ?_;refine ap J (fun g14=> ?_) (fun g14=> ?_)
    ·replace h:=ad g14 h;refine I ?_;refine gR (aj (us:=[iV x11.Kind,iV x11.N,.string x11.S]) 0 J J ci J) ?_;refine gD (cc (R:=lm) (vss:=[[iV x11.Kind,iV x11.N,.string x11.S]]) (xs:=[x11]) J (rZ _ _ _) J J (fun _ _ hr=> .cons J All2.nil)) ?_;rintro _ _ ⟨A15,n15,c15,rfl,rfl⟩;obtain ⟨q16,h⟩:=aA h;refine gD (dM 2 0 J J ax J J Ao yQ J J q16) ?_;rintro _ _ ⟨A17,n17,c17,rfl,rfl⟩;refine I ?_;exact ⟨_,_,⟨p5++([x11]:List Au),A17,n17,c17,h,J,J⟩,sA,cS [2,3] 4⟩
    replace h:=ae g14 h;refine I ?_;exact ⟨_,_,⟨p5,A5,n5,c5,h,J,J⟩,sA,cS [1,2] 3⟩
   rintro _ _ ⟨p10,A10,n10,c10,h,rfl,rfl⟩;refine jm ?_;obtain ⟨q18,h⟩:=aA h;refine gE (bT J J q18.1 q18.2) ?_;refine I ?_;exact ⟨m4,_,_,AK _,⟨p10,p6+1,A10,n10,c10,h,J,J⟩,sA,cS [0,1] 2⟩
  replace h:=ae g8 h;refine I ?_;exact ⟨_,_,⟨p5,A5,n5,c5,h,J,J⟩,sA,cS [0] 2⟩
 rintro _ _ ⟨p3,A3,n3,c3,h,rfl,rfl⟩;refine I ?_;obtain ⟨y19,hy19,h⟩:=aa h;refine gD (aB (gt hy19) yl J (az [] [0] [] 1 J)) ?_;rintro _ _ ⟨_,⟨rfl,rfl⟩,rfl⟩;refine bJ ?_;refine I ?_;obtain rfl:=ak h;exact aE J J (cS [0] 1) ⟨_,_,_,J,J⟩
theorem pI {r:(List Au)}: ∀v post,((fun (u:Value) (post:List Chunk)=> ∃A0 n0 c0,u=Y A0 n0 c0∧post=[kk A0 n0 c0 r])) v post→ ∀c∈post,bL c:=by
 rintro _ _ ⟨_,_,_,rfl,rfl⟩;exact hD dh (ac)
def gG (N:Nat)(a0:AE)(a1:AA):Option (List Au):=
 (bB N a0 a1).bind fun y16=>qf y16 (fun y16_0=>some []) (fun y16_1=>(bY N a0).bind fun y35=>(fC N a0.shapes_ y16_1.Cell.Shape).bind fun y36=>(oF N y36).bind fun y38=>some y38)
theorem lu {N:Nat}{a0:AE}{a1:AA}{r:(List Au)}(h:gG N a0 a1=some r):Okc Tryz.prog 13 [pV B1 0,.agg #[iV a1.Kind,iV a1.N,.string a1.S]] ([bp A12 n12 c12 a0.symbols_,cU A13 n13 c13 a0.events_,bp A14 n14 c14 a0.out_,al B1 73 [iV a0.spent_.steps_,iV a0.spent_.made_,iV a0.spent_.calls_,iV a0.config_.Way,iV a0.config_.Steps,iV a0.config_.Calls,iV a0.config_.Made,iV a0.config_.Young,iV a0.config_.Full,iV a0.config_.Sites,.nilIface,pV B2 0,pV B9 0,Y A12 n12 c12,iV a0.epoch_,iV a0.serial_,iV a0.sleepers_,Y A13 n13 c13,Y A14 n14 c14],al B2 99 [Y A3 n3 c3,Y A4 n4 c4,Y A5 n5 c5,Y A6 n6 c6,pV B7 0],bD A3 n3 c3 a0.heap_.m_.Young,bD A4 n4 c4 a0.heap_.m_.Old,aX A5 n5 c5 a0.heap_.roots_,aX A6 n6 c6 a0.heap_.pending_,al B7 143 [.map (some M8)],aK cW cY M8 a0.heap_.set_.at_,al B9 118 [Y A10 n10 c10,.map (some M11)],dx A10 n10 c10 a0.shapes_.shapes_,aK aH cV M11 a0.shapes_.next_]) (fun u post=> ∃A500 n500 c500,u=Y A500 n500 c500∧post=[kk A500 n500 c500 r,al B1 73 [iV a0.spent_.steps_,iV a0.spent_.made_,iV a0.spent_.calls_,iV a0.config_.Way,iV a0.config_.Steps,iV a0.config_.Calls,iV a0.config_.Made,iV a0.config_.Young,iV a0.config_.Full,iV a0.config_.Sites,.nilIface,pV B2 0,pV B9 0,Y A12 n12 c12,iV a0.epoch_,iV a0.serial_,iV a0.sleepers_,Y A13 n13 c13,Y A14 n14 c14],al B2 99 [Y A3 n3 c3,Y A4 n4 c4,Y A5 n5 c5,Y A6 n6 c6,pV B7 0],bD A3 n3 c3 a0.heap_.m_.Young,bD A4 n4 c4 a0.heap_.m_.Old,aX A5 n5 c5 a0.heap_.roots_,aX A6 n6 c6 a0.heap_.pending_,al B7 143 [.map (some M8)],aK cW cY M8 a0.heap_.set_.at_,al B9 118 [Y A10 n10 c10,.map (some M11)],dx A10 n10 c10 a0.shapes_.shapes_,aK aH cV M11 a0.shapes_.next_]):=by
 refine bh Tryz.func13 J J ?_;simp only [aL];refine I ?_;refine gD (aI J J) ?_;rintro _ _ ⟨B15,rfl,rfl⟩;refine I ?_;refine gR (aj (us:=[iV a1.Kind,iV a1.N,.string a1.S]) 0 J J aJ J) ?_;obtain ⟨y16,hy16,h⟩:=aa h;rcases y16 with y16_0|y16_1
 ·replace h:=rD h;refine gD (aB (aU hy16) cX J (az [1,2,3] [4,5,6,7,8,9,10,11,12,13,14] [0,1,2,3] 15 J)) ?_;rintro _ _ ⟨_,⟨rfl,rfl⟩,rfl⟩;refine I ?_;refine aw ?_;refine I ?_;refine cD J ?_;refine I ?_;obtain rfl:=ak h;exact aE J J ((ep lm 44 _).trans (cS [0,1,2,3,4,5,6,7,8,9,10,11] 16)) ⟨_,_,_,J,J⟩
 replace h:=rC h;refine gD (aB (aU hy16) cX J (az [1,2,3] [4,5,6,7,8,9,10,11,12,13,14] [0,1,2,3] 15 J)) ?_;rintro _ _ ⟨_,⟨B18,A19,n19,c19,A20,n20,c20,rfl,rfl⟩,rfl⟩;refine I ?_;refine aw ?_;refine I ?_;refine du J ?_;refine I ?_;refine aw ?_;refine bg V _ (am _) ?_;refine zE 0 J (av J) ?_;refine zE 2 J (av J) ?_;refine zE 3 J (aD J) ?_;refine zE 4 J (bS J di) ?_;refine zE 5 J (bo J jz) ?_;refine zR 6 J (aR 0 J J dc J) ?_;obtain ⟨y35,hy35,h⟩:=aa h;refine zD 1 J (ag (cp hy35) oo J (hD (au (i:=3) J) (hD (au (i:=4) J) (hD (ah (i:=5) J) (hD (ah (i:=6) J) (hD (ah (i:=7) J) (hD (ah (i:=8) J) (hD (au (i:=9) J) (hD (aM (i:=10) J) (hD (au (i:=11) J) (hD (ah (i:=12) J) (hD (aM (i:=13) J) (hD (ai (i:=15) J J) (hD (ai (i:=16) J J) (hD (ai (i:=17) J J) ac)))))))))))))) bX) ?_;rintro _ _ ⟨_,⟨rfl,rfl⟩,rfl⟩;refine ⟨_,am _,am _,?_⟩;obtain ⟨y36,hy36,h⟩:=aa h;refine zD 7 J (ag (iz hy36) vj J (hD (au (i:=11) J) (hD (ah (i:=12) J) (hD (aM (i:=13) J) ac))) gm) ?_;rintro _ _ ⟨_,⟨A37,n37,c37,rfl,rfl⟩,rfl⟩;refine cv (cS [1,2,3,4,5,6,7,8,9,10,11,12,13,14,15,16,17,18] 19) ?_;obtain ⟨y38,hy38,h⟩:=aa h;refine zD 8 J (ag (qT hy38) yu J (hD (ah (i:=0) J) ac) pI) ?_;rintro _ _ ⟨_,⟨A39,n39,c39,rfl,rfl⟩,rfl⟩;refine cv (cS [2,3,4,5,6,7,8,9,10,11,12,13,14,15,16,17,18,19] 20) ?_
 refine zE 9 J (aY J) ?_;refine aZ V ?_;refine I ?_;obtain rfl:=ak h;exact aE J J (cS [0,5,6,7,8,9,10,11,12,13,14,15] 20) ⟨_,_,_,J,J⟩
def gN (N:Nat)(p5:(List Int)):Option (List Int):=
 some p5
def eG (N:Nat)(y6:((List Aq))):Nat→(List Int)→Int→Option (List Int)
 |0,_,_=>none
 |m8+1,p9,p10=>bif decide (p10<(y6.length:Int)) then ((cg y6 p10).bind fun x13=>dC (my (p9.length+([x13.Attrs]:List Int).length)) (dC (bV (p10+1)) ((eG N y6 m8) (p9++([x13.Attrs]:List Int)) (p10+1)))) else (gN N p9)
def iC (N:Nat)(a0:AG)(a1:Int):Option (List Int):=
 (er N a0 a1).bind fun y6=>eG N y6 N [] 0
theorem lc {N:Nat}{a0:AG}{a1:Int}{r:(List Int)}(h:iC N a0 a1=some r):Okc Tryz.prog 58 [pV B1 0,iV a1] ([bd B1 118 [Y A2 n2 c2,.map (some M3)],oH A2 n2 c2 a0.shapes_,eA aH cV M3 a0.next_]) (fun u post=> ∃A0 n0 c0,u=Y A0 n0 c0∧post=[dq (ie .i64) 3 (Y A0 n0 c0) r]):=by
 refine bh Tryz.func58 J J ?_;simp only [aL];refine I ?_;refine aW (fun s L=> ∃p5 A5 n5 c5,gN N p5=some r∧s=[(4,Y none 0 0),(5,Y A5 n5 c5)]∧L=[dq (ie .i64) 3 (Y A5 n5 c5) p5]) ?_ ?_
 ·refine I ?_;obtain ⟨y6,hy6,h⟩:=aa h;refine gD (ag (fv hy6) sD J (hD (ai (i:=0) J J) (hD (ai (i:=1) J J) (hD (ai (i:=2) J J) ac))) eC) ?_;rintro _ _ ⟨_,⟨A7,n7,c7,rfl,rfl⟩,rfl⟩;refine gR (bz 0 J ax J An) ?_;refine I ?_;refine cC (fun m s L=> ∃p9 p10 A9 n9 c9,eG N y6 m p9 p10=some r∧s=[(4,Y none 0 0),(5,Y A9 n9 c9),(10,Y A7 n7 c7),(11,iV (y6.length:Int)),(12,iV p10)]∧L=[dq (ie .i64) 3 (Y A9 n9 c9) p9,dx A7 n7 c7 y6]) N _ _ ⟨[],0,none,0,0,h,J,J⟩ sA ((ep (ie .i64) 3 _).trans (cS [0,1] 5)) ?_;rintro (_|m8) _ _ ⟨p9,p10,A9,n9,c9,h,rfl,rfl⟩
  ·exact bj h
  rw [eG.eq_2] at h;refine I ?_;refine aw ?_;refine ap J (fun g12=> ?_) (fun g12=> ?_)
  ·replace h:=ad g12 h;refine I ?_;refine aw ?_;refine I ?_;obtain ⟨x13,hx13,h⟩:=aa h;obtain ⟨lx13,ux13,hx13⟩:=aF hx13;refine gR (bf 1 J ax J J An co lx13 ux13) ?_;refine gR (bn (us:=[iV x13.Up,iV x13.Key.Kind,iV x13.Key.N,.string x13.Key.S,iV x13.Attrs,iV x13.Len]) 1 J ax J hx13 jU (fun _ _ _ h=>by rw [show _=_ from h];rfl)) ?_;refine gD (aP kl J) ?_;rintro _ _ ⟨B14,rfl,rfl⟩;refine gO (ar (us:=[iV x13.Up,iV x13.Key.Kind,iV x13.Key.N,.string x13.Key.S,iV x13.Attrs,iV x13.Len]) (cs':=[iV x13.Up,iV x13.Key.Kind,iV x13.Key.N,.string x13.Key.S,iV x13.Attrs,iV x13.Len]) 0 J J J J co J J J) ?_;rintro _ _ rfl;refine I ?_;refine gD (cc (R:=(ie .i64)) (vss:=[[iV x13.Attrs]]) (xs:=[x13.Attrs]) J (qJ _) J J (fun _ _ hr=> .cons J All2.nil)) ?_;rintro _ _ ⟨A15,n15,c15,rfl,rfl⟩;obtain ⟨q16,h⟩:=aA h;refine gD (dM 2 0 J J ax J J hP zG J J q16) ?_;rintro _ _ ⟨A17,n17,c17,rfl,rfl⟩;refine I ?_;obtain ⟨q18,h⟩:=aA h;refine gE (bT J J q18.1 q18.2) ?_;refine I ?_;exact ⟨m8,_,_,AK _,⟨p9++([x13.Attrs]:List Int),p10+1,A17,n17,c17,h,J,J⟩,sA,cS [2,3] 4⟩
  replace h:=ae g12 h;refine I ?_;exact ⟨_,_,⟨p9,A9,n9,c9,h,J,J⟩,sA,cS [0] 2⟩
 rintro _ _ ⟨p5,A5,n5,c5,h,rfl,rfl⟩;refine I ?_;obtain rfl:=ak h;exact aE J J (cS [0] 1) ⟨_,_,_,J,J⟩
theorem kq {r:(List Int)}: ∀v post,((fun (u:Value) (post:List Chunk)=> ∃A0 n0 c0,u=Y A0 n0 c0∧post=[dq (ie .i64) 3 (Y A0 n0 c0) r])) v post→ ∀c∈post,bL c:=by
 rintro _ _ ⟨_,_,_,rfl,rfl⟩;exact hD dh (ac)
def ka (N:Nat)(a0:AE)(p39:(List Ax)):Option (List Ax):=
 some p39
def gw (N:Nat)(y41:((List Au)))(y36:((List Int)))(y16_1:(AB))(a0:AE):Nat→(List Ax)→(List Au)→Int→Option (List Ax)
 |0,_,_,_=>none
 |m44+1,p45,p46,p47=>bif decide (p47<(y41.length:Int)) then ((cg p46 p47).bind fun x50=>(cg y36 p47).bind fun x52=>(fc N (⟨y16_1.Cell,a0,y16_1.at_⟩:AB) p47 x50 x52).bind fun y53=>dC ((p45.length+([y53]:List Ax).length)≤549755813888) (dC (bV (p47+1)) ((gw N y41 y36 y16_1 a0 m44) (p45++([y53]:List Ax)) p46 (p47+1)))) else (ka N a0 p45)
def fX (N:Nat)(a0:AE)(a1:AA):Option (List Ax):=
 (bB N a0 a1).bind fun y16=>qf y16 (fun y16_0=>some []) (fun y16_1=>(bY N a0).bind fun y35=>(iC N a0.shapes_ y16_1.Cell.Shape).bind fun y36=>(bY N a0).bind fun y40=>(fC N a0.shapes_ y16_1.Cell.Shape).bind fun y41=>gw N y41 y36 y16_1 a0 N [] y41 0)
theorem kP {N:Nat}{a0:AE}{a1:AA}{r:(List Ax)}(h:fX N a0 a1=some r):Okc Tryz.prog 25 [pV B1 0,.agg #[iV a1.Kind,iV a1.N,.string a1.S]] ([bp A12 n12 c12 a0.symbols_,cU A13 n13 c13 a0.events_,bp A14 n14 c14 a0.out_,al B1 73 [iV a0.spent_.steps_,iV a0.spent_.made_,iV a0.spent_.calls_,iV a0.config_.Way,iV a0.config_.Steps,iV a0.config_.Calls,iV a0.config_.Made,iV a0.config_.Young,iV a0.config_.Full,iV a0.config_.Sites,.nilIface,pV B2 0,pV B9 0,Y A12 n12 c12,iV a0.epoch_,iV a0.serial_,iV a0.sleepers_,Y A13 n13 c13,Y A14 n14 c14],al B2 99 [Y A3 n3 c3,Y A4 n4 c4,Y A5 n5 c5,Y A6 n6 c6,pV B7 0],bD A3 n3 c3 a0.heap_.m_.Young,bD A4 n4 c4 a0.heap_.m_.Old,aX A5 n5 c5 a0.heap_.roots_,aX A6 n6 c6 a0.heap_.pending_,al B7 143 [.map (some M8)],aK cW cY M8 a0.heap_.set_.at_,al B9 118 [Y A10 n10 c10,.map (some M11)],dx A10 n10 c10 a0.shapes_.shapes_,aK aH cV M11 a0.shapes_.next_]) (fun u post=> ∃A500 n500 c500,u=Y A500 n500 c500∧post=[dq ll 52 (Y A500 n500 c500) r,al B1 73 [iV a0.spent_.steps_,iV a0.spent_.made_,iV a0.spent_.calls_,iV a0.config_.Way,iV a0.config_.Steps,iV a0.config_.Calls,iV a0.config_.Made,iV a0.config_.Young,iV a0.config_.Full,iV a0.config_.Sites,.nilIface,pV B2 0,pV B9 0,Y A12 n12 c12,iV a0.epoch_,iV a0.serial_,iV a0.sleepers_,Y A13 n13 c13,Y A14 n14 c14],al B2 99 [Y A3 n3 c3,Y A4 n4 c4,Y A5 n5 c5,Y A6 n6 c6,pV B7 0],bD A3 n3 c3 a0.heap_.m_.Young,bD A4 n4 c4 a0.heap_.m_.Old,aX A5 n5 c5 a0.heap_.roots_,aX A6 n6 c6 a0.heap_.pending_,al B7 143 [.map (some M8)],aK cW cY M8 a0.heap_.set_.at_,al B9 118 [Y A10 n10 c10,.map (some M11)],dx A10 n10 c10 a0.shapes_.shapes_,aK aH cV M11 a0.shapes_.next_]):=by
 refine bh Tryz.func25 J J ?_;simp only [aL];refine I ?_;refine gD (aI J J) ?_;rintro _ _ ⟨B15,rfl,rfl⟩;refine I ?_;refine gR (aj (us:=[iV a1.Kind,iV a1.N,.string a1.S]) 0 J J aJ J) ?_;obtain ⟨y16,hy16,h⟩:=aa h;rcases y16 with y16_0|y16_1
 ·replace h:=rD h;refine gD (aB (aU hy16) cX J (az [1,2,3] [4,5,6,7,8,9,10,11,12,13,14] [0,1,2,3] 15 J)) ?_;rintro _ _ ⟨_,⟨rfl,rfl⟩,rfl⟩;refine I ?_;refine aw ?_;refine I ?_;refine cD J ?_;refine I ?_;obtain rfl:=ak h;exact aE J J ((ep ll 52 _).trans (cS [0,1,2,3,4,5,6,7,8,9,10,11] 16)) ⟨_,_,_,J,J⟩
 replace h:=rC h;refine gD (aB (aU hy16) cX J (az [1,2,3] [4,5,6,7,8,9,10,11,12,13,14] [0,1,2,3] 15 J)) ?_;rintro _ _ ⟨_,⟨B18,A19,n19,c19,A20,n20,c20,rfl,rfl⟩,rfl⟩;refine I ?_;refine aw ?_;refine I ?_;refine du J ?_;refine I ?_;refine aw ?_;refine bg V _ (am _) ?_;refine zE 0 J (av J) ?_;refine zE 2 J (av J) ?_;refine zE 3 J (aD J) ?_;refine zE 4 J (bS J di) ?_;refine zE 5 J (bo J jz) ?_;refine zR 6 J (aR 0 J J dc J) ?_;obtain ⟨y35,hy35,h⟩:=aa h;refine zD 1 J (ag (cp hy35) oo J (hD (au (i:=3) J) (hD (au (i:=4) J) (hD (ah (i:=5) J) (hD (ah (i:=6) J) (hD (ah (i:=7) J) (hD (ah (i:=8) J) (hD (au (i:=9) J) (hD (aM (i:=10) J) (hD (au (i:=11) J) (hD (ah (i:=12) J) (hD (aM (i:=13) J) (hD (ai (i:=15) J J) (hD (ai (i:=16) J J) (hD (ai (i:=17) J J) ac)))))))))))))) bX) ?_;rintro _ _ ⟨_,⟨rfl,rfl⟩,rfl⟩;refine ⟨_,am _,am _,?_⟩;obtain ⟨y36,hy36,h⟩:=aa h;refine zD 7 J (ag (lc hy36) yn J (hD (au (i:=11) J) (hD (ah (i:=12) J) (hD (aM (i:=13) J) ac))) kq) ?_;rintro _ _ ⟨_,⟨A37,n37,c37,rfl,rfl⟩,rfl⟩;refine cv (cS [1,2,3,4,5,6,7,8,9,10,11,12,13,14,15,16,17,18] 19) ?_;refine zE 8 J (aY J) ?_;refine aZ V ?_;refine eB ?_
 refine aW (fun s L=> ∃p39 A39 n39 c39,ka N a0 p39=some r∧s=[(4,Y none 0 0),(7,Y A39 n39 c39)]∧L=[dq ll 52 (Y A39 n39 c39) p39,bp A12 n12 c12 a0.symbols_,cU A13 n13 c13 a0.events_,bp A14 n14 c14 a0.out_,al B1 73 [iV a0.spent_.steps_,iV a0.spent_.made_,iV a0.spent_.calls_,iV a0.config_.Way,iV a0.config_.Steps,iV a0.config_.Calls,iV a0.config_.Made,iV a0.config_.Young,iV a0.config_.Full,iV a0.config_.Sites,.nilIface,pV B2 0,pV B9 0,Y A12 n12 c12,iV a0.epoch_,iV a0.serial_,iV a0.sleepers_,Y A13 n13 c13,Y A14 n14 c14],bD A3 n3 c3 a0.heap_.m_.Young,bD A4 n4 c4 a0.heap_.m_.Old,aX A5 n5 c5 a0.heap_.roots_,aX A6 n6 c6 a0.heap_.pending_,al B2 99 [Y A3 n3 c3,Y A4 n4 c4,Y A5 n5 c5,Y A6 n6 c6,pV B7 0],dx A10 n10 c10 a0.shapes_.shapes_,aK aH cV M11 a0.shapes_.next_,al B9 118 [Y A10 n10 c10,.map (some M11)],aK cW cY M8 a0.heap_.set_.at_,al B7 143 [.map (some M8)]]) ?_ ?_
 ·refine aw ?_;obtain ⟨y40,hy40,h⟩:=aa h;obtain ⟨y41,hy41,h⟩:=aa h;refine jl (t:=[(0,pV B1 0),(4,Y none 0 0),(5,pV B18 0),(7,Y none 0 0),(8,Y A37 n37 c37)]) ?_ me (am _)
  refine jF V 10 [] [7,8,9] [27,28,29,30,31,32,33,34,35,36] [[],[0],[],[2],[3],[4],[5],[1,6],[7],[]] [aV (pV B1 0),
aV (pV B9 0),
aV (pV B18 0),
aV (pV B18 0),
aV (pV B18 0),
aV (pV B18 1),
aV (iV y16_1.Cell.Shape),
aX3 (fun (A43:Option Addr) (n43 c43:Nat)=> Y A43 n43 c43) (fun A43 n43 c43=> [kk A43 n43 c43 y41]),
aV (iV (y41.length:Int)),
aV (iV 0)] [] (am _) (lr) V rfl rfl ?_ ?_ ?_
  ·exact lq
  ·refine aq J ?_ ?_
   ·exact cI (av J) J (bC J (am _))
   refine aq J ?_ ?_
   ·intro A43 n43 c43;exact ib (bz 0 J ax J Ao) J (bC J (am _))
   refine aq J ?_ ?_
   ·refine pZ (ag (iz hy41) vj J (hD (au (i:=12) J) (hD (ah (i:=13) J) (hD (aM (i:=14) J) ac))) gm) J ?_;rintro _ _ ⟨_,⟨A42,n42,c42,rfl,rfl⟩,rfl⟩;exact wJ A42 n42 c42 (am _)
   refine aq J ?_ ?_
   ·exact ib (aR 1 J J dc J) J (bC J (am _))
   refine aq J ?_ ?_
   ·exact cI (bo J jz) J (bC J (am _))
   refine aq J ?_ ?_
   ·exact cI (bS J di) J (bC J (am _))
   refine aq J ?_ ?_
   ·exact cI (aD J) J (bC J (am _))
   refine aq J ?_ ?_
   ·exact cI (av J) J (bC J (am _))
   refine aq J ?_ ?_
   ·refine pZ (ag (cp hy40) oo J (hD (au (i:=4) J) (hD (au (i:=5) J) (hD (ah (i:=6) J) (hD (ah (i:=7) J) (hD (ah (i:=8) J) (hD (ah (i:=9) J) (hD (au (i:=10) J) (hD (aM (i:=11) J) (hD (au (i:=12) J) (hD (ah (i:=13) J) (hD (aM (i:=14) J) (hD (ai (i:=16) J J) (hD (ai (i:=17) J J) (hD (ai (i:=18) J J) ac)))))))))))))) bX) J ?_;rintro _ _ ⟨_,⟨rfl,rfl⟩,rfl⟩;exact bC J (am _)
   refine aq J ?_ ?_
   ·exact cI (av J) J (bC J (am _))
   exact fI
  intro A43 n43 c43;refine nQ (t:=[(34,Y A43 n43 c43),(35,iV (y41.length:Int)),(36,iV 0),(0,pV B1 0),(4,Y none 0 0),(5,pV B18 0),(7,Y none 0 0),(8,Y A37 n37 c37)]) (L':=[kk A43 n43 c43 y41,dq (ie .i64) 3 (Y A37 n37 c37) y36,al B18 88 [iV y16_1.Cell.Kind,iV y16_1.Cell.Shape,iV y16_1.Cell.Flags,iV y16_1.Cell.Age,Y A19 n19 c19,Y A20 n20 c20,pV B1 0,iV y16_1.at_.Kind,iV y16_1.at_.N,.string y16_1.at_.S],aX A19 n19 c19 y16_1.Cell.Slots,aX A20 n20 c20 y16_1.Cell.More,al B1 73 [iV a0.spent_.steps_,iV a0.spent_.made_,iV a0.spent_.calls_,iV a0.config_.Way,iV a0.config_.Steps,iV a0.config_.Calls,iV a0.config_.Made,iV a0.config_.Young,iV a0.config_.Full,iV a0.config_.Sites,.nilIface,pV B2 0,pV B9 0,Y A12 n12 c12,iV a0.epoch_,iV a0.serial_,iV a0.sleepers_,Y A13 n13 c13,Y A14 n14 c14],al B2 99 [Y A3 n3 c3,Y A4 n4 c4,Y A5 n5 c5,Y A6 n6 c6,pV B7 0],bD A3 n3 c3 a0.heap_.m_.Young,bD A4 n4 c4 a0.heap_.m_.Old,aX A5 n5 c5 a0.heap_.roots_,aX A6 n6 c6 a0.heap_.pending_,al B7 143 [.map (some M8)],aK cW cY M8 a0.heap_.set_.at_,al B9 118 [Y A10 n10 c10,.map (some M11)],dx A10 n10 c10 a0.shapes_.shapes_,aK aH cV M11 a0.shapes_.next_,al B15 29 [iV a1.Kind,iV a1.N,.string a1.S],bp A12 n12 c12 a0.symbols_,cU A13 n13 c13 a0.events_,bp A14 n14 c14 a0.out_]) ?_ me (am _);refine lK V ?_;refine I ?_
  refine cC (fun m s L=> ∃p45 p46 p47 A45 n45 c45 A46 n46 c46,gw N y41 y36 y16_1 a0 m p45 p46 p47=some r∧s=[(4,Y none 0 0),(5,pV B18 0),(7,Y A45 n45 c45),(8,Y A37 n37 c37),(34,Y A46 n46 c46),(35,iV (y41.length:Int)),(36,iV p47)]∧L=[dq ll 52 (Y A45 n45 c45) p45,dq (ie .i64) 3 (Y A37 n37 c37) y36,kk A46 n46 c46 p46,aX A19 n19 c19 y16_1.Cell.Slots,aX A20 n20 c20 y16_1.Cell.More,al B18 88 [iV y16_1.Cell.Kind,iV y16_1.Cell.Shape,iV y16_1.Cell.Flags,iV y16_1.Cell.Age,Y A19 n19 c19,Y A20 n20 c20,pV B1 0,iV y16_1.at_.Kind,iV y16_1.at_.N,.string y16_1.at_.S],bp A12 n12 c12 a0.symbols_,cU A13 n13 c13 a0.events_,bp A14 n14 c14 a0.out_,al B1 73 [iV a0.spent_.steps_,iV a0.spent_.made_,iV a0.spent_.calls_,iV a0.config_.Way,iV a0.config_.Steps,iV a0.config_.Calls,iV a0.config_.Made,iV a0.config_.Young,iV a0.config_.Full,iV a0.config_.Sites,.nilIface,pV B2 0,pV B9 0,Y A12 n12 c12,iV a0.epoch_,iV a0.serial_,iV a0.sleepers_,Y A13 n13 c13,Y A14 n14 c14],bD A3 n3 c3 a0.heap_.m_.Young,bD A4 n4 c4 a0.heap_.m_.Old,aX A5 n5 c5 a0.heap_.roots_,aX A6 n6 c6 a0.heap_.pending_,al B2 99 [Y A3 n3 c3,Y A4 n4 c4,Y A5 n5 c5,Y A6 n6 c6,pV B7 0],dx A10 n10 c10 a0.shapes_.shapes_,aK aH cV M11 a0.shapes_.next_,al B9 118 [Y A10 n10 c10,.map (some M11)],aK cW cY M8 a0.heap_.set_.at_,al B7 143 [.map (some M8)]]) N _ _ ⟨[],y41,0,none,0,0,A43,n43,c43,h,J,J⟩ sA ((ep ll 52 _).trans (cS [0,2,1,4,5,3,18,19,20,6,8,9,10,11,7,15,16,14,13,12] 21)) ?_
  rintro (_|m44) _ _ ⟨p45,p46,p47,A45,n45,c45,A46,n46,c46,h,rfl,rfl⟩
  ·exact bj h
  rw [gw.eq_2] at h;refine I ?_;refine aw ?_;refine ap J (fun g49=> ?_) (fun g49=> ?_)
  ·replace h:=ad g49 h;refine I ?_;refine aw ?_;refine I ?_;obtain ⟨x50,hx50,h⟩:=aa h;obtain ⟨lx50,ux50,hx50⟩:=aF hx50;refine gR (bf 2 J ax J J Ao fu lx50 ux50) ?_;refine gR (bn (us:=[iV x50.Kind,iV x50.N,.string x50.S]) 2 J ax J hx50 ci (fun _ _ _ h=>by rw [show _=_ from h];rfl)) ?_;refine gD (aP sc J) ?_;rintro _ _ ⟨B51,rfl,rfl⟩;refine I ?_;refine gO (ar (us:=[iV x50.Kind,iV x50.N,.string x50.S]) (cs':=[iV x50.Kind,iV x50.N,.string x50.S]) 0 J J J J fu J J J) ?_;rintro _ _ rfl;refine bJ ?_;refine I ?_;obtain ⟨x52,hx52,h⟩:=aa h;obtain ⟨lx52,ux52,hx52⟩:=aF hx52;refine jl (t:=[(4,Y none 0 0),(5,pV B18 0),(7,Y A45 n45 c45),(8,Y A37 n37 c37),(9,iV p47),(10,pV B51 0),(34,Y A46 n46 c46),(35,iV (y41.length:Int)),(36,iV p47)]) ?_ me (am _)
   refine jF V 8 [0] [0,1,2,3,7] [41,42,43,44,45,46,47,48] [[],[],[],[],[],[],[4,5],[6]] [aV (Y A45 n45 c45),
aV (pV B18 0),
aV (iV p47),
aV (.agg #[iV x50.Kind,iV x50.N,.string x50.S]),
aV (Y A37 n37 c37),
aV (iV p47),
aV (dB (Y A37 n37 c37) p47.toNat 1 0),
aV (iV x52)] [] (am _) (ju rfl lr) V rfl rfl ?_ ?_ ?_
   ·refine jt J ?_ ?_
    ·exact oP (av J) J (bC J (am _))
    exact lq
   ·refine aq J ?_ ?_
    ·exact ib (cf (u:=iV x52) 2 J ax J hx52 dc (fun _ _ _ h=>by rw [show _=_ from h];rfl)) J (bC J (am _))
    refine aq J ?_ ?_
    ·exact ib (bf 2 J ax J J hP fK lx52 ux52) J (bC J (am _))
    refine aq J ?_ ?_
    ·exact cI (av J) J (bC J (am _))
    refine aq J ?_ ?_
    ·exact cI (av J) J (bC J (am _))
    refine aq J ?_ ?_
    ·exact ib (aj (us:=[iV x50.Kind,iV x50.N,.string x50.S]) 0 J J ci J) J (bC J (am _))
    refine aq J ?_ ?_
    ·exact cI (av J) J (bC J (am _))
    refine aq J ?_ ?_
    ·exact cI (av J) J (bC J (am _))
    refine aq J ?_ ?_
    ·exact cI (av J) J (bC J (am _))
    exact fI
   refine nQ (t:=[(41,Y A45 n45 c45),(42,pV B18 0),(43,iV p47),(44,.agg #[iV x50.Kind,iV x50.N,.string x50.S]),(48,iV x52),(4,Y none 0 0),(5,pV B18 0),(7,Y A45 n45 c45),(8,Y A37 n37 c37),(9,iV p47),(10,pV B51 0),(34,Y A46 n46 c46),(35,iV (y41.length:Int)),(36,iV p47)]) (L':=[al B51 44 [iV x50.Kind,iV x50.N,.string x50.S],dq ll 52 (Y A45 n45 c45) p45,dq (ie .i64) 3 (Y A37 n37 c37) y36,kk A46 n46 c46 p46,aX A19 n19 c19 y16_1.Cell.Slots,aX A20 n20 c20 y16_1.Cell.More,al B18 88 [iV y16_1.Cell.Kind,iV y16_1.Cell.Shape,iV y16_1.Cell.Flags,iV y16_1.Cell.Age,Y A19 n19 c19,Y A20 n20 c20,pV B1 0,iV y16_1.at_.Kind,iV y16_1.at_.N,.string y16_1.at_.S],bp A12 n12 c12 a0.symbols_,cU A13 n13 c13 a0.events_,bp A14 n14 c14 a0.out_,al B1 73 [iV a0.spent_.steps_,iV a0.spent_.made_,iV a0.spent_.calls_,iV a0.config_.Way,iV a0.config_.Steps,iV a0.config_.Calls,iV a0.config_.Made,iV a0.config_.Young,iV a0.config_.Full,iV a0.config_.Sites,.nilIface,pV B2 0,pV B9 0,Y A12 n12 c12,iV a0.epoch_,iV a0.serial_,iV a0.sleepers_,Y A13 n13 c13,Y A14 n14 c14],bD A3 n3 c3 a0.heap_.m_.Young,bD A4 n4 c4 a0.heap_.m_.Old,aX A5 n5 c5 a0.heap_.roots_,aX A6 n6 c6 a0.heap_.pending_,al B2 99 [Y A3 n3 c3,Y A4 n4 c4,Y A5 n5 c5,Y A6 n6 c6,pV B7 0],dx A10 n10 c10 a0.shapes_.shapes_,aK aH cV M11 a0.shapes_.next_,al B9 118 [Y A10 n10 c10,.map (some M11)],aK cW cY M8 a0.heap_.set_.at_,al B7 143 [.map (some M8)]]) ?_ me (am _)
   obtain ⟨y53,hy53,h⟩:=aa h;refine oR 8 J V (ag (gW hy53) vd J (hD (au (i:=6) J) (hD (ah (i:=4) J) (hD (ah (i:=5) J) (hD (au (i:=10) J) (hD (au (i:=15) J) (hD (ah (i:=11) J) (hD (ah (i:=12) J) (hD (ah (i:=13) J) (hD (ah (i:=14) J) (hD (au (i:=20) J) (hD (aM (i:=19) J) (hD (au (i:=18) J) (hD (ah (i:=16) J) (hD (aM (i:=17) J) (hD (ai (i:=7) J J) (hD (ai (i:=8) J J) (hD (ai (i:=9) J J) ac))))))))))))))))) fS) J J J ?_;rintro _ _ ⟨_,⟨rfl,rfl⟩,rfl⟩;refine oR 9 J V (cc (R:=ll) (vss:=[[iV y53.Key.Kind,iV y53.Key.N,.string y53.Key.S,iV y53.Attrs,iV y53.Value.Kind,iV y53.Value.N,.string y53.Value.S,iV y53.Get.Kind,iV y53.Get.N,.string y53.Get.S,iV y53.Set.Kind,iV y53.Set.N,.string y53.Set.S]]) (xs:=[y53]) J (vG _ _ _ _ _ _ _ _ _ _ _ _ _) J J (fun _ _ hr=> .cons J All2.nil)) J J J ?_;rintro _ _ ⟨A54,n54,c54,rfl,rfl⟩;obtain ⟨q55,h⟩:=aA h;refine oR 10 J V (pB 2 0 J J ax J J Ap zr J J J q55) J J J ?_;rintro _ _ ⟨A56,n56,c56,rfl,rfl⟩;refine rA 11 J V (aY J) J J J ?_;refine lK V ?_;refine I ?_;obtain ⟨q57,h⟩:=aA h;refine gE (bT J J q57.1 q57.2) ?_;refine I ?_
   exact ⟨m44,_,_,AK _,⟨p45++([y53]:List Ax),p46,p47+1,A56,n56,c56,A46,n46,c46,h,J,J⟩,sA,cS [2,3,4,5,6,7,8,9,10,11,12,13,14,15,16,17,18,19,20,21] 22⟩
  replace h:=ae g49 h;refine I ?_;exact ⟨_,_,⟨p45,A45,n45,c45,h,J,J⟩,sA,cS [0,6,7,8,9,10,11,12,13,14,15,16,17,18,19] 20⟩
 rintro _ _ ⟨p39,A39,n39,c39,h,rfl,rfl⟩;refine I ?_;obtain rfl:=ak h;exact aE J J (cS [0,4,9,5,6,7,8,14,13,12,10,11] 15) ⟨_,_,_,J,J⟩
def fY (N:Nat)(a0:AE)(a1:AA):Option AE:=
 (bB N a0 a1).bind fun y16=>qf y16 (fun y16_0=>some a0) (fun y16_1=>(ct N (⟨(⟨y16_1.Cell.Kind,y16_1.Cell.Shape,cb .i64 y16_1.Cell.Flags 1,y16_1.Cell.Age,y16_1.Cell.Slots,y16_1.Cell.More⟩:Aw),a0,y16_1.at_⟩:AB) false).bind fun y34=>some y34.w_)
theorem kQ {N:Nat}{a0:AE}{a1:AA}{r:AE}(h:fY N a0 a1=some r):Okc Tryz.prog 24 [pV B1 0,.agg #[iV a1.Kind,iV a1.N,.string a1.S]] ([bp A12 n12 c12 a0.symbols_,cU A13 n13 c13 a0.events_,bp A14 n14 c14 a0.out_,al B1 73 [iV a0.spent_.steps_,iV a0.spent_.made_,iV a0.spent_.calls_,iV a0.config_.Way,iV a0.config_.Steps,iV a0.config_.Calls,iV a0.config_.Made,iV a0.config_.Young,iV a0.config_.Full,iV a0.config_.Sites,.nilIface,pV B2 0,pV B9 0,Y A12 n12 c12,iV a0.epoch_,iV a0.serial_,iV a0.sleepers_,Y A13 n13 c13,Y A14 n14 c14],al B2 99 [Y A3 n3 c3,Y A4 n4 c4,Y A5 n5 c5,Y A6 n6 c6,pV B7 0],bD A3 n3 c3 a0.heap_.m_.Young,bD A4 n4 c4 a0.heap_.m_.Old,aX A5 n5 c5 a0.heap_.roots_,aX A6 n6 c6 a0.heap_.pending_,al B7 143 [.map (some M8)],aK cW cY M8 a0.heap_.set_.at_,al B9 118 [Y A10 n10 c10,.map (some M11)],dx A10 n10 c10 a0.shapes_.shapes_,aK aH cV M11 a0.shapes_.next_]) (fun u post=> ∃A0 n0 c0 A1 n1 c1 A2 n2 c2 A3 n3 c3 M4 A5 n5 c5 M6 A7 n7 c7 A8 n8 c8 A9 n9 c9,u=.tuple #[]∧post=[al B1 73 [iV r.spent_.steps_,iV r.spent_.made_,iV r.spent_.calls_,iV r.config_.Way,iV r.config_.Steps,iV r.config_.Calls,iV r.config_.Made,iV r.config_.Young,iV r.config_.Full,iV r.config_.Sites,.nilIface,pV B2 0,pV B9 0,Y A7 n7 c7,iV r.epoch_,iV r.serial_,iV r.sleepers_,Y A8 n8 c8,Y A9 n9 c9],al B2 99 [Y A0 n0 c0,Y A1 n1 c1,Y A2 n2 c2,Y A3 n3 c3,pV B7 0],bD A0 n0 c0 r.heap_.m_.Young,bD A1 n1 c1 r.heap_.m_.Old,aX A2 n2 c2 r.heap_.roots_,aX A3 n3 c3 r.heap_.pending_,al B7 143 [.map (some M4)],aK cW cY M4 r.heap_.set_.at_,al B9 118 [Y A5 n5 c5,.map (some M6)],dx A5 n5 c5 r.shapes_.shapes_,aK aH cV M6 r.shapes_.next_,bp A7 n7 c7 r.symbols_,cU A8 n8 c8 r.events_,bp A9 n9 c9 r.out_]):=by
 refine bh Tryz.func24 J J ?_;simp only [aL];refine I ?_;refine gD (aI J J) ?_;rintro _ _ ⟨B15,rfl,rfl⟩;refine I ?_;refine gR (aj (us:=[iV a1.Kind,iV a1.N,.string a1.S]) 0 J J aJ J) ?_;obtain ⟨y16,hy16,h⟩:=aa h;rcases y16 with y16_0|y16_1
 ·replace h:=rD h;refine gD (aB (aU hy16) cX J (az [1,2,3] [4,5,6,7,8,9,10,11,12,13,14] [0,1,2,3] 15 J)) ?_;rintro _ _ ⟨_,⟨rfl,rfl⟩,rfl⟩;refine I ?_;refine du J ?_;refine kJ ?_;obtain rfl:=ak h;exact d8 J (cS [0,1,2,3,4,5,6,7,8,9,10,12,13,14] 15) ⟨_,_,_,_,_,_,_,_,_,_,_,_,_,_,_,_,_,_,_,_,_,_,_,_,_,_,J,J⟩
 replace h:=rC h;refine gD (aB (aU hy16) cX J (az [1,2,3] [4,5,6,7,8,9,10,11,12,13,14] [0,1,2,3] 15 J)) ?_;rintro _ _ ⟨_,⟨B17,A18,n18,c18,A19,n19,c19,rfl,rfl⟩,rfl⟩;refine I ?_;refine cD J ?_;refine I ?_;refine gE (mA J J) ?_;refine I ?_;refine gO (ar (us:=[iV (cb .i64 y16_1.Cell.Flags 1)]) (cs':=[iV y16_1.Cell.Kind,iV y16_1.Cell.Shape,iV (cb .i64 y16_1.Cell.Flags 1),iV y16_1.Cell.Age,Y A18 n18 c18,Y A19 n19 c19,pV B1 0,iV y16_1.at_.Kind,iV y16_1.at_.N,.string y16_1.at_.S]) 0 J J J J fK J J J) ?_;rintro _ _ rfl;refine bJ ?_;refine I ?_;obtain ⟨y34,hy34,h⟩:=aa h;refine gD (aB (cG hy34) pW J (az [15,16,17] [0,1,2,3,4,5,6,7,8,9,10,11,12,13] [14,15,16,17] 18 J)) ?_;rintro _ _ ⟨_,⟨A35,n35,c35,A36,n36,c36,A37,n37,c37,A38,n38,c38,A39,n39,c39,A40,n40,c40,M41,A42,n42,c42,M43,A44,n44,c44,A45,n45,c45,A46,n46,c46,rfl,rfl⟩,rfl⟩;refine nS ?_;obtain rfl:=ak h;exact d8 J (cS [3,4,5,6,7,8,9,10,11,12,13,14,15,16] 21) ⟨_,_,_,_,_,_,_,_,_,_,_,_,_,_,_,_,_,_,_,_,_,_,_,_,_,_,J,J⟩
def gx (N:Nat)(a1:AA):Option Unit:=
 (fm N a1).bind fun y2=>some ()
theorem nq {N:Nat}{a1:AA}{r:Unit}(h:gx N a1=some r):Okc Tryz.prog 24 [.pointer none,.agg #[iV a1.Kind,iV a1.N,.string a1.S]] ([]) (fun u post=>u=.tuple #[]∧post=[]):=by
 refine bh Tryz.func24 J J ?_;simp only [aL];refine I ?_;refine gD (aI J J) ?_;rintro _ _ ⟨B1,rfl,rfl⟩;refine I ?_;refine gR (aj (us:=[iV a1.Kind,iV a1.N,.string a1.S]) 0 J J aJ J) ?_;obtain ⟨y2,hy2,h⟩:=aa h;refine gD (ag (jZ hy2) cX J (ac) jc) ?_;rintro _ _ ⟨_,⟨rfl,rfl⟩,rfl⟩;refine I ?_;refine du J ?_;refine kJ ?_;obtain rfl:=ak h;exact d8 J (cS [] 1) ⟨J,J⟩
theorem ml: ∀v post,((fun (u:Value) (post:List Chunk)=>u=.tuple #[]∧post=[])) v post→ ∀c∈post,bL c:=by
 rintro _ _ ⟨rfl,rfl⟩;exact ac
def lp (N:Nat)(a0:AA)(p4:Int):Option AC:=
 some (⟨51,p4,a0,(⟨0,0,⟨#[]⟩⟩:AA),(⟨0,0,⟨#[]⟩⟩:AA)⟩:AC)
def px (N:Nat)(a0:AA)(a1:Int):Option AC:=
 bif decide (a1.tmod 8<0) then (dC (bV ((a1.tmod 8)+8)) (lp N a0 ((a1.tmod 8)+8))) else (lp N a0 (a1.tmod 8))
theorem rM {N:Nat}{a0:AA}{a1:Int}{r:AC}(h:px N a0 a1=some r):Okc Tryz.prog 38 [.agg #[iV a0.Kind,iV a0.N,.string a0.S],iV a1] ([]) (fun u post=>u=.agg #[iV r.Has,iV r.Attrs,iV r.Value.Kind,iV r.Value.N,.string r.Value.S,iV r.Get.Kind,iV r.Get.N,.string r.Get.S,iV r.Set.Kind,iV r.Set.N,.string r.Set.S]∧post=[]):=by
 refine bh Tryz.func38 J J ?_;simp only [aL];refine I ?_;refine gD (aI J J) ?_;rintro _ _ ⟨B1,rfl,rfl⟩;refine gD (aP xx J) ?_;rintro _ _ ⟨B2,rfl,rfl⟩;refine I ?_;refine gE (ij J J (by decide)) ?_;refine I ?_;refine aW (fun s L=> ∃p4,lp N a0 p4=some r∧s=[(2,pV B1 0),(4,pV B2 0),(5,iV p4)]∧L=[al B1 29 [iV a0.Kind,iV a0.N,.string a0.S],al B2 46 [iV 0,iV 0,iV 0,iV 0,.string (⟨#[]⟩),iV 0,iV 0,.string (⟨#[]⟩),iV 0,iV 0,.string (⟨#[]⟩)]]) ?_ ?_
 ·refine I ?_;refine ap J (fun g5=> ?_) (fun g5=> ?_)
  ·replace h:=ad g5 h;refine I ?_;obtain ⟨q6,h⟩:=aA h;refine gE (bT J J q6.1 q6.2) ?_;refine I ?_;exact ⟨_,_,⟨(a1.tmod 8)+8,h,J,J⟩,sA,cS [1,0] 2⟩
  replace h:=ae g5 h;refine I ?_;exact ⟨_,_,⟨a1.tmod 8,h,J,J⟩,sA,cS [1,0] 2⟩
 rintro _ _ ⟨p4,h,rfl,rfl⟩;refine I ?_;refine gR (aj (us:=[iV a0.Kind,iV a0.N,.string a0.S]) 0 J J aJ J) ?_;refine gE (aN J (rv _ _ _ _ _)) ?_;refine gO (ar (us:=[iV 51,iV p4,iV a0.Kind,iV a0.N,.string a0.S,iV 0,iV 0,.string (⟨#[]⟩),iV 0,iV 0,.string (⟨#[]⟩)]) (cs':=[iV 51,iV p4,iV a0.Kind,iV a0.N,.string a0.S,iV 0,iV 0,.string (⟨#[]⟩),iV 0,iV 0,.string (⟨#[]⟩)]) 1 J J J J xA J J J) ?_;rintro _ _ rfl;refine I ?_;obtain rfl:=ak h;exact ca (rs:=[.cell 4 46]) (vs:=[.agg #[iV 51,iV p4,iV a0.Kind,iV a0.N,.string a0.S,iV 0,iV 0,.string (⟨#[]⟩),iV 0,iV 0,.string (⟨#[]⟩)]]) J (.cons (bq 1 J J cH) .nil) J (cS [] 2) ⟨J,J⟩
theorem qj {r:AC}: ∀v post,((fun (u:Value) (post:List Chunk)=>u=.agg #[iV r.Has,iV r.Attrs,iV r.Value.Kind,iV r.Value.N,.string r.Value.S,iV r.Get.Kind,iV r.Get.N,.string r.Get.S,iV r.Set.Kind,iV r.Set.N,.string r.Set.S]∧post=[])) v post→ ∀c∈post,bL c:=by
 rintro _ _ ⟨rfl,rfl⟩;exact ac
def bO (N:Nat)(a0:AC)(a1:Int):Option Bool:=
 some (!decide (be .i64 a0.Has a1=0))
theorem bK {N:Nat}{a0:AC}{a1:Int}{r:Bool}(h:bO N a0 a1=some r):Okc Tryz.prog 90 [.agg #[iV a0.Has,iV a0.Attrs,iV a0.Value.Kind,iV a0.Value.N,.string a0.Value.S,iV a0.Get.Kind,iV a0.Get.N,.string a0.Get.S,iV a0.Set.Kind,iV a0.Set.N,.string a0.Set.S],iV a1] ([]) (fun u post=>u=.bool r∧post=[]):=by
 refine bh Tryz.func90 J J ?_;simp only [aL];refine I ?_;refine gD (aI J J) ?_;rintro _ _ ⟨B1,rfl,rfl⟩;refine I ?_;refine gE (bM J J) ?_;refine I ?_;obtain rfl:=ak h;exact aE J J (cS [] 1) ⟨J,J⟩
theorem bv {r:Bool}: ∀v post,((fun (u:Value) (post:List Chunk)=>u=.bool r∧post=[])) v post→ ∀c∈post,bL c:=by
 rintro _ _ ⟨rfl,rfl⟩;exact ac
def ji (N:Nat)(p11:Int):Option Int:=
 some p11
def jM (N:Nat)(a0:AC)(p7:Int):Option Int:=
 (bO N a0 32).bind fun y12=>bif y12 then (ji N (bU .i64 p7 4)) else (ji N p7)
def jN (N:Nat)(a0:AC)(p3:Int):Option Int:=
 (bO N a0 16).bind fun y8=>bif y8 then (jM N a0 (bU .i64 p3 2)) else (jM N a0 p3)
def nH (N:Nat)(a0:AC):Option Int:=
 (bO N a0 2).bind fun y4=>bif y4 then (jN N a0 (bU .i64 0 1)) else (jN N a0 0)
theorem qn {N:Nat}{a0:AC}{r:Int}(h:nH N a0=some r):Okc Tryz.prog 92 [.agg #[iV a0.Has,iV a0.Attrs,iV a0.Value.Kind,iV a0.Value.N,.string a0.Value.S,iV a0.Get.Kind,iV a0.Get.N,.string a0.Get.S,iV a0.Set.Kind,iV a0.Set.N,.string a0.Set.S]] ([]) (fun u post=>u=iV r∧post=[]):=by
 refine bh Tryz.func92 J J ?_;simp only [aL];refine I ?_;refine gD (aI J J) ?_;rintro _ _ ⟨B1,rfl,rfl⟩;refine I ?_;refine aW (fun s L=> ∃p3,jN N a0 p3=some r∧s=[(1,pV B1 0),(2,iV 0),(3,iV p3)]∧L=[al B1 46 [iV a0.Has,iV a0.Attrs,iV a0.Value.Kind,iV a0.Value.N,.string a0.Value.S,iV a0.Get.Kind,iV a0.Get.N,.string a0.Get.S,iV a0.Set.Kind,iV a0.Set.N,.string a0.Set.S]]) ?_ ?_
 ·refine I ?_;refine gR (aj (us:=[iV a0.Has,iV a0.Attrs,iV a0.Value.Kind,iV a0.Value.N,.string a0.Value.S,iV a0.Get.Kind,iV a0.Get.N,.string a0.Get.S,iV a0.Set.Kind,iV a0.Set.N,.string a0.Set.S]) 0 J J cH J) ?_;obtain ⟨y4,hy4,h⟩:=aa h;refine gD (ag (bK hy4) fj J (ac) bv) ?_;rintro _ _ ⟨_,⟨rfl,rfl⟩,rfl⟩;refine I ?_;refine ap J (fun g5=> ?_) (fun g5=> ?_)
  ·replace h:=ad g5 h;refine I ?_;refine gE (gA J J) ?_;refine I ?_;exact ⟨_,_,⟨bU .i64 0 1,h,J,J⟩,sA,cS [0] 1⟩
  replace h:=ae g5 h;refine I ?_;exact ⟨_,_,⟨0,h,J,J⟩,sA,cS [0] 1⟩
 rintro _ _ ⟨p3,h,rfl,rfl⟩;refine aW (fun s L=> ∃p7,jM N a0 p7=some r∧s=[(1,pV B1 0),(2,iV 0),(3,iV p7)]∧L=[al B1 46 [iV a0.Has,iV a0.Attrs,iV a0.Value.Kind,iV a0.Value.N,.string a0.Value.S,iV a0.Get.Kind,iV a0.Get.N,.string a0.Get.S,iV a0.Set.Kind,iV a0.Set.N,.string a0.Set.S]]) ?_ ?_
 ·refine I ?_;refine gR (aj (us:=[iV a0.Has,iV a0.Attrs,iV a0.Value.Kind,iV a0.Value.N,.string a0.Value.S,iV a0.Get.Kind,iV a0.Get.N,.string a0.Get.S,iV a0.Set.Kind,iV a0.Set.N,.string a0.Set.S]) 0 J J cH J) ?_;obtain ⟨y8,hy8,h⟩:=aa h;refine gD (ag (bK hy8) fj J (ac) bv) ?_;rintro _ _ ⟨_,⟨rfl,rfl⟩,rfl⟩;refine I ?_;refine ap J (fun g9=> ?_) (fun g9=> ?_)
  ·replace h:=ad g9 h;refine I ?_;refine gE (gA J J) ?_;refine I ?_;exact ⟨_,_,⟨bU .i64 p3 2,h,J,J⟩,sA,cS [0] 1⟩
  replace h:=ae g9 h;refine I ?_;exact ⟨_,_,⟨p3,h,J,J⟩,sA,cS [0] 1⟩
 rintro _ _ ⟨p7,h,rfl,rfl⟩;refine aW (fun s L=> ∃p11,ji N p11=some r∧s=[(2,iV 0),(3,iV p11)]∧L=[]) ?_ ?_
 ·refine I ?_;refine gR (aj (us:=[iV a0.Has,iV a0.Attrs,iV a0.Value.Kind,iV a0.Value.N,.string a0.Value.S,iV a0.Get.Kind,iV a0.Get.N,.string a0.Get.S,iV a0.Set.Kind,iV a0.Set.N,.string a0.Set.S]) 0 J J cH J) ?_;obtain ⟨y12,hy12,h⟩:=aa h;refine gD (ag (bK hy12) fj J (ac) bv) ?_;rintro _ _ ⟨_,⟨rfl,rfl⟩,rfl⟩;refine I ?_;refine ap J (fun g13=> ?_) (fun g13=> ?_)
  ·replace h:=ad g13 h;refine I ?_;refine gE (gA J J) ?_;refine I ?_;exact ⟨_,_,⟨bU .i64 p7 4,h,J,J⟩,sA,cS [] 1⟩
  replace h:=ae g13 h;refine I ?_;exact ⟨_,_,⟨p7,h,J,J⟩,sA,cS [] 1⟩
 rintro _ _ ⟨p11,h,rfl,rfl⟩;refine I ?_;obtain rfl:=ak h;exact aE J J (cS [] 0) ⟨J,J⟩
theorem o0 {r:Int}: ∀v post,((fun (u:Value) (post:List Chunk)=>u=iV r∧post=[])) v post→ ∀c∈post,bL c:=by
 rintro _ _ ⟨rfl,rfl⟩;exact ac
def ik (N:Nat)(a1:Au)(p27:Int)(y29:(Int))(a2:AC)(p31:Int)(p32:Int)(p33:ByteArray)(p37:Int)(p38:Int)(p39:ByteArray)(p43:Int)(p44:Int)(p45:ByteArray):Option Ax:=
 some (⟨a1,bU .i64 (cb .i64 p27 y29) (be .i64 a2.Attrs y29),(⟨p31,p32,p33⟩:AA),(⟨p37,p38,p39⟩:AA),(⟨p43,p44,p45⟩:AA)⟩:Ax)
def il (N:Nat)(a2:AC)(a1:Au)(p27:Int)(y29:(Int))(p31:Int)(p32:Int)(p33:ByteArray)(p14:Int)(p15:Int)(p16:ByteArray)(p37:Int)(p38:Int)(p39:ByteArray):Option Ax:=
 (bO N a2 8).bind fun y46=>bif y46 then (ik N a1 p27 y29 a2 p31 p32 p33 p37 p38 p39 a2.Set.Kind a2.Set.N a2.Set.S) else (ik N a1 p27 y29 a2 p31 p32 p33 p37 p38 p39 p14 p15 p16)
def im (N:Nat)(a2:AC)(a1:Au)(p27:Int)(y29:(Int))(p11:Int)(p12:Int)(p13:ByteArray)(p14:Int)(p15:Int)(p16:ByteArray)(p31:Int)(p32:Int)(p33:ByteArray):Option Ax:=
 (bO N a2 4).bind fun y40=>bif y40 then (il N a2 a1 p27 y29 p31 p32 p33 p14 p15 p16 a2.Get.Kind a2.Get.N a2.Get.S) else (il N a2 a1 p27 y29 p31 p32 p33 p14 p15 p16 p11 p12 p13)
def io (N:Nat)(a2:AC)(a1:Au)(p21:Int)(p22:Int)(p23:ByteArray)(p11:Int)(p12:Int)(p13:ByteArray)(p14:Int)(p15:Int)(p16:ByteArray)(p27:Int):Option Ax:=
 (nH N a2).bind fun y29=>(bO N a2 1).bind fun y34=>bif y34 then (im N a2 a1 p27 y29 p11 p12 p13 p14 p15 p16 a2.Value.Kind a2.Value.N a2.Value.S) else (im N a2 a1 p27 y29 p11 p12 p13 p14 p15 p16 p21 p22 p23)
def ip (N:Nat)(b6:Bool)(a0:Ax)(a2:AC)(a1:Au)(p11:Int)(p12:Int)(p13:ByteArray)(p14:Int)(p15:Int)(p16:ByteArray)(p20:Int)(p21:Int)(p22:Int)(p23:ByteArray):Option Ax:=
 bif b6 then (io N a2 a1 p21 p22 p23 p11 p12 p13 p14 p15 p16 (bU .i64 (bU .i64 p20 (be .i64 a0.Attrs 6)) 8)) else (io N a2 a1 p21 p22 p23 p11 p12 p13 p14 p15 p16 (bU .i64 p20 (be .i64 a0.Attrs 6)))
def iq (N:Nat)(a0:Ax)(b6:Bool)(a2:AC)(a1:Au)(p11:Int)(p12:Int)(p13:ByteArray)(p14:Int)(p15:Int)(p16:ByteArray):Option Ax:=
 (bif !b6 then (some (!(!decide (be .i64 a0.Attrs 8=0)))) else (some false)).bind fun b24=>bif b24 then (ip N b6 a0 a2 a1 p11 p12 p13 p14 p15 p16 (be .i64 a0.Attrs 1) a0.Value.Kind a0.Value.N a0.Value.S) else (ip N b6 a0 a2 a1 p11 p12 p13 p14 p15 p16 0 0 0 (⟨#[]⟩))
def jL (N:Nat)(a0:Ax)(a1:Au)(a2:AC):Option Ax:=
 (bO N a2 12).bind fun y5=>(bif y5 then (some true) else ((bif !decide (be .i64 a0.Attrs 8=0) then ((bO N a2 3).bind fun y8=>some (!y8)) else (some false)).bind fun b7=>some b7)).bind fun b6=>(bif b6 then (some (!decide (be .i64 a0.Attrs 8=0))) else (some false)).bind fun b17=>bif b17 then (iq N a0 b6 a2 a1 a0.Get.Kind a0.Get.N a0.Get.S a0.Set.Kind a0.Set.N a0.Set.S) else (iq N a0 b6 a2 a1 0 0 (⟨#[]⟩) 0 0 (⟨#[]⟩))
theorem lB {N:Nat}{a0:Ax}{a1:Au}{a2:AC}{r:Ax}(h:jL N a0 a1 a2=some r):Okc Tryz.prog 74 [.agg #[iV a0.Key.Kind,iV a0.Key.N,.string a0.Key.S,iV a0.Attrs,iV a0.Value.Kind,iV a0.Value.N,.string a0.Value.S,iV a0.Get.Kind,iV a0.Get.N,.string a0.Get.S,iV a0.Set.Kind,iV a0.Set.N,.string a0.Set.S],.agg #[iV a1.Kind,iV a1.N,.string a1.S],.agg #[iV a2.Has,iV a2.Attrs,iV a2.Value.Kind,iV a2.Value.N,.string a2.Value.S,iV a2.Get.Kind,iV a2.Get.N,.string a2.Get.S,iV a2.Set.Kind,iV a2.Set.N,.string a2.Set.S]] ([]) (fun u post=>u=.agg #[iV r.Key.Kind,iV r.Key.N,.string r.Key.S,iV r.Attrs,iV r.Value.Kind,iV r.Value.N,.string r.Value.S,iV r.Get.Kind,iV r.Get.N,.string r.Get.S,iV r.Set.Kind,iV r.Set.N,.string r.Set.S]∧post=[]):=by
 refine bh Tryz.func74 J J ?_;simp only [aL];refine I ?_;refine gD (aI J J) ?_;rintro _ _ ⟨B1,rfl,rfl⟩;refine gD (aI J J) ?_;rintro _ _ ⟨B2,rfl,rfl⟩;refine gD (aI J J) ?_;rintro _ _ ⟨B3,rfl,rfl⟩;refine gD (aP eS J) ?_;rintro _ _ ⟨B4,rfl,rfl⟩;refine I ?_;refine gE (bM J J) ?_;refine I ?_;refine gR (aj (us:=[iV a2.Has,iV a2.Attrs,iV a2.Value.Kind,iV a2.Value.N,.string a2.Value.S,iV a2.Get.Kind,iV a2.Get.N,.string a2.Get.S,iV a2.Set.Kind,iV a2.Set.N,.string a2.Set.S]) 1 J J cH J) ?_;obtain ⟨y5,hy5,h⟩:=aa h;refine gD (ag (bK hy5) fj J (ac) bv) ?_;rintro _ _ ⟨_,⟨rfl,rfl⟩,rfl⟩;refine I ?_;obtain ⟨b6,hb6,h⟩:=aa h;refine aC 7 24 b6 ?_ ?_
 ·clear h;refine ay 17 J (fun g6=> ?_) (fun g6=> ?_)
  ·have h:=ad g6 hb6;refine I ?_;obtain rfl:=ak h;exact ab sA (cS [0,1,2,3] 4)
  have h:=ae g6 hb6;refine I ?_;obtain ⟨b7,hb7,h⟩:=aa h;refine aC 4 23 b7 ?_ ?_
  ·clear h;refine ay 19 J (fun g7=> ?_) (fun g7=> ?_)
   ·have h:=ad g7 hb7;refine bi (aj (us:=[iV a2.Has,iV a2.Attrs,iV a2.Value.Kind,iV a2.Value.N,.string a2.Value.S,iV a2.Get.Kind,iV a2.Get.N,.string a2.Get.S,iV a2.Set.Kind,iV a2.Set.N,.string a2.Set.S]) 1 J J cH J) J (aS g7 J) J ?_;obtain ⟨y8,hy8,h⟩:=aa h;refine bF (ag (bK hy8) fj J (ac) bv) J (aS g7 J) J ?_;rintro _ _ ⟨_,⟨rfl,rfl⟩,rfl⟩;refine I ?_;obtain rfl:=ak h;exact ab sA (cS [0,1,2,3] 4)
   have h:=ae g7 hb7;refine I ?_;obtain rfl:=ak h;exact ab sA (cS [0,1,2,3] 4)
  refine I ?_;obtain rfl:=ak h;exact ab sA (cS [0,1,2,3] 4)
 refine I ?_;refine gR (aj (us:=[iV a1.Kind,iV a1.N,.string a1.S]) 2 J J ci J) ?_;refine gE (aN J (vK _ _ _)) ?_;refine gD (aP eS J) ?_;rintro _ _ ⟨B9,rfl,rfl⟩;refine gO (ar (us:=[iV a1.Kind,iV a1.N,.string a1.S,iV 0,iV 0,iV 0,.string (⟨#[]⟩),iV 0,iV 0,.string (⟨#[]⟩),iV 0,iV 0,.string (⟨#[]⟩)]) (cs':=[iV a1.Kind,iV a1.N,.string a1.S,iV 0,iV 0,iV 0,.string (⟨#[]⟩),iV 0,iV 0,.string (⟨#[]⟩),iV 0,iV 0,.string (⟨#[]⟩)]) 0 J J J J da J J J) ?_;rintro _ _ rfl;refine I ?_;refine aW (fun s L=> ∃p11 p12 p13 p14 p15 p16,iq N a0 b6 a2 a1 p11 p12 p13 p14 p15 p16=some r∧s=[(3,pV B1 0),(5,pV B3 0),(6,pV B4 0),(7,.bool (!decide (be .i64 a0.Attrs 8=0))),(8,.bool b6),(9,pV B9 0)]∧L=[al B1 52 [iV a0.Key.Kind,iV a0.Key.N,.string a0.Key.S,iV a0.Attrs,iV a0.Value.Kind,iV a0.Value.N,.string a0.Value.S,iV a0.Get.Kind,iV a0.Get.N,.string a0.Get.S,iV a0.Set.Kind,iV a0.Set.N,.string a0.Set.S],al B3 46 [iV a2.Has,iV a2.Attrs,iV a2.Value.Kind,iV a2.Value.N,.string a2.Value.S,iV a2.Get.Kind,iV a2.Get.N,.string a2.Get.S,iV a2.Set.Kind,iV a2.Set.N,.string a2.Set.S],al B4 52 [iV 0,iV 0,.string (⟨#[]⟩),iV 0,iV 0,iV 0,.string (⟨#[]⟩),iV 0,iV 0,.string (⟨#[]⟩),iV 0,iV 0,.string (⟨#[]⟩)],al B9 52 [iV a1.Kind,iV a1.N,.string a1.S,iV 0,iV 0,iV 0,.string (⟨#[]⟩),iV p11,iV p12,.string p13,iV p14,iV p15,.string p16]]) ?_ ?_
 ·refine I ?_;obtain ⟨b17,hb17,h⟩:=aa h;refine aC 2 30 b17 ?_ ?_
  ·clear h;refine ay 28 J (fun g17=> ?_) (fun g17=> ?_)
   ·have h:=ad g17 hb17;refine I ?_;obtain rfl:=ak h;exact ab sA (cS [0,1,2,3,4] 5)
   have h:=ae g17 hb17;refine I ?_;obtain rfl:=ak h;exact ab sA (cS [0,1,2,3,4] 5)
  refine I ?_;refine ap J (fun g18=> ?_) (fun g18=> ?_)
  ·replace h:=ad g18 h;refine bg V ([al B4 52 [iV 0,iV 0,.string (⟨#[]⟩),iV 0,iV 0,iV 0,.string (⟨#[]⟩),iV 0,iV 0,.string (⟨#[]⟩),iV 0,iV 0,.string (⟨#[]⟩)],al B3 46 [iV a2.Has,iV a2.Attrs,iV a2.Value.Kind,iV a2.Value.N,.string a2.Value.S,iV a2.Get.Kind,iV a2.Get.N,.string a2.Get.S,iV a2.Set.Kind,iV a2.Set.N,.string a2.Set.S],al B2 44 [iV a1.Kind,iV a1.N,.string a1.S],al B1 52 [iV a0.Key.Kind,iV a0.Key.N,.string a0.Key.S,iV a0.Attrs,iV a0.Value.Kind,iV a0.Value.N,.string a0.Value.S,iV a0.Get.Kind,iV a0.Get.N,.string a0.Get.S,iV a0.Set.Kind,iV a0.Set.N,.string a0.Set.S]]) (cS [1,2,3,4] 5) ?_;refine zE 0 J (bo J ph) ?_;refine zR 1 J (aj (us:=[iV a0.Get.Kind,iV a0.Get.N,.string a0.Get.S]) 3 J J aJ J) ?_;refine zE 2 J (bo J pg) ?_;refine zR 3 J (aj (us:=[iV a0.Set.Kind,iV a0.Set.N,.string a0.Set.S]) 3 J J aJ J) ?_;refine zE 4 J (bo J ph) ?_;refine zO 5 J (ar (us:=[iV a0.Get.Kind,iV a0.Get.N,.string a0.Get.S]) (cs':=[iV a1.Kind,iV a1.N,.string a1.S,iV 0,iV 0,iV 0,.string (⟨#[]⟩),iV a0.Get.Kind,iV a0.Get.N,.string a0.Get.S,iV 0,iV 0,.string (⟨#[]⟩)]) 0 J J J J aT J J J) ?_;rintro _ _ rfl;refine cv (cS [1,2,3,4] 5) ?_;refine zE 6 J (bo J pg) ?_;refine zO 7 J (ar (us:=[iV a0.Set.Kind,iV a0.Set.N,.string a0.Set.S]) (cs':=[iV a1.Kind,iV a1.N,.string a1.S,iV 0,iV 0,iV 0,.string (⟨#[]⟩),iV a0.Get.Kind,iV a0.Get.N,.string a0.Get.S,iV a0.Set.Kind,iV a0.Set.N,.string a0.Set.S]) 0 J J J J aT J J J) ?_;rintro _ _ rfl
   refine cv (cS [1,2,3,4] 5) ?_;refine aZ V ?_;refine eB ?_;exact ⟨_,_,⟨a0.Get.Kind,a0.Get.N,a0.Get.S,a0.Set.Kind,a0.Set.N,a0.Set.S,h,J,J⟩,sA,cS [4,2,1,0] 5⟩
  replace h:=ae g18 h;refine I ?_;exact ⟨_,_,⟨0,0,⟨#[]⟩,0,0,⟨#[]⟩,h,J,J⟩,sA,cS [4,2,1,0] 5⟩
 rintro _ _ ⟨p11,p12,p13,p14,p15,p16,h,rfl,rfl⟩;refine aW (fun s L=> ∃p20 p21 p22 p23,ip N b6 a0 a2 a1 p11 p12 p13 p14 p15 p16 p20 p21 p22 p23=some r∧s=[(3,pV B1 0),(5,pV B3 0),(6,pV B4 0),(8,.bool b6),(9,pV B9 0)]∧L=[al B1 52 [iV a0.Key.Kind,iV a0.Key.N,.string a0.Key.S,iV a0.Attrs,iV a0.Value.Kind,iV a0.Value.N,.string a0.Value.S,iV a0.Get.Kind,iV a0.Get.N,.string a0.Get.S,iV a0.Set.Kind,iV a0.Set.N,.string a0.Set.S],al B3 46 [iV a2.Has,iV a2.Attrs,iV a2.Value.Kind,iV a2.Value.N,.string a2.Value.S,iV a2.Get.Kind,iV a2.Get.N,.string a2.Get.S,iV a2.Set.Kind,iV a2.Set.N,.string a2.Set.S],al B4 52 [iV 0,iV 0,.string (⟨#[]⟩),iV 0,iV 0,iV 0,.string (⟨#[]⟩),iV 0,iV 0,.string (⟨#[]⟩),iV 0,iV 0,.string (⟨#[]⟩)],al B9 52 [iV a1.Kind,iV a1.N,.string a1.S,iV p20,iV p21,iV p22,.string p23,iV p11,iV p12,.string p13,iV p14,iV p15,.string p16]]) ?_ ?_
 ·refine I ?_;obtain ⟨b24,hb24,h⟩:=aa h;refine aC 3 42 b24 ?_ ?_
  ·clear h;refine ay 39 J (fun g24=> ?_) (fun g24=> ?_)
   ·have h:=ad g24 hb24;refine I ?_;obtain rfl:=ak h;exact ab sA (cS [0,1,2,3] 4)
   have h:=ae g24 hb24;refine I ?_;obtain rfl:=ak h;exact ab sA (cS [0,1,2,3] 4)
  refine I ?_;refine ap J (fun g25=> ?_) (fun g25=> ?_)
  ·replace h:=ad g25 h;refine I ?_;refine gR (aj (us:=[iV a0.Value.Kind,iV a0.Value.N,.string a0.Value.S]) 0 J J aJ J) ?_;refine I ?_;refine gO (ar (us:=[iV a0.Value.Kind,iV a0.Value.N,.string a0.Value.S]) (cs':=[iV a1.Kind,iV a1.N,.string a1.S,iV 0,iV a0.Value.Kind,iV a0.Value.N,.string a0.Value.S,iV p11,iV p12,.string p13,iV p14,iV p15,.string p16]) 3 J J J J aT J J J) ?_;rintro _ _ rfl;refine I ?_;refine gE (bM J J) ?_;refine I ?_;refine gO (ar (us:=[iV (be .i64 a0.Attrs 1)]) (cs':=[iV a1.Kind,iV a1.N,.string a1.S,iV (be .i64 a0.Attrs 1),iV a0.Value.Kind,iV a0.Value.N,.string a0.Value.S,iV p11,iV p12,.string p13,iV p14,iV p15,.string p16]) 3 J J J J fK J J J) ?_;rintro _ _ rfl;refine bJ ?_;refine I ?_;exact ⟨_,_,⟨be .i64 a0.Attrs 1,a0.Value.Kind,a0.Value.N,a0.Value.S,h,J,J⟩,sA,cS [0,1,2,3] 4⟩
  replace h:=ae g25 h;refine I ?_;exact ⟨_,_,⟨0,0,0,⟨#[]⟩,h,J,J⟩,sA,cS [0,1,2,3] 4⟩
 rintro _ _ ⟨p20,p21,p22,p23,h,rfl,rfl⟩;refine I ?_;refine gE (bM J J) ?_;refine gE (gA J J) ?_;refine I ?_;refine gO (ar (us:=[iV (bU .i64 p20 (be .i64 a0.Attrs 6))]) (cs':=[iV a1.Kind,iV a1.N,.string a1.S,iV (bU .i64 p20 (be .i64 a0.Attrs 6)),iV p21,iV p22,.string p23,iV p11,iV p12,.string p13,iV p14,iV p15,.string p16]) 3 J J J J fK J J J) ?_;rintro _ _ rfl;refine I ?_;refine aW (fun s L=> ∃p27,io N a2 a1 p21 p22 p23 p11 p12 p13 p14 p15 p16 p27=some r∧s=[(5,pV B3 0),(6,pV B4 0),(9,pV B9 0)]∧L=[al B3 46 [iV a2.Has,iV a2.Attrs,iV a2.Value.Kind,iV a2.Value.N,.string a2.Value.S,iV a2.Get.Kind,iV a2.Get.N,.string a2.Get.S,iV a2.Set.Kind,iV a2.Set.N,.string a2.Set.S],al B4 52 [iV 0,iV 0,.string (⟨#[]⟩),iV 0,iV 0,iV 0,.string (⟨#[]⟩),iV 0,iV 0,.string (⟨#[]⟩),iV 0,iV 0,.string (⟨#[]⟩)],al B9 52 [iV a1.Kind,iV a1.N,.string a1.S,iV p27,iV p21,iV p22,.string p23,iV p11,iV p12,.string p13,iV p14,iV p15,.string p16]]) ?_ ?_
 ·refine I ?_;refine ap J (fun g28=> ?_) (fun g28=> ?_)
  ·replace h:=ad g28 h;refine I ?_;refine gE (gA J J) ?_;refine I ?_;refine gO (ar (us:=[iV (bU .i64 (bU .i64 p20 (be .i64 a0.Attrs 6)) 8)]) (cs':=[iV a1.Kind,iV a1.N,.string a1.S,iV (bU .i64 (bU .i64 p20 (be .i64 a0.Attrs 6)) 8),iV p21,iV p22,.string p23,iV p11,iV p12,.string p13,iV p14,iV p15,.string p16]) 3 J J J J fK J J J) ?_;rintro _ _ rfl;refine I ?_;exact ⟨_,_,⟨bU .i64 (bU .i64 p20 (be .i64 a0.Attrs 6)) 8,h,J,J⟩,sA,cS [1,2,3] 4⟩
  replace h:=ae g28 h;refine I ?_;exact ⟨_,_,⟨bU .i64 p20 (be .i64 a0.Attrs 6),h,J,J⟩,sA,cS [1,2,3] 4⟩
 rintro _ _ ⟨p27,h,rfl,rfl⟩;refine I ?_;refine gR (aj (us:=[iV a2.Has,iV a2.Attrs,iV a2.Value.Kind,iV a2.Value.N,.string a2.Value.S,iV a2.Get.Kind,iV a2.Get.N,.string a2.Get.S,iV a2.Set.Kind,iV a2.Set.N,.string a2.Set.S]) 0 J J cH J) ?_;obtain ⟨y29,hy29,h⟩:=aa h;refine gD (ag (qn hy29) yb J (ac) o0) ?_;rintro _ _ ⟨_,⟨rfl,rfl⟩,rfl⟩;refine I ?_;refine gE (mA J J) ?_;refine I ?_;refine gE (bM J J) ?_;refine gE (gA J J) ?_;refine I ?_;refine gO (ar (us:=[iV (bU .i64 (cb .i64 p27 y29) (be .i64 a2.Attrs y29))]) (cs':=[iV a1.Kind,iV a1.N,.string a1.S,iV (bU .i64 (cb .i64 p27 y29) (be .i64 a2.Attrs y29)),iV p21,iV p22,.string p23,iV p11,iV p12,.string p13,iV p14,iV p15,.string p16]) 2 J J J J fK J J J) ?_;rintro _ _ rfl;refine bJ ?_;refine I ?_;refine aW (fun s L=> ∃p31 p32 p33,im N a2 a1 p27 y29 p11 p12 p13 p14 p15 p16 p31 p32 p33=some r∧s=[(5,pV B3 0),(6,pV B4 0),(9,pV B9 0)]∧L=[al B3 46 [iV a2.Has,iV a2.Attrs,iV a2.Value.Kind,iV a2.Value.N,.string a2.Value.S,iV a2.Get.Kind,iV a2.Get.N,.string a2.Get.S,iV a2.Set.Kind,iV a2.Set.N,.string a2.Set.S],al B4 52 [iV 0,iV 0,.string (⟨#[]⟩),iV 0,iV 0,iV 0,.string (⟨#[]⟩),iV 0,iV 0,.string (⟨#[]⟩),iV 0,iV 0,.string (⟨#[]⟩)],al B9 52 [iV a1.Kind,iV a1.N,.string a1.S,iV (bU .i64 (cb .i64 p27 y29) (be .i64 a2.Attrs y29)),iV p31,iV p32,.string p33,iV p11,iV p12,.string p13,iV p14,iV p15,.string p16]]) ?_ ?_
 ·refine I ?_;refine gR (aj (us:=[iV a2.Has,iV a2.Attrs,iV a2.Value.Kind,iV a2.Value.N,.string a2.Value.S,iV a2.Get.Kind,iV a2.Get.N,.string a2.Get.S,iV a2.Set.Kind,iV a2.Set.N,.string a2.Set.S]) 0 J J cH J) ?_;obtain ⟨y34,hy34,h⟩:=aa h;refine gD (ag (bK hy34) fj J (ac) bv) ?_;rintro _ _ ⟨_,⟨rfl,rfl⟩,rfl⟩;refine I ?_;refine ap J (fun g35=> ?_) (fun g35=> ?_)
  ·replace h:=ad g35 h;refine I ?_;refine gR (aj (us:=[iV a2.Value.Kind,iV a2.Value.N,.string a2.Value.S]) 0 J J aJ J) ?_;refine I ?_;refine gO (ar (us:=[iV a2.Value.Kind,iV a2.Value.N,.string a2.Value.S]) (cs':=[iV a1.Kind,iV a1.N,.string a1.S,iV (bU .i64 (cb .i64 p27 y29) (be .i64 a2.Attrs y29)),iV a2.Value.Kind,iV a2.Value.N,.string a2.Value.S,iV p11,iV p12,.string p13,iV p14,iV p15,.string p16]) 2 J J J J aT J J J) ?_;rintro _ _ rfl;refine I ?_;exact ⟨_,_,⟨a2.Value.Kind,a2.Value.N,a2.Value.S,h,J,J⟩,sA,cS [0,1,2] 3⟩
  replace h:=ae g35 h;refine I ?_;exact ⟨_,_,⟨p21,p22,p23,h,J,J⟩,sA,cS [0,1,2] 3⟩
 rintro _ _ ⟨p31,p32,p33,h,rfl,rfl⟩;refine aW (fun s L=> ∃p37 p38 p39,il N a2 a1 p27 y29 p31 p32 p33 p14 p15 p16 p37 p38 p39=some r∧s=[(5,pV B3 0),(6,pV B4 0),(9,pV B9 0)]∧L=[al B3 46 [iV a2.Has,iV a2.Attrs,iV a2.Value.Kind,iV a2.Value.N,.string a2.Value.S,iV a2.Get.Kind,iV a2.Get.N,.string a2.Get.S,iV a2.Set.Kind,iV a2.Set.N,.string a2.Set.S],al B4 52 [iV 0,iV 0,.string (⟨#[]⟩),iV 0,iV 0,iV 0,.string (⟨#[]⟩),iV 0,iV 0,.string (⟨#[]⟩),iV 0,iV 0,.string (⟨#[]⟩)],al B9 52 [iV a1.Kind,iV a1.N,.string a1.S,iV (bU .i64 (cb .i64 p27 y29) (be .i64 a2.Attrs y29)),iV p31,iV p32,.string p33,iV p37,iV p38,.string p39,iV p14,iV p15,.string p16]]) ?_ ?_
 ·refine I ?_;refine gR (aj (us:=[iV a2.Has,iV a2.Attrs,iV a2.Value.Kind,iV a2.Value.N,.string a2.Value.S,iV a2.Get.Kind,iV a2.Get.N,.string a2.Get.S,iV a2.Set.Kind,iV a2.Set.N,.string a2.Set.S]) 0 J J cH J) ?_;obtain ⟨y40,hy40,h⟩:=aa h;refine gD (ag (bK hy40) fj J (ac) bv) ?_;rintro _ _ ⟨_,⟨rfl,rfl⟩,rfl⟩;refine I ?_;refine ap J (fun g41=> ?_) (fun g41=> ?_)
  ·replace h:=ad g41 h;refine I ?_;refine gR (aj (us:=[iV a2.Get.Kind,iV a2.Get.N,.string a2.Get.S]) 0 J J aJ J) ?_;refine I ?_;refine gO (ar (us:=[iV a2.Get.Kind,iV a2.Get.N,.string a2.Get.S]) (cs':=[iV a1.Kind,iV a1.N,.string a1.S,iV (bU .i64 (cb .i64 p27 y29) (be .i64 a2.Attrs y29)),iV p31,iV p32,.string p33,iV a2.Get.Kind,iV a2.Get.N,.string a2.Get.S,iV p14,iV p15,.string p16]) 2 J J J J aT J J J) ?_;rintro _ _ rfl;refine I ?_;exact ⟨_,_,⟨a2.Get.Kind,a2.Get.N,a2.Get.S,h,J,J⟩,sA,cS [0,1,2] 3⟩
  replace h:=ae g41 h;refine I ?_;exact ⟨_,_,⟨p11,p12,p13,h,J,J⟩,sA,cS [0,1,2] 3⟩
 rintro _ _ ⟨p37,p38,p39,h,rfl,rfl⟩;refine aW (fun s L=> ∃p43 p44 p45,ik N a1 p27 y29 a2 p31 p32 p33 p37 p38 p39 p43 p44 p45=some r∧s=[(6,pV B4 0),(9,pV B9 0)]∧L=[al B4 52 [iV 0,iV 0,.string (⟨#[]⟩),iV 0,iV 0,iV 0,.string (⟨#[]⟩),iV 0,iV 0,.string (⟨#[]⟩),iV 0,iV 0,.string (⟨#[]⟩)],al B9 52 [iV a1.Kind,iV a1.N,.string a1.S,iV (bU .i64 (cb .i64 p27 y29) (be .i64 a2.Attrs y29)),iV p31,iV p32,.string p33,iV p37,iV p38,.string p39,iV p43,iV p44,.string p45]]) ?_ ?_
 ·refine I ?_;refine gR (aj (us:=[iV a2.Has,iV a2.Attrs,iV a2.Value.Kind,iV a2.Value.N,.string a2.Value.S,iV a2.Get.Kind,iV a2.Get.N,.string a2.Get.S,iV a2.Set.Kind,iV a2.Set.N,.string a2.Set.S]) 0 J J cH J) ?_;obtain ⟨y46,hy46,h⟩:=aa h;refine gD (ag (bK hy46) fj J (ac) bv) ?_;rintro _ _ ⟨_,⟨rfl,rfl⟩,rfl⟩;refine I ?_;refine ap J (fun g47=> ?_) (fun g47=> ?_)
  ·replace h:=ad g47 h;refine I ?_;refine gR (aj (us:=[iV a2.Set.Kind,iV a2.Set.N,.string a2.Set.S]) 0 J J aJ J) ?_;refine I ?_;refine gO (ar (us:=[iV a2.Set.Kind,iV a2.Set.N,.string a2.Set.S]) (cs':=[iV a1.Kind,iV a1.N,.string a1.S,iV (bU .i64 (cb .i64 p27 y29) (be .i64 a2.Attrs y29)),iV p31,iV p32,.string p33,iV p37,iV p38,.string p39,iV a2.Set.Kind,iV a2.Set.N,.string a2.Set.S]) 2 J J J J aT J J J) ?_;rintro _ _ rfl;refine bJ ?_;refine I ?_;exact ⟨_,_,⟨a2.Set.Kind,a2.Set.N,a2.Set.S,h,J,J⟩,sA,cS [1,2] 3⟩
  replace h:=ae g47 h;refine I ?_;exact ⟨_,_,⟨p14,p15,p16,h,J,J⟩,sA,cS [1,2] 3⟩
 rintro _ _ ⟨p43,p44,p45,h,rfl,rfl⟩;refine I ?_;refine gR (aj (us:=[iV a1.Kind,iV a1.N,.string a1.S,iV (bU .i64 (cb .i64 p27 y29) (be .i64 a2.Attrs y29)),iV p31,iV p32,.string p33,iV p37,iV p38,.string p39,iV p43,iV p44,.string p45]) 1 J J dQ J) ?_;refine gO (ar (us:=[iV a1.Kind,iV a1.N,.string a1.S,iV (bU .i64 (cb .i64 p27 y29) (be .i64 a2.Attrs y29)),iV p31,iV p32,.string p33,iV p37,iV p38,.string p39,iV p43,iV p44,.string p45]) (cs':=[iV a1.Kind,iV a1.N,.string a1.S,iV (bU .i64 (cb .i64 p27 y29) (be .i64 a2.Attrs y29)),iV p31,iV p32,.string p33,iV p37,iV p38,.string p39,iV p43,iV p44,.string p45]) 0 J J J J da J J J) ?_;rintro _ _ rfl;refine I ?_;obtain rfl:=ak h;exact ca (rs:=[.cell 6 52]) (vs:=[.agg #[iV a1.Kind,iV a1.N,.string a1.S,iV (bU .i64 (cb .i64 p27 y29) (be .i64 a2.Attrs y29)),iV p31,iV p32,.string p33,iV p37,iV p38,.string p39,iV p43,iV p44,.string p45]]) J (.cons (bq 0 J J dQ) .nil) J (cS [] 2) ⟨J,J⟩
theorem kg {r:Ax}: ∀v post,((fun (u:Value) (post:List Chunk)=>u=.agg #[iV r.Key.Kind,iV r.Key.N,.string r.Key.S,iV r.Attrs,iV r.Value.Kind,iV r.Value.N,.string r.Value.S,iV r.Get.Kind,iV r.Get.N,.string r.Get.S,iV r.Set.Kind,iV r.Set.N,.string r.Set.S]∧post=[])) v post→ ∀c∈post,bL c:=by
 rintro _ _ ⟨rfl,rfl⟩;exact ac
def oM (N:Nat)(a0:AC)(a1:Au):Option Ax:=
 (jL N (⟨(⟨0,0,⟨#[]⟩⟩:Au),0,(⟨0,0,⟨#[]⟩⟩:AA),(⟨0,0,⟨#[]⟩⟩:AA),(⟨0,0,⟨#[]⟩⟩:AA)⟩:Ax) a1 a0).bind fun y4=>some y4
theorem rg {N:Nat}{a0:AC}{a1:Au}{r:Ax}(h:oM N a0 a1=some r):Okc Tryz.prog 72 [.agg #[iV a0.Has,iV a0.Attrs,iV a0.Value.Kind,iV a0.Value.N,.string a0.Value.S,iV a0.Get.Kind,iV a0.Get.N,.string a0.Get.S,iV a0.Set.Kind,iV a0.Set.N,.string a0.Set.S],.agg #[iV a1.Kind,iV a1.N,.string a1.S]] ([]) (fun u post=>u=.agg #[iV r.Key.Kind,iV r.Key.N,.string r.Key.S,iV r.Attrs,iV r.Value.Kind,iV r.Value.N,.string r.Value.S,iV r.Get.Kind,iV r.Get.N,.string r.Get.S,iV r.Set.Kind,iV r.Set.N,.string r.Set.S]∧post=[]):=by
 refine bh Tryz.func72 J J ?_;simp only [aL];refine I ?_;refine gD (aI J J) ?_;rintro _ _ ⟨B1,rfl,rfl⟩;refine gD (aI J J) ?_;rintro _ _ ⟨B2,rfl,rfl⟩;refine gD (aP eS J) ?_;rintro _ _ ⟨B3,rfl,rfl⟩;refine I ?_;refine gE (aN J (jD)) ?_;refine gR (aj (us:=[iV a1.Kind,iV a1.N,.string a1.S]) 1 J J ci J) ?_;refine gR (aj (us:=[iV a0.Has,iV a0.Attrs,iV a0.Value.Kind,iV a0.Value.N,.string a0.Value.S,iV a0.Get.Kind,iV a0.Get.N,.string a0.Get.S,iV a0.Set.Kind,iV a0.Set.N,.string a0.Set.S]) 2 J J cH J) ?_;obtain ⟨y4,hy4,h⟩:=aa h;refine gD (ag (lB hy4) vc J (ac) kg) ?_;rintro _ _ ⟨_,⟨rfl,rfl⟩,rfl⟩;refine gO (ar (us:=[iV y4.Key.Kind,iV y4.Key.N,.string y4.Key.S,iV y4.Attrs,iV y4.Value.Kind,iV y4.Value.N,.string y4.Value.S,iV y4.Get.Kind,iV y4.Get.N,.string y4.Get.S,iV y4.Set.Kind,iV y4.Set.N,.string y4.Set.S]) (cs':=[iV y4.Key.Kind,iV y4.Key.N,.string y4.Key.S,iV y4.Attrs,iV y4.Value.Kind,iV y4.Value.N,.string y4.Value.S,iV y4.Get.Kind,iV y4.Get.N,.string y4.Get.S,iV y4.Set.Kind,iV y4.Set.N,.string y4.Set.S]) 0 J J J J da J J J) ?_;rintro _ _ rfl;refine I ?_;obtain rfl:=ak h;exact ca (rs:=[.cell 4 52]) (vs:=[.agg #[iV y4.Key.Kind,iV y4.Key.N,.string y4.Key.S,iV y4.Attrs,iV y4.Value.Kind,iV y4.Value.N,.string y4.Value.S,iV y4.Get.Kind,iV y4.Get.N,.string y4.Get.S,iV y4.Set.Kind,iV y4.Set.N,.string y4.Set.S]]) J (.cons (bq 0 J J dQ) .nil) J (cS [] 3) ⟨J,J⟩
theorem pR {r:Ax}: ∀v post,((fun (u:Value) (post:List Chunk)=>u=.agg #[iV r.Key.Kind,iV r.Key.N,.string r.Key.S,iV r.Attrs,iV r.Value.Kind,iV r.Value.N,.string r.Value.S,iV r.Get.Kind,iV r.Get.N,.string r.Get.S,iV r.Set.Kind,iV r.Set.N,.string r.Set.S]∧post=[])) v post→ ∀c∈post,bL c:=by
 rintro _ _ ⟨rfl,rfl⟩;exact ac
def iP (N:Nat)(a0:AA)(a1:AA):Option Bool:=
 some (decide (a0=a1))
theorem jO {N:Nat}{a0:AA}{a1:AA}{r:Bool}(h:iP N a0 a1=some r):Okc Tryz.prog 91 [.agg #[iV a0.Kind,iV a0.N,.string a0.S],.agg #[iV a1.Kind,iV a1.N,.string a1.S]] ([]) (fun u post=>u=.bool r∧post=[]):=by
 refine bh Tryz.func91 J J ?_;simp only [aL];refine I ?_;refine gD (aI J J) ?_;rintro _ _ ⟨B1,rfl,rfl⟩;refine gD (aI J J) ?_;rintro _ _ ⟨B2,rfl,rfl⟩;refine I ?_;refine gR (aj (us:=[iV a0.Kind,iV a0.N,.string a0.S]) 1 J J aJ J) ?_;refine gR (aj (us:=[iV a1.Kind,iV a1.N,.string a1.S]) 0 J J aJ J) ?_;refine gE (lA (x:=a0) (y:=a1) J J) ?_;refine I ?_;obtain rfl:=ak h;exact aE J J (cS [] 2) ⟨J,J⟩
theorem ir {r:Bool}: ∀v post,((fun (u:Value) (post:List Chunk)=>u=.bool r∧post=[])) v post→ ∀c∈post,bL c:=by
 rintro _ _ ⟨rfl,rfl⟩;exact ac
end Go.Proofs.YtanojiedimeegaaGreat
namespace Go.Proofs.YtanojiedimeegaaGreat
variable {A1 A10 A12 A13 A14 A2 A3 A4 A5 A6:Option Addr} {B1 B2 B7 B9 M11 M3 M8 c1 c10 c12 c13 c14 c2 c3 c4 c5 c6 n1 n10 n12 n13 n14 n2 n3 n4 n5 n6:Nat}
open Go.RowKit Asn
set_option maxRecDepth 20000
def oL (N:Nat)(a0:Ax)(a1:AC):Option Bool:=
 (bO N a1 32).bind fun y3=>(bif y3 then (some (!decide (be .i64 a1.Attrs 4=0))) else (some false)).bind fun b4=>(bif b4 then (some true) else ((bO N a1 16).bind fun y6=>(bif y6 then (some (!decide (be .i64 (tJ .i64 a1.Attrs a0.Attrs) 2=0))) else (some false)).bind fun b7=>some b7)).bind fun b5=>bif b5 then (some true) else (bif !decide (be .i64 a0.Attrs 8=0) then ((bO N a1 3).bind fun y10=>(bif y10 then (some true) else ((bO N a1 4).bind fun y12=>(bif y12 then ((iP N a1.Get a0.Get).bind fun y14=>some (!y14)) else (some false)).bind fun b13=>some b13)).bind fun b11=>(bif b11 then (some true) else ((bO N a1 8).bind fun y16=>(bif y16 then ((iP N a1.Set a0.Set).bind fun y18=>some (!y18)) else (some false)).bind fun b17=>some b17)).bind fun b15=>some b15) else ((bO N a1 12).bind fun y19=>bif y19 then (some true) else ((bif decide (be .i64 a0.Attrs 1=0) then ((bO N a1 2).bind fun y22=>(bif y22 then (some (!decide (be .i64 a1.Attrs 1=0))) else (some false)).bind fun b23=>(bif b23 then (some true) else ((bO N a1 1).bind fun y25=>(bif y25 then ((iP N a1.Value a0.Value).bind fun y27=>some (!y27)) else (some false)).bind fun b26=>some b26)).bind fun b24=>some b24) else (some false)).bind fun b21=>some b21)))
set_option maxHeartbeats 4000000 in
theorem rf {N:Nat}{a0:Ax}{a1:AC}{r:Bool}(h:oL N a0 a1=some r):Okc Tryz.prog 73 [.agg #[iV a0.Key.Kind,iV a0.Key.N,.string a0.Key.S,iV a0.Attrs,iV a0.Value.Kind,iV a0.Value.N,.string a0.Value.S,iV a0.Get.Kind,iV a0.Get.N,.string a0.Get.S,iV a0.Set.Kind,iV a0.Set.N,.string a0.Set.S],.agg #[iV a1.Has,iV a1.Attrs,iV a1.Value.Kind,iV a1.Value.N,.string a1.Value.S,iV a1.Get.Kind,iV a1.Get.N,.string a1.Get.S,iV a1.Set.Kind,iV a1.Set.N,.string a1.Set.S]] ([]) (fun u post=>u=.bool r∧post=[]):=by
 refine bh Tryz.func73 J J ?_;simp only [aL];refine I ?_;refine gD (aI J J) ?_;rintro _ _ ⟨B1,rfl,rfl⟩;refine gD (aI J J) ?_;rintro _ _ ⟨B2,rfl,rfl⟩;refine I ?_;refine aw ?_;refine I ?_;refine gR (aj (us:=[iV a1.Has,iV a1.Attrs,iV a1.Value.Kind,iV a1.Value.N,.string a1.Value.S,iV a1.Get.Kind,iV a1.Get.N,.string a1.Get.S,iV a1.Set.Kind,iV a1.Set.N,.string a1.Set.S]) 0 J J cH J) ?_;obtain ⟨y3,hy3,h⟩:=aa h;refine gD (ag (bK hy3) fj J (ac) bv) ?_;rintro _ _ ⟨_,⟨rfl,rfl⟩,rfl⟩;refine I ?_;obtain ⟨b4,hb4,h⟩:=aa h;refine aC 5 12 b4 ?_ ?_
 ·clear h;refine ay 7 J (fun g4=> ?_) (fun g4=> ?_)
  ·have h:=ad g4 hb4;refine I ?_;refine fG (bM J J) J (aS g4 J) J ?_;refine I ?_;obtain rfl:=ak h;exact ab sA (cS [0,1] 2)
  have h:=ae g4 hb4;refine I ?_;obtain rfl:=ak h;exact ab sA (cS [0,1] 2)
 refine I ?_;obtain ⟨b5,hb5,h⟩:=aa h;refine aC 12 25 b5 ?_ ?_
 ·clear h;refine ay 13 J (fun g5=> ?_) (fun g5=> ?_)
  ·have h:=ad g5 hb5;refine I ?_;obtain rfl:=ak h;exact ab sA (cS [0,1] 2)
  have h:=ae g5 hb5;refine bi (aj (us:=[iV a1.Has,iV a1.Attrs,iV a1.Value.Kind,iV a1.Value.N,.string a1.Value.S,iV a1.Get.Kind,iV a1.Get.N,.string a1.Get.S,iV a1.Set.Kind,iV a1.Set.N,.string a1.Set.S]) 0 J J cH J) J (cq g5 J) J ?_;obtain ⟨y6,hy6,h⟩:=aa h;refine bF (ag (bK hy6) fj J (ac) bv) J (cq g5 J) J ?_;rintro _ _ ⟨_,⟨rfl,rfl⟩,rfl⟩;refine I ?_;obtain ⟨b7,hb7,h⟩:=aa h;refine aC 8 24 b7 ?_ ?_
  ·clear h;refine ay 16 J (fun g7=> ?_) (fun g7=> ?_)
   ·have h:=ad g7 hb7;refine I ?_;refine fG (sq J J) J (aS g7 J) J ?_;refine fG (bM J J) J (aS g7 J) J ?_;refine I ?_;obtain rfl:=ak h;exact ab sA (cS [0,1] 2)
   have h:=ae g7 hb7;refine I ?_;obtain rfl:=ak h;exact ab sA (cS [0,1] 2)
  refine I ?_;obtain rfl:=ak h;exact ab sA (cS [0,1] 2)
 refine I ?_;refine ap J (fun g8=> ?_) (fun g8=> ?_)
 ·replace h:=ad g8 h;refine I ?_;obtain rfl:=ak h;exact aE J J (cS [] 2) ⟨J,J⟩
 replace h:=ae g8 h;refine I ?_;refine aw ?_;refine I ?_;refine gE (bM J J) ?_;refine I ?_;refine ap J (fun g9=> ?_) (fun g9=> ?_)
 ·replace h:=ad g9 h;refine I ?_;refine gR (aj (us:=[iV a1.Has,iV a1.Attrs,iV a1.Value.Kind,iV a1.Value.N,.string a1.Value.S,iV a1.Get.Kind,iV a1.Get.N,.string a1.Get.S,iV a1.Set.Kind,iV a1.Set.N,.string a1.Set.S]) 0 J J cH J) ?_;obtain ⟨y10,hy10,h⟩:=aa h;refine gD (ag (bK hy10) fj J (ac) bv) ?_;rintro _ _ ⟨_,⟨rfl,rfl⟩,rfl⟩;refine I ?_;obtain ⟨b11,hb11,h⟩:=aa h;refine aC 11 43 b11 ?_ ?_
  ·clear h;refine ay 32 J (fun g11=> ?_) (fun g11=> ?_)
   ·have h:=ad g11 hb11;refine I ?_;obtain rfl:=ak h;exact ab sA (cS [0,1] 2)
   have h:=ae g11 hb11;refine bi (aj (us:=[iV a1.Has,iV a1.Attrs,iV a1.Value.Kind,iV a1.Value.N,.string a1.Value.S,iV a1.Get.Kind,iV a1.Get.N,.string a1.Get.S,iV a1.Set.Kind,iV a1.Set.N,.string a1.Set.S]) 0 J J cH J) J (cq g11 J) J ?_;obtain ⟨y12,hy12,h⟩:=aa h;refine bF (ag (bK hy12) fj J (ac) bv) J (cq g11 J) J ?_;rintro _ _ ⟨_,⟨rfl,rfl⟩,rfl⟩;refine I ?_;obtain ⟨b13,hb13,h⟩:=aa h;refine aC 7 42 b13 ?_ ?_
   ·clear h;refine ay 35 J (fun g13=> ?_) (fun g13=> ?_)
    ·have h:=ad g13 hb13;refine I ?_;refine bi (aj (us:=[iV a1.Get.Kind,iV a1.Get.N,.string a1.Get.S]) 0 J J aJ J) J (aS g13 J) J ?_;refine I ?_;refine bi (aj (us:=[iV a0.Get.Kind,iV a0.Get.N,.string a0.Get.S]) 1 J J aJ J) J (aS g13 J) J ?_;obtain ⟨y14,hy14,h⟩:=aa h;refine bF (ag (jO hy14) sv J (ac) ir) J (aS g13 J) J ?_;rintro _ _ ⟨_,⟨rfl,rfl⟩,rfl⟩;refine I ?_;obtain rfl:=ak h;exact ab sA (cS [0,1] 2)
    have h:=ae g13 hb13;refine I ?_;obtain rfl:=ak h;exact ab sA (cS [0,1] 2)
   refine I ?_;obtain rfl:=ak h;exact ab sA (cS [0,1] 2)
  refine I ?_;obtain ⟨b15,hb15,h⟩:=aa h;refine aC 11 55 b15 ?_ ?_
  ·clear h;refine ay 44 J (fun g15=> ?_) (fun g15=> ?_)
   ·have h:=ad g15 hb15;refine I ?_;obtain rfl:=ak h;exact ab sA (cS [0,1] 2)
   have h:=ae g15 hb15;refine bi (aj (us:=[iV a1.Has,iV a1.Attrs,iV a1.Value.Kind,iV a1.Value.N,.string a1.Value.S,iV a1.Get.Kind,iV a1.Get.N,.string a1.Get.S,iV a1.Set.Kind,iV a1.Set.N,.string a1.Set.S]) 0 J J cH J) J (cq g15 J) J ?_;obtain ⟨y16,hy16,h⟩:=aa h;refine bF (ag (bK hy16) fj J (ac) bv) J (cq g15 J) J ?_;rintro _ _ ⟨_,⟨rfl,rfl⟩,rfl⟩;refine I ?_;obtain ⟨b17,hb17,h⟩:=aa h;refine aC 7 54 b17 ?_ ?_
   ·clear h;refine ay 47 J (fun g17=> ?_) (fun g17=> ?_)
    ·have h:=ad g17 hb17;refine I ?_;refine bi (aj (us:=[iV a1.Set.Kind,iV a1.Set.N,.string a1.Set.S]) 0 J J aJ J) J (aS g17 J) J ?_;refine I ?_;refine bi (aj (us:=[iV a0.Set.Kind,iV a0.Set.N,.string a0.Set.S]) 1 J J aJ J) J (aS g17 J) J ?_;obtain ⟨y18,hy18,h⟩:=aa h;refine bF (ag (jO hy18) sv J (ac) ir) J (aS g17 J) J ?_;rintro _ _ ⟨_,⟨rfl,rfl⟩,rfl⟩;refine I ?_;obtain rfl:=ak h;exact ab sA (cS [0,1] 2)
    have h:=ae g17 hb17;refine I ?_;obtain rfl:=ak h;exact ab sA (cS [0,1] 2)
   refine I ?_;obtain rfl:=ak h;exact ab sA (cS [0,1] 2)
  refine I ?_;obtain rfl:=ak h;exact aE J J (cS [] 2) ⟨J,J⟩
 replace h:=ae g9 h;refine I ?_;refine aw ?_;refine I ?_;refine gR (aj (us:=[iV a1.Has,iV a1.Attrs,iV a1.Value.Kind,iV a1.Value.N,.string a1.Value.S,iV a1.Get.Kind,iV a1.Get.N,.string a1.Get.S,iV a1.Set.Kind,iV a1.Set.N,.string a1.Set.S]) 0 J J cH J) ?_;obtain ⟨y19,hy19,h⟩:=aa h;refine gD (ag (bK hy19) fj J (ac) bv) ?_;rintro _ _ ⟨_,⟨rfl,rfl⟩,rfl⟩;refine I ?_;refine ap J (fun g20=> ?_) (fun g20=> ?_)
 ·replace h:=ad g20 h;refine I ?_;obtain rfl:=ak h;exact aE J J (cS [] 2) ⟨J,J⟩
 replace h:=ae g20 h;refine I ?_;refine gE (bM J J) ?_;refine I ?_;obtain ⟨b21,hb21,h⟩:=aa h;refine aC 21 83 b21 ?_ ?_
 ·clear h;refine ay 62 J (fun g21=> ?_) (fun g21=> ?_)
  ·have h:=ad g21 hb21;refine bi (aj (us:=[iV a1.Has,iV a1.Attrs,iV a1.Value.Kind,iV a1.Value.N,.string a1.Value.S,iV a1.Get.Kind,iV a1.Get.N,.string a1.Get.S,iV a1.Set.Kind,iV a1.Set.N,.string a1.Set.S]) 0 J J cH J) J (aS g21 J) J ?_;obtain ⟨y22,hy22,h⟩:=aa h;refine bF (ag (bK hy22) fj J (ac) bv) J (aS g21 J) J ?_;rintro _ _ ⟨_,⟨rfl,rfl⟩,rfl⟩;refine I ?_;obtain ⟨b23,hb23,h⟩:=aa h;refine aC 5 70 b23 ?_ ?_
   ·clear h;refine ay 65 J (fun g23=> ?_) (fun g23=> ?_)
    ·have h:=ad g23 hb23;refine I ?_;refine fG (bM J J) J (aS g23 J) J ?_;refine I ?_;obtain rfl:=ak h;exact ab sA (cS [0,1] 2)
    have h:=ae g23 hb23;refine I ?_;obtain rfl:=ak h;exact ab sA (cS [0,1] 2)
   refine I ?_;obtain ⟨b24,hb24,h⟩:=aa h;refine aC 11 82 b24 ?_ ?_
   ·clear h;refine ay 71 J (fun g24=> ?_) (fun g24=> ?_)
    ·have h:=ad g24 hb24;refine I ?_;obtain rfl:=ak h;exact ab sA (cS [0,1] 2)
    have h:=ae g24 hb24;refine bi (aj (us:=[iV a1.Has,iV a1.Attrs,iV a1.Value.Kind,iV a1.Value.N,.string a1.Value.S,iV a1.Get.Kind,iV a1.Get.N,.string a1.Get.S,iV a1.Set.Kind,iV a1.Set.N,.string a1.Set.S]) 0 J J cH J) J (cq g24 J) J ?_;obtain ⟨y25,hy25,h⟩:=aa h;refine bF (ag (bK hy25) fj J (ac) bv) J (cq g24 J) J ?_;rintro _ _ ⟨_,⟨rfl,rfl⟩,rfl⟩;refine I ?_;obtain ⟨b26,hb26,h⟩:=aa h;refine aC 7 81 b26 ?_ ?_
    ·clear h;refine ay 74 J (fun g26=> ?_) (fun g26=> ?_)
     ·have h:=ad g26 hb26;refine I ?_;refine bi (aj (us:=[iV a1.Value.Kind,iV a1.Value.N,.string a1.Value.S]) 0 J J aJ J) J (aS g26 J) J ?_;refine I ?_;refine bi (aj (us:=[iV a0.Value.Kind,iV a0.Value.N,.string a0.Value.S]) 1 J J aJ J) J (aS g26 J) J ?_;obtain ⟨y27,hy27,h⟩:=aa h;refine bF (ag (jO hy27) sv J (ac) ir) J (aS g26 J) J ?_;rintro _ _ ⟨_,⟨rfl,rfl⟩,rfl⟩;refine I ?_;obtain rfl:=ak h;exact ab sA (cS [0,1] 2)
     have h:=ae g26 hb26;refine I ?_;obtain rfl:=ak h;exact ab sA (cS [0,1] 2)
    refine I ?_;obtain rfl:=ak h;exact ab sA (cS [0,1] 2)
   refine I ?_;obtain rfl:=ak h;exact ab sA (cS [0,1] 2)
  have h:=ae g21 hb21;refine I ?_;obtain rfl:=ak h;exact ab sA (cS [0,1] 2)
 refine I ?_;obtain rfl:=ak h;exact aE J J (cS [] 2) ⟨J,J⟩
theorem pQ {r:Bool}: ∀v post,((fun (u:Value) (post:List Chunk)=>u=.bool r∧post=[])) v post→ ∀c∈post,bL c:=by
 rintro _ _ ⟨rfl,rfl⟩;exact ac
def nI (N:Nat)(a0:Ax)(a1:Bool)(a2:Bool)(a3:Au)(a4:AC):Option (Ax×Bool):=
 bif !a1 then (bif !a2 then (some ((⟨(⟨0,0,⟨#[]⟩⟩:Au),0,(⟨0,0,⟨#[]⟩⟩:AA),(⟨0,0,⟨#[]⟩⟩:AA),(⟨0,0,⟨#[]⟩⟩:AA)⟩:Ax),false)) else ((oM N a4 a3).bind fun y7=>some (y7,true))) else ((bif decide (be .i64 a0.Attrs 4=0) then ((oL N a0 a4).bind fun y9=>some y9) else (some false)).bind fun b8=>bif b8 then (some ((⟨(⟨0,0,⟨#[]⟩⟩:Au),0,(⟨0,0,⟨#[]⟩⟩:AA),(⟨0,0,⟨#[]⟩⟩:AA),(⟨0,0,⟨#[]⟩⟩:AA)⟩:Ax),false)) else ((jL N a0 a3 a4).bind fun y11=>some (y11,true)))
theorem qo {N:Nat}{a0:Ax}{a1:Bool}{a2:Bool}{a3:Au}{a4:AC}{r:(Ax×Bool)}(h:nI N a0 a1 a2 a3 a4=some r):Okc Tryz.prog 53 [.agg #[iV a0.Key.Kind,iV a0.Key.N,.string a0.Key.S,iV a0.Attrs,iV a0.Value.Kind,iV a0.Value.N,.string a0.Value.S,iV a0.Get.Kind,iV a0.Get.N,.string a0.Get.S,iV a0.Set.Kind,iV a0.Set.N,.string a0.Set.S],.bool a1,.bool a2,.agg #[iV a3.Kind,iV a3.N,.string a3.S],.agg #[iV a4.Has,iV a4.Attrs,iV a4.Value.Kind,iV a4.Value.N,.string a4.Value.S,iV a4.Get.Kind,iV a4.Get.N,.string a4.Get.S,iV a4.Set.Kind,iV a4.Set.N,.string a4.Set.S]] ([]) (fun u post=>u=.tuple #[.agg #[iV r.1.Key.Kind,iV r.1.Key.N,.string r.1.Key.S,iV r.1.Attrs,iV r.1.Value.Kind,iV r.1.Value.N,.string r.1.Value.S,iV r.1.Get.Kind,iV r.1.Get.N,.string r.1.Get.S,iV r.1.Set.Kind,iV r.1.Set.N,.string r.1.Set.S],.bool r.2]∧post=[]):=by
 refine bh Tryz.func53 J J ?_;simp only [aL];refine I ?_;refine gD (aI J J) ?_;rintro _ _ ⟨B1,rfl,rfl⟩;refine gD (aI J J) ?_;rintro _ _ ⟨B2,rfl,rfl⟩;refine gD (aI J J) ?_;rintro _ _ ⟨B3,rfl,rfl⟩;refine gD (aP eS J) ?_;rintro _ _ ⟨B4,rfl,rfl⟩;refine I ?_;refine aw ?_;refine I ?_;refine ap J (fun g5=> ?_) (fun g5=> ?_)
 ·replace h:=ad g5 h;refine aw ?_;refine I ?_;refine ap J (fun g6=> ?_) (fun g6=> ?_)
  ·replace h:=ad g6 h;refine I ?_;refine gE (aN J (jD)) ?_;refine gO (ar (us:=[iV 0,iV 0,.string (⟨#[]⟩),iV 0,iV 0,iV 0,.string (⟨#[]⟩),iV 0,iV 0,.string (⟨#[]⟩),iV 0,iV 0,.string (⟨#[]⟩)]) (cs':=[iV 0,iV 0,.string (⟨#[]⟩),iV 0,iV 0,iV 0,.string (⟨#[]⟩),iV 0,iV 0,.string (⟨#[]⟩),iV 0,iV 0,.string (⟨#[]⟩)]) 0 J J J J da J J J) ?_;rintro _ _ rfl;refine I ?_;obtain rfl:=ak h;exact ca (rs:=[.cell 10 52,.tmp 11]) (vs:=[.agg #[iV 0,iV 0,.string (⟨#[]⟩),iV 0,iV 0,iV 0,.string (⟨#[]⟩),iV 0,iV 0,.string (⟨#[]⟩),iV 0,iV 0,.string (⟨#[]⟩)],.bool false]) J (.cons (bq 0 J J dQ) (.cons (dp J) .nil)) J (cS [] 4) ⟨J,J⟩
  replace h:=ae g6 h;refine I ?_;refine gR (aj (us:=[iV a4.Has,iV a4.Attrs,iV a4.Value.Kind,iV a4.Value.N,.string a4.Value.S,iV a4.Get.Kind,iV a4.Get.N,.string a4.Get.S,iV a4.Set.Kind,iV a4.Set.N,.string a4.Set.S]) 1 J J cH J) ?_;refine gR (aj (us:=[iV a3.Kind,iV a3.N,.string a3.S]) 2 J J ci J) ?_;obtain ⟨y7,hy7,h⟩:=aa h;refine gD (ag (rg hy7) yj J (ac) pR) ?_;rintro _ _ ⟨_,⟨rfl,rfl⟩,rfl⟩;refine gO (ar (us:=[iV y7.Key.Kind,iV y7.Key.N,.string y7.Key.S,iV y7.Attrs,iV y7.Value.Kind,iV y7.Value.N,.string y7.Value.S,iV y7.Get.Kind,iV y7.Get.N,.string y7.Get.S,iV y7.Set.Kind,iV y7.Set.N,.string y7.Set.S]) (cs':=[iV y7.Key.Kind,iV y7.Key.N,.string y7.Key.S,iV y7.Attrs,iV y7.Value.Kind,iV y7.Value.N,.string y7.Value.S,iV y7.Get.Kind,iV y7.Get.N,.string y7.Get.S,iV y7.Set.Kind,iV y7.Set.N,.string y7.Set.S]) 0 J J J J da J J J) ?_;rintro _ _ rfl;refine I ?_;obtain rfl:=ak h;exact ca (rs:=[.cell 10 52,.tmp 11]) (vs:=[.agg #[iV y7.Key.Kind,iV y7.Key.N,.string y7.Key.S,iV y7.Attrs,iV y7.Value.Kind,iV y7.Value.N,.string y7.Value.S,iV y7.Get.Kind,iV y7.Get.N,.string y7.Get.S,iV y7.Set.Kind,iV y7.Set.N,.string y7.Set.S],.bool true]) J (.cons (bq 0 J J dQ) (.cons (dp J) .nil)) J (cS [] 4) ⟨J,J⟩
 replace h:=ae g5 h;refine I ?_;refine aw ?_;refine I ?_;refine gE (bM J J) ?_;refine I ?_;obtain ⟨b8,hb8,h⟩:=aa h;refine aC 4 28 b8 ?_ ?_
 ·clear h;refine ay 24 J (fun g8=> ?_) (fun g8=> ?_)
  ·have h:=ad g8 hb8;refine bi (aj (us:=[iV a0.Key.Kind,iV a0.Key.N,.string a0.Key.S,iV a0.Attrs,iV a0.Value.Kind,iV a0.Value.N,.string a0.Value.S,iV a0.Get.Kind,iV a0.Get.N,.string a0.Get.S,iV a0.Set.Kind,iV a0.Set.N,.string a0.Set.S]) 3 J J dQ J) J (aS g8 J) J ?_;refine bi (aj (us:=[iV a4.Has,iV a4.Attrs,iV a4.Value.Kind,iV a4.Value.N,.string a4.Value.S,iV a4.Get.Kind,iV a4.Get.N,.string a4.Get.S,iV a4.Set.Kind,iV a4.Set.N,.string a4.Set.S]) 1 J J cH J) J (aS g8 J) J ?_;obtain ⟨y9,hy9,h⟩:=aa h;refine bF (ag (rf hy9) yi J (ac) pQ) J (aS g8 J) J ?_;rintro _ _ ⟨_,⟨rfl,rfl⟩,rfl⟩;refine I ?_;obtain rfl:=ak h;exact ab sA (cS [0,1,2,3] 4)
  have h:=ae g8 hb8;refine I ?_;obtain rfl:=ak h;exact ab sA (cS [0,1,2,3] 4)
 refine I ?_;refine ap J (fun g10=> ?_) (fun g10=> ?_)
 ·replace h:=ad g10 h;refine I ?_;refine gE (aN J (jD)) ?_;refine gO (ar (us:=[iV 0,iV 0,.string (⟨#[]⟩),iV 0,iV 0,iV 0,.string (⟨#[]⟩),iV 0,iV 0,.string (⟨#[]⟩),iV 0,iV 0,.string (⟨#[]⟩)]) (cs':=[iV 0,iV 0,.string (⟨#[]⟩),iV 0,iV 0,iV 0,.string (⟨#[]⟩),iV 0,iV 0,.string (⟨#[]⟩),iV 0,iV 0,.string (⟨#[]⟩)]) 0 J J J J da J J J) ?_;rintro _ _ rfl;refine bJ ?_;refine I ?_;obtain rfl:=ak h;exact ca (rs:=[.cell 10 52,.tmp 11]) (vs:=[.agg #[iV 0,iV 0,.string (⟨#[]⟩),iV 0,iV 0,iV 0,.string (⟨#[]⟩),iV 0,iV 0,.string (⟨#[]⟩),iV 0,iV 0,.string (⟨#[]⟩)],.bool false]) J (.cons (bq 0 J J dQ) (.cons (dp J) .nil)) J (cS [] 4) ⟨J,J⟩
 replace h:=ae g10 h;refine I ?_;refine gR (aj (us:=[iV a0.Key.Kind,iV a0.Key.N,.string a0.Key.S,iV a0.Attrs,iV a0.Value.Kind,iV a0.Value.N,.string a0.Value.S,iV a0.Get.Kind,iV a0.Get.N,.string a0.Get.S,iV a0.Set.Kind,iV a0.Set.N,.string a0.Set.S]) 3 J J dQ J) ?_;refine gR (aj (us:=[iV a3.Kind,iV a3.N,.string a3.S]) 2 J J ci J) ?_;refine gR (aj (us:=[iV a4.Has,iV a4.Attrs,iV a4.Value.Kind,iV a4.Value.N,.string a4.Value.S,iV a4.Get.Kind,iV a4.Get.N,.string a4.Get.S,iV a4.Set.Kind,iV a4.Set.N,.string a4.Set.S]) 1 J J cH J) ?_;obtain ⟨y11,hy11,h⟩:=aa h;refine gD (ag (lB hy11) vc J (ac) kg) ?_;rintro _ _ ⟨_,⟨rfl,rfl⟩,rfl⟩;refine gO (ar (us:=[iV y11.Key.Kind,iV y11.Key.N,.string y11.Key.S,iV y11.Attrs,iV y11.Value.Kind,iV y11.Value.N,.string y11.Value.S,iV y11.Get.Kind,iV y11.Get.N,.string y11.Get.S,iV y11.Set.Kind,iV y11.Set.N,.string y11.Set.S]) (cs':=[iV y11.Key.Kind,iV y11.Key.N,.string y11.Key.S,iV y11.Attrs,iV y11.Value.Kind,iV y11.Value.N,.string y11.Value.S,iV y11.Get.Kind,iV y11.Get.N,.string y11.Get.S,iV y11.Set.Kind,iV y11.Set.N,.string y11.Set.S]) 0 J J J J da J J J) ?_;rintro _ _ rfl;refine I ?_;obtain rfl:=ak h
 exact ca (rs:=[.cell 10 52,.tmp 11]) (vs:=[.agg #[iV y11.Key.Kind,iV y11.Key.N,.string y11.Key.S,iV y11.Attrs,iV y11.Value.Kind,iV y11.Value.N,.string y11.Value.S,iV y11.Get.Kind,iV y11.Get.N,.string y11.Get.S,iV y11.Set.Kind,iV y11.Set.N,.string y11.Set.S],.bool true]) J (.cons (bq 0 J J dQ) (.cons (dp J) .nil)) J (cS [] 4) ⟨J,J⟩
theorem o1 {r:(Ax×Bool)}: ∀v post,((fun (u:Value) (post:List Chunk)=>u=.tuple #[.agg #[iV r.1.Key.Kind,iV r.1.Key.N,.string r.1.Key.S,iV r.1.Attrs,iV r.1.Value.Kind,iV r.1.Value.N,.string r.1.Value.S,iV r.1.Get.Kind,iV r.1.Get.N,.string r.1.Get.S,iV r.1.Set.Kind,iV r.1.Set.N,.string r.1.Set.S],.bool r.2]∧post=[])) v post→ ∀c∈post,bL c:=by
 rintro _ _ ⟨rfl,rfl⟩;exact ac
def fo (N:Nat)(a0:AE)(a1:AA)(a2:Au)(a3:AC):Option (Bool×AE):=
 (bB N a0 a1).bind fun y18=>qf y18 (fun y18_0=>some (false,a0)) (fun y18_1=>(gY N a2).bind fun y36=>bif !y36 then (some (false,a0)) else ((dr N (⟨y18_1.Cell,a0,y18_1.at_⟩:AB) a2).bind fun y38=>(nI N y38.1 y38.2.2 (!decide (be .i64 y18_1.Cell.Flags 1=0)) a2 a3).bind fun y40=>bif y40.2 then ((fE N (⟨y18_1.Cell,a0,y18_1.at_⟩:AB) y40.1).bind fun y44=>some (y44.1,y44.2.w_)) else (some (false,a0))))
theorem kb {N:Nat}{a0:AE}{a1:AA}{a2:Au}{a3:AC}{r:(Bool×AE)}(h:fo N a0 a1 a2 a3=some r):Okc Tryz.prog 20 [pV B1 0,.agg #[iV a1.Kind,iV a1.N,.string a1.S],.agg #[iV a2.Kind,iV a2.N,.string a2.S],.agg #[iV a3.Has,iV a3.Attrs,iV a3.Value.Kind,iV a3.Value.N,.string a3.Value.S,iV a3.Get.Kind,iV a3.Get.N,.string a3.Get.S,iV a3.Set.Kind,iV a3.Set.N,.string a3.Set.S]] ([bp A12 n12 c12 a0.symbols_,cU A13 n13 c13 a0.events_,bp A14 n14 c14 a0.out_,al B1 73 [iV a0.spent_.steps_,iV a0.spent_.made_,iV a0.spent_.calls_,iV a0.config_.Way,iV a0.config_.Steps,iV a0.config_.Calls,iV a0.config_.Made,iV a0.config_.Young,iV a0.config_.Full,iV a0.config_.Sites,.nilIface,pV B2 0,pV B9 0,Y A12 n12 c12,iV a0.epoch_,iV a0.serial_,iV a0.sleepers_,Y A13 n13 c13,Y A14 n14 c14],al B2 99 [Y A3 n3 c3,Y A4 n4 c4,Y A5 n5 c5,Y A6 n6 c6,pV B7 0],bD A3 n3 c3 a0.heap_.m_.Young,bD A4 n4 c4 a0.heap_.m_.Old,aX A5 n5 c5 a0.heap_.roots_,aX A6 n6 c6 a0.heap_.pending_,al B7 143 [.map (some M8)],aK cW cY M8 a0.heap_.set_.at_,al B9 118 [Y A10 n10 c10,.map (some M11)],dx A10 n10 c10 a0.shapes_.shapes_,aK aH cV M11 a0.shapes_.next_]) (fun u post=> ∃A0 n0 c0 A1 n1 c1 A2 n2 c2 A3 n3 c3 M4 A5 n5 c5 M6 A7 n7 c7 A8 n8 c8 A9 n9 c9,u=.bool r.1∧post=[al B1 73 [iV r.2.spent_.steps_,iV r.2.spent_.made_,iV r.2.spent_.calls_,iV r.2.config_.Way,iV r.2.config_.Steps,iV r.2.config_.Calls,iV r.2.config_.Made,iV r.2.config_.Young,iV r.2.config_.Full,iV r.2.config_.Sites,.nilIface,pV B2 0,pV B9 0,Y A7 n7 c7,iV r.2.epoch_,iV r.2.serial_,iV r.2.sleepers_,Y A8 n8 c8,Y A9 n9 c9],al B2 99 [Y A0 n0 c0,Y A1 n1 c1,Y A2 n2 c2,Y A3 n3 c3,pV B7 0],bD A0 n0 c0 r.2.heap_.m_.Young,bD A1 n1 c1 r.2.heap_.m_.Old,aX A2 n2 c2 r.2.heap_.roots_,aX A3 n3 c3 r.2.heap_.pending_,al B7 143 [.map (some M4)],aK cW cY M4 r.2.heap_.set_.at_,al B9 118 [Y A5 n5 c5,.map (some M6)],dx A5 n5 c5 r.2.shapes_.shapes_,aK aH cV M6 r.2.shapes_.next_,bp A7 n7 c7 r.2.symbols_,cU A8 n8 c8 r.2.events_,bp A9 n9 c9 r.2.out_]):=by
 refine bh Tryz.func20 J J ?_;simp only [aL];refine I ?_;refine gD (aI J J) ?_;rintro _ _ ⟨B15,rfl,rfl⟩;refine gD (aI J J) ?_;rintro _ _ ⟨B16,rfl,rfl⟩;refine gD (aI J J) ?_;rintro _ _ ⟨B17,rfl,rfl⟩;refine I ?_;refine gR (aj (us:=[iV a1.Kind,iV a1.N,.string a1.S]) 2 J J aJ J) ?_;obtain ⟨y18,hy18,h⟩:=aa h;rcases y18 with y18_0|y18_1
 ·replace h:=rD h;refine gD (aB (aU hy18) cX J (az [3,4,5] [6,7,8,9,10,11,12,13,14,15,16] [0,1,2,3,4,5] 17 J)) ?_;rintro _ _ ⟨_,⟨rfl,rfl⟩,rfl⟩;refine I ?_;refine aw ?_;refine I ?_;refine cD J ?_;refine I ?_;obtain rfl:=ak h;exact aE J J (cS [0,1,2,3,4,5,6,7,8,9,10,14,15,16] 17) ⟨_,_,_,_,_,_,_,_,_,_,_,_,_,_,_,_,_,_,_,_,_,_,_,_,_,_,J,J⟩
 replace h:=rC h;refine gD (aB (aU hy18) cX J (az [3,4,5] [6,7,8,9,10,11,12,13,14,15,16] [0,1,2,3,4,5] 17 J)) ?_;rintro _ _ ⟨_,⟨B19,A20,n20,c20,A21,n21,c21,rfl,rfl⟩,rfl⟩;refine I ?_;refine aw ?_;refine I ?_;refine gR (aj (us:=[iV a2.Kind,iV a2.N,.string a2.S]) 15 J J ci J) ?_;obtain ⟨y36,hy36,h⟩:=aa h;refine gD (ag (iL hy36) rk J (ac) f0) ?_;rintro _ _ ⟨_,⟨rfl,rfl⟩,rfl⟩;refine I ?_;refine ap J (fun g37=> ?_) (fun g37=> ?_)
 ·replace h:=ad g37 h;refine I ?_;obtain rfl:=ak h;exact aE J J (cS [3,4,5,6,7,8,9,10,11,12,13,17,18,19] 20) ⟨_,_,_,_,_,_,_,_,_,_,_,_,_,_,_,_,_,_,_,_,_,_,_,_,_,_,J,J⟩
 replace h:=ae g37 h;refine I ?_;refine gR (aj (us:=[iV a2.Kind,iV a2.N,.string a2.S]) 15 J J ci J) ?_;obtain ⟨y38,hy38,h⟩:=aa h;refine gD (ag (dH hy38) rl J (hD (au (i:=0) J) (hD (ah (i:=1) J) (hD (ah (i:=2) J) (hD (au (i:=3) J) (hD (au (i:=4) J) (hD (ah (i:=5) J) (hD (ah (i:=6) J) (hD (ah (i:=7) J) (hD (ah (i:=8) J) (hD (au (i:=9) J) (hD (aM (i:=10) J) (hD (au (i:=11) J) (hD (ah (i:=12) J) (hD (aM (i:=13) J) (hD (ai (i:=17) J J) (hD (ai (i:=18) J J) (hD (ai (i:=19) J J) ac))))))))))))))))) dv) ?_;rintro _ _ ⟨_,⟨rfl,rfl⟩,rfl⟩;refine I ?_;refine gD (aP eS J) ?_;rintro _ _ ⟨B39,rfl,rfl⟩;refine gO (ar (us:=[iV y38.1.Key.Kind,iV y38.1.Key.N,.string y38.1.Key.S,iV y38.1.Attrs,iV y38.1.Value.Kind,iV y38.1.Value.N,.string y38.1.Value.S,iV y38.1.Get.Kind,iV y38.1.Get.N,.string y38.1.Get.S,iV y38.1.Set.Kind,iV y38.1.Set.N,.string y38.1.Set.S]) (cs':=[iV y38.1.Key.Kind,iV y38.1.Key.N,.string y38.1.Key.S,iV y38.1.Attrs,iV y38.1.Value.Kind,iV y38.1.Value.N,.string y38.1.Value.S,iV y38.1.Get.Kind,iV y38.1.Get.N,.string y38.1.Get.S,iV y38.1.Set.Kind,iV y38.1.Set.N,.string y38.1.Set.S]) 0 J J J J da J J J) ?_;rintro _ _ rfl;refine bJ ?_;refine I ?_;refine aw ?_;obtain ⟨y40,hy40,h⟩:=aa h;refine jl (t:=[(6,pV B16 0),(7,pV B17 0),(8,.bool false),(9,pV B19 0),(10,.bool true),(11,pV B39 0),(13,.bool y38.2.2)]) ?_ me (am _)
 refine jF V 16 [14] [13,14,15] [36,37,38,39,40,41,42,43,44,45,46,47,35,48,49,14] [[],[],[],[2],[3],[4],[5],[6],[7],[],[],[0,1,8,9,10],[11],[12],[12],[]] [aV (.agg #[iV y38.1.Key.Kind,iV y38.1.Key.N,.string y38.1.Key.S,iV y38.1.Attrs,iV y38.1.Value.Kind,iV y38.1.Value.N,.string y38.1.Value.S,iV y38.1.Get.Kind,iV y38.1.Get.N,.string y38.1.Get.S,iV y38.1.Set.Kind,iV y38.1.Set.N,.string y38.1.Set.S]),
aV (.bool y38.2.2),
aV (pV B19 0),
aV (pV B19 0),
aV (pV B19 0),
aV (pV B19 2),
aV (iV y18_1.Cell.Flags),
aV (iV (be .i64 y18_1.Cell.Flags 1)),
aV (.bool (!decide (be .i64 y18_1.Cell.Flags 1=0))),
aV (.agg #[iV a2.Kind,iV a2.N,.string a2.S]),
aV (.agg #[iV a3.Has,iV a3.Attrs,iV a3.Value.Kind,iV a3.Value.N,.string a3.Value.S,iV a3.Get.Kind,iV a3.Get.N,.string a3.Get.S,iV a3.Set.Kind,iV a3.Set.N,.string a3.Set.S]),
aV (.tuple #[.agg #[iV y40.1.Key.Kind,iV y40.1.Key.N,.string y40.1.Key.S,iV y40.1.Attrs,iV y40.1.Value.Kind,iV y40.1.Value.N,.string y40.1.Value.S,iV y40.1.Get.Kind,iV y40.1.Get.N,.string y40.1.Get.S,iV y40.1.Set.Kind,iV y40.1.Set.N,.string y40.1.Set.S],.bool y40.2]),
aV (.tuple #[.agg #[iV y40.1.Key.Kind,iV y40.1.Key.N,.string y40.1.Key.S,iV y40.1.Attrs,iV y40.1.Value.Kind,iV y40.1.Value.N,.string y40.1.Value.S,iV y40.1.Get.Kind,iV y40.1.Get.N,.string y40.1.Get.S,iV y40.1.Set.Kind,iV y40.1.Set.N,.string y40.1.Set.S],.bool y40.2]),
aV (.agg #[iV y40.1.Key.Kind,iV y40.1.Key.N,.string y40.1.Key.S,iV y40.1.Attrs,iV y40.1.Value.Kind,iV y40.1.Value.N,.string y40.1.Value.S,iV y40.1.Get.Kind,iV y40.1.Get.N,.string y40.1.Get.S,iV y40.1.Set.Kind,iV y40.1.Set.N,.string y40.1.Set.S]),
aV (.bool y40.2),
aX1 (fun (B42:Nat)=>pV B42 0) (fun B42=> [al B42 52 [iV 0,iV 0,.string (⟨#[]⟩),iV 0,iV 0,iV 0,.string (⟨#[]⟩),iV 0,iV 0,.string (⟨#[]⟩),iV 0,iV 0,.string (⟨#[]⟩)]])] [] (am _) (ju rfl lr) V rfl rfl ?_ ?_ ?_
 ·refine jt J ?_ ?_
  ·exact oP (br J J) J (bC J (am _))
  exact lq
 ·refine aq J ?_ ?_
  ·refine pZ (aP eS J) J ?_;rintro _ _ ⟨B41,rfl,rfl⟩;exact zd B41 (am _)
  refine aq J ?_ ?_
  ·exact cI (br J J) J (bC J (am _))
  refine aq J ?_ ?_
  ·exact cI (br J J) J (bC J (am _))
  refine aq J ?_ ?_
  ·exact cI (av J) J (bC J (am _))
  refine aq J ?_ ?_
  ·refine pZ (ag (qo hy40) yq J (ac) o1) J ?_;rintro _ _ ⟨_,⟨rfl,rfl⟩,rfl⟩;exact bC J (am _)
  refine aq J ?_ ?_
  ·exact ib (aj (us:=[iV a3.Has,iV a3.Attrs,iV a3.Value.Kind,iV a3.Value.N,.string a3.Value.S,iV a3.Get.Kind,iV a3.Get.N,.string a3.Get.S,iV a3.Set.Kind,iV a3.Set.N,.string a3.Set.S]) 15 J J cH J) J (bC J (am _))
  refine aq J ?_ ?_
  ·exact ib (aj (us:=[iV a2.Kind,iV a2.N,.string a2.S]) 16 J J ci J) J (bC J (am _))
  refine aq J ?_ ?_
  ·exact cI (xi J J) J (bC J (am _))
  refine aq J ?_ ?_
  ·exact cI (bM J J) J (bC J (am _))
  refine aq J ?_ ?_
  ·exact ib (aR 1 J J dc J) J (bC J (am _))
  refine aq J ?_ ?_
  ·exact cI (bo J tq) J (bC J (am _))
  refine aq J ?_ ?_
  ·exact cI (bS J di) J (bC J (am _))
  refine aq J ?_ ?_
  ·exact cI (aD J) J (bC J (am _))
  refine aq J ?_ ?_
  ·exact cI (av J) J (bC J (am _))
  refine aq J ?_ ?_
  ·exact cI (av J) J (bC J (am _))
  refine aq J ?_ ?_
  ·exact ib (aj (us:=[iV y38.1.Key.Kind,iV y38.1.Key.N,.string y38.1.Key.S,iV y38.1.Attrs,iV y38.1.Value.Kind,iV y38.1.Value.N,.string y38.1.Value.S,iV y38.1.Get.Kind,iV y38.1.Get.N,.string y38.1.Get.S,iV y38.1.Set.Kind,iV y38.1.Set.N,.string y38.1.Set.S]) 0 J J dQ J) J (bC J (am _))
  exact fI
 intro B42
 refine nQ (t:=[(48,.agg #[iV y40.1.Key.Kind,iV y40.1.Key.N,.string y40.1.Key.S,iV y40.1.Attrs,iV y40.1.Value.Kind,iV y40.1.Value.N,.string y40.1.Value.S,iV y40.1.Get.Kind,iV y40.1.Get.N,.string y40.1.Get.S,iV y40.1.Set.Kind,iV y40.1.Set.N,.string y40.1.Set.S]),(49,.bool y40.2),(14,pV B42 0),(6,pV B16 0),(7,pV B17 0),(8,.bool false),(9,pV B19 0),(10,.bool true),(11,pV B39 0),(13,.bool y38.2.2)]) (L':=[al B42 52 [iV 0,iV 0,.string (⟨#[]⟩),iV 0,iV 0,iV 0,.string (⟨#[]⟩),iV 0,iV 0,.string (⟨#[]⟩),iV 0,iV 0,.string (⟨#[]⟩)],al B39 52 [iV y38.1.Key.Kind,iV y38.1.Key.N,.string y38.1.Key.S,iV y38.1.Attrs,iV y38.1.Value.Kind,iV y38.1.Value.N,.string y38.1.Value.S,iV y38.1.Get.Kind,iV y38.1.Get.N,.string y38.1.Get.S,iV y38.1.Set.Kind,iV y38.1.Set.N,.string y38.1.Set.S],al B19 88 [iV y18_1.Cell.Kind,iV y18_1.Cell.Shape,iV y18_1.Cell.Flags,iV y18_1.Cell.Age,Y A20 n20 c20,Y A21 n21 c21,pV B1 0,iV y18_1.at_.Kind,iV y18_1.at_.N,.string y18_1.at_.S],aX A20 n20 c20 y18_1.Cell.Slots,aX A21 n21 c21 y18_1.Cell.More,al B1 73 [iV a0.spent_.steps_,iV a0.spent_.made_,iV a0.spent_.calls_,iV a0.config_.Way,iV a0.config_.Steps,iV a0.config_.Calls,iV a0.config_.Made,iV a0.config_.Young,iV a0.config_.Full,iV a0.config_.Sites,.nilIface,pV B2 0,pV B9 0,Y A12 n12 c12,iV a0.epoch_,iV a0.serial_,iV a0.sleepers_,Y A13 n13 c13,Y A14 n14 c14],al B2 99 [Y A3 n3 c3,Y A4 n4 c4,Y A5 n5 c5,Y A6 n6 c6,pV B7 0],bD A3 n3 c3 a0.heap_.m_.Young,bD A4 n4 c4 a0.heap_.m_.Old,aX A5 n5 c5 a0.heap_.roots_,aX A6 n6 c6 a0.heap_.pending_,al B7 143 [.map (some M8)],aK cW cY M8 a0.heap_.set_.at_,al B9 118 [Y A10 n10 c10,.map (some M11)],dx A10 n10 c10 a0.shapes_.shapes_,aK aH cV M11 a0.shapes_.next_,al B17 46 [iV a3.Has,iV a3.Attrs,iV a3.Value.Kind,iV a3.Value.N,.string a3.Value.S,iV a3.Get.Kind,iV a3.Get.N,.string a3.Get.S,iV a3.Set.Kind,iV a3.Set.N,.string a3.Set.S],al B16 44 [iV a2.Kind,iV a2.N,.string a2.S],al B15 29 [iV a1.Kind,iV a1.N,.string a1.S],bp A12 n12 c12 a0.symbols_,cU A13 n13 c13 a0.events_,bp A14 n14 c14 a0.out_]) ?_ me (am _)
 refine qd 16 J V (ar (us:=[iV y40.1.Key.Kind,iV y40.1.Key.N,.string y40.1.Key.S,iV y40.1.Attrs,iV y40.1.Value.Kind,iV y40.1.Value.N,.string y40.1.Value.S,iV y40.1.Get.Kind,iV y40.1.Get.N,.string y40.1.Get.S,iV y40.1.Set.Kind,iV y40.1.Set.N,.string y40.1.Set.S]) (cs':=[iV y40.1.Key.Kind,iV y40.1.Key.N,.string y40.1.Key.S,iV y40.1.Attrs,iV y40.1.Value.Kind,iV y40.1.Value.N,.string y40.1.Value.S,iV y40.1.Get.Kind,iV y40.1.Get.N,.string y40.1.Get.S,iV y40.1.Set.Kind,iV y40.1.Set.N,.string y40.1.Set.S]) 0 J J J J da J J J) J J ?_;rintro _ _ rfl;refine rA 17 J V (aY J) J J J ?_;refine lK V ?_;refine I ?_;refine ay 51 J (fun g43=> ?_) (fun g43=> ?_)
 ·replace h:=ad g43 h;refine I ?_;refine bi (aj (us:=[iV y40.1.Key.Kind,iV y40.1.Key.N,.string y40.1.Key.S,iV y40.1.Attrs,iV y40.1.Value.Kind,iV y40.1.Value.N,.string y40.1.Value.S,iV y40.1.Get.Kind,iV y40.1.Get.N,.string y40.1.Get.S,iV y40.1.Set.Kind,iV y40.1.Set.N,.string y40.1.Set.S]) 0 J J dQ J) J (aS g43 J) J ?_;obtain ⟨y44,hy44,h⟩:=aa h;refine bF (aB (iG hy44) ve J (az [19,20,21] [2,3,4,5,6,7,8,9,10,11,12,13,14,15] [0,1,16,17,18,19,20,21] 22 J)) J (aS g43 J) J ?_;rintro _ _ ⟨_,⟨A45,n45,c45,A46,n46,c46,A47,n47,c47,A48,n48,c48,A49,n49,c49,A50,n50,c50,M51,A52,n52,c52,M53,A54,n54,c54,A55,n55,c55,A56,n56,c56,rfl,rfl⟩,rfl⟩;refine I ?_;obtain rfl:=ak h;exact aE J J (cS [3,4,5,6,7,8,9,10,11,12,13,14,15,16] 25) ⟨_,_,_,_,_,_,_,_,_,_,_,_,_,_,_,_,_,_,_,_,_,_,_,_,_,_,J,J⟩
 replace h:=ae g43 h;refine I ?_;obtain rfl:=ak h;exact aE J J (cS [5,6,7,8,9,10,11,12,13,14,15,19,20,21] 22) ⟨_,_,_,_,_,_,_,_,_,_,_,_,_,_,_,_,_,_,_,_,_,_,_,_,_,_,J,J⟩
def iK (N:Nat)(a0:AE)(a1:AA):Option Bool:=
 (bB N a0 a1).bind fun y16=>qf y16 (fun y16_0=>some false) (fun y16_1=>some (!decide (be .i64 y16_1.Cell.Flags 1=0)))
theorem mw {N:Nat}{a0:AE}{a1:AA}{r:Bool}(h:iK N a0 a1=some r):Okc Tryz.prog 12 [pV B1 0,.agg #[iV a1.Kind,iV a1.N,.string a1.S]] ([bp A12 n12 c12 a0.symbols_,cU A13 n13 c13 a0.events_,bp A14 n14 c14 a0.out_,al B1 73 [iV a0.spent_.steps_,iV a0.spent_.made_,iV a0.spent_.calls_,iV a0.config_.Way,iV a0.config_.Steps,iV a0.config_.Calls,iV a0.config_.Made,iV a0.config_.Young,iV a0.config_.Full,iV a0.config_.Sites,.nilIface,pV B2 0,pV B9 0,Y A12 n12 c12,iV a0.epoch_,iV a0.serial_,iV a0.sleepers_,Y A13 n13 c13,Y A14 n14 c14],al B2 99 [Y A3 n3 c3,Y A4 n4 c4,Y A5 n5 c5,Y A6 n6 c6,pV B7 0],bD A3 n3 c3 a0.heap_.m_.Young,bD A4 n4 c4 a0.heap_.m_.Old,aX A5 n5 c5 a0.heap_.roots_,aX A6 n6 c6 a0.heap_.pending_,al B7 143 [.map (some M8)],aK cW cY M8 a0.heap_.set_.at_,al B9 118 [Y A10 n10 c10,.map (some M11)],dx A10 n10 c10 a0.shapes_.shapes_,aK aH cV M11 a0.shapes_.next_]) (fun u post=>u=.bool r∧post=[al B1 73 [iV a0.spent_.steps_,iV a0.spent_.made_,iV a0.spent_.calls_,iV a0.config_.Way,iV a0.config_.Steps,iV a0.config_.Calls,iV a0.config_.Made,iV a0.config_.Young,iV a0.config_.Full,iV a0.config_.Sites,.nilIface,pV B2 0,pV B9 0,Y A12 n12 c12,iV a0.epoch_,iV a0.serial_,iV a0.sleepers_,Y A13 n13 c13,Y A14 n14 c14],al B2 99 [Y A3 n3 c3,Y A4 n4 c4,Y A5 n5 c5,Y A6 n6 c6,pV B7 0],bD A3 n3 c3 a0.heap_.m_.Young,bD A4 n4 c4 a0.heap_.m_.Old,aX A5 n5 c5 a0.heap_.roots_,aX A6 n6 c6 a0.heap_.pending_,al B7 143 [.map (some M8)],aK cW cY M8 a0.heap_.set_.at_,al B9 118 [Y A10 n10 c10,.map (some M11)],dx A10 n10 c10 a0.shapes_.shapes_,aK aH cV M11 a0.shapes_.next_]):=by
 refine bh Tryz.func12 J J ?_;simp only [aL];refine I ?_;refine gD (aI J J) ?_;rintro _ _ ⟨B15,rfl,rfl⟩;refine I ?_;refine gR (aj (us:=[iV a1.Kind,iV a1.N,.string a1.S]) 0 J J aJ J) ?_;obtain ⟨y16,hy16,h⟩:=aa h;rcases y16 with y16_0|y16_1
 ·replace h:=rD h;refine gD (aB (aU hy16) cX J (az [1,2,3] [4,5,6,7,8,9,10,11,12,13,14] [0,1,2,3] 15 J)) ?_;rintro _ _ ⟨_,⟨rfl,rfl⟩,rfl⟩;refine I ?_;obtain rfl:=ak h;exact aE J J (cS [0,1,2,3,4,5,6,7,8,9,10] 15) ⟨J,J⟩
 replace h:=rC h;refine gD (aB (aU hy16) cX J (az [1,2,3] [4,5,6,7,8,9,10,11,12,13,14] [0,1,2,3] 15 J)) ?_;rintro _ _ ⟨_,⟨B17,A18,n18,c18,A19,n19,c19,rfl,rfl⟩,rfl⟩;refine I ?_;refine gE (bM J J) ?_;refine I ?_;obtain rfl:=ak h;exact aE J J (cS [3,4,5,6,7,8,9,10,11,12,13] 18) ⟨J,J⟩
def fH (N:Nat):Option Bool:=
 (iS N).bind fun y1=>qf y1 (fun y1_0=>some false) (fun y1_1=>(nr N y1_1 (⟨1,0,⟨#[]⟩⟩:AA) 1).bind fun y16=>(mG N (⟨#[97]⟩:ByteArray)).bind fun y28=>(fV N y16.2.2 y16.1 y28 (⟨3,1,⟨#[]⟩⟩:AA) 7).bind fun y29=>(fV N y29.2 y16.1 (⟨0,5,⟨#[]⟩⟩:Au) (⟨0,0,⟨#[]⟩⟩:AA) 7).bind fun y40=>(gG N y40.2 y16.1).bind fun y51=>(fX N y40.2 y16.1).bind fun y53=>(fY N y40.2 y16.1).bind fun y55=>(mG N (⟨#[98]⟩:ByteArray)).bind fun y66=>(px N (⟨0,0,⟨#[]⟩⟩:AA) 7).bind fun y67=>(fo N y55 y16.1 y66 y67).bind fun y68=>(bif y16.2.1 then (some y29.1) else (some false)).bind fun b79=>(bif b79 then (some y40.1) else (some false)).bind fun b80=>(bif b80 then (some (!y68.1)) else (some false)).bind fun b81=>(bif b81 then (some (decide ((y51.length:Int)=2))) else (some false)).bind fun b82=>(bif b82 then ((cg y51 0).bind fun x84=>some (decide (x84.N=5))) else (some false)).bind fun b83=>(bif b83 then ((cg y51 1).bind fun x86=>some (x86.S.toList==(⟨#[97]⟩:ByteArray).toList)) else (some false)).bind fun b85=>(bif b85 then (some (decide ((y53.length:Int)=2))) else (some false)).bind fun b87=>(bif b87 then ((cg y53 0).bind fun x89=>some (x89.Key.S.toList==(⟨#[97]⟩:ByteArray).toList)) else (some false)).bind fun b88=>(bif b88 then ((cg y53 0).bind fun x91=>some (decide (x91.Value.N=1))) else (some false)).bind fun b90=>(bif b90 then ((iK N y68.2 y16.1).bind fun y93=>some (!y93)) else (some false)).bind fun b92=>some b92)
set_option maxHeartbeats 4000000 in
theorem kn {N:Nat}{r:Bool}(h:fH N=some r):Okc Tryz.prog 9 [] ([]) (fun u post=>u=.bool r∧post=[]):=by
 refine bh Tryz.func9 J J ?_;simp only [aL];refine I ?_;obtain ⟨y1,hy1,h⟩:=aa h;rcases y1 with y1_0|y1_1
 ·replace h:=rD h;refine gD (aB (jp hy1) rn J (az [] [] [] 0 J)) ?_;rintro _ _ ⟨_,⟨rfl,rfl⟩,rfl⟩;refine I ?_;refine aw ?_;refine I ?_;refine gE (cE J hO) ?_;refine I ?_;refine cD J ?_;refine I ?_;obtain rfl:=ak h;exact aE J J (cS [] 0) ⟨J,J⟩
 replace h:=rC h;refine gD (aB (jp hy1) rn J (az [] [] [] 0 J)) ?_;rintro _ _ ⟨_,⟨B2,B3,A4,n4,c4,A5,n5,c5,A6,n6,c6,A7,n7,c7,B8,M9,B10,A11,n11,c11,M12,A13,n13,c13,A14,n14,c14,A15,n15,c15,rfl,rfl⟩,rfl⟩;refine I ?_;refine aw ?_;refine I ?_;refine gE (cE J hO) ?_;refine I ?_;refine du J ?_;refine I ?_;refine gE (aN J (nO _)) ?_;obtain ⟨y16,hy16,h⟩:=aa h;refine gD (aB (ql hy16) ze J (az [11,12,13] [0,1,2,3,4,5,6,7,8,9,10] [11,12,13] 14 J)) ?_;rintro _ _ ⟨_,⟨A17,n17,c17,A18,n18,c18,A19,n19,c19,A20,n20,c20,M21,A22,n22,c22,M23,A24,n24,c24,A25,n25,c25,A26,n26,c26,rfl,rfl⟩,rfl⟩;refine bJ ?_;refine I ?_;refine gD (aP ee J) ?_;rintro _ _ ⟨B27,rfl,rfl⟩;refine gO (ar (us:=[iV y16.1.Kind,iV y16.1.N,.string y16.1.S]) (cs':=[iV y16.1.Kind,iV y16.1.N,.string y16.1.S]) 0 J J J J aT J J J) ?_;rintro _ _ rfl;refine I ?_;refine aw ?_;refine bg V _ (am _) ?_;refine zE 0 J (av J) ?_;refine zR 1 J (aj (us:=[iV y16.1.Kind,iV y16.1.N,.string y16.1.S]) 0 J J aJ J) ?_;refine zE 3 J (aN J (kG _ _)) ?_;obtain ⟨y28,hy28,h⟩:=aa h;refine zD 2 J (ag (ov hy28) vm J (ac) mn) ?_;rintro _ _ ⟨_,⟨rfl,rfl⟩,rfl⟩;refine ⟨_,am _,am _,?_⟩;obtain ⟨y29,hy29,h⟩:=aa h;refine wV 4 J V V (aB (jJ hy29) sK J (az [12,13,14] [1,2,3,4,5,6,7,8,9,10,11] [0,12,13,14,15,16,17] 18 J)) ?_
 rintro _ _ ⟨_,⟨A30,n30,c30,A31,n31,c31,A32,n32,c32,A33,n33,c33,M34,A35,n35,c35,M36,A37,n37,c37,A38,n38,c38,A39,n39,c39,rfl,rfl⟩,rfl⟩;refine bW ?_;refine zE 5 J (aY J) ?_;refine aZ V ?_;refine I ?_;refine gR (aj (us:=[iV y16.1.Kind,iV y16.1.N,.string y16.1.S]) 14 J J aJ J) ?_;refine gE (aN J (vL _)) ?_;refine gE (aN J (dw)) ?_;obtain ⟨y40,hy40,h⟩:=aa h;refine gD (aB (jJ hy40) sK J (az [11,12,13] [0,1,2,3,4,5,6,7,8,9,10] [11,12,13,14,15,16,17,18,19,20] 21 J)) ?_;rintro _ _ ⟨_,⟨A41,n41,c41,A42,n42,c42,A43,n43,c43,A44,n44,c44,M45,A46,n46,c46,M47,A48,n48,c48,A49,n49,c49,A50,n50,c50,rfl,rfl⟩,rfl⟩;refine I ?_;refine aw ?_;refine bg V _ (am _) ?_;refine zE 0 J (av J) ?_;refine zR 1 J (aj (us:=[iV y16.1.Kind,iV y16.1.N,.string y16.1.S]) 17 J J aJ J) ?_;refine zE 3 J (av J) ?_;refine zR 4 J (aj (us:=[iV y16.1.Kind,iV y16.1.N,.string y16.1.S]) 17 J J aJ J) ?_;obtain ⟨y51,hy51,h⟩:=aa h;refine zD 2 J (aB (lu hy51) vC J (az [11,12,13] [0,1,2,3,4,5,6,7,8,9,10] [11,12,13,14,15,16,17,18,19,20,21,22,23] 24 J)) ?_;rintro _ _ ⟨_,⟨A52,n52,c52,rfl,rfl⟩,rfl⟩;refine cv (cS [1,2,3,4,5,6,7,8,9,10,11,12,13,14,15,16,17,18,19,20,21,22,23,24] 25) ?_;refine bW ?_;obtain ⟨y53,hy53,h⟩:=aa h;refine zD 5 J (aB (kP hy53) vu J (az [12,13,14] [1,2,3,4,5,6,7,8,9,10,11] [0,12,13,14,15,16,17,18,19,20,21,22,23,24] 25 J)) ?_;rintro _ _ ⟨_,⟨A54,n54,c54,rfl,rfl⟩,rfl⟩
 refine cv (cS [1,2,3,4,5,6,7,8,9,10,11,13,14,15,16,17,18,19,20,21,22,23,24,25] 26) ?_;refine bW ?_;refine zE 6 J (aY J) ?_;refine zE 7 J (aY J) ?_;refine aZ V ?_;refine I ?_;refine gR (aj (us:=[iV y16.1.Kind,iV y16.1.N,.string y16.1.S]) 19 J J aJ J) ?_;obtain ⟨y55,hy55,h⟩:=aa h;refine gD (aB (kQ hy55) sJ J (az [13,14,15] [1,2,3,4,5,6,7,8,9,10,11] [0,12,13,14,15,16,17,18,19,20,21,22,23,24,25] 26 J)) ?_;rintro _ _ ⟨_,⟨A56,n56,c56,A57,n57,c57,A58,n58,c58,A59,n59,c59,M60,A61,n61,c61,M62,A63,n63,c63,A64,n64,c64,A65,n65,c65,rfl,rfl⟩,rfl⟩;refine bJ ?_;refine I ?_;refine aw ?_;refine bg V ([bp A63 n63 c63 y55.symbols_,cU A64 n64 c64 y55.events_,bp A65 n65 c65 y55.out_,dq ll 52 (Y A54 n54 c54) y53,kk A52 n52 c52 y51,bp A48 n48 c48 y40.2.symbols_,cU A49 n49 c49 y40.2.events_,bp A50 n50 c50 y40.2.out_,bp A37 n37 c37 y29.2.symbols_,cU A38 n38 c38 y29.2.events_,bp A39 n39 c39 y29.2.out_,al B27 29 [iV y16.1.Kind,iV y16.1.N,.string y16.1.S],bp A24 n24 c24 y16.2.2.symbols_,cU A25 n25 c25 y16.2.2.events_,bp A26 n26 c26 y16.2.2.out_,bp A13 n13 c13 y1_1.symbols_,cU A14 n14 c14 y1_1.events_,bp A15 n15 c15 y1_1.out_]) (cS [11,12,13,14,15,16,17,18,19,20,21,22,23,24,25,26,27,28] 29) ?_;refine zE 0 J (av J) ?_;refine zR 1 J (aj (us:=[iV y16.1.Kind,iV y16.1.N,.string y16.1.S]) 11 J J aJ J) ?_;refine zE 3 J (aN J (dw)) ?_;obtain ⟨y66,hy66,h⟩:=aa h;refine zD 2 J (ag (ov hy66) vm J (ac) mn) ?_;rintro _ _ ⟨_,⟨rfl,rfl⟩,rfl⟩
 refine cv (cS [11,12,13,14,15,16,17,18,19,20,21,22,23,24,25,26,27,28] 29) ?_;obtain ⟨y67,hy67,h⟩:=aa h;refine zD 4 J (ag (rM hy67) yv J (ac) qj) ?_;rintro _ _ ⟨_,⟨rfl,rfl⟩,rfl⟩;refine cv (cS [11,12,13,14,15,16,17,18,19,20,21,22,23,24,25,26,27,28] 29) ?_;obtain ⟨y68,hy68,h⟩:=aa h;refine zD 5 J (aB (kb hy68) vv J (az [11,12,13] [0,1,2,3,4,5,6,7,8,9,10] [11,12,13,14,15,16,17,18,19,20,21,22,23,24,25,26,27,28] 29 J)) ?_;rintro _ _ ⟨_,⟨A69,n69,c69,A70,n70,c70,A71,n71,c71,A72,n72,c72,M73,A74,n74,c74,M75,A76,n76,c76,A77,n77,c77,A78,n78,c78,rfl,rfl⟩,rfl⟩;refine ⟨_,cS [11,12,13,14,15,16,17,18,19,20,21,22,23,24,25,26,27,28,29,30,31] 32,(cv_tl).trans ((cv_tl).trans (cv_tl)),?_⟩;refine bW ?_;refine zE 6 J (aY J) ?_;refine aZ V ?_;refine I ?_;obtain ⟨b79,hb79,h⟩:=aa h;refine aC 2 46 b79 ?_ ?_
 ·clear h;refine ay 44 J (fun g79=> ?_) (fun g79=> ?_)
  ·have h:=ad g79 hb79;refine I ?_;obtain rfl:=ak h;exact ab sA (cS [0,1,2,3,4,5,6,7,8,9,10,11,12,13,14,15,16,17,18,19,20,21,22,23,24,25,26,27,28,29,30,31] 32)
  have h:=ae g79 hb79;refine I ?_;obtain rfl:=ak h;exact ab sA (cS [0,1,2,3,4,5,6,7,8,9,10,11,12,13,14,15,16,17,18,19,20,21,22,23,24,25,26,27,28,29,30,31] 32)
 refine I ?_;obtain ⟨b80,hb80,h⟩:=aa h;refine aC 2 49 b80 ?_ ?_
 ·clear h;refine ay 47 J (fun g80=> ?_) (fun g80=> ?_)
  ·have h:=ad g80 hb80;refine I ?_;obtain rfl:=ak h;exact ab sA (cS [0,1,2,3,4,5,6,7,8,9,10,11,12,13,14,15,16,17,18,19,20,21,22,23,24,25,26,27,28,29,30,31] 32)
  have h:=ae g80 hb80;refine I ?_;obtain rfl:=ak h;exact ab sA (cS [0,1,2,3,4,5,6,7,8,9,10,11,12,13,14,15,16,17,18,19,20,21,22,23,24,25,26,27,28,29,30,31] 32)
 refine I ?_;obtain ⟨b81,hb81,h⟩:=aa h;refine aC 3 53 b81 ?_ ?_
 ·clear h;refine ay 50 J (fun g81=> ?_) (fun g81=> ?_)
  ·have h:=ad g81 hb81;refine I ?_;obtain rfl:=ak h;exact ab sA (cS [0,1,2,3,4,5,6,7,8,9,10,11,12,13,14,15,16,17,18,19,20,21,22,23,24,25,26,27,28,29,30,31] 32)
  have h:=ae g81 hb81;refine I ?_;obtain rfl:=ak h;exact ab sA (cS [0,1,2,3,4,5,6,7,8,9,10,11,12,13,14,15,16,17,18,19,20,21,22,23,24,25,26,27,28,29,30,31] 32)
 refine I ?_;obtain ⟨b82,hb82,h⟩:=aa h;refine aC 4 58 b82 ?_ ?_
 ·clear h;refine ay 54 J (fun g82=> ?_) (fun g82=> ?_)
  ·have h:=ad g82 hb82;refine I ?_;refine bi (bz 18 J ax J Ao) J (aS g82 J) J ?_;refine I ?_;obtain rfl:=ak h;exact ab sA (cS [0,1,2,3,4,5,6,7,8,9,10,11,12,13,14,15,16,17,18,19,20,21,22,23,24,25,26,27,28,29,30,31] 32)
  have h:=ae g82 hb82;refine I ?_;obtain rfl:=ak h;exact ab sA (cS [0,1,2,3,4,5,6,7,8,9,10,11,12,13,14,15,16,17,18,19,20,21,22,23,24,25,26,27,28,29,30,31] 32)
 refine I ?_;obtain ⟨b83,hb83,h⟩:=aa h;refine aC 6 65 b83 ?_ ?_
 ·clear h;refine ay 59 J (fun g83=> ?_) (fun g83=> ?_)
  ·have h:=ad g83 hb83;refine I ?_;obtain ⟨x84,hx84,h⟩:=aa h;obtain ⟨lx84,ux84,hx84⟩:=aF hx84;refine bi (bf 18 J ax J J Ao fu lx84 ux84) J (aS g83 J) J ?_;refine bi (gV 18 J ax J (aQ lx84 ux84) tp) J (aS g83 J) J ?_;refine bi (cf (u:=iV x84.N) 18 J ax J hx84 dc (fun _ _ _ h=>by rw [show _=_ from h];rfl)) J (aS g83 J) J ?_;refine I ?_;obtain rfl:=ak h;exact ab sA (cS [0,1,2,3,4,5,6,7,8,9,10,11,12,13,14,15,16,17,18,19,20,21,22,23,24,25,26,27,28,29,30,31] 32)
  have h:=ae g83 hb83;refine I ?_;obtain rfl:=ak h;exact ab sA (cS [0,1,2,3,4,5,6,7,8,9,10,11,12,13,14,15,16,17,18,19,20,21,22,23,24,25,26,27,28,29,30,31] 32)
 refine I ?_;obtain ⟨b85,hb85,h⟩:=aa h;refine aC 6 72 b85 ?_ ?_
 ·clear h;refine ay 66 J (fun g85=> ?_) (fun g85=> ?_)
  ·have h:=ad g85 hb85;refine I ?_;obtain ⟨x86,hx86,h⟩:=aa h;obtain ⟨lx86,ux86,hx86⟩:=aF hx86;refine bi (bf 18 J ax J J Ao fu lx86 ux86) J (aS g85 J) J ?_;refine bi (gV 18 J ax J (aQ lx86 ux86) ra) J (aS g85 J) J ?_;refine bi (cf (u:=.string x86.S) 18 J ax J hx86 xD (fun _ _ _ h=>by rw [show _=_ from h];rfl)) J (aS g85 J) J ?_;refine fG (lz J J) J (aS g85 J) J ?_;refine I ?_;obtain rfl:=ak h;exact ab sA (cS [0,1,2,3,4,5,6,7,8,9,10,11,12,13,14,15,16,17,18,19,20,21,22,23,24,25,26,27,28,29,30,31] 32)
  have h:=ae g85 hb85;refine I ?_;obtain rfl:=ak h;exact ab sA (cS [0,1,2,3,4,5,6,7,8,9,10,11,12,13,14,15,16,17,18,19,20,21,22,23,24,25,26,27,28,29,30,31] 32)
 refine I ?_;obtain ⟨b87,hb87,h⟩:=aa h;refine aC 4 77 b87 ?_ ?_
 ·clear h;refine ay 73 J (fun g87=> ?_) (fun g87=> ?_)
  ·have h:=ad g87 hb87;refine I ?_;refine bi (bz 17 J ax J Ap) J (aS g87 J) J ?_;refine I ?_;obtain rfl:=ak h;exact ab sA (cS [0,1,2,3,4,5,6,7,8,9,10,11,12,13,14,15,16,17,18,19,20,21,22,23,24,25,26,27,28,29,30,31] 32)
  have h:=ae g87 hb87;refine I ?_;obtain rfl:=ak h;exact ab sA (cS [0,1,2,3,4,5,6,7,8,9,10,11,12,13,14,15,16,17,18,19,20,21,22,23,24,25,26,27,28,29,30,31] 32)
 refine I ?_;obtain ⟨b88,hb88,h⟩:=aa h;refine aC 7 85 b88 ?_ ?_
 ·clear h;refine ay 78 J (fun g88=> ?_) (fun g88=> ?_)
  ·have h:=ad g88 hb88;refine I ?_;obtain ⟨x89,hx89,h⟩:=aa h;obtain ⟨lx89,ux89,hx89⟩:=aF hx89;refine bi (bf 17 J ax J J Ap da lx89 ux89) J (aS g88 J) J ?_;refine bi (jH 17 J ax J (aQ lx89 ux89) pi) J (aS g88 J) J ?_;refine bi (gV 17 J ax J (aQ lx89 ux89) ra) J (aS g88 J) J ?_;refine bi (cf (u:=.string x89.Key.S) 17 J ax J hx89 xD (fun _ _ _ h=>by rw [show _=_ from h];rfl)) J (aS g88 J) J ?_;refine fG (lz J J) J (aS g88 J) J ?_;refine I ?_;obtain rfl:=ak h;exact ab sA (cS [0,1,2,3,4,5,6,7,8,9,10,11,12,13,14,15,16,17,18,19,20,21,22,23,24,25,26,27,28,29,30,31] 32)
  have h:=ae g88 hb88;refine I ?_;obtain rfl:=ak h;exact ab sA (cS [0,1,2,3,4,5,6,7,8,9,10,11,12,13,14,15,16,17,18,19,20,21,22,23,24,25,26,27,28,29,30,31] 32)
 refine I ?_;obtain ⟨b90,hb90,h⟩:=aa h;refine aC 7 93 b90 ?_ ?_
 ·clear h;refine ay 86 J (fun g90=> ?_) (fun g90=> ?_)
  ·have h:=ad g90 hb90;refine I ?_;obtain ⟨x91,hx91,h⟩:=aa h;obtain ⟨lx91,ux91,hx91⟩:=aF hx91;refine bi (bf 17 J ax J J Ap da lx91 ux91) J (aS g90 J) J ?_;refine bi (gV 17 J ax J (aQ lx91 ux91) tj) J (aS g90 J) J ?_;refine bi (gV 17 J ax J (aQ lx91 ux91) nB) J (aS g90 J) J ?_;refine bi (cf (u:=iV x91.Value.N) 17 J ax J hx91 dc (fun _ _ _ h=>by rw [show _=_ from h];rfl)) J (aS g90 J) J ?_;refine I ?_;obtain rfl:=ak h;exact ab sA (cS [0,1,2,3,4,5,6,7,8,9,10,11,12,13,14,15,16,17,18,19,20,21,22,23,24,25,26,27,28,29,30,31] 32)
  have h:=ae g90 hb90;refine I ?_;obtain rfl:=ak h;exact ab sA (cS [0,1,2,3,4,5,6,7,8,9,10,11,12,13,14,15,16,17,18,19,20,21,22,23,24,25,26,27,28,29,30,31] 32)
 refine I ?_;obtain ⟨b92,hb92,h⟩:=aa h;refine aC 5 99 b92 ?_ ?_
 ·clear h;refine ay 94 J (fun g92=> ?_) (fun g92=> ?_)
  ·have h:=ad g92 hb92;refine I ?_;refine bi (aj (us:=[iV y16.1.Kind,iV y16.1.N,.string y16.1.S]) 25 J J aJ J) J (aS g92 J) J ?_;obtain ⟨y93,hy93,h⟩:=aa h;refine bF (aB (mw hy93) vD J (az [11,12,13] [0,1,2,3,4,5,6,7,8,9,10] [11,12,13,14,15,16,17,18,19,20,21,22,23,24,25,26,27,28,29,30,31] 32 J)) J (aS g92 J) J ?_;rintro _ _ ⟨_,⟨rfl,rfl⟩,rfl⟩;refine I ?_;obtain rfl:=ak h;exact ab sA (cS [0,1,2,3,4,5,6,7,8,9,10,11,12,13,14,15,16,17,18,19,20,21,22,23,24,25,26,27,28,29,30,31] 32)
  have h:=ae g92 hb92;refine I ?_;obtain rfl:=ak h;exact ab sA (cS [0,1,2,3,4,5,6,7,8,9,10,11,12,13,14,15,16,17,18,19,20,21,22,23,24,25,26,27,28,29,30,31] 32)
 refine I ?_;obtain rfl:=ak h;exact aE J J (cS [] 32) ⟨J,J⟩
theorem iT {r:Bool}: ∀v post,((fun (u:Value) (post:List Chunk)=>u=.bool r∧post=[])) v post→ ∀c∈post,bL c:=by
 rintro _ _ ⟨rfl,rfl⟩;exact ac
def fW (N:Nat)(a0:AE)(a1:AA):Option AA:=
 (bB N a0 a1).bind fun y17=>qf y17 (fun y17_0=>some (⟨0,0,⟨#[]⟩⟩:AA)) (fun y17_1=>(cg y17_1.Cell.Slots 0).bind fun x35=>some x35)
theorem kO {N:Nat}{a0:AE}{a1:AA}{r:AA}(h:fW N a0 a1=some r):Okc Tryz.prog 11 [pV B1 0,.agg #[iV a1.Kind,iV a1.N,.string a1.S]] ([bp A12 n12 c12 a0.symbols_,cU A13 n13 c13 a0.events_,bp A14 n14 c14 a0.out_,al B1 73 [iV a0.spent_.steps_,iV a0.spent_.made_,iV a0.spent_.calls_,iV a0.config_.Way,iV a0.config_.Steps,iV a0.config_.Calls,iV a0.config_.Made,iV a0.config_.Young,iV a0.config_.Full,iV a0.config_.Sites,.nilIface,pV B2 0,pV B9 0,Y A12 n12 c12,iV a0.epoch_,iV a0.serial_,iV a0.sleepers_,Y A13 n13 c13,Y A14 n14 c14],al B2 99 [Y A3 n3 c3,Y A4 n4 c4,Y A5 n5 c5,Y A6 n6 c6,pV B7 0],bD A3 n3 c3 a0.heap_.m_.Young,bD A4 n4 c4 a0.heap_.m_.Old,aX A5 n5 c5 a0.heap_.roots_,aX A6 n6 c6 a0.heap_.pending_,al B7 143 [.map (some M8)],aK cW cY M8 a0.heap_.set_.at_,al B9 118 [Y A10 n10 c10,.map (some M11)],dx A10 n10 c10 a0.shapes_.shapes_,aK aH cV M11 a0.shapes_.next_]) (fun u post=>u=.agg #[iV r.Kind,iV r.N,.string r.S]∧post=[al B1 73 [iV a0.spent_.steps_,iV a0.spent_.made_,iV a0.spent_.calls_,iV a0.config_.Way,iV a0.config_.Steps,iV a0.config_.Calls,iV a0.config_.Made,iV a0.config_.Young,iV a0.config_.Full,iV a0.config_.Sites,.nilIface,pV B2 0,pV B9 0,Y A12 n12 c12,iV a0.epoch_,iV a0.serial_,iV a0.sleepers_,Y A13 n13 c13,Y A14 n14 c14],al B2 99 [Y A3 n3 c3,Y A4 n4 c4,Y A5 n5 c5,Y A6 n6 c6,pV B7 0],bD A3 n3 c3 a0.heap_.m_.Young,bD A4 n4 c4 a0.heap_.m_.Old,aX A5 n5 c5 a0.heap_.roots_,aX A6 n6 c6 a0.heap_.pending_,al B7 143 [.map (some M8)],aK cW cY M8 a0.heap_.set_.at_,al B9 118 [Y A10 n10 c10,.map (some M11)],dx A10 n10 c10 a0.shapes_.shapes_,aK aH cV M11 a0.shapes_.next_]):=by
 refine bh Tryz.func11 J J ?_;simp only [aL];refine I ?_;refine gD (aI J J) ?_;rintro _ _ ⟨B15,rfl,rfl⟩;refine gD (aP ee J) ?_;rintro _ _ ⟨B16,rfl,rfl⟩;refine I ?_;refine gR (aj (us:=[iV a1.Kind,iV a1.N,.string a1.S]) 1 J J aJ J) ?_;obtain ⟨y17,hy17,h⟩:=aa h;rcases y17 with y17_0|y17_1
 ·replace h:=rD h;refine gD (aB (aU hy17) cX J (az [2,3,4] [5,6,7,8,9,10,11,12,13,14,15] [0,1,2,3,4] 16 J)) ?_;rintro _ _ ⟨_,⟨rfl,rfl⟩,rfl⟩;refine I ?_;refine aw ?_;refine I ?_;refine cD J ?_;refine I ?_;refine gE (aN J (dw)) ?_;refine gO (ar (us:=[iV 0,iV 0,.string (⟨#[]⟩)]) (cs':=[iV 0,iV 0,.string (⟨#[]⟩)]) 11 J J J J aT J J J) ?_;rintro _ _ rfl;refine I ?_;obtain rfl:=ak h;exact ca (rs:=[.cell 4 29]) (vs:=[.agg #[iV 0,iV 0,.string (⟨#[]⟩)]]) J (.cons (bq 11 J J aJ) .nil) J (cS [0,1,2,3,4,5,6,7,8,9,10] 16) ⟨J,J⟩
 replace h:=rC h;refine gD (aB (aU hy17) cX J (az [2,3,4] [5,6,7,8,9,10,11,12,13,14,15] [0,1,2,3,4] 16 J)) ?_;rintro _ _ ⟨_,⟨B18,A19,n19,c19,A20,n20,c20,rfl,rfl⟩,rfl⟩;refine bJ ?_;refine I ?_;refine aw ?_;refine I ?_;refine du J ?_;refine I ?_;obtain ⟨x35,hx35,h⟩:=aa h;obtain ⟨lx35,ux35,hx35⟩:=aF hx35;refine gR (bf 1 J ax J J hE aT lx35 ux35) ?_;refine gR (bn (us:=[iV x35.Kind,iV x35.N,.string x35.S]) 1 J ax J hx35 aJ (fun _ _ _ h=>by rw [show _=_ from h];rfl)) ?_;refine gO (ar (us:=[iV x35.Kind,iV x35.N,.string x35.S]) (cs':=[iV x35.Kind,iV x35.N,.string x35.S]) 14 J J J J aT J J J) ?_;rintro _ _ rfl;refine I ?_;obtain rfl:=ak h;exact ca (rs:=[.cell 4 29]) (vs:=[.agg #[iV x35.Kind,iV x35.N,.string x35.S]]) J (.cons (bq 14 J J aJ) .nil) J (cS [3,4,5,6,7,8,9,10,11,12,13] 19) ⟨J,J⟩
def gv (N:Nat)(a0:Int)(a1:Int):Option Bool:=
 dC ((a1:Int)≠0∧bV (a0.tdiv a1)) (some (decide ((a0.tdiv a1).tmod 2=1)))
theorem kw {N:Nat}{a0:Int}{a1:Int}{r:Bool}(h:gv N a0 a1=some r):Okc Tryz.prog 47 [iV a0,iV a1] ([]) (fun u post=>u=.bool r∧post=[]):=by
 refine bh Tryz.func47 J J ?_;simp only [aL];refine I ?_;obtain ⟨q1,h⟩:=aA h;refine gE (pO J J q1.1 q1.2.1 q1.2.2) ?_;refine gE (ij J J (by decide)) ?_;refine I ?_;obtain rfl:=ak h;exact aE J J (cS [] 0) ⟨J,J⟩
theorem iJ {r:Bool}: ∀v post,((fun (u:Value) (post:List Chunk)=>u=.bool r∧post=[])) v post→ ∀c∈post,bL c:=by
 rintro _ _ ⟨rfl,rfl⟩;exact ac
def db (N:Nat)(a0:AC)(a1:Int):Option Bool:=
 (gv N a0.Has a1).bind fun y2=>some y2
theorem dj {N:Nat}{a0:AC}{a1:Int}{r:Bool}(h:db N a0 a1=some r):Okc Tryz.prog 48 [.agg #[iV a0.Has,iV a0.Attrs,iV a0.Value.Kind,iV a0.Value.N,.string a0.Value.S,iV a0.Get.Kind,iV a0.Get.N,.string a0.Get.S,iV a0.Set.Kind,iV a0.Set.N,.string a0.Set.S],iV a1] ([]) (fun u post=>u=.bool r∧post=[]):=by
 refine bh Tryz.func48 J J ?_;simp only [aL];refine I ?_;refine gD (aI J J) ?_;rintro _ _ ⟨B1,rfl,rfl⟩;refine I ?_;obtain ⟨y2,hy2,h⟩:=aa h;refine gD (ag (kw hy2) rm J (ac) iJ) ?_;rintro _ _ ⟨_,⟨rfl,rfl⟩,rfl⟩;refine I ?_;obtain rfl:=ak h;exact aE J J (cS [] 1) ⟨J,J⟩
theorem cz {r:Bool}: ∀v post,((fun (u:Value) (post:List Chunk)=>u=.bool r∧post=[])) v post→ ∀c∈post,bL c:=by
 rintro _ _ ⟨rfl,rfl⟩;exact ac
end Go.Proofs.YtanojiedimeegaaGreat