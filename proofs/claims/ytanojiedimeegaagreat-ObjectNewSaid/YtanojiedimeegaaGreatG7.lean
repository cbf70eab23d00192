/- Merged texts: part 7. No conditions of their own. -/
import Derived.Test.YtanojiedimeegaaGreatG6
namespace Go.Proofs.YtanojiedimeegaaGreat
theorem zF:type_of% Tryz.underlying60:=Tryz.underlying60
variable {A1 A10 A12 A13 A14 A2 A3 A4 A5 A6:Option Addr} {B1 B2 B7 B9 M11 M3 M8 c1 c10 c12 c13 c14 c2 c3 c4 c5 c6 n1 n10 n12 n13 n14 n2 n3 n4 n5 n6:Nat}
open Go.RowKit Asn
set_option maxRecDepth 20000
def lp (N:Nat)(a0:Int):Option Bool:=
 some (!decide (a0=a0))
theorem np {N:Nat}{a0:Int}{r:Bool}(h:lp N a0=some r):Okc Tryz.prog 103 [iV a0] ([]) (fun u post=>u=.bool r∧post=[]):=by
 refine bm Tryz.func103 J J ?_;simp only [aP];refine I ?_;obtain rfl:=ak h;exact aF J J (cS [] 0) ⟨J,J⟩
theorem ln {r:Bool}: ∀v post,((fun (u:Value) (post:List Chunk)=>u=.bool r∧post=[])) v post→ ∀c∈post,bJ c:=by
 rintro _ _ ⟨rfl,rfl⟩;exact ae
def jK (N:Nat)(a0:Int)(a1:Int):Option Int:=
 (lp N a0).bind fun y1=>(lp N a1).bind fun y2=>bif y1 then (bif y2 then (some 0) else (some (-1))) else (bif y2 then (some 1) else (bif decide (a0<a1) then (some (-1)) else (bif decide (a1<a0) then (some 1) else (some 0))))
theorem lq {N:Nat}{a0:Int}{a1:Int}{r:Int}(h:jK N a0 a1=some r):Okc Tryz.prog 88 [iV a0,iV a1] ([]) (fun u post=>u=iV r∧post=[]):=by
 refine bm Tryz.func88 J J ?_;simp only [aP];refine I ?_;obtain ⟨y1,hy1,h⟩:=aa h;refine gD (aj (np hy1) td J (ae) ln) ?_;rintro _ _ ⟨_,⟨rfl,rfl⟩,rfl⟩;refine I ?_;obtain ⟨y2,hy2,h⟩:=aa h;refine gD (aj (np hy2) td J (ae) ln) ?_;rintro _ _ ⟨_,⟨rfl,rfl⟩,rfl⟩;refine I ?_;refine ax ?_;refine I ?_;refine ar J (fun g3=> ?_) (fun g3=> ?_)
 ·replace h:=ag g3 h;refine ax ?_;refine I ?_;refine ar J (fun g4=> ?_) (fun g4=> ?_)
  ·replace h:=ag g4 h;refine I ?_;obtain rfl:=ak h;exact aF J J (cS [] 0) ⟨J,J⟩
  replace h:=ah g4 h;refine I ?_;obtain rfl:=ak h;exact aF J J (cS [] 0) ⟨J,J⟩
 replace h:=ah g3 h;refine I ?_;refine ax ?_;refine I ?_;refine ar J (fun g5=> ?_) (fun g5=> ?_)
 ·replace h:=ag g5 h;refine I ?_;obtain rfl:=ak h;exact aF J J (cS [] 0) ⟨J,J⟩
 replace h:=ah g5 h;refine I ?_;refine ax ?_;refine I ?_;refine ar J (fun g6=> ?_) (fun g6=> ?_)
 ·replace h:=ag g6 h;refine I ?_;obtain rfl:=ak h;exact aF J J (cS [] 0) ⟨J,J⟩
 replace h:=ah g6 h;refine I ?_;refine ax ?_;refine I ?_;refine ar J (fun g7=> ?_) (fun g7=> ?_)
 ·replace h:=ag g7 h;refine I ?_;obtain rfl:=ak h;exact aF J J (cS [] 0) ⟨J,J⟩
 replace h:=ah g7 h;refine I ?_;obtain rfl:=ak h;exact aF J J (cS [] 0) ⟨J,J⟩
theorem kc {r:Int}: ∀v post,((fun (u:Value) (post:List Chunk)=>u=iV r∧post=[])) v post→ ∀c∈post,bJ c:=by
 rintro _ _ ⟨rfl,rfl⟩;exact ae
def dZ (N:Nat)(a0:zV)(a1:zV):Option Int:=
 (bif decide (a0.Kind=0) then (some (decide (a1.Kind=0))) else (some false)).bind fun b3=>bif b3 then ((jK N a0.N a1.N).bind fun y5=>some y5) else ((jK N a0.Kind a1.Kind).bind fun y6=>some y6)
theorem d7 {N:Nat}{a0:zV}{a1:zV}{r:Int}(h:dZ N a0 a1=some r):Okc Tryz.prog 68 [.agg #[iV a0.Kind,iV a0.N,.string a0.S],.agg #[iV a1.Kind,iV a1.N,.string a1.S]] ([]) (fun u post=>u=iV r∧post=[]):=by
 refine bm Tryz.func68 J J ?_;simp only [aP];refine I ?_;refine gD (aO J J) ?_;rintro _ _ ⟨B1,rfl,rfl⟩;refine gD (aO J J) ?_;rintro _ _ ⟨B2,rfl,rfl⟩;refine I ?_;refine ax ?_;refine I ?_;obtain ⟨b3,hb3,h⟩:=aa h;refine az 4 12 b3 ?_ ?_
 ·clear h;refine ay 8 J (fun g3=> ?_) (fun g3=> ?_)
  ·have h:=ag g3 hb3;refine I ?_;obtain rfl:=ak h;exact ac sA (cS [0,1] 2)
  have h:=ah g3 hb3;refine I ?_;obtain rfl:=ak h;exact ac sA (cS [0,1] 2)
 refine I ?_;refine ar J (fun g4=> ?_) (fun g4=> ?_)
 ·replace h:=ag g4 h;refine I ?_;obtain ⟨y5,hy5,h⟩:=aa h;refine gD (aj (lq hy5) ur J (ae) kc) ?_;rintro _ _ ⟨_,⟨rfl,rfl⟩,rfl⟩;refine I ?_;obtain rfl:=ak h;exact aF J J (cS [] 2) ⟨J,J⟩
 replace h:=ah g4 h;refine I ?_;obtain ⟨y6,hy6,h⟩:=aa h;refine gD (aj (lq hy6) ur J (ae) kc) ?_;rintro _ _ ⟨_,⟨rfl,rfl⟩,rfl⟩;refine I ?_;obtain rfl:=ak h;exact aF J J (cS [] 2) ⟨J,J⟩
theorem po {r:Int}: ∀v post,((fun (u:Value) (post:List Chunk)=>u=iV r∧post=[])) v post→ ∀c∈post,bJ c:=by
 rintro _ _ ⟨rfl,rfl⟩;exact ae
def cV (N:Nat)(kb3:(List zV)→Int→Option (List zV))(a1:Int)(a2:Int)(p5:Int)(p8:(List zV)):Option (List zV):=
 dX (cc (p5+1)) (kb3 p8 (p5+1))
def ca (N:Nat)(kb3:(List zV)→Int→Option (List zV))(a1:Int)(a2:Int)(p5:Int):Nat→(List zV)→Int→Option (List zV)
 |0,_,_=>none
 |m9+1,p10,p11=>(bif decide (a1<p11) then ((cj p10 p11).bind fun x13=>dX (cc (p11 - 1)) ((cj p10 (p11 - 1)).bind fun x15=>(dZ N x13 x15).bind fun y16=>some (decide (y16<0)))) else (some false)).bind fun b12=>bif b12 then (dX (cc (p11 - 1)) (dX (cc (p11 - 1)) ((cj p10 (p11 - 1)).bind fun x20=>(cj p10 p11).bind fun x21=>(cj p10 p11).bind fun x22=>(cj (List.set p10 p11.toNat (⟨x20.Kind,x20.N,x20.S⟩:zV)) (p11 - 1)).bind fun x23=>dX (cc (p11 - 1)) ((ca N kb3 a1 a2 p5 m9) (List.set (List.set p10 p11.toNat (⟨x20.Kind,x20.N,x20.S⟩:zV)) ((p11 - 1).toNat) (⟨x21.Kind,x21.N,x21.S⟩:zV)) (p11 - 1))))) else (cV N kb3 a1 a2 p5 p10)
def bq (N:Nat)(a1:Int)(a2:Int):Nat→(List zV)→Int→Option (List zV)
 |0,_,_=>none
 |m3+1,p4,p5=>bif decide (p5<a2) then (ca N (bq N a1 a2 m3) a1 a2 p5 N p4 p5) else (some p4)
def bK (N:Nat)(a0:(List zV))(a1:Int)(a2:Int):Option (List zV):=
 dX (cc (a1+1)) (bq N a1 a2 N a0 (a1+1))
theorem bZ {N:Nat}{a0:(List zV)}{a1:Int}{a2:Int}{r:(List zV)}(h:bK N a0 a1 a2=some r):Okc Tryz.prog 101 [Y A1 n1 c1,iV a1,iV a2,.func (.func 68) #[] #[]] ([js A1 n1 c1 a0]) (fun u post=>u=.tuple #[]∧post=[js A1 n1 c1 r]):=by
 refine bm Tryz.func101 J J ?_;simp only [aP];refine I ?_;obtain ⟨q2,h⟩:=aB h;refine gE (cf J J q2.1 q2.2) ?_;refine I ?_;refine cO (fun m s L=> ∃p4 p5,bq N a1 a2 m p4 p5=some r∧s=[(0,Y A1 n1 c1),(1,iV a1),(2,iV a2),(3,.func (.func 68) #[] #[]),(8,iV p5)]∧L=[js A1 n1 c1 p4]) N _ _ ⟨a0,a1+1,h,J,J⟩ sA (cS [0] 1) ?_;rintro (_|m3) _ _ ⟨p4,p5,h,rfl,rfl⟩
 ·exact bu h
 rw [bq.eq_2] at h;refine ax ?_;refine I ?_;refine ar J (fun g6=> ?_) (fun g6=> ?_)
 ·replace h:=ag g6 h;refine I ?_;refine aW (fun s L=> ∃p8,cV N (bq N a1 a2 m3) a1 a2 p5 p8=some r∧s=[(0,Y A1 n1 c1),(1,iV a1),(2,iV a2),(3,.func (.func 68) #[] #[]),(8,iV p5)]∧L=[js A1 n1 c1 p8]) ?_ ?_
  ·refine I ?_;refine cO (fun m s L=> ∃p10 p11,ca N (bq N a1 a2 m3) a1 a2 p5 m p10 p11=some r∧s=[(0,Y A1 n1 c1),(1,iV a1),(2,iV a2),(3,.func (.func 68) #[] #[]),(8,iV p5),(9,iV p11)]∧L=[js A1 n1 c1 p10]) N _ _ ⟨p4,p5,h,J,J⟩ sA (cS [0] 1) ?_;rintro (_|m9) _ _ ⟨p10,p11,h,rfl,rfl⟩
   ·exact bu h
   rw [ca.eq_2] at h;refine ax ?_;refine ax ?_;refine bn V _ (ab _) ?_;refine zE 0 J (aq J) ?_;refine zE 1 J (aq J) ?_;refine zE 2 J (wD J J) ?_;refine zE 3 J (aq J) ?_;obtain ⟨b12,hb12,h⟩:=aa h;refine rL (fun l=>(((((((((((((l.setIfInBounds 4 true).setIfInBounds 5 true).setIfInBounds 6 true).setIfInBounds 7 true).setIfInBounds 8 true).setIfInBounds 9 true).setIfInBounds 10 true).setIfInBounds 11 true).setIfInBounds 12 true).setIfInBounds 13 true).setIfInBounds 14 true).setIfInBounds 15 true).setIfInBounds 16 true)) 0 34 b12 (fun rest=> ?_) ?_
   ·clear h;refine tf 21 J (fun g12=> ?_) (fun g12=> ?_)
    ·have h:=ag g12 hb12;refine ke 4 J V (aq J) (aK g12 J) J ?_;refine ke 5 J V (aq J) (aK g12 J) J ?_;refine ke 6 J V (aq J) (aK g12 J) J ?_;obtain ⟨x13,hx13,h⟩:=aa h;obtain ⟨lx13,ux13,hx13⟩:=aD hx13;refine ou 7 J V (bh 0 J aw J J zC fm lx13 ux13) (aK g12 J) J ?_;refine ou 8 J V (bo (us:=[iV x13.Kind,iV x13.N,.string x13.S]) 0 J aw J hx13 cR (fun _ _ _ h=>by rw [show _=_ from h];rfl)) (aK g12 J) J ?_;refine ke 9 J V (aq J) (aK g12 J) J ?_;refine ke 10 J V (aq J) (aK g12 J) J ?_;obtain ⟨q14,h⟩:=aB h;refine ke 11 J V (fS J J q14.1 q14.2) (aK g12 J) J ?_;obtain ⟨x15,hx15,h⟩:=aa h;obtain ⟨lx15,ux15,hx15⟩:=aD hx15;refine ou 12 J V (bh 0 J aw J J zC fm lx15 ux15) (aK g12 J) J ?_;refine ou 13 J V (bo (us:=[iV x15.Kind,iV x15.N,.string x15.S]) 0 J aw J hx15 cR (fun _ _ _ h=>by rw [show _=_ from h];rfl)) (aK g12 J) J ?_;obtain ⟨y16,hy16,h⟩:=aa h;refine ss 14 J V (fG (d7 hy16) mH J J J (ae) po) J (aK g12 J) J ?_;rintro _ _ ⟨_,⟨rfl,rfl⟩,rfl⟩;refine ⟨_,ab _,ab _,?_⟩;refine ke 15 J V (wC J J) (aK g12 J) J ?_;refine zE 16 J (bU g12 J J) ?_;obtain rfl:=ak h
     exact pK rest (kL J (aX (aX (aX (aX (aX (aX (aX (aX (aX (aX (aX (aX (aX dK J) J) J) J) J) J) J) J) J) J) J) J) J)) (ab _) (ab _)
    have h:=ah g12 hb12;refine fj 4 J V (bT g12 J) J ?_;refine fj 5 J V (bT g12 J) J ?_;refine fj 6 J V (bT g12 J) J ?_;refine fj 7 J V (bT g12 J) J ?_;refine fj 8 J V (bT g12 J) J ?_;refine fj 9 J V (bT g12 J) J ?_;refine fj 10 J V (bT g12 J) J ?_;refine fj 11 J V (bT g12 J) J ?_;refine fj 12 J V (bT g12 J) J ?_;refine fj 13 J V (bT g12 J) J ?_;refine fj 14 J V (bT g12 J) J ?_;refine fj 15 J V (bT g12 J) J ?_;refine zE 16 J (bV g12 J J) ?_;obtain rfl:=ak h;exact pK rest (kL J (aX (aX (aX (aX (aX (aX (aX (aX (aX (aX (aX (aX (aX dK J) J) J) J) J) J) J) J) J) J) J) J) J)) (ab _) (ab _)
   refine be V ?_;refine eH ?_;refine ar J (fun g17=> ?_) (fun g17=> ?_)
   ·replace h:=ag g17 h;refine I ?_;refine ax ?_;refine gy ?_;obtain ⟨q18,h⟩:=aB h;obtain ⟨q19,h⟩:=aB h;obtain ⟨x20,hx20,h⟩:=aa h;obtain ⟨lx20,ux20,hx20⟩:=aD hx20;obtain ⟨x21,hx21,h⟩:=aa h;obtain ⟨lx21,ux21,hx21⟩:=aD hx21;refine gS (t:=[(0,Y A1 n1 c1),(1,iV a1),(2,iV a2),(3,.func (.func 68) #[] #[]),(8,iV p5),(9,iV p11)]) ?_ jQ (ab _)
    refine gx V 14 [2,3,4] [0,1,2,4,9,13] [37,38,39,40,41,42,43,44,45,46,47,48,49,50] [[],[],[],[],[3],[],[],[6],[5,7],[8],[],[],[10,11],[12]] [aV (Y A1 n1 c1),
 aV (iV p11),
 aV (Y A1 n1 c1),
 aV (iV p11),
 aV (iV (p11 - 1)),
 aV (Y A1 n1 c1),
 aV (iV p11),
 aV (iV (p11 - 1)),
 aV (dy (Y A1 n1 c1) ((p11 - 1).toNat) 3 0),
 aV (.agg #[iV x20.Kind,iV x20.N,.string x20.S]),
 aV (Y A1 n1 c1),
 aV (iV p11),
 aV (dy (Y A1 n1 c1) p11.toNat 3 0),
 aV (.agg #[iV x21.Kind,iV x21.N,.string x21.S])] [] (ab _) (jq rfl (jq rfl (jq rfl jD))) V rfl rfl ?_ ?_ ?_
    ·refine jp J ?_ ?_
     ·exact ov (aq J) J (aA J (ab _))
     refine jp J ?_ ?_
     ·exact ov (aq J) J (aA J (ab _))
     refine jp J ?_ ?_
     ·exact ov (fS J J q18.1 q18.2) J (aA J (ab _))
     exact jC
    ·refine ad J ?_ ?_
     ·exact dz (bo (us:=[iV x21.Kind,iV x21.N,.string x21.S]) 0 J aw J hx21 cR (fun _ _ _ h=>by rw [show _=_ from h];rfl)) J (aA J (ab _))
     refine ad J ?_ ?_
     ·exact dz (bh 0 J aw J J zC fm lx21 ux21) J (aA J (ab _))
     refine ad J ?_ ?_
     ·exact ba (aq J) J (aA J (ab _))
     refine ad J ?_ ?_
     ·exact ba (aq J) J (aA J (ab _))
     refine ad J ?_ ?_
     ·exact dz (bo (us:=[iV x20.Kind,iV x20.N,.string x20.S]) 0 J aw J hx20 cR (fun _ _ _ h=>by rw [show _=_ from h];rfl)) J (aA J (ab _))
     refine ad J ?_ ?_
     ·exact dz (bh 0 J aw J J zC fm lx20 ux20) J (aA J (ab _))
     refine ad J ?_ ?_
     ·exact ba (fS J J q19.1 q19.2) J (aA J (ab _))
     refine ad J ?_ ?_
     ·exact ba (aq J) J (aA J (ab _))
     refine ad J ?_ ?_
     ·exact ba (aq J) J (aA J (ab _))
     refine ad J ?_ ?_
     ·exact ba (fS J J q18.1 q18.2) J (aA J (ab _))
     refine ad J ?_ ?_
     ·exact ba (aq J) J (aA J (ab _))
     refine ad J ?_ ?_
     ·exact ba (aq J) J (aA J (ab _))
     refine ad J ?_ ?_
     ·exact ba (aq J) J (aA J (ab _))
     refine ad J ?_ ?_
     ·exact ba (aq J) J (aA J (ab _))
     exact ee
    refine lz (t:=[(37,Y A1 n1 c1),(38,iV p11),(39,Y A1 n1 c1),(41,iV (p11 - 1)),(46,.agg #[iV x20.Kind,iV x20.N,.string x20.S]),(50,.agg #[iV x21.Kind,iV x21.N,.string x21.S]),(0,Y A1 n1 c1),(1,iV a1),(2,iV a2),(3,.func (.func 68) #[] #[]),(8,iV p5),(9,iV p11)]) (L':=[js A1 n1 c1 p10]) ?_ jQ (ab _);obtain ⟨x22,hx22,h⟩:=aa h;obtain ⟨lx22,ux22,hx22⟩:=aD hx22;refine ym 14 J V (bh 0 J aw J J zC fm lx22 ux22) J J J ?_;refine pM 15 J V (du (us:=[iV x20.Kind,iV x20.N,.string x20.S]) (z:=(⟨x20.Kind,x20.N,x20.S⟩:zV)) 0 J J J J fm J (aT lx22 ux22) J (fun S w vs xk hk hr ho=>by obtain rfl:=Option.some.inj (hk.symm.trans hx22);rw [show _=_ from hr];rfl)) J J ?_;rintro _ _ rfl;obtain ⟨x23,hx23,h⟩:=aa h;obtain ⟨lx23,ux23,hx23⟩:=aD hx23;refine ym 16 J V (bh 0 J aw J J zC fm lx23 ux23) J J J ?_;refine pM 17 J V (du (us:=[iV x21.Kind,iV x21.N,.string x21.S]) (z:=(⟨x21.Kind,x21.N,x21.S⟩:zV)) 0 J J J J fm J (aT lx23 ux23) J (fun S w vs xk hk hr ho=>by obtain rfl:=Option.some.inj (hk.symm.trans hx23);rw [show _=_ from hr];rfl)) J J ?_;rintro _ _ rfl;refine jP V ?_;refine I ?_;obtain ⟨q24,h⟩:=aB h;refine gE (fS J J q24.1 q24.2) ?_;refine I ?_
    exact ⟨m9,_,_,z1 _,⟨List.set (List.set p10 p11.toNat (⟨x20.Kind,x20.N,x20.S⟩:zV)) ((p11 - 1).toNat) (⟨x21.Kind,x21.N,x21.S⟩:zV),p11 - 1,h,J,J⟩,sA,cS [0] 1⟩
   replace h:=ah g17 h;refine I ?_;exact ⟨_,_,⟨p10,h,J,J⟩,sA,cS [0] 1⟩
  rintro _ _ ⟨p8,h,rfl,rfl⟩;refine I ?_;obtain ⟨q25,h⟩:=aB h;refine gE (cf J J q25.1 q25.2) ?_;refine I ?_;exact ⟨m3,_,_,z1 _,⟨p8,p5+1,h,J,J⟩,sA,cS [0] 1⟩
 replace h:=ah g6 h;refine I ?_;obtain rfl:=ak h;exact d8 J (cS [0] 1) ⟨J,J⟩
def bF (N:Nat)(a0:(List zV))(a1:Int)(a2:Int)(a3:Int)(ff:(zV×zV)→Option Int):Option Unit:=
 none
theorem bO {N:Nat}{a0:(List zV)}{a1:Int}{a2:Int}{a3:Int}{ff:(zV×zV)→Option Int}{r:Unit}(h:bF N a0 a1 a2 a3 ff=some r){vf:Value}{G:List Chunk}(hf:wt Tryz.prog vf G (fun x=> [.agg #[iV x.1.Kind,iV x.1.N,.string x.1.S],.agg #[iV x.2.Kind,iV x.2.N,.string x.2.S]]) (fun r=>iV r) ff):Okc Tryz.prog 102 [Y A1 n1 c1,iV a1,iV a2,iV a3,vf] (kh kY (Y A1 n1 c1) a0::G) (fun u post=>u=.tuple #[]∧post=[]):=by
 exact bu h
theorem bG: ∀v post,((fun (u:Value) (post:List Chunk)=>u=.tuple #[]∧post=[])) v post→ ∀c∈post,bJ c:=by
 rintro _ _ ⟨rfl,rfl⟩;exact ae
def cL (N:Nat)(kb14:Int→Option (List zV))(a1:Int)(p15:Int)(y13:((List zV))):Option (List zV):=
 dX (cc (p15*2)) (kb14 (p15*2))
def gg (N:Nat)(kb14:Int→Option (List zV))(a1:Int)(p15:Int)(y13:((List zV))):Option (List zV):=
 dX (cc (0+p15)) (bif decide (0+p15<a1) then ((bF N y13 0 (0+p15) a1 (fun x=>dZ N x.1 x.2)).bind fun y32=>cL N kb14 a1 p15 y13) else (cL N kb14 a1 p15 y13))
def cK (N:Nat)(kb14:Int→Option (List zV))(a1:Int)(p15:Int)(y13:((List zV))):Option (List zV):=
 dX (cc (p15*2)) (kb14 (p15*2))
def dM (N:Nat)(kb14:Int→Option (List zV))(a1:Int)(p15:Int)(y13:((List zV)))(p20:Int):Option (List zV):=
 dX (cc (p20+p15)) (bif decide (p20+p15<a1) then ((bF N y13 p20 (p20+p15) a1 (fun x=>dZ N x.1 x.2)).bind fun y37=>cK N kb14 a1 p15 y13) else (cK N kb14 a1 p15 y13))
def cH (N:Nat)(kb14:Int→Option (List zV))(a1:Int)(p15:Int)(y13:((List zV))):Nat→Int→Int→Option (List zV)
 |0,_,_=>none
 |m21+1,p22,p23=>bif decide (p23≤a1) then (dX (cc (p22+p15)) ((bF N y13 p22 (p22+p15) p23 (fun x=>dZ N x.1 x.2)).bind fun y26=>dX (cc (2*p15)) (dX (cc (p23+(2*p15))) ((cH N kb14 a1 p15 y13 m21) p23 (p23+(2*p15)))))) else (dM N kb14 a1 p15 y13 p22)
def bd (N:Nat)(a1:Int)(y13:((List zV))):Nat→Int→Option (List zV)
 |0,_=>none
 |m14+1,p15=>bif decide (p15<a1) then (dX (cc (2*p15)) (cH N (bd N a1 y13 m14) a1 p15 y13 N 0 (2*p15))) else (some y13)
def gA (N:Nat)(a1:Int)(a0:(List zV)):Option (List zV):=
 (bK N a0 0 a1).bind fun y13=>bd N a1 y13 N 20
def cJ (N:Nat)(kb40:Int→Option (List zV))(a1:Int)(p41:Int)(y39:((List zV))):Option (List zV):=
 dX (cc (p41*2)) (kb40 (p41*2))
def ge (N:Nat)(kb40:Int→Option (List zV))(a1:Int)(p41:Int)(y39:((List zV))):Option (List zV):=
 dX (cc (0+p41)) (bif decide (0+p41<a1) then ((bF N y39 0 (0+p41) a1 (fun x=>dZ N x.1 x.2)).bind fun y58=>cJ N kb40 a1 p41 y39) else (cJ N kb40 a1 p41 y39))
def cI (N:Nat)(kb40:Int→Option (List zV))(a1:Int)(p41:Int)(y39:((List zV))):Option (List zV):=
 dX (cc (p41*2)) (kb40 (p41*2))
def dL (N:Nat)(kb40:Int→Option (List zV))(a1:Int)(p41:Int)(y39:((List zV)))(p46:Int):Option (List zV):=
 dX (cc (p46+p41)) (bif decide (p46+p41<a1) then ((bF N y39 p46 (p46+p41) a1 (fun x=>dZ N x.1 x.2)).bind fun y63=>cI N kb40 a1 p41 y39) else (cI N kb40 a1 p41 y39))
def cG (N:Nat)(kb40:Int→Option (List zV))(a1:Int)(p41:Int)(y39:((List zV))):Nat→Int→Int→Option (List zV)
 |0,_,_=>none
 |m47+1,p48,p49=>bif decide (p49≤a1) then (dX (cc (p48+p41)) ((bF N y39 p48 (p48+p41) p49 (fun x=>dZ N x.1 x.2)).bind fun y52=>dX (cc (2*p41)) (dX (cc (p49+(2*p41))) ((cG N kb40 a1 p41 y39 m47) p49 (p49+(2*p41)))))) else (dL N kb40 a1 p41 y39 p48)
def bc (N:Nat)(a1:Int)(y39:((List zV))):Nat→Int→Option (List zV)
 |0,_=>none
 |m40+1,p41=>bif decide (p41<a1) then (dX (cc (2*p41)) (cG N (bc N a1 y39 m40) a1 p41 y39 N 0 (2*p41))) else (some y39)
def dV (N:Nat)(a1:Int)(p4:(List zV))(p5:Int):Option (List zV):=
 (bK N p4 p5 a1).bind fun y39=>bc N a1 y39 N 20
def cQ (N:Nat)(a1:Int):Nat→(List zV)→Int→Int→Option (List zV)
 |0,_,_,_=>none
 |m6+1,p7,p8,p9=>bif decide (p9≤a1) then ((bK N p7 p8 p9).bind fun y11=>dX (cc (p9+20)) ((cQ N a1 m6) y11 p9 (p9+20))) else (dV N a1 p7 p8)
def eb (N:Nat)(a0:(List zV))(a1:Int):Option (List zV):=
 cQ N a1 N a0 0 20
set_option maxHeartbeats 4000000 in
theorem gz {N:Nat}{a0:(List zV)}{a1:Int}{r:(List zV)}(h:eb N a0 a1=some r):Okc Tryz.prog 87 [Y A1 n1 c1,iV a1,.func (.func 68) #[] #[]] ([js A1 n1 c1 a0]) (fun u post=>u=.tuple #[]∧post=[js A1 n1 c1 r]):=by
 refine bm Tryz.func87 J J ?_;simp only [aP];refine I ?_;refine aW (fun s L=>(gA N a1 a0=some r∧s=[(0,Y A1 n1 c1),(1,iV a1),(2,.func (.func 68) #[] #[]),(6,iV 20),(7,iV 0)]∧L=[js A1 n1 c1 a0])∨(∃p4 p5,dV N a1 p4 p5=some r∧s=[(0,Y A1 n1 c1),(1,iV a1),(2,.func (.func 68) #[] #[]),(6,iV 20),(7,iV p5)]∧L=[js A1 n1 c1 p4])) ?_ ?_
 ·refine gy ?_;refine cO (fun m s L=> ∃p7 p8 p9,cQ N a1 m p7 p8 p9=some r∧s=[(0,Y A1 n1 c1),(1,iV a1),(2,.func (.func 68) #[] #[]),(6,iV 20),(7,iV p8),(8,iV p9)]∧L=[js A1 n1 c1 p7]) N _ _ ⟨a0,0,20,h,J,J⟩ sA (cS [0] 1) ?_;rintro (_|m6) _ _ ⟨p7,p8,p9,h,rfl,rfl⟩
  ·exact bu h
  rw [cQ.eq_2] at h;refine ax ?_;refine I ?_;refine ar J (fun g10=> ?_) (fun g10=> ?_)
  ·replace h:=ag g10 h;refine I ?_;obtain ⟨y11,hy11,h⟩:=aa h;refine gD (aG (bZ hy11) qX J (aE [] [0] [] 1 J)) ?_;rintro _ _ ⟨_,⟨rfl,rfl⟩,rfl⟩;refine I ?_;obtain ⟨q12,h⟩:=aB h;refine gE (cf J J q12.1 q12.2) ?_;refine I ?_;exact ⟨m6,_,_,z1 _,⟨y11,p9,p9+20,h,J,J⟩,sA,cS [0] 1⟩
  replace h:=ah g10 h;refine I ?_;exact ⟨_,_,.inr (⟨p7,p8,h,J,J⟩),sA,cS [0] 1⟩
 rintro _ _ (⟨h,rfl,rfl⟩|⟨p4,p5,h,rfl,rfl⟩)
 ·refine I ?_;obtain ⟨y13,hy13,h⟩:=aa h;refine gD (aG (bZ hy13) qX J (aE [] [0] [] 1 J)) ?_;rintro _ _ ⟨_,⟨rfl,rfl⟩,rfl⟩;refine I ?_;refine cO (fun m s L=> ∃p15,bd N a1 y13 m p15=some r∧s=[(0,Y A1 n1 c1),(1,iV a1),(2,.func (.func 68) #[] #[]),(6,iV p15)]∧L=[js A1 n1 c1 y13]) N _ _ ⟨20,h,J,J⟩ sA (cS [0] 1) ?_;rintro (_|m14) _ _ ⟨p15,h,rfl,rfl⟩
  ·exact bu h
  rw [bd.eq_2] at h;refine ax ?_;refine I ?_;refine ar J (fun g16=> ?_) (fun g16=> ?_)
  ·replace h:=ag g16 h;refine I ?_;obtain ⟨q17,h⟩:=aB h;refine gE (jE J J q17.1 q17.2) ?_;refine I ?_;refine aW (fun s L=>(gg N (bd N a1 y13 m14) a1 p15 y13=some r∧s=[(0,Y A1 n1 c1),(1,iV a1),(2,.func (.func 68) #[] #[]),(6,iV p15),(7,iV 0)]∧L=[js A1 n1 c1 y13])∨(∃p20,dM N (bd N a1 y13 m14) a1 p15 y13 p20=some r∧s=[(0,Y A1 n1 c1),(1,iV a1),(2,.func (.func 68) #[] #[]),(6,iV p15),(7,iV p20)]∧L=[js A1 n1 c1 y13])) ?_ ?_
   ·refine gy ?_;refine cO (fun m s L=> ∃p22 p23,cH N (bd N a1 y13 m14) a1 p15 y13 m p22 p23=some r∧s=[(0,Y A1 n1 c1),(1,iV a1),(2,.func (.func 68) #[] #[]),(6,iV p15),(7,iV p22),(8,iV p23)]∧L=[js A1 n1 c1 y13]) N _ _ ⟨0,2*p15,h,J,J⟩ sA (cS [0] 1) ?_;rintro (_|m21) _ _ ⟨p22,p23,h,rfl,rfl⟩
    ·exact bu h
    rw [cH.eq_2] at h;refine ax ?_;refine I ?_;refine ar J (fun g24=> ?_) (fun g24=> ?_)
    ·replace h:=ag g24 h;refine I ?_;obtain ⟨q25,h⟩:=aB h;refine gE (cf J J q25.1 q25.2) ?_;refine I ?_;obtain ⟨y26,hy26,h⟩:=aa h;refine gD (aj (bO hy26 ⟨ae,68, #[], #[],J,mH,fun _ _ hh=>d7 hh⟩) lN J (hD (ao (i:=0) J) ae) bG) ?_;rintro _ _ ⟨_,⟨rfl,rfl⟩,rfl⟩;refine I ?_;obtain ⟨q27,h⟩:=aB h;refine gE (jE J J q27.1 q27.2) ?_;obtain ⟨q28,h⟩:=aB h;refine gE (cf J J q28.1 q28.2) ?_;refine I ?_;exact ⟨m21,_,_,z1 _,⟨p23,p23+(2*p15),h,J,J⟩,sA,cS [0] 1⟩
    replace h:=ah g24 h;refine I ?_;exact ⟨_,_,.inr (⟨p22,h,J,J⟩),sA,cS [0] 1⟩
   rintro _ _ (⟨h,rfl,rfl⟩|⟨p20,h,rfl,rfl⟩)
   ·refine aW (fun s L=>cL N (bd N a1 y13 m14) a1 p15 y13=some r∧s=[(0,Y A1 n1 c1),(1,iV a1),(2,.func (.func 68) #[] #[]),(6,iV p15)]∧L=[js A1 n1 c1 y13]) ?_ ?_
    ·refine I ?_;obtain ⟨q30,h⟩:=aB h;refine gE (cf J J q30.1 q30.2) ?_;refine I ?_;refine ar J (fun g31=> ?_) (fun g31=> ?_)
     ·replace h:=ag g31 h;refine I ?_;obtain ⟨y32,hy32,h⟩:=aa h;refine gD (aj (bO hy32 ⟨ae,68, #[], #[],J,mH,fun _ _ hh=>d7 hh⟩) lN J (hD (ao (i:=0) J) ae) bG) ?_;rintro _ _ ⟨_,⟨rfl,rfl⟩,rfl⟩;refine I ?_;exact ⟨_,_,⟨h,J,J⟩,sA,cS [0] 1⟩
     replace h:=ah g31 h;refine I ?_;exact ⟨_,_,⟨h,J,J⟩,sA,cS [0] 1⟩
    rintro _ _ ⟨h,rfl,rfl⟩;refine I ?_;obtain ⟨q33,h⟩:=aB h;refine gE (jE J J q33.1 q33.2) ?_;refine I ?_;exact ⟨m14,_,_,z1 _,⟨p15*2,h,J,J⟩,sA,cS [0] 1⟩
   refine aW (fun s L=>cK N (bd N a1 y13 m14) a1 p15 y13=some r∧s=[(0,Y A1 n1 c1),(1,iV a1),(2,.func (.func 68) #[] #[]),(6,iV p15)]∧L=[js A1 n1 c1 y13]) ?_ ?_
   ·refine I ?_;obtain ⟨q35,h⟩:=aB h;refine gE (cf J J q35.1 q35.2) ?_;refine I ?_;refine ar J (fun g36=> ?_) (fun g36=> ?_)
    ·replace h:=ag g36 h;refine I ?_;obtain ⟨y37,hy37,h⟩:=aa h;refine gD (aj (bO hy37 ⟨ae,68, #[], #[],J,mH,fun _ _ hh=>d7 hh⟩) lN J (hD (ao (i:=0) J) ae) bG) ?_;rintro _ _ ⟨_,⟨rfl,rfl⟩,rfl⟩;refine I ?_;exact ⟨_,_,⟨h,J,J⟩,sA,cS [0] 1⟩
    replace h:=ah g36 h;refine I ?_;exact ⟨_,_,⟨h,J,J⟩,sA,cS [0] 1⟩
   rintro _ _ ⟨h,rfl,rfl⟩;refine I ?_;obtain ⟨q38,h⟩:=aB h;refine gE (jE J J q38.1 q38.2) ?_;refine I ?_;exact ⟨m14,_,_,z1 _,⟨p15*2,h,J,J⟩,sA,cS [0] 1⟩
  replace h:=ah g16 h;refine I ?_;obtain rfl:=ak h;exact d8 J (cS [0] 1) ⟨J,J⟩
 refine I ?_;obtain ⟨y39,hy39,h⟩:=aa h;refine gD (aG (bZ hy39) qX J (aE [] [0] [] 1 J)) ?_;rintro _ _ ⟨_,⟨rfl,rfl⟩,rfl⟩;refine bQ ?_;refine I ?_;refine cO (fun m s L=> ∃p41,bc N a1 y39 m p41=some r∧s=[(0,Y A1 n1 c1),(1,iV a1),(2,.func (.func 68) #[] #[]),(6,iV p41)]∧L=[js A1 n1 c1 y39]) N _ _ ⟨20,h,J,J⟩ sA (cS [0] 1) ?_;rintro (_|m40) _ _ ⟨p41,h,rfl,rfl⟩
 ·exact bu h
 rw [bc.eq_2] at h;refine ax ?_;refine I ?_;refine ar J (fun g42=> ?_) (fun g42=> ?_)
 ·replace h:=ag g42 h;refine I ?_;obtain ⟨q43,h⟩:=aB h;refine gE (jE J J q43.1 q43.2) ?_;refine I ?_;refine aW (fun s L=>(ge N (bc N a1 y39 m40) a1 p41 y39=some r∧s=[(0,Y A1 n1 c1),(1,iV a1),(2,.func (.func 68) #[] #[]),(6,iV p41),(7,iV 0)]∧L=[js A1 n1 c1 y39])∨(∃p46,dL N (bc N a1 y39 m40) a1 p41 y39 p46=some r∧s=[(0,Y A1 n1 c1),(1,iV a1),(2,.func (.func 68) #[] #[]),(6,iV p41),(7,iV p46)]∧L=[js A1 n1 c1 y39])) ?_ ?_
  ·refine gy ?_;refine cO (fun m s L=> ∃p48 p49,cG N (bc N a1 y39 m40) a1 p41 y39 m p48 p49=some r∧s=[(0,Y A1 n1 c1),(1,iV a1),(2,.func (.func 68) #[] #[]),(6,iV p41),(7,iV p48),(8,iV p49)]∧L=[js A1 n1 c1 y39]) N _ _ ⟨0,2*p41,h,J,J⟩ sA (cS [0] 1) ?_;rintro (_|m47) _ _ ⟨p48,p49,h,rfl,rfl⟩
   ·exact bu h
   rw [cG.eq_2] at h;refine ax ?_;refine I ?_;refine ar J (fun g50=> ?_) (fun g50=> ?_)
   ·replace h:=ag g50 h;refine I ?_;obtain ⟨q51,h⟩:=aB h;refine gE (cf J J q51.1 q51.2) ?_;refine I ?_;obtain ⟨y52,hy52,h⟩:=aa h;refine gD (aj (bO hy52 ⟨ae,68, #[], #[],J,mH,fun _ _ hh=>d7 hh⟩) lN J (hD (ao (i:=0) J) ae) bG) ?_;rintro _ _ ⟨_,⟨rfl,rfl⟩,rfl⟩;refine I ?_;obtain ⟨q53,h⟩:=aB h;refine gE (jE J J q53.1 q53.2) ?_;obtain ⟨q54,h⟩:=aB h;refine gE (cf J J q54.1 q54.2) ?_;refine I ?_;exact ⟨m47,_,_,z1 _,⟨p49,p49+(2*p41),h,J,J⟩,sA,cS [0] 1⟩
   replace h:=ah g50 h;refine I ?_;exact ⟨_,_,.inr (⟨p48,h,J,J⟩),sA,cS [0] 1⟩
  rintro _ _ (⟨h,rfl,rfl⟩|⟨p46,h,rfl,rfl⟩)
  ·refine aW (fun s L=>cJ N (bc N a1 y39 m40) a1 p41 y39=some r∧s=[(0,Y A1 n1 c1),(1,iV a1),(2,.func (.func 68) #[] #[]),(6,iV p41)]∧L=[js A1 n1 c1 y39]) ?_ ?_
   ·refine I ?_;obtain ⟨q56,h⟩:=aB h;refine gE (cf J J q56.1 q56.2) ?_;refine I ?_;refine ar J (fun g57=> ?_) (fun g57=> ?_)
    ·replace h:=ag g57 h;refine I ?_;obtain ⟨y58,hy58,h⟩:=aa h;refine gD (aj (bO hy58 ⟨ae,68, #[], #[],J,mH,fun _ _ hh=>d7 hh⟩) lN J (hD (ao (i:=0) J) ae) bG) ?_;rintro _ _ ⟨_,⟨rfl,rfl⟩,rfl⟩;refine I ?_;exact ⟨_,_,⟨h,J,J⟩,sA,cS [0] 1⟩
    replace h:=ah g57 h;refine I ?_;exact ⟨_,_,⟨h,J,J⟩,sA,cS [0] 1⟩
   rintro _ _ ⟨h,rfl,rfl⟩;refine I ?_;obtain ⟨q59,h⟩:=aB h;refine gE (jE J J q59.1 q59.2) ?_;refine I ?_;exact ⟨m40,_,_,z1 _,⟨p41*2,h,J,J⟩,sA,cS [0] 1⟩
  refine aW (fun s L=>cI N (bc N a1 y39 m40) a1 p41 y39=some r∧s=[(0,Y A1 n1 c1),(1,iV a1),(2,.func (.func 68) #[] #[]),(6,iV p41)]∧L=[js A1 n1 c1 y39]) ?_ ?_
  ·refine I ?_;obtain ⟨q61,h⟩:=aB h;refine gE (cf J J q61.1 q61.2) ?_;refine I ?_;refine ar J (fun g62=> ?_) (fun g62=> ?_)
   ·replace h:=ag g62 h;refine I ?_;obtain ⟨y63,hy63,h⟩:=aa h;refine gD (aj (bO hy63 ⟨ae,68, #[], #[],J,mH,fun _ _ hh=>d7 hh⟩) lN J (hD (ao (i:=0) J) ae) bG) ?_;rintro _ _ ⟨_,⟨rfl,rfl⟩,rfl⟩;refine I ?_;exact ⟨_,_,⟨h,J,J⟩,sA,cS [0] 1⟩
   replace h:=ah g62 h;refine I ?_;exact ⟨_,_,⟨h,J,J⟩,sA,cS [0] 1⟩
  rintro _ _ ⟨h,rfl,rfl⟩;refine I ?_;obtain ⟨q64,h⟩:=aB h;refine gE (jE J J q64.1 q64.2) ?_;refine I ?_;exact ⟨m40,_,_,z1 _,⟨p41*2,h,J,J⟩,sA,cS [0] 1⟩
 replace h:=ah g42 h;refine I ?_;obtain rfl:=ak h;exact d8 J (cS [0] 1) ⟨J,J⟩
def dW (N:Nat)(a0:(List zV)):Option (List zV):=
 (eb N a0 (a0.length:Int)).bind fun y2=>some y2
theorem gh {N:Nat}{a0:(List zV)}{r:(List zV)}(h:dW N a0=some r):Okc Tryz.prog 67 [Y A1 n1 c1,.func (.func 68) #[] #[]] ([js A1 n1 c1 a0]) (fun u post=>u=.tuple #[]∧post=[js A1 n1 c1 r]):=by
 refine bm Tryz.func67 J J ?_;simp only [aP];refine I ?_;refine gR (bz 0 J aw J zC) ?_;refine I ?_;obtain ⟨y2,hy2,h⟩:=aa h;refine gD (aG (gz hy2) xp J (aE [] [0] [] 1 J)) ?_;rintro _ _ ⟨_,⟨rfl,rfl⟩,rfl⟩;refine nw ?_;obtain rfl:=ak h;exact d8 J (cS [0] 1) ⟨J,J⟩
def nc (N:Nat)(p3:(List zV)):Option (List zV):=
 (dW N p3).bind fun y19=>some y19
def kn (N:Nat)(kb4:(List zV)→Int→Option (List zV))(a0:(List zV))(p6:Int)(p10:(List zV)):Option (List zV):=
 dX (cc (p6+1)) (kb4 p10 (p6+1))
def fO (N:Nat)(a0:(List zV)):Nat→(List zV)→Int→Option (List zV)
 |0,_,_=>none
 |m4+1,p5,p6=>bif decide (p6<(a0.length:Int)) then ((cj a0 p6).bind fun x11=>(gP N x11).bind fun y13=>bif y13 then (dX (ml (p5.length+([x11]:List zV).length)) (kn N (fO N a0 m4) a0 p6 (p5++([x11]:List zV)))) else (kn N (fO N a0 m4) a0 p6 p5)) else (nc N p5)
def oc (N:Nat)(a0:(List zV)):Option (List zV):=
 fO N a0 N [] 0
theorem qz {N:Nat}{a0:(List zV)}{r:(List zV)}(h:oc N a0=some r):Okc Tryz.prog 42 [Y A1 n1 c1] ([kh kY (Y A1 n1 c1) a0]) (fun u post=> ∃A0 n0 c0,u=Y A0 n0 c0∧post=[js A0 n0 c0 r]):=by
 refine bm Tryz.func42 J J ?_;simp only [aP];refine I ?_;refine aW (fun s L=> ∃p3 A3 n3 c3,nc N p3=some r∧s=[(2,Y none 0 0),(3,Y A3 n3 c3)]∧L=[js A3 n3 c3 p3]) ?_ ?_
 ·refine I ?_;refine gR (bz 0 J aH J zC) ?_;refine I ?_;refine cO (fun m s L=> ∃p5 p6 A5 n5 c5,fO N a0 m p5 p6=some r∧s=[(2,Y none 0 0),(3,Y A5 n5 c5),(6,Y A1 n1 c1),(7,iV (a0.length:Int)),(8,iV p6)]∧L=[js A5 n5 c5 p5,kh kY (Y A1 n1 c1) a0]) N _ _ ⟨[],0,none,0,0,h,J,J⟩ sA ((dB kY 44 _).trans (cS [0,1] 2)) ?_;rintro (_|m4) _ _ ⟨p5,p6,A5,n5,c5,h,rfl,rfl⟩
  ·exact bu h
  rw [fO.eq_2] at h;refine I ?_;refine ax ?_;refine ar J (fun g8=> ?_) (fun g8=> ?_)
  ·replace h:=ag g8 h;refine I ?_;refine aW (fun s L=> ∃p10 A10 n10 c10,kn N (fO N a0 m4) a0 p6 p10=some r∧s=[(2,Y none 0 0),(3,Y A10 n10 c10),(6,Y A1 n1 c1),(7,iV (a0.length:Int)),(8,iV p6)]∧L=[js A10 n10 c10 p10,kh kY (Y A1 n1 c1) a0]) ?_ ?_
   ·refine I ?_;obtain ⟨x11,hx11,h⟩:=aa h;obtain ⟨lx11,ux11,hx11⟩:=aD hx11;refine gR (bh 1 J aH J J zC fm lx11 ux11) ?_;refine gR (bo (us:=[iV x11.Kind,iV x11.N,.string x11.S]) 1 J aH J hx11 cR (fun _ _ _ h=>by rw [show _=_ from h];rfl)) ?_;refine gD (aM rO J) ?_;rintro _ _ ⟨B12,rfl,rfl⟩;refine gO (ap (us:=[iV x11.Kind,iV x11.N,.string x11.S]) (cs':=[iV x11.Kind,iV x11.N,.string x11.S]) 0 J J J J fm J J J) ?_;rintro _ _ rfl;refine I ?_;refine gR (am (us:=[iV x11.Kind,iV x11.N,.string x11.S]) 0 J J cR J) ?_;obtain ⟨y13,hy13,h⟩:=aa h;refine gD (aj (iI hy13) qV J (ae) fN) ?_;rintro _ _ ⟨_,⟨rfl,rfl⟩,rfl⟩;refine I ?_;refine ar J (fun g14=> ?_) (fun g14=> ?_)
    ·replace h:=ag g14 h;refine I ?_;refine gR (am (us:=[iV x11.Kind,iV x11.N,.string x11.S]) 0 J J cR J) ?_;refine gD (bS (R:=kY) (vss:=[[iV x11.Kind,iV x11.N,.string x11.S]]) (xs:=[x11]) J (rF _ _ _) J J (fun _ _ hr=> .cons J All2.nil)) ?_;rintro _ _ ⟨A15,n15,c15,rfl,rfl⟩;obtain ⟨q16,h⟩:=aB h;refine gD (dO 2 0 J J aw J J zC xV J J q16) ?_;rintro _ _ ⟨A17,n17,c17,rfl,rfl⟩;refine I ?_;exact ⟨_,_,⟨p5++([x11]:List zV),A17,n17,c17,h,J,J⟩,sA,cS [2,3] 4⟩
    replace h:=ah g14 h;refine I ?_;exact ⟨_,_,⟨p5,A5,n5,c5,h,J,J⟩,sA,cS [1,2] 3⟩
   rintro _ _ ⟨p10,A10,n10,c10,h,rfl,rfl⟩;refine eM ?_;obtain ⟨q18,h⟩:=aB h;refine gE (cf J J q18.1 q18.2) ?_;refine I ?_;exact ⟨m4,_,_,z1 _,⟨p10,p6+1,A10,n10,c10,h,J,J⟩,sA,cS [0,1] 2⟩
  replace h:=ah g8 h;refine I ?_;exact ⟨_,_,⟨p5,A5,n5,c5,h,J,J⟩,sA,cS [0] 2⟩
 rintro _ _ ⟨p3,A3,n3,c3,h,rfl,rfl⟩;refine I ?_;obtain ⟨y19,hy19,h⟩:=aa h;refine gD (aG (gh hy19) xA J (aE [] [0] [] 1 J)) ?_;rintro _ _ ⟨_,⟨rfl,rfl⟩,rfl⟩;refine bQ ?_;refine I ?_;obtain rfl:=ak h;exact aF J J (cS [0] 1) ⟨_,_,_,J,J⟩
theorem pp {r:(List zV)}: ∀v post,((fun (u:Value) (post:List Chunk)=> ∃A0 n0 c0,u=Y A0 n0 c0∧post=[js A0 n0 c0 r])) v post→ ∀c∈post,bJ c:=by
 rintro _ _ ⟨_,_,_,rfl,rfl⟩;exact hD cF (ae)
def gv (N:Nat)(a0:zP)(a1:zT):Option (List zV):=
 (cx N a0 a1).bind fun y16=>rl y16 (fun y16_0=>some []) (fun y16_1=>(cp N a0).bind fun y35=>(ft N a0.shapes_ y16_1.Cell.Shape).bind fun y36=>(oc N y36).bind fun y38=>some y38)
theorem lf {N:Nat}{a0:zP}{a1:zT}{r:(List zV)}(h:gv N a0 a1=some r):Okc Tryz.prog 13 [pV B1 0,.agg #[iV a1.Kind,iV a1.N,.string a1.S]] ([bv A12 n12 c12 a0.symbols_,cY A13 n13 c13 a0.events_,bv A14 n14 c14 a0.out_,al B1 73 [iV a0.spent_.steps_,iV a0.spent_.made_,iV a0.spent_.calls_,iV a0.config_.Way,iV a0.config_.Steps,iV a0.config_.Calls,iV a0.config_.Made,iV a0.config_.Young,iV a0.config_.Full,iV a0.config_.Sites,.nilIface,pV B2 0,pV B9 0,Y A12 n12 c12,iV a0.epoch_,iV a0.serial_,iV a0.sleepers_,Y A13 n13 c13,Y A14 n14 c14],al B2 99 [Y A3 n3 c3,Y A4 n4 c4,Y A5 n5 c5,Y A6 n6 c6,pV B7 0],bL A3 n3 c3 a0.heap_.m_.Young,bL A4 n4 c4 a0.heap_.m_.Old,aY A5 n5 c5 a0.heap_.roots_,aY A6 n6 c6 a0.heap_.pending_,al B7 143 [.map (some M8)],aQ dc dj M8 a0.heap_.set_.at_,al B9 118 [Y A10 n10 c10,.map (some M11)],dG A10 n10 c10 a0.shapes_.shapes_,aQ aJ di M11 a0.shapes_.next_]) (fun u post=> ∃A500 n500 c500,u=Y A500 n500 c500∧post=[js A500 n500 c500 r,al B1 73 [iV a0.spent_.steps_,iV a0.spent_.made_,iV a0.spent_.calls_,iV a0.config_.Way,iV a0.config_.Steps,iV a0.config_.Calls,iV a0.config_.Made,iV a0.config_.Young,iV a0.config_.Full,iV a0.config_.Sites,.nilIface,pV B2 0,pV B9 0,Y A12 n12 c12,iV a0.epoch_,iV a0.serial_,iV a0.sleepers_,Y A13 n13 c13,Y A14 n14 c14],al B2 99 [Y A3 n3 c3,Y A4 n4 c4,Y A5 n5 c5,Y A6 n6 c6,pV B7 0],bL A3 n3 c3 a0.heap_.m_.Young,bL A4 n4 c4 a0.heap_.m_.Old,aY A5 n5 c5 a0.heap_.roots_,aY A6 n6 c6 a0.heap_.pending_,al B7 143 [.map (some M8)],aQ dc dj M8 a0.heap_.set_.at_,al B9 118 [Y A10 n10 c10,.map (some M11)],dG A10 n10 c10 a0.shapes_.shapes_,aQ aJ di M11 a0.shapes_.next_]):=by
 refine bm Tryz.func13 J J ?_;simp only [aP];refine I ?_;refine gD (aO J J) ?_;rintro _ _ ⟨B15,rfl,rfl⟩;refine I ?_;refine gR (am (us:=[iV a1.Kind,iV a1.N,.string a1.S]) 0 J J aL J) ?_;obtain ⟨y16,hy16,h⟩:=aa h;rcases y16 with y16_0|y16_1
 ·replace h:=rR h;refine gD (aG (bi hy16) dp J (aE [1,2,3] [4,5,6,7,8,9,10,11,12,13,14] [0,1,2,3] 15 J)) ?_;rintro _ _ ⟨_,⟨rfl,rfl⟩,rfl⟩;refine I ?_;refine ax ?_;refine I ?_;refine da J ?_;refine I ?_;obtain rfl:=ak h;exact aF J J ((dB kY 44 _).trans (cS [0,1,2,3,4,5,6,7,8,9,10,11] 16)) ⟨_,_,_,J,J⟩
 replace h:=rQ h;refine gD (aG (bi hy16) dp J (aE [1,2,3] [4,5,6,7,8,9,10,11,12,13,14] [0,1,2,3] 15 J)) ?_;rintro _ _ ⟨_,⟨B18,A19,n19,c19,A20,n20,c20,rfl,rfl⟩,rfl⟩;refine I ?_;refine ax ?_;refine I ?_;refine ed J ?_;refine I ?_;refine ax ?_;refine bn V _ (ab _) ?_;refine zE 0 J (aq J) ?_;refine zE 2 J (aq J) ?_;refine zE 3 J (aC J) ?_;refine zE 4 J (ce J dI) ?_;refine zE 5 J (bp J iK) ?_;refine zR 6 J (aR 0 J J cX J) ?_;obtain ⟨y35,hy35,h⟩:=aa h;refine zD 1 J (aj (cE hy35) pG J (hD (av (i:=3) J) (hD (av (i:=4) J) (hD (ao (i:=5) J) (hD (ao (i:=6) J) (hD (ao (i:=7) J) (hD (ao (i:=8) J) (hD (av (i:=9) J) (hD (aU (i:=10) J) (hD (av (i:=11) J) (hD (ao (i:=12) J) (hD (aU (i:=13) J) (hD (ai (i:=15) J J) (hD (ai (i:=16) J J) (hD (ai (i:=17) J J) ae)))))))))))))) co) ?_;rintro _ _ ⟨_,⟨rfl,rfl⟩,rfl⟩;refine ⟨_,ab _,ab _,?_⟩;obtain ⟨y36,hy36,h⟩:=aa h;refine zD 7 J (aj (io hy36) uC J (hD (av (i:=11) J) (hD (ao (i:=12) J) (hD (aU (i:=13) J) ae))) fZ) ?_;rintro _ _ ⟨_,⟨A37,n37,c37,rfl,rfl⟩,rfl⟩;refine cA (cS [1,2,3,4,5,6,7,8,9,10,11,12,13,14,15,16,17,18] 19) ?_;obtain ⟨y38,hy38,h⟩:=aa h;refine zD 8 J (aj (qz hy38) xE J (hD (ao (i:=0) J) ae) pp) ?_;rintro _ _ ⟨_,⟨A39,n39,c39,rfl,rfl⟩,rfl⟩;refine cA (cS [2,3,4,5,6,7,8,9,10,11,12,13,14,15,16,17,18,19] 20) ?_
 refine zE 9 J (aZ J) ?_;refine be V ?_;refine I ?_;obtain rfl:=ak h;exact aF J J (cS [0,5,6,7,8,9,10,11,12,13,14,15] 20) ⟨_,_,_,J,J⟩
def gW (N:Nat)(a1:zT):Option (List zV):=
 (dv N a1).bind fun y2=>some []
theorem nG {N:Nat}{a1:zT}{r:(List zV)}(h:gW N a1=some r):Okc Tryz.prog 13 [.pointer none,.agg #[iV a1.Kind,iV a1.N,.string a1.S]] ([]) (fun u post=> ∃A0 n0 c0,u=Y A0 n0 c0∧post=[js A0 n0 c0 r]):=by
 refine bm Tryz.func13 J J ?_;simp only [aP];refine I ?_;refine gD (aO J J) ?_;rintro _ _ ⟨B1,rfl,rfl⟩;refine I ?_;refine gR (am (us:=[iV a1.Kind,iV a1.N,.string a1.S]) 0 J J aL J) ?_;obtain ⟨y2,hy2,h⟩:=aa h;refine gD (aj (dP hy2) dp J (ae) dm) ?_;rintro _ _ ⟨_,⟨rfl,rfl⟩,rfl⟩;refine I ?_;refine ax ?_;refine I ?_;refine da J ?_;refine I ?_;obtain rfl:=ak h;exact aF J J ((dB kY 44 _).trans (cS [0] 2)) ⟨_,_,_,J,J⟩
theorem my {r:(List zV)}: ∀v post,((fun (u:Value) (post:List Chunk)=> ∃A0 n0 c0,u=Y A0 n0 c0∧post=[js A0 n0 c0 r])) v post→ ∀c∈post,bJ c:=by
 rintro _ _ ⟨_,_,_,rfl,rfl⟩;exact hD cF (ae)
def gF (N:Nat)(p5:(List Int)):Option (List Int):=
 some p5
def eA (N:Nat)(y6:((List zN))):Nat→(List Int)→Int→Option (List Int)
 |0,_,_=>none
 |m8+1,p9,p10=>bif decide (p10<(y6.length:Int)) then ((cj y6 p10).bind fun x13=>dX (ml (p9.length+([x13.Attrs]:List Int).length)) (dX (cc (p10+1)) ((eA N y6 m8) (p9++([x13.Attrs]:List Int)) (p10+1)))) else (gF N p9)
def iu (N:Nat)(a0:zX)(a1:Int):Option (List Int):=
 (fJ N a0 a1).bind fun y6=>eA N y6 N [] 0
theorem kO {N:Nat}{a0:zX}{a1:Int}{r:(List Int)}(h:iu N a0 a1=some r):Okc Tryz.prog 58 [pV B1 0,iV a1] ([bg B1 118 [Y A2 n2 c2,.map (some M3)],oT A2 n2 c2 a0.shapes_,eW aJ di M3 a0.next_]) (fun u post=> ∃A0 n0 c0,u=Y A0 n0 c0∧post=[dl (iF .i64) 3 (Y A0 n0 c0) r]):=by
 refine bm Tryz.func58 J J ?_;simp only [aP];refine I ?_;refine aW (fun s L=> ∃p5 A5 n5 c5,gF N p5=some r∧s=[(4,Y none 0 0),(5,Y A5 n5 c5)]∧L=[dl (iF .i64) 3 (Y A5 n5 c5) p5]) ?_ ?_
 ·refine I ?_;obtain ⟨y6,hy6,h⟩:=aa h;refine gD (aj (iY hy6) uy J (hD (ai (i:=0) J J) (hD (ai (i:=1) J J) (hD (ai (i:=2) J J) ae))) gB) ?_;rintro _ _ ⟨_,⟨A7,n7,c7,rfl,rfl⟩,rfl⟩;refine gR (bz 0 J aw J zB) ?_;refine I ?_;refine cO (fun m s L=> ∃p9 p10 A9 n9 c9,eA N y6 m p9 p10=some r∧s=[(4,Y none 0 0),(5,Y A9 n9 c9),(10,Y A7 n7 c7),(11,iV (y6.length:Int)),(12,iV p10)]∧L=[dl (iF .i64) 3 (Y A9 n9 c9) p9,dG A7 n7 c7 y6]) N _ _ ⟨[],0,none,0,0,h,J,J⟩ sA ((dB (iF .i64) 3 _).trans (cS [0,1] 5)) ?_;rintro (_|m8) _ _ ⟨p9,p10,A9,n9,c9,h,rfl,rfl⟩
  ·exact bu h
  rw [eA.eq_2] at h;refine I ?_;refine ax ?_;refine ar J (fun g12=> ?_) (fun g12=> ?_)
  ·replace h:=ag g12 h;refine I ?_;refine ax ?_;refine I ?_;obtain ⟨x13,hx13,h⟩:=aa h;obtain ⟨lx13,ux13,hx13⟩:=aD hx13;refine gR (bh 1 J aw J J zB cz lx13 ux13) ?_;refine gR (bo (us:=[iV x13.Up,iV x13.Key.Kind,iV x13.Key.N,.string x13.Key.S,iV x13.Attrs,iV x13.Len]) 1 J aw J hx13 jN (fun _ _ _ h=>by rw [show _=_ from h];rfl)) ?_;refine gD (aM kf J) ?_;rintro _ _ ⟨B14,rfl,rfl⟩;refine gO (ap (us:=[iV x13.Up,iV x13.Key.Kind,iV x13.Key.N,.string x13.Key.S,iV x13.Attrs,iV x13.Len]) (cs':=[iV x13.Up,iV x13.Key.Kind,iV x13.Key.N,.string x13.Key.S,iV x13.Attrs,iV x13.Len]) 0 J J J J cz J J J) ?_;rintro _ _ rfl;refine I ?_;refine gD (bS (R:=(iF .i64)) (vss:=[[iV x13.Attrs]]) (xs:=[x13.Attrs]) J (qp _) J J (fun _ _ hr=> .cons J All2.nil)) ?_;rintro _ _ ⟨A15,n15,c15,rfl,rfl⟩;obtain ⟨q16,h⟩:=aB h;refine gD (dO 2 0 J J aw J J hU yL J J q16) ?_;rintro _ _ ⟨A17,n17,c17,rfl,rfl⟩;refine I ?_;obtain ⟨q18,h⟩:=aB h;refine gE (cf J J q18.1 q18.2) ?_;refine I ?_;exact ⟨m8,_,_,z1 _,⟨p9++([x13.Attrs]:List Int),p10+1,A17,n17,c17,h,J,J⟩,sA,cS [2,3] 4⟩
  replace h:=ah g12 h;refine I ?_;exact ⟨_,_,⟨p9,A9,n9,c9,h,J,J⟩,sA,cS [0] 2⟩
 rintro _ _ ⟨p5,A5,n5,c5,h,rfl,rfl⟩;refine I ?_;obtain rfl:=ak h;exact aF J J (cS [0] 1) ⟨_,_,_,J,J⟩
theorem kj {r:(List Int)}: ∀v post,((fun (u:Value) (post:List Chunk)=> ∃A0 n0 c0,u=Y A0 n0 c0∧post=[dl (iF .i64) 3 (Y A0 n0 c0) r])) v post→ ∀c∈post,bJ c:=by
 rintro _ _ ⟨_,_,_,rfl,rfl⟩;exact hD cF (ae)
def jX (N:Nat)(a0:zP)(p39:(List zS)):Option (List zS):=
 some p39
def gk (N:Nat)(y41:((List zV)))(y36:((List Int)))(y16_1:(zM))(a0:zP):Nat→(List zS)→(List zV)→Int→Option (List zS)
 |0,_,_,_=>none
 |m44+1,p45,p46,p47=>bif decide (p47<(y41.length:Int)) then ((cj p46 p47).bind fun x50=>(cj y36 p47).bind fun x52=>(eZ N (⟨y16_1.Cell,a0,y16_1.at_⟩:zM) p47 x50 x52).bind fun y53=>dX ((p45.length+([y53]:List zS).length)≤549755813888) (dX (cc (p47+1)) ((gk N y41 y36 y16_1 a0 m44) (p45++([y53]:List zS)) p46 (p47+1)))) else (jX N a0 p45)
def ld (N:Nat)(a0:zP)(a1:zT):Option (List zS):=
 (cx N a0 a1).bind fun y16=>rl y16 (fun y16_0=>some []) (fun y16_1=>(cp N a0).bind fun y35=>(iu N a0.shapes_ y16_1.Cell.Shape).bind fun y36=>(cp N a0).bind fun y40=>(ft N a0.shapes_ y16_1.Cell.Shape).bind fun y41=>gk N y41 y36 y16_1 a0 N [] y41 0)
theorem oH {N:Nat}{a0:zP}{a1:zT}{r:(List zS)}(h:ld N a0 a1=some r):Okc Tryz.prog 25 [pV B1 0,.agg #[iV a1.Kind,iV a1.N,.string a1.S]] ([bv A12 n12 c12 a0.symbols_,cY A13 n13 c13 a0.events_,bv A14 n14 c14 a0.out_,al B1 73 [iV a0.spent_.steps_,iV a0.spent_.made_,iV a0.spent_.calls_,iV a0.config_.Way,iV a0.config_.Steps,iV a0.config_.Calls,iV a0.config_.Made,iV a0.config_.Young,iV a0.config_.Full,iV a0.config_.Sites,.nilIface,pV B2 0,pV B9 0,Y A12 n12 c12,iV a0.epoch_,iV a0.serial_,iV a0.sleepers_,Y A13 n13 c13,Y A14 n14 c14],al B2 99 [Y A3 n3 c3,Y A4 n4 c4,Y A5 n5 c5,Y A6 n6 c6,pV B7 0],bL A3 n3 c3 a0.heap_.m_.Young,bL A4 n4 c4 a0.heap_.m_.Old,aY A5 n5 c5 a0.heap_.roots_,aY A6 n6 c6 a0.heap_.pending_,al B7 143 [.map (some M8)],aQ dc dj M8 a0.heap_.set_.at_,al B9 118 [Y A10 n10 c10,.map (some M11)],dG A10 n10 c10 a0.shapes_.shapes_,aQ aJ di M11 a0.shapes_.next_]) (fun u post=> ∃A500 n500 c500,u=Y A500 n500 c500∧post=[dl kX 52 (Y A500 n500 c500) r,al B1 73 [iV a0.spent_.steps_,iV a0.spent_.made_,iV a0.spent_.calls_,iV a0.config_.Way,iV a0.config_.Steps,iV a0.config_.Calls,iV a0.config_.Made,iV a0.config_.Young,iV a0.config_.Full,iV a0.config_.Sites,.nilIface,pV B2 0,pV B9 0,Y A12 n12 c12,iV a0.epoch_,iV a0.serial_,iV a0.sleepers_,Y A13 n13 c13,Y A14 n14 c14],al B2 99 [Y A3 n3 c3,Y A4 n4 c4,Y A5 n5 c5,Y A6 n6 c6,pV B7 0],bL A3 n3 c3 a0.heap_.m_.Young,bL A4 n4 c4 a0.heap_.m_.Old,aY A5 n5 c5 a0.heap_.roots_,aY A6 n6 c6 a0.heap_.pending_,al B7 143 [.map (some M8)],aQ dc dj M8 a0.heap_.set_.at_,al B9 118 [Y A10 n10 c10,.map (some M11)],dG A10 n10 c10 a0.shapes_.shapes_,aQ aJ di M11 a0.shapes_.next_]):=by
 refine bm Tryz.func25 J J ?_;simp only [aP];refine I ?_;refine gD (aO J J) ?_;rintro _ _ ⟨B15,rfl,rfl⟩;refine I ?_;refine gR (am (us:=[iV a1.Kind,iV a1.N,.string a1.S]) 0 J J aL J) ?_;obtain ⟨y16,hy16,h⟩:=aa h;rcases y16 with y16_0|y16_1
 ·replace h:=rR h;refine gD (aG (bi hy16) dp J (aE [1,2,3] [4,5,6,7,8,9,10,11,12,13,14] [0,1,2,3] 15 J)) ?_;rintro _ _ ⟨_,⟨rfl,rfl⟩,rfl⟩;refine I ?_;refine ax ?_;refine I ?_;refine da J ?_;refine I ?_;obtain rfl:=ak h;exact aF J J ((dB kX 52 _).trans (cS [0,1,2,3,4,5,6,7,8,9,10,11] 16)) ⟨_,_,_,J,J⟩
 replace h:=rQ h;refine gD (aG (bi hy16) dp J (aE [1,2,3] [4,5,6,7,8,9,10,11,12,13,14] [0,1,2,3] 15 J)) ?_;rintro _ _ ⟨_,⟨B18,A19,n19,c19,A20,n20,c20,rfl,rfl⟩,rfl⟩;refine I ?_;refine ax ?_;refine I ?_;refine ed J ?_;refine I ?_;refine ax ?_;refine bn V _ (ab _) ?_;refine zE 0 J (aq J) ?_;refine zE 2 J (aq J) ?_;refine zE 3 J (aC J) ?_;refine zE 4 J (ce J dI) ?_;refine zE 5 J (bp J iK) ?_;refine zR 6 J (aR 0 J J cX J) ?_;obtain ⟨y35,hy35,h⟩:=aa h;refine zD 1 J (aj (cE hy35) pG J (hD (av (i:=3) J) (hD (av (i:=4) J) (hD (ao (i:=5) J) (hD (ao (i:=6) J) (hD (ao (i:=7) J) (hD (ao (i:=8) J) (hD (av (i:=9) J) (hD (aU (i:=10) J) (hD (av (i:=11) J) (hD (ao (i:=12) J) (hD (aU (i:=13) J) (hD (ai (i:=15) J J) (hD (ai (i:=16) J J) (hD (ai (i:=17) J J) ae)))))))))))))) co) ?_;rintro _ _ ⟨_,⟨rfl,rfl⟩,rfl⟩;refine ⟨_,ab _,ab _,?_⟩;obtain ⟨y36,hy36,h⟩:=aa h;refine zD 7 J (aj (kO hy36) xC J (hD (av (i:=11) J) (hD (ao (i:=12) J) (hD (aU (i:=13) J) ae))) kj) ?_;rintro _ _ ⟨_,⟨A37,n37,c37,rfl,rfl⟩,rfl⟩;refine cA (cS [1,2,3,4,5,6,7,8,9,10,11,12,13,14,15,16,17,18] 19) ?_;refine zE 8 J (aZ J) ?_;refine be V ?_;refine eH ?_
 refine aW (fun s L=> ∃p39 A39 n39 c39,jX N a0 p39=some r∧s=[(4,Y none 0 0),(7,Y A39 n39 c39)]∧L=[dl kX 52 (Y A39 n39 c39) p39,bv A12 n12 c12 a0.symbols_,cY A13 n13 c13 a0.events_,bv A14 n14 c14 a0.out_,al B1 73 [iV a0.spent_.steps_,iV a0.spent_.made_,iV a0.spent_.calls_,iV a0.config_.Way,iV a0.config_.Steps,iV a0.config_.Calls,iV a0.config_.Made,iV a0.config_.Young,iV a0.config_.Full,iV a0.config_.Sites,.nilIface,pV B2 0,pV B9 0,Y A12 n12 c12,iV a0.epoch_,iV a0.serial_,iV a0.sleepers_,Y A13 n13 c13,Y A14 n14 c14],bL A3 n3 c3 a0.heap_.m_.Young,bL A4 n4 c4 a0.heap_.m_.Old,aY A5 n5 c5 a0.heap_.roots_,aY A6 n6 c6 a0.heap_.pending_,al B2 99 [Y A3 n3 c3,Y A4 n4 c4,Y A5 n5 c5,Y A6 n6 c6,pV B7 0],dG A10 n10 c10 a0.shapes_.shapes_,aQ aJ di M11 a0.shapes_.next_,al B9 118 [Y A10 n10 c10,.map (some M11)],aQ dc dj M8 a0.heap_.set_.at_,al B7 143 [.map (some M8)]]) ?_ ?_
 ·refine ax ?_;obtain ⟨y40,hy40,h⟩:=aa h;obtain ⟨y41,hy41,h⟩:=aa h;refine gS (t:=[(0,pV B1 0),(4,Y none 0 0),(5,pV B18 0),(7,Y none 0 0),(8,Y A37 n37 c37)]) ?_ jQ (ab _)
  refine gx V 10 [] [7,8,9] [27,28,29,30,31,32,33,34,35,36] [[],[0],[],[2],[3],[4],[5],[1,6],[7],[]] [aV (pV B1 0),
aV (pV B9 0),
aV (pV B18 0),
aV (pV B18 0),
aV (pV B18 0),
aV (pV B18 1),
aV (iV y16_1.Cell.Shape),
aX3 (fun (A43:Option Addr) (n43 c43:Nat)=> Y A43 n43 c43) (fun A43 n43 c43=> [js A43 n43 c43 y41]),
aV (iV (y41.length:Int)),
aV (iV 0)] [] (ab _) (jD) V rfl rfl ?_ ?_ ?_
  ·exact jC
  ·refine ad J ?_ ?_
   ·exact ba (aq J) J (aA J (ab _))
   refine ad J ?_ ?_
   ·intro A43 n43 c43;exact dz (bz 0 J aw J zC) J (aA J (ab _))
   refine ad J ?_ ?_
   ·refine jO (aj (io hy41) uC J (hD (av (i:=12) J) (hD (ao (i:=13) J) (hD (aU (i:=14) J) ae))) fZ) J ?_;rintro _ _ ⟨_,⟨A42,n42,c42,rfl,rfl⟩,rfl⟩;exact tI A42 n42 c42 (ab _)
   refine ad J ?_ ?_
   ·exact dz (aR 1 J J cX J) J (aA J (ab _))
   refine ad J ?_ ?_
   ·exact ba (bp J iK) J (aA J (ab _))
   refine ad J ?_ ?_
   ·exact ba (ce J dI) J (aA J (ab _))
   refine ad J ?_ ?_
   ·exact ba (aC J) J (aA J (ab _))
   refine ad J ?_ ?_
   ·exact ba (aq J) J (aA J (ab _))
   refine ad J ?_ ?_
   ·refine jO (aj (cE hy40) pG J (hD (av (i:=4) J) (hD (av (i:=5) J) (hD (ao (i:=6) J) (hD (ao (i:=7) J) (hD (ao (i:=8) J) (hD (ao (i:=9) J) (hD (av (i:=10) J) (hD (aU (i:=11) J) (hD (av (i:=12) J) (hD (ao (i:=13) J) (hD (aU (i:=14) J) (hD (ai (i:=16) J J) (hD (ai (i:=17) J J) (hD (ai (i:=18) J J) ae)))))))))))))) co) J ?_;rintro _ _ ⟨_,⟨rfl,rfl⟩,rfl⟩;exact aA J (ab _)
   refine ad J ?_ ?_
   ·exact ba (aq J) J (aA J (ab _))
   exact ee
  intro A43 n43 c43;refine lz (t:=[(34,Y A43 n43 c43),(35,iV (y41.length:Int)),(36,iV 0),(0,pV B1 0),(4,Y none 0 0),(5,pV B18 0),(7,Y none 0 0),(8,Y A37 n37 c37)]) (L':=[js A43 n43 c43 y41,dl (iF .i64) 3 (Y A37 n37 c37) y36,al B18 88 [iV y16_1.Cell.Kind,iV y16_1.Cell.Shape,iV y16_1.Cell.Flags,iV y16_1.Cell.Age,Y A19 n19 c19,Y A20 n20 c20,pV B1 0,iV y16_1.at_.Kind,iV y16_1.at_.N,.string y16_1.at_.S],aY A19 n19 c19 y16_1.Cell.Slots,aY A20 n20 c20 y16_1.Cell.More,al B1 73 [iV a0.spent_.steps_,iV a0.spent_.made_,iV a0.spent_.calls_,iV a0.config_.Way,iV a0.config_.Steps,iV a0.config_.Calls,iV a0.config_.Made,iV a0.config_.Young,iV a0.config_.Full,iV a0.config_.Sites,.nilIface,pV B2 0,pV B9 0,Y A12 n12 c12,iV a0.epoch_,iV a0.serial_,iV a0.sleepers_,Y A13 n13 c13,Y A14 n14 c14],al B2 99 [Y A3 n3 c3,Y A4 n4 c4,Y A5 n5 c5,Y A6 n6 c6,pV B7 0],bL A3 n3 c3 a0.heap_.m_.Young,bL A4 n4 c4 a0.heap_.m_.Old,aY A5 n5 c5 a0.heap_.roots_,aY A6 n6 c6 a0.heap_.pending_,al B7 143 [.map (some M8)],aQ dc dj M8 a0.heap_.set_.at_,al B9 118 [Y A10 n10 c10,.map (some M11)],dG A10 n10 c10 a0.shapes_.shapes_,aQ aJ di M11 a0.shapes_.next_,al B15 29 [iV a1.Kind,iV a1.N,.string a1.S],bv A12 n12 c12 a0.symbols_,cY A13 n13 c13 a0.events_,bv A14 n14 c14 a0.out_]) ?_ jQ (ab _);refine jP V ?_;refine I ?_
  refine cO (fun m s L=> ∃p45 p46 p47 A45 n45 c45 A46 n46 c46,gk N y41 y36 y16_1 a0 m p45 p46 p47=some r∧s=[(4,Y none 0 0),(5,pV B18 0),(7,Y A45 n45 c45),(8,Y A37 n37 c37),(34,Y A46 n46 c46),(35,iV (y41.length:Int)),(36,iV p47)]∧L=[dl kX 52 (Y A45 n45 c45) p45,dl (iF .i64) 3 (Y A37 n37 c37) y36,js A46 n46 c46 p46,aY A19 n19 c19 y16_1.Cell.Slots,aY A20 n20 c20 y16_1.Cell.More,al B18 88 [iV y16_1.Cell.Kind,iV y16_1.Cell.Shape,iV y16_1.Cell.Flags,iV y16_1.Cell.Age,Y A19 n19 c19,Y A20 n20 c20,pV B1 0,iV y16_1.at_.Kind,iV y16_1.at_.N,.string y16_1.at_.S],bv A12 n12 c12 a0.symbols_,cY A13 n13 c13 a0.events_,bv A14 n14 c14 a0.out_,al B1 73 [iV a0.spent_.steps_,iV a0.spent_.made_,iV a0.spent_.calls_,iV a0.config_.Way,iV a0.config_.Steps,iV a0.config_.Calls,iV a0.config_.Made,iV a0.config_.Young,iV a0.config_.Full,iV a0.config_.Sites,.nilIface,pV B2 0,pV B9 0,Y A12 n12 c12,iV a0.epoch_,iV a0.serial_,iV a0.sleepers_,Y A13 n13 c13,Y A14 n14 c14],bL A3 n3 c3 a0.heap_.m_.Young,bL A4 n4 c4 a0.heap_.m_.Old,aY A5 n5 c5 a0.heap_.roots_,aY A6 n6 c6 a0.heap_.pending_,al B2 99 [Y A3 n3 c3,Y A4 n4 c4,Y A5 n5 c5,Y A6 n6 c6,pV B7 0],dG A10 n10 c10 a0.shapes_.shapes_,aQ aJ di M11 a0.shapes_.next_,al B9 118 [Y A10 n10 c10,.map (some M11)],aQ dc dj M8 a0.heap_.set_.at_,al B7 143 [.map (some M8)]]) N _ _ ⟨[],y41,0,none,0,0,A43,n43,c43,h,J,J⟩ sA ((dB kX 52 _).trans (cS [0,2,1,4,5,3,18,19,20,6,8,9,10,11,7,15,16,14,13,12] 21)) ?_
  rintro (_|m44) _ _ ⟨p45,p46,p47,A45,n45,c45,A46,n46,c46,h,rfl,rfl⟩
  ·exact bu h
  rw [gk.eq_2] at h;refine I ?_;refine ax ?_;refine ar J (fun g49=> ?_) (fun g49=> ?_)
  ·replace h:=ag g49 h;refine I ?_;refine ax ?_;refine I ?_;obtain ⟨x50,hx50,h⟩:=aa h;obtain ⟨lx50,ux50,hx50⟩:=aD hx50;refine gR (bh 2 J aw J J zC fm lx50 ux50) ?_;refine gR (bo (us:=[iV x50.Kind,iV x50.N,.string x50.S]) 2 J aw J hx50 cR (fun _ _ _ h=>by rw [show _=_ from h];rfl)) ?_;refine gD (aM rO J) ?_;rintro _ _ ⟨B51,rfl,rfl⟩;refine I ?_;refine gO (ap (us:=[iV x50.Kind,iV x50.N,.string x50.S]) (cs':=[iV x50.Kind,iV x50.N,.string x50.S]) 0 J J J J fm J J J) ?_;rintro _ _ rfl;refine bQ ?_;refine I ?_;obtain ⟨x52,hx52,h⟩:=aa h;obtain ⟨lx52,ux52,hx52⟩:=aD hx52;refine gS (t:=[(4,Y none 0 0),(5,pV B18 0),(7,Y A45 n45 c45),(8,Y A37 n37 c37),(9,iV p47),(10,pV B51 0),(34,Y A46 n46 c46),(35,iV (y41.length:Int)),(36,iV p47)]) ?_ jQ (ab _)
   refine gx V 8 [0] [0,1,2,3,7] [41,42,43,44,45,46,47,48] [[],[],[],[],[],[],[4,5],[6]] [aV (Y A45 n45 c45),
aV (pV B18 0),
aV (iV p47),
aV (.agg #[iV x50.Kind,iV x50.N,.string x50.S]),
aV (Y A37 n37 c37),
aV (iV p47),
aV (dy (Y A37 n37 c37) p47.toNat 1 0),
aV (iV x52)] [] (ab _) (jq rfl jD) V rfl rfl ?_ ?_ ?_
   ·refine jp J ?_ ?_
    ·exact ov (aq J) J (aA J (ab _))
    exact jC
   ·refine ad J ?_ ?_
    ·exact dz (cq (u:=iV x52) 2 J aw J hx52 cX (fun _ _ _ h=>by rw [show _=_ from h];rfl)) J (aA J (ab _))
    refine ad J ?_ ?_
    ·exact dz (bh 2 J aw J J hU fY lx52 ux52) J (aA J (ab _))
    refine ad J ?_ ?_
    ·exact ba (aq J) J (aA J (ab _))
    refine ad J ?_ ?_
    ·exact ba (aq J) J (aA J (ab _))
    refine ad J ?_ ?_
    ·exact dz (am (us:=[iV x50.Kind,iV x50.N,.string x50.S]) 0 J J cR J) J (aA J (ab _))
    refine ad J ?_ ?_
    ·exact ba (aq J) J (aA J (ab _))
    refine ad J ?_ ?_
    ·exact ba (aq J) J (aA J (ab _))
    refine ad J ?_ ?_
    ·exact ba (aq J) J (aA J (ab _))
    exact ee
   refine lz (t:=[(41,Y A45 n45 c45),(42,pV B18 0),(43,iV p47),(44,.agg #[iV x50.Kind,iV x50.N,.string x50.S]),(48,iV x52),(4,Y none 0 0),(5,pV B18 0),(7,Y A45 n45 c45),(8,Y A37 n37 c37),(9,iV p47),(10,pV B51 0),(34,Y A46 n46 c46),(35,iV (y41.length:Int)),(36,iV p47)]) (L':=[al B51 44 [iV x50.Kind,iV x50.N,.string x50.S],dl kX 52 (Y A45 n45 c45) p45,dl (iF .i64) 3 (Y A37 n37 c37) y36,js A46 n46 c46 p46,aY A19 n19 c19 y16_1.Cell.Slots,aY A20 n20 c20 y16_1.Cell.More,al B18 88 [iV y16_1.Cell.Kind,iV y16_1.Cell.Shape,iV y16_1.Cell.Flags,iV y16_1.Cell.Age,Y A19 n19 c19,Y A20 n20 c20,pV B1 0,iV y16_1.at_.Kind,iV y16_1.at_.N,.string y16_1.at_.S],bv A12 n12 c12 a0.symbols_,cY A13 n13 c13 a0.events_,bv A14 n14 c14 a0.out_,al B1 73 [iV a0.spent_.steps_,iV a0.spent_.made_,iV a0.spent_.calls_,iV a0.config_.Way,iV a0.config_.Steps,iV a0.config_.Calls,iV a0.config_.Made,iV a0.config_.Young,iV a0.config_.Full,iV a0.config_.Sites,.nilIface,pV B2 0,pV B9 0,Y A12 n12 c12,iV a0.epoch_,iV a0.serial_,iV a0.sleepers_,Y A13 n13 c13,Y A14 n14 c14],bL A3 n3 c3 a0.heap_.m_.Young,bL A4 n4 c4 a0.heap_.m_.Old,aY A5 n5 c5 a0.heap_.roots_,aY A6 n6 c6 a0.heap_.pending_,al B2 99 [Y A3 n3 c3,Y A4 n4 c4,Y A5 n5 c5,Y A6 n6 c6,pV B7 0],dG A10 n10 c10 a0.shapes_.shapes_,aQ aJ di M11 a0.shapes_.next_,al B9 118 [Y A10 n10 c10,.map (some M11)],aQ dc dj M8 a0.heap_.set_.at_,al B7 143 [.map (some M8)]]) ?_ jQ (ab _)
   obtain ⟨y53,hy53,h⟩:=aa h;refine oy 8 J V (aj (gM hy53) uz J (hD (av (i:=6) J) (hD (ao (i:=4) J) (hD (ao (i:=5) J) (hD (av (i:=10) J) (hD (av (i:=15) J) (hD (ao (i:=11) J) (hD (ao (i:=12) J) (hD (ao (i:=13) J) (hD (ao (i:=14) J) (hD (av (i:=20) J) (hD (aU (i:=19) J) (hD (av (i:=18) J) (hD (ao (i:=16) J) (hD (aU (i:=17) J) (hD (ai (i:=7) J J) (hD (ai (i:=8) J J) (hD (ai (i:=9) J J) ae))))))))))))))))) fK) J J J ?_;rintro _ _ ⟨_,⟨rfl,rfl⟩,rfl⟩;refine oy 9 J V (bS (R:=kX) (vss:=[[iV y53.Key.Kind,iV y53.Key.N,.string y53.Key.S,iV y53.Attrs,iV y53.Value.Kind,iV y53.Value.N,.string y53.Value.S,iV y53.Get.Kind,iV y53.Get.N,.string y53.Get.S,iV y53.Set.Kind,iV y53.Set.N,.string y53.Set.S]]) (xs:=[y53]) J (uO _ _ _ _ _ _ _ _ _ _ _ _ _) J J (fun _ _ hr=> .cons J All2.nil)) J J J ?_;rintro _ _ ⟨A54,n54,c54,rfl,rfl⟩;obtain ⟨q55,h⟩:=aB h;refine oy 10 J V (pi 2 0 J J aw J J zF yw J J J q55) J J J ?_;rintro _ _ ⟨A56,n56,c56,rfl,rfl⟩;refine pN 11 J V (aZ J) J J J ?_;refine jP V ?_;refine I ?_;obtain ⟨q57,h⟩:=aB h;refine gE (cf J J q57.1 q57.2) ?_;refine I ?_
   exact ⟨m44,_,_,z1 _,⟨p45++([y53]:List zS),p46,p47+1,A56,n56,c56,A46,n46,c46,h,J,J⟩,sA,cS [2,3,4,5,6,7,8,9,10,11,12,13,14,15,16,17,18,19,20,21] 22⟩
  replace h:=ah g49 h;refine I ?_;exact ⟨_,_,⟨p45,A45,n45,c45,h,J,J⟩,sA,cS [0,6,7,8,9,10,11,12,13,14,15,16,17,18,19] 20⟩
 rintro _ _ ⟨p39,A39,n39,c39,h,rfl,rfl⟩;refine I ?_;obtain rfl:=ak h;exact aF J J (cS [0,4,9,5,6,7,8,14,13,12,10,11] 15) ⟨_,_,_,J,J⟩
def le (N:Nat)(a0:zP)(a1:zT):Option zP:=
 (cx N a0 a1).bind fun y16=>rl y16 (fun y16_0=>some a0) (fun y16_1=>(dx N (⟨(⟨y16_1.Cell.Kind,y16_1.Cell.Shape,bW .i64 y16_1.Cell.Flags 1,y16_1.Cell.Age,y16_1.Cell.Slots,y16_1.Cell.More⟩:zL),a0,y16_1.at_⟩:zM) false).bind fun y34=>some y34.w_)
theorem oI {N:Nat}{a0:zP}{a1:zT}{r:zP}(h:le N a0 a1=some r):Okc Tryz.prog 24 [pV B1 0,.agg #[iV a1.Kind,iV a1.N,.string a1.S]] ([bv A12 n12 c12 a0.symbols_,cY A13 n13 c13 a0.events_,bv A14 n14 c14 a0.out_,al B1 73 [iV a0.spent_.steps_,iV a0.spent_.made_,iV a0.spent_.calls_,iV a0.config_.Way,iV a0.config_.Steps,iV a0.config_.Calls,iV a0.config_.Made,iV a0.config_.Young,iV a0.config_.Full,iV a0.config_.Sites,.nilIface,pV B2 0,pV B9 0,Y A12 n12 c12,iV a0.epoch_,iV a0.serial_,iV a0.sleepers_,Y A13 n13 c13,Y A14 n14 c14],al B2 99 [Y A3 n3 c3,Y A4 n4 c4,Y A5 n5 c5,Y A6 n6 c6,pV B7 0],bL A3 n3 c3 a0.heap_.m_.Young,bL A4 n4 c4 a0.heap_.m_.Old,aY A5 n5 c5 a0.heap_.roots_,aY A6 n6 c6 a0.heap_.pending_,al B7 143 [.map (some M8)],aQ dc dj M8 a0.heap_.set_.at_,al B9 118 [Y A10 n10 c10,.map (some M11)],dG A10 n10 c10 a0.shapes_.shapes_,aQ aJ di M11 a0.shapes_.next_]) (fun u post=> ∃A0 n0 c0 A1 n1 c1 A2 n2 c2 A3 n3 c3 M4 A5 n5 c5 M6 A7 n7 c7 A8 n8 c8 A9 n9 c9,u=.tuple #[]∧post=[al B1 73 [iV r.spent_.steps_,iV r.spent_.made_,iV r.spent_.calls_,iV r.config_.Way,iV r.config_.Steps,iV r.config_.Calls,iV r.config_.Made,iV r.config_.Young,iV r.config_.Full,iV r.config_.Sites,.nilIface,pV B2 0,pV B9 0,Y A7 n7 c7,iV r.epoch_,iV r.serial_,iV r.sleepers_,Y A8 n8 c8,Y A9 n9 c9],al B2 99 [Y A0 n0 c0,Y A1 n1 c1,Y A2 n2 c2,Y A3 n3 c3,pV B7 0],bL A0 n0 c0 r.heap_.m_.Young,bL A1 n1 c1 r.heap_.m_.Old,aY A2 n2 c2 r.heap_.roots_,aY A3 n3 c3 r.heap_.pending_,al B7 143 [.map (some M4)],aQ dc dj M4 r.heap_.set_.at_,al B9 118 [Y A5 n5 c5,.map (some M6)],dG A5 n5 c5 r.shapes_.shapes_,aQ aJ di M6 r.shapes_.next_,bv A7 n7 c7 r.symbols_,cY A8 n8 c8 r.events_,bv A9 n9 c9 r.out_]):=by
 refine bm Tryz.func24 J J ?_;simp only [aP];refine I ?_;refine gD (aO J J) ?_;rintro _ _ ⟨B15,rfl,rfl⟩;refine I ?_;refine gR (am (us:=[iV a1.Kind,iV a1.N,.string a1.S]) 0 J J aL J) ?_;obtain ⟨y16,hy16,h⟩:=aa h;rcases y16 with y16_0|y16_1
 ·replace h:=rR h;refine gD (aG (bi hy16) dp J (aE [1,2,3] [4,5,6,7,8,9,10,11,12,13,14] [0,1,2,3] 15 J)) ?_;rintro _ _ ⟨_,⟨rfl,rfl⟩,rfl⟩;refine I ?_;refine ed J ?_;refine kw ?_;obtain rfl:=ak h;exact d8 J (cS [0,1,2,3,4,5,6,7,8,9,10,12,13,14] 15) ⟨_,_,_,_,_,_,_,_,_,_,_,_,_,_,_,_,_,_,_,_,_,_,_,_,_,_,J,J⟩
 replace h:=rQ h;refine gD (aG (bi hy16) dp J (aE [1,2,3] [4,5,6,7,8,9,10,11,12,13,14] [0,1,2,3] 15 J)) ?_;rintro _ _ ⟨_,⟨B17,A18,n18,c18,A19,n19,c19,rfl,rfl⟩,rfl⟩;refine I ?_;refine da J ?_;refine I ?_;refine gE (mm J J) ?_;refine I ?_;refine gO (ap (us:=[iV (bW .i64 y16_1.Cell.Flags 1)]) (cs':=[iV y16_1.Cell.Kind,iV y16_1.Cell.Shape,iV (bW .i64 y16_1.Cell.Flags 1),iV y16_1.Cell.Age,Y A18 n18 c18,Y A19 n19 c19,pV B1 0,iV y16_1.at_.Kind,iV y16_1.at_.N,.string y16_1.at_.S]) 0 J J J J fY J J J) ?_;rintro _ _ rfl;refine bQ ?_;refine I ?_;obtain ⟨y34,hy34,h⟩:=aa h;refine gD (aG (ei hy34) si J (aE [15,16,17] [0,1,2,3,4,5,6,7,8,9,10,11,12,13] [14,15,16,17] 18 J)) ?_;rintro _ _ ⟨_,⟨A35,n35,c35,A36,n36,c36,A37,n37,c37,A38,n38,c38,A39,n39,c39,A40,n40,c40,M41,A42,n42,c42,M43,A44,n44,c44,A45,n45,c45,A46,n46,c46,rfl,rfl⟩,rfl⟩;refine nw ?_;obtain rfl:=ak h;exact d8 J (cS [3,4,5,6,7,8,9,10,11,12,13,14,15,16] 21) ⟨_,_,_,_,_,_,_,_,_,_,_,_,_,_,_,_,_,_,_,_,_,_,_,_,_,_,J,J⟩
def la (N:Nat)(a0:zT)(p4:Int):Option zK:=
 some (⟨51,p4,a0,(⟨0,0,⟨#[]⟩⟩:zT),(⟨0,0,⟨#[]⟩⟩:zT)⟩:zK)
def pe (N:Nat)(a0:zT)(a1:Int):Option zK:=
 bif decide (a1.tmod 8<0) then (dX (cc ((a1.tmod 8)+8)) (la N a0 ((a1.tmod 8)+8))) else (la N a0 (a1.tmod 8))
theorem rq {N:Nat}{a0:zT}{a1:Int}{r:zK}(h:pe N a0 a1=some r):Okc Tryz.prog 38 [.agg #[iV a0.Kind,iV a0.N,.string a0.S],iV a1] ([]) (fun u post=>u=.agg #[iV r.Has,iV r.Attrs,iV r.Value.Kind,iV r.Value.N,.string r.Value.S,iV r.Get.Kind,iV r.Get.N,.string r.Get.S,iV r.Set.Kind,iV r.Set.N,.string r.Set.S]∧post=[]):=by
 refine bm Tryz.func38 J J ?_;simp only [aP];refine I ?_;refine gD (aO J J) ?_;rintro _ _ ⟨B1,rfl,rfl⟩;refine gD (aM wO J) ?_;rintro _ _ ⟨B2,rfl,rfl⟩;refine I ?_;refine gE (jf J J (by decide)) ?_;refine I ?_;refine aW (fun s L=> ∃p4,la N a0 p4=some r∧s=[(2,pV B1 0),(4,pV B2 0),(5,iV p4)]∧L=[al B1 29 [iV a0.Kind,iV a0.N,.string a0.S],al B2 46 [iV 0,iV 0,iV 0,iV 0,.string (⟨#[]⟩),iV 0,iV 0,.string (⟨#[]⟩),iV 0,iV 0,.string (⟨#[]⟩)]]) ?_ ?_
 ·refine I ?_;refine ar J (fun g5=> ?_) (fun g5=> ?_)
  ·replace h:=ag g5 h;refine I ?_;obtain ⟨q6,h⟩:=aB h;refine gE (cf J J q6.1 q6.2) ?_;refine I ?_;exact ⟨_,_,⟨(a1.tmod 8)+8,h,J,J⟩,sA,cS [1,0] 2⟩
  replace h:=ah g5 h;refine I ?_;exact ⟨_,_,⟨a1.tmod 8,h,J,J⟩,sA,cS [1,0] 2⟩
 rintro _ _ ⟨p4,h,rfl,rfl⟩;refine I ?_;refine gR (am (us:=[iV a0.Kind,iV a0.N,.string a0.S]) 0 J J aL J) ?_;refine gE (aI J (rb _ _ _ _ _)) ?_;refine gO (ap (us:=[iV 51,iV p4,iV a0.Kind,iV a0.N,.string a0.S,iV 0,iV 0,.string (⟨#[]⟩),iV 0,iV 0,.string (⟨#[]⟩)]) (cs':=[iV 51,iV p4,iV a0.Kind,iV a0.N,.string a0.S,iV 0,iV 0,.string (⟨#[]⟩),iV 0,iV 0,.string (⟨#[]⟩)]) 1 J J J J wQ J J J) ?_;rintro _ _ rfl;refine I ?_;obtain rfl:=ak h;exact bM (rs:=[.cell 4 46]) (vs:=[.agg #[iV 51,iV p4,iV a0.Kind,iV a0.N,.string a0.S,iV 0,iV 0,.string (⟨#[]⟩),iV 0,iV 0,.string (⟨#[]⟩)]]) J (.cons (bf 1 J J eL) .nil) J (cS [] 2) ⟨J,J⟩
theorem pS {r:zK}: ∀v post,((fun (u:Value) (post:List Chunk)=>u=.agg #[iV r.Has,iV r.Attrs,iV r.Value.Kind,iV r.Value.N,.string r.Value.S,iV r.Get.Kind,iV r.Get.N,.string r.Get.S,iV r.Set.Kind,iV r.Set.N,.string r.Set.S]∧post=[])) v post→ ∀c∈post,bJ c:=by
 rintro _ _ ⟨rfl,rfl⟩;exact ae
def bN (N:Nat)(a0:zK)(a1:Int):Option Bool:=
 some (!decide (aS .i64 a0.Has a1=0))
theorem bI {N:Nat}{a0:zK}{a1:Int}{r:Bool}(h:bN N a0 a1=some r):Okc Tryz.prog 90 [.agg #[iV a0.Has,iV a0.Attrs,iV a0.Value.Kind,iV a0.Value.N,.string a0.Value.S,iV a0.Get.Kind,iV a0.Get.N,.string a0.Get.S,iV a0.Set.Kind,iV a0.Set.N,.string a0.Set.S],iV a1] ([]) (fun u post=>u=.bool r∧post=[]):=by
 refine bm Tryz.func90 J J ?_;simp only [aP];refine I ?_;refine gD (aO J J) ?_;rintro _ _ ⟨B1,rfl,rfl⟩;refine I ?_;refine gE (bB J J) ?_;refine I ?_;obtain rfl:=ak h;exact aF J J (cS [] 1) ⟨J,J⟩
theorem br {r:Bool}: ∀v post,((fun (u:Value) (post:List Chunk)=>u=.bool r∧post=[])) v post→ ∀c∈post,bJ c:=by
 rintro _ _ ⟨rfl,rfl⟩;exact ae
def jg (N:Nat)(p11:Int):Option Int:=
 some p11
def jG (N:Nat)(a0:zK)(p7:Int):Option Int:=
 (bN N a0 32).bind fun y12=>bif y12 then (jg N (bR .i64 p7 4)) else (jg N p7)
def jH (N:Nat)(a0:zK)(p3:Int):Option Int:=
 (bN N a0 16).bind fun y8=>bif y8 then (jG N a0 (bR .i64 p3 2)) else (jG N a0 p3)
def nl (N:Nat)(a0:zK):Option Int:=
 (bN N a0 2).bind fun y4=>bif y4 then (jH N a0 (bR .i64 0 1)) else (jH N a0 0)
theorem pW {N:Nat}{a0:zK}{r:Int}(h:nl N a0=some r):Okc Tryz.prog 92 [.agg #[iV a0.Has,iV a0.Attrs,iV a0.Value.Kind,iV a0.Value.N,.string a0.Value.S,iV a0.Get.Kind,iV a0.Get.N,.string a0.Get.S,iV a0.Set.Kind,iV a0.Set.N,.string a0.Set.S]] ([]) (fun u post=>u=iV r∧post=[]):=by
 refine bm Tryz.func92 J J ?_;simp only [aP];refine I ?_;refine gD (aO J J) ?_;rintro _ _ ⟨B1,rfl,rfl⟩;refine I ?_;refine aW (fun s L=> ∃p3,jH N a0 p3=some r∧s=[(1,pV B1 0),(2,iV 0),(3,iV p3)]∧L=[al B1 46 [iV a0.Has,iV a0.Attrs,iV a0.Value.Kind,iV a0.Value.N,.string a0.Value.S,iV a0.Get.Kind,iV a0.Get.N,.string a0.Get.S,iV a0.Set.Kind,iV a0.Set.N,.string a0.Set.S]]) ?_ ?_
 ·refine I ?_;refine gR (am (us:=[iV a0.Has,iV a0.Attrs,iV a0.Value.Kind,iV a0.Value.N,.string a0.Value.S,iV a0.Get.Kind,iV a0.Get.N,.string a0.Get.S,iV a0.Set.Kind,iV a0.Set.N,.string a0.Set.S]) 0 J J eL J) ?_;obtain ⟨y4,hy4,h⟩:=aa h;refine gD (aj (bI hy4) fe J (ae) br) ?_;rintro _ _ ⟨_,⟨rfl,rfl⟩,rfl⟩;refine I ?_;refine ar J (fun g5=> ?_) (fun g5=> ?_)
  ·replace h:=ag g5 h;refine I ?_;refine gE (gn J J) ?_;refine I ?_;exact ⟨_,_,⟨bR .i64 0 1,h,J,J⟩,sA,cS [0] 1⟩
  replace h:=ah g5 h;refine I ?_;exact ⟨_,_,⟨0,h,J,J⟩,sA,cS [0] 1⟩
 rintro _ _ ⟨p3,h,rfl,rfl⟩;refine aW (fun s L=> ∃p7,jG N a0 p7=some r∧s=[(1,pV B1 0),(2,iV 0),(3,iV p7)]∧L=[al B1 46 [iV a0.Has,iV a0.Attrs,iV a0.Value.Kind,iV a0.Value.N,.string a0.Value.S,iV a0.Get.Kind,iV a0.Get.N,.string a0.Get.S,iV a0.Set.Kind,iV a0.Set.N,.string a0.Set.S]]) ?_ ?_
 ·refine I ?_;refine gR (am (us:=[iV a0.Has,iV a0.Attrs,iV a0.Value.Kind,iV a0.Value.N,.string a0.Value.S,iV a0.Get.Kind,iV a0.Get.N,.string a0.Get.S,iV a0.Set.Kind,iV a0.Set.N,.string a0.Set.S]) 0 J J eL J) ?_;obtain ⟨y8,hy8,h⟩:=aa h;refine gD (aj (bI hy8) fe J (ae) br) ?_;rintro _ _ ⟨_,⟨rfl,rfl⟩,rfl⟩;refine I ?_;refine ar J (fun g9=> ?_) (fun g9=> ?_)
  ·replace h:=ag g9 h;refine I ?_;refine gE (gn J J) ?_;refine I ?_;exact ⟨_,_,⟨bR .i64 p3 2,h,J,J⟩,sA,cS [0] 1⟩
  replace h:=ah g9 h;refine I ?_;exact ⟨_,_,⟨p3,h,J,J⟩,sA,cS [0] 1⟩
 rintro _ _ ⟨p7,h,rfl,rfl⟩;refine aW (fun s L=> ∃p11,jg N p11=some r∧s=[(2,iV 0),(3,iV p11)]∧L=[]) ?_ ?_
 ·refine I ?_;refine gR (am (us:=[iV a0.Has,iV a0.Attrs,iV a0.Value.Kind,iV a0.Value.N,.string a0.Value.S,iV a0.Get.Kind,iV a0.Get.N,.string a0.Get.S,iV a0.Set.Kind,iV a0.Set.N,.string a0.Set.S]) 0 J J eL J) ?_;obtain ⟨y12,hy12,h⟩:=aa h;refine gD (aj (bI hy12) fe J (ae) br) ?_;rintro _ _ ⟨_,⟨rfl,rfl⟩,rfl⟩;refine I ?_;refine ar J (fun g13=> ?_) (fun g13=> ?_)
  ·replace h:=ag g13 h;refine I ?_;refine gE (gn J J) ?_;refine I ?_;exact ⟨_,_,⟨bR .i64 p7 4,h,J,J⟩,sA,cS [] 1⟩
  replace h:=ah g13 h;refine I ?_;exact ⟨_,_,⟨p7,h,J,J⟩,sA,cS [] 1⟩
 rintro _ _ ⟨p11,h,rfl,rfl⟩;refine I ?_;obtain rfl:=ak h;exact aF J J (cS [] 0) ⟨J,J⟩
theorem oL {r:Int}: ∀v post,((fun (u:Value) (post:List Chunk)=>u=iV r∧post=[])) v post→ ∀c∈post,bJ c:=by
 rintro _ _ ⟨rfl,rfl⟩;exact ae
def gY (N:Nat)(a1:zV)(p27:Int)(y29:(Int))(a2:zK)(p31:Int)(p32:Int)(p33:ByteArray)(p37:Int)(p38:Int)(p39:ByteArray)(p43:Int)(p44:Int)(p45:ByteArray):Option zS:=
 some (⟨a1,bR .i64 (bW .i64 p27 y29) (aS .i64 a2.Attrs y29),(⟨p31,p32,p33⟩:zT),(⟨p37,p38,p39⟩:zT),(⟨p43,p44,p45⟩:zT)⟩:zS)
def gZ (N:Nat)(a2:zK)(a1:zV)(p27:Int)(y29:(Int))(p31:Int)(p32:Int)(p33:ByteArray)(p14:Int)(p15:Int)(p16:ByteArray)(p37:Int)(p38:Int)(p39:ByteArray):Option zS:=
 (bN N a2 8).bind fun y46=>bif y46 then (gY N a1 p27 y29 a2 p31 p32 p33 p37 p38 p39 a2.Set.Kind a2.Set.N a2.Set.S) else (gY N a1 p27 y29 a2 p31 p32 p33 p37 p38 p39 p14 p15 p16)
def ia (N:Nat)(a2:zK)(a1:zV)(p27:Int)(y29:(Int))(p11:Int)(p12:Int)(p13:ByteArray)(p14:Int)(p15:Int)(p16:ByteArray)(p31:Int)(p32:Int)(p33:ByteArray):Option zS:=
 (bN N a2 4).bind fun y40=>bif y40 then (gZ N a2 a1 p27 y29 p31 p32 p33 p14 p15 p16 a2.Get.Kind a2.Get.N a2.Get.S) else (gZ N a2 a1 p27 y29 p31 p32 p33 p14 p15 p16 p11 p12 p13)
def ib (N:Nat)(a2:zK)(a1:zV)(p21:Int)(p22:Int)(p23:ByteArray)(p11:Int)(p12:Int)(p13:ByteArray)(p14:Int)(p15:Int)(p16:ByteArray)(p27:Int):Option zS:=
 (nl N a2).bind fun y29=>(bN N a2 1).bind fun y34=>bif y34 then (ia N a2 a1 p27 y29 p11 p12 p13 p14 p15 p16 a2.Value.Kind a2.Value.N a2.Value.S) else (ia N a2 a1 p27 y29 p11 p12 p13 p14 p15 p16 p21 p22 p23)
def ic (N:Nat)(b6:Bool)(a0:zS)(a2:zK)(a1:zV)(p11:Int)(p12:Int)(p13:ByteArray)(p14:Int)(p15:Int)(p16:ByteArray)(p20:Int)(p21:Int)(p22:Int)(p23:ByteArray):Option zS:=
 bif b6 then (ib N a2 a1 p21 p22 p23 p11 p12 p13 p14 p15 p16 (bR .i64 (bR .i64 p20 (aS .i64 a0.Attrs 6)) 8)) else (ib N a2 a1 p21 p22 p23 p11 p12 p13 p14 p15 p16 (bR .i64 p20 (aS .i64 a0.Attrs 6)))
def ie (N:Nat)(a0:zS)(b6:Bool)(a2:zK)(a1:zV)(p11:Int)(p12:Int)(p13:ByteArray)(p14:Int)(p15:Int)(p16:ByteArray):Option zS:=
 (bif !b6 then (some (!(!decide (aS .i64 a0.Attrs 8=0)))) else (some false)).bind fun b24=>bif b24 then (ic N b6 a0 a2 a1 p11 p12 p13 p14 p15 p16 (aS .i64 a0.Attrs 1) a0.Value.Kind a0.Value.N a0.Value.S) else (ic N b6 a0 a2 a1 p11 p12 p13 p14 p15 p16 0 0 0 (⟨#[]⟩))
def jF (N:Nat)(a0:zS)(a1:zV)(a2:zK):Option zS:=
 (bN N a2 12).bind fun y5=>(bif y5 then (some true) else ((bif !decide (aS .i64 a0.Attrs 8=0) then ((bN N a2 3).bind fun y8=>some (!y8)) else (some false)).bind fun b7=>some b7)).bind fun b6=>(bif b6 then (some (!decide (aS .i64 a0.Attrs 8=0))) else (some false)).bind fun b17=>bif b17 then (ie N a0 b6 a2 a1 a0.Get.Kind a0.Get.N a0.Get.S a0.Set.Kind a0.Set.N a0.Set.S) else (ie N a0 b6 a2 a1 0 0 (⟨#[]⟩) 0 0 (⟨#[]⟩))
theorem lm {N:Nat}{a0:zS}{a1:zV}{a2:zK}{r:zS}(h:jF N a0 a1 a2=some r):Okc Tryz.prog 74 [.agg #[iV a0.Key.Kind,iV a0.Key.N,.string a0.Key.S,iV a0.Attrs,iV a0.Value.Kind,iV a0.Value.N,.string a0.Value.S,iV a0.Get.Kind,iV a0.Get.N,.string a0.Get.S,iV a0.Set.Kind,iV a0.Set.N,.string a0.Set.S],.agg #[iV a1.Kind,iV a1.N,.string a1.S],.agg #[iV a2.Has,iV a2.Attrs,iV a2.Value.Kind,iV a2.Value.N,.string a2.Value.S,iV a2.Get.Kind,iV a2.Get.N,.string a2.Get.S,iV a2.Set.Kind,iV a2.Set.N,.string a2.Set.S]] ([]) (fun u post=>u=.agg #[iV r.Key.Kind,iV r.Key.N,.string r.Key.S,iV r.Attrs,iV r.Value.Kind,iV r.Value.N,.string r.Value.S,iV r.Get.Kind,iV r.Get.N,.string r.Get.S,iV r.Set.Kind,iV r.Set.N,.string r.Set.S]∧post=[]):=by
 refine bm Tryz.func74 J J ?_;simp only [aP];refine I ?_;refine gD (aO J J) ?_;rintro _ _ ⟨B1,rfl,rfl⟩;refine gD (aO J J) ?_;rintro _ _ ⟨B2,rfl,rfl⟩;refine gD (aO J J) ?_;rintro _ _ ⟨B3,rfl,rfl⟩;refine gD (aM jz J) ?_;rintro _ _ ⟨B4,rfl,rfl⟩;refine I ?_;refine gE (bB J J) ?_;refine I ?_;refine gR (am (us:=[iV a2.Has,iV a2.Attrs,iV a2.Value.Kind,iV a2.Value.N,.string a2.Value.S,iV a2.Get.Kind,iV a2.Get.N,.string a2.Get.S,iV a2.Set.Kind,iV a2.Set.N,.string a2.Set.S]) 1 J J eL J) ?_;obtain ⟨y5,hy5,h⟩:=aa h;refine gD (aj (bI hy5) fe J (ae) br) ?_;rintro _ _ ⟨_,⟨rfl,rfl⟩,rfl⟩;refine I ?_;obtain ⟨b6,hb6,h⟩:=aa h;refine az 7 24 b6 ?_ ?_
 ·clear h;refine ay 17 J (fun g6=> ?_) (fun g6=> ?_)
  ·have h:=ag g6 hb6;refine I ?_;obtain rfl:=ak h;exact ac sA (cS [0,1,2,3] 4)
  have h:=ah g6 hb6;refine I ?_;obtain ⟨b7,hb7,h⟩:=aa h;refine az 4 23 b7 ?_ ?_
  ·clear h;refine ay 19 J (fun g7=> ?_) (fun g7=> ?_)
   ·have h:=ag g7 hb7;refine bC (am (us:=[iV a2.Has,iV a2.Attrs,iV a2.Value.Kind,iV a2.Value.N,.string a2.Value.S,iV a2.Get.Kind,iV a2.Get.N,.string a2.Get.S,iV a2.Set.Kind,iV a2.Set.N,.string a2.Set.S]) 1 J J eL J) J (aK g7 J) J ?_;obtain ⟨y8,hy8,h⟩:=aa h;refine ck (aj (bI hy8) fe J (ae) br) J (aK g7 J) J ?_;rintro _ _ ⟨_,⟨rfl,rfl⟩,rfl⟩;refine I ?_;obtain rfl:=ak h;exact ac sA (cS [0,1,2,3] 4)
   have h:=ah g7 hb7;refine I ?_;obtain rfl:=ak h;exact ac sA (cS [0,1,2,3] 4)
  refine I ?_;obtain rfl:=ak h;exact ac sA (cS [0,1,2,3] 4)
 refine I ?_;refine gR (am (us:=[iV a1.Kind,iV a1.N,.string a1.S]) 2 J J cR J) ?_;refine gE (aI J (uS _ _ _)) ?_;refine gD (aM jz J) ?_;rintro _ _ ⟨B9,rfl,rfl⟩;refine gO (ap (us:=[iV a1.Kind,iV a1.N,.string a1.S,iV 0,iV 0,iV 0,.string (⟨#[]⟩),iV 0,iV 0,.string (⟨#[]⟩),iV 0,iV 0,.string (⟨#[]⟩)]) (cs':=[iV a1.Kind,iV a1.N,.string a1.S,iV 0,iV 0,iV 0,.string (⟨#[]⟩),iV 0,iV 0,.string (⟨#[]⟩),iV 0,iV 0,.string (⟨#[]⟩)]) 0 J J J J eg J J J) ?_;rintro _ _ rfl;refine I ?_;refine aW (fun s L=> ∃p11 p12 p13 p14 p15 p16,ie N a0 b6 a2 a1 p11 p12 p13 p14 p15 p16=some r∧s=[(3,pV B1 0),(5,pV B3 0),(6,pV B4 0),(7,.bool (!decide (aS .i64 a0.Attrs 8=0))),(8,.bool b6),(9,pV B9 0)]∧L=[al B1 52 [iV a0.Key.Kind,iV a0.Key.N,.string a0.Key.S,iV a0.Attrs,iV a0.Value.Kind,iV a0.Value.N,.string a0.Value.S,iV a0.Get.Kind,iV a0.Get.N,.string a0.Get.S,iV a0.Set.Kind,iV a0.Set.N,.string a0.Set.S],al B3 46 [iV a2.Has,iV a2.Attrs,iV a2.Value.Kind,iV a2.Value.N,.string a2.Value.S,iV a2.Get.Kind,iV a2.Get.N,.string a2.Get.S,iV a2.Set.Kind,iV a2.Set.N,.string a2.Set.S],al B4 52 [iV 0,iV 0,.string (⟨#[]⟩),iV 0,iV 0,iV 0,.string (⟨#[]⟩),iV 0,iV 0,.string (⟨#[]⟩),iV 0,iV 0,.string (⟨#[]⟩)],al B9 52 [iV a1.Kind,iV a1.N,.string a1.S,iV 0,iV 0,iV 0,.string (⟨#[]⟩),iV p11,iV p12,.string p13,iV p14,iV p15,.string p16]]) ?_ ?_
 ·refine I ?_;obtain ⟨b17,hb17,h⟩:=aa h;refine az 2 30 b17 ?_ ?_
  ·clear h;refine ay 28 J (fun g17=> ?_) (fun g17=> ?_)
   ·have h:=ag g17 hb17;refine I ?_;obtain rfl:=ak h;exact ac sA (cS [0,1,2,3,4] 5)
   have h:=ah g17 hb17;refine I ?_;obtain rfl:=ak h;exact ac sA (cS [0,1,2,3,4] 5)
  refine I ?_;refine ar J (fun g18=> ?_) (fun g18=> ?_)
  ·replace h:=ag g18 h;refine bn V ([al B4 52 [iV 0,iV 0,.string (⟨#[]⟩),iV 0,iV 0,iV 0,.string (⟨#[]⟩),iV 0,iV 0,.string (⟨#[]⟩),iV 0,iV 0,.string (⟨#[]⟩)],al B3 46 [iV a2.Has,iV a2.Attrs,iV a2.Value.Kind,iV a2.Value.N,.string a2.Value.S,iV a2.Get.Kind,iV a2.Get.N,.string a2.Get.S,iV a2.Set.Kind,iV a2.Set.N,.string a2.Set.S],al B2 44 [iV a1.Kind,iV a1.N,.string a1.S],al B1 52 [iV a0.Key.Kind,iV a0.Key.N,.string a0.Key.S,iV a0.Attrs,iV a0.Value.Kind,iV a0.Value.N,.string a0.Value.S,iV a0.Get.Kind,iV a0.Get.N,.string a0.Get.S,iV a0.Set.Kind,iV a0.Set.N,.string a0.Set.S]]) (cS [1,2,3,4] 5) ?_;refine zE 0 J (bp J oW) ?_;refine zR 1 J (am (us:=[iV a0.Get.Kind,iV a0.Get.N,.string a0.Get.S]) 3 J J aL J) ?_;refine zE 2 J (bp J oV) ?_;refine zR 3 J (am (us:=[iV a0.Set.Kind,iV a0.Set.N,.string a0.Set.S]) 3 J J aL J) ?_;refine zE 4 J (bp J oW) ?_;refine zO 5 J (ap (us:=[iV a0.Get.Kind,iV a0.Get.N,.string a0.Get.S]) (cs':=[iV a1.Kind,iV a1.N,.string a1.S,iV 0,iV 0,iV 0,.string (⟨#[]⟩),iV a0.Get.Kind,iV a0.Get.N,.string a0.Get.S,iV 0,iV 0,.string (⟨#[]⟩)]) 0 J J J J aN J J J) ?_;rintro _ _ rfl;refine cA (cS [1,2,3,4] 5) ?_;refine zE 6 J (bp J oV) ?_;refine zO 7 J (ap (us:=[iV a0.Set.Kind,iV a0.Set.N,.string a0.Set.S]) (cs':=[iV a1.Kind,iV a1.N,.string a1.S,iV 0,iV 0,iV 0,.string (⟨#[]⟩),iV a0.Get.Kind,iV a0.Get.N,.string a0.Get.S,iV a0.Set.Kind,iV a0.Set.N,.string a0.Set.S]) 0 J J J J aN J J J) ?_;rintro _ _ rfl
   refine cA (cS [1,2,3,4] 5) ?_;refine be V ?_;refine eH ?_;exact ⟨_,_,⟨a0.Get.Kind,a0.Get.N,a0.Get.S,a0.Set.Kind,a0.Set.N,a0.Set.S,h,J,J⟩,sA,cS [4,2,1,0] 5⟩
  replace h:=ah g18 h;refine I ?_;exact ⟨_,_,⟨0,0,⟨#[]⟩,0,0,⟨#[]⟩,h,J,J⟩,sA,cS [4,2,1,0] 5⟩
 rintro _ _ ⟨p11,p12,p13,p14,p15,p16,h,rfl,rfl⟩;refine aW (fun s L=> ∃p20 p21 p22 p23,ic N b6 a0 a2 a1 p11 p12 p13 p14 p15 p16 p20 p21 p22 p23=some r∧s=[(3,pV B1 0),(5,pV B3 0),(6,pV B4 0),(8,.bool b6),(9,pV B9 0)]∧L=[al B1 52 [iV a0.Key.Kind,iV a0.Key.N,.string a0.Key.S,iV a0.Attrs,iV a0.Value.Kind,iV a0.Value.N,.string a0.Value.S,iV a0.Get.Kind,iV a0.Get.N,.string a0.Get.S,iV a0.Set.Kind,iV a0.Set.N,.string a0.Set.S],al B3 46 [iV a2.Has,iV a2.Attrs,iV a2.Value.Kind,iV a2.Value.N,.string a2.Value.S,iV a2.Get.Kind,iV a2.Get.N,.string a2.Get.S,iV a2.Set.Kind,iV a2.Set.N,.string a2.Set.S],al B4 52 [iV 0,iV 0,.string (⟨#[]⟩),iV 0,iV 0,iV 0,.string (⟨#[]⟩),iV 0,iV 0,.string (⟨#[]⟩),iV 0,iV 0,.string (⟨#[]⟩)],al B9 52 [iV a1.Kind,iV a1.N,.string a1.S,iV p20,iV p21,iV p22,.string p23,iV p11,iV p12,.string p13,iV p14,iV p15,.string p16]]) ?_ ?_
 ·refine I ?_;obtain ⟨b24,hb24,h⟩:=aa h;refine az 3 42 b24 ?_ ?_
  ·clear h;refine ay 39 J (fun g24=> ?_) (fun g24=> ?_)
   ·have h:=ag g24 hb24;refine I ?_;obtain rfl:=ak h;exact ac sA (cS [0,1,2,3] 4)
   have h:=ah g24 hb24;refine I ?_;obtain rfl:=ak h;exact ac sA (cS [0,1,2,3] 4)
  refine I ?_;refine ar J (fun g25=> ?_) (fun g25=> ?_)
  ·replace h:=ag g25 h;refine I ?_;refine gR (am (us:=[iV a0.Value.Kind,iV a0.Value.N,.string a0.Value.S]) 0 J J aL J) ?_;refine I ?_;refine gO (ap (us:=[iV a0.Value.Kind,iV a0.Value.N,.string a0.Value.S]) (cs':=[iV a1.Kind,iV a1.N,.string a1.S,iV 0,iV a0.Value.Kind,iV a0.Value.N,.string a0.Value.S,iV p11,iV p12,.string p13,iV p14,iV p15,.string p16]) 3 J J J J aN J J J) ?_;rintro _ _ rfl;refine I ?_;refine gE (bB J J) ?_;refine I ?_;refine gO (ap (us:=[iV (aS .i64 a0.Attrs 1)]) (cs':=[iV a1.Kind,iV a1.N,.string a1.S,iV (aS .i64 a0.Attrs 1),iV a0.Value.Kind,iV a0.Value.N,.string a0.Value.S,iV p11,iV p12,.string p13,iV p14,iV p15,.string p16]) 3 J J J J fY J J J) ?_;rintro _ _ rfl;refine bQ ?_;refine I ?_;exact ⟨_,_,⟨aS .i64 a0.Attrs 1,a0.Value.Kind,a0.Value.N,a0.Value.S,h,J,J⟩,sA,cS [0,1,2,3] 4⟩
  replace h:=ah g25 h;refine I ?_;exact ⟨_,_,⟨0,0,0,⟨#[]⟩,h,J,J⟩,sA,cS [0,1,2,3] 4⟩
 rintro _ _ ⟨p20,p21,p22,p23,h,rfl,rfl⟩;refine I ?_;refine gE (bB J J) ?_;refine gE (gn J J) ?_;refine I ?_;refine gO (ap (us:=[iV (bR .i64 p20 (aS .i64 a0.Attrs 6))]) (cs':=[iV a1.Kind,iV a1.N,.string a1.S,iV (bR .i64 p20 (aS .i64 a0.Attrs 6)),iV p21,iV p22,.string p23,iV p11,iV p12,.string p13,iV p14,iV p15,.string p16]) 3 J J J J fY J J J) ?_;rintro _ _ rfl;refine I ?_;refine aW (fun s L=> ∃p27,ib N a2 a1 p21 p22 p23 p11 p12 p13 p14 p15 p16 p27=some r∧s=[(5,pV B3 0),(6,pV B4 0),(9,pV B9 0)]∧L=[al B3 46 [iV a2.Has,iV a2.Attrs,iV a2.Value.Kind,iV a2.Value.N,.string a2.Value.S,iV a2.Get.Kind,iV a2.Get.N,.string a2.Get.S,iV a2.Set.Kind,iV a2.Set.N,.string a2.Set.S],al B4 52 [iV 0,iV 0,.string (⟨#[]⟩),iV 0,iV 0,iV 0,.string (⟨#[]⟩),iV 0,iV 0,.string (⟨#[]⟩),iV 0,iV 0,.string (⟨#[]⟩)],al B9 52 [iV a1.Kind,iV a1.N,.string a1.S,iV p27,iV p21,iV p22,.string p23,iV p11,iV p12,.string p13,iV p14,iV p15,.string p16]]) ?_ ?_
 ·refine I ?_;refine ar J (fun g28=> ?_) (fun g28=> ?_)
  ·replace h:=ag g28 h;refine I ?_;refine gE (gn J J) ?_;refine I ?_;refine gO (ap (us:=[iV (bR .i64 (bR .i64 p20 (aS .i64 a0.Attrs 6)) 8)]) (cs':=[iV a1.Kind,iV a1.N,.string a1.S,iV (bR .i64 (bR .i64 p20 (aS .i64 a0.Attrs 6)) 8),iV p21,iV p22,.string p23,iV p11,iV p12,.string p13,iV p14,iV p15,.string p16]) 3 J J J J fY J J J) ?_;rintro _ _ rfl;refine I ?_;exact ⟨_,_,⟨bR .i64 (bR .i64 p20 (aS .i64 a0.Attrs 6)) 8,h,J,J⟩,sA,cS [1,2,3] 4⟩
  replace h:=ah g28 h;refine I ?_;exact ⟨_,_,⟨bR .i64 p20 (aS .i64 a0.Attrs 6),h,J,J⟩,sA,cS [1,2,3] 4⟩
 rintro _ _ ⟨p27,h,rfl,rfl⟩;refine I ?_;refine gR (am (us:=[iV a2.Has,iV a2.Attrs,iV a2.Value.Kind,iV a2.Value.N,.string a2.Value.S,iV a2.Get.Kind,iV a2.Get.N,.string a2.Get.S,iV a2.Set.Kind,iV a2.Set.N,.string a2.Set.S]) 0 J J eL J) ?_;obtain ⟨y29,hy29,h⟩:=aa h;refine gD (aj (pW hy29) xo J (ae) oL) ?_;rintro _ _ ⟨_,⟨rfl,rfl⟩,rfl⟩;refine I ?_;refine gE (mm J J) ?_;refine I ?_;refine gE (bB J J) ?_;refine gE (gn J J) ?_;refine I ?_;refine gO (ap (us:=[iV (bR .i64 (bW .i64 p27 y29) (aS .i64 a2.Attrs y29))]) (cs':=[iV a1.Kind,iV a1.N,.string a1.S,iV (bR .i64 (bW .i64 p27 y29) (aS .i64 a2.Attrs y29)),iV p21,iV p22,.string p23,iV p11,iV p12,.string p13,iV p14,iV p15,.string p16]) 2 J J J J fY J J J) ?_;rintro _ _ rfl;refine bQ ?_;refine I ?_;refine aW (fun s L=> ∃p31 p32 p33,ia N a2 a1 p27 y29 p11 p12 p13 p14 p15 p16 p31 p32 p33=some r∧s=[(5,pV B3 0),(6,pV B4 0),(9,pV B9 0)]∧L=[al B3 46 [iV a2.Has,iV a2.Attrs,iV a2.Value.Kind,iV a2.Value.N,.string a2.Value.S,iV a2.Get.Kind,iV a2.Get.N,.string a2.Get.S,iV a2.Set.Kind,iV a2.Set.N,.string a2.Set.S],al B4 52 [iV 0,iV 0,.string (⟨#[]⟩),iV 0,iV 0,iV 0,.string (⟨#[]⟩),iV 0,iV 0,.string (⟨#[]⟩),iV 0,iV 0,.string (⟨#[]⟩)],al B9 52 [iV a1.Kind,iV a1.N,.string a1.S,iV (bR .i64 (bW .i64 p27 y29) (aS .i64 a2.Attrs y29)),iV p31,iV p32,.string p33,iV p11,iV p12,.string p13,iV p14,iV p15,.string p16]]) ?_ ?_
 ·refine I ?_;refine gR (am (us:=[iV a2.Has,iV a2.Attrs,iV a2.Value.Kind,iV a2.Value.N,.string a2.Value.S,iV a2.Get.Kind,iV a2.Get.N,.string a2.Get.S,iV a2.Set.Kind,iV a2.Set.N,.string a2.Set.S]) 0 J J eL J) ?_;obtain ⟨y34,hy34,h⟩:=aa h;refine gD (aj (bI hy34) fe J (ae) br) ?_;rintro _ _ ⟨_,⟨rfl,rfl⟩,rfl⟩;refine I ?_;refine ar J (fun g35=> ?_) (fun g35=> ?_)
  ·replace h:=ag g35 h;refine I ?_;refine gR (am (us:=[iV a2.Value.Kind,iV a2.Value.N,.string a2.Value.S]) 0 J J aL J) ?_;refine I ?_;refine gO (ap (us:=[iV a2.Value.Kind,iV a2.Value.N,.string a2.Value.S]) (cs':=[iV a1.Kind,iV a1.N,.string a1.S,iV (bR .i64 (bW .i64 p27 y29) (aS .i64 a2.Attrs y29)),iV a2.Value.Kind,iV a2.Value.N,.string a2.Value.S,iV p11,iV p12,.string p13,iV p14,iV p15,.string p16]) 2 J J J J aN J J J) ?_;rintro _ _ rfl;refine I ?_;exact ⟨_,_,⟨a2.Value.Kind,a2.Value.N,a2.Value.S,h,J,J⟩,sA,cS [0,1,2] 3⟩
  replace h:=ah g35 h;refine I ?_;exact ⟨_,_,⟨p21,p22,p23,h,J,J⟩,sA,cS [0,1,2] 3⟩
 rintro _ _ ⟨p31,p32,p33,h,rfl,rfl⟩;refine aW (fun s L=> ∃p37 p38 p39,gZ N a2 a1 p27 y29 p31 p32 p33 p14 p15 p16 p37 p38 p39=some r∧s=[(5,pV B3 0),(6,pV B4 0),(9,pV B9 0)]∧L=[al B3 46 [iV a2.Has,iV a2.Attrs,iV a2.Value.Kind,iV a2.Value.N,.string a2.Value.S,iV a2.Get.Kind,iV a2.Get.N,.string a2.Get.S,iV a2.Set.Kind,iV a2.Set.N,.string a2.Set.S],al B4 52 [iV 0,iV 0,.string (⟨#[]⟩),iV 0,iV 0,iV 0,.string (⟨#[]⟩),iV 0,iV 0,.string (⟨#[]⟩),iV 0,iV 0,.string (⟨#[]⟩)],al B9 52 [iV a1.Kind,iV a1.N,.string a1.S,iV (bR .i64 (bW .i64 p27 y29) (aS .i64 a2.Attrs y29)),iV p31,iV p32,.string p33,iV p37,iV p38,.string p39,iV p14,iV p15,.string p16]]) ?_ ?_
 ·refine I ?_;refine gR (am (us:=[iV a2.Has,iV a2.Attrs,iV a2.Value.Kind,iV a2.Value.N,.string a2.Value.S,iV a2.Get.Kind,iV a2.Get.N,.string a2.Get.S,iV a2.Set.Kind,iV a2.Set.N,.string a2.Set.S]) 0 J J eL J) ?_;obtain ⟨y40,hy40,h⟩:=aa h;refine gD (aj (bI hy40) fe J (ae) br) ?_;rintro _ _ ⟨_,⟨rfl,rfl⟩,rfl⟩;refine I ?_;refine ar J (fun g41=> ?_) (fun g41=> ?_)
  ·replace h:=ag g41 h;refine I ?_;refine gR (am (us:=[iV a2.Get.Kind,iV a2.Get.N,.string a2.Get.S]) 0 J J aL J) ?_;refine I ?_;refine gO (ap (us:=[iV a2.Get.Kind,iV a2.Get.N,.string a2.Get.S]) (cs':=[iV a1.Kind,iV a1.N,.string a1.S,iV (bR .i64 (bW .i64 p27 y29) (aS .i64 a2.Attrs y29)),iV p31,iV p32,.string p33,iV a2.Get.Kind,iV a2.Get.N,.string a2.Get.S,iV p14,iV p15,.string p16]) 2 J J J J aN J J J) ?_;rintro _ _ rfl;refine I ?_;exact ⟨_,_,⟨a2.Get.Kind,a2.Get.N,a2.Get.S,h,J,J⟩,sA,cS [0,1,2] 3⟩
  replace h:=ah g41 h;refine I ?_;exact ⟨_,_,⟨p11,p12,p13,h,J,J⟩,sA,cS [0,1,2] 3⟩
 rintro _ _ ⟨p37,p38,p39,h,rfl,rfl⟩;refine aW (fun s L=> ∃p43 p44 p45,gY N a1 p27 y29 a2 p31 p32 p33 p37 p38 p39 p43 p44 p45=some r∧s=[(6,pV B4 0),(9,pV B9 0)]∧L=[al B4 52 [iV 0,iV 0,.string (⟨#[]⟩),iV 0,iV 0,iV 0,.string (⟨#[]⟩),iV 0,iV 0,.string (⟨#[]⟩),iV 0,iV 0,.string (⟨#[]⟩)],al B9 52 [iV a1.Kind,iV a1.N,.string a1.S,iV (bR .i64 (bW .i64 p27 y29) (aS .i64 a2.Attrs y29)),iV p31,iV p32,.string p33,iV p37,iV p38,.string p39,iV p43,iV p44,.string p45]]) ?_ ?_
 ·refine I ?_;refine gR (am (us:=[iV a2.Has,iV a2.Attrs,iV a2.Value.Kind,iV a2.Value.N,.string a2.Value.S,iV a2.Get.Kind,iV a2.Get.N,.string a2.Get.S,iV a2.Set.Kind,iV a2.Set.N,.string a2.Set.S]) 0 J J eL J) ?_;obtain ⟨y46,hy46,h⟩:=aa h;refine gD (aj (bI hy46) fe J (ae) br) ?_;rintro _ _ ⟨_,⟨rfl,rfl⟩,rfl⟩;refine I ?_;refine ar J (fun g47=> ?_) (fun g47=> ?_)
  ·replace h:=ag g47 h;refine I ?_;refine gR (am (us:=[iV a2.Set.Kind,iV a2.Set.N,.string a2.Set.S]) 0 J J aL J) ?_;refine I ?_;refine gO (ap (us:=[iV a2.Set.Kind,iV a2.Set.N,.string a2.Set.S]) (cs':=[iV a1.Kind,iV a1.N,.string a1.S,iV (bR .i64 (bW .i64 p27 y29) (aS .i64 a2.Attrs y29)),iV p31,iV p32,.string p33,iV p37,iV p38,.string p39,iV a2.Set.Kind,iV a2.Set.N,.string a2.Set.S]) 2 J J J J aN J J J) ?_;rintro _ _ rfl;refine bQ ?_;refine I ?_;exact ⟨_,_,⟨a2.Set.Kind,a2.Set.N,a2.Set.S,h,J,J⟩,sA,cS [1,2] 3⟩
  replace h:=ah g47 h;refine I ?_;exact ⟨_,_,⟨p14,p15,p16,h,J,J⟩,sA,cS [1,2] 3⟩
 rintro _ _ ⟨p43,p44,p45,h,rfl,rfl⟩;refine I ?_;refine gR (am (us:=[iV a1.Kind,iV a1.N,.string a1.S,iV (bR .i64 (bW .i64 p27 y29) (aS .i64 a2.Attrs y29)),iV p31,iV p32,.string p33,iV p37,iV p38,.string p39,iV p43,iV p44,.string p45]) 1 J J fi J) ?_;refine gO (ap (us:=[iV a1.Kind,iV a1.N,.string a1.S,iV (bR .i64 (bW .i64 p27 y29) (aS .i64 a2.Attrs y29)),iV p31,iV p32,.string p33,iV p37,iV p38,.string p39,iV p43,iV p44,.string p45]) (cs':=[iV a1.Kind,iV a1.N,.string a1.S,iV (bR .i64 (bW .i64 p27 y29) (aS .i64 a2.Attrs y29)),iV p31,iV p32,.string p33,iV p37,iV p38,.string p39,iV p43,iV p44,.string p45]) 0 J J J J eg J J J) ?_;rintro _ _ rfl;refine I ?_;obtain rfl:=ak h;exact bM (rs:=[.cell 6 52]) (vs:=[.agg #[iV a1.Kind,iV a1.N,.string a1.S,iV (bR .i64 (bW .i64 p27 y29) (aS .i64 a2.Attrs y29)),iV p31,iV p32,.string p33,iV p37,iV p38,.string p39,iV p43,iV p44,.string p45]]) J (.cons (bf 0 J J fi) .nil) J (cS [] 2) ⟨J,J⟩
theorem kb {r:zS}: ∀v post,((fun (u:Value) (post:List Chunk)=>u=.agg #[iV r.Key.Kind,iV r.Key.N,.string r.Key.S,iV r.Attrs,iV r.Value.Kind,iV r.Value.N,.string r.Value.S,iV r.Get.Kind,iV r.Get.N,.string r.Get.S,iV r.Set.Kind,iV r.Set.N,.string r.Set.S]∧post=[])) v post→ ∀c∈post,bJ c:=by
 rintro _ _ ⟨rfl,rfl⟩;exact ae
def oo (N:Nat)(a0:zK)(a1:zV):Option zS:=
 (jF N (⟨(⟨0,0,⟨#[]⟩⟩:zV),0,(⟨0,0,⟨#[]⟩⟩:zT),(⟨0,0,⟨#[]⟩⟩:zT),(⟨0,0,⟨#[]⟩⟩:zT)⟩:zS) a1 a0).bind fun y4=>some y4
theorem qR {N:Nat}{a0:zK}{a1:zV}{r:zS}(h:oo N a0 a1=some r):Okc Tryz.prog 72 [.agg #[iV a0.Has,iV a0.Attrs,iV a0.Value.Kind,iV a0.Value.N,.string a0.Value.S,iV a0.Get.Kind,iV a0.Get.N,.string a0.Get.S,iV a0.Set.Kind,iV a0.Set.N,.string a0.Set.S],.agg #[iV a1.Kind,iV a1.N,.string a1.S]] ([]) (fun u post=>u=.agg #[iV r.Key.Kind,iV r.Key.N,.string r.Key.S,iV r.Attrs,iV r.Value.Kind,iV r.Value.N,.string r.Value.S,iV r.Get.Kind,iV r.Get.N,.string r.Get.S,iV r.Set.Kind,iV r.Set.N,.string r.Set.S]∧post=[]):=by
 refine bm Tryz.func72 J J ?_;simp only [aP];refine I ?_;refine gD (aO J J) ?_;rintro _ _ ⟨B1,rfl,rfl⟩;refine gD (aO J J) ?_;rintro _ _ ⟨B2,rfl,rfl⟩;refine gD (aM jz J) ?_;rintro _ _ ⟨B3,rfl,rfl⟩;refine I ?_;refine gE (aI J (o0)) ?_;refine gR (am (us:=[iV a1.Kind,iV a1.N,.string a1.S]) 1 J J cR J) ?_;refine gR (am (us:=[iV a0.Has,iV a0.Attrs,iV a0.Value.Kind,iV a0.Value.N,.string a0.Value.S,iV a0.Get.Kind,iV a0.Get.N,.string a0.Get.S,iV a0.Set.Kind,iV a0.Set.N,.string a0.Set.S]) 2 J J eL J) ?_;obtain ⟨y4,hy4,h⟩:=aa h;refine gD (aj (lm hy4) uv J (ae) kb) ?_;rintro _ _ ⟨_,⟨rfl,rfl⟩,rfl⟩;refine gO (ap (us:=[iV y4.Key.Kind,iV y4.Key.N,.string y4.Key.S,iV y4.Attrs,iV y4.Value.Kind,iV y4.Value.N,.string y4.Value.S,iV y4.Get.Kind,iV y4.Get.N,.string y4.Get.S,iV y4.Set.Kind,iV y4.Set.N,.string y4.Set.S]) (cs':=[iV y4.Key.Kind,iV y4.Key.N,.string y4.Key.S,iV y4.Attrs,iV y4.Value.Kind,iV y4.Value.N,.string y4.Value.S,iV y4.Get.Kind,iV y4.Get.N,.string y4.Get.S,iV y4.Set.Kind,iV y4.Set.N,.string y4.Set.S]) 0 J J J J eg J J J) ?_;rintro _ _ rfl;refine I ?_;obtain rfl:=ak h;exact bM (rs:=[.cell 4 52]) (vs:=[.agg #[iV y4.Key.Kind,iV y4.Key.N,.string y4.Key.S,iV y4.Attrs,iV y4.Value.Kind,iV y4.Value.N,.string y4.Value.S,iV y4.Get.Kind,iV y4.Get.N,.string y4.Get.S,iV y4.Set.Kind,iV y4.Set.N,.string y4.Set.S]]) J (.cons (bf 0 J J fi) .nil) J (cS [] 3) ⟨J,J⟩
theorem pC {r:zS}: ∀v post,((fun (u:Value) (post:List Chunk)=>u=.agg #[iV r.Key.Kind,iV r.Key.N,.string r.Key.S,iV r.Attrs,iV r.Value.Kind,iV r.Value.N,.string r.Value.S,iV r.Get.Kind,iV r.Get.N,.string r.Get.S,iV r.Set.Kind,iV r.Set.N,.string r.Set.S]∧post=[])) v post→ ∀c∈post,bJ c:=by
 rintro _ _ ⟨rfl,rfl⟩;exact ae
def iN (N:Nat)(a0:zT)(a1:zT):Option Bool:=
 some (decide (a0=a1))
theorem jI {N:Nat}{a0:zT}{a1:zT}{r:Bool}(h:iN N a0 a1=some r):Okc Tryz.prog 91 [.agg #[iV a0.Kind,iV a0.N,.string a0.S],.agg #[iV a1.Kind,iV a1.N,.string a1.S]] ([]) (fun u post=>u=.bool r∧post=[]):=by
 refine bm Tryz.func91 J J ?_;simp only [aP];refine I ?_;refine gD (aO J J) ?_;rintro _ _ ⟨B1,rfl,rfl⟩;refine gD (aO J J) ?_;rintro _ _ ⟨B2,rfl,rfl⟩;refine I ?_;refine gR (am (us:=[iV a0.Kind,iV a0.N,.string a0.S]) 1 J J aL J) ?_;refine gR (am (us:=[iV a1.Kind,iV a1.N,.string a1.S]) 0 J J aL J) ?_;refine gE (pz (x:=a0) (y:=a1) J J) ?_;refine I ?_;obtain rfl:=ak h;exact aF J J (cS [] 2) ⟨J,J⟩
theorem ig {r:Bool}: ∀v post,((fun (u:Value) (post:List Chunk)=>u=.bool r∧post=[])) v post→ ∀c∈post,bJ c:=by
 rintro _ _ ⟨rfl,rfl⟩;exact ae
end Go.Proofs.YtanojiedimeegaaGreat