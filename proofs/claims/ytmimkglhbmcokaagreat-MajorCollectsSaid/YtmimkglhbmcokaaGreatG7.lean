/- Merged texts: part 7. No conditions of their own. -/
import Derived.Test.YtmimkglhbmcokaaGreatG6
import Derived.Test.YtmimkglhbmcokaaGreatG1
import Derived.ProofKit
namespace Go.Proofs.YtmimkglhbmcokaaGreat
section
variable {A1 A2 A3 A4:Option Addr} {c1 c2 c3 c4 n1 n2 n3 n4:Nat}
open Go.RowKit Asn
set_option maxRecDepth 20000
def qk (N:Nat)(a0:Gw):Option Bool:=
 (bif decide (a0.Kind=10) then ((bP N a0).bind fun y5=>some y5) else (some false)).bind fun b4=>some b4
theorem Ar {N:Nat}{a0:Gw}{r:Bool}(h:qk N a0=some r):Okc Tryz.prog 196 [.agg #[iV a0.Kind,iV a0.Shape,iV a0.Flags,iV a0.Age,I A1 n1 c1,I A2 n2 c2]] ([aS A1 n1 c1 a0.Slots,aS A2 n2 c2 a0.More]) (fun u post=>u=.bool r∧post=[]):=by
 refine bx Tryz.func196 J J ?_;simp only [aU];refine V ?_;refine gD (aX J J) ?_;rintro _ _ ⟨B3,rfl,rfl⟩;refine V ?_;obtain ⟨b4,hb4,h⟩:=aa h;refine aD 3 9 b4 ?_ ?_
 ·clear h;refine aE 6 J (fun g4=> ?_) (fun g4=> ?_)
  ·have h:=ag g4 hb4;refine bA (aC (us:=[iV a0.Kind,iV a0.Shape,iV a0.Flags,iV a0.Age,I A1 n1 c1,I A2 n2 c2]) 0 J J bo J) J (aO g4 J) J ?_;obtain ⟨y5,hy5,h⟩:=aa h;refine ca (ak (mD hy5) wD J (hJ (ap (i:=1) J J) (hJ (ap (i:=2) J J) ai)) kF) J (aO g4 J) J ?_;rintro _ _ ⟨_,⟨rfl,rfl⟩,rfl⟩;refine V ?_;obtain rfl:=ao h;exact ad sA (cS [0,1,2] 3)
  have h:=ah g4 hb4;refine V ?_;obtain rfl:=ao h;exact ad sA (cS [0,1,2] 3)
 refine V ?_;obtain rfl:=ao h;exact aL J J (cS [] 3) ⟨J,J⟩
theorem xe {r:Bool}: ∀v post,((fun (u:Value) (post:List Chunk)=>u=.bool r∧post=[])) v post→ ∀c∈post,bR c:=by
 rintro _ _ ⟨rfl,rfl⟩;exact ai
def my (N:Nat):Option Bool:=
 some false
def jZ (N:Nat)(a1:Int)(a0:(List Int)):Nat→Int→Option Bool
 |0,_=>none
 |m3+1,p4=>bif decide (p4<(a0.length:Int)) then ((aH a0 p4).bind fun x6=>bif decide (x6=a1) then (some true) else (bD (in64 (p4+1)) ((jZ N a1 a0 m3) (p4+1)))) else (my N)
def jw (N:Nat)(a0:(List Int))(a1:Int):Option Bool:=
 jZ N a1 a0 N 0
theorem ql {N:Nat}{a0:(List Int)}{a1:Int}{r:Bool}(h:jw N a0 a1=some r):Okc Tryz.prog 197 [I A1 n1 c1,iV a1] ([eM A1 n1 c1 a0]) (fun u post=>u=.bool r∧post=[]):=by
 refine bx Tryz.func197 J J ?_;simp only [aU];refine V ?_;refine aP (fun s L=>my N=some r∧s=[(4,.bool false)]∧L=[]) ?_ ?_
 ·refine V ?_;refine aZ (fun m s L=> ∃p4,jZ N a1 a0 m p4=some r∧s=[(0,I A1 n1 c1),(1,iV a1),(4,.bool false),(5,iV p4)]∧L=[eM A1 n1 c1 a0]) N _ _ ⟨0,h,J,J⟩ sA (cS [0] 1) ?_;rintro (_|m3) _ _ ⟨p4,h,rfl,rfl⟩
  ·exact az h
  rw [jZ.eq_2] at h;refine ay ?_;refine V ?_;refine gR (aG 0 J ae J hU) ?_;refine V ?_;refine aq J (fun g5=> ?_) (fun g5=> ?_)
  ·replace h:=ag g5 h;refine V ?_;refine ay ?_;refine V ?_;obtain ⟨x6,hx6,h⟩:=aa h;obtain ⟨lx6,ux6,hx6⟩:=aj hx6;refine gR (aB 0 J ae J J hU dj lx6 ux6) ?_;refine gR (aW (u:=iV x6) 0 J ae J hx6 cM (fun _ _ _ h=>by rw [show _=_ from h];rfl)) ?_;refine V ?_;refine aq J (fun g7=> ?_) (fun g7=> ?_)
   ·replace h:=ag g7 h;refine V ?_;obtain rfl:=ao h;exact aL J J (cS [] 1) ⟨J,J⟩
   replace h:=ah g7 h;refine V ?_;obtain ⟨q8,h⟩:=am h;refine gE (aT J J q8.1 q8.2) ?_;refine V ?_;exact ⟨m3,_,_,GD _,⟨p4+1,h,J,J⟩,sA,cS [0] 1⟩
  replace h:=ah g5 h;refine V ?_;exact ⟨_,_,⟨h,J,J⟩,sA,cS [] 1⟩
 rintro _ _ ⟨h,rfl,rfl⟩;refine V ?_;obtain rfl:=ao h;exact aL J J (cS [] 0) ⟨J,J⟩
theorem nK {r:Bool}: ∀v post,((fun (u:Value) (post:List Chunk)=>u=.bool r∧post=[])) v post→ ∀c∈post,bR c:=by
 rintro _ _ ⟨rfl,rfl⟩;exact ai
def pE (N:Nat)(a0:Gw)(a1:(List Gu)):Option Gw:=
 bD (bN (([]:List Gu).length+a0.Slots.length)) (some (⟨a0.Kind,a0.Shape,a0.Flags,a0.Age,([]:List Gu)++a0.Slots,a1⟩:Gw))
theorem xd {N:Nat}{a0:Gw}{a1:(List Gu)}{r:Gw}(h:pE N a0 a1=some r):Okc Tryz.prog 198 [.agg #[iV a0.Kind,iV a0.Shape,iV a0.Flags,iV a0.Age,I A1 n1 c1,I A2 n2 c2],I A3 n3 c3] ([aS A1 n1 c1 a0.Slots,aS A2 n2 c2 a0.More,aS A3 n3 c3 a1]) (fun u post=> ∃A0 n0 c0 A1 n1 c1,u=.agg #[iV r.Kind,iV r.Shape,iV r.Flags,iV r.Age,I A0 n0 c0,I A1 n1 c1]∧post=[aS A0 n0 c0 r.Slots,aS A1 n1 c1 r.More]):=by
 refine bx Tryz.func198 J J ?_;simp only [aU];refine V ?_;refine gD (aX J J) ?_;rintro _ _ ⟨B4,rfl,rfl⟩;refine gD (aM dD J) ?_;rintro _ _ ⟨B5,rfl,rfl⟩;refine V ?_;refine ay ?_;refine cy O _ (ab _) ?_;refine zE 0 J (jN J zv) ?_;refine zR 1 J (aR 1 J J cM J) ?_;refine zE 2 J (bQ J zu) ?_;refine zR 3 J (aR 1 J J cM J) ?_;refine zE 4 J (bQ J zt) ?_;refine zR 5 J (aR 1 J J cM J) ?_;refine zE 6 J (bQ J zr) ?_;refine zR 7 J (aR 1 J J cM J) ?_;refine zE 9 J (bQ J iM) ?_;refine zR 10 J (aR 1 J J cz J) ?_;refine zE 12 J (ax J) ?_;refine zD 8 J (aN (R:=aF) (vss:=[]) (xs:=[]) J (oa) J J (fun _ _ hr=>All2.nil)) ?_;rintro _ _ ⟨A6,n6,c6,rfl,rfl⟩;refine gX (cS [1,2,3,4,5] 6) ?_;obtain ⟨q7,h⟩:=am h;refine zD 11 J (ba 0 3 J J ae J J hO nn J J q7) ?_;rintro _ _ ⟨A8,n8,c8,rfl,rfl⟩;refine gX (cS [1,2,3,4,5] 6) ?_;refine zE 13 J (bJ J (pQ _ _ _ _ _ _ _ _ _ _)) ?_;refine oM 14 J O O (au (us:=[iV a0.Kind,iV a0.Shape,iV a0.Flags,iV a0.Age,I A8 n8 c8,I A3 n3 c3]) (cs':=[iV a0.Kind,iV a0.Shape,iV a0.Flags,iV a0.Age,I A8 n8 c8,I A3 n3 c3]) 1 J J J J bu J J J) ?_;rintro _ _ rfl;refine cx O ?_;refine V ?_;obtain rfl:=ao h
 exact dl (rs:=[.cell 4 47]) (vs:=[.agg #[iV a0.Kind,iV a0.Shape,iV a0.Flags,iV a0.Age,I A8 n8 c8,I A3 n3 c3]]) J (.cons (bY 1 J J bo) .nil) J ((cg 0 J).trans (cS [0,5] 6)) ⟨_,_,_,_,_,_,J,J⟩
def jo (N:Nat)(a0:Gw)(p14:(List Gu))(p15:(List Gu)):Option (Gw×(List Gu)):=
 (pE N a0 p14).bind fun y55=>some (y55,p15)
def jn (N:Nat)(kb16:(List Gu)→(List Gu)→Int→Option (Gw×(List Gu)))(p19:Int)(a1:(List Int))(a0:Gw)(p23:(List Gu))(p24:(List Gu)):Option (Gw×(List Gu)):=
 bD (in64 (p19+4)) (kb16 p23 p24 (p19+4))
def jm (N:Nat)(kb16:(List Gu)→(List Gu)→Int→Option (Gw×(List Gu)))(p19:Int)(a1:(List Int))(p17:(List Gu))(p18:(List Gu))(a0:Gw)(p40:Int)(p41:Int)(p42:ByteArray):Option (Gw×(List Gu)):=
 (aH a0.More p19).bind fun x46=>bD (in64 (p19+1)) ((aH a0.More (p19+1)).bind fun x48=>bD (in64 (p19+3)) ((aH a0.More (p19+3)).bind fun x50=>bD (bN (p17.length+([x46,x48,(⟨p40,p41,p42⟩:Gu),x50]:List Gu).length)) (jn N kb16 p19 a1 a0 (p17++([x46,x48,(⟨p40,p41,p42⟩:Gu),x50]:List Gu)) p18)))
def dt (N:Nat)(a1:(List Int))(a0:Gw):Nat→(List Gu)→(List Gu)→Int→Option (Gw×(List Gu))
 |0,_,_,_=>none
 |m16+1,p17,p18,p19=>bif decide (p19<(a0.More.length:Int)) then ((aH a0.More p19).bind fun x25=>(jw N a1 x25.N).bind fun y26=>bif !y26 then ((aH a0.More 0).bind fun x28=>bD (in64 (p19+1)) ((aH a0.More (p19+1)).bind fun x30=>bD (in64 (p19+3)) ((aH a0.More (p19+3)).bind fun x32=>bD (bN (p18.length+([x28,x30,x32]:List Gu).length)) (jn N (dt N a1 a0 m16) p19 a1 a0 p17 (p18++([x28,x30,x32]:List Gu)))))) else (bD (in64 (p19+2)) ((aH a0.More (p19+2)).bind fun x37=>(bif decide (x37.Kind=7) then ((jw N a1 x37.N).bind fun y44=>some (!y44)) else (some false)).bind fun b43=>bif b43 then (jm N (dt N a1 a0 m16) p19 a1 p17 p18 a0 0 0 (⟨#[]⟩)) else (jm N (dt N a1 a0 m16) p19 a1 p17 p18 a0 x37.Kind x37.N x37.S)))) else (jo N a0 p17 p18)
def lh (N:Nat)(a0:Gw)(a1:(List Int)):Option (Gw×(List Gu)):=
 (qk N a0).bind fun y6=>bif !y6 then (some ((⟨0,0,0,0,[],[]⟩:Gw),[])) else ((aH a0.More 0).bind fun x11=>dt N a1 a0 N ([x11]:List Gu) [] 1)
set_option maxHeartbeats 4000000 in
theorem vW {N:Nat}{a0:Gw}{a1:(List Int)}{r:(Gw×(List Gu))}(h:lh N a0 a1=some r):Okc Tryz.prog 123 [.agg #[iV a0.Kind,iV a0.Shape,iV a0.Flags,iV a0.Age,I A1 n1 c1,I A2 n2 c2],I A3 n3 c3] ([aS A1 n1 c1 a0.Slots,aS A2 n2 c2 a0.More,eM A3 n3 c3 a1]) (fun u post=> ∃A0 n0 c0 A1 n1 c1 A2 n2 c2,u=.tuple #[.agg #[iV r.1.Kind,iV r.1.Shape,iV r.1.Flags,iV r.1.Age,I A0 n0 c0,I A1 n1 c1],I A2 n2 c2]∧post=[aS A0 n0 c0 r.1.Slots,aS A1 n1 c1 r.1.More,cB A2 n2 c2 r.2]):=by
 refine bx Tryz.func123 J J ?_;simp only [aU];refine V ?_;refine gD (aX J J) ?_;rintro _ _ ⟨B4,rfl,rfl⟩;refine gD (aM dD J) ?_;rintro _ _ ⟨B5,rfl,rfl⟩;refine V ?_;refine ay ?_;refine V ?_;refine gR (aC (us:=[iV a0.Kind,iV a0.Shape,iV a0.Flags,iV a0.Age,I A1 n1 c1,I A2 n2 c2]) 1 J J bo J) ?_;obtain ⟨y6,hy6,h⟩:=aa h;refine gD (ak (Ar hy6) Dv J (hJ (ap (i:=2) J J) (hJ (ap (i:=3) J J) ai)) xe) ?_;rintro _ _ ⟨_,⟨rfl,rfl⟩,rfl⟩;refine V ?_;refine aq J (fun g7=> ?_) (fun g7=> ?_)
 ·replace h:=ag g7 h;refine V ?_;refine gE (bJ J (oL)) ?_;refine gO (au (us:=[iV 0,iV 0,iV 0,iV 0,I none 0 0,I none 0 0]) (cs':=[iV 0,iV 0,iV 0,iV 0,I none 0 0,I none 0 0]) 0 J J J J bu J J J) ?_;rintro _ _ rfl;refine V ?_;obtain rfl:=ao h;exact dl (rs:=[.cell 4 47,.tmp 5]) (vs:=[.agg #[iV 0,iV 0,iV 0,iV 0,I none 0 0,I none 0 0],I none 0 0]) J (.cons (bY 0 J J bo) (.cons (im J) .nil)) J ((gU aF _).trans ((gU aF _).trans ((bL aF 52 _).trans (cS [2,1,0] 8)))) ⟨_,_,_,_,_,_,_,_,_,J,J⟩
 replace h:=ah g7 h;refine V ?_;obtain ⟨x11,hx11,h⟩:=aa h;obtain ⟨lx11,ux11,hx11⟩:=aj hx11;refine gR (aB 3 J ae J J hO aI lx11 ux11) ?_;refine gR (aQ (us:=ar x11) 3 J ae J hx11 bn (fun _ _ _ h=>by rw [show _=_ from h];rfl)) ?_;refine gD (aN (R:=aF) (vss:=[(ar x11)]) (xs:=[x11]) J (gN _ _ _) J J (fun _ _ hr=> .cons J All2.nil)) ?_;rintro _ _ ⟨A12,n12,c12,rfl,rfl⟩;refine V ?_;refine aP (fun s L=> ∃p14 p15 A14 n14 c14 A15 n15 c15,jo N a0 p14 p15=some r∧s=[(2,pV B4 0),(4,pV B5 0),(5,I none 0 0),(6,I A14 n14 c14),(7,I A15 n15 c15)]∧L=[cB A14 n14 c14 p14,cB A15 n15 c15 p15,aS A1 n1 c1 a0.Slots,aS A2 n2 c2 a0.More,aw B4 47 [iV a0.Kind,iV a0.Shape,iV a0.Flags,iV a0.Age,I A1 n1 c1,I A2 n2 c2],aw B5 47 [iV 0,iV 0,iV 0,iV 0,I none 0 0,I none 0 0]]) ?_ ?_
 ·refine V ?_;refine aZ (fun m s L=> ∃p17 p18 p19 A17 n17 c17 A18 n18 c18,dt N a1 a0 m p17 p18 p19=some r∧s=[(1,I A3 n3 c3),(2,pV B4 0),(4,pV B5 0),(5,I none 0 0),(6,I A17 n17 c17),(7,I A18 n18 c18),(8,iV p19)]∧L=[eM A3 n3 c3 a1,cB A17 n17 c17 p17,cB A18 n18 c18 p18,aS A1 n1 c1 a0.Slots,aS A2 n2 c2 a0.More,aw B4 47 [iV a0.Kind,iV a0.Shape,iV a0.Flags,iV a0.Age,I A1 n1 c1,I A2 n2 c2],aw B5 47 [iV 0,iV 0,iV 0,iV 0,I none 0 0,I none 0 0]]) N _ _ ⟨([x11]:List Gu),[],1,A12,n12,c12,none,0,0,h,J,J⟩ sA ((bL aF 52 _).trans (cS [6,1,0,4,5,3,2] 7)) ?_;rintro (_|m16) _ _ ⟨p17,p18,p19,A17,n17,c17,A18,n18,c18,h,rfl,rfl⟩
  ·exact az h
  rw [dt.eq_2] at h;refine ay ?_;refine V ?_;refine gR (aG 4 J ae J hO) ?_;refine V ?_;refine aq J (fun g21=> ?_) (fun g21=> ?_)
  ·replace h:=ag g21 h;refine V ?_;refine aP (fun s L=> ∃p23 p24 A23 n23 c23 A24 n24 c24,jn N (dt N a1 a0 m16) p19 a1 a0 p23 p24=some r∧s=[(1,I A3 n3 c3),(2,pV B4 0),(4,pV B5 0),(5,I none 0 0),(6,I A23 n23 c23),(7,I A24 n24 c24),(8,iV p19)]∧L=[eM A3 n3 c3 a1,cB A23 n23 c23 p23,cB A24 n24 c24 p24,aS A1 n1 c1 a0.Slots,aS A2 n2 c2 a0.More,aw B4 47 [iV a0.Kind,iV a0.Shape,iV a0.Flags,iV a0.Age,I A1 n1 c1,I A2 n2 c2],aw B5 47 [iV 0,iV 0,iV 0,iV 0,I none 0 0,I none 0 0]]) ?_ ?_
   ·refine cQ ?_;refine ay ?_;refine V ?_;obtain ⟨x25,hx25,h⟩:=aa h;obtain ⟨lx25,ux25,hx25⟩:=aj hx25;refine gR (aB 4 J ae J J hO aI lx25 ux25) ?_;refine gR (lc 4 J ae J (bB lx25 ux25) iL) ?_;refine gR (aW (u:=iV x25.N) 4 J ae J hx25 cM (fun _ _ _ h=>by rw [show _=_ from h];rfl)) ?_;obtain ⟨y26,hy26,h⟩:=aa h;refine gD (ak (ql hy26) zM J (hJ (ap (i:=0) J J) ai) nK) ?_;rintro _ _ ⟨_,⟨rfl,rfl⟩,rfl⟩;refine V ?_;refine aq J (fun g27=> ?_) (fun g27=> ?_)
    ·replace h:=ag g27 h;refine ay ?_;refine cy O ([eM A3 n3 c3 a1,cB A17 n17 c17 p17,aS A1 n1 c1 a0.Slots,aS A2 n2 c2 a0.More,aw B4 47 [iV a0.Kind,iV a0.Shape,iV a0.Flags,iV a0.Age,I A1 n1 c1,I A2 n2 c2],aw B5 47 [iV 0,iV 0,iV 0,iV 0,I none 0 0,I none 0 0]]) (cS [0,1,3,4,5,6] 7) ?_;refine zE 0 J (ax J) ?_;refine zE 1 J (bQ J ce) ?_;refine zR 2 J (aR 4 J J cz J) ?_;obtain ⟨x28,hx28,h⟩:=aa h;obtain ⟨lx28,ux28,hx28⟩:=aj hx28;refine zR 3 J (aB 3 J ae J J hO aI lx28 ux28) ?_;refine zR 4 J (aQ (us:=ar x28) 3 J ae J hx28 bn (fun _ _ _ h=>by rw [show _=_ from h];rfl)) ?_;refine zE 5 J (bQ J ce) ?_;refine zR 6 J (aR 4 J J cz J) ?_;refine zE 7 J (ax J) ?_;obtain ⟨q29,h⟩:=am h;refine zE 8 J (aT J J q29.1 q29.2) ?_;obtain ⟨x30,hx30,h⟩:=aa h;obtain ⟨lx30,ux30,hx30⟩:=aj hx30;refine zR 9 J (aB 3 J ae J J hO aI lx30 ux30) ?_;refine zR 10 J (aQ (us:=ar x30) 3 J ae J hx30 bn (fun _ _ _ h=>by rw [show _=_ from h];rfl)) ?_;refine zE 11 J (bQ J ce) ?_;refine zR 12 J (aR 4 J J cz J) ?_;refine zE 13 J (ax J) ?_;obtain ⟨q31,h⟩:=am h;refine zE 14 J (aT J J q31.1 q31.2) ?_;obtain ⟨x32,hx32,h⟩:=aa h;obtain ⟨lx32,ux32,hx32⟩:=aj hx32;refine zR 15 J (aB 3 J ae J J hO aI lx32 ux32) ?_;refine zR 16 J (aQ (us:=ar x32) 3 J ae J hx32 bn (fun _ _ _ h=>by rw [show _=_ from h];rfl)) ?_
     refine zD 17 J (aN (R:=aF) (vss:=[(ar x28),(ar x30),(ar x32)]) (xs:=[x28,x30,x32]) J (t7 _ _ _ _ _ _ _ _ _) J J (fun _ _ hr=> .cons J (.cons J (.cons J All2.nil)))) ?_;rintro _ _ ⟨A33,n33,c33,rfl,rfl⟩;refine gX (cS [1,2,4,5,6,7] 8) ?_;obtain ⟨q34,h⟩:=am h;refine zD 18 J (ba 3 0 J J aJ J J hO nn J J q34) ?_;rintro _ _ ⟨A35,n35,c35,rfl,rfl⟩;refine gX (cS [1,2,4,5,6,7] 8) ?_;refine zE 19 J (bz J) ?_;refine cx O ?_;refine V ?_;exact ⟨_,_,⟨p17,p18++([x28,x30,x32]:List Gu),A17,n17,c17,A35,n35,c35,h,J,J⟩,sA,cS [1,2,3,4,5,6,7] 8⟩
    replace h:=ah g27 h;refine V ?_;obtain ⟨q36,h⟩:=am h;refine gE (aT J J q36.1 q36.2) ?_;obtain ⟨x37,hx37,h⟩:=aa h;obtain ⟨lx37,ux37,hx37⟩:=aj hx37;refine gR (aB 4 J ae J J hO aI lx37 ux37) ?_;refine gR (aQ (us:=ar x37) 4 J ae J hx37 bn (fun _ _ _ h=>by rw [show _=_ from h];rfl)) ?_;refine gD (aM gr J) ?_;rintro _ _ ⟨B38,rfl,rfl⟩;refine gO (au (us:=ar x37) (cs':=ar x37) 0 J J J J aI J J J) ?_;rintro _ _ rfl;refine V ?_;refine aP (fun s L=> ∃p40 p41 p42,jm N (dt N a1 a0 m16) p19 a1 p17 p18 a0 p40 p41 p42=some r∧s=[(1,I A3 n3 c3),(2,pV B4 0),(4,pV B5 0),(5,I none 0 0),(6,I A17 n17 c17),(7,I A18 n18 c18),(8,iV p19),(9,pV B38 0)]∧L=[eM A3 n3 c3 a1,cB A17 n17 c17 p17,cB A18 n18 c18 p18,aS A1 n1 c1 a0.Slots,aS A2 n2 c2 a0.More,aw B4 47 [iV a0.Kind,iV a0.Shape,iV a0.Flags,iV a0.Age,I A1 n1 c1,I A2 n2 c2],aw B5 47 [iV 0,iV 0,iV 0,iV 0,I none 0 0,I none 0 0],aw B38 52 [iV p40,iV p41,.string p42]]) ?_ ?_
    ·refine V ?_;obtain ⟨b43,hb43,h⟩:=aa h;refine aD 6 69 b43 ?_ ?_
     ·clear h;refine aE 63 J (fun g43=> ?_) (fun g43=> ?_)
      ·have h:=ag g43 hb43;refine V ?_;obtain ⟨y44,hy44,h⟩:=aa h;refine ca (ak (ql hy44) zM J (hJ (ap (i:=1) J J) ai) nK) J (aO g43 J) J ?_;rintro _ _ ⟨_,⟨rfl,rfl⟩,rfl⟩;refine V ?_;obtain rfl:=ao h;exact ad sA (cS [0,1,2,3,4,5,6,7] 8)
      have h:=ah g43 hb43;refine V ?_;obtain rfl:=ao h;exact ad sA (cS [0,1,2,3,4,5,6,7] 8)
     refine V ?_;refine aq J (fun g45=> ?_) (fun g45=> ?_)
     ·replace h:=ag g45 h;refine dA ?_;refine gE (bJ J (wG)) ?_;refine gO (au (us:=[iV 0,iV 0,.string (⟨#[]⟩)]) (cs':=[iV 0,iV 0,.string (⟨#[]⟩)]) 0 J J J J aI J J J) ?_;rintro _ _ rfl;refine bX ?_;refine V ?_;exact ⟨_,_,⟨0,0,⟨#[]⟩,h,J,J⟩,sA,cS [1,2,3,4,5,6,7,0] 8⟩
     replace h:=ah g45 h;refine V ?_;exact ⟨_,_,⟨x37.Kind,x37.N,x37.S,h,J,J⟩,sA,cS [1,2,3,4,5,6,7,0] 8⟩
    rintro _ _ ⟨p40,p41,p42,h,rfl,rfl⟩;refine cy O ([eM A3 n3 c3 a1,cB A18 n18 c18 p18,aS A1 n1 c1 a0.Slots,aS A2 n2 c2 a0.More,aw B4 47 [iV a0.Kind,iV a0.Shape,iV a0.Flags,iV a0.Age,I A1 n1 c1,I A2 n2 c2],aw B5 47 [iV 0,iV 0,iV 0,iV 0,I none 0 0,I none 0 0],aw B38 52 [iV p40,iV p41,.string p42]]) (cS [0,2,3,4,5,6,7] 8) ?_;refine zE 0 J (ax J) ?_;refine zE 1 J (bQ J ce) ?_;refine zR 2 J (aR 4 J J cz J) ?_;refine zE 3 J (ax J) ?_;obtain ⟨x46,hx46,h⟩:=aa h;obtain ⟨lx46,ux46,hx46⟩:=aj hx46;refine zR 4 J (aB 3 J ae J J hO aI lx46 ux46) ?_;refine zR 5 J (aQ (us:=ar x46) 3 J ae J hx46 bn (fun _ _ _ h=>by rw [show _=_ from h];rfl)) ?_;refine zE 6 J (bQ J ce) ?_;refine zR 7 J (aR 4 J J cz J) ?_;refine zE 8 J (ax J) ?_;obtain ⟨q47,h⟩:=am h;refine zE 9 J (aT J J q47.1 q47.2) ?_;obtain ⟨x48,hx48,h⟩:=aa h;obtain ⟨lx48,ux48,hx48⟩:=aj hx48;refine zR 10 J (aB 3 J ae J J hO aI lx48 ux48) ?_;refine zR 11 J (aQ (us:=ar x48) 3 J ae J hx48 bn (fun _ _ _ h=>by rw [show _=_ from h];rfl)) ?_;refine zR 12 J (aC (us:=[iV p40,iV p41,.string p42]) 6 J J bn J) ?_;refine zE 13 J (bQ J ce) ?_;refine zR 14 J (aR 4 J J cz J) ?_;refine zE 15 J (ax J) ?_;obtain ⟨q49,h⟩:=am h;refine zE 16 J (aT J J q49.1 q49.2) ?_;obtain ⟨x50,hx50,h⟩:=aa h;obtain ⟨lx50,ux50,hx50⟩:=aj hx50;refine zR 17 J (aB 3 J ae J J hO aI lx50 ux50) ?_
    refine zR 18 J (aQ (us:=ar x50) 3 J ae J hx50 bn (fun _ _ _ h=>by rw [show _=_ from h];rfl)) ?_;refine zD 19 J (aN (R:=aF) (vss:=[(ar x46),(ar x48),[iV p40,iV p41,.string p42],(ar x50)]) (xs:=[x46,x48,(⟨p40,p41,p42⟩:Gu),x50]) J (xQ _ _ _ _ _ _ _ _ _ _ _ _) J J (fun _ _ hr=> .cons J (.cons J (.cons J (.cons J All2.nil))))) ?_;rintro _ _ ⟨A51,n51,c51,rfl,rfl⟩;refine gX (cS [1,3,4,5,6,7,8] 9) ?_;obtain ⟨q52,h⟩:=am h;refine zD 20 J (ba 2 0 J J aJ J J hO nn J J q52) ?_;rintro _ _ ⟨A53,n53,c53,rfl,rfl⟩;refine gX (cS [1,3,4,5,6,7,8] 9) ?_;refine zE 21 J (bz J) ?_;refine cx O ?_;refine V ?_;exact ⟨_,_,⟨p17++([x46,x48,(⟨p40,p41,p42⟩:Gu),x50]:List Gu),p18,A53,n53,c53,A18,n18,c18,h,J,J⟩,sA,cS [1,2,3,4,5,6,7] 9⟩
   rintro _ _ ⟨p23,p24,A23,n23,c23,A24,n24,c24,h,rfl,rfl⟩;refine V ?_;obtain ⟨q54,h⟩:=am h;refine gE (aT J J q54.1 q54.2) ?_;refine V ?_;exact ⟨m16,_,_,GD _,⟨p23,p24,p19+4,A23,n23,c23,A24,n24,c24,h,J,J⟩,sA,cS [0,1,2,3,4,5,6] 7⟩
  replace h:=ah g21 h;refine V ?_;exact ⟨_,_,⟨p17,p18,A17,n17,c17,A18,n18,c18,h,J,J⟩,sA,cS [1,2,3,4,5,6] 7⟩
 rintro _ _ ⟨p14,p15,A14,n14,c14,A15,n15,c15,h,rfl,rfl⟩;refine V ?_;refine gR (aC (us:=[iV a0.Kind,iV a0.Shape,iV a0.Flags,iV a0.Age,I A1 n1 c1,I A2 n2 c2]) 4 J J bo J) ?_;refine V ?_;obtain ⟨y55,hy55,h⟩:=aa h;refine kT (cg 0 J) ?_;refine gD (cw (xd hy55) Du J (bq [2,3,0] [] [0,1,2,3,4,5] 6 J)) ?_;rintro _ _ ⟨_,⟨A56,n56,c56,A57,n57,c57,rfl,rfl⟩,rfl⟩;refine V ?_;refine gO (au (us:=[iV y55.Kind,iV y55.Shape,iV y55.Flags,iV y55.Age,I A56 n56 c56,I A57 n57 c57]) (cs':=[iV y55.Kind,iV y55.Shape,iV y55.Flags,iV y55.Age,I A56 n56 c56,I A57 n57 c57]) 7 J J J J bu J J J) ?_;rintro _ _ rfl;refine bX ?_;refine V ?_;obtain rfl:=ao h;exact dl (rs:=[.cell 4 47,.tmp 5]) (vs:=[.agg #[iV y55.Kind,iV y55.Shape,iV y55.Flags,iV y55.Age,I A56 n56 c56,I A57 n57 c57],I A15 n15 c15]) J (.cons (bY 7 J J bo) (.cons (im J) .nil)) J (cS [0,1,3] 8) ⟨_,_,_,_,_,_,_,_,_,J,J⟩
def mB (N:Nat)(a0:Gu):Option Gu:=
 some a0
def lG (N:Nat)(kb8:Int→Option Gu)(p9:Int)(a1:(List Int))(a2:(List Int))(a0:Gu)(p14:Int):Option Gu:=
 some (⟨a0.Kind,p14,a0.S⟩:Gu)
def fv (N:Nat)(a1:(List Int))(a2:(List Int))(a0:Gu):Nat→Int→Option Gu
 |0,_=>none
 |m8+1,p9=>bif decide (p9<(a1.length:Int)) then ((aH a1 p9).bind fun x11=>bif decide (x11=a0.N) then (bif decide (p9<(a2.length:Int)) then ((aH a2 p9).bind fun x16=>lG N (fv N a1 a2 a0 m8) p9 a1 a2 a0 x16) else (lG N (fv N a1 a2 a0 m8) p9 a1 a2 a0 a0.N)) else (bD (in64 (p9+1)) ((fv N a1 a2 a0 m8) (p9+1)))) else (mB N a0)
def jy (N:Nat)(a0:Gu)(a1:(List Int))(a2:(List Int)):Option Gu:=
 (i3 N a0).bind fun y5=>bif !y5 then (some a0) else (fv N a1 a2 a0 N 0)
set_option maxHeartbeats 4000000 in
theorem qm {N:Nat}{a0:Gu}{a1:(List Int)}{a2:(List Int)}{r:Gu}(h:jy N a0 a1 a2=some r):Okc Tryz.prog 199 [(bd a0),I A1 n1 c1,I A2 n2 c2] ([eM A1 n1 c1 a1,eM A2 n2 c2 a2]) (fun u post=>u=(bd r)∧post=[]):=by
 refine bx Tryz.func199 J J ?_;simp only [aU];refine V ?_;refine gD (aX J J) ?_;rintro _ _ ⟨B3,rfl,rfl⟩;refine gD (aM gr J) ?_;rintro _ _ ⟨B4,rfl,rfl⟩;refine V ?_;refine ay ?_;refine V ?_;refine gR (aC (us:=ar a0) 1 J J bn J) ?_;obtain ⟨y5,hy5,h⟩:=aa h;refine gD (ak (mC hy5) sG J (ai) kc) ?_;rintro _ _ ⟨_,⟨rfl,rfl⟩,rfl⟩;refine V ?_;refine aq J (fun g6=> ?_) (fun g6=> ?_)
 ·replace h:=ag g6 h;refine V ?_;refine gR (aC (us:=ar a0) 1 J J bn J) ?_;refine gO (au (us:=ar a0) (cs':=ar a0) 0 J J J J aI J J J) ?_;rintro _ _ rfl;refine V ?_;obtain rfl:=ao h;exact dl (rs:=[.cell 6 52]) (vs:=[(bd a0)]) J (.cons (bY 0 J J bn) .nil) J (cS [] 4) ⟨J,J⟩
 replace h:=ah g6 h;refine V ?_;refine aP (fun s L=>mB N a0=some r∧s=[(3,pV B3 0),(6,pV B4 0)]∧L=[aw B3 52 (ar a0),aw B4 52 [iV 0,iV 0,.string (⟨#[]⟩)]]) ?_ ?_
 ·refine V ?_;refine aZ (fun m s L=> ∃p9,fv N a1 a2 a0 m p9=some r∧s=[(1,I A1 n1 c1),(2,I A2 n2 c2),(3,pV B3 0),(6,pV B4 0),(7,iV p9)]∧L=[eM A1 n1 c1 a1,eM A2 n2 c2 a2,aw B3 52 (ar a0),aw B4 52 [iV 0,iV 0,.string (⟨#[]⟩)]]) N _ _ ⟨0,h,J,J⟩ sA (cS [2,3,1,0] 4) ?_;rintro (_|m8) _ _ ⟨p9,h,rfl,rfl⟩
  ·exact az h
  rw [fv.eq_2] at h;refine ay ?_;refine V ?_;refine gR (aG 0 J ae J hU) ?_;refine V ?_;refine aq J (fun g10=> ?_) (fun g10=> ?_)
  ·replace h:=ag g10 h;refine V ?_;refine ay ?_;refine cQ ?_;refine ay ?_;refine cy O _ (ab _) ?_;refine zE 0 J (ax J) ?_;refine zE 1 J (ax J) ?_;obtain ⟨x11,hx11,h⟩:=aa h;obtain ⟨lx11,ux11,hx11⟩:=aj hx11;refine zR 2 J (aB 0 J ae J J hU dj lx11 ux11) ?_;refine zR 3 J (aW (u:=iV x11) 0 J ae J hx11 cM (fun _ _ _ h=>by rw [show _=_ from h];rfl)) ?_;refine zE 4 J (bQ J iL) ?_;refine zR 5 J (aR 2 J J cM J) ?_;refine zE 6 J (nc J J) ?_;refine cx O ?_;refine jB ?_;refine aq J (fun g12=> ?_) (fun g12=> ?_)
   ·replace h:=ag g12 h;refine aP (fun s L=> ∃p14,lG N (fv N a1 a2 a0 m8) p9 a1 a2 a0 p14=some r∧s=[(1,I A1 n1 c1),(2,I A2 n2 c2),(3,pV B3 0),(6,pV B4 0),(7,iV p9)]∧L=[eM A1 n1 c1 a1,eM A2 n2 c2 a2,aw B3 52 [iV a0.Kind,iV p14,.string a0.S],aw B4 52 [iV 0,iV 0,.string (⟨#[]⟩)]]) ?_ ?_
    ·refine V ?_;refine gR (aG 1 J ae J hU) ?_;refine V ?_;refine aq J (fun g15=> ?_) (fun g15=> ?_)
     ·replace h:=ag g15 h;refine V ?_;obtain ⟨x16,hx16,h⟩:=aa h;obtain ⟨lx16,ux16,hx16⟩:=aj hx16;refine gR (aB 1 J ae J J hU dj lx16 ux16) ?_;refine gR (aW (u:=iV x16) 1 J ae J hx16 cM (fun _ _ _ h=>by rw [show _=_ from h];rfl)) ?_;refine V ?_;refine gO (au (us:=[iV x16]) (cs':=[iV a0.Kind,iV x16,.string a0.S]) 2 J J J J dj J J J) ?_;rintro _ _ rfl;refine V ?_;exact ⟨_,_,⟨x16,h,J,J⟩,sA,cS [0,1,2,3] 4⟩
     replace h:=ah g15 h;refine V ?_;exact ⟨_,_,⟨a0.N,h,J,J⟩,sA,cS [0,1,2,3] 4⟩
    rintro _ _ ⟨p14,h,rfl,rfl⟩;refine V ?_;refine gR (aC (us:=[iV a0.Kind,iV p14,.string a0.S]) 2 J J bn J) ?_;refine gO (au (us:=[iV a0.Kind,iV p14,.string a0.S]) (cs':=[iV a0.Kind,iV p14,.string a0.S]) 3 J J J J aI J J J) ?_;rintro _ _ rfl;refine bX ?_;refine V ?_;obtain rfl:=ao h;exact dl (rs:=[.cell 6 52]) (vs:=[.agg #[iV a0.Kind,iV p14,.string a0.S]]) J (.cons (bY 3 J J bn) .nil) J (cS [] 4) ⟨J,J⟩
   replace h:=ah g12 h;refine V ?_;obtain ⟨q17,h⟩:=am h;refine gE (aT J J q17.1 q17.2) ?_;refine V ?_;exact ⟨m8,_,_,GD _,⟨p9+1,h,J,J⟩,sA,cS [0,1,2,3] 4⟩
  replace h:=ah g10 h;refine V ?_;exact ⟨_,_,⟨h,J,J⟩,sA,cS [2,3] 4⟩
 rintro _ _ ⟨h,rfl,rfl⟩;refine V ?_;refine gR (aC (us:=ar a0) 0 J J bn J) ?_;refine gO (au (us:=ar a0) (cs':=ar a0) 1 J J J J aI J J J) ?_;rintro _ _ rfl;refine V ?_;obtain rfl:=ao h;exact dl (rs:=[.cell 6 52]) (vs:=[(bd a0)]) J (.cons (bY 1 J J bn) .nil) J (cS [] 2) ⟨J,J⟩
theorem nN {r:Gu}: ∀v post,((fun (u:Value) (post:List Chunk)=>u=(bd r)∧post=[])) v post→ ∀c∈post,bR c:=by
 rintro _ _ ⟨rfl,rfl⟩;exact ai
def lH (N:Nat)(p9:(List Gu))(a0:Gw)(p23:(List Gu)):Option Gw:=
 some (⟨a0.Kind,a0.Shape,a0.Flags,a0.Age,p9,p23⟩:Gw)
def fM (N:Nat)(a1:(List Int))(a2:(List Int))(a0:Gw)(p9:(List Gu)):Nat→Int→(List Gu)→Option Gw
 |0,_,_=>none
 |m24+1,p25,p26=>bif decide (p25<(a0.More.length:Int)) then ((aH a0.More p25).bind fun x29=>(jy N x29 a1 a2).bind fun y30=>bD (bN (p26.length+([y30]:List Gu).length)) (bD (in64 (p25+1)) ((fM N a1 a2 a0 p9 m24) (p25+1) (p26++([y30]:List Gu))))) else (lH N p9 a0 p26)
def kd (N:Nat)(a1:(List Int))(a2:(List Int))(a0:Gw)(p9:(List Gu)):Option Gw:=
 fM N a1 a2 a0 p9 N 0 []
def fN (N:Nat)(a1:(List Int))(a2:(List Int))(a0:Gw):Nat→Int→(List Gu)→Option Gw
 |0,_,_=>none
 |m10+1,p11,p12=>bif decide (p11<(a0.Slots.length:Int)) then ((aH a0.Slots p11).bind fun x15=>(jy N x15 a1 a2).bind fun y16=>bD (bN (p12.length+([y16]:List Gu).length)) (bD (in64 (p11+1)) ((fN N a1 a2 a0 m10) (p11+1) (p12++([y16]:List Gu))))) else (kd N a1 a2 a0 p12)
def jz (N:Nat)(a0:Gw)(a1:(List Int))(a2:(List Int)):Option Gw:=
 fN N a1 a2 a0 N 0 []
set_option maxHeartbeats 4000000 in
theorem qn {N:Nat}{a0:Gw}{a1:(List Int)}{a2:(List Int)}{r:Gw}(h:jz N a0 a1 a2=some r):Okc Tryz.prog 124 [.agg #[iV a0.Kind,iV a0.Shape,iV a0.Flags,iV a0.Age,I A1 n1 c1,I A2 n2 c2],I A3 n3 c3,I A4 n4 c4] ([aS A1 n1 c1 a0.Slots,aS A2 n2 c2 a0.More,eM A3 n3 c3 a1,eM A4 n4 c4 a2]) (fun u post=> ∃A0 n0 c0 A1 n1 c1,u=.agg #[iV r.Kind,iV r.Shape,iV r.Flags,iV r.Age,I A0 n0 c0,I A1 n1 c1]∧post=[cB A0 n0 c0 r.Slots,cB A1 n1 c1 r.More]):=by
 refine bx Tryz.func124 J J ?_;simp only [aU];refine V ?_;refine gD (aX J J) ?_;rintro _ _ ⟨B5,rfl,rfl⟩;refine gD (aM dD J) ?_;rintro _ _ ⟨B6,rfl,rfl⟩;refine V ?_;refine gE (bJ J (ob _ _ _ _)) ?_;refine gD (aM dD J) ?_;rintro _ _ ⟨B7,rfl,rfl⟩;refine gO (au (us:=[iV a0.Kind,iV a0.Shape,iV a0.Flags,iV a0.Age,I none 0 0,I none 0 0]) (cs':=[iV a0.Kind,iV a0.Shape,iV a0.Flags,iV a0.Age,I none 0 0,I none 0 0]) 0 J J J J bu J J J) ?_;rintro _ _ rfl;refine V ?_;refine aP (fun s L=> ∃p9 A9 n9 c9,kd N a1 a2 a0 p9=some r∧s=[(1,I A3 n3 c3),(2,I A4 n4 c4),(3,pV B5 0),(6,pV B6 0),(7,pV B7 0)]∧L=[eM A3 n3 c3 a1,eM A4 n4 c4 a2,aS A1 n1 c1 a0.Slots,aS A2 n2 c2 a0.More,aw B5 47 [iV a0.Kind,iV a0.Shape,iV a0.Flags,iV a0.Age,I A1 n1 c1,I A2 n2 c2],aw B6 47 [iV 0,iV 0,iV 0,iV 0,I none 0 0,I none 0 0],cB A9 n9 c9 p9,aw B7 47 [iV a0.Kind,iV a0.Shape,iV a0.Flags,iV a0.Age,I A9 n9 c9,I none 0 0]]) ?_ ?_
 ·refine V ?_;refine aZ (fun m s L=> ∃p11 p12 A12 n12 c12,fN N a1 a2 a0 m p11 p12=some r∧s=[(1,I A3 n3 c3),(2,I A4 n4 c4),(3,pV B5 0),(6,pV B6 0),(7,pV B7 0),(8,iV p11)]∧L=[eM A3 n3 c3 a1,eM A4 n4 c4 a2,aS A1 n1 c1 a0.Slots,aS A2 n2 c2 a0.More,aw B5 47 [iV a0.Kind,iV a0.Shape,iV a0.Flags,iV a0.Age,I A1 n1 c1,I A2 n2 c2],aw B6 47 [iV 0,iV 0,iV 0,iV 0,I none 0 0,I none 0 0],cB A12 n12 c12 p12,aw B7 47 [iV a0.Kind,iV a0.Shape,iV a0.Flags,iV a0.Age,I A12 n12 c12,I none 0 0]]) N _ _ ⟨0,[],none,0,0,h,J,J⟩ sA ((bL aF 52 _).trans (cS [6,7,4,5,3,2,0,1] 8)) ?_;rintro (_|m10) _ _ ⟨p11,p12,A12,n12,c12,h,rfl,rfl⟩
  ·exact az h
  rw [fN.eq_2] at h;refine ay ?_;refine V ?_;refine gR (aG 2 J ae J hO) ?_;refine V ?_;refine aq J (fun g14=> ?_) (fun g14=> ?_)
  ·replace h:=ag g14 h;refine V ?_;refine ay ?_;refine cQ ?_;obtain ⟨x15,hx15,h⟩:=aa h;obtain ⟨lx15,ux15,hx15⟩:=aj hx15;obtain ⟨y16,hy16,h⟩:=aa h;refine dP (t:=[(1,I A3 n3 c3),(2,I A4 n4 c4),(3,pV B5 0),(6,pV B6 0),(7,pV B7 0),(8,iV p11)]) ?_ gA (ab _)
   refine eR O 11 [] [1,10] [26,27,28,29,30,31,32,33,34,35,36] [[],[0],[],[2],[],[3,4],[5],[],[],[6,7,8],[9]] [aV (pV B7 4),
 aV (I A12 n12 c12),
 aV (pV B5 4),
 aV (I A1 n1 c1),
 aV (iV p11),
 aV (bO (I A1 n1 c1) p11.toNat 3 0),
 aV ((bd x15)),
 aV (I A3 n3 c3),
 aV (I A4 n4 c4),
 aV ((bd y16)),
 aX3 (fun (A18:Option Addr) (n18 c18:Nat)=> I A18 n18 c18) (fun A18 n18 c18=> [cB A18 n18 c18 ([y16]:List Gu)])] [] (ab _) (gu) O rfl rfl ?_ ?_ ?_
   ·exact gt
   ·refine ac J ?_ ?_
    ·refine fx (aN (R:=aF) (vss:=[(ar y16)]) (xs:=[y16]) J (gN _ _ _) J J (fun _ _ hr=> .cons J All2.nil)) J ?_;rintro _ _ ⟨A17,n17,c17,rfl,rfl⟩;exact iT A17 n17 c17 (ab _)
    refine ac J ?_ ?_
    ·refine fx (ak (qm hy16) zL J (hJ (ap (i:=0) J J) (hJ (ap (i:=1) J J) ai)) nN) J ?_;rintro _ _ ⟨_,⟨rfl,rfl⟩,rfl⟩;exact aA J (ab _)
    refine ac J ?_ ?_
    ·exact bh (ax J) J (aA J (ab _))
    refine ac J ?_ ?_
    ·exact bh (ax J) J (aA J (ab _))
    refine ac J ?_ ?_
    ·exact bT (aQ (us:=ar x15) 2 J ae J hx15 bn (fun _ _ _ h=>by rw [show _=_ from h];rfl)) J (aA J (ab _))
    refine ac J ?_ ?_
    ·exact bT (aB 2 J ae J J hO aI lx15 ux15) J (aA J (ab _))
    refine ac J ?_ ?_
    ·exact bh (ax J) J (aA J (ab _))
    refine ac J ?_ ?_
    ·exact bT (aR 4 J J cz J) J (aA J (ab _))
    refine ac J ?_ ?_
    ·exact bh (bQ J iM) J (aA J (ab _))
    refine ac J ?_ ?_
    ·exact bT (aR 7 J J cz J) J (aA J (ab _))
    refine ac J ?_ ?_
    ·exact bh (bQ J iM) J (aA J (ab _))
    exact dh
   intro A18 n18 c18;refine gP (t:=[(27,I A12 n12 c12),(36,I A18 n18 c18),(1,I A3 n3 c3),(2,I A4 n4 c4),(3,pV B5 0),(6,pV B6 0),(7,pV B7 0),(8,iV p11)]) (L':=[cB A18 n18 c18 ([y16]:List Gu),eM A3 n3 c3 a1,eM A4 n4 c4 a2,aS A1 n1 c1 a0.Slots,aS A2 n2 c2 a0.More,aw B5 47 [iV a0.Kind,iV a0.Shape,iV a0.Flags,iV a0.Age,I A1 n1 c1,I A2 n2 c2],aw B6 47 [iV 0,iV 0,iV 0,iV 0,I none 0 0,I none 0 0],cB A12 n12 c12 p12,aw B7 47 [iV a0.Kind,iV a0.Shape,iV a0.Flags,iV a0.Age,I A12 n12 c12,I none 0 0]]) ?_ gA (ab _);obtain ⟨q19,h⟩:=am h;refine kR 11 J O (ba 7 0 J J aJ J J hO nn J J q19) J J J ?_;rintro _ _ ⟨A20,n20,c20,rfl,rfl⟩;refine pS 12 J O (bQ J iM) J J J ?_;refine nh 13 J O (au (us:=[I A20 n20 c20]) (cs':=[iV a0.Kind,iV a0.Shape,iV a0.Flags,iV a0.Age,I A20 n20 c20,I none 0 0]) 8 J J J J eJ J J J) J J ?_;rintro _ _ rfl;refine qu ?_;refine gx O ?_;refine V ?_;obtain ⟨q21,h⟩:=am h;refine gE (aT J J q21.1 q21.2) ?_;refine V ?_;exact ⟨m10,_,_,GD _,⟨p11+1,p12++([y16]:List Gu),A20,n20,c20,h,J,J⟩,sA,cS [1,2,3,4,5,6,7,8] 9⟩
  replace h:=ah g14 h;refine V ?_;exact ⟨_,_,⟨p12,A12,n12,c12,h,J,J⟩,sA,cS [0,1,2,3,4,5,6,7] 8⟩
 rintro _ _ ⟨p9,A9,n9,c9,h,rfl,rfl⟩;refine aP (fun s L=> ∃p23 A23 n23 c23,lH N p9 a0 p23=some r∧s=[(6,pV B6 0),(7,pV B7 0)]∧L=[aw B6 47 [iV 0,iV 0,iV 0,iV 0,I none 0 0,I none 0 0],cB A9 n9 c9 p9,cB A23 n23 c23 p23,aw B7 47 [iV a0.Kind,iV a0.Shape,iV a0.Flags,iV a0.Age,I A9 n9 c9,I A23 n23 c23]]) ?_ ?_
 ·refine V ?_;refine aZ (fun m s L=> ∃p25 p26 A26 n26 c26,fM N a1 a2 a0 p9 m p25 p26=some r∧s=[(1,I A3 n3 c3),(2,I A4 n4 c4),(3,pV B5 0),(6,pV B6 0),(7,pV B7 0),(9,iV p25)]∧L=[eM A3 n3 c3 a1,eM A4 n4 c4 a2,aS A1 n1 c1 a0.Slots,aS A2 n2 c2 a0.More,aw B5 47 [iV a0.Kind,iV a0.Shape,iV a0.Flags,iV a0.Age,I A1 n1 c1,I A2 n2 c2],aw B6 47 [iV 0,iV 0,iV 0,iV 0,I none 0 0,I none 0 0],cB A9 n9 c9 p9,cB A26 n26 c26 p26,aw B7 47 [iV a0.Kind,iV a0.Shape,iV a0.Flags,iV a0.Age,I A9 n9 c9,I A26 n26 c26]]) N _ _ ⟨0,[],none,0,0,h,J,J⟩ sA ((bL aF 52 _).trans (cS [1,2,3,4,5,6,7,0,8] 9)) ?_;rintro (_|m24) _ _ ⟨p25,p26,A26,n26,c26,h,rfl,rfl⟩
  ·exact az h
  rw [fM.eq_2] at h;refine ay ?_;refine V ?_;refine gR (aG 3 J ae J hO) ?_;refine V ?_;refine aq J (fun g28=> ?_) (fun g28=> ?_)
  ·replace h:=ag g28 h;refine V ?_;refine ay ?_;refine cQ ?_;obtain ⟨x29,hx29,h⟩:=aa h;obtain ⟨lx29,ux29,hx29⟩:=aj hx29;obtain ⟨y30,hy30,h⟩:=aa h;refine dP (t:=[(1,I A3 n3 c3),(2,I A4 n4 c4),(3,pV B5 0),(6,pV B6 0),(7,pV B7 0),(9,iV p25)]) ?_ gA (ab _)
   refine eR O 11 [] [1,10] [46,47,48,49,50,51,52,53,54,55,56] [[],[0],[],[2],[],[3,4],[5],[],[],[6,7,8],[9]] [aV (pV B7 5),
aV (I A26 n26 c26),
aV (pV B5 5),
aV (I A2 n2 c2),
aV (iV p25),
aV (bO (I A2 n2 c2) p25.toNat 3 0),
aV ((bd x29)),
aV (I A3 n3 c3),
aV (I A4 n4 c4),
aV ((bd y30)),
aX3 (fun (A32:Option Addr) (n32 c32:Nat)=> I A32 n32 c32) (fun A32 n32 c32=> [cB A32 n32 c32 ([y30]:List Gu)])] [] (ab _) (gu) O rfl rfl ?_ ?_ ?_
   ·exact gt
   ·refine ac J ?_ ?_
    ·refine fx (aN (R:=aF) (vss:=[(ar y30)]) (xs:=[y30]) J (gN _ _ _) J J (fun _ _ hr=> .cons J All2.nil)) J ?_;rintro _ _ ⟨A31,n31,c31,rfl,rfl⟩;exact iT A31 n31 c31 (ab _)
    refine ac J ?_ ?_
    ·refine fx (ak (qm hy30) zL J (hJ (ap (i:=0) J J) (hJ (ap (i:=1) J J) ai)) nN) J ?_;rintro _ _ ⟨_,⟨rfl,rfl⟩,rfl⟩;exact aA J (ab _)
    refine ac J ?_ ?_
    ·exact bh (ax J) J (aA J (ab _))
    refine ac J ?_ ?_
    ·exact bh (ax J) J (aA J (ab _))
    refine ac J ?_ ?_
    ·exact bT (aQ (us:=ar x29) 3 J ae J hx29 bn (fun _ _ _ h=>by rw [show _=_ from h];rfl)) J (aA J (ab _))
    refine ac J ?_ ?_
    ·exact bT (aB 3 J ae J J hO aI lx29 ux29) J (aA J (ab _))
    refine ac J ?_ ?_
    ·exact bh (ax J) J (aA J (ab _))
    refine ac J ?_ ?_
    ·exact bT (aR 4 J J cz J) J (aA J (ab _))
    refine ac J ?_ ?_
    ·exact bh (bQ J ce) J (aA J (ab _))
    refine ac J ?_ ?_
    ·exact bT (aR 8 J J cz J) J (aA J (ab _))
    refine ac J ?_ ?_
    ·exact bh (bQ J ce) J (aA J (ab _))
    exact dh
   intro A32 n32 c32;refine gP (t:=[(47,I A26 n26 c26),(56,I A32 n32 c32),(1,I A3 n3 c3),(2,I A4 n4 c4),(3,pV B5 0),(6,pV B6 0),(7,pV B7 0),(9,iV p25)]) (L':=[cB A32 n32 c32 ([y30]:List Gu),eM A3 n3 c3 a1,eM A4 n4 c4 a2,aS A1 n1 c1 a0.Slots,aS A2 n2 c2 a0.More,aw B5 47 [iV a0.Kind,iV a0.Shape,iV a0.Flags,iV a0.Age,I A1 n1 c1,I A2 n2 c2],aw B6 47 [iV 0,iV 0,iV 0,iV 0,I none 0 0,I none 0 0],cB A9 n9 c9 p9,cB A26 n26 c26 p26,aw B7 47 [iV a0.Kind,iV a0.Shape,iV a0.Flags,iV a0.Age,I A9 n9 c9,I A26 n26 c26]]) ?_ gA (ab _);obtain ⟨q33,h⟩:=am h;refine kR 11 J O (ba 8 0 J J aJ J J hO nn J J q33) J J J ?_;rintro _ _ ⟨A34,n34,c34,rfl,rfl⟩;refine pS 12 J O (bQ J ce) J J J ?_;refine nh 13 J O (au (us:=[I A34 n34 c34]) (cs':=[iV a0.Kind,iV a0.Shape,iV a0.Flags,iV a0.Age,I A9 n9 c9,I A34 n34 c34]) 9 J J J J eJ J J J) J J ?_;rintro _ _ rfl;refine gx O ?_;refine V ?_;obtain ⟨q35,h⟩:=am h;refine gE (aT J J q35.1 q35.2) ?_;refine V ?_;exact ⟨m24,_,_,GD _,⟨p25+1,p26++([y30]:List Gu),A34,n34,c34,h,J,J⟩,sA,cS [1,2,3,4,5,6,7,8,9] 10⟩
  replace h:=ah g28 h;refine V ?_;exact ⟨_,_,⟨p26,A26,n26,c26,h,J,J⟩,sA,cS [5,6,7,8] 9⟩
 rintro _ _ ⟨p23,A23,n23,c23,h,rfl,rfl⟩;refine V ?_;refine gR (aC (us:=[iV a0.Kind,iV a0.Shape,iV a0.Flags,iV a0.Age,I A9 n9 c9,I A23 n23 c23]) 3 J J bo J) ?_;refine gO (au (us:=[iV a0.Kind,iV a0.Shape,iV a0.Flags,iV a0.Age,I A9 n9 c9,I A23 n23 c23]) (cs':=[iV a0.Kind,iV a0.Shape,iV a0.Flags,iV a0.Age,I A9 n9 c9,I A23 n23 c23]) 0 J J J J bu J J J) ?_;rintro _ _ rfl;refine bX ?_;refine V ?_;obtain rfl:=ao h;exact dl (rs:=[.cell 6 47]) (vs:=[.agg #[iV a0.Kind,iV a0.Shape,iV a0.Flags,iV a0.Age,I A9 n9 c9,I A23 n23 c23]]) J (.cons (bY 0 J J bo) .nil) J (cS [1,2] 4) ⟨_,_,_,_,_,_,J,J⟩
theorem nQ {r:Gw}: ∀v post,((fun (u:Value) (post:List Chunk)=> ∃A0 n0 c0 A1 n1 c1,u=.agg #[iV r.Kind,iV r.Shape,iV r.Flags,iV r.Age,I A0 n0 c0,I A1 n1 c1]∧post=[cB A0 n0 c0 r.Slots,cB A1 n1 c1 r.More])) v post→ ∀c∈post,bR c:=by
 rintro _ _ ⟨_,_,_,_,_,_,rfl,rfl⟩;exact hJ bm (hJ bm (ai))
def ip (N:Nat)(a0:(List Gu))(a1:(List Int))(a2:(List Int)):Option (List Gu):=
 (jz N (⟨11,0,0,0,[],a0⟩:Gw) a1 a2).bind fun y4=>some y4.More
theorem o3 {N:Nat}{a0:(List Gu)}{a1:(List Int)}{a2:(List Int)}{r:(List Gu)}(h:ip N a0 a1 a2=some r):Okc Tryz.prog 125 [I A1 n1 c1,I A2 n2 c2,I A3 n3 c3] ([aS A1 n1 c1 a0,eM A2 n2 c2 a1,eM A3 n3 c3 a2]) (fun u post=> ∃A0 n0 c0,u=I A0 n0 c0∧post=[cB A0 n0 c0 r]):=by
 refine bx Tryz.func125 J J ?_;simp only [aU];refine V ?_;refine gE (bJ J (pO _ _ _ _)) ?_;refine V ?_;obtain ⟨y4,hy4,h⟩:=aa h;refine gD (ak (qn hy4) zV J (hJ (xv) (hJ (ap (i:=0) J J) (hJ (ap (i:=1) J J) (hJ (ap (i:=2) J J) ai)))) nQ) ?_;rintro _ _ ⟨_,⟨A5,n5,c5,A6,n6,c6,rfl,rfl⟩,rfl⟩;refine gE (BW J (BP _ _ _ _ _ _ _ _ _ _)) ?_;refine V ?_;obtain rfl:=ao h;exact aL J J (cS [1] 5) ⟨_,_,_,J,J⟩
theorem mZ {r:(List Gu)}: ∀v post,((fun (u:Value) (post:List Chunk)=> ∃A0 n0 c0,u=I A0 n0 c0∧post=[cB A0 n0 c0 r])) v post→ ∀c∈post,bR c:=by
 rintro _ _ ⟨_,_,_,rfl,rfl⟩;exact hJ bm (ai)
def jJ (N:Nat)(a1:(List Gu))(y12:((List Int)×(List Int)))(p20:(List Gu))(p21:(List Gw)):Option (Gx×(List Gu)×(List Gu)×Int):=
 (ip N a1 y12.1 y12.2).bind fun y74=>(ip N p20 y12.1 y12.2).bind fun y76=>some ((⟨[],p21⟩:Gx),y74,y76,0)
def fC (N:Nat)(kb22:(List Int)→(List Gu)→Int→(List Gw)→Option (Gx×(List Gu)×(List Gu)×Int))(p25:Int)(a1:(List Gu))(y12:((List Int)×(List Int)))(p23:(List Int))(a0:Gx)(p26:(List Gw))(p49:(List Gu))(p50:Int)(p51:Int)(p52:Int)(p53:Int)(p54:(List Gu))(p55:(List Gu)):Option (Gx×(List Gu)×(List Gu)×Int):=
 (jz N (⟨p50,p51,p52,p53,p54,p55⟩:Gw) y12.1 y12.2).bind fun y64=>bD (bN (p26.length+([y64]:List Gw).length)) (bD (in64 (p25+1)) (kb22 p23 p49 (p25+1) (p26++([y64]:List Gw))))
def fD (N:Nat)(kb22:(List Int)→(List Gu)→Int→(List Gw)→Option (Gx×(List Gu)×(List Gu)×Int))(p25:Int)(a1:(List Gu))(y12:((List Int)×(List Int)))(p23:(List Int))(p24:(List Gu))(a0:Gx)(p26:(List Gw))(p38:Int)(p39:Int)(p40:Int)(p41:Int)(p42:(List Gu))(p43:(List Gu)):Option (Gx×(List Gu)×(List Gu)×Int):=
 bif decide (p38=10) then ((lh N (⟨p38,p39,p40,p41,p42,p43⟩:Gw) p23).bind fun y57=>bD (bN (p24.length+y57.2.length)) (fC N kb22 p25 a1 y12 p23 a0 p26 (p24++y57.2) y57.1.Kind y57.1.Shape y57.1.Flags y57.1.Age y57.1.Slots y57.1.More)) else (fC N kb22 p25 a1 y12 p23 a0 p26 p24 p38 p39 p40 p41 p42 p43)
def cp (N:Nat)(a1:(List Gu))(y12:((List Int)×(List Int)))(a0:Gx):Nat→(List Int)→(List Gu)→Int→(List Gw)→Option (Gx×(List Gu)×(List Gu)×Int)
 |0,_,_,_,_=>none
 |m22+1,p23,p24,p25,p26=>bif decide (p25<(y12.1.length:Int)) then ((aH y12.1 p25).bind fun x29=>(iA N a0 x29).bind fun y30=>bif decide (y30.Kind=8) then ((jx N y30 p23).bind fun y45=>fD N (cp N a1 y12 a0 m22) p25 a1 y12 p23 p24 a0 p26 y45.Kind y45.Shape y45.Flags y45.Age y45.Slots y45.More) else (fD N (cp N a1 y12 a0 m22) p25 a1 y12 p23 p24 a0 p26 y30.Kind y30.Shape y30.Flags y30.Age y30.Slots y30.More)) else (jJ N a1 y12 p24 p26)
def jk (N:Nat)(a0:Gx)(a1:(List Gu)):Option (Gx×(List Gu)×(List Gu)×Int):=
 (ld N a0 a1).bind fun y6=>bif !decide (y6=0) then (some ((⟨[],[]⟩:Gx),[],[],y6)) else ((ir N a0 a1).bind fun y12=>(fu N a0 a1).bind fun y15=>cp N a1 y12 a0 N y15 ([]:List Gu) 0 [])
set_option maxHeartbeats 4000000 in
theorem th {N:Nat}{a0:Gx}{a1:(List Gu)}{r:(Gx×(List Gu)×(List Gu)×Int)}(h:jk N a0 a1=some r):Okc Tryz.prog 45 [.agg #[I A1 n1 c1,I A2 n2 c2],I A3 n3 c3] ([br A1 n1 c1 a0.Young,br A2 n2 c2 a0.Old,aS A3 n3 c3 a1]) (fun u post=> ∃A0 n0 c0 A1 n1 c1 A2 n2 c2 A3 n3 c3,u=.tuple #[.agg #[I A0 n0 c0,I A1 n1 c1],I A2 n2 c2,I A3 n3 c3,iV r.2.2.2]∧post=[tM A0 n0 c0 r.1.Young,tM A1 n1 c1 r.1.Old,cB A2 n2 c2 r.2.1,cB A3 n3 c3 r.2.2.1]):=by
 refine bx Tryz.func45 J J ?_;simp only [aU];refine V ?_;refine gD (aX J J) ?_;rintro _ _ ⟨B4,rfl,rfl⟩;refine gD (aM kj J) ?_;rintro _ _ ⟨B5,rfl,rfl⟩;refine V ?_;refine ay ?_;refine V ?_;refine gR (aC (us:=[I A1 n1 c1,I A2 n2 c2]) 1 J J cu J) ?_;refine V ?_;obtain ⟨y6,hy6,h⟩:=aa h;refine gD (ak (vP hy6) DN J (hJ (ap (i:=2) J J) (hJ (ap (i:=3) J J) (hJ (ap (i:=4) J J) ai))) tg) ?_;rintro _ _ ⟨_,⟨rfl,rfl⟩,rfl⟩;refine V ?_;refine aq J (fun g7=> ?_) (fun g7=> ?_)
 ·replace h:=ag g7 h;refine V ?_;refine gE (bJ J (wI)) ?_;refine V ?_;refine gO (au (us:=[I none 0 0,I none 0 0]) (cs':=[I none 0 0,I none 0 0]) 0 J J J J iX J J J) ?_;rintro _ _ rfl;refine V ?_;obtain rfl:=ao h;exact dl (rs:=[.cell 4 36,.tmp 5,.tmp 6,.tmp 7]) (vs:=[.agg #[I none 0 0,I none 0 0],I none 0 0,I none 0 0,iV y6]) J (.cons (bY 0 J J cu) (.cons (im J) (.cons (im J) (.cons (im J) .nil)))) J ((bL bV 47 _).trans ((bL bV 47 _).trans ((bL aF 52 _).trans ((bL aF 52 _).trans (cS [3,2,1,0] 9))))) ⟨_,_,_,_,_,_,_,_,_,_,_,_,J,J⟩
 replace h:=ah g7 h;refine V ?_;refine gR (aC (us:=[I A1 n1 c1,I A2 n2 c2]) 1 J J cu J) ?_;refine V ?_;obtain ⟨y12,hy12,h⟩:=aa h;refine gD (ak (o5 hy12) Ch J (hJ (ap (i:=2) J J) (hJ (ap (i:=3) J J) (hJ (ap (i:=4) J J) ai))) na) ?_;rintro _ _ ⟨_,⟨A13,n13,c13,A14,n14,c14,rfl,rfl⟩,rfl⟩;refine V ?_;refine gR (aC (us:=[I A1 n1 c1,I A2 n2 c2]) 3 J J cu J) ?_;refine V ?_;obtain ⟨y15,hy15,h⟩:=aa h;refine gD (ak (rN hy15) Ck J (hJ (ap (i:=4) J J) (hJ (ap (i:=5) J J) (hJ (ap (i:=6) J J) ai))) pa) ?_;rintro _ _ ⟨_,⟨A16,n16,c16,rfl,rfl⟩,rfl⟩;refine V ?_;refine gE (bJ J (wI)) ?_;refine gD (aM kj J) ?_;rintro _ _ ⟨B17,rfl,rfl⟩;refine gO (au (us:=[I none 0 0,I none 0 0]) (cs':=[I none 0 0,I none 0 0]) 0 J J J J iX J J J) ?_;rintro _ _ rfl;refine V ?_;refine gD (aN (R:=aF) (vss:=[]) (xs:=[]) J (oa) J J (fun _ _ hr=>All2.nil)) ?_;rintro _ _ ⟨A18,n18,c18,rfl,rfl⟩;refine V ?_;refine aP (fun s L=> ∃p20 p21 A20 n20 c20 A21 n21 c21,jJ N a1 y12 p20 p21=some r∧s=[(1,I A3 n3 c3),(4,pV B5 0),(5,I none 0 0),(6,I none 0 0),(7,iV 0),(9,I A13 n13 c13),(10,I A14 n14 c14),(12,pV B17 0),(13,I A20 n20 c20)]∧L=[aS A3 n3 c3 a1,cc A13 n13 c13 y12.1,cc A14 n14 c14 y12.2,cB A20 n20 c20 p20,aw B5 36 [I none 0 0,I none 0 0],tM A21 n21 c21 p21,aw B17 36 [I none 0 0,I A21 n21 c21]]) ?_ ?_
 ·refine V ?_;refine aZ (fun m s L=> ∃p23 p24 p25 p26 A23 n23 c23 A24 n24 c24 A26 n26 c26,cp N a1 y12 a0 m p23 p24 p25 p26=some r∧s=[(1,I A3 n3 c3),(2,pV B4 0),(4,pV B5 0),(5,I none 0 0),(6,I none 0 0),(7,iV 0),(9,I A13 n13 c13),(10,I A14 n14 c14),(11,I A23 n23 c23),(12,pV B17 0),(13,I A24 n24 c24),(14,iV p25)]∧L=[aS A3 n3 c3 a1,cc A13 n13 c13 y12.1,cc A14 n14 c14 y12.2,eM A23 n23 c23 p23,cB A24 n24 c24 p24,br A1 n1 c1 a0.Young,br A2 n2 c2 a0.Old,aw B4 36 [I A1 n1 c1,I A2 n2 c2],aw B5 36 [I none 0 0,I none 0 0],tM A26 n26 c26 p26,aw B17 36 [I none 0 0,I A26 n26 c26]]) N _ _ ⟨y15,([]:List Gu),0,[],A16,n16,c16,A18,n18,c18,none,0,0,h,J,J⟩ sA ((cg 2 J).trans ((bL bV 47 _).trans (cS [10,4,5,3,1,8,9,7,6,0,2] 11))) ?_;rintro (_|m22) _ _ ⟨p23,p24,p25,p26,A23,n23,c23,A24,n24,c24,A26,n26,c26,h,rfl,rfl⟩
  ·exact az h
  rw [cp.eq_2] at h;refine ay ?_;refine V ?_;refine gR (aG 1 J aJ J hU) ?_;refine V ?_;refine aq J (fun g28=> ?_) (fun g28=> ?_)
  ·replace h:=ag g28 h;refine V ?_;refine ay ?_;refine cQ ?_;refine ay ?_;obtain ⟨x29,hx29,h⟩:=aa h;obtain ⟨lx29,ux29,hx29⟩:=aj hx29;obtain ⟨y30,hy30,h⟩:=aa h;refine dP (t:=[(1,I A3 n3 c3),(2,pV B4 0),(4,pV B5 0),(5,I none 0 0),(6,I none 0 0),(7,iV 0),(9,I A13 n13 c13),(10,I A14 n14 c14),(11,I A23 n23 c23),(12,pV B17 0),(13,I A24 n24 c24),(14,iV p25)]) ?_ gA (ab _)
   refine eR O 7 [] [5,6] [42,43,44,45,46,47,15] [[],[],[],[1,2],[3],[0,4],[]] [aV (.agg #[I A1 n1 c1,I A2 n2 c2]),
aV (I A13 n13 c13),
aV (iV p25),
aV (bO (I A13 n13 c13) p25.toNat 1 0),
aV (iV x29),
aX6 (fun (A33:Option Addr) (n33 c33:Nat) (A34:Option Addr) (n34 c34:Nat)=> .agg #[iV y30.Kind,iV y30.Shape,iV y30.Flags,iV y30.Age,I A33 n33 c33,I A34 n34 c34]) (fun A33 n33 c33 A34 n34 c34=> [aS A33 n33 c33 y30.Slots,aS A34 n34 c34 y30.More]),
aX1 (fun (B36:Nat)=>pV B36 0) (fun B36=> [aw B36 47 [iV 0,iV 0,iV 0,iV 0,I none 0 0,I none 0 0]])] [] (ab _) (gu) O rfl rfl ?_ ?_ ?_
   ·exact gt
   ·refine ac J ?_ ?_
    ·refine fx (aM dD J) J ?_;rintro _ _ ⟨B35,rfl,rfl⟩;exact EE B35 (ab _)
    refine ac J ?_ ?_
    ·refine fx (cw (qZ hy30) yT J (bq [5,6] [] [0,1,2,3,4,5,6,7,8,9,10] 11 J)) J ?_;rintro _ _ ⟨_,⟨A31,n31,c31,A32,n32,c32,rfl,rfl⟩,rfl⟩;exact AN A31 n31 c31 A32 n32 c32 (ab _)
    refine ac J ?_ ?_
    ·exact bT (aW (u:=iV x29) 1 J aJ J hx29 cM (fun _ _ _ h=>by rw [show _=_ from h];rfl)) J (aA J (ab _))
    refine ac J ?_ ?_
    ·exact bT (aB 1 J aJ J J hU dj lx29 ux29) J (aA J (ab _))
    refine ac J ?_ ?_
    ·exact bh (ax J) J (aA J (ab _))
    refine ac J ?_ ?_
    ·exact bh (ax J) J (aA J (ab _))
    refine ac J ?_ ?_
    ·exact bT (aC (us:=[I A1 n1 c1,I A2 n2 c2]) 7 J J cu J) J (aA J (ab _))
    exact dh
   intro A33 n33 c33 A34 n34 c34 B36;refine gP (t:=[(47,.agg #[iV y30.Kind,iV y30.Shape,iV y30.Flags,iV y30.Age,I A33 n33 c33,I A34 n34 c34]),(15,pV B36 0),(1,I A3 n3 c3),(2,pV B4 0),(4,pV B5 0),(5,I none 0 0),(6,I none 0 0),(7,iV 0),(9,I A13 n13 c13),(10,I A14 n14 c14),(11,I A23 n23 c23),(12,pV B17 0),(13,I A24 n24 c24),(14,iV p25)]) (L':=[aS A33 n33 c33 y30.Slots,aS A34 n34 c34 y30.More,aw B36 47 [iV 0,iV 0,iV 0,iV 0,I none 0 0,I none 0 0],aS A3 n3 c3 a1,cc A13 n13 c13 y12.1,cc A14 n14 c14 y12.2,eM A23 n23 c23 p23,cB A24 n24 c24 p24,br A1 n1 c1 a0.Young,br A2 n2 c2 a0.Old,aw B4 36 [I A1 n1 c1,I A2 n2 c2],aw B5 36 [I none 0 0,I none 0 0],tM A26 n26 c26 p26,aw B17 36 [I none 0 0,I A26 n26 c26]]) ?_ gA (ab _);refine nh 7 J O (au (us:=[iV y30.Kind,iV y30.Shape,iV y30.Flags,iV y30.Age,I A33 n33 c33,I A34 n34 c34]) (cs':=[iV y30.Kind,iV y30.Shape,iV y30.Flags,iV y30.Age,I A33 n33 c33,I A34 n34 c34]) 2 J J J J bu J J J) J J ?_;rintro _ _ rfl;refine qu ?_;refine gx O ?_;refine jB ?_
   refine aP (fun s L=> ∃p38 p39 p40 p41 p42 p43 A42 n42 c42 A43 n43 c43,fD N (cp N a1 y12 a0 m22) p25 a1 y12 p23 p24 a0 p26 p38 p39 p40 p41 p42 p43=some r∧s=[(1,I A3 n3 c3),(2,pV B4 0),(4,pV B5 0),(5,I none 0 0),(6,I none 0 0),(7,iV 0),(9,I A13 n13 c13),(10,I A14 n14 c14),(11,I A23 n23 c23),(12,pV B17 0),(13,I A24 n24 c24),(14,iV p25),(15,pV B36 0)]∧L=[aS A3 n3 c3 a1,cc A13 n13 c13 y12.1,cc A14 n14 c14 y12.2,eM A23 n23 c23 p23,cB A24 n24 c24 p24,br A1 n1 c1 a0.Young,br A2 n2 c2 a0.Old,aw B4 36 [I A1 n1 c1,I A2 n2 c2],aw B5 36 [I none 0 0,I none 0 0],tM A26 n26 c26 p26,aw B17 36 [I none 0 0,I A26 n26 c26],aS A42 n42 c42 p42,aS A43 n43 c43 p43,aw B36 47 [iV p38,iV p39,iV p40,iV p41,I A42 n42 c42,I A43 n43 c43]]) ?_ ?_
   ·refine V ?_;refine aq J (fun g44=> ?_) (fun g44=> ?_)
    ·replace h:=ag g44 h;refine dA ?_;refine gR (aC (us:=[iV y30.Kind,iV y30.Shape,iV y30.Flags,iV y30.Age,I A33 n33 c33,I A34 n34 c34]) 2 J J bo J) ?_;refine V ?_;obtain ⟨y45,hy45,h⟩:=aa h;refine gD (ak (vY hy45) DM J (hJ (ap (i:=0) J J) (hJ (ap (i:=1) J J) (hJ (ap (i:=6) J J) ai))) ts) ?_;rintro _ _ ⟨_,⟨A46,n46,c46,A47,n47,c47,rfl,rfl⟩,rfl⟩;refine gO (au (us:=[iV y45.Kind,iV y45.Shape,iV y45.Flags,iV y45.Age,I A46 n46 c46,I A47 n47 c47]) (cs':=[iV y45.Kind,iV y45.Shape,iV y45.Flags,iV y45.Age,I A46 n46 c46,I A47 n47 c47]) 4 J J J J bu J J J) ?_;rintro _ _ rfl;refine V ?_;exact ⟨_,_,⟨y45.Kind,y45.Shape,y45.Flags,y45.Age,y45.Slots,y45.More,A46,n46,c46,A47,n47,c47,h,J,J⟩,sA,(cg 0 J).trans ((cg 1 J).trans (cS [5,6,7,8,9,10,11,12,13,14,15,0,1,4] 16))⟩
    replace h:=ah g44 h;refine V ?_;exact ⟨_,_,⟨y30.Kind,y30.Shape,y30.Flags,y30.Age,y30.Slots,y30.More,A33,n33,c33,A34,n34,c34,h,J,J⟩,sA,cS [3,4,5,6,7,8,9,10,11,12,13,0,1,2] 14⟩
   rintro _ _ ⟨p38,p39,p40,p41,p42,p43,A42,n42,c42,A43,n43,c43,h,rfl,rfl⟩;refine aP (fun s L=> ∃p49 p50 p51 p52 p53 p54 p55 A49 n49 c49 A54 n54 c54 A55 n55 c55,fC N (cp N a1 y12 a0 m22) p25 a1 y12 p23 a0 p26 p49 p50 p51 p52 p53 p54 p55=some r∧s=[(1,I A3 n3 c3),(2,pV B4 0),(4,pV B5 0),(5,I none 0 0),(6,I none 0 0),(7,iV 0),(9,I A13 n13 c13),(10,I A14 n14 c14),(11,I A23 n23 c23),(12,pV B17 0),(13,I A49 n49 c49),(14,iV p25),(15,pV B36 0)]∧L=[aS A3 n3 c3 a1,cc A13 n13 c13 y12.1,cc A14 n14 c14 y12.2,eM A23 n23 c23 p23,cB A49 n49 c49 p49,br A1 n1 c1 a0.Young,br A2 n2 c2 a0.Old,aw B4 36 [I A1 n1 c1,I A2 n2 c2],aw B5 36 [I none 0 0,I none 0 0],tM A26 n26 c26 p26,aw B17 36 [I none 0 0,I A26 n26 c26],aS A54 n54 c54 p54,aS A55 n55 c55 p55,aw B36 47 [iV p50,iV p51,iV p52,iV p53,I A54 n54 c54,I A55 n55 c55]]) ?_ ?_
   ·refine V ?_;refine gR (aR 13 J J cM J) ?_;refine V ?_;refine aq J (fun g56=> ?_) (fun g56=> ?_)
    ·replace h:=ag g56 h;refine V ?_;refine gR (aC (us:=[iV p38,iV p39,iV p40,iV p41,I A42 n42 c42,I A43 n43 c43]) 13 J J bo J) ?_;refine V ?_;obtain ⟨y57,hy57,h⟩:=aa h;refine gD (cw (vW hy57) DL J (bq [11,12,3] [] [0,1,2,3,4,5,6,7,8,9,10,11,12,13] 14 J)) ?_;rintro _ _ ⟨_,⟨A58,n58,c58,A59,n59,c59,A60,n60,c60,rfl,rfl⟩,rfl⟩;refine V ?_;refine gD (aM dD J) ?_;rintro _ _ ⟨B61,rfl,rfl⟩;refine gO (au (us:=[iV y57.1.Kind,iV y57.1.Shape,iV y57.1.Flags,iV y57.1.Age,I A58 n58 c58,I A59 n59 c59]) (cs':=[iV y57.1.Kind,iV y57.1.Shape,iV y57.1.Flags,iV y57.1.Age,I A58 n58 c58,I A59 n59 c59]) 0 J J J J bu J J J) ?_;rintro _ _ rfl;refine bX ?_;refine V ?_;refine gR (aC (us:=[iV y57.1.Kind,iV y57.1.Shape,iV y57.1.Flags,iV y57.1.Age,I A58 n58 c58,I A59 n59 c59]) 0 J J bo J) ?_;refine gO (au (us:=[iV y57.1.Kind,iV y57.1.Shape,iV y57.1.Flags,iV y57.1.Age,I A58 n58 c58,I A59 n59 c59]) (cs':=[iV y57.1.Kind,iV y57.1.Shape,iV y57.1.Flags,iV y57.1.Age,I A58 n58 c58,I A59 n59 c59]) 17 J J J J bu J J J) ?_;rintro _ _ rfl;refine V ?_;obtain ⟨q62,h⟩:=am h;refine gD (ba 8 3 J J aJ J J hO nn J J q62) ?_;rintro _ _ ⟨A63,n63,c63,rfl,rfl⟩;refine V ?_;exact ⟨_,_,⟨p24++y57.2,y57.1.Kind,y57.1.Shape,y57.1.Flags,y57.1.Age,y57.1.Slots,y57.1.More,A63,n63,c63,A58,n58,c58,A59,n59,c59,h,J,J⟩,sA,cS [4,5,6,7,8,9,10,11,12,13,14,1,2,17] 18⟩
    replace h:=ah g56 h;refine V ?_;exact ⟨_,_,⟨p24,p38,p39,p40,p41,p42,p43,A24,n24,c24,A42,n42,c42,A43,n43,c43,h,J,J⟩,sA,cS [0,1,2,3,4,5,6,7,8,9,10,11,12,13] 14⟩
   rintro _ _ ⟨p49,p50,p51,p52,p53,p54,p55,A49,n49,c49,A54,n54,c54,A55,n55,c55,h,rfl,rfl⟩;obtain ⟨y64,hy64,h⟩:=aa h;refine dP (t:=[(1,I A3 n3 c3),(2,pV B4 0),(4,pV B5 0),(5,I none 0 0),(6,I none 0 0),(7,iV 0),(9,I A13 n13 c13),(10,I A14 n14 c14),(11,I A23 n23 c23),(12,pV B17 0),(13,I A49 n49 c49),(14,iV p25),(15,pV B36 0)]) ?_ gA (ab _)
   refine eR O 7 [] [1,6] [67,68,69,70,71,72,73] [[],[0],[],[],[],[2,3,4],[5]] [aV (pV B17 1),
aV (I A26 n26 c26),
aV (.agg #[iV p50,iV p51,iV p52,iV p53,I A54 n54 c54,I A55 n55 c55]),
aV (I A13 n13 c13),
aV (I A14 n14 c14),
aX6 (fun (A67:Option Addr) (n67 c67:Nat) (A68:Option Addr) (n68 c68:Nat)=> .agg #[iV y64.Kind,iV y64.Shape,iV y64.Flags,iV y64.Age,I A67 n67 c67,I A68 n68 c68]) (fun A67 n67 c67 A68 n68 c68=> [aS A67 n67 c67 y64.Slots,aS A68 n68 c68 y64.More]),
aX3 (fun (A70:Option Addr) (n70 c70:Nat)=> I A70 n70 c70) (fun A70 n70 c70=> [tM A70 n70 c70 ([y64]:List Gw)])] [] (ab _) (gu) O rfl rfl ?_ ?_ ?_
   ·exact gt
   ·refine ac J ?_ ?_
    ·intro A67 n67 c67 A68 n68 c68;refine fx (aN (R:=bV) (vss:=[[iV y64.Kind,iV y64.Shape,iV y64.Flags,iV y64.Age,I A67 n67 c67,I A68 n68 c68]]) (xs:=[y64]) J (t8 _ _ _ _ _ _ _ _ _ _) J J (fun _ _ hr=> .cons (⟨_,_,_,_,_,_,J,hr 0 _ J J,hr 1 _ J J⟩) All2.nil)) J ?_;rintro _ _ ⟨A69,n69,c69,rfl,rfl⟩;exact iT A69 n69 c69 (ab _)
    refine ac J ?_ ?_
    ·refine fx (ak (qn hy64) zV J (hJ (ap (i:=11) J J) (hJ (ap (i:=12) J J) (hJ (be (i:=1) J) (hJ (be (i:=2) J) ai)))) nQ) J ?_;rintro _ _ ⟨_,⟨A65,n65,c65,A66,n66,c66,rfl,rfl⟩,rfl⟩;exact AN A65 n65 c65 A66 n66 c66 ((cg 0 J).trans ((cg 1 J).trans (ab _)))
    refine ac J ?_ ?_
    ·exact bh (ax J) J (aA J (ab _))
    refine ac J ?_ ?_
    ·exact bh (ax J) J (aA J (ab _))
    refine ac J ?_ ?_
    ·exact bT (aC (us:=[iV p50,iV p51,iV p52,iV p53,I A54 n54 c54,I A55 n55 c55]) 13 J J bo J) J (aA J (ab _))
    refine ac J ?_ ?_
    ·exact bT (aR 10 J J gK J) J (aA J (ab _))
    refine ac J ?_ ?_
    ·exact bh (bQ J iN) J (aA J (ab _))
    exact dh
   intro A70 n70 c70;refine gP (t:=[(68,I A26 n26 c26),(73,I A70 n70 c70),(1,I A3 n3 c3),(2,pV B4 0),(4,pV B5 0),(5,I none 0 0),(6,I none 0 0),(7,iV 0),(9,I A13 n13 c13),(10,I A14 n14 c14),(11,I A23 n23 c23),(12,pV B17 0),(13,I A49 n49 c49),(14,iV p25),(15,pV B36 0)]) (L':=[tM A70 n70 c70 ([y64]:List Gw),aS A3 n3 c3 a1,cc A13 n13 c13 y12.1,cc A14 n14 c14 y12.2,eM A23 n23 c23 p23,cB A49 n49 c49 p49,br A1 n1 c1 a0.Young,br A2 n2 c2 a0.Old,aw B4 36 [I A1 n1 c1,I A2 n2 c2],aw B5 36 [I none 0 0,I none 0 0],tM A26 n26 c26 p26,aw B17 36 [I none 0 0,I A26 n26 c26],aS A54 n54 c54 p54,aS A55 n55 c55 p55,aw B36 47 [iV p50,iV p51,iV p52,iV p53,I A54 n54 c54,I A55 n55 c55]]) ?_ gA (ab _);obtain ⟨q71,h⟩:=am h;refine kR 7 J O (ba 10 0 J J aJ J J hP Bb J J q71) J J J ?_;rintro _ _ ⟨A72,n72,c72,rfl,rfl⟩;refine qu ?_;refine pS 8 J O (bQ J iN) J J J ?_;refine nh 9 J O (au (us:=[I A72 n72 c72]) (cs':=[I none 0 0,I A72 n72 c72]) 11 J J J J yh J J J) J J ?_;rintro _ _ rfl;refine gx O ?_;refine V ?_;obtain ⟨q73,h⟩:=am h;refine gE (aT J J q73.1 q73.2) ?_;refine V ?_;exact ⟨m22,_,_,GD _,⟨p23,p49,p25+1,p26++([y64]:List Gw),A23,n23,c23,A49,n49,c49,A72,n72,c72,h,J,J⟩,sA,cS [1,2,3,4,5,6,7,8,9,10,11] 15⟩
  replace h:=ah g28 h;refine V ?_;exact ⟨_,_,⟨p24,p26,A24,n24,c24,A26,n26,c26,h,J,J⟩,sA,cS [0,1,2,4,8,9,10] 11⟩
 rintro _ _ ⟨p20,p21,A20,n20,c20,A21,n21,c21,h,rfl,rfl⟩;refine ay ?_;refine cy O ([aS A3 n3 c3 a1,cc A13 n13 c13 y12.1,cc A14 n14 c14 y12.2,cB A20 n20 c20 p20,tM A21 n21 c21 p21,aw B17 36 [I none 0 0,I A21 n21 c21]]) (cS [0,1,2,3,5,6] 7) ?_;refine zR 0 J (aC (us:=[I none 0 0,I A21 n21 c21]) 5 J J cu J) ?_;refine zE 1 J (ax J) ?_;refine zE 2 J (ax J) ?_;refine zE 3 J (ax J) ?_;refine zE 5 J (ax J) ?_;refine zE 6 J (ax J) ?_;refine zE 7 J (ax J) ?_;obtain ⟨y74,hy74,h⟩:=aa h;refine zD 4 J (ak (o3 hy74) zU J (hJ (ap (i:=0) J J) (hJ (be (i:=1) J) (hJ (be (i:=2) J) ai))) mZ) ?_;rintro _ _ ⟨_,⟨A75,n75,c75,rfl,rfl⟩,rfl⟩;refine gX (cS [1,2,3,4,6,7] 8) ?_;obtain ⟨y76,hy76,h⟩:=aa h;refine zD 8 J (ak (o3 hy76) zU J (hJ (be (i:=4) J) (hJ (be (i:=2) J) (hJ (be (i:=3) J) ai))) mZ) ?_;rintro _ _ ⟨_,⟨A77,n77,c77,rfl,rfl⟩,rfl⟩;refine gX (cS [2,3,4,5,7,8] 9) ?_;refine zO 9 J (au (us:=[I none 0 0,I A21 n21 c21]) (cs':=[I none 0 0,I A21 n21 c21]) 6 J J J J iX J J J) ?_;rintro _ _ rfl;refine gX (cS [2,3,4,5,7,8] 9) ?_;refine zE 10 J (bz J) ?_;refine zE 11 J (bz J) ?_;refine zE 12 J (bz J) ?_;refine cx O ?_;refine V ?_;obtain rfl:=ao h
 exact dl (rs:=[.cell 4 36,.tmp 5,.tmp 6,.tmp 7]) (vs:=[.agg #[I none 0 0,I A21 n21 c21],I A75 n75 c75,I A77 n77 c77,iV 0]) J (.cons (bY 6 J J cu) (.cons (im J) (.cons (im J) (.cons (im J) .nil)))) J ((bL bV 47 _).trans (cS [0,8,2,1] 10)) ⟨_,_,_,_,_,_,_,_,_,_,_,_,J,J⟩
def kE (N:Nat)(a0:Gw)(a1:Gw):Option Bool:=
 (bif decide (a0.Kind=a1.Kind) then (some (decide (a0.Shape=a1.Shape))) else (some false)).bind fun b7=>(bif b7 then (some (decide (a0.Flags=a1.Flags))) else (some false)).bind fun b8=>(bif b8 then (some (decide (a0.Age=a1.Age))) else (some false)).bind fun b9=>(bif b9 then ((bM N a0.Slots a1.Slots).bind fun y11=>some y11) else (some false)).bind fun b10=>(bif b10 then ((bM N a0.More a1.More).bind fun y13=>some y13) else (some false)).bind fun b12=>some b12
set_option maxHeartbeats 4000000 in
theorem xg {N:Nat}{a0:Gw}{a1:Gw}{r:Bool}(h:kE N a0 a1=some r):Okc Tryz.prog 29 [.agg #[iV a0.Kind,iV a0.Shape,iV a0.Flags,iV a0.Age,I A1 n1 c1,I A2 n2 c2],.agg #[iV a1.Kind,iV a1.Shape,iV a1.Flags,iV a1.Age,I A3 n3 c3,I A4 n4 c4]] ([aS A1 n1 c1 a0.Slots,aS A2 n2 c2 a0.More,aS A3 n3 c3 a1.Slots,aS A4 n4 c4 a1.More]) (fun u post=>u=.bool r∧post=[]):=by
 refine bx Tryz.func29 J J ?_;simp only [aU];refine V ?_;refine gD (aX J J) ?_;rintro _ _ ⟨B5,rfl,rfl⟩;refine gD (aX J J) ?_;rintro _ _ ⟨B6,rfl,rfl⟩;refine V ?_;obtain ⟨b7,hb7,h⟩:=aa h;refine aD 6 16 b7 ?_ ?_
 ·clear h;refine aE 10 J (fun g7=> ?_) (fun g7=> ?_)
  ·have h:=ag g7 hb7;refine V ?_;obtain rfl:=ao h;exact ad sA (cS [0,1,2,3,4,5] 6)
  have h:=ah g7 hb7;refine V ?_;obtain rfl:=ao h;exact ad sA (cS [0,1,2,3,4,5] 6)
 refine V ?_;obtain ⟨b8,hb8,h⟩:=aa h;refine aD 6 23 b8 ?_ ?_
 ·clear h;refine aE 17 J (fun g8=> ?_) (fun g8=> ?_)
  ·have h:=ag g8 hb8;refine V ?_;obtain rfl:=ao h;exact ad sA (cS [0,1,2,3,4,5] 6)
  have h:=ah g8 hb8;refine V ?_;obtain rfl:=ao h;exact ad sA (cS [0,1,2,3,4,5] 6)
 refine V ?_;obtain ⟨b9,hb9,h⟩:=aa h;refine aD 6 30 b9 ?_ ?_
 ·clear h;refine aE 24 J (fun g9=> ?_) (fun g9=> ?_)
  ·have h:=ag g9 hb9;refine V ?_;obtain rfl:=ao h;exact ad sA (cS [0,1,2,3,4,5] 6)
  have h:=ah g9 hb9;refine V ?_;obtain rfl:=ao h;exact ad sA (cS [0,1,2,3,4,5] 6)
 refine V ?_;obtain ⟨b10,hb10,h⟩:=aa h;refine aD 6 37 b10 ?_ ?_
 ·clear h;refine aE 31 J (fun g10=> ?_) (fun g10=> ?_)
  ·have h:=ag g10 hb10;refine V ?_;obtain ⟨y11,hy11,h⟩:=aa h;refine ca (ak (eA hy11) t6 J (hJ (ap (i:=2) J J) (hJ (ap (i:=4) J J) ai)) dM) J (aO g10 J) J ?_;rintro _ _ ⟨_,⟨rfl,rfl⟩,rfl⟩;refine V ?_;obtain rfl:=ao h;exact ad sA (cS [0,1,2,3,4,5] 6)
  have h:=ah g10 hb10;refine V ?_;obtain rfl:=ao h;exact ad sA (cS [0,1,2,3,4,5] 6)
 refine V ?_;obtain ⟨b12,hb12,h⟩:=aa h;refine aD 6 44 b12 ?_ ?_
 ·clear h;refine aE 38 J (fun g12=> ?_) (fun g12=> ?_)
  ·have h:=ag g12 hb12;refine V ?_;obtain ⟨y13,hy13,h⟩:=aa h;refine ca (ak (eA hy13) t6 J (hJ (ap (i:=3) J J) (hJ (ap (i:=5) J J) ai)) dM) J (aO g12 J) J ?_;rintro _ _ ⟨_,⟨rfl,rfl⟩,rfl⟩;refine V ?_;obtain rfl:=ao h;exact ad sA (cS [0,1,2,3,4,5] 6)
  have h:=ah g12 hb12;refine V ?_;obtain rfl:=ao h;exact ad sA (cS [0,1,2,3,4,5] 6)
 refine V ?_;obtain rfl:=ao h;exact aL J J (cS [] 6) ⟨J,J⟩
theorem uu {r:Bool}: ∀v post,((fun (u:Value) (post:List Chunk)=>u=.bool r∧post=[])) v post→ ∀c∈post,bR c:=by
 rintro _ _ ⟨rfl,rfl⟩;exact ai
def qj (N:Nat):Option Bool:=
 some true
def mx (N:Nat)(a0:(List Gw))(a1:(List Gw)):Nat→Int→Option Bool
 |0,_=>none
 |m5+1,p6=>bif decide (p6<(a0.length:Int)) then ((aH a0 p6).bind fun x8=>(aH a1 p6).bind fun x12=>(kE N x8 x12).bind fun y16=>bif !y16 then (some false) else (bD (in64 (p6+1)) ((mx N a0 a1 m5) (p6+1)))) else (qj N)
def dv (N:Nat)(a0:(List Gw))(a1:(List Gw)):Option Bool:=
 bif !decide ((a0.length:Int)=(a1.length:Int)) then (some false) else (mx N a0 a1 N 0)
set_option maxHeartbeats 4000000 in
theorem jY {N:Nat}{a0:(List Gw)}{a1:(List Gw)}{r:Bool}(h:dv N a0 a1=some r):Okc Tryz.prog 41 [I A1 n1 c1,I A2 n2 c2] ([br A1 n1 c1 a0,br A2 n2 c2 a1]) (fun u post=>u=.bool r∧post=[]):=by
 refine bx Tryz.func41 J J ?_;simp only [aU];refine V ?_;refine ay ?_;refine V ?_;refine gR (aG 0 J ae J hP) ?_;refine V ?_;refine gR (aG 1 J ae J hP) ?_;refine V ?_;refine aq J (fun g3=> ?_) (fun g3=> ?_)
 ·replace h:=ag g3 h;refine V ?_;obtain rfl:=ao h;exact aL J J (cS [] 2) ⟨J,J⟩
 replace h:=ah g3 h;refine V ?_;refine aP (fun s L=>qj N=some r∧s=[(4,.bool false)]∧L=[]) ?_ ?_
 ·refine V ?_;refine aZ (fun m s L=> ∃p6,mx N a0 a1 m p6=some r∧s=[(0,I A1 n1 c1),(1,I A2 n2 c2),(4,.bool false),(5,iV p6)]∧L=[br A1 n1 c1 a0,br A2 n2 c2 a1]) N _ _ ⟨0,h,J,J⟩ sA (cS [0,1] 2) ?_;rintro (_|m5) _ _ ⟨p6,h,rfl,rfl⟩
  ·exact az h
  rw [mx.eq_2] at h;refine ay ?_;refine V ?_;refine gR (aG 0 J ae J hP) ?_;refine V ?_;refine aq J (fun g7=> ?_) (fun g7=> ?_)
  ·replace h:=ag g7 h;refine V ?_;refine ay ?_;refine cQ ?_;refine ay ?_;refine cy O _ (ab _) ?_;refine zE 0 J (ax J) ?_;refine zE 1 J (ax J) ?_;obtain ⟨x8,hx8,h⟩:=aa h;obtain ⟨lx8,ux8,hx8⟩:=aj hx8;refine zR 2 J (aB 0 J ae J J hP bu lx8 ux8) ?_;refine ru 0 J hx8 (cA x8) ?_;rintro _ _ ⟨A9,n9,c9,A10,n10,c10,rfl,rfl⟩;refine zR 3 J (mr (us:=[iV x8.Kind,iV x8.Shape,iV x8.Flags,iV x8.Age,I A9 n9 c9,I A10 n10 c10]) 0 J J bo J) ?_;refine zE 4 J (ax J) ?_;refine zE 5 J (ax J) ?_;obtain ⟨x12,hx12,h⟩:=aa h;obtain ⟨lx12,ux12,hx12⟩:=aj hx12;refine zR 6 J (aB 4 J ae J J hP bu lx12 ux12) ?_;refine ru 4 J hx12 (cA x12) ?_;rintro _ _ ⟨A13,n13,c13,A14,n14,c14,rfl,rfl⟩;refine zR 7 J (mr (us:=[iV x12.Kind,iV x12.Shape,iV x12.Flags,iV x12.Age,I A13 n13 c13,I A14 n14 c14]) 0 J J bo J) ?_;obtain ⟨y16,hy16,h⟩:=aa h;refine zD 8 J (ak (xg hy16) EN J (hJ (ap (i:=4) J J) (hJ (ap (i:=5) J J) (hJ (ap (i:=1) J J) (hJ (ap (i:=2) J J) ai)))) uu) ?_;rintro _ _ ⟨_,⟨rfl,rfl⟩,rfl⟩;refine ⟨_,ab _,ab _,?_⟩;refine zE 9 J (rl J) ?_;refine cx O ?_;refine jB ?_;refine aq J (fun g17=> ?_) (fun g17=> ?_)
   ·replace h:=ag g17 h;refine V ?_;obtain rfl:=ao h;exact aL J J (cS [] 8) ⟨J,J⟩
   replace h:=ah g17 h;refine V ?_;obtain ⟨q18,h⟩:=am h;refine gE (aT J J q18.1 q18.2) ?_;refine V ?_;exact ⟨m5,_,_,GD _,⟨p6+1,h,J,J⟩,sA,cS [6,7] 8⟩
  replace h:=ah g7 h;refine V ?_;exact ⟨_,_,⟨h,J,J⟩,sA,cS [] 2⟩
 rintro _ _ ⟨h,rfl,rfl⟩;refine V ?_;obtain rfl:=ao h;exact aL J J (cS [] 0) ⟨J,J⟩
theorem iz {r:Bool}: ∀v post,((fun (u:Value) (post:List Chunk)=>u=.bool r∧post=[])) v post→ ∀c∈post,bR c:=by
 rintro _ _ ⟨rfl,rfl⟩;exact ai
def eo (N:Nat)(a0:Gx)(y8:(Gx)):Option Bool:=
 (dv N y8.Young a0.Young).bind fun y58=>(bif y58 then ((dv N y8.Old a0.Old).bind fun y60=>some y60) else (some false)).bind fun b59=>(bif b59 then ((ef N).bind fun y62=>some y62) else (some false)).bind fun b61=>some b61
def fQ (N:Nat)(kb44:Int→Option Bool)(y12:(Gx×(List Gu)×(List Gu)×Int))(p45:Int)(a0:Gx)(y8:(Gx)):Option Bool:=
 bD (in64 (p45+1)) (kb44 (p45+1))
def cI (N:Nat)(kb44:Int→Option Bool)(p45:Int)(y12:(Gx×(List Gu)×(List Gu)×Int))(x48:Nat)(a0:Gx)(y8:(Gx)):Nat→Int→Option Bool
 |0,_=>none
 |m50+1,p51=>bif decide (p51<(x48:Int)) then ((aH (List.map (fun x=>x.More.length) y12.1.Old:List Nat) p45).bind fun x53=>bD ((0:Int)≤p51∧p51<(x53:Int)) (bD (in64 (p51+1)) ((cI N kb44 p45 y12 x48 a0 y8 m50) (p51+1)))) else (fQ N kb44 y12 p45 a0 y8)
def bp (N:Nat)(y12:(Gx×(List Gu)×(List Gu)×Int))(a0:Gx)(y8:(Gx)):Nat→Int→Option Bool
 |0,_=>none
 |m44+1,p45=>bif decide (p45<(y12.1.Old.length:Int)) then ((aH (List.map (fun x=>x.More.length) y12.1.Old:List Nat) p45).bind fun x48=>cI N (bp N y12 a0 y8 m44) p45 y12 x48 a0 y8 N 0) else (eo N a0 y8)
def eP (N:Nat)(a0:Gx)(a1:(List Gu)):Option Bool:=
 (gh N a0 a1).bind fun y5=>bif !y5 then ((ef N).bind fun y7=>some y7) else ((iy N a0).bind fun y8=>(bw N y8 a1).bind fun y12=>(jk N a0 a1).bind fun y18=>(dx N y8 a1).bind fun y24=>(ir N a0 a1).bind fun y27=>(bif !decide (y12.2.2.2=y18.2.2.2) then (some true) else ((dv N y12.1.Young y18.1.Young).bind fun y31=>some (!y31))).bind fun b30=>(bif b30 then (some true) else ((dv N y12.1.Old y18.1.Old).bind fun y33=>some (!y33))).bind fun b32=>(bif b32 then (some true) else ((bM N y12.2.1 y18.2.1).bind fun y35=>some (!y35))).bind fun b34=>(bif b34 then (some true) else ((bM N y12.2.2.1 y18.2.2.1).bind fun y37=>some (!y37))).bind fun b36=>(bif b36 then (some true) else ((ck N y24.1 y27.1).bind fun y39=>some (!y39))).bind fun b38=>(bif b38 then (some true) else ((ck N y24.2 y27.2).bind fun y41=>some (!y41))).bind fun b40=>bif b40 then (some false) else (bp N y12 a0 y8 N 0))
set_option maxHeartbeats 4000000 in
theorem nr {N:Nat}{a0:Gx}{a1:(List Gu)}{r:Bool}(h:eP N a0 a1=some r):Okc Tryz.prog 6 [.agg #[I A1 n1 c1,I A2 n2 c2],I A3 n3 c3] ([br A1 n1 c1 a0.Young,br A2 n2 c2 a0.Old,aS A3 n3 c3 a1]) (fun u post=>u=.bool r∧post=[]):=by
 refine bx Tryz.func6 J J ?_;simp only [aU];refine V ?_;refine gD (aX J J) ?_;rintro _ _ ⟨B4,rfl,rfl⟩;refine V ?_;refine ay ?_;refine V ?_;refine gR (aC (us:=[I A1 n1 c1,I A2 n2 c2]) 0 J J cu J) ?_;refine V ?_;obtain ⟨y5,hy5,h⟩:=aa h;refine gD (ak (yn hy5) EP J (hJ (ap (i:=1) J J) (hJ (ap (i:=2) J J) (hJ (ap (i:=3) J J) ai))) vV) ?_;rintro _ _ ⟨_,⟨rfl,rfl⟩,rfl⟩;refine V ?_;refine aq J (fun g6=> ?_) (fun g6=> ?_)
 ·replace h:=ag g6 h;refine V ?_;obtain ⟨y7,hy7,h⟩:=aa h;refine gD (ak (ry hy7) Cj J (ai) oW) ?_;rintro _ _ ⟨_,⟨rfl,rfl⟩,rfl⟩;refine V ?_;obtain rfl:=ao h;exact aL J J (cS [] 4) ⟨J,J⟩
 replace h:=ah g6 h;refine V ?_;refine gR (aC (us:=[I A1 n1 c1,I A2 n2 c2]) 0 J J cu J) ?_;obtain ⟨y8,hy8,h⟩:=aa h;refine gD (cw (uo hy8) EO J (bq [1,2] [] [0,1,2,3] 4 J)) ?_;rintro _ _ ⟨_,⟨A9,n9,c9,A10,n10,c10,rfl,rfl⟩,rfl⟩;refine gD (aM kj J) ?_;rintro _ _ ⟨B11,rfl,rfl⟩;refine gO (au (us:=[I A9 n9 c9,I A10 n10 c10]) (cs':=[I A9 n9 c9,I A10 n10 c10]) 0 J J J J iX J J J) ?_;rintro _ _ rfl;refine V ?_;refine gR (aC (us:=[I A9 n9 c9,I A10 n10 c10]) 0 J J cu J) ?_;refine V ?_;obtain ⟨y12,hy12,h⟩:=aa h;refine kT (cg 1 J) ?_;refine bX ?_;refine kT (cg 2 J) ?_;refine gD (cw (i6 hy12) yR J (bq [1,2,6] [] [0,1,2,3,4,5,6] 7 J)) ?_;rintro _ _ ⟨_,⟨A13,n13,c13,A14,n14,c14,A15,n15,c15,A16,n16,c16,rfl,rfl⟩,rfl⟩;refine V ?_;refine gD (aM kj J) ?_;rintro _ _ ⟨B17,rfl,rfl⟩;refine gO (au (us:=[I A13 n13 c13,I A14 n14 c14]) (cs':=[I A13 n13 c13,I A14 n14 c14]) 0 J J J J iX J J J) ?_;rintro _ _ rfl;refine bX ?_;refine V ?_;refine gR (aC (us:=[I A1 n1 c1,I A2 n2 c2]) 8 J J cu J) ?_;refine V ?_;obtain ⟨y18,hy18,h⟩:=aa h;refine gD (cw (th hy18) EJ J (bq [9,10,11] [] [0,1,2,3,4,5,6,7,8,9,10,11] 12 J)) ?_;rintro _ _ ⟨_,⟨A19,n19,c19,A20,n20,c20,A21,n21,c21,A22,n22,c22,rfl,rfl⟩,rfl⟩;refine V ?_;refine gD (aM kj J) ?_;rintro _ _ ⟨B23,rfl,rfl⟩
 refine gO (au (us:=[I A19 n19 c19,I A20 n20 c20]) (cs':=[I A19 n19 c19,I A20 n20 c20]) 0 J J J J iX J J J) ?_;rintro _ _ rfl;refine V ?_;refine gR (aC (us:=[I A9 n9 c9,I A10 n10 c10]) 10 J J cu J) ?_;refine V ?_;obtain ⟨y24,hy24,h⟩:=aa h;refine gD (ak (nb hy24) Ci J (hJ (ap (i:=11) J J) (hJ (ap (i:=12) J J) (hJ (ap (i:=16) J J) ai))) lp) ?_;rintro _ _ ⟨_,⟨A25,n25,c25,A26,n26,c26,rfl,rfl⟩,rfl⟩;refine V ?_;refine gR (aC (us:=[I A1 n1 c1,I A2 n2 c2]) 15 J J cu J) ?_;refine V ?_;obtain ⟨y27,hy27,h⟩:=aa h;refine gD (ak (o5 hy27) Ch J (hJ (ap (i:=16) J J) (hJ (ap (i:=17) J J) (hJ (ap (i:=18) J J) ai))) na) ?_;rintro _ _ ⟨_,⟨A28,n28,c28,A29,n29,c29,rfl,rfl⟩,rfl⟩;refine V ?_;refine ay ?_;refine V ?_;obtain ⟨b30,hb30,h⟩:=aa h;refine aD 7 65 b30 ?_ ?_
 ·clear h;refine aE 58 J (fun g30=> ?_) (fun g30=> ?_)
  ·have h:=ag g30 hb30;refine V ?_;obtain rfl:=ao h;exact ad sA (cS [0,1,2,3,4,5,6,7,8,9,10,11,12,13,14,15,16,17,18,19,20] 21)
  have h:=ah g30 hb30;refine V ?_;refine bA (aR 9 J J gK J) J (fW g30 J) J ?_;refine V ?_;obtain ⟨y31,hy31,h⟩:=aa h;refine ca (ak (jY hy31) wx J (hJ (be (i:=10) J) (hJ (be (i:=5) J) ai)) iz) J (fW g30 J) J ?_;rintro _ _ ⟨_,⟨rfl,rfl⟩,rfl⟩;refine V ?_;obtain rfl:=ao h;exact ad sA (cS [0,1,2,3,4,5,6,7,8,9,10,11,12,13,14,15,16,17,18,19,20] 21)
 refine V ?_;obtain ⟨b32,hb32,h⟩:=aa h;refine aD 7 73 b32 ?_ ?_
 ·clear h;refine aE 66 J (fun g32=> ?_) (fun g32=> ?_)
  ·have h:=ag g32 hb32;refine V ?_;obtain rfl:=ao h;exact ad sA (cS [0,1,2,3,4,5,6,7,8,9,10,11,12,13,14,15,16,17,18,19,20] 21)
  have h:=ah g32 hb32;refine V ?_;refine bA (aR 9 J J gK J) J (fW g32 J) J ?_;refine V ?_;obtain ⟨y33,hy33,h⟩:=aa h;refine ca (ak (jY hy33) wx J (hJ (AC (i:=11) J) (hJ (be (i:=6) J) ai)) iz) J (fW g32 J) J ?_;rintro _ _ ⟨_,⟨rfl,rfl⟩,rfl⟩;refine V ?_;obtain rfl:=ao h;exact ad sA (cS [0,1,2,3,4,5,6,7,8,9,10,11,12,13,14,15,16,17,18,19,20] 21)
 refine V ?_;obtain ⟨b34,hb34,h⟩:=aa h;refine aD 5 79 b34 ?_ ?_
 ·clear h;refine aE 74 J (fun g34=> ?_) (fun g34=> ?_)
  ·have h:=ag g34 hb34;refine V ?_;obtain rfl:=ao h;exact ad sA (cS [0,1,2,3,4,5,6,7,8,9,10,11,12,13,14,15,16,17,18,19,20] 21)
  have h:=ah g34 hb34;refine V ?_;obtain ⟨y35,hy35,h⟩:=aa h;refine ca (ak (eA hy35) t6 J (hJ (be (i:=12) J) (hJ (be (i:=7) J) ai)) dM) J (fW g34 J) J ?_;rintro _ _ ⟨_,⟨rfl,rfl⟩,rfl⟩;refine V ?_;obtain rfl:=ao h;exact ad sA (cS [0,1,2,3,4,5,6,7,8,9,10,11,12,13,14,15,16,17,18,19,20] 21)
 refine V ?_;obtain ⟨b36,hb36,h⟩:=aa h;refine aD 5 85 b36 ?_ ?_
 ·clear h;refine aE 80 J (fun g36=> ?_) (fun g36=> ?_)
  ·have h:=ag g36 hb36;refine V ?_;obtain rfl:=ao h;exact ad sA (cS [0,1,2,3,4,5,6,7,8,9,10,11,12,13,14,15,16,17,18,19,20] 21)
  have h:=ah g36 hb36;refine V ?_;obtain ⟨y37,hy37,h⟩:=aa h;refine ca (ak (eA hy37) t6 J (hJ (be (i:=13) J) (hJ (be (i:=8) J) ai)) dM) J (fW g36 J) J ?_;rintro _ _ ⟨_,⟨rfl,rfl⟩,rfl⟩;refine V ?_;obtain rfl:=ao h;exact ad sA (cS [0,1,2,3,4,5,6,7,8,9,10,11,12,13,14,15,16,17,18,19,20] 21)
 refine V ?_;obtain ⟨b38,hb38,h⟩:=aa h;refine aD 5 91 b38 ?_ ?_
 ·clear h;refine aE 86 J (fun g38=> ?_) (fun g38=> ?_)
  ·have h:=ag g38 hb38;refine V ?_;obtain rfl:=ao h;exact ad sA (cS [0,1,2,3,4,5,6,7,8,9,10,11,12,13,14,15,16,17,18,19,20] 21)
  have h:=ah g38 hb38;refine V ?_;obtain ⟨y39,hy39,h⟩:=aa h;refine ca (ak (lg hy39) wy J (hJ (be (i:=2) J) (hJ (be (i:=0) J) ai)) jl) J (fW g38 J) J ?_;rintro _ _ ⟨_,⟨rfl,rfl⟩,rfl⟩;refine V ?_;obtain rfl:=ao h;exact ad sA (cS [0,1,2,3,4,5,6,7,8,9,10,11,12,13,14,15,16,17,18,19,20] 21)
 refine V ?_;obtain ⟨b40,hb40,h⟩:=aa h;refine aD 5 97 b40 ?_ ?_
 ·clear h;refine aE 92 J (fun g40=> ?_) (fun g40=> ?_)
  ·have h:=ag g40 hb40;refine V ?_;obtain rfl:=ao h;exact ad sA (cS [0,1,2,3,4,5,6,7,8,9,10,11,12,13,14,15,16,17,18,19,20] 21)
  have h:=ah g40 hb40;refine V ?_;obtain ⟨y41,hy41,h⟩:=aa h;refine ca (ak (lg hy41) wy J (hJ (be (i:=3) J) (hJ (be (i:=1) J) ai)) jl) J (fW g40 J) J ?_;rintro _ _ ⟨_,⟨rfl,rfl⟩,rfl⟩;refine V ?_;obtain rfl:=ao h;exact ad sA (cS [0,1,2,3,4,5,6,7,8,9,10,11,12,13,14,15,16,17,18,19,20] 21)
 refine V ?_;refine aq J (fun g42=> ?_) (fun g42=> ?_)
 ·replace h:=ag g42 h;refine V ?_;obtain rfl:=ao h;exact aL J J (cS [] 21) ⟨J,J⟩
 replace h:=ah g42 h;refine V ?_;refine aP (fun s L=>eo N a0 y8=some r∧s=[(2,pV B4 0),(4,.bool false),(5,pV B11 0)]∧L=[br A1 n1 c1 a0.Young,br A2 n2 c2 a0.Old,aw B4 36 [I A1 n1 c1,I A2 n2 c2],br A9 n9 c9 y8.Young,br A10 n10 c10 y8.Old,aw B11 36 [I A9 n9 c9,I A10 n10 c10]]) ?_ ?_
 ·refine V ?_;refine gR (aR 9 J J gK J) ?_;refine gR (CV 11 J CX J hP) ?_;refine Bk ?_;refine mj ?_;refine jB ?_;refine cQ ?_;refine dP ?_ bH (Df (fun x=>x.More.length) (fun _ _ _ _ h=>by obtain ⟨_,_,_,_,_,_,rfl, -,A,c,e, -⟩:=h;exact ⟨A,c,congrArg some e⟩) 11 J);refine sN ?_;refine aZ (fun m s L=> ∃p45,bp N y12 a0 y8 m p45=some r∧s=[(2,pV B4 0),(4,.bool false),(5,pV B11 0),(6,pV B17 0),(100,iV (y12.1.Old.length:Int)),(101,iV p45)]∧L=[br A1 n1 c1 a0.Young,br A2 n2 c2 a0.Old,aw B4 36 [I A1 n1 c1,I A2 n2 c2],br A9 n9 c9 y8.Young,br A10 n10 c10 y8.Old,aw B11 36 [I A9 n9 c9,I A10 n10 c10],tM A13 n13 c13 y12.1.Young,jQ 47 6 5 3 (I A14 n14 c14) (List.map (fun x=>x.More.length) y12.1.Old:List Nat) none,aw B17 36 [I A13 n13 c13,I A14 n14 c14]]) N _ _ ⟨0,h,J,J⟩ sA (cS [18,19,17,15,16,14,10,11,9] 21) ?_;rintro (_|m44) _ _ ⟨p45,h,rfl,rfl⟩
  ·exact az h
  rw [bp.eq_2] at h;refine V ?_;refine ay ?_;refine aq J (fun g46=> ?_) (fun g46=> ?_)
  ·replace h:=ag g46 h;refine V ?_;refine aP (fun s L=>fQ N (bp N y12 a0 y8 m44) y12 p45 a0 y8=some r∧s=[(2,pV B4 0),(4,.bool false),(5,pV B11 0),(6,pV B17 0),(100,iV (y12.1.Old.length:Int)),(101,iV p45)]∧L=[br A1 n1 c1 a0.Young,br A2 n2 c2 a0.Old,aw B4 36 [I A1 n1 c1,I A2 n2 c2],br A9 n9 c9 y8.Young,br A10 n10 c10 y8.Old,aw B11 36 [I A9 n9 c9,I A10 n10 c10],tM A13 n13 c13 y12.1.Young,jQ 47 6 5 3 (I A14 n14 c14) (List.map (fun x=>x.More.length) y12.1.Old:List Nat) none,aw B17 36 [I A13 n13 c13,I A14 n14 c14]]) ?_ ?_
   ·refine V ?_;refine gR (aR 8 J J gK J) ?_;refine V ?_;obtain ⟨x48,hx48,h⟩:=aa h;obtain ⟨lx48,ux48,hx48⟩:=aj hx48;refine gR (vN 7 J sB J J hP bu lx48 ux48) ?_;refine gR (Br 7 J sB J (bB lx48 ux48) ce) ?_;refine gD (xn 7 J J cz hx48 J) ?_;rintro _ _ ⟨A49,c49,rfl,rfl⟩;refine gE (yF J hO) ?_;refine Bk ?_;refine kT (xI 7 J) ?_;refine V ?_;refine aZ (fun m s L=> ∃p51,cI N (bp N y12 a0 y8 m44) p45 y12 x48 a0 y8 m p51=some r∧s=[(2,pV B4 0),(4,.bool false),(5,pV B11 0),(6,pV B17 0),(18,iV p45),(100,iV (y12.1.Old.length:Int)),(101,iV p45),(110,iV (x48:Int)),(111,iV p51)]∧L=[br A1 n1 c1 a0.Young,br A2 n2 c2 a0.Old,aw B4 36 [I A1 n1 c1,I A2 n2 c2],br A9 n9 c9 y8.Young,br A10 n10 c10 y8.Old,aw B11 36 [I A9 n9 c9,I A10 n10 c10],tM A13 n13 c13 y12.1.Young,jQ 47 6 5 3 (I A14 n14 c14) (List.map (fun x=>x.More.length) y12.1.Old:List Nat) none,aw B17 36 [I A13 n13 c13,I A14 n14 c14]]) N _ _ ⟨0,h,J,J⟩ sA (cS [0,1,2,3,4,5,6,7,8] 9) ?_;rintro (_|m50) _ _ ⟨p51,h,rfl,rfl⟩
    ·exact az h
    rw [cI.eq_2] at h;refine V ?_;refine ay ?_;refine aq J (fun g52=> ?_) (fun g52=> ?_)
    ·replace h:=ag g52 h;refine V ?_;refine ay ?_;refine V ?_;refine gR (aR 8 J J gK J) ?_;refine V ?_;obtain ⟨x53,hx53,h⟩:=aa h;obtain ⟨lx53,ux53,hx53⟩:=aj hx53;refine gR (vN 7 J sB J J hP bu lx53 ux53) ?_;refine gR (Br 7 J sB J (bB lx53 ux53) ce) ?_;refine gD (xn 7 J J cz hx53 J) ?_;rintro _ _ ⟨A54,c54,rfl,rfl⟩;refine bX ?_;refine V ?_;obtain ⟨q55,h⟩:=am h;refine gR (vN 7 J Bw J J hO aI q55.1 q55.2) ?_;refine gR (CW 7 J Bw J (bB q55.1 q55.2) eQ) ?_;refine gO (Ay 7 J J J J dj J (bB q55.1 q55.2) J) ?_;rintro _ _ rfl;refine kT (xI 7 J) ?_;refine V ?_;obtain ⟨q56,h⟩:=am h;refine gE (aT J J q56.1 q56.2) ?_;refine V ?_;exact ⟨m50,_,_,GD _,⟨p51+1,h,J,J⟩,sA,cS [0,1,2,3,4,5,6,7,8] 9⟩
    replace h:=ah g52 h;refine V ?_;exact ⟨_,_,⟨h,J,J⟩,sA,cS [0,1,2,3,4,5,6,7,8] 9⟩
   rintro _ _ ⟨h,rfl,rfl⟩;refine dA ?_;obtain ⟨q57,h⟩:=am h;refine gE (aT J J q57.1 q57.2) ?_;refine V ?_;exact ⟨m44,_,_,GD _,⟨p45+1,h,J,J⟩,sA,cS [0,1,2,3,4,5,6,7,8] 9⟩
  replace h:=ah g46 h;refine V ?_;exact ⟨_,_,⟨h,J,J⟩,sA,cS [0,1,2,3,4,5] 9⟩
 rintro _ _ ⟨h,rfl,rfl⟩;refine V ?_;obtain ⟨y58,hy58,h⟩:=aa h;refine gD (ak (jY hy58) wx J (hJ (ap (i:=3) J J) (hJ (ap (i:=0) J J) ai)) iz) ?_;rintro _ _ ⟨_,⟨rfl,rfl⟩,rfl⟩;refine V ?_;obtain ⟨b59,hb59,h⟩:=aa h;refine aD 6 136 b59 ?_ ?_
 ·clear h;refine aE 130 J (fun g59=> ?_) (fun g59=> ?_)
  ·have h:=ag g59 hb59;refine V ?_;obtain ⟨y60,hy60,h⟩:=aa h;refine ca (ak (jY hy60) wx J (hJ (ap (i:=4) J J) (hJ (ap (i:=1) J J) ai)) iz) J (aO g59 J) J ?_;rintro _ _ ⟨_,⟨rfl,rfl⟩,rfl⟩;refine V ?_;obtain rfl:=ao h;exact ad sA (cS [0,1,2,3,4,5] 6)
  have h:=ah g59 hb59;refine V ?_;obtain rfl:=ao h;exact ad sA (cS [0,1,2,3,4,5] 6)
 refine V ?_;obtain ⟨b61,hb61,h⟩:=aa h;refine aD 2 139 b61 ?_ ?_
 ·clear h;refine aE 137 J (fun g61=> ?_) (fun g61=> ?_)
  ·have h:=ag g61 hb61;obtain ⟨y62,hy62,h⟩:=aa h;refine ca (ak (ry hy62) Cj J (ai) oW) J (aO g61 J) J ?_;rintro _ _ ⟨_,⟨rfl,rfl⟩,rfl⟩;refine V ?_;obtain rfl:=ao h;exact ad sA (cS [0,1,2,3,4,5] 6)
  have h:=ah g61 hb61;refine V ?_;obtain rfl:=ao h;exact ad sA (cS [0,1,2,3,4,5] 6)
 refine V ?_;obtain rfl:=ao h;exact aL J J (cS [] 6) ⟨J,J⟩
end
section
variable {A1 A2 A3 A4:Option Addr} {c1 c2 c3 c4 n1 n2 n3 n4:Nat}
open Go.RowKit
structure Gt where
 a_:Gx
 b_:Gx
 x_:(List Int)
 y_:(List Int)
 from_:(List (Int×Int))
 to_:(List (Int×Int))
 deriving DecidableEq,Inhabited
structure Gv where
 M:Gx
 Order:(List Int)
 deriving DecidableEq,Inhabited
structure Gs where
 e0:(List Gu)
 e1:(List Gu)
 deriving DecidableEq,Inhabited
def da (N:Nat)(a0:Int):Option Gu:=
 some (⟨7,a0,⟨#[]⟩⟩:Gu)
def lS (N:Nat){σ:Type}(fy:Int→σ→Option (Bool×σ))(a1:(List Int)):Nat→Int→σ→Option σ
 |0,_,_=>none
 |m3+1,p4,p5=>bif decide (p4<(a1.length:Int)) then ((aH a1 p4).bind fun x7=>(fy x7 p5).bind fun y8=>bif !y8.1 then (some y8.2) else (bD (in64 (p4+1)) ((lS N fy a1 m3) (p4+1) y8.2))) else (some p5)
def sc (N:Nat){σ:Type}(a1:(List Int))(fy:Int→σ→Option (Bool×σ))(s0:σ):Option σ:=
 lS N fy a1 N 0 s0
def oN (N:Nat)(a0:(List Int)):Option Unit:=
 some ()
def nl (N:Nat)(x5:Int):((List Int))→Option (Option Exit×(List Int))
 |p6=>bD (bN (p6.length+([x5]:List Int).length)) (some (none,p6++([x5]:List Int)))
def nv (N:Nat)(a0:(List Int))(a1_0:(List Int)):Option (List Int):=
 (sc N a1_0 (bW (fun x st=>nl N x st)) (none,a0)).bind fun y7=>lw y7.1 (some y7.2) none (fun _=>none)
def pw (N:Nat)(a0_0:(List Int)):Option (List Int):=
 (nv N ([]:List Int) a0_0).bind fun y4=>some y4
def pZ (N:Nat)(a0_0:(List Int)):Option (List Int):=
 (pw N a0_0).bind fun y3=>(gB N y3).bind fun y5=>some y5
def nz (N:Nat)(a0:Gx)(a1:(List Gu)):Option (List Int):=
 (fH N a0 a1).bind fun y5=>(oN N y5.all_).bind fun y11=>(pZ N y5.all_).bind fun y13=>some y13
def mn (N:Nat):Option Bool:=
 (da N 3).bind fun y1=>(da N 2).bind fun y2=>(da N 3).bind fun y8=>(da N 5).bind fun y9=>(da N 1).bind fun y13=>(co N (⟨([(⟨11,0,0,0,[],([y1,y2]:List Gu)⟩:Gw),(⟨11,0,0,0,[],[]⟩:Gw)]:List Gw),([(⟨11,0,0,0,[],[]⟩:Gw)]:List Gw)⟩:Gx) ([y13]:List Gu)).bind fun y16=>(ck N y16 ([1,3,2]:List Int)).bind fun y21=>(bif y21 then ((da N 1).bind fun y23=>(cv N (⟨([(⟨11,0,0,0,[],([y1,y2]:List Gu)⟩:Gw),(⟨11,0,0,0,[],[]⟩:Gw)]:List Gw),([(⟨11,0,0,0,[],[]⟩:Gw)]:List Gw)⟩:Gx) ([y23]:List Gu)).bind fun y26=>(ck N y26 ([1,2,3]:List Int)).bind fun y31=>some y31) else (some false)).bind fun b22=>((bif b22 then ((da N 1).bind fun y33=>(cv N (⟨([(⟨8,0,0,0,([(⟨1,0,⟨#[]⟩⟩:Gu)]:List Gu),([y8,y9]:List Gu)⟩:Gw),(⟨11,0,0,0,[],[]⟩:Gw),(⟨11,0,0,0,[],[]⟩:Gw)]:List Gw),[]⟩:Gx) ([y33]:List Gu)).bind fun y36=>(ck N y36 ([1]:List Int)).bind fun y41=>some y41) else (some false)).bind fun b32=>((bif b32 then ((da N 1).bind fun y43=>(da N 3).bind fun y44=>(cv N (⟨([(⟨8,0,0,0,([(⟨1,0,⟨#[]⟩⟩:Gu)]:List Gu),([y8,y9]:List Gu)⟩:Gw),(⟨11,0,0,0,[],[]⟩:Gw),(⟨11,0,0,0,[],[]⟩:Gw)]:List Gw),[]⟩:Gx) ([y43,y44]:List Gu)).bind fun y47=>(ck N y47 ([1,3,5]:List Int)).bind fun y52=>some y52) else (some false)).bind fun b42=>((bif b42 then ((da N 1).bind fun y54=>(da N 3).bind fun y55=>(nz N (⟨([(⟨8,0,0,0,([(⟨1,0,⟨#[]⟩⟩:Gu)]:List Gu),([y8,y9]:List Gu)⟩:Gw),(⟨11,0,0,0,[],[]⟩:Gw),(⟨11,0,0,0,[],[]⟩:Gw)]:List Gw),[]⟩:Gx) ([y54,y55]:List Gu)).bind fun y58=>(ck N y58 ([1,3]:List Int)).bind fun y63=>some y63) else (some false)).bind fun b53=>(some b53))))
def lX (N:Nat)(a0:Int)(a1:Gx):Option Bool:=
 (dT N a1 a0).bind fun y4=>some (!y4)
def si (N:Nat):Option Bool:=
 some true
def sh (N:Nat)(kb20:Int→Option Bool)(a0:Gx)(p21:Int):Option Bool:=
 bD (in64 (p21+1)) (kb20 (p21+1))
def mU (N:Nat)(kb20:Int→Option Bool)(a0:Gx)(p21:Int)(x24:(List Gw)):Nat→Int→Option Bool
 |0,_=>none
 |m26+1,p27=>bif decide (p27<(x24.length:Int)) then ((aH x24 p27).bind fun x29=>(dS N x29).bind fun y34=>(bif !y34 then (some true) else ((gq N x29).bind fun y36=>(cJ N y36 (fun x=>lX N x a0)).bind fun y38=>some y38)).bind fun b35=>(bif b35 then (some true) else ((gM N x29).bind fun y40=>(cJ N y40 (fun x=>lX N x a0)).bind fun y42=>some y42)).bind fun b39=>bif b39 then (some false) else (bD (in64 (p27+1)) ((mU N kb20 a0 p21 x24 m26) (p27+1)))) else (sh N kb20 a0 p21)
def mV (N:Nat)(a0:Gx):Nat→Int→Option Bool
 |0,_=>none
 |m20+1,p21=>bif decide (p21<(([a0.Young,a0.Old]:List (List Gw)).length:Int)) then ((aH ([a0.Young,a0.Old]:List (List Gw)) p21).bind fun x24=>mU N (mV N a0 m20) a0 p21 x24 N 0) else (si N)
def tc (N:Nat)(a0:Gx):Option Bool:=
 mV N a0 N 0
def nA (N:Nat)(a1:(List Gu))(a0:Gx):Nat→Int→Option Bool
 |0,_=>none
 |m8+1,p9=>bif decide (p9<(a1.length:Int)) then ((aH a1 p9).bind fun x11=>(dE N x11).bind fun y13=>(bif y13.2 then ((dT N a0 y13.1).bind fun y15=>some (!y15)) else (some false)).bind fun b14=>bif b14 then (some false) else (bD (in64 (p9+1)) ((nA N a1 a0 m8) (p9+1)))) else (tc N a0)
def ul (N:Nat)(a0:Gx)(a1:(List Gu)):Option Bool:=
 bD (in64 ((a0.Young.length:Int)+(a0.Old.length:Int))) (bif decide (1048576<(a0.Young.length:Int)+(a0.Old.length:Int)) then (some false) else (nA N a1 a0 N 0))
def vQ (N:Nat):Option Bool:=
 some true
def qg (N:Nat)(a1:(List Int))(a0:Gx):Nat→Int→Option Bool
 |0,_=>none
 |m6+1,p7=>bif decide (p7<(a1.length:Int)) then ((aH a1 p7).bind fun x9=>(eY N a0 x9).bind fun y10=>bif !y10 then (some false) else (bD (in64 (p7+1)) ((qg N a1 a0 m6) (p7+1)))) else (vQ N)
def nE (N:Nat)(a0:Gx)(a1:(List Int)):Option Bool:=
 qg N a1 a0 N 0
def xb (N:Nat):Option Bool:=
 some true
def rK (N:Nat)(a1:(List Gw))(a0:Gx):Nat→Int→Option Bool
 |0,_=>none
 |m6+1,p7=>bif decide (p7<(a1.length:Int)) then ((aH a1 p7).bind fun x9=>(bP N x9).bind fun y13=>(bif !y13 then (some true) else ((aH a1 p7).bind fun x15=>(fk N x15).bind fun y18=>(nE N a0 y18).bind fun y20=>some (!y20))).bind fun b14=>(bif b14 then (some true) else ((aH a1 p7).bind fun x22=>(iC N x22).bind fun y25=>(nE N a0 y25).bind fun y27=>some (!y27))).bind fun b21=>bif b21 then (some false) else (bD (in64 (p7+1)) ((rK N a1 a0 m6) (p7+1)))) else (xb N)
def tn (N:Nat)(a0:Gx)(a1:(List Gw)):Option Bool:=
 rK N a1 a0 N 0
def rM (N:Nat)(a0:Gx)(a1:(List Gu)):Option Bool:=
 bD (in64 ((a0.Young.length:Int)+(a0.Old.length:Int))) ((bif decide ((a0.Young.length:Int)+(a0.Old.length:Int)≤1048576) then ((tn N a0 a0.Young).bind fun y7=>some y7) else (some false)).bind fun b6=>(bif b6 then ((tn N a0 a0.Old).bind fun y9=>some y9) else (some false)).bind fun b8=>(bif b8 then ((dG N a1).bind fun y11=>(nE N a0 y11).bind fun y13=>some y13) else (some false)).bind fun b10=>some b10)
def vT (N:Nat)(a0:Gx)(a1:(List Gu)):Option (List Int):=
 (dG N a1).bind fun y5=>(ia N a0 ([]:List Int) y5).bind fun y8=>(dU N a0 y8 0).bind fun y10=>(iv N y10).bind fun y12=>some y12
def pt (N:Nat)(a0:Gx)(y8:(Gx)):Option Bool:=
 (dv N y8.Young a0.Young).bind fun y55=>(bif y55 then ((dv N y8.Old a0.Old).bind fun y57=>some y57) else (some false)).bind fun b56=>(bif b56 then ((mn N).bind fun y59=>some y59) else (some false)).bind fun b58=>some b58
def kl (N:Nat)(y44:(Gw))(a0:Gx)(y8:(Gx)):Nat→Int→(List Gu)→Option Bool
 |0,_,_=>none
 |m49+1,p50,p51=>bif decide (p50<(y44.More.length:Int)) then ((aH p51 p50).bind fun x53=>bD (in64 (p50+1)) ((kl N y44 a0 y8 m49) (p50+1) (List.set p51 p50.toNat (⟨(-7),x53.N,x53.S⟩:Gu)))) else (pt N a0 y8)
def Ad (N:Nat)(a0:Gx)(a1:(List Gu))(a2:Int):Option Bool:=
 (gh N a0 a1).bind fun y5=>bif !y5 then ((mn N).bind fun y7=>some y7) else ((iy N a0).bind fun y8=>(dT N y8 a2).bind fun y12=>(eY N a0 a2).bind fun y13=>(bif !(y12==y13) then (some true) else ((dF N y8 a2).bind fun y15=>(iA N a0 a2).bind fun y18=>(kE N y15 y18).bind fun y21=>some (!y21))).bind fun b14=>(bif b14 then (some true) else ((ul N y8 a1).bind fun y23=>(rM N a0 a1).bind fun y24=>some (!(y23==y24)))).bind fun b22=>bif b22 then (some false) else ((nz N y8 a1).bind fun y26=>(vT N a0 a1).bind fun y28=>(ck N y26 y28).bind fun y30=>(bif !y30 then (some true) else ((cv N y8 a1).bind fun y32=>(fu N a0 a1).bind fun y34=>(ck N y32 y34).bind fun y36=>some (!y36))).bind fun b31=>(bif b31 then (some true) else ((co N y8 a1).bind fun y38=>(f5 N a0 a1).bind fun y40=>(ck N y38 y40).bind fun y42=>some (!y42))).bind fun b37=>bif b37 then (some false) else ((dF N y8 a2).bind fun y44=>kl N y44 a0 y8 N 0 y44.More)))
def oR (N:Nat)(a0:(List Gw)):Option (List Gw):=
 bD (bN (([]:List Gw).length+a0.length)) (some (([]:List Gw)++a0))
def qU (N:Nat)(p5:(List Gw)):Option (List Gw):=
 some p5
def lb (N:Nat)(kb6:(List Gw)→Int→Option (List Gw))(y2:((List Gw)))(p8:Int)(p11:(List Gw)):Option (List Gw):=
 bD (in64 (p8+1)) (kb6 p11 (p8+1))
def i1 (N:Nat)(y2:((List Gw))):Nat→(List Gw)→Int→Option (List Gw)
 |0,_,_=>none
 |m6+1,p7,p8=>bif decide (p8<(y2.length:Int)) then ((aH p7 p8).bind fun x12=>(bif decide (x12.Kind=10) then ((dS N x12).bind fun y17=>some y17) else (some false)).bind fun b16=>bif b16 then (bD ((0:Int)≤1∧0≤(1:Int).toNat∧(1:Int).toNat≤x12.More.length) ((aH p7 p8).bind fun x21=>lb N (i1 N y2 m6) y2 p8 (List.set p7 p8.toNat (⟨x21.Kind,x21.Shape,x21.Flags,x21.Age,x21.Slots,(x12.More.drop 0).take ((1:Int).toNat - 0)⟩:Gw)))) else (lb N (i1 N y2 m6) y2 p8 p7)) else (qU N p7)
def mT (N:Nat)(a0:(List Gw)):Option (List Gw):=
 (oR N a0).bind fun y2=>i1 N y2 N y2 0
def qe (N:Nat)(a0:Gx):Option Gx:=
 (mT N a0.Young).bind fun y5=>(mT N a0.Old).bind fun y7=>some (⟨y5,y7⟩:Gx)
def oT (N:Nat)(a0:Gt)(a1:Gu)(a2:Gu):Option Bool:=
 (dE N a1).bind fun y12=>(dE N a2).bind fun y13=>(bif !y12.2 then (some true) else (some (!y13.2))).bind fun b14=>bif b14 then (some (decide (a1=a2))) else ((bif !decide (a1.Kind=a2.Kind) then (some true) else (some (!(a1.S.toList==a2.S.toList)))).bind fun b16=>bif b16 then (some false) else ((bif !((lk a0.from_ y12.1).isSome) then (some true) else (some (!((lk a0.to_ y13.1).isSome)))).bind fun b18=>bif b18 then ((bif !((lk a0.from_ y12.1).isSome) then (some (!((lk a0.to_ y13.1).isSome))) else (some false)).bind fun b20=>(bif b20 then ((dT N a0.a_ y12.1).bind fun y22=>(dT N a0.b_ y13.1).bind fun y23=>some (y22==y23)) else (some false)).bind fun b21=>some b21) else (some (decide ((lk a0.from_ y12.1).getD 0=(lk a0.to_ y13.1).getD 0)))))
def oQ (N:Nat)(ff:(Gu×Gu)→Option Bool):Option Bool:=
 some true
def jT (N:Nat)(ff:(Gu×Gu)→Option Bool)(a0:(List Gu))(a1:(List Gu)):Nat→Int→Option Bool
 |0,_=>none
 |m5+1,p6=>bif decide (p6<(a0.length:Int)) then ((aH a0 p6).bind fun x8=>(aH a1 p6).bind fun x10=>(ff (x8,x10)).bind fun y12=>bif !y12 then (some false) else (bD (in64 (p6+1)) ((jT N ff a0 a1 m5) (p6+1)))) else (oQ N ff)
def pv (N:Nat)(a0:(List Gu))(a1:(List Gu))(ff:(Gu×Gu)→Option Bool):Option Bool:=
 bif !decide ((a0.length:Int)=(a1.length:Int)) then (some false) else (jT N ff a0 a1 N 0)
def fZ (N:Nat)(a0:Gt)(a1:(List Gu))(a2:(List Gu)):Option Bool:=
 (pv N a1 a2 (fun x=>oT N a0 x.1 x.2)).bind fun y12=>some y12
def mS (N:Nat)(a0:Gw)(a1:(List Int)):Option Gw:=
 (bif decide (a0.Kind=8) then ((dS N a0).bind fun y7=>some y7) else (some false)).bind fun b6=>bif b6 then ((ik N a0 a1).bind fun y9=>some y9) else (some a0)
def sj (N:Nat):Option Bool:=
 some true
def mX (N:Nat)(y24:((List Int)))(y9:(Gx))(y14:(Gx))(p31:(List (Int×Int)))(p32:(List (Int×Int))):Nat→Int→(List Int)→(List Int)→Option Bool
 |0,_,_,_=>none
 |m46+1,p47,p48,p49=>bif decide (p47<(y24.length:Int)) then ((aH p48 p47).bind fun x51=>(dF N y9 x51).bind fun y52=>(mS N y52 p48).bind fun y57=>(aH p49 p47).bind fun x62=>(dF N y14 x62).bind fun y63=>(mS N y63 p49).bind fun y68=>(bif !decide (y57.Kind=y68.Kind) then (some true) else (some (!decide (y57.Shape=y68.Shape)))).bind fun b77=>(bif b77 then (some true) else (some (!decide (y57.Flags=y68.Flags)))).bind fun b78=>(bif b78 then (some true) else ((fZ N (⟨y9,y14,p48,p49,p31,p32⟩:Gt) y57.Slots y68.Slots).bind fun y80=>some (!y80))).bind fun b79=>(bif b79 then (some true) else ((fZ N (⟨y9,y14,p48,p49,p31,p32⟩:Gt) y57.More y68.More).bind fun y82=>some (!y82))).bind fun b81=>bif b81 then (some false) else (bD (in64 (p47+1)) ((mX N y24 y9 y14 p31 p32 m46) (p47+1) p48 p49))) else (sj N)
def sk (N:Nat)(a1:(List Gu))(a3:(List Gu))(y9:(Gx))(y14:(Gx))(y24:((List Int)))(y27:((List Int)))(p31:(List (Int×Int)))(p32:(List (Int×Int))):Option Bool:=
 (fZ N (⟨y9,y14,y24,y27,p31,p32⟩:Gt) a1 a3).bind fun y43=>bif !y43 then (some false) else (mX N y24 y9 y14 p31 p32 N 0 y24 y27)
def mY (N:Nat)(y24:((List Int)))(a1:(List Gu))(a3:(List Gu))(y9:(Gx))(y14:(Gx))(y27:((List Int))):Nat→Int→(List (Int×Int))→(List (Int×Int))→Option Bool
 |0,_,_,_=>none
 |m33+1,p34,p35,p36=>bif decide (p34<(y24.length:Int)) then ((aH y24 p34).bind fun x38=>(aH y27 p34).bind fun x39=>bD (in64 (p34+1)) ((mY N y24 a1 a3 y9 y14 y27 m33) (p34+1) (uf (Fd p35 x38 0) x38 p34) (uf (Fd p36 x39 0) x39 p34))) else (sk N a1 a3 y9 y14 y24 y27 p35 p36)
def lB (N:Nat)(a0:Gx)(a1:(List Gu))(a2:Gx)(a3:(List Gu)):Option Bool:=
 (qe N a0).bind fun y9=>(qe N a2).bind fun y14=>(co N y9 a1).bind fun y24=>(co N y14 a3).bind fun y27=>bif !decide ((y24.length:Int)=(y27.length:Int)) then (some false) else (mY N y24 a1 a3 y9 y14 y27 N 0 ([]:(List (Int×Int))) ([]:(List (Int×Int))))
def vR (N:Nat)(p4:(List Gw)):Option (List Gw):=
 some p4
def o6 (N:Nat)(kb5:(List Gw)→Int→Option (List Gw))(p7:Int)(a0:(List Gw))(p6:(List Gw))(x9:Gw)(p15:(List Gu)):Option (List Gw):=
 bD (bN (p6.length+([(⟨x9.Kind,x9.Shape,x9.Flags,x9.Age,x9.Slots,p15⟩:Gw)]:List Gw).length)) (bD (in64 (p7+1)) (kb5 (p6++([(⟨x9.Kind,x9.Shape,x9.Flags,x9.Age,x9.Slots,p15⟩:Gw)]:List Gw)) (p7+1)))
def mu (N:Nat)(a0:(List Gw)):Nat→(List Gw)→Int→Option (List Gw)
 |0,_,_=>none
 |m5+1,p6,p7=>bif decide (p7<(a0.length:Int)) then ((aH a0 p7).bind fun x9=>(bif decide (x9.Kind=10) then ((bP N x9).bind fun y17=>some y17) else (some false)).bind fun b16=>bif b16 then (bD ((0:Int)≤1∧0≤(1:Int).toNat∧(1:Int).toNat≤x9.More.length) (o6 N (mu N a0 m5) p7 a0 p6 x9 ((x9.More.drop 0).take ((1:Int).toNat - 0)))) else (o6 N (mu N a0 m5) p7 a0 p6 x9 x9.More)) else (vR N p6)
def rI (N:Nat)(a0:(List Gw)):Option (List Gw):=
 mu N a0 N ([]:List Gw) 0
def tj (N:Nat)(a0:Gx)(a1:(List Gu)):Option Gv:=
 (rI N a0.Young).bind fun y6=>(rI N a0.Old).bind fun y8=>(f5 N (⟨y6,y8⟩:Gx) a1).bind fun y10=>some (⟨(⟨y6,y8⟩:Gx),y10⟩:Gv)
def vS (N:Nat):Option Int:=
 some (-1)
def qh (N:Nat)(a1:Int)(a0:(List Int)):Nat→Int→Option Int
 |0,_=>none
 |m3+1,p4=>bif decide (p4<(a0.length:Int)) then ((aH a0 p4).bind fun x6=>bif decide (x6=a1) then (some p4) else (bD (in64 (p4+1)) ((qh N a1 a0 m3) (p4+1)))) else (vS N)
def rJ (N:Nat)(a0:(List Int))(a1:Int):Option Int:=
 qh N a1 a0 N 0
def ti (N:Nat):Option Bool:=
 some true
def nF (N:Nat)(a1:(List Gu))(a3:(List Gu))(a0:Gv)(a2:Gv):Nat→Int→Option Bool
 |0,_=>none
 |m13+1,p14=>bif decide (p14<(a1.length:Int)) then ((aH a1 p14).bind fun x16=>(bif decide (x16.Kind=7) then (some true) else ((aH a1 p14).bind fun x18=>some (decide (x18.Kind=9)))).bind fun b17=>(bif !b17 then ((aH a1 p14).bind fun x20=>(aH a3 p14).bind fun x21=>some (!decide (x20=x21))) else (some false)).bind fun b19=>bif b19 then (some false) else ((bif b17 then ((aH a1 p14).bind fun x24=>(aH a3 p14).bind fun x25=>(bif !decide (x24.Kind=x25.Kind) then (some true) else ((aH a1 p14).bind fun x27=>(aH a3 p14).bind fun x28=>some (!(x27.S.toList==x28.S.toList)))).bind fun b26=>(bif b26 then (some true) else ((aH a1 p14).bind fun x30=>(aH a3 p14).bind fun x31=>(eY N a0.M x30.N).bind fun y32=>(eY N a2.M x31.N).bind fun y33=>some (!(y32==y33)))).bind fun b29=>some b29) else (some false)).bind fun b23=>bif b23 then (some false) else ((bif b17 then ((aH a1 p14).bind fun x36=>(eY N a0.M x36.N).bind fun y37=>some y37) else (some false)).bind fun b35=>(bif b35 then ((aH a1 p14).bind fun x39=>(aH a3 p14).bind fun x40=>(rJ N a0.Order x39.N).bind fun y41=>(rJ N a2.Order x40.N).bind fun y42=>some (!decide (y41=y42))) else (some false)).bind fun b38=>bif b38 then (some false) else (bD (in64 (p14+1)) ((nF N a1 a3 a0 a2 m13) (p14+1)))))) else (ti N)
def ms (N:Nat)(a0:Gv)(a1:(List Gu))(a2:Gv)(a3:(List Gu)):Option Bool:=
 bif !decide ((a1.length:Int)=(a3.length:Int)) then (some false) else (nF N a1 a3 a0 a2 N 0)
def o9 (N:Nat)(a0:Gw)(a1:(List Int)):Option Gw:=
 (bif decide (a0.Kind=8) then ((bP N a0).bind fun y7=>some y7) else (some false)).bind fun b6=>bif b6 then ((jx N a0 a1).bind fun y9=>some y9) else (some a0)
def up (N:Nat):Option Bool:=
 some true
def pc (N:Nat):Nat→Int→(List Gw)→(List Gw)→(List Int)→(List Gw)→(List Gw)→(List Int)→Option Bool
 |0,_,_,_,_,_,_,_=>none
 |m23+1,p24,p25,p26,p27,p28,p29,p30=>bif decide (p24<(p27.length:Int)) then ((aH p27 p24).bind fun x32=>(iA N (⟨p25,p26⟩:Gx) x32).bind fun y33=>(o9 N y33 p27).bind fun y38=>(aH p30 p24).bind fun x45=>(iA N (⟨p28,p29⟩:Gx) x45).bind fun y46=>(o9 N y46 p30).bind fun y51=>(bif !decide (y38.Kind=y51.Kind) then (some true) else (some (!decide (y38.Shape=y51.Shape)))).bind fun b58=>(bif b58 then (some true) else (some (!decide (y38.Flags=y51.Flags)))).bind fun b59=>(bif b59 then (some true) else ((ms N (⟨(⟨p25,p26⟩:Gx),p27⟩:Gv) y38.Slots (⟨(⟨p28,p29⟩:Gx),p30⟩:Gv) y51.Slots).bind fun y61=>some (!y61))).bind fun b60=>(bif b60 then (some true) else ((ms N (⟨(⟨p25,p26⟩:Gx),p27⟩:Gv) y38.More (⟨(⟨p28,p29⟩:Gx),p30⟩:Gv) y51.More).bind fun y63=>some (!y63))).bind fun b62=>bif b62 then (some false) else (bD (in64 (p24+1)) ((pc N m23) (p24+1) p25 p26 p27 p28 p29 p30))) else (up N)
def rO (N:Nat)(a0:Gx)(a1:(List Gu))(a2:Gx)(a3:(List Gu)):Option Bool:=
 (tj N a0 a1).bind fun y9=>(tj N a2 a3).bind fun y14=>(bif !decide ((y9.Order.length:Int)=(y14.Order.length:Int)) then (some true) else ((ms N y9 a1 y14 a3).bind fun y20=>some (!y20))).bind fun b19=>bif b19 then (some false) else (pc N N 0 y9.M.Young y9.M.Old y9.Order y14.M.Young y14.M.Old y14.Order)
def Ae (N:Nat)(a0:Gx)(a1:Gx)(a2:Gs):Option Bool:=
 (gh N a0 a2.e0).bind fun y10=>(bif !y10 then (some true) else ((gh N a1 a2.e1).bind fun y12=>some (!y12))).bind fun b11=>bif b11 then ((mn N).bind fun y14=>some y14) else ((lB N a0 a2.e0 a1 a2.e1).bind fun y15=>(rO N a0 a2.e0 a1 a2.e1).bind fun y16=>(bif y15==y16 then ((lB N a1 a2.e1 a0 a2.e0).bind fun y18=>some (y15==y18)) else (some false)).bind fun b17=>(bif b17 then ((lB N a0 a2.e0 a0 a2.e0).bind fun y20=>some y20) else (some false)).bind fun b19=>(bif b19 then ((mn N).bind fun y22=>some y22) else (some false)).bind fun b21=>some b21)
def Ac (N:Nat)(a0:Gx)(a1:(List Gu)):Option Bool:=
 (gh N a0 a1).bind fun y5=>bif !y5 then ((ef N).bind fun y7=>some y7) else ((bw N a0 a1).bind fun y8=>bif !decide (y8.2.2.2=0) then (bD (in64 ((y8.1.Young.length:Int)+(y8.1.Old.length:Int))) (bD (in64 (((y8.1.Young.length:Int)+(y8.1.Old.length:Int))+(y8.2.1.length:Int))) ((bif decide (((y8.1.Young.length:Int)+(y8.1.Old.length:Int))+(y8.2.1.length:Int)=0) then ((ef N).bind fun y18=>some y18) else (some false)).bind fun b17=>some b17))) else ((rO N a0 a1 y8.1 y8.2.1).bind fun y19=>(bif y19 then ((rM N y8.1 y8.2.1).bind fun y21=>some y21) else (some false)).bind fun b20=>(bif b20 then ((ef N).bind fun y23=>some y23) else (some false)).bind fun b22=>some b22))
def pq (N:Nat)(y8:(Gx×(List Gu)×(List Gu)×Int))(p22:Bool):Option Bool:=
 bif p22 then (some false) else ((bw N y8.1 ((([]:List Gu)++y8.2.1)++y8.2.2.1)).bind fun y33=>(bif decide (y33.2.2.2=0) then ((dv N y33.1.Old y8.1.Old).bind fun y40=>some y40) else (some false)).bind fun b39=>(bif b39 then (some (decide ((y33.1.Young.length:Int)=0))) else (some false)).bind fun b41=>(bif b41 then ((bM N y33.2.1 ((([]:List Gu)++y8.2.1)++y8.2.2.1)).bind fun y43=>some y43) else (some false)).bind fun b42=>(bif b42 then (some (decide ((y33.2.2.1.length:Int)=0))) else (some false)).bind fun b44=>(bif b44 then ((ef N).bind fun y46=>some y46) else (some false)).bind fun b45=>some b45)
def Ab (N:Nat)(a0:Gx)(a1:(List Gu)):Option Bool:=
 (gh N a0 a1).bind fun y5=>bif !y5 then ((ef N).bind fun y7=>some y7) else ((bw N a0 a1).bind fun y8=>bif !decide (y8.2.2.2=0) then ((ef N).bind fun y15=>some y15) else (bD (bN (([]:List Gu).length+y8.2.1.length)) (bD (bN ((([]:List Gu)++y8.2.1).length+y8.2.2.1.length)) ((bif !decide ((y8.1.Young.length:Int)=0) then (some true) else ((fu N a0 a1).bind fun y24=>some (!decide ((y8.1.Old.length:Int)=(y24.length:Int))))).bind fun b23=>((bif b23 then (some true) else ((fu N y8.1 ((([]:List Gu)++y8.2.1)++y8.2.2.1)).bind fun y28=>some (!decide ((y28.length:Int)=(y8.1.Old.length:Int))))).bind fun b27=>((bif b27 then (some true) else (some (!decide ((y8.2.2.1.length:Int).tmod 3=0)))).bind fun b31=>(pq N y8 b31)))))))
end
section
variable {A1 A2 A3 A4:Option Addr} {c1 c2 c3 c4 n1 n2 n3 n4:Nat}
open Go.RowKit
def Sat {ρ:Type}(m:Option ρ)(R:ρ→Prop):Prop:= ∃r,m=some r∧R r
theorem aK {ρ:Type}{x:ρ}{R:ρ→Prop}(h:R x):Sat (some x) R:=⟨x,rfl,h⟩
theorem Bi {ρ:Type}{m:Option ρ}{x:ρ}{R:ρ→Prop}(e:m=some x)(h:R x):Sat m R:=⟨x,e,h⟩
theorem Sat.eq {ρ:Type}{m:Option ρ}{x:ρ}(h:Sat m (· =x)):m=some x:=by obtain ⟨r,h1,rfl⟩:=h;exact h1
theorem Sat.mono {ρ:Type}{m:Option ρ}{R Q:ρ→Prop}(h:Sat m R)(k: ∀x,R x→Q x):Sat m Q:=by obtain ⟨r,h1,h2⟩:=h;exact ⟨r,h1,k _ h2⟩
theorem Sat.bind {ρ σ:Type}{m:Option σ}{f:σ→Option ρ}{P:σ→Prop}{R:ρ→Prop}(h:Sat m P)(k: ∀x,P x→Sat (f x) R):Sat (m.bind f) R:=by obtain ⟨x,rfl,h2⟩:=h;exact k x h2
theorem ku {ρ:Type}{b:Bool}{x y:Option ρ}{R:ρ→Prop}(h1:b=true→Sat x R)(h2:b=false→Sat y R):Sat (bif b then x else y) R:=by cases b with|true=>exact h1 rfl|false=>exact h2 rfl
theorem cG {ρ:Type}{p:Prop}[Decidable p]{x y:Option ρ}{R:ρ→Prop}(h1:p→Sat x R)(h2: ¬p→Sat y R):Sat (bif decide p then x else y) R:=by
 by_cases h:p
 ·rw [GB h];exact h1 h
 rw [GC h];exact h2 h
theorem bs {ρ σ:Type}{x:σ}{f:σ→Option ρ}:(some x).bind f=f x:=Eq.trans rfl rfl
theorem ct {ρ:Type}{x y:ρ}:(bif true then x else y)=x:=Eq.trans rfl rfl
theorem cf {ρ:Type}{x y:ρ}:(bif false then x else y)=y:=Eq.trans rfl rfl
theorem nt:(!true)=false:=Eq.trans rfl rfl
theorem nf:(!false)=true:=Eq.trans rfl rfl
theorem cN {a b:Int}(h:a<b):decide (a<b)=true:=GB h
theorem cU {a b:Int}(h:b≤a):decide (a<b)=false:=GC Y
theorem C5 {a b:Int}(h:a≤b):decide (a≤b)=true:=GB h
theorem C6 {a b:Int}(h:b<a):decide (a≤b)=false:=GC Y
theorem pI {a b:Int}(h:a=b):decide (a=b)=true:=GB h
theorem fF {a b:Int}(h:a≠b):decide (a=b)=false:=GC h
theorem kx {ρ:Type}{b:Prop}[Decidable b]{m:Option ρ}(h:b):bD b m=m:=if_pos h
theorem di {ρ:Type}{a:Int}{m:Option ρ}(h1: -9000000000000000000≤a)(h2:a≤9000000000000000000):bD (in64 a) m=m:=if_pos ⟨by omega,by omega⟩
theorem rF {ρ:Type}{n:Nat}{m:Option ρ}(h:n≤1000000):bD (bN n) m=m:=if_pos (by unfold bN;omega)
theorem C7 {α:Type}{xs:List α}{i:Int}(h0:0≤i)(h1:i.toNat<xs.length):aH xs i=some xs[i.toNat]:=by
 unfold aH;rw [if_neg Y,List.getElem?_eq_getElem h1]
theorem bj {α:Type}{xs:List α}{i:Nat}(h1:i<xs.length):aH xs (i:Int)=some xs[i]:=by
 unfold aH;rw [if_neg Y,Int.toNat_natCast,List.getElem?_eq_getElem h1]
theorem cm {σ ρ:Type}(L:Nat→Nat→σ→Option ρ)(n:Nat)(Inv:Nat→σ→Prop)(R:ρ→Prop)
  (round: ∀m i s,i<n→Inv i s→(∀s',Inv (i+1) s'→Sat (L m (i+1) s') R)→Sat (L (m+1) i s) R)
  (fin: ∀m s,Inv n s→Sat (L (m+1) n s) R): ∀m i s,n<m+i→i≤n→Inv i s→Sat (L m i s) R
 |0,i,s,h,h2,_=>by omega
 |m+1,i,s,h,h2,hi=>by
  by_cases e:i=n
  ·subst e;exact fin m s hi
  exact round m i s Y hi fun s' h'=>cm L n Inv R round fin m (i+1) s' Y Y h'
theorem vb {ρ:Type}(L:Nat→Nat→Option ρ)(n:Nat)(Inv:Nat→Prop)(R:ρ→Prop)
  (round: ∀m i,i<n→Inv i→(Inv (i+1)→Sat (L m (i+1)) R)→Sat (L (m+1) i) R)
  (fin: ∀m,Inv n→Sat (L (m+1) n) R) (m i:Nat) (h:n<m+i) (h2:i≤n) (hi:Inv i):Sat (L m i) R:=
 cm (fun m i (_:Unit)=>L m i) n (fun i _=>Inv i) R (fun m i _ h1 h2 h3=>round m i h1 h2 (h3 ())) (fun m _=>fin m) m i () h h2 hi
theorem jC {σ ρ:Type}(L:Nat→σ→Option ρ)(v:σ→Nat)(Inv:σ→Prop)(R:ρ→Prop)
  (round: ∀m s,Inv s→(∀s',v s'<v s→Inv s'→Sat (L m s') R)→Sat (L (m+1) s) R): ∀m s,v s<m→Inv s→Sat (L m s) R
 |0,_,h,_=>by omega
 |m+1,s,h,hi=>round m s hi fun s' h1 h2=>jC L v Inv R round m s' Y h2
theorem aY {α:Type}{l:List α}{i:Nat}(h:i<l.length):l.take (i+1)=l.take i++ [l[i]]:=by
 rw [List.take_add_one,List.getElem?_eq_getElem h];rfl
theorem zZ: ∀{a b:List Int},a.Pairwise (· < ·)→b.Pairwise (· < ·)→(∀x,x∈a↔x∈b)→a=b
 | [],[],_,_,_=>rfl
 | [],y::b,_,_,h=>by have:=(h y).2 (by simp);cases this
 |x::a,[],_,_,h=>by have:=(h x).1 (by simp);cases this
 | x::a,y::b,ha,hb,h=>by
  obtain ⟨ha1,ha2⟩:=List.pairwise_cons.1 ha;obtain ⟨hb1,hb2⟩:=List.pairwise_cons.1 hb
  have e:x=y:=by
   rcases List.mem_cons.1 ((h x).1 (by simp)) with e|h1
   ·exact e
   rcases List.mem_cons.1 ((h y).2 (by simp)) with e|h2
   ·exact e.symm
   have:=hb1 x h1;have:=ha1 y h2;omega
  subst e;rw [zZ ha2 hb2 fun z=> ?_];constructor
  ·intro hz;rcases List.mem_cons.1 ((h z).1 (by simp [hz])) with e|h1
   ·subst e;exact absurd (ha1 z hz) Y
   exact h1
  intro hz;rcases List.mem_cons.1 ((h z).2 (by simp [hz])) with e|h1
  ·subst e;exact absurd (hb1 z hz) Y
  exact h1
theorem Ez {α β:Type}[DecidableEq α](a:α)(L:List (α×β)):(∃i b,fp a L 0=some (i,b)∧L[i]? =some (a,b))∨(fp a L 0=none∧a∉L.map (·.1)):=by
 cases h:fp a L 0 with
 | none=>exact .inr ⟨rfl,fun h1=>by
   obtain ⟨p,h2,h3⟩:=List.mem_map.1 h1
   exact (C9 a L).1 h p h2 h3⟩
 |some q=>obtain ⟨i,b⟩:=q;exact .inl ⟨i,b,J,(zq a L 0 i b h).2⟩
theorem Bc {α β:Type}[DecidableEq α](L:List (α×β))(a:α)(b:β):(uf L a b).map (·.1)=if a∈L.map (·.1) then L.map (·.1) else L.map (·.1)++ [a]:=by
 unfold uf;rcases Ez a L with ⟨i,c,h1,h2⟩|⟨h1,h2⟩
 ·have hm:a∈L.map (·.1):=List.mem_map.2 ⟨_,List.mem_of_getElem? h2,rfl⟩;rw [h1,if_pos hm];show (L.set i (a,b)).map (·.1)=_;rw [List.map_set];apply List.ext_getElem?;intro j;by_cases e:i=j
  ·subst e;have hlt:=(List.getElem?_eq_some_iff.1 h2).1;rw [List.getElem?_set_self (by simpa using hlt),List.getElem?_map,h2];rfl
  rw [List.getElem?_set_ne e]
 rw [h1,if_neg h2];show (L++ [(a,b)]).map (·.1)=_;rw [List.map_append];rfl
theorem CL {α β:Type}[DecidableEq α](L:List (α×β))(a:α)(b:β)(x:α):x∈(uf L a b).map (·.1)↔x=a∨x∈L.map (·.1):=by
 rw [Bc];split
 ·constructor
  ·exact .inr
  rintro (rfl|h)<;>assumption
 rw [List.mem_append,List.mem_singleton];exact Or.comm
end
section
variable {A1 A2 A3 A4:Option Addr} {c1 c2 c3 c4 n1 n2 n3 n4:Nat}
open Go.RowKit
end
section
variable {A1 A2 A3 A4:Option Addr} {c1 c2 c3 c4 n1 n2 n3 n4:Nat}
open Go.RowKit
theorem eE {α:Type}(xs:List α)(i:Nat):aH xs (i:Int)=xs[i]? :=by
 unfold aH;rw [if_neg Y];simp
theorem sy {ρ:Type}{b:Prop}[Decidable b]{m:Option ρ}(h:b):bD b m=m:=if_pos h
def cH (v:Gu):Bool:=decide (v.Kind=7)||decide (v.Kind=9)
def fU (k:Int)(i:Nat):Bool:=!decide (k=8)&&(!decide (k=10)||decide ((i:Int).tmod 2=0))
def pick (f:Nat→Gu→Bool):Nat→List Gu→List Int
 |_,[]=> []
 |i,v::l=>(bif f i v then [v.N] else [])++pick f (i+1) l
theorem i4 (f:Nat→Gu→Bool)(i:Nat)(v:Gu)(l:List Gu):pick f i (v::l)=(bif f i v then [v.N] else [])++pick f (i+1) l:=rfl
theorem qq (f:Nat→Gu→Bool): ∀(i:Nat) (l:List Gu),(pick f i l).length≤l.length
 |_,[]=>Nat.le_refl _
 |i,v::l=>by
  have:=qq f (i+1) l;unfold pick;cases f i v<;>simp<;>omega
theorem uU: ∀(i:Nat) (l:List Gu),pick (fun _ _=>false) i l=[]
 |_,[]=>rfl
 |i,v::l=>by unfold pick;simp [uU (i+1) l]
theorem ss (N:Nat)(v:Gu):kf N v=some (cH v):=by
 unfold kf cH;cases decide (v.Kind=7)<;>rfl
theorem jX (N:Nat)(v:Gu):i3 N v=some (cH v):=by
 unfold i3 cH;cases decide (v.Kind=7)<;>rfl
theorem vA (N:Nat)(a b:Bool)(x:Gu)(p:List Int)(h:p.length≤5000):bW (fun x st=>dg N a x st) (b,x) (none,p)=some (true,(none,p++(bif (b==a)&&cH x then [x.N] else []))):=by
 unfold bW dg;simp only [ss,Option.bind_some];cases b==a
 ·simp
 cases cH x
 ·simp
 have:bN (p.length+ [x.N].length):=by unfold bN;simp only [List.length_cons,List.length_nil];omega
 simp only [cond_true,Option.bind_some,Bool.and_self];rw [sy this];rfl
theorem z7 (N:Nat)(a:Bool)(c:Gw)(hc:c.More.length≤1000)(K:Nat)(hK:K≤1000): ∀(m i:Nat) (p:List Int),c.More.length<m+i→i≤c.More.length→p.length≤K+i→fG N (bW (fun x st=>dg N a x st)) c m (i:Int) (none,p)=some (none,p++pick (fun i v=>(fU c.Kind i==a)&&cH v) i (c.More.drop i))
 |0,i,p,h,h2,_=>by omega
 | m+1,i,p,h,h2,h3=>by
  rw [fG.eq_2];by_cases hi:i<c.More.length
  ·rw [show (decide ((i:Int)<(c.More.length:Int)))=true from GB Y,eE,List.getElem?_eq_getElem hi,List.drop_eq_getElem_cons hi];simp only [cond_true,Option.bind_some]
   have hs:(bif !decide (c.Kind=8) then ((bif !decide (c.Kind=10) then (some true) else (some (decide ((i:Int).tmod 2=0)))).bind fun b22=>some b22) else (some false))=some (fU c.Kind i):=by
    unfold fU;cases decide (c.Kind=8)<;>cases decide (c.Kind=10)<;>rfl
   rw [hs];simp only [Option.bind_some];rw [vA N a _ _ _ Y];rw [Option.bind_some]
   dsimp only
   rw [Bool.not_true,cond_false];rw [sy (by unfold in64;omega)]
   have hlen:(p++(bif (fU c.Kind i==a)&&cH c.More[i] then [c.More[i].N] else [])).length≤K+(i+1):=by
    cases (fU c.Kind i==a)&&cH c.More[i]<;>simp<;>omega
   have:=z7 N a c hc K hK m (i+1) _ Y hi hlen;simp only [Int.natCast_add,Int.cast_ofNat_Int] at this;rw [this];rw [i4,GE]
  rw [show (decide ((i:Int)<(c.More.length:Int)))=false from GC Y,List.drop_eq_nil_of_le Y];simp [pick]
theorem Cs (N:Nat)(hN:2000<N)(a:Bool)(c:Gw)(hS:c.Slots.length≤1000)(hc:c.More.length≤1000): ∀(m i:Nat) (p:List Int),c.Slots.length<m+i→i≤c.Slots.length→p.length≤i→fe N (bW (fun x st=>dg N a x st)) c m (i:Int) (none,p)=some (none,(p++pick (fun _ v=>(true==a)&&cH v) i (c.Slots.drop i))++pick (fun i v=>(fU c.Kind i==a)&&cH v) 0 c.More)
 |0,i,p,h,h2,_=>by omega
 | m+1,i,p,h,h2,h3=>by
  rw [fe.eq_2];by_cases hi:i<c.Slots.length
  ·rw [show (decide ((i:Int)<(c.Slots.length:Int)))=true from GB Y,eE,List.getElem?_eq_getElem hi,List.drop_eq_getElem_cons hi];simp only [cond_true,Option.bind_some];rw [vA N a _ _ _ Y];rw [Option.bind_some]
   dsimp only
   rw [Bool.not_true,cond_false];rw [sy (by unfold in64;omega)]
   have hlen:(p++(bif (true==a)&&cH c.Slots[i] then [c.Slots[i].N] else [])).length≤(i+1):=by
    cases (true==a)&&cH c.Slots[i]<;>simp<;>omega
   have:=Cs N hN a c hS hc m (i+1) _ Y hi hlen;simp only [Int.natCast_add,Int.cast_ofNat_Int] at this;rw [this];rw [i4,GE p]
  rw [show (decide ((i:Int)<(c.Slots.length:Int)))=false from GC Y,List.drop_eq_nil_of_le Y];simp only [cond_false,kP];have:=z7 N a c hc p.length Y N 0 p Y Y Y;simp only [Int.natCast_zero,Int.cast_ofNat_Int] at this;rw [this];simp [pick]
theorem oc (N:Nat)(hN:2000<N)(a:Bool)(c:Gw)(hS:c.Slots.length≤1000)(hc:c.More.length≤1000):fg N c a=some (pick (fun _ v=>(true==a)&&cH v) 0 c.Slots++pick (fun i v=>(fU c.Kind i==a)&&cH v) 0 c.More):=by
 unfold fg kQ gL;have:=Cs N hN a c hS hc N 0 [] Y Y (by simp);simp only [Int.natCast_zero,Int.cast_ofNat_Int] at this;rw [Option.bind_some,this,Option.bind_some];show some _=some _;simp
def gy (k:Int)(i:Nat):Bool:=decide (k=8)||(decide (k=10)&&(decide (0<(i:Int))&&decide ((((i:Int) - 1).tmod 4).tmod 2=0)))
theorem uG (N:Nat)(k:Int)(i:Nat)(hi:i≤5000):kD N k (i:Int)=some (gy k i):=by
 unfold kD gy;by_cases h1:k=8
 ·simp [h1]
 by_cases h2:k=10
 ·by_cases h3:(0:Int)<i
  ·subst h2;simp only [h3,decide_true,ct,bs,di (a:=(i:Int) - 1) Y Y,show decide ((10:Int)=8)=false from rfl,cf,Bool.false_or,Bool.true_and]
  subst h2;simp only [h3,decide_true,decide_false,ct,bs,show decide ((10:Int)=8)=false from rfl,cf,Bool.false_or,Bool.true_and,Bool.false_and]
 simp [h1,h2]
theorem sZ (N:Nat)(hN:2000<N)(c:Gw)(hS:c.Slots.length≤1000)(hc:c.More.length≤1000):fk N c=some (pick (fun _ v=>cH v) 0 c.Slots++pick (fun i v=> !gy c.Kind i&&cH v) 0 c.More):=by
 apply Sat.eq;unfold fk;refine cm (fun m i s=>eB N c m s (i:Int)) c.Slots.length (fun i s=>s++pick (fun _ v=>cH v) i (c.Slots.drop i)=pick (fun _ v=>cH v) 0 c.Slots∧s.length≤i) _ ?_ ?_ N 0 [] Y Y ⟨by simp,by simp⟩
 ·rintro m i s hi ⟨h1,h2⟩ k;show Sat (eB N c (m+1) s i) _;rw [List.drop_eq_getElem_cons hi,i4] at h1;rw [eB.eq_2,cN Y,cond_true,bj hi,bs,jX,bs];simp only [bs];cases hh:cH c.Slots[i]
  all_goals
   simp only [hh,ct,cf,bs,List.nil_append] at h1⊢
   first
   |(unfold gJ
     rw [di Y Y]
     exact k s ⟨h1,by omega⟩)
   |(rw [rF (by simp;omega)]
     unfold gJ;rw [di Y Y]
     exact k _ ⟨by rw [GE];exact h1,by simp;omega⟩)
 rintro m s ⟨h1,h2⟩;show Sat (eB N c (m+1) s _) _;rw [List.drop_length] at h1
 have h1:s=pick (fun _ v=>cH v) 0 c.Slots:=by rw [←h1];simp [pick]
 rw [eB.eq_2,cU Y,cond_false, ←h1];unfold mF;clear h1;refine cm (fun m i s=>dW N c m s (i:Int)) c.More.length (fun i t=>t++pick (fun i v=> !gy c.Kind i&&cH v) i (c.More.drop i)=s++pick (fun i v=> !gy c.Kind i&&cH v) 0 c.More∧t.length≤1000+i) _ ?_ ?_ N 0 s Y Y ⟨by simp,by omega⟩
 ·rintro m i s hi ⟨h1,h2⟩ k;show Sat (dW N c (m+1) s i) _;rw [List.drop_eq_getElem_cons hi,i4] at h1;rw [dW.eq_2,cN Y,cond_true,bj hi,bs,jX,bs,uG _ _ _ Y];simp only [bs];cases hh:cH c.More[i]<;>cases hw:gy c.Kind i
  all_goals
   simp only [hh,hw,Bool.and_true,Bool.and_false,nt,nf,ct,cf,bs,List.nil_append] at h1⊢
   first
   |(unfold gI
     rw [di Y Y]
     exact k s ⟨h1,by omega⟩)
   |(rw [rF (by simp;omega)]
     unfold gI;rw [di Y Y]
     exact k _ ⟨by rw [GE];exact h1,by simp;omega⟩)
 rintro m s ⟨h1,h2⟩;show Sat (dW N c (m+1) s _) _;rw [List.drop_length] at h1;rw [dW.eq_2,cU Y,cond_false];exact aK (by rw [←h1];simp [pick])
theorem rB (k:Int)(i:Nat):fU k i=!gy k i:=by
 unfold fU gy;by_cases h8:k=8
 ·subst h8;rfl
 by_cases h10:k=10
 ·subst h10;have e0:(i:Int).tmod 2=(i:Int)%2:=Int.tmod_eq_emod_of_nonneg Y;by_cases hi:(0:Int)<i
  ·have e1:((i:Int) - 1).tmod 4=((i:Int) - 1)%4:=Int.tmod_eq_emod_of_nonneg Y;have e2:(((i:Int) - 1)%4).tmod 2=(((i:Int) - 1)%4)%2:=Int.tmod_eq_emod_of_nonneg Y;rw [e0,e1,e2];by_cases h:(i:Int)%2=0
   ·have h2: ¬(((i:Int) - 1)%4)%2=0:=by omega
    rw [GB h,GC h2,GB hi];rfl
   have h2:(((i:Int) - 1)%4)%2=0:=by omega
   rw [GC h,GB h2,GB hi];rfl
  have:i=0:=by omega
  subst this;rfl
 simp [h8,h10]
def ei (c:Gw):List Int:=pick (fun _ v=>cH v) 0 c.Slots++pick (fun i v=> !gy c.Kind i&&cH v) 0 c.More
theorem tK (N:Nat)(hN:2000<N)(c:Gw)(hS:c.Slots.length≤1000)(hc:c.More.length≤1000):gq N c=some (ei c):=by
 unfold gq ei;rw [oc N hN true c hS hc,bs]
 have e1:(fun (_:Nat) (v:Gu)=>(true==true)&&cH v)=fun _ v=>cH v:=by funext i v;rfl
 have e2:(fun (i:Nat) (v:Gu)=>(fU c.Kind i==true)&&cH v)=fun i v=> !gy c.Kind i&&cH v:=by funext i v;rw [rB];cases gy c.Kind i<;>rfl
 rw [e1,e2]
theorem rg (N:Nat)(hN:2000<N)(c:Gw)(hS:c.Slots.length≤1000)(hc:c.More.length≤1000):fk N c=some (ei c):=sZ N hN c hS hc
theorem kI (c:Gw):(ei c).length≤c.Slots.length+c.More.length:=by
 unfold ei;have h1:=qq (fun _ v=>cH v) 0 c.Slots;have h2:=qq (fun i v=> !gy c.Kind i&&cH v) 0 c.More;rw [List.length_append];omega
theorem qp {f:Nat→Gu→Bool}{x:Int}: ∀{i:Nat} {l:List Gu},x∈pick f i l→ ∃v∈l,v.N=x
 |_,[],h=>by cases h
 | i,v::l,h=>by
  rw [i4,List.mem_append] at h;rcases h with h|h
  ·cases hf:f i v
   ·rw [hf] at h;cases h
   rw [hf] at h;exact ⟨v,by simp,(List.mem_singleton.1 h).symm⟩
  obtain ⟨w,h1,h2⟩:=qp h;exact ⟨w,by simp [h1],h2⟩
theorem tL {c:Gw}{x:Int}(h:x∈ei c): ∃v∈c.Slots++c.More,v.N=x:=by
 unfold ei at h;rcases List.mem_append.1 h with h|h
 ·obtain ⟨v,h1,h2⟩:=qp h;exact ⟨v,by simp [h1],h2⟩
 obtain ⟨v,h1,h2⟩:=qp h;exact ⟨v,by simp [h1],h2⟩
end
section
variable {A1 A2 A3 A4:Option Addr} {c1 c2 c3 c4 n1 n2 n3 n4:Nat}
open Go.RowKit
def rx:Gw:=⟨0,0,0,0,[],[]⟩
def eN (m:Gx)(a:Int):Option Gw:=if a<1 then none else if a%2=1 then m.Young[((a - 1) / 2).toNat]? else m.Old[((a - 2) / 2).toNat]?
def ci (m:Gx)(a:Int):Bool:=(eN m a).isSome
def el (m:Gx)(a:Int):Gw:=(eN m a).getD rx
structure Small (m:Gx) (roots:List Gu):Prop where
 young:m.Young.length≤600
 old:m.Old.length≤600
 roots:roots.length≤600
 cells: ∀c∈m.Young++m.Old,c.Slots.length≤600∧c.More.length≤600
theorem mN {m:Gx}{a:Int}{c:Gw}(h:eN m a=some c):c∈m.Young++m.Old:=by
 unfold eN at h;split at h
 ·cases h
 split at h
 ·exact GF _ (List.mem_of_getElem? h)
 exact GG _ (List.mem_of_getElem? h)
theorem Small.at_ {m:Gx}{roots:List Gu}(h:Small m roots)(a:Int):(el m a).Slots.length≤600∧(el m a).More.length≤600:=by
 unfold el
 cases hc:eN m a with
 |none=>exact ⟨by simp [rx],by simp [rx]⟩
 |some c=>exact h.cells c (mN hc)
theorem me {m:Gx}{a:Int}(h:ci m a=true):0<a:=by
 unfold ci eN at h;split at h
 ·cases h
 omega
theorem qD {m:Gx}{roots:List Gu}(hs:Small m roots){a:Int}(h:ci m a=true):a≤1200:=by
 have h1:=hs.young;have h2:=hs.old;unfold ci eN at h;split at h
 ·cases h
 split at h
 ·have:=(List.getElem?_eq_some_iff.1 (Option.isSome_iff_exists.1 h).choose_spec).1;omega
 have:=(List.getElem?_eq_some_iff.1 (Option.isSome_iff_exists.1 h).choose_spec).1;omega
theorem rA {a:Int}(h:0≤a):a.tdiv 2=a / 2:=Int.tdiv_eq_ediv_of_nonneg h
theorem sO {a:Int}(h:0≤a):a.tmod 2=a%2:=Int.tmod_eq_emod_of_nonneg h
theorem oC {α:Type}(l:List α)(i:Nat):(l[i]?).isSome=decide ((i:Int)<(l.length:Int)):=by
 by_cases h:i<l.length
 ·rw [List.getElem?_eq_getElem h,GB Y];rfl
 rw [List.getElem?_eq_none Y,GC Y];rfl
theorem mP (m:Gx)(a:Int):(a<1∧eN m a=none)∨(∃k:Nat,a=2*(k:Int)+1∧eN m a=m.Young[k]?)∨(∃k:Nat,a=2*(k:Int)+2∧eN m a=m.Old[k]?):=by
 by_cases h:a<1
 ·exact .inl ⟨h,by unfold eN;rw [if_pos h]⟩
 by_cases h2:a%2=1
 ·refine .inr (.inl ⟨((a - 1) / 2).toNat,by omega,?_⟩);unfold eN;rw [if_neg h,if_pos h2]
 refine .inr (.inr ⟨((a - 2) / 2).toNat,by omega,?_⟩);unfold eN;rw [if_neg h,if_neg h2]
theorem Af {a:Int}(h:in64 a): -4611686018427387904≤a.tdiv 2∧a.tdiv 2≤4611686018427387904:=by
 unfold in64 at h;by_cases h0:0≤a
 ·rw [rA h0];omega
 have h1:(-a).tdiv 2= -(a.tdiv 2):=Int.neg_tdiv a 2;rw [rA Y] at h1;omega
theorem tw (N:Nat)(m:Gx)(a:Int)(h:in64 a):Sat (gC N m a) fun r=>r.2.2=ci m a∧(ci m a=true→aH r.1 r.2.1=eN m a):=by
 have hd:=Af h;unfold gC;rw [di Y Y];unfold io ci;rcases mP m a with ⟨h1,h2⟩|⟨k,h1,h2⟩|⟨k,h1,h2⟩
 ·rw [h2]
  refine cG (fun _=> ?_) fun _=> ?_
  ·rw [di Y Y,di Y Y,cU (a:=0) (b:=a) Y,cf,bs];exact aK ⟨J,fun h=>by cases h⟩
  rw [cU (a:=0) (b:=a) Y,cf,bs];exact aK ⟨J,fun h=>by cases h⟩
 ·subst h1;rw [h2,sO Y,rA Y,fF Y,cf,cN Y,ct,bs,show (2*(k:Int)+1) / 2=k by omega];exact aK ⟨(oC _ _).symm,fun _=>eE _ _⟩
 subst h1;rw [h2,sO Y,rA Y,pI Y,ct,cN Y,ct,bs,show (2*(k:Int)+2) / 2 - 1=k by omega];rw [di Y Y,di Y Y];exact aK ⟨(oC _ _).symm,fun _=>eE _ _⟩
theorem xz (N:Nat)(m:Gx)(a:Int)(h:in64 a):dT N m a=some (ci m a):=by
 obtain ⟨r,h1,h2, -⟩:=tw N m a h;unfold dT;rw [h1,bs,h2]
theorem vy (N:Nat)(c:Gw)(h:c.Slots.length≤600∧c.More.length≤600):jF N c=some c:=by
 unfold jF eT;rw [rF (by simp;omega),bs,rF (by simp;omega),bs];rfl
theorem wJ (N:Nat){m:Gx}{roots:List Gu}(hs:Small m roots)(a:Int)(h:in64 a):dF N m a=some (el m a):=by
 obtain ⟨r,h1,h2,h3⟩:=tw N m a h;unfold dF el;rw [h1,bs,h2];unfold ci at*
 cases hc:eN m a with
 |none=>rfl
 |some c=>
  have h4:=h3 (by rw [hc];rfl);rw [hc] at h4;have h5:=vy N c (hs.cells c (mN hc));simp only [Option.isSome_some,nt,cf,h4,bs,h5];rfl
theorem wl (N:Nat)(m:Gx)(a:Int)(h:in64 a):eY N m a=some (ci m a):=by
 unfold in64 at h;unfold eY ci;rcases mP m a with ⟨h1,h2⟩|⟨k,h1,h2⟩|⟨k,h1,h2⟩
 ·rw [h2,cN h1];rfl
 ·subst h1;rw [h2,cU Y,cf,sO Y,pI Y,ct,rA Y,show (2*(k:Int)+1 - 1) / 2=k by omega,oC];rw [kx (by unfold in64;omega),kx (by unfold in64;omega)]
 subst h1;rw [h2,cU Y,cf,sO Y,fF Y,cf,rA Y,show (2*(k:Int)+2 - 2) / 2=k by omega,oC];rw [kx (by unfold in64;omega),kx (by unfold in64;omega)]
theorem yY (N:Nat)(m:Gx)(a:Int)(h:in64 a):iA N m a=some (el m a):=by
 have hh:=wl N m a h;unfold in64 at h;unfold iA el;rw [hh,bs];unfold ci;rcases mP m a with ⟨h1,h2⟩|⟨k,h1,h2⟩|⟨k,h1,h2⟩
 ·rw [h2];rfl
 ·cases hc:m.Young[k]? with
  |none=>rw [h2,hc];rfl
  |some c=>
   rw [h2,hc];subst h1;simp only [Option.isSome_some,nt,cf];rw [sO Y,pI Y,ct,rA Y,show (2*(k:Int)+1 - 1) / 2=k by omega,eE,hc,bs];rw [kx (by unfold in64;omega),kx (by unfold in64;omega)];rfl
 cases hc:m.Old[k]? with
 |none=>rw [h2,hc];rfl
 |some c=>
  rw [h2,hc];subst h1;simp only [Option.isSome_some,nt,cf];rw [sO Y,fF Y,cf,rA Y,show (2*(k:Int)+2 - 2) / 2=k by omega,eE,hc,bs];rw [kx (by unfold in64;omega),kx (by unfold in64;omega)];rfl
end
section
variable {A1 A2 A3 A4:Option Addr} {c1 c2 c3 c4 n1 n2 n3 n4:Nat}
open Go.RowKit
theorem AG (N:Nat)(k:Int):mM N k=f9 N k:=by
 unfold mM f9 eH;by_cases h1:k=1
 ·subst h1;rfl
 by_cases h2:k=2
 ·subst h2;rfl
 by_cases h3:k=3
 ·subst h3;rfl
 by_cases h6:k=6
 ·subst h6;rfl
 by_cases h8:k=8
 ·subst h8;rfl
 by_cases h9:k=9
 ·subst h9;rfl
 by_cases h10:k=10
 ·subst h10;rfl
 rw [fF h1,fF h2,fF h3,fF h6,fF h8,fF h9,fF h10];rfl
theorem Bh (N:Nat)(c:Gw):eG N c=fj N c:=by
 unfold eG fj;rw [AG];rfl
theorem Er (N:Nat)(v:Gu):mL N v=ic N v:=by
 unfold mL ic jD;by_cases h5:v.Kind=5
 ·rw [h5];rfl
 rw [fF h5];simp only [cf];by_cases hr:v.Kind<0∨9<v.Kind
 ·have h2:v.Kind≠2:=by omega
  have h3:v.Kind≠3:=by omega
  have h6:v.Kind≠6:=by omega
  have h7:v.Kind≠7:=by omega
  have h9:v.Kind≠9:=by omega
  have e1:((bif decide (v.Kind<0) then (some true) else (some (decide (9<v.Kind)))):Option Bool)=some true:=by
   rcases hr with h|h
   ·rw [cN h];rfl
   rw [cN (a:=9) h];cases decide (v.Kind<0)<;>rfl
  rw [e1,bs,ct,fF h2,fF h3,fF h6,fF h7,fF h9];simp only [cf]
  have e2:(((bif decide (v.N=0) then (some (decide (0≤v.Kind))) else (some false)).bind fun b14=>(bif b14 then (some (decide (v.Kind≤9))) else (some false)).bind fun b15=>some b15):Option Bool)=some false:=by
   cases decide (v.N=0)
   ·rfl
   rcases hr with h|h
   ·rw [C6 (a:=0) (b:=v.Kind) Y];rfl
   rw [C6 (a:=v.Kind) (b:=9) Y];cases decide (0≤v.Kind)<;>rfl
  rw [e2];cases s:(v.S.toList==(⟨#[]⟩:ByteArray).toList)<;>rfl
 have e1:((bif decide (v.Kind<0) then (some true) else (some (decide (9<v.Kind)))):Option Bool)=some false:=by
  rw [cU (a:=v.Kind) (b:=0) Y,cU (a:=9) (b:=v.Kind) Y];rfl
 rw [e1,bs,cf];cases hs:(v.S.toList==(⟨#[]⟩:ByteArray).toList)
 ·rfl
 simp only [nt,cf];by_cases h2:v.Kind=2
 ·rw [h2];rfl
 rw [fF h2];simp only [cf];by_cases h3:v.Kind=3
 ·rw [h3];rfl
 rw [fF h3];simp only [cf];by_cases h6:v.Kind=6
 ·rw [h6];rfl
 rw [fF h6];simp only [cf];by_cases h7:v.Kind=7
 ·rw [h7];rfl
 rw [fF h7];simp only [cf];by_cases h9:v.Kind=9
 ·rw [h9];rfl
 rw [fF h9,C5 (a:=0) Y,C5 (a:=v.Kind) Y];cases decide (v.N=0)<;>rfl
theorem BJ (N:Nat)(v:Gu): ∃b,ic N v=some b:=by
 unfold ic;cases decide (v.Kind<0)<;>cases decide (9<v.Kind)<;>cases decide (v.Kind=5)<;>cases decide (v.N=0)<;>cases (v.S.toList==(⟨#[]⟩:ByteArray).toList)<;>cases decide (v.Kind=2)<;>cases decide (v.Kind=3)<;>cases decide ((-9007199254740992)≤v.N)<;>cases decide (v.Kind=6)<;>cases decide (v.Kind=7)<;>cases decide (v.Kind=9)<;>exact ⟨_,rfl⟩
theorem qK (N:Nat)(k:Nat)(hk:k=2∨k=4)(l:List Gu)(hl:l.length≤1000): ∀(m i:Nat),l.length<m+i→i≤l.length→(l.length - i)%k=0→ ∃b,eh N (k:Int) l m (i:Int)=some b∧
  er N (bW (fun x st=>bC N (k:Int) x st)) l (k:Int) m (i:Int) (none,())=some (bif b then (none,()) else (some .ret,()))
 |0,i,h,h2,_=>by omega
 | m + 1,i,h,h2,h3=>by
  by_cases hi:i<l.length
  ·have hik:i+k≤l.length:=by
    rcases hk with rfl|rfl<;>omega
   have hmin:(min (k:Int) (((l.drop (i:Int).toNat).take (l.length - (i:Int).toNat)).length:Int))=k:=by
    rw [List.length_take,List.length_drop,Int.toNat_natCast];omega
   have hto:((i:Int)+(k:Int)).toNat=i+k:=by omega
   have hx: ∀j,j<k→aH ((l.drop i).take k) (j:Int)=l[i+j]? :=fun j hj=>by
    rw [eE,List.getElem?_take,if_pos hj,List.getElem?_drop]
   have hk0:=hx 0 Y;have hk1:=hx 1 Y;rw [List.getElem?_eq_getElem Y] at hk0 hk1;have hl0:aH l (i:Int)=some l[i]:=bj hi
   have hl1:aH l ((i:Int)+1)=some (l[i+1]'Y):=by
    have:=bj (xs:=l) (i:=i+1) Y;simpa using this
   obtain ⟨b,hb1,hb2⟩:=qK N k hk l hl m (i+k) Y hik (by rcases hk with rfl|rfl<;>omega);simp only [Int.natCast_add] at hb1 hb2
   have fin: ∀b',(bif b' then some false else bD (in64 ((i:Int)+(k:Int))) (eh N (k:Int) l m ((i:Int)+(k:Int))))=some (bif b' then false else b):=fun b'=>by
    cases b'
    ·rw [cf,di Y Y,hb1];rfl
    rfl
   have fin2: ∀b':Bool,((bif b' then (some (some Exit.ret,())) else (some (none,())):Option (Option Exit×Unit)).map fun r=>(r.1.isNone,r))=some (!b',(bif b' then some Exit.ret else none,())):=fun b'=>by cases b'<;>rfl
   have goal: ∀b',((some (!b',((bif b' then some Exit.ret else none:Option Exit),())):Option (Bool×(Option Exit×Unit))).bind fun y14=>bif !y14.1 then (some y14.2) else (bD (in64 ((i:Int)+(k:Int))) ((er N (bW (fun x st=>bC N (k:Int) x st)) l (k:Int) m) ((i:Int)+(k:Int)) y14.2)))=some (bif (bif b' then false else b) then (none,()) else (some .ret,())):=fun b'=>by
    cases b'
    ·rw [bs];simp only [nf,nt,cf];rw [di Y Y];exact hb2
    rfl
   have lift: ∀(x:List Gu) (b':Bool),bC N (k:Int) x ()=(bif b' then (some (some Exit.ret,())) else (some (none,())))→bW (fun x st=>bC N (k:Int) x st) x (none,())=some (!b',(bif b' then some Exit.ret else none,())):=fun x b' hb=>by
    unfold bW;simp only [hb];exact fin2 b'
   have key: ∃b',((aH l (i:Int)).bind fun x8=>(bif !decide (x8.Kind=7) then (some true) else (bD (in64 ((i:Int)+1)) ((aH l ((i:Int)+1)).bind fun x11=>some (decide (x11.Kind=8))))).bind fun b9=>bif b9 then (some false) else ((bif decide ((k:Int)=4) then (bD (in64 ((i:Int)+2)) ((aH l ((i:Int)+2)).bind fun x15=>(dp N x15 7).bind fun y16=>(bif !y16 then (some true) else (bD (in64 ((i:Int)+3)) ((aH l ((i:Int)+3)).bind fun x19=>(dZ N x19 0 9007199254740992).bind fun y20=>some (!y20)))).bind fun b17=>some b17)) else (some false)).bind fun b13=>bif b13 then (some false) else (bD (in64 ((i:Int)+(k:Int))) ((eh N (k:Int) l m) ((i:Int)+(k:Int))))))=some (bif b' then false else b)∧bC N (k:Int) ((l.drop i).take k) ()=(bif b' then (some (some Exit.ret,())) else (some (none,()))):=by
    unfold bC;simp only [Int.cast_ofNat_Int,Int.natCast_zero,Int.natCast_one] at hk0 hk1;rw [hl0,bs,di (a:=(i:Int)+1) Y Y,hl1,bs];have hk0':aH ((l.drop i).take k) 0=some l[i]:=hk0;have hk1':aH ((l.drop i).take k) 1=some (l[i+1]'Y):=hk1;simp only [hk0',bs,hk1'];cases h7:(!decide (l[i].Kind=7))
    ·simp only [cf,bs];cases h8:decide ((l[i+1]'Y).Kind=8)
     ·simp only [cf];rcases hk with rfl|rfl
      ·simp only [show decide (((2:Nat):Int)=4)=false from rfl,cf,bs];have f:=fin false;rw [cf] at f;refine ⟨false,?_,J⟩;exact f
      have hk2:=hx 2 Y;have hk3:=hx 3 Y;rw [List.getElem?_eq_getElem Y] at hk2 hk3;have hk2':aH ((l.drop i).take 4) 2=some (l[i+2]'Y):=hk2;have hk3':aH ((l.drop i).take 4) 3=some (l[i+3]'Y):=hk3
      have hl2:aH l ((i:Int)+2)=some (l[i+2]'Y):=by
       have:=bj (xs:=l) (i:=i+2) Y;simpa using this
      have hl3:aH l ((i:Int)+3)=some (l[i+3]'Y):=by
       have:=bj (xs:=l) (i:=i+3) Y;simpa using this
      simp only [show decide (((4:Nat):Int)=4)=true from rfl,ct];rw [di (a:=(i:Int)+2) Y Y,hl2,bs,hk2',bs,di (a:=(i:Int)+3) Y Y,hl3,bs,hk3']
      have en: ∀v,dX N v 7=dp N v 7:=fun v=>rfl
      have em: ∀v,dY N v 0 9007199254740992=dZ N v 0 9007199254740992:=fun v=>rfl
      have hn: ∃b1,dp N (l[i+2]'Y) 7=some b1:=by unfold dp;cases decide ((l[i+2]'Y).Kind=0)<;>exact ⟨_,rfl⟩
      have hm: ∃b1,dZ N (l[i+3]'Y) 0 9007199254740992=some b1:=by unfold dZ;cases decide ((l[i+3]'Y).Kind=3)<;>cases decide (0≤(l[i+3]'Y).N)<;>exact ⟨_,rfl⟩
      obtain ⟨b1,hn⟩:=hn;obtain ⟨b2,hm⟩:=hm;simp only [bs,en,em,hn,hm];cases b1
      ·simp only [nf,ct,bs];exact ⟨true,J,J⟩
      simp only [nt,cf,bs];exact ⟨!b2,fin (!b2),by cases b2<;>rfl⟩
     exact ⟨true,J,J⟩
    exact ⟨true,J,J⟩
   obtain ⟨b',e1,e2⟩:=key;refine ⟨bif b' then false else b,?_,?_⟩
   ·rw [eh.eq_2,cN Y,ct];exact e1
   rw [er.eq_2,cN Y,ct,hmin,kx (show (0:Int)≤(i:Int)∧(i:Int).toNat≤l.length∧l.length≤l.length from ⟨by omega,by omega,Nat.le_refl _⟩),di (a:=(i:Int)+(k:Int)) Y Y,di (a:=(i:Int)+(k:Int)) Y Y];rw [kx (show (0:Int)≤(i:Int)∧(0:Int)≤(i:Int)+(k:Int)∧(i:Int).toNat≤((i:Int)+(k:Int)).toNat∧((i:Int)+(k:Int)).toNat≤l.length from ⟨by omega,by omega,by omega,by omega⟩),hto,Int.toNat_natCast,show i+k - i=k by omega,lift _ b' e2];exact goal b'
  rw [eh.eq_2,er.eq_2,cU Y,cf,cf];exact ⟨true,J,J⟩
theorem kM (N:Nat)(hN:2000<N)(k:Nat)(hk:k=2∨k=4)(l:List Gu)(hl:l.length≤1000): ∃b,cE N l (k:Int)=some b∧cY N l (k:Int)=some b∧(b=true→l.length%k=0):=by
 unfold cE cY
 have hk0:(k:Int)≠0:=by rcases hk with rfl|rfl<;>decide
 rw [kx hk0,kx hk0]
 have ht:(l.length:Int).tmod (k:Int)=((l.length%k:Nat):Int):=by
  rw [Int.tmod_eq_emod_of_nonneg Y];rfl
 rw [ht];by_cases h:l.length%k=0
 ·rw [pI Y];obtain ⟨b,h1,h2⟩:=qK N k hk l hl N 0 Y Y (by simpa using h)
  have e:fo N l (k:Int)=some ():=by
   unfold fo;rw [cU (by rcases hk with rfl|rfl<;>omega),cf]
  unfold kq;simp only [nt,cf,e,bs];have h1':eh N (k:Int) l N 0=some b:=h1;have h2':er N (bW (fun x st=>bC N (k:Int) x st)) l (k:Int) N 0 (none,())=some (bif b then (none,()) else (some .ret,())):=h2;rw [h1',h2',bs];exact ⟨b,by cases b<;>rfl,rfl,fun _=>h⟩
 rw [fF Y];exact ⟨false,J,J,fun h=>by cases h⟩
end
section
variable {A1 A2 A3 A4:Option Addr} {c1 c2 c3 c4 n1 n2 n3 n4:Nat}
open Go.RowKit
theorem C2 (N:Nat)(hN:2000<N)(c:Gw)(hc:c.More.length≤1000):fd N c.Kind c.More=f8 N c:=by
 obtain ⟨b2,h2,h2', -⟩:=kM N hN 2 (.inl rfl) c.More hc;obtain ⟨b4,h4,h4', -⟩:=kM N hN 4 (.inr rfl) ((c.More.drop ((1:Int).toNat)).take (c.More.length - (1:Int).toNat)) (by rw [List.length_take,List.length_drop];omega);have e2:cE N c.More 2=cY N c.More 2:=h2.trans h2'.symm;have e4:cE N ((c.More.drop ((1:Int).toNat)).take (c.More.length - (1:Int).toNat)) 4=cY N ((c.More.drop ((1:Int).toNat)).take (c.More.length - (1:Int).toNat)) 4:=h4.trans h4'.symm;unfold fd f8 fV f7;rw [e2,e4];rfl
theorem xu (N:Nat)(c:Gw)(b:Bool)(v:Gu): ∃y,ic N v=some y∧bW (fun x st=>dz N c x st) (b,v) (none,())=some (y,(bif y then none else some Exit.ret,())):=by
 obtain ⟨y,hy⟩:=BJ N v;refine ⟨y,hy,?_⟩;unfold bW dz;simp only [Er,hy,bs];cases y<;>rfl
theorem sW (N:Nat)(c:Gw)(hc:c.More.length≤1000): ∀(m i:Nat),c.More.length<m+i→i≤c.More.length→ ∃b,jr N c m (i:Int)=(bif b then cq N c else some false)∧
  fG N (bW (fun x st=>dz N c x st)) c m (i:Int) (none,())=some (bif b then none else some Exit.ret,())
 |0,i,h,h2=>by omega
 | m+1,i,h,h2=>by
  rw [jr.eq_2,fG.eq_2];by_cases hi:i<c.More.length
  ·rw [cN Y,ct,ct,bj hi,bs,bs]
   have hs:(bif !decide (c.Kind=8) then ((bif !decide (c.Kind=10) then (some true) else (some (decide ((i:Int).tmod 2=0)))).bind fun b22=>some b22) else (some false))=some (fU c.Kind i):=by
    unfold fU;cases decide (c.Kind=8)<;>cases decide (c.Kind=10)<;>rfl
   obtain ⟨y,h3,h4⟩:=xu N c (fU c.Kind i) c.More[i];rw [hs,bs,h3,h4,bs,bs];cases y
   ·simp only [nf,nt,ct,cf];exact ⟨false,cf.symm,by rw [cf]⟩
   obtain ⟨b,h5,h6⟩:=sW N c hc m (i+1) Y hi;simp only [Int.natCast_add,Int.cast_ofNat_Int] at h5 h6;simp only [nt,cf,ct];rw [di Y Y,di Y Y];exact ⟨b,h5,h6⟩
  rw [cU Y,cf,cf];exact ⟨true,ct.symm,by rw [ct]⟩
theorem kY (N:Nat)(hN:2000<N)(c:Gw)(hS:c.Slots.length≤1000)(hc:c.More.length≤1000): ∀(m i:Nat),c.Slots.length<m+i→i≤c.Slots.length→ ∃b,eK N c m (i:Int)=(bif b then cq N c else some false)∧
  fe N (bW (fun x st=>dz N c x st)) c m (i:Int) (none,())=some (bif b then none else some Exit.ret,())
 |0,i,h,h2=>by omega
 | m+1,i,h,h2=>by
  rw [eK.eq_2,fe.eq_2];by_cases hi:i<c.Slots.length
  ·rw [cN Y,ct,ct,bj hi,bs,bs];obtain ⟨y,h3,h4⟩:=xu N c true c.Slots[i];rw [h3,h4,bs,bs];cases y
   ·simp only [nf,nt,ct,cf];exact ⟨false,cf.symm,by rw [cf]⟩
   obtain ⟨b,h5,h6⟩:=kY N hN c hS hc m (i+1) Y hi;simp only [Int.natCast_add,Int.cast_ofNat_Int] at h5 h6;simp only [nt,cf,ct];rw [di Y Y,di Y Y];exact ⟨b,h5,h6⟩
  rw [cU Y,cf,cf];exact sW N c hc N 0 Y Y
theorem sX (N:Nat)(hN:2000<N)(c:Gw)(hS:c.Slots.length≤1000)(hc:c.More.length≤1000):dS N c=bP N c:=by
 unfold dS bP gL
 have hAge:((bif !decide (c.Age=0) then (some (!decide (c.Age=1))) else (some false)).bind fun b10=>some b10)=(some (decide (c.Age<0)||decide (1<c.Age)):Option Bool):=by
  by_cases h0:c.Age=0
  ·rw [h0];rfl
  by_cases h1:c.Age=1
  ·rw [h1];rfl
  rw [fF h0,fF h1];by_cases h2:c.Age<0
  ·rw [cN h2];rfl
  rw [cN (a:=1) (b:=c.Age) Y,cU (a:=c.Age) Y];rfl
 obtain ⟨b,h1,h2⟩:=kY N hN c hS hc N 0 Y Y;have h1':eK N c N 0=(bif b then cq N c else some false):=h1;have h2':fe N (bW (fun x st=>dz N c x st)) c N 0 (none,())=some (bif b then none else some Exit.ret,()):=h2;have e:kQ N c=some ():=rfl;rw [hAge,h1',h2',e]
 have tail:((some ()).bind fun (y12:Unit)=>(some ((bif b then none else some Exit.ret:Option Exit),())).bind fun y15=>lw y15.1 ((eG N c).bind fun y19=>(bif y19 then ((fd N c.Kind c.More).bind fun y21=>some y21) else (some false)).bind fun b20=>some b20) (some false) (fun _=>none))=(bif b then cq N c else some false):=by
  cases b
  ·rfl
  rw [Bh,C2 N hN c hc];rfl
 rw [tail];cases decide (c.Kind<1)<;>cases decide (11<c.Kind)<;>cases decide (c.Shape<0)<;>cases decide (c.Flags<0)<;>cases decide (63<c.Flags)<;>cases decide (c.Age<0)<;>cases decide (1<c.Age)<;>rfl
theorem BA {m:Option Bool}{x:Bool}:m=some x→(m.bind fun b=>some b)=some x:=fun h=>by rw [h];rfl
theorem yl (N:Nat)(hN:2000<N)(c:Gw)(hS:c.Slots.length≤1000)(hc:c.More.length≤1000)(h8:c.Kind=8): ∃b,bP N c=some b∧(b=true→c.More.length%2=0):=by
 obtain ⟨b1,g1, -⟩:=kY N hN c hS hc N 0 Y Y;have g1':eK N c N 0=(bif b1 then cq N c else some false):=g1;obtain ⟨b2, -,h2,h3⟩:=kM N hN 2 (.inl rfl) c.More hc
 have hm:f8 N c=some b2:=by
  unfold f8 f7;rw [h8,cU Y];show ((cY N c.More 2).bind fun y37=>some y37)=_;exact BA h2
 have hs: ∃b3,fj N c=some b3:=by
  unfold fj;rw [h8];have:f9 N 8=some true:=rfl;rw [this,bs,ct,bs,ct];by_cases hl:1≤(c.Slots.length:Int)
  ·rw [C5 hl,ct,bs,C7 (xs:=c.Slots) (i:=0) Y Y,bs];cases decide ((c.Slots.length:Int)≤1025)
   ·exact ⟨_,J⟩
   cases decide (c.Slots[(0:Int).toNat].Kind=1)<;>exact ⟨_,rfl⟩
  rw [C6 Y];exact ⟨_,J⟩
 obtain ⟨b3,hs⟩:=hs
 have hj:cq N c=some (b3&&b2):=by
  unfold cq;rw [hs,hm];cases b3<;>rfl
 unfold bP;rw [g1',hj]
 have fin: ∃b,((bif b1 then some (b3&&b2) else some false):Option Bool)=some b∧(b=true→c.More.length%2=0):=by
  cases b1
  ·exact ⟨false,J,fun h=>by cases h⟩
  exact ⟨b3&&b2,J,fun h=>h3 (by cases b3<;>cases b2<;>first|rfl|cases h)⟩
 obtain ⟨b,e1,e2⟩:=fin;rw [e1];have ff: ∃b',(some false:Option Bool)=some b'∧(b'=true→c.More.length%2=0):=⟨false,rfl,fun h=>by cases h⟩
 cases decide (c.Kind<1)<;>cases decide (11<c.Kind)<;>cases decide (c.Shape<0)<;>cases decide (c.Flags<0)<;>cases decide (63<c.Flags)<;>cases decide (c.Age<0)<;>cases decide (1<c.Age)<;>first|exact ff|exact ⟨b,rfl,e2⟩
def lI (N:Nat)(c:Gw):Bool:=decide (c.Kind=8)&&(bP N c).getD false
theorem wj (N:Nat)(hN:2000<N)(c:Gw)(hS:c.Slots.length≤1000)(hc:c.More.length≤1000):nL N c=some (lI N c)∧lR N c=some (lI N c)∧(lI N c=true→c.More.length%2=0):=by
 unfold nL lR lI;rw [sX N hN c hS hc];by_cases h8:c.Kind=8
 ·obtain ⟨b,h1,h2⟩:=yl N hN c hS hc h8;rw [h1,h8];exact ⟨J,J,h2⟩
 rw [fF h8];exact ⟨J,J,fun h=>by cases h⟩
end
section
variable {A1 A2 A3 A4:Option Addr} {c1 c2 c3 c4 n1 n2 n3 n4:Nat}
open Go.RowKit
theorem tN (N:Nat)(x:Int)(l:List Int)(hl:l.length≤5000): ∀(m i:Nat),l.length<m+i→i≤l.length→Sat (fz N x l m (i:Int)) fun r=>decide (0≤r)=decide (x∈l.drop i)
 |0,i,h,h2=>by omega
 | m+1,i,h,h2=>by
  rw [fz.eq_2];by_cases hi:i<l.length
  ·rw [cN Y,ct,bj hi,bs,List.drop_eq_getElem_cons hi]
   refine cG (fun e=> ?_) fun e=> ?_
   ·exact aK (by rw [GB Y,GB];rw [e];exact List.mem_cons_self ..)
   rw [di Y Y];have:=tN N x l hl m (i+1) Y hi;simp only [Int.natCast_add,Int.cast_ofNat_Int] at this
   refine this.mono fun r hr=> ?_
   rw [hr];have:(x∈l[i]::l.drop (i+1))↔x∈l.drop (i+1):=⟨fun h=>(List.mem_cons.1 h).resolve_left (fun e2=>e e2),List.mem_cons_of_mem _⟩;rw [decide_eq_decide];exact this.symm
  rw [cU Y,cf,List.drop_eq_nil_of_le Y];exact aK (by simp)
theorem pk (N:Nat)(hN:5000<N)(l:List Int)(hl:l.length≤5000)(x:Int):ey N l x=some (decide (x∈l)):=by
 obtain ⟨r,h1,h2⟩:=tN N x l hl N 0 Y Y;unfold ey ko;rw [show fz N x l N 0=some r from h1,bs,h2];rfl
theorem E8 (N:Nat)(hN:5000<N)(l:List Int)(hl:l.length≤5000)(x:Int):nM N x l=some (decide (x∈l)):=by
 apply Sat.eq;unfold nM
 have key: ∀(m i:Nat),l.length<m+i→i≤l.length→Sat (oz N x l m (i:Int)) (· =decide (x∈l.drop i)):=by
  intro m
  induction m with
  |zero=>intro i h h2;omega
  | succ m ih=>
   intro i h h2;rw [oz.eq_2];by_cases hi:i<l.length
   ·rw [cN Y,ct,bj hi,bs,List.drop_eq_getElem_cons hi]
    refine cG (fun e=> ?_) fun e=> ?_
    ·exact aK (by rw [GB];rw [e];exact List.mem_cons_self ..)
    rw [di Y Y];have:=ih (i+1) Y hi;simp only [Int.natCast_add,Int.cast_ofNat_Int] at this
    refine this.mono fun r hr=> ?_
    rw [hr];have:(x∈l[i]::l.drop (i+1))↔x∈l.drop (i+1):=⟨fun h=>(List.mem_cons.1 h).resolve_left (fun e2=>e e2.symm),List.mem_cons_of_mem _⟩;rw [decide_eq_decide];exact this.symm
   rw [cU Y,cf,List.drop_eq_nil_of_le Y];exact aK (by simp)
 exact key N 0 Y Y
theorem Fw (N:Nat)(hN:5000<N)(l:List Int)(hl:l.length≤5000)(x:Int):qi N l x=some (decide (x∈l)):=by
 apply Sat.eq;unfold qi
 have key: ∀(m i:Nat),l.length<m+i→i≤l.length→Sat (oy N x l m (i:Int)) (· =decide (x∈l.drop i)):=by
  intro m
  induction m with
  |zero=>intro i h h2;omega
  | succ m ih=>
   intro i h h2;rw [oy.eq_2];by_cases hi:i<l.length
   ·rw [cN Y,ct,bj hi,bs,List.drop_eq_getElem_cons hi]
    refine cG (fun e=> ?_) fun e=> ?_
    ·exact aK (by rw [GB];rw [e];exact List.mem_cons_self ..)
    rw [di Y Y];have:=ih (i+1) Y hi;simp only [Int.natCast_add,Int.cast_ofNat_Int] at this
    refine this.mono fun r hr=> ?_
    rw [hr];have:(x∈l[i]::l.drop (i+1))↔x∈l.drop (i+1):=⟨fun h=>(List.mem_cons.1 h).resolve_left (fun e2=>e e2.symm),List.mem_cons_of_mem _⟩;rw [decide_eq_decide];exact this.symm
   rw [cU Y,cf,List.drop_eq_nil_of_le Y];exact aK (by simp)
 exact key N 0 Y Y
def opens (p:Int→Bool):List Gu→List Int
 |k::v::l=>(bif cH v&&p k.N then [v.N] else [])++opens p l
 |_=> []
theorem mH (p:Int→Bool)(k v:Gu)(l:List Gu):opens p (k::v::l)=(bif cH v&&p k.N then [v.N] else [])++opens p l:=rfl
theorem uY (p:Int→Bool): ∀l:List Gu,(opens p l).length≤l.length
 | []=>Nat.le_refl _
 | [_]=>Nat.zero_le _
 |k::v::l=>by
  have:=uY p l;rw [mH,List.length_append];cases cH v&&p k.N<;>simp<;>omega
theorem uX {p:Int→Bool}{x:Int}: ∀{l:List Gu},x∈opens p l→ ∃v∈l,v.N=x
 | [],h=>by cases h
 | [_],h=>by cases h
 | k::v::l,h=>by
  rw [mH,List.mem_append] at h;rcases h with h|h
  ·cases hb:cH v&&p k.N
   ·rw [hb] at h;cases h
   rw [hb] at h;exact ⟨v,by simp,(List.mem_singleton.1 h).symm⟩
  obtain ⟨w,h1,h2⟩:=uX h;exact ⟨w,by simp [h1],h2⟩
theorem md (v:Gu):((bif decide (v.Kind=7) then (some true) else (some (decide (v.Kind=9)))):Option Bool)=some (cH v):=by unfold cH;cases decide (v.Kind=7)<;>rfl
def fR (N:Nat)(c:Gw)(l:List Int):List Int:=bif lI N c then opens (fun x=>decide (x∈l)) c.More else []
theorem yr (N:Nat)(c:Gw)(l:List Int):(fR N c l).length≤c.More.length:=by
 unfold fR;cases lI N c
 ·exact Nat.zero_le _
 exact uY _ _
theorem yq {N:Nat}{c:Gw}{l:List Int}{x:Int}(h:x∈fR N c l): ∃v∈c.Slots++c.More,v.N=x:=by
 unfold fR at h;cases hw:lI N c
 ·rw [hw] at h;cases h
 rw [hw] at h;obtain ⟨v,h1,h2⟩:=uX h;exact ⟨v,by simp [h1],h2⟩
theorem yp (N:Nat)(hN:5000<N)(l:List Int)(hl:l.length≤5000)(k v:Gu)(s:List Int)(hs:s.length≤5000):bW (fun x st=>ed N l x st) (k,v) (none,s)=some (true,(none,s++(bif cH v&&decide (k.N∈l) then [v.N] else []))):=by
 unfold bW ed;simp only [md,bs,pk N hN l hl];cases cH v
 ·simp only [cf,bs,Bool.false_and,List.append_nil];rfl
 simp only [ct,bs,Bool.true_and];cases decide (k.N∈l)
 ·simp only [cf,List.append_nil];rfl
 simp only [ct];rw [rF (by simp;omega)];rfl
theorem qJ (N:Nat)(hN:5000<N)(l:List Int)(hl:l.length≤5000)(c:Gw)(hc:c.More.length≤1000)(he:c.More.length%2=0): ∀(m i:Nat) (s:List Int),c.More.length<m+i→i≤c.More.length→i%2=0→s.length≤i→cT N (bW (fun x st=>ed N l x st)) c m (i:Int) (none,s)=some (none,s++opens (fun x=>decide (x∈l)) (c.More.drop i))
 |0,i,s,h,h2,_,_=>by omega
 | m+1,i,s,h,h2,h3,h4=>by
  rw [cT.eq_2,di (a:=(i:Int)+1) Y Y];by_cases hi:i<c.More.length
  ·have hi1:i+1<c.More.length:=by omega
   have hl1:aH c.More ((i:Int)+1)=some c.More[i+1]:=by
    have:=bj hi1;simpa using this
   rw [cN Y,ct,bj hi,bs,di (a:=(i:Int)+1) Y Y,hl1,bs,yp N hN l hl _ _ s Y,bs];simp only [nt,cf];rw [di Y Y]
   have hlen:(s++(bif cH c.More[i+1]&&decide (c.More[i].N∈l) then [c.More[i+1].N] else [])).length≤i+2:=by
    cases cH c.More[i+1]&&decide (c.More[i].N∈l)<;>simp<;>omega
   have:=qJ N hN l hl c hc he m (i+2) _ Y Y Y hlen;simp only [Int.natCast_add,Int.cast_ofNat_Int] at this;rw [this,List.drop_eq_getElem_cons hi,List.drop_eq_getElem_cons hi1,mH,GE]
  rw [cU Y,cf,List.drop_eq_nil_of_le Y];simp [opens]
theorem yo (N:Nat)(hN:5000<N)(l:List Int)(hl:l.length≤5000)(c:Gw)(hS:c.Slots.length≤1000)(hc:c.More.length≤1000):jW N c l=some (fR N c l):=by
 obtain ⟨-,h1,h2⟩:=wj N Y c hS hc;unfold jW fR ex;rw [h1,bs];cases hw:lI N c
 ·rfl
 have e:fX N c=some ():=rfl;have:=qJ N hN l hl c hc (h2 hw) N 0 [] Y Y rfl (by simp);simp only [nt,cf,ct,e,bs];have h3:cT N (bW (fun x st=>ed N l x st)) c N 0 (none,[])=some (none,[]++opens (fun x=>decide (x∈l)) (c.More.drop 0)):=this;rw [h3,bs];rfl
theorem Ax (N:Nat)(hN:5000<N)(l:List Int)(hl:l.length≤5000)(c:Gw)(hS:c.Slots.length≤1000)(hc:c.More.length≤1000):li N c l=some (fR N c l):=by
 obtain ⟨h1, -,h2⟩:=wj N Y c hS hc;unfold li fR;cases hw:lI N c
 ·obtain ⟨n,rfl⟩: ∃n,N=n+1:=⟨N - 1,by omega⟩;rw [gi.eq_2,h1,bs,hw];simp only [cf,bs];rfl
 have he:=h2 hw
 have key: ∀(m i:Nat) (s:List Int),c.More.length<m+i→i≤c.More.length→i%2=0→s.length≤i→gi N l c m s (i:Int)=some (s++opens (fun x=>decide (x∈l)) (c.More.drop i)):=by
  intro m
  induction m with
  |zero=>intro i s h h2;omega
  | succ m ih=>
   intro i s h h2 h3 h4;rw [gi.eq_2,h1,bs,hw,ct,bs];by_cases hi:i<c.More.length
   ·have hi1:i+1<c.More.length:=by omega
    have hl1:aH c.More ((i:Int)+1)=some c.More[i+1]:=by
     have:=bj hi1;simpa using this
    rw [cN Y,ct,di (a:=(i:Int)+1) Y Y,hl1,bs,bj hi,bs,E8 N hN l hl,bs];simp only [md,bs]
    have hlen:(s++(bif cH c.More[i+1]&&decide (c.More[i].N∈l) then [c.More[i+1].N] else [])).length≤i+2:=by
     cases cH c.More[i+1]&&decide (c.More[i].N∈l)<;>simp<;>omega
    have:=ih (i+2) _ Y Y Y hlen;simp only [Int.natCast_add,Int.cast_ofNat_Int] at this;rw [List.drop_eq_getElem_cons hi,List.drop_eq_getElem_cons hi1,mH, ←GE, ←this];unfold jp;rw [di (a:=(i:Int)+2) Y Y,di (a:=(i:Int)+2) Y Y];cases decide (c.More[i].N∈l)
    ·simp only [cf,bs,Bool.and_false,List.append_nil]
    cases cH c.More[i+1]
    ·simp only [ct,cf,bs,Bool.and_true,List.append_nil]
    simp only [ct,bs,Bool.and_true];rw [rF (by simp;omega)]
   rw [cU Y,cf,List.drop_eq_nil_of_le Y];simp [opens,mA]
 have:=key N 0 [] Y Y rfl (by simp);simpa using this
end
section
variable {A1 A2 A3 A4:Option Addr} {c1 c2 c3 c4 n1 n2 n3 n4:Nat}
open Go.RowKit
theorem tD: ∀(b:Nat) {l:List Int},l.Nodup→(∀x∈l,1≤x∧x≤(b:Int))→l.length≤b
 |0,l,_,h=>by
  cases l with
  |nil=>exact Nat.le_refl _
  |cons x l=>have:=h x (by simp);omega
 | b+1,l,hn,h=>by
  have h1:=tD b (hn.erase ((b:Int)+1)) fun x hx=>by
   obtain ⟨h2,h3⟩:=hn.mem_erase_iff.1 hx;have:=h x h3;omega
  have h2:=List.length_erase (a:=(b:Int)+1) (l:=l);split at h2<;>omega
theorem Et (kv:List (Int×Unit))(a:Int):(lk kv a).isSome=decide (a∈kv.map (·.1)):=by
 unfold lk;rw [Bool.eq_iff_iff];simp [List.find?_isSome,List.mem_map]
def W64 (m:Gx):Prop:= ∀c∈m.Young++m.Old, ∀v∈c.Slots++c.More,in64 v.N
theorem W64.at_ {m:Gx}(h:W64 m)(a:Int): ∀v∈(el m a).Slots++(el m a).More,in64 v.N:=by
 unfold el
 cases hc:eN m a with
 |none=>intro v hv;simp [rx] at hv
 |some c=>exact h c (mN hc)
structure Tr (m:Gx) (all:List Int) (met:List (Int×Unit)):Prop where
 nd:all.Nodup
 mem: ∀x,x∈met.map (·.1)↔x∈all
 has: ∀x∈all,ci m x=true
theorem Tr.len {m:Gx}{roots:List Gu}(hs:Small m roots){all:List Int}{met:List (Int×Unit)}(h:Tr m all met):all.length≤1200:=tD 1200 h.nd fun x hx=>⟨by have:=me (h.has x hx);omega,by have:=qD hs (h.has x hx);omega⟩
theorem Tr.in64 {m:Gx}{roots:List Gu}(hs:Small m roots){all:List Int}{met:List (Int×Unit)}(h:Tr m all met){x:Int}(hx:x∈all):in64 x:=by
 have h1:=me (h.has x hx);have h2:=qD hs (h.has x hx);unfold Go.Proofs.YtmimkglhbmcokaaGreat.in64;omega
theorem Tr.add {m:Gx}{all:List Int}{met:List (Int×Unit)}(h:Tr m all met){x:Int}(hx:x∉all)(hh:ci m x=true):Tr m (all++ [x]) (uf met x ()):=⟨List.nodup_append.2 ⟨h.nd,by simp,fun a ha b hb e=>by rw [List.mem_singleton] at hb;subst hb;subst e;exact hx ha⟩,fun y=>by
 rw [CL,List.mem_append,List.mem_singleton,h.mem y];exact Or.comm,fun y hy=>by
 rcases List.mem_append.1 hy with hy|hy
 ·exact h.has y hy
 ·rw [List.mem_singleton] at hy;subst hy;exact hh⟩
def Gn (m:Gx)(all:List Int)(k:Nat):Prop:= ∀(i:Nat) (a x:Int),i<k→all[i]? =some a→x∈ei (el m a)→ci m x=true→x∈all
theorem xx {m:Gx}{roots:List Gu}(hs:Small m roots)(hw:W64 m)(a:Int):(ei (el m a)).length≤2000∧ ∀x∈ei (el m a),in64 x:=by
 have h1:=hs.at_ a;have h2:=kI (el m a);refine ⟨by omega,fun x hx=> ?_⟩;obtain ⟨v,h3,rfl⟩:=tL hx;exact hw.at_ a v h3
end
section
variable {A1 A2 A3 A4:Option Addr} {c1 c2 c3 c4 n1 n2 n3 n4:Nat}
open Go.RowKit
structure Gr where
 has:Int→Bool
 leads:Int→List Int
 opens:List Int→Int→List Int
def gb (has:Int→Bool):List Int→List Int→List Int
 |row,[]=>row
 |row,x::l=>gb has (bif has x&& !decide (x∈row) then row++ [x] else row) l
inductive Thr (g:Gr):List Int→Nat→List Int→Prop
 |done {row:List Int} {k:Nat}:row.length≤k→Thr g row k row
 |step {row:List Int} {k:Nat} {a:Int} {r:List Int}:row[k]? =some a→Thr g (gb g.has row (g.leads a)) (k+1) r→Thr g row k r
def iU (g:Gr):List Int→List Int→List Int
 |row,[]=>row
 |row,a::avs=>iU g (gb g.has row (g.opens row a)) avs
inductive Ord (g:Gr):List Int→List Int→Prop
 |done {row:List Int}:iU g row row=row→Ord g row row
 |step {row r1 r:List Int}:iU g row row≠row→Thr g (iU g row row) row.length r1→Ord g r1 r→Ord g row r
structure IsOrder (g:Gr) (roots:List Int) (b l:List Int):Prop where
 strong:Thr g (gb g.has [] roots) 0 b
 all:Ord g b l
theorem iJ (has:Int→Bool): ∀(row l:List Int), ∃t,gb has row l=row++t∧(∀x∈t,has x=true∧x∈l)
 |row,[]=>⟨[],by simp [gb],by simp⟩
 | row,x::l=>by
  unfold gb
  cases h:has x&& !decide (x∈row) with
  |false=>
   obtain ⟨t,h1,h2⟩:=iJ has row l;exact ⟨t,h1,fun y hy=>⟨(h2 y hy).1,by simp [(h2 y hy).2]⟩⟩
  |true=>
   obtain ⟨t,h1,h2⟩:=iJ has (row++ [x]) l;refine ⟨x::t,by rw [cond_true,h1];simp,fun y hy=> ?_⟩;rw [Bool.and_eq_true] at h;rcases List.mem_cons.1 hy with e|hy
   ·subst e;exact ⟨h.1,by simp⟩
   exact ⟨(h2 y hy).1,by simp [(h2 y hy).2]⟩
theorem qA (has:Int→Bool): ∀(row l l':List Int),gb has row (l++l')=gb has (gb has row l) l'
 |_,[],_=>rfl
 |row,x::l,l'=>by
  show gb has _ (l++l')=_;rw [qA has _ l l'];rfl
theorem i7 {has:Int→Bool}: ∀{row:List Int} (l:List Int),row.Nodup→(gb has row l).Nodup
 |_,[],h=>h
 | row,x::l,h=>by
  unfold gb
  cases h2:has x&& !decide (x∈row) with
  |false=>exact i7 l h
  |true=>
   rw [Bool.and_eq_true] at h2
   have hx:x∉row:=by simpa using h2.2
   exact i7 l (List.nodup_append.2 ⟨h,by simp,fun a ha b hb e=>by rw [List.mem_singleton] at hb;subst hb;subst e;exact hx ha⟩)
theorem qB {has:Int→Bool}{row l:List Int}{x:Int}(h:x∈gb has row l):x∈row∨(has x=true∧x∈l):=by
 obtain ⟨t,h1,h2⟩:=iJ has row l;rw [h1] at h;rcases List.mem_append.1 h with h|h
 ·exact .inl h
 exact .inr (h2 x h)
theorem uW (g:Gr): ∀(row avs:List Int), ∃t,iU g row avs=row++t
 |row,[]=>⟨[],by simp [iU]⟩
 |row,a::avs=>by
  obtain ⟨t,h1, -⟩:=iJ g.has row (g.opens row a);obtain ⟨t2,h2⟩:=uW g (gb g.has row (g.opens row a)) avs;exact ⟨t++t2,by unfold iU;rw [h2,h1,GE]⟩
theorem rb (g:Gr): ∀(row avs bs:List Int),iU g row (avs++bs)=iU g (iU g row avs) bs
 |_,[],_=>rfl
 |row,a::avs,bs=>by
  show iU g _ (avs++bs)=_;rw [rb g _ avs bs];rfl
theorem rS {g:Gr}: ∀{row:List Int} (avs:List Int),row.Nodup→(iU g row avs).Nodup
 |_,[],h=>h
 |_,_::avs,h=>rS avs (i7 _ h)
theorem uV {g:Gr}: ∀{row:List Int} (avs:List Int),(∀x∈row,g.has x=true)→ ∀x∈iU g row avs,g.has x=true
 |_,[],h=>h
 |_,_::avs,h=>uV avs fun x hx=>(qB hx).elim (h x) (·.1)
theorem Thr.app {g:Gr}{row r:List Int}{k:Nat}(h:Thr g row k r): ∃t,r=row++t:=by
 induction h with
 |done _=>exact ⟨[],by simp⟩
 |step _ _ ih=>
  rename_i row _ a _ _ _
  obtain ⟨t,rfl⟩:=ih;obtain ⟨t2,h1, -⟩:=iJ g.has row (g.leads a);exact ⟨t2++t,by rw [h1,GE]⟩
theorem Thr.nodup {g:Gr}{row r:List Int}{k:Nat}(h:Thr g row k r)(hn:row.Nodup):r.Nodup:=by
 induction h with
 |done _=>exact hn
 |step _ _ ih=>exact ih (i7 _ hn)
theorem Thr.has {g:Gr}{row r:List Int}{k:Nat}(h:Thr g row k r)(hn: ∀x∈row,g.has x=true): ∀x∈r,g.has x=true:=by
 induction h with
 |done _=>exact hn
 |step _ _ ih=>exact ih fun x hx=>(qB hx).elim (hn x) (·.1)
theorem Thr.det {g:Gr}{row r r':List Int}{k:Nat}(h:Thr g row k r)(h':Thr g row k r'):r=r':=by
 induction h with
 |done hk=>
  cases h' with
  |done _=>rfl
  |step ha _=>rw [List.getElem?_eq_none hk] at ha;cases ha
 |step ha _ ih=>
  cases h' with
  |done hk=>rw [List.getElem?_eq_none hk] at ha;cases ha
  |step ha' h2=>rw [ha] at ha';cases ha';exact ih h2
theorem Ord.det {g:Gr}{row r r':List Int}(h:Ord g row r)(h':Ord g row r'):r=r':=by
 induction h with
 |done hk=>
  cases h' with
  |done _=>rfl
  |step ha _ _=>exact absurd hk ha
 |step ha h1 _ ih=>
  cases h' with
  |done hk=>exact absurd hk ha
  |step _ h1' h2=>exact ih (h1.det h1'▸h2)
theorem IsOrder.det {g:Gr}{roots b l b' l':List Int}(h:IsOrder g roots b l)(h':IsOrder g roots b' l'):b=b'∧l=l':=by
 obtain ⟨h1,h2⟩:=h;obtain ⟨h3,h4⟩:=h';have e:=h1.det h3;subst e;exact ⟨J,h2.det h4⟩
theorem Ord.nodup {g:Gr}{row r:List Int}(h:Ord g row r)(hn:row.Nodup):r.Nodup:=by
 induction h with
 |done _=>exact hn
 |step _ h1 _ ih=>exact ih (h1.nodup (rS _ hn))
theorem Ord.has {g:Gr}{row r:List Int}(h:Ord g row r)(hn: ∀x∈row,g.has x=true): ∀x∈r,g.has x=true:=by
 induction h with
 |done _=>exact hn
 |step _ h1 _ ih=>exact ih (h1.has (uV _ hn))
theorem IsOrder.nodup {g:Gr}{roots b l:List Int}(h:IsOrder g roots b l):b.Nodup∧l.Nodup:=
 have hb:=h.strong.nodup (i7 _ List.nodup_nil)
 ⟨hb,h.all.nodup hb⟩
theorem IsOrder.has {g:Gr}{roots b l:List Int}(h:IsOrder g roots b l):(∀x∈b,g.has x=true)∧ ∀x∈l,g.has x=true:=
 have hb:=h.strong.has fun x hx=>(qB hx).elim (fun h=>by cases h) (·.1)
 ⟨hb,h.all.has hb⟩
def F6 (g:Gr)(row:List Int)(k:Nat):Prop:= ∀(i:Nat) (a x:Int),i<k→row[i]? =some a→x∈g.leads a→g.has x=true→x∈row
structure ClosedS (g:Gr) (S:Int→Prop):Prop where
 leads: ∀a,S a→ ∀x∈g.leads a,g.has x=true→S x
 opens: ∀row:List Int,(∀x∈row,S x)→ ∀a,S a→ ∀x∈g.opens row a,g.has x=true→S x
end
section
variable {A1 A2 A3 A4:Option Addr} {c1 c2 c3 c4 n1 n2 n3 n4:Nat}
open Go.RowKit
def uh (N:Nat)(m:Gx):Gr:=⟨ci m,fun a=>ei (el m a),fun row a=>fR N (el m a) row⟩
def bF (l:List Gu):List Int:=(l.filter cH).map (·.N)
theorem rt (l l':List Gu):bF (l++l')=bF l++bF l':=by unfold bF;simp
theorem rq {l:List Gu}{x:Int}:x∈bF l↔ ∃v∈l,cH v=true∧v.N=x:=by
 unfold bF;simp only [List.mem_map,List.mem_filter];constructor
 ·rintro ⟨v,⟨h1,h2⟩,h3⟩;exact ⟨v,h1,h2,h3⟩
 rintro ⟨v,h1,h2,h3⟩;exact ⟨v,⟨h1,h2⟩,h3⟩
theorem wh (N:Nat){m:Gx}{roots:List Gu}(hN:5000<N)(hs:Small m roots)(d:Int)(l:List Int)(hl:l.length≤2000)(h64: ∀x∈l,in64 x){all:List Int}{met:List (Int×Unit)}(ht:Tr m all met):
  Sat (cO N ⟨m,all,met,d⟩ l) fun r=>r.m_=m∧r.done_=d∧Tr m r.all_ r.met_∧r.all_=gb (ci m) all l:=by
 unfold cO;refine cm (fun k i (s:List Int×List (Int×Unit))=>bZ N l ⟨m,all,met,d⟩ k (i:Int) s.1 s.2) l.length (fun i s=>Tr m s.1 s.2∧s.1=gb (ci m) all (l.take i)) _ ?_ ?_ N 0 (all,met) Y Y ⟨ht,J⟩
 ·rintro k i ⟨al,mt⟩ hi ⟨h1,h2⟩ go;show Sat (bZ N l ⟨m,all,met,d⟩ (k+1) i al mt) _;simp only at h1 h2;have hx64:=h64 l[i] (List.getElem_mem _)
  have hnext:gb (ci m) all (l.take (i+1))=(bif ci m l[i]&& !decide (l[i]∈al) then al++ [l[i]] else al):=by
   rw [aY hi,qA, ←h2];rfl
  rw [bZ.eq_2,cN Y,ct,bj hi,bs,Et];unfold ez;rw [di (a:=(i:Int)+1) Y Y,di (a:=(i:Int)+1) Y Y];by_cases hm:l[i]∈al
  ·rw [GB ((h1.mem _).2 hm)];simp only [nt,cf,bs];exact go (al,mt) ⟨h1,by rw [hnext,GB hm];simp⟩
  rw [GC (fun h=>hm ((h1.mem _).1 h))];simp only [nf,ct,bs,xz N m _ hx64];cases hh:ci m l[i]
  ·simp only [cf];exact go (al,mt) ⟨h1,by rw [hnext,hh];rfl⟩
  simp only [ct];have hlen:=h1.len hs;rw [rF (by simp;omega)];exact go (al++ [l[i]],uf mt l[i] ()) ⟨h1.add hm hh,by rw [hnext,hh,GC hm];rfl⟩
 rintro k ⟨al,mt⟩ ⟨h1,h2⟩;show Sat (bZ N l ⟨m,all,met,d⟩ (k+1) _ al mt) _;rw [bZ.eq_2,cU Y,cf];exact aK ⟨J,J,h1,by simpa using h2⟩
theorem rz (N:Nat)(hN:5000<N){m:Gx}{roots:List Gu}(hs:Small m roots)(hw:W64 m){all:List Int}{met:List (Int×Unit)}(ht:Tr m all met)(k:Nat)(hk:k≤all.length):
  Sat (dK N ⟨m,all,met,(k:Int)⟩) fun r=>r.m_=m∧r.done_=(r.all_.length:Int)∧Tr m r.all_ r.met_∧Thr (uh N m) all k r.all_:=by
 unfold dK;refine jC (fun f (s:List Int×List (Int×Unit)×Nat)=>du N f m.Young m.Old s.1 s.2.1 (s.2.2:Int)) (fun s=>1300 - s.2.2) (fun s=>Tr m s.1 s.2.1∧s.2.2≤s.1.length∧ ∀r,Thr (uh N m) s.1 s.2.2 r→Thr (uh N m) all k r) _ ?_ N (all,met,k) (by show 1300 - k<N;omega) ⟨ht,hk,fun _ h=>h⟩;rintro f ⟨al,mt,j⟩ ⟨h1,h3,h4⟩ go;show Sat (du N (f+1) m.Young m.Old al mt (j:Int)) _;simp only at h1 h3 h4;have hlen:=h1.len hs;rw [du.eq_2];by_cases hj:j<al.length
 ·have hx:=List.getElem_mem hj;have hat:=wJ N hs al[j] (h1.in64 hs hx);have hsm:=hs.at_ al[j];obtain ⟨hl1,hl2⟩:=xx hs hw al[j];rw [cN Y,ct,bj hj,bs];have hat':dF N ⟨m.Young,m.Old⟩ al[j]=some (el m al[j]):=hat;rw [hat',bs,tK N Y _ Y Y,bs];refine Sat.bind (wh N hN hs (j:Int) _ hl1 hl2 h1) ?_;rintro ⟨m',al',mt',d'⟩ ⟨e1,e2,h5,h6⟩;simp only at e1 e2 h5 h6;subst e1 e2;have hlen':=h5.len hs
  dsimp only
  rw [di Y Y]
  have hge:al.length≤al'.length:=by
   obtain ⟨t,e, -⟩:=iJ (ci m') al (ei (el m' al[j]));rw [h6,e,List.length_append];omega
  have hgo:=go (al',mt',j+1) (by show 1300 - (j+1)<1300 - j;omega) ⟨h5,by show j+1≤al'.length;omega,fun r hr=>h4 r (.step (List.getElem?_eq_getElem hj) (by rw [h6] at hr;exact hr))⟩;simpa using hgo
 have:j=al.length:=by omega
 subst this;rw [cU Y,cf];exact aK ⟨J,J,h1,h4 _ (.done (Nat.le_refl _))⟩
theorem AT (N:Nat)(hN:5000<N){m:Gx}{roots:List Gu}(hs:Small m roots)(hw:W64 m)(hr: ∀v∈roots,in64 v.N):
  Sat (fH N m roots) fun r=>r.m_=m∧r.done_=(r.all_.length:Int)∧Tr m r.all_ r.met_∧Thr (uh N m) (gb (ci m) [] (bF roots)) 0 r.all_:=by
 have hrl:=hs.roots;unfold fH;refine cm (fun k i (s:List Int×List (Int×Unit))=>eu N roots k (i:Int) m.Young m.Old s.1 s.2 0) roots.length (fun i s=>Tr m s.1 s.2∧s.1=gb (ci m) [] (bF (roots.take i))) _ ?_ ?_ N 0 ([],[]) Y Y ⟨⟨by simp,by simp,by simp⟩,J⟩
 ·rintro k i ⟨al,mt⟩ hi ⟨h1,h2⟩ go;show Sat (eu N roots (k+1) (i:Int) m.Young m.Old al mt 0) _;simp only at h1 h2;have hx64:=hr roots[i] (List.getElem_mem _)
  have ha:dE N roots[i]=some (roots[i].N,cH roots[i]):=by
   unfold dE;rw [md,bs]
  have hnext:gb (ci m) [] (bF (roots.take (i+1)))=gb (ci m) al (bF [roots[i]]):=by
   rw [aY hi,rt,qA, ←h2]
  rw [eu.eq_2,cN Y,ct,bj hi,bs];unfold iZ;rw [ha,bs];cases hb:cH roots[i]
  ·simp only [cf,bs];rw [di Y Y];refine go (al,mt) ⟨h1,?_⟩;rw [hnext];simp [bF,hb,gb]
  simp only [ct];obtain ⟨⟨m',al',mt',d'⟩,e0,e1,e2,h5,h6⟩:=wh N hN hs 0 [roots[i].N] (by simp) (by intro x hx;rw [List.mem_singleton] at hx;subst hx;exact hx64) h1;simp only at e1 e2 h5 h6;subst e1 e2;have e0':cO N ⟨⟨m'.Young,m'.Old⟩,al,mt,0⟩ [roots[i].N]=some ⟨m',al',mt',0⟩:=e0;rw [e0',bs,bs]
  dsimp only
  rw [di Y Y];refine go (al',mt') ⟨h5,?_⟩;show al'=_;rw [hnext,h6];simp [bF,hb]
 rintro k ⟨al,mt⟩ ⟨h1,h2⟩;show Sat (eu N roots (k+1) _ m.Young m.Old al mt 0) _;rw [eu.eq_2,cU Y,cf];unfold ky;refine Sat.bind (rz N hN hs hw h1 0 (Nat.zero_le _)) ?_;rintro r ⟨e1,e2,h5,h6⟩;simp only [List.take_length] at h2;exact aK ⟨e1,e2,h5,by rw [←h2];exact h6⟩
theorem xl (N:Nat){m:Gx}{roots:List Gu}(hs:Small m roots)(hw:W64 m)(a:Int)(l:List Int):(fR N (el m a) l).length≤2000∧ ∀x∈fR N (el m a) l,in64 x:=by
 have h1:=hs.at_ a;have h2:=yr N (el m a) l;refine ⟨by omega,fun x hx=> ?_⟩;obtain ⟨v,h3,rfl⟩:=yq hx;exact hw.at_ a v h3
theorem By (N:Nat)(hN:5000<N){m:Gx}{roots:List Gu}(hs:Small m roots)(hw:W64 m){all:List Int}{met:List (Int×Unit)}(ht:Tr m all met)(d:Int):
  Sat (eW N ⟨m,all,met,d⟩) fun r=>r.2.m_=m∧r.2.done_=d∧Tr m r.2.all_ r.2.met_∧r.1=decide ((all.length:Int)<(r.2.all_.length:Int))∧r.2.all_=iU (uh N m) all all:=by
 have hlen:=ht.len hs;unfold eW;refine cm (fun k i (s:List Int×List (Int×Unit))=>cj N ⟨m,all,met,d⟩ k (i:Int) m.Young m.Old s.1 s.2 d) all.length (fun i s=>Tr m s.1 s.2∧(∃t,s.1=all++t)∧s.1=iU (uh N m) all (all.take i)) _ ?_ ?_ N 0 (all,met) Y Y ⟨ht,⟨[],by simp⟩,J⟩
 ·rintro k i ⟨al,mt⟩ hi ⟨h1,⟨t,h2⟩,h3⟩ go;show Sat (cj N ⟨m,all,met,d⟩ (k+1) (i:Int) m.Young m.Old al mt d) _;simp only at h1 h2 h3;have hlen1:=h1.len hs
  have htk:List.take all.length al=all:=by rw [h2,List.take_left'];rfl
  have hx:=List.getElem_mem hi;have hsm:=hs.at_ all[i];have hat:dF N ⟨m.Young,m.Old⟩ all[i]=some (el m all[i]):=wJ N hs all[i] (ht.in64 hs hx)
  have hnext:iU (uh N m) all (all.take (i+1))=gb (ci m) al (fR N (el m all[i]) al):=by
   rw [aY hi,rb, ←h3];rfl
  rw [cj.eq_2];simp only [List.take_length];rw [cN Y,ct,htk,bj hi,bs,hat,bs];unfold ft;by_cases h8:(el m all[i]).Kind=8
  ·rw [pI h8,ct,yo N hN al Y _ Y Y,bs];obtain ⟨hl1,hl2⟩:=xl N hs hw all[i] al;obtain ⟨⟨m',al',mt',d'⟩,e0,e1,e2,h5,h6⟩:=wh N hN hs d _ hl1 hl2 h1;simp only at e1 e2 h5 h6;subst e1 e2;have e0':cO N ⟨⟨m'.Young,m'.Old⟩,al,mt,d'⟩ (fR N (el m' all[i]) al)=some ⟨m',al',mt',d'⟩:=e0;rw [e0',bs]
   dsimp only
   rw [di Y Y];obtain ⟨t',e', -⟩:=iJ (ci m') al (fR N (el m' all[i]) al);exact go (al',mt') ⟨h5,⟨t++t',by show al'=_;rw [h6,e',h2,GE]⟩,by show al'=_;rw [hnext,h6]⟩
  rw [fF h8,cf,di Y Y];refine go (al,mt) ⟨h1,⟨t,h2⟩,?_⟩
  have h0:fR N (el m all[i]) al=[]:=by
   unfold fR lI;rw [fF h8];rfl
  show al=_;rw [hnext,h0];rfl
 rintro k ⟨al,mt⟩ ⟨h1,⟨t,h2⟩,h3⟩;show Sat (cj N ⟨m,all,met,d⟩ (k+1) _ m.Young m.Old al mt d) _;rw [cj.eq_2];simp only [List.take_length] at h3⊢;rw [cU Y,cf];exact aK ⟨J,J,h1,J,h3⟩
theorem Au (N:Nat)(hN:5000<N){m:Gx}{roots:List Gu}(hs:Small m roots)(hw:W64 m)(hr: ∀v∈roots,in64 v.N):
  ∃b all,IsOrder (uh N m) (bF roots) b.all_ all∧all.length≤1200∧b.all_.length≤1200∧fH N m roots=some b∧co N m roots=some all:=by
 obtain ⟨⟨m',al0,mt0,d0⟩,e0,e1,e2,h1,h2⟩:=AT N hN hs hw hr;simp only at e1 e2 h1 h2;subst e1 e2;have hlen0:=h1.len hs
 have key:Sat (co N m' roots) fun all=>Ord (uh N m') al0 all∧all.length≤1200:=by
  unfold co;rw [e0,bs];refine jC (fun f (s:List Int×List (Int×Unit))=>fB N f m'.Young m'.Old s.1 s.2 (s.1.length:Int)) (fun s=>1300 - s.1.length) (fun s=>Tr m' s.1 s.2∧ ∀r,Ord (uh N m') s.1 r→Ord (uh N m') al0 r) _ ?_ N (al0,mt0) (by show 1300 - al0.length<N;omega) ⟨h1,fun _ h=>h⟩;rintro f ⟨al,mt⟩ ⟨h4,h5⟩ go;show Sat (fB N (f+1) m'.Young m'.Old al mt (al.length:Int)) _;simp only at h4 h5;have hlen:=h4.len hs;rw [fB.eq_2];obtain ⟨⟨b,m2,al2,mt2,d2⟩,g0,g1,g2,g3,g5,g6⟩:=By N hN hs hw h4 (al.length:Int);simp only at g1 g2 g3 g5 g6;subst g1 g2;have hlen2:=g3.len hs;have g0':eW N ⟨⟨m2.Young,m2.Old⟩,al,mt,(al.length:Int)⟩=some (b,⟨m2,al2,mt2,(al.length:Int)⟩):=g0;obtain ⟨t2,ht2⟩:=uW (uh N m2) al al;rw [g0',bs]
  dsimp only
  rw [g5]
  refine cG (fun hlt=> ?_) fun hge=> ?_
  ·refine Sat.bind (rz N hN hs hw g3 al.length Y) ?_;rintro ⟨m3,al3,mt3,d3⟩ ⟨k1,k2,k3,k4⟩;simp only at k1 k2 k3 k4;subst k1 k2;have hlen3:=k3.len hs;refine go (al3,mt3) ?_ ⟨k3,fun r h=>h5 r (.step ?_ (by rw [←g6];exact k4) h)⟩
   ·show 1300 - al3.length<1300 - al.length;obtain ⟨t3,e3⟩:=k4.app
    have:al2.length≤al3.length:=by rw [e3,List.length_append];omega
    omega
   rw [←g6];intro e;rw [e] at hlt;omega
  have e:al2=al:=by
   rw [ht2] at g6;have h0:t2=[]:=List.eq_nil_of_length_eq_zero (by rw [g6,List.length_append] at hge;omega);rw [g6,h0,List.append_nil]
  subst e;unfold jH;exact aK ⟨h5 _ (.done g6.symm),by omega⟩
 obtain ⟨all,k1,k2,k3⟩:=key;exact ⟨⟨m',al0,mt0,(al0.length:Int)⟩,all,⟨h2,k2⟩,k3,hlen0,e0,k1⟩
end
section
variable {A1 A2 A3 A4:Option Addr} {c1 c2 c3 c4 n1 n2 n3 n4:Nat}
open Go.RowKit
theorem uJ (l:List Int)(x:Int):x∈fi l↔x∈l:=by unfold fi;exact List.mem_mergeSort
theorem uK {l:List Int}(h:l.Nodup):(fi l).Pairwise (· < ·):=by
 have h1:(fi l).Pairwise fun a b=>decide (a≤b)=true:=List.pairwise_mergeSort (by intro a b c h1 h2;simp at*;omega) (by intro a b;simp;omega) l
 have h2:(fi l).Nodup:=(List.mergeSort_perm l _).nodup_iff.2 h;rw [List.nodup_iff_pairwise_ne] at h2;exact h1.imp₂ (fun a b h3 h4=>by simp at h3;omega) h2
theorem sR {l s:List Int}(h:l.Nodup)(hs:s.Pairwise (· < ·))(he: ∀x,x∈l↔x∈s):fi l=s:=zZ (uK h) hs fun x=>(uJ l x).trans (he x)
theorem Ak (N:Nat)(l:List Int)(h:l.length≤5000):gB N l=some (fi l):=by
 unfold gB;rw [rF Y]
def Gd (n:Int):Gu:=⟨7,n,⟨#[]⟩⟩
def FU (l:List Gu):Gw:=⟨11,0,0,0,[],l⟩
def Gg:Gx:=⟨[⟨11,0,0,0,[],[⟨7,3,⟨#[]⟩⟩,⟨7,2,⟨#[]⟩⟩]⟩,⟨11,0,0,0,[],[]⟩],[⟨11,0,0,0,[],[]⟩]⟩
def Gf:Gx:=⟨[⟨8,0,0,0,[⟨1,0,⟨#[]⟩⟩],[⟨7,3,⟨#[]⟩⟩,⟨7,5,⟨#[]⟩⟩]⟩,⟨11,0,0,0,[],[]⟩,⟨11,0,0,0,[],[]⟩],[]⟩
theorem wg {N:Nat}{m:Gx}{roots:List Gu}{l s:List Int}(h:co N m roots=some l)(hl:l.length≤5000)(hs:fi l=s):cv N m roots=some s:=by
 unfold cv;rw [h,bs,Ak N l hl,bs,hs]
end
end Go.Proofs.YtmimkglhbmcokaaGreat