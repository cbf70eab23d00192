/- Merged texts: part 4. No conditions of their own. -/
import Derived.Test.YtmimkglhbmcokaaGreatG3
namespace Go.Proofs.YtmimkglhbmcokaaGreat
theorem Gp:type_of% Tryz.underlying151:=Tryz.underlying151
variable {A1 A2 A3 A4:Option Addr} {B1 M2 M5 c1 c2 c3 c4 n1 n2 n3 n4:Nat}
open Go.RowKit Asn
set_option maxRecDepth 20000
def bC (N:Nat)(a1:Int)(x9:(List Gu)):(Unit)→Option (Option Exit×Unit)
 |()=>(aH x9 0).bind fun x12=>(bif !decide (x12.Kind=7) then (some true) else ((aH x9 1).bind fun x14=>some (decide (x14.Kind=8)))).bind fun b13=>bif b13 then (some (some .ret,())) else ((bif decide (a1=4) then ((aH x9 2).bind fun x17=>(dX N x17 7).bind fun y18=>(bif !y18 then (some true) else ((aH x9 3).bind fun x20=>(dY N x20 0 9007199254740992).bind fun y21=>some (!y21))).bind fun b19=>some b19) else (some false)).bind fun b16=>bif b16 then (some (some .ret,())) else (some (none,())))
def cE (N:Nat)(a0:(List Gu))(a1:Int):Option Bool:=
 bD (a1≠0) (bif !decide ((a0.length:Int).tmod a1=0) then (some false) else ((fo N a0 a1).bind fun y6=>(kq N a0 a1 (bW (fun x st=>bC N a1 x st)) (none,())).bind fun y11=>lw y11.1 (some true) (some false) (fun _=>none)))
set_option maxHeartbeats 4000000 in
theorem jE {N:Nat}{a0:(List Gu)}{a1:Int}{r:Bool}(h:cE N a0 a1=some r):Okc Tryz.prog 227 [I A1 n1 c1,iV a1] ([aS A1 n1 c1 a0]) (fun u post=>u=.bool r∧post=[]):=by
 refine bx Tryz.func227 J J ?_;simp only [aU];refine V ?_;refine gD (aX J J) ?_;rintro _ _ ⟨B2,rfl,rfl⟩;refine gD (aM zc J) ?_;rintro _ _ ⟨B3,rfl,rfl⟩;refine V ?_;refine ay ?_;refine V ?_;refine gR (aG 2 J ae J hO) ?_;refine V ?_;obtain ⟨q4,h⟩:=am h;refine gE (lM J J q4) ?_;refine V ?_;refine aq J (fun g5=> ?_) (fun g5=> ?_)
 ·replace h:=ag g5 h;refine V ?_;refine gO (au (us:=[.bool false]) (cs':=[.bool false]) 0 J J J J rC J J J) ?_;rintro _ _ rfl;refine V ?_;obtain rfl:=ao h;exact dl (rs:=[.cell 4 4]) (vs:=[.bool false]) J (.cons (jf 0 J J xp) .nil) J (cS [] 3) ⟨J,J⟩
 replace h:=ah g5 h;refine V ?_;refine ay ?_;refine V ?_;obtain ⟨y6,hy6,h⟩:=aa h;refine gD (ak (oS hy6) Dk J (hJ (ap (i:=2) J J) ai) nk) ?_;rintro _ _ ⟨_,⟨B7,B8,rfl,rfl⟩,rfl⟩;refine mj ?_;refine jB ?_;refine dP ?_ bH (fP 0 J);refine dP ?_ bH (fP 1 J);refine sN ?_;obtain ⟨y11,hy11,h⟩:=aa h;refine vE (R:=(fun (x:(List Gu)) vs cs=> ∃A0 n0 c0,vs=[I A0 n0 c0]∧cs=[aS A0 n0 c0 x])) (fun x st=>bC N a1 x st) (fun (st:Unit) (mz:Unit)=> [aw B2 3 [iV a1],aw B3 4 [.bool false]]) [cR B7 38 [I A1 n1 c1],aS A1 n1 c1 a0,cR B8 3 [iV a1]] (()) (()) J J Dj J (by rintro _ _ _ ⟨_,_,_,rfl,rfl⟩;rfl) (fun l G hY=>(se hy11 hY).mono fun _ _ hh=>hh.2) (bq [0,4,1] [] [3,2] 5 J) h ?_ ?_ ?_ ?_
 ·rintro l x9 _ je sr9 _ h _ _ ⟨A10,n10,c10,rfl,rfl⟩;replace h:bC N a1 x9 ()=some (je,sr9):=h;simp only [pJ,List.zip_cons_cons,List.zip_nil_left,List.zip_nil_right,List.reverse_cons,List.reverse_nil,List.nil_append,List.cons_append];refine V ?_;refine ay ?_;refine V ?_;obtain ⟨x12,hx12,h⟩:=aa h;obtain ⟨lx12,ux12,hx12⟩:=aj hx12;refine gR (aB 0 J ae J J hO aI lx12 ux12) ?_;refine gR (jI 0 J ae J (bB lx12 ux12) eQ) ?_;refine gR (aW (u:=iV x12.Kind) 0 J ae J hx12 cM (fun _ _ _ h=>by rw [show _=_ from h];rfl)) ?_;refine V ?_;obtain ⟨b13,hb13,h⟩:=aa h;refine aD 6 26 b13 ?_ ?_
  ·clear h;refine aE 20 J (fun g13=> ?_) (fun g13=> ?_)
   ·have h:=ag g13 hb13;refine V ?_;obtain rfl:=ao h;exact ad sA (cS [0,1,2] 3)
   have h:=ah g13 hb13;refine V ?_;obtain ⟨x14,hx14,h⟩:=aa h;obtain ⟨lx14,ux14,hx14⟩:=aj hx14;refine bA (aB 0 J ae J J hO aI lx14 ux14) J (fW g13 J) J ?_;refine bA (jI 0 J ae J (bB lx14 ux14) eQ) J (fW g13 J) J ?_;refine bA (aW (u:=iV x14.Kind) 0 J ae J hx14 cM (fun _ _ _ h=>by rw [show _=_ from h];rfl)) J (fW g13 J) J ?_;refine V ?_;obtain rfl:=ao h;exact ad sA (cS [0,1,2] 3)
  refine V ?_;refine aq J (fun g15=> ?_) (fun g15=> ?_)
  ·replace h:=ag g15 h;refine V ?_;refine gO (au (us:=[.bool false]) (cs':=[.bool false]) 2 J J J J rC J J J) ?_;rintro _ _ rfl;refine V ?_;obtain ⟨rfl,rfl⟩:=Prod.mk.inj (Option.some.inj h);exact yZ ((cS [1,2] 3).trans (dm () J))
  replace h:=ah g15 h;refine V ?_;obtain ⟨b16,hb16,h⟩:=aa h;refine aD 13 42 b16 ?_ ?_
  ·clear h;refine aE 29 J (fun g16=> ?_) (fun g16=> ?_)
   ·have h:=ag g16 hb16;refine V ?_;obtain ⟨x17,hx17,h⟩:=aa h;obtain ⟨lx17,ux17,hx17⟩:=aj hx17;refine bA (aB 0 J ae J J hO aI lx17 ux17) J (aO g16 J) J ?_;refine bA (aQ (us:=ar x17) 0 J ae J hx17 bn (fun _ _ _ h=>by rw [show _=_ from h];rfl)) J (aO g16 J) J ?_;obtain ⟨y18,hy18,h⟩:=aa h;refine ca (ak (fb hy18) oK J (ai) ea) J (aO g16 J) J ?_;rintro _ _ ⟨_,⟨rfl,rfl⟩,rfl⟩;refine V ?_;obtain ⟨b19,hb19,h⟩:=aa h;refine aD 6 41 b19 ?_ ?_
    ·clear h;refine aE 35 J (fun g19=> ?_) (fun g19=> ?_)
     ·have h:=ag g19 hb19;refine V ?_;obtain rfl:=ao h;exact ad sA (cS [0,1,2] 3)
     have h:=ah g19 hb19;refine V ?_;obtain ⟨x20,hx20,h⟩:=aa h;obtain ⟨lx20,ux20,hx20⟩:=aj hx20;refine bA (aB 0 J ae J J hO aI lx20 ux20) J (fW g19 J) J ?_;refine bA (aQ (us:=ar x20) 0 J ae J hx20 bn (fun _ _ _ h=>by rw [show _=_ from h];rfl)) J (fW g19 J) J ?_;obtain ⟨y21,hy21,h⟩:=aa h;refine ca (ak (fc hy21) oJ J (ai) eb) J (fW g19 J) J ?_;rintro _ _ ⟨_,⟨rfl,rfl⟩,rfl⟩;refine V ?_;obtain rfl:=ao h;exact ad sA (cS [0,1,2] 3)
    refine V ?_;obtain rfl:=ao h;exact ad sA (cS [0,1,2] 3)
   have h:=ah g16 hb16;refine V ?_;obtain rfl:=ao h;exact ad sA (cS [0,1,2] 3)
  refine V ?_;refine aq J (fun g22=> ?_) (fun g22=> ?_)
  ·replace h:=ag g22 h;refine V ?_;refine gO (au (us:=[.bool false]) (cs':=[.bool false]) 2 J J J J rC J J J) ?_;rintro _ _ rfl;refine V ?_;obtain ⟨rfl,rfl⟩:=Prod.mk.inj (Option.some.inj h);exact yZ ((cS [1,2] 3).trans (dm () J))
  replace h:=ah g22 h;refine V ?_;obtain ⟨rfl,rfl⟩:=Prod.mk.inj (Option.some.inj h);exact rv ((cS [1,2] 3).trans (dm () J))
 ·rintro _ h;refine iR ([aw B2 3 [iV a1],aw B3 4 [.bool false]]) J ?_;refine V ?_;refine gO (au (us:=[.bool true]) (cs':=[.bool true]) 1 J J J J rC J J J) ?_;rintro _ _ rfl;refine bX ?_;refine V ?_;obtain rfl:=ao h;exact dl (rs:=[.cell 4 4]) (vs:=[.bool true]) J (.cons (jf 1 J J xp) .nil) J (cS [] 2) ⟨J,J⟩
 ·rintro _ h;refine iR ([aw B2 3 [iV a1],aw B3 4 [.bool false]]) J ?_;refine V ?_;obtain rfl:=ao h;exact dl (rs:=[.cell 4 4]) (vs:=[.bool false]) J (.cons (jf 1 J J xp) .nil) J (cS [] 2) ⟨J,J⟩
 rintro i _ h;exact az h
theorem iO {r:Bool}: ∀v post,((fun (u:Value) (post:List Chunk)=>u=.bool r∧post=[])) v post→ ∀c∈post,bR c:=by
 rintro _ _ ⟨rfl,rfl⟩;exact ai
def fV (N:Nat)(a0:Int)(a1:(List Gu))(p5:Bool):Option Bool:=
 bif p5 then (some (decide ((a1.length:Int)=0))) else (bif decide (a0=3) then ((bif decide ((a1.length:Int)=3) then ((aH a1 0).bind fun x10=>(dY N x10 0 9007199254740992).bind fun y11=>some y11) else (some false)).bind fun b9=>(bif b9 then ((aH a1 1).bind fun x13=>(dX N x13 9).bind fun y14=>some y14) else (some false)).bind fun b12=>some b12) else (bif decide (a0=4) then ((bif decide (1≤(a1.length:Int)) then (some (decide ((a1.length:Int)≤4097))) else (some false)).bind fun b16=>(bif b16 then ((aH a1 0).bind fun x18=>(dX N x18 9).bind fun y19=>some y19) else (some false)).bind fun b17=>some b17) else (bif decide (a0=6) then ((bif decide ((a1.length:Int)=2) then ((aH a1 0).bind fun x22=>(dY N x22 0 3).bind fun y23=>some y23) else (some false)).bind fun b21=>(bif b21 then ((aH a1 1).bind fun x25=>(dX N x25 9).bind fun y26=>some y26) else (some false)).bind fun b24=>some b24) else (bif decide (a0=7) then ((bif decide (4≤(a1.length:Int)) then ((aH a1 2).bind fun x29=>(dY N x29 0 1).bind fun y30=>some y30) else (some false)).bind fun b28=>(bif b28 then ((aH a1 3).bind fun x32=>(dY N x32 0 9007199254740992).bind fun y33=>some y33) else (some false)).bind fun b31=>some b31) else (bif decide (a0=8) then ((cE N a1 2).bind fun y35=>some y35) else (bif decide (a0=10) then ((bif decide (1≤(a1.length:Int)) then ((aH a1 0).bind fun x38=>some (decide (x38.Kind=7))) else (some false)).bind fun b37=>(bif b37 then (bD ((0:Int)≤1∧(1:Int).toNat≤a1.length∧a1.length≤a1.length) ((cE N ((a1.drop ((1:Int).toNat)).take (a1.length - (1:Int).toNat)) 4).bind fun y42=>some y42)) else (some false)).bind fun b39=>some b39) else (bif decide (a0=9) then ((bif decide (2≤(a1.length:Int)) then ((aH a1 0).bind fun x45=>(dY N x45 0 2).bind fun y46=>some y46) else (some false)).bind fun b44=>some b44) else (some true))))))))
def fd (N:Nat)(a0:Int)(a1:(List Gu)):Option Bool:=
 bif decide (1048576<(a1.length:Int)) then (some false) else (bif decide (a0=2) then (some (decide ((a1.length:Int)≤4096))) else (bif decide (a0=1) then (fV N a0 a1 (decide (a0=1))) else (fV N a0 a1 (decide (a0=5)))))
set_option maxHeartbeats 4000000 in
theorem qM {N:Nat}{a0:Int}{a1:(List Gu)}{r:Bool}(h:fd N a0 a1=some r):Okc Tryz.prog 171 [iV a0,I A1 n1 c1] ([aS A1 n1 c1 a1]) (fun u post=>u=.bool r∧post=[]):=by
 refine bx Tryz.func171 J J ?_;simp only [aU];refine V ?_;refine ay ?_;refine V ?_;refine gR (aG 0 J ae J hO) ?_;refine V ?_;refine aq J (fun g2=> ?_) (fun g2=> ?_)
 ·replace h:=ag g2 h;refine V ?_;obtain rfl:=ao h;exact aL J J (cS [] 1) ⟨J,J⟩
 replace h:=ah g2 h;refine V ?_;refine ay ?_;refine V ?_;refine aq J (fun g3=> ?_) (fun g3=> ?_)
 ·replace h:=ag g3 h;refine V ?_;refine gR (aG 0 J ae J hO) ?_;refine V ?_;obtain rfl:=ao h;exact aL J J (cS [] 1) ⟨J,J⟩
 replace h:=ah g3 h;refine aP (fun s L=> ∃p5,fV N a0 a1 p5=some r∧s=[(1,I A1 n1 c1),(4,.bool false),(8,iV a0),(14,.bool p5)]∧L=[aS A1 n1 c1 a1]) ?_ ?_
 ·refine V ?_;refine aq J (fun g6=> ?_) (fun g6=> ?_)
  ·replace h:=ag g6 h;refine V ?_;exact ⟨_,_,⟨decide (a0=1),h,J,J⟩,sA,cS [0] 1⟩
  replace h:=ah g6 h;refine V ?_;exact ⟨_,_,⟨decide (a0=5),h,J,J⟩,sA,cS [0] 1⟩
 rintro _ _ ⟨p5,h,rfl,rfl⟩;refine aq J (fun g7=> ?_) (fun g7=> ?_)
 ·replace h:=ag g7 h;refine V ?_;refine gR (aG 0 J ae J hO) ?_;refine V ?_;obtain rfl:=ao h;exact aL J J (cS [] 1) ⟨J,J⟩
 replace h:=ah g7 h;refine V ?_;refine aq J (fun g8=> ?_) (fun g8=> ?_)
 ·replace h:=ag g8 h;refine V ?_;refine gR (aG 0 J ae J hO) ?_;refine V ?_;obtain ⟨b9,hb9,h⟩:=aa h;refine aD 5 30 b9 ?_ ?_
  ·clear h;refine aE 25 J (fun g9=> ?_) (fun g9=> ?_)
   ·have h:=ag g9 hb9;refine V ?_;obtain ⟨x10,hx10,h⟩:=aa h;obtain ⟨lx10,ux10,hx10⟩:=aj hx10;refine bA (aB 0 J ae J J hO aI lx10 ux10) J (aO g9 J) J ?_;refine bA (aQ (us:=ar x10) 0 J ae J hx10 bn (fun _ _ _ h=>by rw [show _=_ from h];rfl)) J (aO g9 J) J ?_;obtain ⟨y11,hy11,h⟩:=aa h;refine ca (ak (fc hy11) oJ J (ai) eb) J (aO g9 J) J ?_;rintro _ _ ⟨_,⟨rfl,rfl⟩,rfl⟩;refine V ?_;obtain rfl:=ao h;exact ad sA (cS [0] 1)
   have h:=ah g9 hb9;refine V ?_;obtain rfl:=ao h;exact ad sA (cS [0] 1)
  refine V ?_;obtain ⟨b12,hb12,h⟩:=aa h;refine aD 5 36 b12 ?_ ?_
  ·clear h;refine aE 31 J (fun g12=> ?_) (fun g12=> ?_)
   ·have h:=ag g12 hb12;refine V ?_;obtain ⟨x13,hx13,h⟩:=aa h;obtain ⟨lx13,ux13,hx13⟩:=aj hx13;refine bA (aB 0 J ae J J hO aI lx13 ux13) J (aO g12 J) J ?_;refine bA (aQ (us:=ar x13) 0 J ae J hx13 bn (fun _ _ _ h=>by rw [show _=_ from h];rfl)) J (aO g12 J) J ?_;obtain ⟨y14,hy14,h⟩:=aa h;refine ca (ak (fb hy14) oK J (ai) ea) J (aO g12 J) J ?_;rintro _ _ ⟨_,⟨rfl,rfl⟩,rfl⟩;refine V ?_;obtain rfl:=ao h;exact ad sA (cS [0] 1)
   have h:=ah g12 hb12;refine V ?_;obtain rfl:=ao h;exact ad sA (cS [0] 1)
  refine V ?_;obtain rfl:=ao h;exact aL J J (cS [] 1) ⟨J,J⟩
 replace h:=ah g8 h;refine V ?_;refine aq J (fun g15=> ?_) (fun g15=> ?_)
 ·replace h:=ag g15 h;refine V ?_;refine gR (aG 0 J ae J hO) ?_;refine V ?_;obtain ⟨b16,hb16,h⟩:=aa h;refine aD 4 46 b16 ?_ ?_
  ·clear h;refine aE 42 J (fun g16=> ?_) (fun g16=> ?_)
   ·have h:=ag g16 hb16;refine V ?_;refine bA (aG 0 J ae J hO) J (aO g16 J) J ?_;refine V ?_;obtain rfl:=ao h;exact ad sA (cS [0] 1)
   have h:=ah g16 hb16;refine V ?_;obtain rfl:=ao h;exact ad sA (cS [0] 1)
  refine V ?_;obtain ⟨b17,hb17,h⟩:=aa h;refine aD 5 52 b17 ?_ ?_
  ·clear h;refine aE 47 J (fun g17=> ?_) (fun g17=> ?_)
   ·have h:=ag g17 hb17;refine V ?_;obtain ⟨x18,hx18,h⟩:=aa h;obtain ⟨lx18,ux18,hx18⟩:=aj hx18;refine bA (aB 0 J ae J J hO aI lx18 ux18) J (aO g17 J) J ?_;refine bA (aQ (us:=ar x18) 0 J ae J hx18 bn (fun _ _ _ h=>by rw [show _=_ from h];rfl)) J (aO g17 J) J ?_;obtain ⟨y19,hy19,h⟩:=aa h;refine ca (ak (fb hy19) oK J (ai) ea) J (aO g17 J) J ?_;rintro _ _ ⟨_,⟨rfl,rfl⟩,rfl⟩;refine V ?_;obtain rfl:=ao h;exact ad sA (cS [0] 1)
   have h:=ah g17 hb17;refine V ?_;obtain rfl:=ao h;exact ad sA (cS [0] 1)
  refine V ?_;obtain rfl:=ao h;exact aL J J (cS [] 1) ⟨J,J⟩
 replace h:=ah g15 h;refine V ?_;refine aq J (fun g20=> ?_) (fun g20=> ?_)
 ·replace h:=ag g20 h;refine V ?_;refine gR (aG 0 J ae J hO) ?_;refine V ?_;obtain ⟨b21,hb21,h⟩:=aa h;refine aD 5 63 b21 ?_ ?_
  ·clear h;refine aE 58 J (fun g21=> ?_) (fun g21=> ?_)
   ·have h:=ag g21 hb21;refine V ?_;obtain ⟨x22,hx22,h⟩:=aa h;obtain ⟨lx22,ux22,hx22⟩:=aj hx22;refine bA (aB 0 J ae J J hO aI lx22 ux22) J (aO g21 J) J ?_;refine bA (aQ (us:=ar x22) 0 J ae J hx22 bn (fun _ _ _ h=>by rw [show _=_ from h];rfl)) J (aO g21 J) J ?_;obtain ⟨y23,hy23,h⟩:=aa h;refine ca (ak (fc hy23) oJ J (ai) eb) J (aO g21 J) J ?_;rintro _ _ ⟨_,⟨rfl,rfl⟩,rfl⟩;refine V ?_;obtain rfl:=ao h;exact ad sA (cS [0] 1)
   have h:=ah g21 hb21;refine V ?_;obtain rfl:=ao h;exact ad sA (cS [0] 1)
  refine V ?_;obtain ⟨b24,hb24,h⟩:=aa h;refine aD 5 69 b24 ?_ ?_
  ·clear h;refine aE 64 J (fun g24=> ?_) (fun g24=> ?_)
   ·have h:=ag g24 hb24;refine V ?_;obtain ⟨x25,hx25,h⟩:=aa h;obtain ⟨lx25,ux25,hx25⟩:=aj hx25;refine bA (aB 0 J ae J J hO aI lx25 ux25) J (aO g24 J) J ?_;refine bA (aQ (us:=ar x25) 0 J ae J hx25 bn (fun _ _ _ h=>by rw [show _=_ from h];rfl)) J (aO g24 J) J ?_;obtain ⟨y26,hy26,h⟩:=aa h;refine ca (ak (fb hy26) oK J (ai) ea) J (aO g24 J) J ?_;rintro _ _ ⟨_,⟨rfl,rfl⟩,rfl⟩;refine V ?_;obtain rfl:=ao h;exact ad sA (cS [0] 1)
   have h:=ah g24 hb24;refine V ?_;obtain rfl:=ao h;exact ad sA (cS [0] 1)
  refine V ?_;obtain rfl:=ao h;exact aL J J (cS [] 1) ⟨J,J⟩
 replace h:=ah g20 h;refine V ?_;refine aq J (fun g27=> ?_) (fun g27=> ?_)
 ·replace h:=ag g27 h;refine V ?_;refine gR (aG 0 J ae J hO) ?_;refine V ?_;obtain ⟨b28,hb28,h⟩:=aa h;refine aD 5 80 b28 ?_ ?_
  ·clear h;refine aE 75 J (fun g28=> ?_) (fun g28=> ?_)
   ·have h:=ag g28 hb28;refine V ?_;obtain ⟨x29,hx29,h⟩:=aa h;obtain ⟨lx29,ux29,hx29⟩:=aj hx29;refine bA (aB 0 J ae J J hO aI lx29 ux29) J (aO g28 J) J ?_;refine bA (aQ (us:=ar x29) 0 J ae J hx29 bn (fun _ _ _ h=>by rw [show _=_ from h];rfl)) J (aO g28 J) J ?_;obtain ⟨y30,hy30,h⟩:=aa h;refine ca (ak (fc hy30) oJ J (ai) eb) J (aO g28 J) J ?_;rintro _ _ ⟨_,⟨rfl,rfl⟩,rfl⟩;refine V ?_;obtain rfl:=ao h;exact ad sA (cS [0] 1)
   have h:=ah g28 hb28;refine V ?_;obtain rfl:=ao h;exact ad sA (cS [0] 1)
  refine V ?_;obtain ⟨b31,hb31,h⟩:=aa h;refine aD 5 86 b31 ?_ ?_
  ·clear h;refine aE 81 J (fun g31=> ?_) (fun g31=> ?_)
   ·have h:=ag g31 hb31;refine V ?_;obtain ⟨x32,hx32,h⟩:=aa h;obtain ⟨lx32,ux32,hx32⟩:=aj hx32;refine bA (aB 0 J ae J J hO aI lx32 ux32) J (aO g31 J) J ?_;refine bA (aQ (us:=ar x32) 0 J ae J hx32 bn (fun _ _ _ h=>by rw [show _=_ from h];rfl)) J (aO g31 J) J ?_;obtain ⟨y33,hy33,h⟩:=aa h;refine ca (ak (fc hy33) oJ J (ai) eb) J (aO g31 J) J ?_;rintro _ _ ⟨_,⟨rfl,rfl⟩,rfl⟩;refine V ?_;obtain rfl:=ao h;exact ad sA (cS [0] 1)
   have h:=ah g31 hb31;refine V ?_;obtain rfl:=ao h;exact ad sA (cS [0] 1)
  refine V ?_;obtain rfl:=ao h;exact aL J J (cS [] 1) ⟨J,J⟩
 replace h:=ah g27 h;refine V ?_;refine aq J (fun g34=> ?_) (fun g34=> ?_)
 ·replace h:=ag g34 h;refine V ?_;obtain ⟨y35,hy35,h⟩:=aa h;refine gD (ak (jE hy35) zH J (hJ (ap (i:=0) J J) ai) iO) ?_;rintro _ _ ⟨_,⟨rfl,rfl⟩,rfl⟩;refine V ?_;obtain rfl:=ao h;exact aL J J (cS [] 1) ⟨J,J⟩
 replace h:=ah g34 h;refine V ?_;refine aq J (fun g36=> ?_) (fun g36=> ?_)
 ·replace h:=ag g36 h;refine V ?_;refine gR (aG 0 J ae J hO) ?_;refine V ?_;obtain ⟨b37,hb37,h⟩:=aa h;refine aD 6 102 b37 ?_ ?_
  ·clear h;refine aE 96 J (fun g37=> ?_) (fun g37=> ?_)
   ·have h:=ag g37 hb37;refine V ?_;obtain ⟨x38,hx38,h⟩:=aa h;obtain ⟨lx38,ux38,hx38⟩:=aj hx38;refine bA (aB 0 J ae J J hO aI lx38 ux38) J (aO g37 J) J ?_;refine bA (jI 0 J ae J (bB lx38 ux38) eQ) J (aO g37 J) J ?_;refine bA (aW (u:=iV x38.Kind) 0 J ae J hx38 cM (fun _ _ _ h=>by rw [show _=_ from h];rfl)) J (aO g37 J) J ?_;refine V ?_;obtain rfl:=ao h;exact ad sA (cS [0] 1)
   have h:=ah g37 hb37;refine V ?_;obtain rfl:=ao h;exact ad sA (cS [0] 1)
  refine V ?_;obtain ⟨b39,hb39,h⟩:=aa h;refine aD 4 107 b39 ?_ ?_
  ·clear h;refine aE 103 J (fun g39=> ?_) (fun g39=> ?_)
   ·have h:=ag g39 hb39;refine V ?_;obtain ⟨q40,h⟩:=am h;refine Ej 0 J (l:=(1:Int).toNat) (h:=a1.length) q40.2.1 q40.2.2 ?_;rintro A41 n41 c41 e41;refine bA (vO 1 J e41 J hO aI J (by rw [Int.toNat_of_nonneg q40.1];rfl) q40.2.1) J (aO g39 J) J ?_;obtain ⟨y42,hy42,h⟩:=aa h;refine ca (ak (jE hy42) zH J (hJ (ap (i:=0) J J) ai) iO) J (aO g39 J) J ?_;rintro _ _ ⟨_,⟨rfl,rfl⟩,rfl⟩;refine V ?_;obtain rfl:=ao h;exact ad sA (cS [1] 2)
   have h:=ah g39 hb39;refine V ?_;obtain rfl:=ao h;exact ad sA (cS [0] 1)
  refine V ?_;obtain rfl:=ao h;exact aL J J (cS [] 1) ⟨J,J⟩
 replace h:=ah g36 h;refine V ?_;refine aq J (fun g43=> ?_) (fun g43=> ?_)
 ·replace h:=ag g43 h;refine V ?_;refine gR (aG 0 J ae J hO) ?_;refine V ?_;obtain ⟨b44,hb44,h⟩:=aa h;refine aD 5 118 b44 ?_ ?_
  ·clear h;refine aE 113 J (fun g44=> ?_) (fun g44=> ?_)
   ·have h:=ag g44 hb44;refine V ?_;obtain ⟨x45,hx45,h⟩:=aa h;obtain ⟨lx45,ux45,hx45⟩:=aj hx45;refine bA (aB 0 J ae J J hO aI lx45 ux45) J (aO g44 J) J ?_;refine bA (aQ (us:=ar x45) 0 J ae J hx45 bn (fun _ _ _ h=>by rw [show _=_ from h];rfl)) J (aO g44 J) J ?_;obtain ⟨y46,hy46,h⟩:=aa h;refine ca (ak (fc hy46) oJ J (ai) eb) J (aO g44 J) J ?_;rintro _ _ ⟨_,⟨rfl,rfl⟩,rfl⟩;refine V ?_;obtain rfl:=ao h;exact ad sA (cS [0] 1)
   have h:=ah g44 hb44;refine V ?_;obtain rfl:=ao h;exact ad sA (cS [0] 1)
  refine V ?_;obtain rfl:=ao h;exact aL J J (cS [] 1) ⟨J,J⟩
 replace h:=ah g43 h;refine V ?_;obtain rfl:=ao h;exact aL J J (cS [] 1) ⟨J,J⟩
theorem oV {r:Bool}: ∀v post,((fun (u:Value) (post:List Chunk)=>u=.bool r∧post=[])) v post→ ∀c∈post,bR c:=by
 rintro _ _ ⟨rfl,rfl⟩;exact ai
def dz (N:Nat)(a0:Gw)(x14:Bool×Gu):(Unit)→Option (Option Exit×Unit)
 |()=>(mL N x14.2).bind fun y17=>bif !y17 then (some (some .ret,())) else (some (none,()))
def dS (N:Nat)(a0:Gw):Option Bool:=
 (bif decide (a0.Kind<1) then (some true) else (some (decide (11<a0.Kind)))).bind fun b5=>(bif b5 then (some true) else (some (decide (a0.Shape<0)))).bind fun b6=>(bif b6 then (some true) else (some (decide (a0.Flags<0)))).bind fun b7=>(bif b7 then (some true) else (some (decide (63<a0.Flags)))).bind fun b8=>(bif b8 then (some true) else ((bif !decide (a0.Age=0) then (some (!decide (a0.Age=1))) else (some false)).bind fun b10=>some b10)).bind fun b9=>bif b9 then (some false) else ((kQ N a0).bind fun y12=>(gL N a0 (bW (fun x st=>dz N a0 x st)) (none,())).bind fun y15=>lw y15.1 ((eG N a0).bind fun y19=>(bif y19 then ((fd N a0.Kind a0.More).bind fun y21=>some y21) else (some false)).bind fun b20=>some b20) (some false) (fun _=>none))
set_option maxHeartbeats 4000000 in
theorem lO {N:Nat}{a0:Gw}{r:Bool}(h:dS N a0=some r):Okc Tryz.prog 94 [.agg #[iV a0.Kind,iV a0.Shape,iV a0.Flags,iV a0.Age,I A1 n1 c1,I A2 n2 c2]] ([aS A1 n1 c1 a0.Slots,aS A2 n2 c2 a0.More]) (fun u post=>u=.bool r∧post=[]):=by
 refine bx Tryz.func94 J J ?_;simp only [aU];refine V ?_;refine gD (aX J J) ?_;rintro _ _ ⟨B3,rfl,rfl⟩;refine gD (aM zc J) ?_;rintro _ _ ⟨B4,rfl,rfl⟩;refine V ?_;refine ay ?_;refine V ?_;obtain ⟨b5,hb5,h⟩:=aa h;refine aD 4 12 b5 ?_ ?_
 ·clear h;refine aE 8 J (fun g5=> ?_) (fun g5=> ?_)
  ·have h:=ag g5 hb5;refine V ?_;obtain rfl:=ao h;exact ad sA (cS [0,1,2,3] 4)
  have h:=ah g5 hb5;refine V ?_;obtain rfl:=ao h;exact ad sA (cS [0,1,2,3] 4)
 refine V ?_;obtain ⟨b6,hb6,h⟩:=aa h;refine aD 4 17 b6 ?_ ?_
 ·clear h;refine aE 13 J (fun g6=> ?_) (fun g6=> ?_)
  ·have h:=ag g6 hb6;refine V ?_;obtain rfl:=ao h;exact ad sA (cS [0,1,2,3] 4)
  have h:=ah g6 hb6;refine V ?_;obtain rfl:=ao h;exact ad sA (cS [0,1,2,3] 4)
 refine V ?_;obtain ⟨b7,hb7,h⟩:=aa h;refine aD 4 22 b7 ?_ ?_
 ·clear h;refine aE 18 J (fun g7=> ?_) (fun g7=> ?_)
  ·have h:=ag g7 hb7;refine V ?_;obtain rfl:=ao h;exact ad sA (cS [0,1,2,3] 4)
  have h:=ah g7 hb7;refine V ?_;obtain rfl:=ao h;exact ad sA (cS [0,1,2,3] 4)
 refine V ?_;obtain ⟨b8,hb8,h⟩:=aa h;refine aD 4 27 b8 ?_ ?_
 ·clear h;refine aE 23 J (fun g8=> ?_) (fun g8=> ?_)
  ·have h:=ag g8 hb8;refine V ?_;obtain rfl:=ao h;exact ad sA (cS [0,1,2,3] 4)
  have h:=ah g8 hb8;refine V ?_;obtain rfl:=ao h;exact ad sA (cS [0,1,2,3] 4)
 refine V ?_;obtain ⟨b9,hb9,h⟩:=aa h;refine aD 9 37 b9 ?_ ?_
 ·clear h;refine aE 28 J (fun g9=> ?_) (fun g9=> ?_)
  ·have h:=ag g9 hb9;refine V ?_;obtain rfl:=ao h;exact ad sA (cS [0,1,2,3] 4)
  have h:=ah g9 hb9;refine V ?_;obtain ⟨b10,hb10,h⟩:=aa h;refine aD 4 36 b10 ?_ ?_
  ·clear h;refine aE 32 J (fun g10=> ?_) (fun g10=> ?_)
   ·have h:=ag g10 hb10;refine V ?_;obtain rfl:=ao h;exact ad sA (cS [0,1,2,3] 4)
   have h:=ah g10 hb10;refine V ?_;obtain rfl:=ao h;exact ad sA (cS [0,1,2,3] 4)
  refine V ?_;obtain rfl:=ao h;exact ad sA (cS [0,1,2,3] 4)
 refine V ?_;refine aq J (fun g11=> ?_) (fun g11=> ?_)
 ·replace h:=ag g11 h;refine V ?_;refine gO (au (us:=[.bool false]) (cs':=[.bool false]) 0 J J J J rC J J J) ?_;rintro _ _ rfl;refine V ?_;obtain rfl:=ao h;exact dl (rs:=[.cell 2 4]) (vs:=[.bool false]) J (.cons (jf 0 J J xp) .nil) J (cS [] 4) ⟨J,J⟩
 replace h:=ah g11 h;refine V ?_;refine ay ?_;refine V ?_;refine gR (aC (us:=[iV a0.Kind,iV a0.Shape,iV a0.Flags,iV a0.Age,I A1 n1 c1,I A2 n2 c2]) 1 J J bo J) ?_;obtain ⟨y12,hy12,h⟩:=aa h;refine gD (ak (rZ hy12) zS J (hJ (ap (i:=2) J J) (hJ (ap (i:=3) J J) ai)) pm) ?_;rintro _ _ ⟨_,⟨B13,rfl,rfl⟩,rfl⟩;refine mj ?_;refine jB ?_;refine dP ?_ bH (fP 0 J);obtain ⟨y15,hy15,h⟩:=aa h;refine kS (en:=(fun x=> [.bool x.1,(bd x.2)])) (fun x st=>dz N a0 x st) (fun (st:Unit) (mz:Unit)=> [aS A1 n1 c1 a0.Slots,aS A2 n2 c2 a0.More,aw B3 47 [iV a0.Kind,iV a0.Shape,iV a0.Flags,iV a0.Age,I A1 n1 c1,I A2 n2 c2],aw B4 4 [.bool false]]) [cR B13 47 [iV a0.Kind,iV a0.Shape,iV a0.Flags,iV a0.Age,I A1 n1 c1,I A2 n2 c2],aS A1 n1 c1 a0.Slots,aS A2 n2 c2 a0.More] (()) (()) J J zI J (fun _=>J) (fun l G hY=>(nY hy15 hY).mono fun _ _ hh=>hh.2) (bq [0,3,4] [] [3,4,2,1] 5 J) h ?_ ?_ ?_ ?_
 ·rintro l x14 _ je sr14 _ h;replace h:dz N a0 x14 ()=some (je,sr14):=h;simp only [pJ,List.zip_cons_cons,List.zip_nil_left,List.zip_nil_right,List.reverse_cons,List.reverse_nil,List.nil_append,List.cons_append];refine dA ?_;refine gD (aM gr J) ?_;rintro _ _ ⟨B16,rfl,rfl⟩;refine gO (au (us:=ar x14.2) (cs':=ar x14.2) 0 J J J J aI J J J) ?_;rintro _ _ rfl;refine bX ?_;refine V ?_;refine gR (aC (us:=ar x14.2) 0 J J bn J) ?_;obtain ⟨y17,hy17,h⟩:=aa h;refine gD (ak (xO hy17) DJ J (ai) uB) ?_;rintro _ _ ⟨_,⟨rfl,rfl⟩,rfl⟩;refine V ?_;refine aq J (fun g18=> ?_) (fun g18=> ?_)
  ·replace h:=ag g18 h;refine V ?_;refine gO (au (us:=[.bool false]) (cs':=[.bool false]) 4 J J J J rC J J J) ?_;rintro _ _ rfl;refine V ?_;obtain ⟨rfl,rfl⟩:=Prod.mk.inj (Option.some.inj h);exact yZ ((cS [1,2,3,4] 5).trans (dm () J))
  replace h:=ah g18 h;refine V ?_;obtain ⟨rfl,rfl⟩:=Prod.mk.inj (Option.some.inj h);exact rv ((cS [1,2,3,4] 5).trans (dm () J))
 ·rintro _ h;refine iR ([aS A1 n1 c1 a0.Slots,aS A2 n2 c2 a0.More,aw B3 47 [iV a0.Kind,iV a0.Shape,iV a0.Flags,iV a0.Age,I A1 n1 c1,I A2 n2 c2],aw B4 4 [.bool false]]) J ?_;refine V ?_;refine gR (aC (us:=[iV a0.Kind,iV a0.Shape,iV a0.Flags,iV a0.Age,I A1 n1 c1,I A2 n2 c2]) 2 J J bo J) ?_;obtain ⟨y19,hy19,h⟩:=aa h;refine gD (ak (pM hy19) DI J (hJ (ap (i:=0) J J) (hJ (ap (i:=1) J J) ai)) nX) ?_;rintro _ _ ⟨_,⟨rfl,rfl⟩,rfl⟩;refine V ?_;obtain ⟨b20,hb20,h⟩:=aa h;refine aD 6 53 b20 ?_ ?_
  ·clear h;refine aE 47 J (fun g20=> ?_) (fun g20=> ?_)
   ·have h:=ag g20 hb20;refine V ?_;obtain ⟨y21,hy21,h⟩:=aa h;refine ca (ak (qM hy21) DH J (hJ (ap (i:=1) J J) ai) oV) J (aO g20 J) J ?_;rintro _ _ ⟨_,⟨rfl,rfl⟩,rfl⟩;refine V ?_;obtain rfl:=ao h;exact ad sA (cS [0,1,2,3] 4)
   have h:=ah g20 hb20;refine V ?_;obtain rfl:=ao h;exact ad sA (cS [0,1,2,3] 4)
  refine gO (au (us:=[.bool b20]) (cs':=[.bool b20]) 3 J J J J rC J J J) ?_;rintro _ _ rfl;refine V ?_;obtain rfl:=ao h;exact dl (rs:=[.cell 2 4]) (vs:=[.bool b20]) J (.cons (jf 3 J J xp) .nil) J (cS [] 4) ⟨J,J⟩
 ·rintro _ h;refine iR ([aS A1 n1 c1 a0.Slots,aS A2 n2 c2 a0.More,aw B3 47 [iV a0.Kind,iV a0.Shape,iV a0.Flags,iV a0.Age,I A1 n1 c1,I A2 n2 c2],aw B4 4 [.bool false]]) J ?_;refine V ?_;obtain rfl:=ao h;exact dl (rs:=[.cell 2 4]) (vs:=[.bool false]) J (.cons (jf 3 J J xp) .nil) J (cS [] 4) ⟨J,J⟩
 rintro i _ h;exact az h
theorem jP {r:Bool}: ∀v post,((fun (u:Value) (post:List Chunk)=>u=.bool r∧post=[])) v post→ ∀c∈post,bR c:=by
 rintro _ _ ⟨rfl,rfl⟩;exact ai
def lR (N:Nat)(a0:Gw):Option Bool:=
 (bif decide (a0.Kind=8) then ((dS N a0).bind fun y5=>some y5) else (some false)).bind fun b4=>some b4
theorem sM {N:Nat}{a0:Gw}{r:Bool}(h:lR N a0=some r):Okc Tryz.prog 189 [.agg #[iV a0.Kind,iV a0.Shape,iV a0.Flags,iV a0.Age,I A1 n1 c1,I A2 n2 c2]] ([aS A1 n1 c1 a0.Slots,aS A2 n2 c2 a0.More]) (fun u post=>u=.bool r∧post=[]):=by
 refine bx Tryz.func189 J J ?_;simp only [aU];refine V ?_;refine gD (aX J J) ?_;rintro _ _ ⟨B3,rfl,rfl⟩;refine V ?_;obtain ⟨b4,hb4,h⟩:=aa h;refine aD 3 9 b4 ?_ ?_
 ·clear h;refine aE 6 J (fun g4=> ?_) (fun g4=> ?_)
  ·have h:=ag g4 hb4;refine bA (aC (us:=[iV a0.Kind,iV a0.Shape,iV a0.Flags,iV a0.Age,I A1 n1 c1,I A2 n2 c2]) 0 J J bo J) J (aO g4 J) J ?_;obtain ⟨y5,hy5,h⟩:=aa h;refine ca (ak (lO hy5) yP J (hJ (ap (i:=1) J J) (hJ (ap (i:=2) J J) ai)) jP) J (aO g4 J) J ?_;rintro _ _ ⟨_,⟨rfl,rfl⟩,rfl⟩;refine V ?_;obtain rfl:=ao h;exact ad sA (cS [0,1,2] 3)
  have h:=ah g4 hb4;refine V ?_;obtain rfl:=ao h;exact ad sA (cS [0,1,2] 3)
 refine V ?_;obtain rfl:=ao h;exact aL J J (cS [] 3) ⟨J,J⟩
theorem pY {r:Bool}: ∀v post,((fun (u:Value) (post:List Chunk)=>u=.bool r∧post=[])) v post→ ∀c∈post,bR c:=by
 rintro _ _ ⟨rfl,rfl⟩;exact ai
def cT (N:Nat){σ:Type}(fy:(Gu×Gu)→σ→Option (Bool×σ))(a1:Gw):Nat→Int→σ→Option σ
 |0,_,_=>none
 |m4+1,p5,p6=>bD (in64 (p5+1)) (bif decide (p5+1<(a1.More.length:Int)) then ((aH a1.More p5).bind fun x9=>bD (in64 (p5+1)) ((aH a1.More (p5+1)).bind fun x11=>(fy (x9,x11) p6).bind fun y12=>bif !y12.1 then (some y12.2) else (bD (in64 (p5+2)) ((cT N fy a1 m4) (p5+2) y12.2)))) else (some p6))
def ex (N:Nat){σ:Type}(a1:Gw)(fy:(Gu×Gu)→σ→Option (Bool×σ))(s0:σ):Option σ:=
 cT N fy a1 N 0 s0
theorem kk {N:Nat}{σ:Type}{a1:Gw}{fy:(Gu×Gu)→σ→Option (Bool×σ)}{s0:σ}{r:σ}(h:ex N a1 fy s0=some r){l:Nat}{G:σ→List Chunk}(hY:lx Tryz.prog l G (fun x=> [(bd x.1),(bd x.2)]) fy):Okc Tryz.prog 261 [.func (.yield l) #[] #[],pV B1 0] (cR B1 47 [iV a1.Kind,iV a1.Shape,iV a1.Flags,iV a1.Age,I A2 n2 c2,I A3 n3 c3]::aS A2 n2 c2 a1.Slots::aS A3 n3 c3 a1.More::(G s0)) (fun u post=>u=.tuple #[]∧post=G r):=by
 refine bx Tryz.func261 J J ?_;simp only [aU];refine V ?_;refine aZ (fun m s L=> ∃p5 p6,cT N fy a1 m p5 p6=some r∧s=[(0,.func (.yield l) #[] #[]),(1,pV B1 0),(3,iV p5)]∧L=aS A2 n2 c2 a1.Slots::aS A3 n3 c3 a1.More::cR B1 47 [iV a1.Kind,iV a1.Shape,iV a1.Flags,iV a1.Age,I A2 n2 c2,I A3 n3 c3]::(G p6)) N _ _ ⟨0,s0,h,J,J⟩ sA (cS [1,2,0] 3) ?_;rintro (_|m4) _ _ ⟨p5,p6,h,rfl,rfl⟩
 ·exact az h
 rw [cT.eq_2] at h;refine ay ?_;refine V ?_;obtain ⟨q7,h⟩:=am h;refine gE (aT J J q7.1 q7.2) ?_;refine V ?_;refine gR (dL 2 J J cz J) ?_;refine gR (aG 1 J ae J hO) ?_;refine V ?_;refine aq J (fun g8=> ?_) (fun g8=> ?_)
 ·replace h:=ag g8 h;refine V ?_;refine ay ?_;refine cQ ?_;refine ay ?_;obtain ⟨x9,hx9,h⟩:=aa h;obtain ⟨lx9,ux9,hx9⟩:=aj hx9;obtain ⟨q10,h⟩:=am h;obtain ⟨x11,hx11,h⟩:=aa h;obtain ⟨lx11,ux11,hx11⟩:=aj hx11;refine dP (t:=[(0,.func (.yield l) #[] #[]),(1,pV B1 0),(3,iV p5)]) ?_ gA (ab _)
  refine eR O 12 [] [0,5,11] [12,13,14,15,16,17,18,19,20,21,22,23] [[],[],[1],[],[2,3],[4],[],[6],[],[8],[7,9],[10]] [aV (.func (.yield l) #[] #[]),
 aV (pV B1 5),
 aV (I A3 n3 c3),
 aV (iV p5),
 aV (bO (I A3 n3 c3) p5.toNat 3 0),
 aV ((bd x9)),
 aV (pV B1 5),
 aV (I A3 n3 c3),
 aV (iV p5),
 aV (iV (p5+1)),
 aV (bO (I A3 n3 c3) ((p5+1).toNat) 3 0),
 aV ((bd x11))] [] (ab _) (gu) O rfl rfl ?_ ?_ ?_
  ·exact gt
  ·refine ac J ?_ ?_
   ·exact bT (aQ (us:=ar x11) 1 J ae J hx11 bn (fun _ _ _ h=>by rw [show _=_ from h];rfl)) J (aA J (ab _))
   refine ac J ?_ ?_
   ·exact bT (aB 1 J ae J J hO aI lx11 ux11) J (aA J (ab _))
   refine ac J ?_ ?_
   ·exact bh (aT J J q10.1 q10.2) J (aA J (ab _))
   refine ac J ?_ ?_
   ·exact bh (ax J) J (aA J (ab _))
   refine ac J ?_ ?_
   ·exact bT (dL 2 J J cz J) J (aA J (ab _))
   refine ac J ?_ ?_
   ·exact bh (bQ J ce) J (aA J (ab _))
   refine ac J ?_ ?_
   ·exact bT (aQ (us:=ar x9) 1 J ae J hx9 bn (fun _ _ _ h=>by rw [show _=_ from h];rfl)) J (aA J (ab _))
   refine ac J ?_ ?_
   ·exact bT (aB 1 J ae J J hO aI lx9 ux9) J (aA J (ab _))
   refine ac J ?_ ?_
   ·exact bh (ax J) J (aA J (ab _))
   refine ac J ?_ ?_
   ·exact bT (dL 2 J J cz J) J (aA J (ab _))
   refine ac J ?_ ?_
   ·exact bh (bQ J ce) J (aA J (ab _))
   refine ac J ?_ ?_
   ·exact bh (ax J) J (aA J (ab _))
   exact dh
  refine gP (t:=[(12,.func (.yield l) #[] #[]),(17,(bd x9)),(23,(bd x11)),(0,.func (.yield l) #[] #[]),(1,pV B1 0),(3,iV p5)]) (L':=aS A2 n2 c2 a1.Slots::aS A3 n3 c3 a1.More::cR B1 47 [iV a1.Kind,iV a1.Shape,iV a1.Flags,iV a1.Age,I A2 n2 c2,I A3 n3 c3]::(G p6)) ?_ gA (ab _);obtain ⟨y12,hy12,h⟩:=aa h;refine kR 12 J O (oA (a:=(x9,x11)) [aS A2 n2 c2 a1.Slots,aS A3 n3 c3 a1.More,cR B1 47 [iV a1.Kind,iV a1.Shape,iV a1.Flags,iV a1.Age,I A2 n2 c2,I A3 n3 c3]] hY hy12 J J) J J J ?_;rintro _ _ ⟨rfl,rfl⟩;refine pS 13 J O (rl J) J J J ?_;refine gx O ?_;refine jB ?_;refine aq J (fun g13=> ?_) (fun g13=> ?_)
  ·replace h:=ag g13 h;refine V ?_;obtain rfl:=ao h;exact vo J (cS [] 3) ⟨J,J⟩
  replace h:=ah g13 h;refine V ?_;obtain ⟨q14,h⟩:=am h;refine gE (aT J J q14.1 q14.2) ?_;refine V ?_;exact ⟨m4,_,_,GD _,⟨p5+2,y12.2,h,J,J⟩,sA,cS [0,1,2] 3⟩
 replace h:=ah g8 h;refine V ?_;obtain rfl:=ao h;exact lN J (cS [] 3) ⟨J,J⟩
def fX (N:Nat)(a0:Gw):Option Unit:=
 some ()
theorem mQ {N:Nat}{a0:Gw}{r:Unit}(h:fX N a0=some r):Okc Tryz.prog 239 [.agg #[iV a0.Kind,iV a0.Shape,iV a0.Flags,iV a0.Age,I A1 n1 c1,I A2 n2 c2]] ([aS A1 n1 c1 a0.Slots,aS A2 n2 c2 a0.More]) (fun u post=> ∃B900,u=.func (.func 261) #[] #[pV B900 0]∧post=[aw B900 47 [iV a0.Kind,iV a0.Shape,iV a0.Flags,iV a0.Age,I A1 n1 c1,I A2 n2 c2]]):=by
 refine bx Tryz.func239 J J ?_;simp only [aU];refine V ?_;refine gD (aX J J) ?_;rintro _ _ ⟨B3,rfl,rfl⟩;refine V ?_;refine gE (fm J) ?_;refine V ?_;obtain rfl:=ao h;exact aL J J (cS [0] 3) ⟨_,J,J⟩
theorem kW {a0:Gw}{A1:Option Addr}{n1:Nat}{c1:Nat}{A2:Option Addr}{n2:Nat}{c2:Nat}: ∀v post,((fun (u:Value) (post:List Chunk)=> ∃B900,u=.func (.func 261) #[] #[pV B900 0]∧post=[aw B900 47 [iV a0.Kind,iV a0.Shape,iV a0.Flags,iV a0.Age,I A1 n1 c1,I A2 n2 c2]])) v post→ ∀c∈post,bR c:=by
 rintro _ _ ⟨_,rfl,rfl⟩;exact hJ mf (ai)
def mR (N:Nat):Option Int:=
 some (-1)
def fz (N:Nat)(a1:Int)(a0:(List Int)):Nat→Int→Option Int
 |0,_=>none
 |m3+1,p4=>bif decide (p4<(a0.length:Int)) then ((aH a0 p4).bind fun x6=>bif decide (a1=x6) then (some p4) else (bD (in64 (p4+1)) ((fz N a1 a0 m3) (p4+1)))) else (mR N)
def ko (N:Nat)(a0:(List Int))(a1:Int):Option Int:=
 fz N a1 a0 N 0
theorem sd {N:Nat}{a0:(List Int)}{a1:Int}{r:Int}(h:ko N a0 a1=some r):Okc Tryz.prog 213 [I A1 n1 c1,iV a1] ([eM A1 n1 c1 a0]) (fun u post=>u=iV r∧post=[]):=by
 refine bx Tryz.func213 J J ?_;simp only [aU];refine V ?_;refine aP (fun s L=>mR N=some r∧s=[(4,iV 0)]∧L=[]) ?_ ?_
 ·refine V ?_;refine gR (aG 0 J ae J hU) ?_;refine V ?_;refine aZ (fun m s L=> ∃p4,fz N a1 a0 m p4=some r∧s=[(0,I A1 n1 c1),(1,iV a1),(4,iV 0),(7,iV (a0.length:Int)),(8,iV p4)]∧L=[eM A1 n1 c1 a0]) N _ _ ⟨0,h,J,J⟩ sA (cS [0] 1) ?_;rintro (_|m3) _ _ ⟨p4,h,rfl,rfl⟩
  ·exact az h
  rw [fz.eq_2] at h;refine V ?_;refine ay ?_;refine aq J (fun g5=> ?_) (fun g5=> ?_)
  ·replace h:=ag g5 h;refine V ?_;refine ay ?_;refine V ?_;obtain ⟨x6,hx6,h⟩:=aa h;obtain ⟨lx6,ux6,hx6⟩:=aj hx6;refine gR (aB 0 J ae J J hU dj lx6 ux6) ?_;refine gR (aW (u:=iV x6) 0 J ae J hx6 cM (fun _ _ _ h=>by rw [show _=_ from h];rfl)) ?_;refine V ?_;refine aq J (fun g7=> ?_) (fun g7=> ?_)
   ·replace h:=ag g7 h;refine V ?_;obtain rfl:=ao h;exact aL J J (cS [] 1) ⟨J,J⟩
   replace h:=ah g7 h;refine V ?_;obtain ⟨q8,h⟩:=am h;refine gE (aT J J q8.1 q8.2) ?_;refine V ?_;exact ⟨m3,_,_,GD _,⟨p4+1,h,J,J⟩,sA,cS [0] 1⟩
  replace h:=ah g5 h;refine V ?_;exact ⟨_,_,⟨h,J,J⟩,sA,cS [] 1⟩
 rintro _ _ ⟨h,rfl,rfl⟩;refine V ?_;obtain rfl:=ao h;exact aL J J (cS [] 0) ⟨J,J⟩
theorem qa {r:Int}: ∀v post,((fun (u:Value) (post:List Chunk)=>u=iV r∧post=[])) v post→ ∀c∈post,bR c:=by
 rintro _ _ ⟨rfl,rfl⟩;exact ai
def ey (N:Nat)(a0:(List Int))(a1:Int):Option Bool:=
 (ko N a0 a1).bind fun y2=>some (decide (0≤y2))
theorem kp {N:Nat}{a0:(List Int)}{a1:Int}{r:Bool}(h:ey N a0 a1=some r):Okc Tryz.prog 139 [I A1 n1 c1,iV a1] ([eM A1 n1 c1 a0]) (fun u post=>u=.bool r∧post=[]):=by
 refine bx Tryz.func139 J J ?_;simp only [aU];refine V ?_;obtain ⟨y2,hy2,h⟩:=aa h;refine gD (ak (sd hy2) Dq J (hJ (ap (i:=0) J J) ai) qa) ?_;rintro _ _ ⟨_,⟨rfl,rfl⟩,rfl⟩;refine V ?_;obtain rfl:=ao h;exact aL J J (cS [] 1) ⟨J,J⟩
theorem jt {r:Bool}: ∀v post,((fun (u:Value) (post:List Chunk)=>u=.bool r∧post=[])) v post→ ∀c∈post,bR c:=by
 rintro _ _ ⟨rfl,rfl⟩;exact ai
def ed (N:Nat)(a1:(List Int))(x12:Gu×Gu):((List Int))→Option (Option Exit×(List Int))
 |p13=>(bif decide (x12.2.Kind=7) then (some true) else (some (decide (x12.2.Kind=9)))).bind fun b18=>(bif b18 then ((ey N a1 x12.1.N).bind fun y20=>some y20) else (some false)).bind fun b19=>bif b19 then (bD (bN (p13.length+([x12.2.N]:List Int).length)) (some (none,p13++([x12.2.N]:List Int)))) else (some (none,p13))
def jW (N:Nat)(a0:Gw)(a1:(List Int)):Option (List Int):=
 (lR N a0).bind fun y6=>bif !y6 then (some []) else ((fX N a0).bind fun y10=>(ex N a0 (bW (fun x st=>ed N a1 x st)) (none,[])).bind fun y14=>lw y14.1 (some y14.2) none (fun _=>none))
set_option maxHeartbeats 4000000 in
theorem ui {N:Nat}{a0:Gw}{a1:(List Int)}{r:(List Int)}(h:jW N a0 a1=some r):Okc Tryz.prog 181 [.agg #[iV a0.Kind,iV a0.Shape,iV a0.Flags,iV a0.Age,I A1 n1 c1,I A2 n2 c2],I A3 n3 c3] ([aS A1 n1 c1 a0.Slots,aS A2 n2 c2 a0.More,eM A3 n3 c3 a1]) (fun u post=> ∃A0 n0 c0,u=I A0 n0 c0∧post=[cc A0 n0 c0 r]):=by
 refine bx Tryz.func181 J J ?_;simp only [aU];refine V ?_;refine gD (aX J J) ?_;rintro _ _ ⟨B4,rfl,rfl⟩;refine gD (aX J J) ?_;rintro _ _ ⟨B5,rfl,rfl⟩;refine V ?_;refine ay ?_;refine V ?_;refine gR (aC (us:=[iV a0.Kind,iV a0.Shape,iV a0.Flags,iV a0.Age,I A1 n1 c1,I A2 n2 c2]) 1 J J bo J) ?_;obtain ⟨y6,hy6,h⟩:=aa h;refine gD (ak (sM hy6) zN J (hJ (ap (i:=2) J J) (hJ (ap (i:=3) J J) ai)) pY) ?_;rintro _ _ ⟨_,⟨rfl,rfl⟩,rfl⟩;refine V ?_;refine aq J (fun g7=> ?_) (fun g7=> ?_)
 ·replace h:=ag g7 h;refine V ?_;obtain rfl:=ao h;exact aL J J ((bL (dn .i64) 3 _).trans (cS [0] 6)) ⟨_,_,_,J,J⟩
 replace h:=ah g7 h;refine V ?_;refine gD (aM sJ J) ?_;rintro _ _ ⟨B9,rfl,rfl⟩;refine V ?_;refine ay ?_;refine V ?_;refine gR (aC (us:=[iV a0.Kind,iV a0.Shape,iV a0.Flags,iV a0.Age,I A1 n1 c1,I A2 n2 c2]) 2 J J bo J) ?_;obtain ⟨y10,hy10,h⟩:=aa h;refine gD (ak (mQ hy10) zG J (hJ (ap (i:=3) J J) (hJ (ap (i:=4) J J) ai)) kW) ?_;rintro _ _ ⟨_,⟨B11,rfl,rfl⟩,rfl⟩;refine mj ?_;refine jB ?_;refine dP ?_ bH (fP 0 J);obtain ⟨y14,hy14,h⟩:=aa h;refine kS (en:=(fun x=> [(bd x.1),(bd x.2)])) (fun x st=>ed N a1 x st) (fun (st:(List Int)) (mz:((Option Addr×Nat×Nat)))=> [eM A3 n3 c3 a1,aw B5 23 [I A3 n3 c3],dQ (dn .i64) 3 (.slice mz.1 mz.2.1 mz.2.2) st,aw B9 23 [.slice mz.1 mz.2.1 mz.2.2]]) [cR B11 47 [iV a0.Kind,iV a0.Shape,iV a0.Flags,iV a0.Age,I A1 n1 c1,I A2 n2 c2],aS A1 n1 c1 a0.Slots,aS A2 n2 c2 a0.More] ([]) ((none,0,0)) J J zC J (fun _=>J) (fun l G hY=>(kk hy14 hY).mono fun _ _ hh=>hh.2) ((bL (dn .i64) 3 _).trans (bq [1,5,6] [] [7,3,0,2] 8 J)) h ?_ ?_ ?_ ?_
 ·rintro l x12 p13 je sr12 ⟨A13,n13,c13⟩ h;replace h:ed N a1 x12 p13=some (je,sr12):=h;simp only [pJ,List.zip_cons_cons,List.zip_nil_left,List.zip_nil_right,List.reverse_cons,List.reverse_nil,List.nil_append,List.cons_append];refine V ?_;refine gD (aM gr J) ?_;rintro _ _ ⟨B16,rfl,rfl⟩;refine gO (au (us:=ar x12.1) (cs':=ar x12.1) 0 J J J J aI J J J) ?_;rintro _ _ rfl;refine V ?_;refine gD (aM gr J) ?_;rintro _ _ ⟨B17,rfl,rfl⟩;refine gO (au (us:=ar x12.2) (cs':=ar x12.2) 0 J J J J aI J J J) ?_;rintro _ _ rfl;refine bX ?_;refine V ?_;obtain ⟨b18,hb18,h⟩:=aa h;refine aD 4 22 b18 ?_ ?_
  ·clear h;refine aE 18 J (fun g18=> ?_) (fun g18=> ?_)
   ·have h:=ag g18 hb18;refine V ?_;obtain rfl:=ao h;exact ad sA (cS [0,1,2,3,4,5] 6)
   have h:=ah g18 hb18;refine V ?_;obtain rfl:=ao h;exact ad sA (cS [0,1,2,3,4,5] 6)
  refine V ?_;obtain ⟨b19,hb19,h⟩:=aa h;refine aD 5 28 b19 ?_ ?_
  ·clear h;refine aE 23 J (fun g19=> ?_) (fun g19=> ?_)
   ·have h:=ag g19 hb19;refine V ?_;obtain ⟨y20,hy20,h⟩:=aa h;refine ca (ak (kp hy20) zT J (hJ (ap (i:=2) J J) ai) jt) J (aO g19 J) J ?_;rintro _ _ ⟨_,⟨rfl,rfl⟩,rfl⟩;refine V ?_;obtain rfl:=ao h;exact ad sA (cS [0,1,2,3,4,5] 6)
   have h:=ah g19 hb19;refine V ?_;obtain rfl:=ao h;exact ad sA (cS [0,1,2,3,4,5] 6)
  refine V ?_;refine aq J (fun g21=> ?_) (fun g21=> ?_)
  ·replace h:=ag g21 h;refine V ?_;refine gD (aN (R:=(dn .i64)) (vss:=[[iV x12.2.N]]) (xs:=[x12.2.N]) J (dO _) J J (fun _ _ hr=> .cons J All2.nil)) ?_;rintro _ _ ⟨A22,n22,c22,rfl,rfl⟩;obtain ⟨q23,h⟩:=am h;refine gD (ba 5 0 J J aJ J J hU uE J J q23) ?_;rintro _ _ ⟨A24,n24,c24,rfl,rfl⟩;refine gO (au (us:=[I A24 n24 c24]) (cs':=[I A24 n24 c24]) 6 J J J J mp J J J) ?_;rintro _ _ rfl;refine V ?_;obtain ⟨rfl,rfl⟩:=Prod.mk.inj (Option.some.inj h);exact rv ((cS [3,4,5,6] 7).trans (dm (A24,n24,c24) J))
  replace h:=ah g21 h;refine V ?_;obtain ⟨rfl,rfl⟩:=Prod.mk.inj (Option.some.inj h);exact rv ((cS [2,3,4,5] 6).trans (dm (A13,n13,c13) J))
 ·rintro ⟨A13,n13,c13⟩ h;refine iR ([eM A3 n3 c3 a1,aw B5 23 [I A3 n3 c3],cc A13 n13 c13 y14.2,aw B9 23 [I A13 n13 c13]]) J ?_;refine V ?_;obtain rfl:=ao h;exact aL J J (cS [2] 4) ⟨_,_,_,J,J⟩
 ·rintro ⟨A13,n13,c13⟩ h;exact az h
 rintro i ⟨A13,n13,c13⟩ h;exact az h
theorem r9 {r:(List Int)}: ∀v post,((fun (u:Value) (post:List Chunk)=> ∃A0 n0 c0,u=I A0 n0 c0∧post=[cc A0 n0 c0 r])) v post→ ∀c∈post,bR c:=by
 rintro _ _ ⟨_,_,_,rfl,rfl⟩;exact hJ bm (ai)
def la (N:Nat)(a0:Gy)(p7:(List Gw))(p8:(List Gw))(p9:(List Int))(p10:(List (Int×Unit)))(p11:Int):Option (Bool×Gy):=
 some (decide ((a0.all_.length:Int)<(p9.length:Int)),(⟨(⟨p7,p8⟩:Gx),p9,p10,p11⟩:Gy))
def ft (N:Nat)(kb13:Int→(List Gw)→(List Gw)→(List Int)→(List (Int×Unit))→Int→Option (Bool×Gy))(a0:Gy)(p14:Int)(p22:(List Gw))(p23:(List Gw))(p24:(List Int))(p25:(List (Int×Unit)))(p26:Int):Option (Bool×Gy):=
 bD (in64 (p14+1)) (kb13 (p14+1) p22 p23 p24 p25 p26)
def cj (N:Nat)(a0:Gy):Nat→Int→(List Gw)→(List Gw)→(List Int)→(List (Int×Unit))→Int→Option (Bool×Gy)
 |0,_,_,_,_,_,_=>none
 |m13+1,p14,p15,p16,p17,p18,p19=>bif decide (p14<((List.take a0.all_.length a0.all_).length:Int)) then ((aH (List.take a0.all_.length p17) p14).bind fun x27=>(dF N (⟨p15,p16⟩:Gx) x27).bind fun y28=>bif decide (y28.Kind=8) then ((jW N y28 p17).bind fun y33=>(cO N (⟨(⟨p15,p16⟩:Gx),p17,p18,p19⟩:Gy) y33).bind fun y35=>ft N (cj N a0 m13) a0 p14 y35.m_.Young y35.m_.Old y35.all_ y35.met_ y35.done_) else (ft N (cj N a0 m13) a0 p14 p15 p16 p17 p18 p19)) else (la N a0 p15 p16 p17 p18 p19)
def eW (N:Nat)(a0:Gy):Option (Bool×Gy):=
 cj N a0 N 0 a0.m_.Young a0.m_.Old a0.all_ a0.met_ a0.done_
set_option maxHeartbeats 4000000 in
theorem qc {N:Nat}{a0:Gy}{r:(Bool×Gy)}(h:eW N a0=some r):Okc Tryz.prog 108 [pV B1 0] ([br A2 n2 c2 a0.m_.Young,br A3 n3 c3 a0.m_.Old,aw B1 128 [I A2 n2 c2,I A3 n3 c3,I A4 n4 c4,.map (some M5),iV a0.done_],cc A4 n4 c4 a0.all_,dN kN rW M5 a0.met_]) (fun u post=> ∃A0 n0 c0 A1 n1 c1 A2 n2 c2 M3,u=.bool r.1∧post=[aw B1 128 [I A0 n0 c0,I A1 n1 c1,I A2 n2 c2,.map (some M3),iV r.2.done_],br A0 n0 c0 r.2.m_.Young,br A1 n1 c1 r.2.m_.Old,cc A2 n2 c2 r.2.all_,dN kN rW M3 r.2.met_]):=by
 refine bx Tryz.func108 J J ?_;simp only [aU];refine V ?_;refine gR (aG 3 J aJ J hU) ?_;refine V ?_;refine aP (fun s L=> ∃p7 p8 p9 p10 p11 A7 n7 c7 A8 n8 c8 A9 n9 c9 M10,la N a0 p7 p8 p9 p10 p11=some r∧s=[(0,pV B1 0),(2,.bool false),(3,iV (a0.all_.length:Int))]∧L=[br A7 n7 c7 p7,br A8 n8 c8 p8,cc A9 n9 c9 p9,dN kN rW M10 p10,aw B1 128 [I A7 n7 c7,I A8 n8 c8,I A9 n9 c9,.map (some M10),iV p11]]) ?_ ?_
 ·refine El ?_;refine Bk ?_;refine kT (BZ 3 J) ?_;refine gD (C1 (n:=a0.all_.length) 3 J J hU dj J J J (Nat.le_refl _)) ?_;rintro _ _ ⟨A12,rfl,rfl⟩;refine gR (aG 3 J tX J hU) ?_;refine V ?_;refine aZ (fun m s L=> ∃p14 p15 p16 p17 p18 p19 A15 n15 c15 A16 n16 c16 A17 n17 c17 M18,cj N a0 m p14 p15 p16 p17 p18 p19=some r∧s=[(0,pV B1 0),(2,.bool false),(3,iV (a0.all_.length:Int)),(18,.slice A12 a0.all_.length a0.all_.length),(19,iV ((List.take a0.all_.length a0.all_).length:Int)),(20,iV p14)]∧L=[br A15 n15 c15 p15,br A16 n16 c16 p16,gc (dn .i64) 3 (I A17 n17 c17) p17 (.slice A12 a0.all_.length a0.all_.length) a0.all_.length,dN kN rW M18 p18,aw B1 128 [I A15 n15 c15,I A16 n16 c16,I A17 n17 c17,.map (some M18),iV p19]]) N _ _ ⟨0,a0.m_.Young,a0.m_.Old,a0.all_,a0.met_,a0.done_,A2,n2,c2,A3,n3,c3,A4,n4,c4,M5,h,J,J⟩ sA (cS [0,1,3,4,2] 5) ?_;rintro (_|m13) _ _ ⟨p14,p15,p16,p17,p18,p19,A15,n15,c15,A16,n16,c16,A17,n17,c17,M18,h,rfl,rfl⟩
  ·exact az h
  rw [cj.eq_2] at h;refine V ?_;refine ay ?_;refine aq J (fun g20=> ?_) (fun g20=> ?_)
  ·replace h:=ag g20 h;refine V ?_;refine aP (fun s L=> ∃p22 p23 p24 p25 p26 A22 n22 c22 A23 n23 c23 A24 n24 c24 M25,ft N (cj N a0 m13) a0 p14 p22 p23 p24 p25 p26=some r∧s=[(0,pV B1 0),(2,.bool false),(3,iV (a0.all_.length:Int)),(18,.slice A12 a0.all_.length a0.all_.length),(19,iV ((List.take a0.all_.length a0.all_).length:Int)),(20,iV p14)]∧L=[br A22 n22 c22 p22,br A23 n23 c23 p23,gc (dn .i64) 3 (I A24 n24 c24) p24 (.slice A12 a0.all_.length a0.all_.length) a0.all_.length,dN kN rW M25 p25,aw B1 128 [I A22 n22 c22,I A23 n23 c23,I A24 n24 c24,.map (some M25),iV p26]]) ?_ ?_
   ·refine V ?_;obtain ⟨x27,hx27,h⟩:=aa h;obtain ⟨lx27,ux27,hx27⟩:=aj hx27;refine gR (aB 2 J tX J J hU dj lx27 ux27) ?_;refine gR (aW (u:=iV x27) 2 J tX J hx27 cM (fun _ _ _ h=>by rw [show _=_ from h];rfl)) ?_;refine V ?_;refine gR (aC (us:=[I A15 n15 c15,I A16 n16 c16]) 4 J J cu J) ?_;refine V ?_;obtain ⟨y28,hy28,h⟩:=aa h;refine gD (ak (nB hy28) yU J (hJ (ap (i:=0) J J) (hJ (ap (i:=1) J J) ai)) lA) ?_;rintro _ _ ⟨_,⟨A29,n29,c29,A30,n30,c30,rfl,rfl⟩,rfl⟩;refine gD (aM dD J) ?_;rintro _ _ ⟨B31,rfl,rfl⟩;refine gO (au (us:=[iV y28.Kind,iV y28.Shape,iV y28.Flags,iV y28.Age,I A29 n29 c29,I A30 n30 c30]) (cs':=[iV y28.Kind,iV y28.Shape,iV y28.Flags,iV y28.Age,I A29 n29 c29,I A30 n30 c30]) 0 J J J J bu J J J) ?_;rintro _ _ rfl;refine bX ?_;refine V ?_;refine aq J (fun g32=> ?_) (fun g32=> ?_)
    ·replace h:=ag g32 h;refine dP (t:=[(0,pV B1 0),(2,.bool false),(3,iV (a0.all_.length:Int)),(6,pV B31 0),(18,.slice A12 a0.all_.length a0.all_.length),(19,iV ((List.take a0.all_.length a0.all_).length:Int)),(20,iV p14)]) ?_ gA (ab _)
     refine eR O 6 [0] [0,1,5] [33,34,35,36,37,38] [[],[],[],[2],[3],[4]] [aV (pV B1 0),
 aV (.agg #[iV y28.Kind,iV y28.Shape,iV y28.Flags,iV y28.Age,I A29 n29 c29,I A30 n30 c30]),
 aV (pV B1 0),
 aV (pV B1 0),
 aV (pV B1 2),
 aV (I A17 n17 c17)] [] (ab _) (lm rfl gu) O rfl rfl ?_ ?_ ?_
     ·refine ll J ?_ ?_
      ·exact r7 (ax J) J (aA J (ab _))
      exact gt
     ·refine ac J ?_ ?_
      ·exact bT (aR 7 J J ln J) J (aA J (ab _))
      refine ac J ?_ ?_
      ·exact bh (bQ J qI) J (aA J (ab _))
      refine ac J ?_ ?_
      ·exact bh (ge J) J (aA J (ab _))
      refine ac J ?_ ?_
      ·exact bh (ax J) J (aA J (ab _))
      refine ac J ?_ ?_
      ·exact bT (aC (us:=[iV y28.Kind,iV y28.Shape,iV y28.Flags,iV y28.Age,I A29 n29 c29,I A30 n30 c30]) 0 J J bo J) J (aA J (ab _))
      refine ac J ?_ ?_
      ·exact bh (ax J) J (aA J (ab _))
      exact dh
     refine gP (t:=[(33,pV B1 0),(34,.agg #[iV y28.Kind,iV y28.Shape,iV y28.Flags,iV y28.Age,I A29 n29 c29,I A30 n30 c30]),(38,I A17 n17 c17),(0,pV B1 0),(2,.bool false),(3,iV (a0.all_.length:Int)),(6,pV B31 0),(18,.slice A12 a0.all_.length a0.all_.length),(19,iV ((List.take a0.all_.length a0.all_).length:Int)),(20,iV p14)]) (L':=[aw B31 47 [iV y28.Kind,iV y28.Shape,iV y28.Flags,iV y28.Age,I A29 n29 c29,I A30 n30 c30],cB A29 n29 c29 y28.Slots,cB A30 n30 c30 y28.More,br A15 n15 c15 p15,br A16 n16 c16 p16,gc (dn .i64) 3 (I A17 n17 c17) p17 (.slice A12 a0.all_.length a0.all_.length) a0.all_.length,dN kN rW M18 p18,aw B1 128 [I A15 n15 c15,I A16 n16 c16,I A17 n17 c17,.map (some M18),iV p19]]) ?_ gA (ab _);obtain ⟨y33,hy33,h⟩:=aa h;refine kR 6 J O (ak (ui hy33) DD J (hJ (be (i:=1) J) (hJ (be (i:=2) J) (hJ (AD (i:=5) J) ai))) r9) J J J ?_;rintro _ _ ⟨_,⟨A34,n34,c34,rfl,rfl⟩,rfl⟩;refine gP ?_ bH (cg 0 J);obtain ⟨y35,hy35,h⟩:=aa h;refine kR 7 J O (cw (py hy35) wA J (bq [4,5,0] [8,6,7] [0,1,2,3,4,5] 9 J)) J J J ?_;rintro _ _ ⟨_,⟨A36,n36,c36,A37,n37,c37,A38,n38,c38,M39,rfl,rfl⟩,rfl⟩;refine gx O ?_;refine V ?_;exact ⟨_,_,⟨y35.m_.Young,y35.m_.Old,y35.all_,y35.met_,y35.done_,A36,n36,c36,A37,n37,c37,A38,n38,c38,M39,h,J,J⟩,sA,cS [1,2,3,4,0] 11⟩
    replace h:=ah g32 h;refine V ?_;exact ⟨_,_,⟨p15,p16,p17,p18,p19,A15,n15,c15,A16,n16,c16,A17,n17,c17,M18,h,J,J⟩,sA,cS [3,4,5,6,7] 8⟩
   rintro _ _ ⟨p22,p23,p24,p25,p26,A22,n22,c22,A23,n23,c23,A24,n24,c24,M25,h,rfl,rfl⟩;refine dA ?_;obtain ⟨q40,h⟩:=am h;refine gE (aT J J q40.1 q40.2) ?_;refine V ?_;exact ⟨m13,_,_,GD _,⟨p14+1,p22,p23,p24,p25,p26,A22,n22,c22,A23,n23,c23,A24,n24,c24,M25,h,J,J⟩,sA,cS [0,1,2,3,4] 5⟩
  replace h:=ah g20 h;refine V ?_;exact ⟨_,_,⟨p15,p16,p17,p18,p19,A15,n15,c15,A16,n16,c16,A17,n17,c17,M18,h,J,J⟩,sA,(AO 2 J).trans (cS [0,1,2,3,4] 5)⟩
 rintro _ _ ⟨p7,p8,p9,p10,p11,A7,n7,c7,A8,n8,c8,A9,n9,c9,M10,h,rfl,rfl⟩;refine V ?_;refine gR (aG 2 J aJ J hU) ?_;refine V ?_;obtain rfl:=ao h;exact aL J J (cS [4,0,1,2,3] 5) ⟨_,_,_,_,_,_,_,_,_,_,J,J⟩
def jH (N:Nat)(p12:(List Gw))(p13:(List Gw))(p14:(List Int))(p15:(List (Int×Unit)))(p16:Int):Option (List Int):=
 some p14
def fB (N:Nat):Nat→(List Gw)→(List Gw)→(List Int)→(List (Int×Unit))→Int→Option (List Int)
 |0,_,_,_,_,_=>none
 |m17+1,p18,p19,p20,p21,p22=>(eW N (⟨(⟨p18,p19⟩:Gx),p20,p21,p22⟩:Gy)).bind fun y23=>bif y23.1 then ((dK N y23.2).bind fun y29=>(fB N m17) y29.m_.Young y29.m_.Old y29.all_ y29.met_ y29.done_) else (jH N y23.2.m_.Young y23.2.m_.Old y23.2.all_ y23.2.met_ y23.2.done_)
def co (N:Nat)(a0:Gx)(a1:(List Gu)):Option (List Int):=
 (fH N a0 a1).bind fun y5=>fB N N y5.m_.Young y5.m_.Old y5.all_ y5.met_ y5.done_
theorem td {N:Nat}{a0:Gx}{a1:(List Gu)}{r:(List Int)}(h:co N a0 a1=some r):Okc Tryz.prog 39 [.agg #[I A1 n1 c1,I A2 n2 c2],I A3 n3 c3] ([br A1 n1 c1 a0.Young,br A2 n2 c2 a0.Old,aS A3 n3 c3 a1]) (fun u post=> ∃A0 n0 c0,u=I A0 n0 c0∧post=[cc A0 n0 c0 r]):=by
 refine bx Tryz.func39 J J ?_;simp only [aU];refine V ?_;refine gD (aX J J) ?_;rintro _ _ ⟨B4,rfl,rfl⟩;refine V ?_;refine gR (aC (us:=[I A1 n1 c1,I A2 n2 c2]) 0 J J cu J) ?_;refine V ?_;obtain ⟨y5,hy5,h⟩:=aa h;refine gD (cw (ta hy5) DV J (bq [1,2,3] [] [0,1,2,3] 4 J)) ?_;rintro _ _ ⟨_,⟨B6,A7,n7,c7,A8,n8,c8,A9,n9,c9,M10,rfl,rfl⟩,rfl⟩;refine V ?_;refine aP (fun s L=> ∃p12 p13 p14 p15 p16 A12 n12 c12 A13 n13 c13 A14 n14 c14 M15,jH N p12 p13 p14 p15 p16=some r∧s=[(4,I none 0 0),(5,pV B6 0)]∧L=[br A12 n12 c12 p12,br A13 n13 c13 p13,cc A14 n14 c14 p14,dN kN rW M15 p15,aw B6 128 [I A12 n12 c12,I A13 n13 c13,I A14 n14 c14,.map (some M15),iV p16]]) ?_ ?_
 ·refine cQ ?_;refine aZ (fun m s L=> ∃p18 p19 p20 p21 p22 A18 n18 c18 A19 n19 c19 A20 n20 c20 M21,fB N m p18 p19 p20 p21 p22=some r∧s=[(4,I none 0 0),(5,pV B6 0)]∧L=[br A18 n18 c18 p18,br A19 n19 c19 p19,cc A20 n20 c20 p20,dN kN rW M21 p21,aw B6 128 [I A18 n18 c18,I A19 n19 c19,I A20 n20 c20,.map (some M21),iV p22]]) N _ _ ⟨y5.m_.Young,y5.m_.Old,y5.all_,y5.met_,y5.done_,A7,n7,c7,A8,n8,c8,A9,n9,c9,M10,h,J,J⟩ sA (cS [1,2,3,4,0] 9) ?_;rintro (_|m17) _ _ ⟨p18,p19,p20,p21,p22,A18,n18,c18,A19,n19,c19,A20,n20,c20,M21,h,rfl,rfl⟩
  ·exact az h
  rw [fB.eq_2] at h;refine ay ?_;refine V ?_;obtain ⟨y23,hy23,h⟩:=aa h;refine gD (cw (qc hy23) DS J (bq [0,1] [4,2,3] [0,1] 5 J)) ?_;rintro _ _ ⟨_,⟨A24,n24,c24,A25,n25,c25,A26,n26,c26,M27,rfl,rfl⟩,rfl⟩;refine V ?_;refine aq J (fun g28=> ?_) (fun g28=> ?_)
  ·replace h:=ag g28 h;refine V ?_;obtain ⟨y29,hy29,h⟩:=aa h;refine gD (cw (ju hy29) zW J (bq [1,2] [0,3,4] [1,2,5,6] 7 J)) ?_;rintro _ _ ⟨_,⟨A30,n30,c30,A31,n31,c31,A32,n32,c32,M33,rfl,rfl⟩,rfl⟩;refine bX ?_;refine V ?_;exact ⟨m17,_,_,GD _,⟨y29.m_.Young,y29.m_.Old,y29.all_,y29.met_,y29.done_,A30,n30,c30,A31,n31,c31,A32,n32,c32,M33,h,J,J⟩,sA,cS [1,2,3,4,0] 9⟩
  replace h:=ah g28 h;refine V ?_;exact ⟨_,_,⟨y23.2.m_.Young,y23.2.m_.Old,y23.2.all_,y23.2.met_,y23.2.done_,A24,n24,c24,A25,n25,c25,A26,n26,c26,M27,h,J,J⟩,sA,cS [1,2,3,4,0] 7⟩
 rintro _ _ ⟨p12,p13,p14,p15,p16,A12,n12,c12,A13,n13,c13,A14,n14,c14,M15,h,rfl,rfl⟩;refine V ?_;obtain rfl:=ao h;exact aL J J (cS [2] 5) ⟨_,_,_,J,J⟩
theorem qW {r:(List Int)}: ∀v post,((fun (u:Value) (post:List Chunk)=> ∃A0 n0 c0,u=I A0 n0 c0∧post=[cc A0 n0 c0 r])) v post→ ∀c∈post,bR c:=by
 rintro _ _ ⟨_,_,_,rfl,rfl⟩;exact hJ bm (ai)
def cv (N:Nat)(a0:Gx)(a1:(List Gu)):Option (List Int):=
 (co N a0 a1).bind fun y5=>(gB N y5).bind fun y7=>some y7
theorem oZ {N:Nat}{a0:Gx}{a1:(List Gu)}{r:(List Int)}(h:cv N a0 a1=some r):Okc Tryz.prog 37 [.agg #[I A1 n1 c1,I A2 n2 c2],I A3 n3 c3] ([br A1 n1 c1 a0.Young,br A2 n2 c2 a0.Old,aS A3 n3 c3 a1]) (fun u post=> ∃A0 n0 c0,u=I A0 n0 c0∧post=[cc A0 n0 c0 r]):=by
 refine bx Tryz.func37 J J ?_;simp only [aU];refine V ?_;refine gD (aX J J) ?_;rintro _ _ ⟨B4,rfl,rfl⟩;refine V ?_;refine gR (aC (us:=[I A1 n1 c1,I A2 n2 c2]) 0 J J cu J) ?_;refine V ?_;obtain ⟨y5,hy5,h⟩:=aa h;refine gD (ak (td hy5) EL J (hJ (ap (i:=1) J J) (hJ (ap (i:=2) J J) (hJ (ap (i:=3) J J) ai))) qW) ?_;rintro _ _ ⟨_,⟨A6,n6,c6,rfl,rfl⟩,rfl⟩;refine V ?_;obtain ⟨y7,hy7,h⟩:=aa h;refine gD (cw (sS hy7) DT J (bq [] [0] [1,2,3,4] 5 J)) ?_;rintro _ _ ⟨_,⟨rfl,rfl⟩,rfl⟩;refine V ?_;obtain rfl:=ao h;exact aL J J (cS [0] 5) ⟨_,_,_,J,J⟩
theorem mW {r:(List Int)}: ∀v post,((fun (u:Value) (post:List Chunk)=> ∃A0 n0 c0,u=I A0 n0 c0∧post=[cc A0 n0 c0 r])) v post→ ∀c∈post,bR c:=by
 rintro _ _ ⟨_,_,_,rfl,rfl⟩;exact hJ bm (ai)
def iF (N:Nat){σ:Type}(kb4:Int→Int→σ→Option σ)(fy:(Int×Int)→σ→Option (Bool×σ))(p6:Int)(a1:(List Int))(p10:Int)(p11:σ):Option σ:=
 bD (in64 (p6+1)) (kb4 p10 (p6+1) p11)
def fw (N:Nat){σ:Type}(kb4:Int→Int→σ→Option σ)(kb13:Int→Int→σ→Option σ)(fy:(Int×Int)→σ→Option (Bool×σ))(x12:Int)(p6:Int)(a1:(List Int))(p15:Int)(p19:Int)(p20:σ):Option σ:=
 bD (in64 (p15+1)) (kb13 p19 (p15+1) p20)
def bS (N:Nat){σ:Type}(kb4:Int→Int→σ→Option σ)(fy:(Int×Int)→σ→Option (Bool×σ))(x12:Int)(p6:Int)(a1:(List Int)):Nat→Int→Int→σ→Option σ
 |0,_,_,_=>none
 |m13+1,p14,p15,p16=>bif decide (p15<(a1.length:Int)) then ((aH a1 p15).bind fun x21=>bif !decide (x21.tmod 2=x12) then (fw N kb4 (bS N kb4 fy x12 p6 a1 m13) fy x12 p6 a1 p15 p14 p16) else ((fy (p14,x21) p16).bind fun y23=>bif !y23.1 then (some y23.2) else (bD (in64 (p14+1)) (fw N kb4 (bS N kb4 fy x12 p6 a1 m13) fy x12 p6 a1 p15 (p14+1) y23.2)))) else (iF N kb4 fy p6 a1 p14 p16)
def df (N:Nat){σ:Type}(fy:(Int×Int)→σ→Option (Bool×σ))(a1:(List Int)):Nat→Int→Int→σ→Option σ
 |0,_,_,_=>none
 |m4+1,p5,p6,p7=>bif decide (p6<(([0,1]:List Int).length:Int)) then ((aH ([0,1]:List Int) p6).bind fun x12=>bS N (df N fy a1 m4) fy x12 p6 a1 N p5 0 p7) else (some p7)
def d7 (N:Nat){σ:Type}(a1:(List Int))(fy:(Int×Int)→σ→Option (Bool×σ))(s0:σ):Option σ:=
 df N fy a1 N 0 0 s0
set_option maxHeartbeats 4000000 in
theorem iE {N:Nat}{σ:Type}{a1:(List Int)}{fy:(Int×Int)→σ→Option (Bool×σ)}{s0:σ}{r:σ}(h:d7 N a1 fy s0=some r){l:Nat}{G:σ→List Chunk}(hY:lx Tryz.prog l G (fun x=> [iV x.1,iV x.2]) fy):Okc Tryz.prog 188 [.func (.yield l) #[] #[],pV B1 0] (cR B1 23 [I A2 n2 c2]::eM A2 n2 c2 a1::(G s0)) (fun u post=>u=.tuple #[]∧post=G r):=by
 refine bx Tryz.func188 J J ?_;simp only [aU];refine V ?_;refine gD (aN (R:=(dn .i64)) (vss:=[[iV 0],[iV 1]]) (xs:=[0,1]) J (ua _ _) J J (fun _ _ hr=> .cons J (.cons J All2.nil))) ?_;rintro _ _ ⟨A3,n3,c3,rfl,rfl⟩;refine gR (aG 0 J aJ J hU) ?_;refine V ?_;refine aZ (fun m s L=> ∃p5 p6 p7,df N fy a1 m p5 p6 p7=some r∧s=[(0,.func (.yield l) #[] #[]),(1,pV B1 0),(3,iV p5),(8,I A3 n3 c3),(9,iV (([0,1]:List Int).length:Int)),(10,iV p6)]∧L=cc A3 n3 c3 ([0,1]:List Int)::eM A2 n2 c2 a1::cR B1 23 [I A2 n2 c2]::(G p7)) N _ _ ⟨0,0,s0,h,J,J⟩ sA (cS [0,2,1] 3) ?_;rintro (_|m4) _ _ ⟨p5,p6,p7,h,rfl,rfl⟩
 ·exact az h
 rw [df.eq_2] at h;refine V ?_;refine ay ?_;refine aq J (fun g8=> ?_) (fun g8=> ?_)
 ·replace h:=ag g8 h;refine V ?_;refine aP (fun s L=> ∃p10 p11,iF N (df N fy a1 m4) fy p6 a1 p10 p11=some r∧s=[(0,.func (.yield l) #[] #[]),(1,pV B1 0),(3,iV p10),(8,I A3 n3 c3),(9,iV (([0,1]:List Int).length:Int)),(10,iV p6)]∧L=cc A3 n3 c3 ([0,1]:List Int)::eM A2 n2 c2 a1::cR B1 23 [I A2 n2 c2]::(G p11)) ?_ ?_
  ·refine V ?_;obtain ⟨x12,hx12,h⟩:=aa h;obtain ⟨lx12,ux12,hx12⟩:=aj hx12;refine gR (aB 0 J aJ J J hU dj lx12 ux12) ?_;refine gR (aW (u:=iV x12) 0 J aJ J hx12 cM (fun _ _ _ h=>by rw [show _=_ from h];rfl)) ?_;refine V ?_;refine gR (dL 2 J J ln J) ?_;refine gR (aG 1 J ae J hU) ?_;refine V ?_;refine aZ (fun m s L=> ∃p14 p15 p16,bS N (df N fy a1 m4) fy x12 p6 a1 m p14 p15 p16=some r∧s=[(0,.func (.yield l) #[] #[]),(1,pV B1 0),(3,iV p14),(5,iV x12),(8,I A3 n3 c3),(9,iV (([0,1]:List Int).length:Int)),(10,iV p6),(14,I A2 n2 c2),(15,iV (a1.length:Int)),(16,iV p15)]∧L=cc A3 n3 c3 ([0,1]:List Int)::eM A2 n2 c2 a1::cR B1 23 [I A2 n2 c2]::(G p16)) N _ _ ⟨p5,0,p7,h,J,J⟩ sA (cS [0,1,2] 3) ?_;rintro (_|m13) _ _ ⟨p14,p15,p16,h,rfl,rfl⟩
   ·exact az h
   rw [bS.eq_2] at h;refine V ?_;refine ay ?_;refine aq J (fun g17=> ?_) (fun g17=> ?_)
   ·replace h:=ag g17 h;refine V ?_;refine aP (fun s L=> ∃p19 p20,fw N (df N fy a1 m4) (bS N (df N fy a1 m4) fy x12 p6 a1 m13) fy x12 p6 a1 p15 p19 p20=some r∧s=[(0,.func (.yield l) #[] #[]),(1,pV B1 0),(3,iV p19),(5,iV x12),(8,I A3 n3 c3),(9,iV (([0,1]:List Int).length:Int)),(10,iV p6),(14,I A2 n2 c2),(15,iV (a1.length:Int)),(16,iV p15)]∧L=cc A3 n3 c3 ([0,1]:List Int)::eM A2 n2 c2 a1::cR B1 23 [I A2 n2 c2]::(G p20)) ?_ ?_
    ·refine V ?_;obtain ⟨x21,hx21,h⟩:=aa h;obtain ⟨lx21,ux21,hx21⟩:=aj hx21;refine gR (aB 1 J ae J J hU dj lx21 ux21) ?_;refine gR (aW (u:=iV x21) 1 J ae J hx21 cM (fun _ _ _ h=>by rw [show _=_ from h];rfl)) ?_;refine V ?_;refine ay ?_;refine V ?_;refine gE (lM J J (by decide)) ?_;refine V ?_;refine aq J (fun g22=> ?_) (fun g22=> ?_)
     ·replace h:=ag g22 h;refine V ?_;exact ⟨_,_,⟨p14,p16,h,J,J⟩,sA,cS [0,1,2] 3⟩
     replace h:=ah g22 h;refine V ?_;refine ay ?_;refine V ?_;obtain ⟨y23,hy23,h⟩:=aa h;refine gD (oA (a:=(p14,x21)) [cc A3 n3 c3 ([0,1]:List Int),eM A2 n2 c2 a1,cR B1 23 [I A2 n2 c2]] hY hy23 J J) ?_;rintro _ _ ⟨rfl,rfl⟩;refine V ?_;refine aq J (fun g24=> ?_) (fun g24=> ?_)
     ·replace h:=ag g24 h;refine V ?_;obtain rfl:=ao h;exact vo J (cS [] 3) ⟨J,J⟩
     replace h:=ah g24 h;refine V ?_;obtain ⟨q25,h⟩:=am h;refine gE (aT J J q25.1 q25.2) ?_;refine V ?_;exact ⟨_,_,⟨p14+1,y23.2,h,J,J⟩,sA,cS [0,1,2] 3⟩
    rintro _ _ ⟨p19,p20,h,rfl,rfl⟩;refine dA ?_;obtain ⟨q26,h⟩:=am h;refine gE (aT J J q26.1 q26.2) ?_;refine V ?_;exact ⟨m13,_,_,GD _,⟨p19,p15+1,p20,h,J,J⟩,sA,cS [0,1,2] 3⟩
   replace h:=ah g17 h;refine V ?_;exact ⟨_,_,⟨p14,p16,h,J,J⟩,sA,cS [0,1,2] 3⟩
  rintro _ _ ⟨p10,p11,h,rfl,rfl⟩;refine dA ?_;obtain ⟨q27,h⟩:=am h;refine gE (aT J J q27.1 q27.2) ?_;refine V ?_;exact ⟨m4,_,_,GD _,⟨p10,p6+1,p11,h,J,J⟩,sA,cS [0,1,2] 3⟩
 replace h:=ah g8 h;refine V ?_;obtain rfl:=ao h;exact lN J (cS [] 3) ⟨J,J⟩
def fO (N:Nat)(a0:(List Int)):Option Unit:=
 some ()
theorem kH {N:Nat}{a0:(List Int)}{r:Unit}(h:fO N a0=some r):Okc Tryz.prog 117 [I A1 n1 c1] ([eM A1 n1 c1 a0]) (fun u post=> ∃B900,u=.func (.func 188) #[] #[pV B900 0]∧post=[aw B900 23 [I A1 n1 c1]]):=by
 refine bx Tryz.func117 J J ?_;simp only [aU];refine V ?_;refine gD (aX J J) ?_;rintro _ _ ⟨B2,rfl,rfl⟩;refine V ?_;refine gE (fm J) ?_;refine V ?_;obtain rfl:=ao h;exact aL J J (cS [0] 2) ⟨_,J,J⟩
theorem i5 {A1:Option Addr}{n1:Nat}{c1:Nat}: ∀v post,((fun (u:Value) (post:List Chunk)=> ∃B900,u=.func (.func 188) #[] #[pV B900 0]∧post=[aw B900 23 [I A1 n1 c1]])) v post→ ∀c∈post,bR c:=by
 rintro _ _ ⟨_,rfl,rfl⟩;exact hJ mf (ai)
def eZ (N:Nat)(x11:Int×Int):((List Int)×(List Int))→Option (Option Exit×((List Int)×(List Int)))
 |(p12,p13)=>bD (bN (p12.length+([x11.2]:List Int).length)) (bD (in64 (2*x11.1)) (bD (in64 ((2*x11.1)+2)) (bD (bN (p13.length+([(2*x11.1)+2]:List Int).length)) (some (none,(p12++([x11.2]:List Int),p13++([(2*x11.1)+2]:List Int)))))))
def dx (N:Nat)(a0:Gx)(a1:(List Gu)):Option ((List Int)×(List Int)):=
 (cv N a0 a1).bind fun y7=>(fO N y7).bind fun y9=>(d7 N y7 (bW (fun x st=>eZ N x st)) (none,([],[]))).bind fun y14=>lw y14.1 (some (y14.2.1,y14.2.2)) none (fun _=>none)
theorem nb {N:Nat}{a0:Gx}{a1:(List Gu)}{r:((List Int)×(List Int))}(h:dx N a0 a1=some r):Okc Tryz.prog 46 [.agg #[I A1 n1 c1,I A2 n2 c2],I A3 n3 c3] ([br A1 n1 c1 a0.Young,br A2 n2 c2 a0.Old,aS A3 n3 c3 a1]) (fun u post=> ∃A0 n0 c0 A1 n1 c1,u=.tuple #[I A0 n0 c0,I A1 n1 c1]∧post=[cc A0 n0 c0 r.1,cc A1 n1 c1 r.2]):=by
 refine bx Tryz.func46 J J ?_;simp only [aU];refine V ?_;refine gD (aX J J) ?_;rintro _ _ ⟨B4,rfl,rfl⟩;refine gD (aM sJ J) ?_;rintro _ _ ⟨B5,rfl,rfl⟩;refine gD (aM sJ J) ?_;rintro _ _ ⟨B6,rfl,rfl⟩;refine V ?_;refine ay ?_;refine V ?_;refine gR (aC (us:=[I A1 n1 c1,I A2 n2 c2]) 2 J J cu J) ?_;refine V ?_;obtain ⟨y7,hy7,h⟩:=aa h;refine gD (ak (oZ hy7) Cl J (hJ (ap (i:=3) J J) (hJ (ap (i:=4) J J) (hJ (ap (i:=5) J J) ai))) mW) ?_;rintro _ _ ⟨_,⟨A8,n8,c8,rfl,rfl⟩,rfl⟩;obtain ⟨y9,hy9,h⟩:=aa h;refine gD (ak (kH hy9) wE J (hJ (be (i:=0) J) ai) i5) ?_;rintro _ _ ⟨_,⟨B10,rfl,rfl⟩,rfl⟩;refine mj ?_;refine jB ?_;refine dP ?_ bH (fP 0 J);refine dP ?_ bH (cg 1 J);obtain ⟨y14,hy14,h⟩:=aa h;refine kS (en:=(fun x=> [iV x.1,iV x.2])) (fun x st=>eZ N x st) (fun (st:(List Int)×(List Int)) (mz:((Option Addr×Nat×Nat)×(Option Addr×Nat×Nat)))=> [dQ (dn .i64) 3 (.slice mz.1.1 mz.1.2.1 mz.1.2.2) st.1,aw B5 23 [.slice mz.1.1 mz.1.2.1 mz.1.2.2],dQ (dn .i64) 3 (.slice mz.2.1 mz.2.2.1 mz.2.2.2) st.2,aw B6 23 [.slice mz.2.1 mz.2.2.1 mz.2.2.2]]) [cR B10 23 [I A8 n8 c8],eM A8 n8 c8 y7] (([],[])) (((none,0,0),(none,0,0))) J J wz J (fun _=>J) (fun l G hY=>(iE hy14 hY).mono fun _ _ hh=>hh.2) ((bL (dn .i64) 3 _).trans ((bL (dn .i64) 3 _).trans (bq [2,3] [] [1,5,0,4] 10 J))) h ?_ ?_ ?_ ?_
 ·rintro l x11 ⟨p12,p13⟩ je sr11 ⟨⟨A12,n12,c12⟩,⟨A13,n13,c13⟩⟩ h;replace h:eZ N x11 (p12,p13)=some (je,sr11):=h;simp only [pJ,List.zip_cons_cons,List.zip_nil_left,List.zip_nil_right,List.reverse_cons,List.reverse_nil,List.nil_append,List.cons_append];refine V ?_;obtain ⟨q19,h⟩:=am h;obtain ⟨q22,h⟩:=am h;obtain ⟨q23,h⟩:=am h;refine dP (t:=[(4,pV B5 0),(5,pV B6 0),(6,iV x11.1),(7,iV x11.2)]) ?_ gA (ab _)
  refine eR (L:=[aw B5 23 [I A12 n12 c12],cc A13 n13 c13 p13,aw B6 23 [I A13 n13 c13]]) O 9 [] [3,4,8] [14,15,16,17,18,19,20,21,22] [[],[],[1],[0,2],[],[],[5],[6],[7]] [aV (I A12 n12 c12),
 aV (iV x11.2),
 aX3 (fun (A18:Option Addr) (n18 c18:Nat)=> I A18 n18 c18) (fun A18 n18 c18=> [cc A18 n18 c18 ([x11.2]:List Int)]),
 aX3 (fun (A21:Option Addr) (n21 c21:Nat)=> I A21 n21 c21) (fun A21 n21 c21=> [cc A21 n21 c21 (p12++([x11.2]:List Int))]),
 aV (I A13 n13 c13),
 aV (iV x11.1),
 aV (iV (2*x11.1)),
 aV (iV ((2*x11.1)+2)),
 aX3 (fun (A25:Option Addr) (n25 c25:Nat)=> I A25 n25 c25) (fun A25 n25 c25=> [cc A25 n25 c25 ([(2*x11.1)+2]:List Int)])] [[],[],[],[cc A12 n12 c12 p12]] (cS [0,1,2,3] 4) (gu) O rfl rfl ?_ ?_ ?_
  ·exact gt
  ·refine ac J ?_ ?_
   ·refine fx (aN (R:=(dn .i64)) (vss:=[[iV ((2*x11.1)+2)]]) (xs:=[(2*x11.1)+2]) J (dO _) J J (fun _ _ hr=> .cons J All2.nil)) J ?_;rintro _ _ ⟨A24,n24,c24,rfl,rfl⟩;exact iT A24 n24 c24 (ab _)
   refine ac J ?_ ?_
   ·exact bh (aT J J q23.1 q23.2) J (aA J (ab _))
   refine ac J ?_ ?_
   ·exact bh (tW J J q22.1 q22.2) J (aA J (ab _))
   refine ac J ?_ ?_
   ·exact bh (ax J) J (aA J (ab _))
   refine ac J ?_ ?_
   ·exact bT (aR 2 J J ln J) J (aA J (ab _))
   refine ac J ?_ ?_
   ·intro A18 n18 c18;refine fx (ba 1 0 J J aJ J J hU uE J J q19) J ?_;rintro _ _ ⟨A20,n20,c20,rfl,rfl⟩;exact iT A20 n20 c20 (cS [1,0,2,3,4] 5)
   refine ac J ?_ ?_
   ·refine fx (aN (R:=(dn .i64)) (vss:=[[iV x11.2]]) (xs:=[x11.2]) J (dO _) J J (fun _ _ hr=> .cons J All2.nil)) J ?_;rintro _ _ ⟨A17,n17,c17,rfl,rfl⟩;exact iT A17 n17 c17 (ab _)
   refine ac J ?_ ?_
   ·exact bh (ax J) J (aA J (ab _))
   refine ac J ?_ ?_
   ·exact bT (aR 0 J J ln J) J (aA J (ab _))
   exact dh
  intro A21 n21 c21 A25 n25 c25;refine gP (t:=[(17,I A21 n21 c21),(18,I A13 n13 c13),(22,I A25 n25 c25),(4,pV B5 0),(5,pV B6 0),(6,iV x11.1),(7,iV x11.2)]) (L':=[cc A21 n21 c21 (p12++([x11.2]:List Int)),cc A25 n25 c25 ([(2*x11.1)+2]:List Int),aw B5 23 [I A12 n12 c12],cc A13 n13 c13 p13,aw B6 23 [I A13 n13 c13]]) ?_ gA (ab _);obtain ⟨q26,h⟩:=am h;refine kR 9 J O (ba 3 1 J J aJ J J hU uE J J q26) J J J ?_;rintro _ _ ⟨A27,n27,c27,rfl,rfl⟩;refine qu ?_;refine nh 10 J O (au (us:=[I A21 n21 c21]) (cs':=[I A21 n21 c21]) 2 J J J J mp J J J) J J ?_;rintro _ _ rfl;refine nh 11 J O (au (us:=[I A27 n27 c27]) (cs':=[I A27 n27 c27]) 4 J J J J mp J J J) J J ?_;rintro _ _ rfl;refine gx O ?_;refine DX ?_;obtain ⟨rfl,rfl⟩:=Prod.mk.inj (Option.some.inj h);exact rv ((cS [0,2,3,4] 5).trans (dm ((A21,n21,c21),(A27,n27,c27)) J))
 ·rintro ⟨⟨A12,n12,c12⟩,⟨A13,n13,c13⟩⟩ h;refine iR ([cc A12 n12 c12 y14.2.1,aw B5 23 [I A12 n12 c12],cc A13 n13 c13 y14.2.2,aw B6 23 [I A13 n13 c13]]) J ?_;refine V ?_;refine ay ?_;refine cy O _ (ab _) ?_;refine zR 0 J (aR 1 J J ln J) ?_;refine zR 1 J (aR 3 J J ln J) ?_;refine zO 2 J (au (us:=[I A12 n12 c12]) (cs':=[I A12 n12 c12]) 1 J J J J mp J J J) ?_;rintro _ _ rfl;refine ⟨_,ab _,ab _,?_⟩;refine zO 3 J (au (us:=[I A13 n13 c13]) (cs':=[I A13 n13 c13]) 3 J J J J mp J J J) ?_;rintro _ _ rfl;refine ⟨_,ab _,ab _,?_⟩;refine cx O ?_;refine V ?_;obtain rfl:=ao h;exact dl (rs:=[.cell 4 23,.cell 5 23]) (vs:=[I A12 n12 c12,I A13 n13 c13]) J (.cons (jf 1 J J ln) (.cons (jf 3 J J ln) .nil)) J (cS [0,2] 4) ⟨_,_,_,_,_,_,J,J⟩
 ·rintro ⟨⟨A12,n12,c12⟩,⟨A13,n13,c13⟩⟩ h;exact az h
 rintro i ⟨⟨A12,n12,c12⟩,⟨A13,n13,c13⟩⟩ h;exact az h
theorem lp {r:((List Int)×(List Int))}: ∀v post,((fun (u:Value) (post:List Chunk)=> ∃A0 n0 c0 A1 n1 c1,u=.tuple #[I A0 n0 c0,I A1 n1 c1]∧post=[cc A0 n0 c0 r.1,cc A1 n1 c1 r.2])) v post→ ∀c∈post,bR c:=by
 rintro _ _ ⟨_,_,_,_,_,_,rfl,rfl⟩;exact hJ bm (hJ bm (ai))
def gM (N:Nat)(a0:Gw):Option (List Int):=
 (fg N a0 false).bind fun y4=>some y4
theorem tZ {N:Nat}{a0:Gw}{r:(List Int)}(h:gM N a0=some r):Okc Tryz.prog 97 [.agg #[iV a0.Kind,iV a0.Shape,iV a0.Flags,iV a0.Age,I A1 n1 c1,I A2 n2 c2]] ([aS A1 n1 c1 a0.Slots,aS A2 n2 c2 a0.More]) (fun u post=> ∃A0 n0 c0,u=I A0 n0 c0∧post=[cc A0 n0 c0 r]):=by
 refine bx Tryz.func97 J J ?_;simp only [aU];refine V ?_;refine gD (aX J J) ?_;rintro _ _ ⟨B3,rfl,rfl⟩;refine V ?_;refine gR (aC (us:=[iV a0.Kind,iV a0.Shape,iV a0.Flags,iV a0.Age,I A1 n1 c1,I A2 n2 c2]) 0 J J bo J) ?_;obtain ⟨y4,hy4,h⟩:=aa h;refine gD (ak (lv hy4) zQ J (hJ (ap (i:=1) J J) (hJ (ap (i:=2) J J) ai)) jV) ?_;rintro _ _ ⟨_,⟨A5,n5,c5,rfl,rfl⟩,rfl⟩;refine V ?_;obtain rfl:=ao h;exact aL J J (cS [0] 4) ⟨_,_,_,J,J⟩
theorem rm {r:(List Int)}: ∀v post,((fun (u:Value) (post:List Chunk)=> ∃A0 n0 c0,u=I A0 n0 c0∧post=[cc A0 n0 c0 r])) v post→ ∀c∈post,bR c:=by
 rintro _ _ ⟨_,_,_,rfl,rfl⟩;exact hJ bm (ai)
def d8 (N:Nat)(a0:Int)(a1:Gx):Option Bool:=
 (dT N a1 a0).bind fun y4=>some (!y4)
theorem qv {N:Nat}{a0:Int}{a1:Gx}{r:Bool}(h:d8 N a0 a1=some r):Okc Tryz.prog 187 [iV a0,pV B1 0] ([cR B1 36 [I A2 n2 c2,I A3 n3 c3],br A2 n2 c2 a1.Young,br A3 n3 c3 a1.Old]) (fun u post=>u=.bool r∧post=[]):=by
 refine bx Tryz.func187 J J ?_;simp only [aU];refine V ?_;refine gR (Bq (us:=[I A2 n2 c2,I A3 n3 c3]) 0 J J cu J) ?_;refine V ?_;obtain ⟨y4,hy4,h⟩:=aa h;refine gD (ak (mq hy4) yW J (hJ (ap (i:=1) J J) (hJ (ap (i:=2) J J) ai)) kz) ?_;rintro _ _ ⟨_,⟨rfl,rfl⟩,rfl⟩;refine V ?_;obtain rfl:=ao h;exact aL J J (cS [] 3) ⟨J,J⟩
def jS (N:Nat)(ff:Int→Option Bool):Option Int:=
 some (-1)
def dI (N:Nat)(ff:Int→Option Bool)(a0:(List Int)):Nat→Int→Option Int
 |0,_=>none
 |m3+1,p4=>bif decide (p4<(a0.length:Int)) then ((aH a0 p4).bind fun x6=>(ff x6).bind fun y7=>bif y7 then (some p4) else (bD (in64 (p4+1)) ((dI N ff a0 m3) (p4+1)))) else (jS N ff)
def gW (N:Nat)(a0:(List Int))(ff:Int→Option Bool):Option Int:=
 dI N ff a0 N 0
theorem oO {N:Nat}{a0:(List Int)}{ff:Int→Option Bool}{r:Int}(h:gW N a0 ff=some r){vf:Value}{G:List Chunk}(hf:CE Tryz.prog vf G (fun x=> [iV x]) (fun r=> .bool r) ff):Okc Tryz.prog 172 [I A1 n1 c1,vf] (eM A1 n1 c1 a0::G) (fun u post=>u=iV r∧post=[]):=by
 refine bx Tryz.func172 J J ?_;simp only [aU];refine V ?_;refine aP (fun s L=>jS N ff=some r∧s=[(4,iV 0)]∧L=G) ?_ ?_
 ·refine V ?_;refine gR (aG 0 J ae J hU) ?_;refine V ?_;refine aZ (fun m s L=> ∃p4,dI N ff a0 m p4=some r∧s=[(0,I A1 n1 c1),(1,vf),(4,iV 0),(7,iV (a0.length:Int)),(8,iV p4)]∧L=eM A1 n1 c1 a0::G) N _ _ ⟨0,h,J,J⟩ sA (cS [0] 1) ?_;rintro (_|m3) _ _ ⟨p4,h,rfl,rfl⟩
  ·exact az h
  rw [dI.eq_2] at h;refine V ?_;refine ay ?_;refine aq J (fun g5=> ?_) (fun g5=> ?_)
  ·replace h:=ag g5 h;refine V ?_;refine ay ?_;refine V ?_;obtain ⟨x6,hx6,h⟩:=aa h;obtain ⟨lx6,ux6,hx6⟩:=aj hx6;refine gR (aB 0 J ae J J hU dj lx6 ux6) ?_;refine gR (aW (u:=iV x6) 0 J ae J hx6 cM (fun _ _ _ h=>by rw [show _=_ from h];rfl)) ?_;obtain ⟨y7,hy7,h⟩:=aa h;refine gD (xo (a:=x6) [eM A1 n1 c1 a0] hf hy7 J J) ?_;rintro _ _ ⟨rfl,rfl⟩;refine V ?_;refine aq J (fun g8=> ?_) (fun g8=> ?_)
   ·replace h:=ag g8 h;refine V ?_;obtain rfl:=ao h;exact aL J J (sD [] 1 J J) ⟨J,J⟩
   replace h:=ah g8 h;refine V ?_;obtain ⟨q9,h⟩:=am h;refine gE (aT J J q9.1 q9.2) ?_;refine V ?_;exact ⟨m3,_,_,GD _,⟨p4+1,h,J,J⟩,sA,cS [0] 1⟩
  replace h:=ah g5 h;refine V ?_;exact ⟨_,_,⟨h,J,J⟩,sA,cS [] 1⟩
 rintro _ _ ⟨h,rfl,rfl⟩;refine V ?_;obtain rfl:=ao h;exact aL J J (sD [] 0 J J) ⟨J,J⟩
theorem nj {r:Int}: ∀v post,((fun (u:Value) (post:List Chunk)=>u=iV r∧post=[])) v post→ ∀c∈post,bR c:=by
 rintro _ _ ⟨rfl,rfl⟩;exact ai
def cJ (N:Nat)(a0:(List Int))(ff:Int→Option Bool):Option Bool:=
 (gW N a0 ff).bind fun y2=>some (decide (0≤y2))
theorem mo {N:Nat}{a0:(List Int)}{ff:Int→Option Bool}{r:Bool}(h:cJ N a0 ff=some r){vf:Value}{G:List Chunk}(hf:CE Tryz.prog vf G (fun x=> [iV x]) (fun r=> .bool r) ff):Okc Tryz.prog 95 [I A1 n1 c1,vf] (eM A1 n1 c1 a0::G) (fun u post=>u=.bool r∧post=[]):=by
 refine bx Tryz.func95 J J ?_;simp only [aU];refine V ?_;obtain ⟨y2,hy2,h⟩:=aa h;refine gD (ak (oO hy2 hf) DG J (hJ (ap (i:=0) J J) (vd (E:=[eM A1 n1 c1 a0]) hf.1)) nj) ?_;rintro _ _ ⟨_,⟨rfl,rfl⟩,rfl⟩;refine V ?_;obtain rfl:=ao h;exact aL J J (sD [] 1 J J) ⟨J,J⟩
theorem lz {r:Bool}: ∀v post,((fun (u:Value) (post:List Chunk)=>u=.bool r∧post=[])) v post→ ∀c∈post,bR c:=by
 rintro _ _ ⟨rfl,rfl⟩;exact ai
def jL (N:Nat)(a0:Gx)(p39:(List Int)):Option Int:=
 (cJ N p39 (fun x=>d8 N x a0)).bind fun y54=>bif y54 then (some 50) else (some 0)
def gT (N:Nat)(kb40:(List Int)→Int→Option Int)(a1:(List Gu))(p42:Int)(a0:Gx)(p45:(List Int)):Option Int:=
 bD (in64 (p42+1)) (kb40 p45 (p42+1))
def dk (N:Nat)(a1:(List Gu))(a0:Gx):Nat→(List Int)→Int→Option Int
 |0,_,_=>none
 |m40+1,p41,p42=>bif decide (p42<(a1.length:Int)) then ((aH a1 p42).bind fun x46=>(bif decide (x46.Kind=7) then (some true) else (some (decide (x46.Kind=9)))).bind fun b48=>bif b48 then (bD (bN (p41.length+([x46.N]:List Int).length)) (gT N (dk N a1 a0 m40) a1 p42 a0 (p41++([x46.N]:List Int)))) else (gT N (dk N a1 a0 m40) a1 p42 a0 p41)) else (jL N a0 p41)
def iH (N:Nat)(a1:(List Gu))(a0:Gx)(p6:(List Int)):Option Int:=
 dk N a1 a0 N p6 0
def jM (N:Nat)(kb8:(List Int)→Int→Option Int)(a0:Gx)(p10:Int)(a1:(List Gu))(p14:(List Int)):Option Int:=
 bD (in64 (p10+1)) (kb8 p14 (p10+1))
def fE (N:Nat)(kb8:(List Int)→Int→Option Int)(a0:Gx)(p10:Int)(x15:(List Gw))(a1:(List Gu)):Nat→(List Int)→Int→Option Int
 |0,_,_=>none
 |m17+1,p18,p19=>bif decide (p19<(x15.length:Int)) then ((aH x15 p19).bind fun x21=>(dS N x21).bind fun y26=>bif !y26 then (some 51) else ((gq N x21).bind fun y28=>bD (bN (p18.length+y28.length)) ((gM N x21).bind fun y32=>bD (bN ((p18++y28).length+y32.length)) (bD (in64 (p19+1)) ((fE N kb8 a0 p10 x15 a1 m17) ((p18++y28)++y32) (p19+1)))))) else (jM N kb8 a0 p10 a1 p18)
def ga (N:Nat)(a0:Gx)(a1:(List Gu)):Nat→(List Int)→Int→Option Int
 |0,_,_=>none
 |m8+1,p9,p10=>bif decide (p10<(([a0.Young,a0.Old]:List (List Gw)).length:Int)) then ((aH ([a0.Young,a0.Old]:List (List Gw)) p10).bind fun x15=>fE N (ga N a0 a1 m8) a0 p10 x15 a1 N p9 0) else (iH N a1 a0 p9)
def js (N:Nat)(a0:Gx)(a1:(List Gu)):Option Int:=
 ga N a0 a1 N [] 0
set_option maxHeartbeats 4000000 in
theorem tH {N:Nat}{a0:Gx}{a1:(List Gu)}{r:Int}(h:js N a0 a1=some r):Okc Tryz.prog 116 [.agg #[I A1 n1 c1,I A2 n2 c2],I A3 n3 c3] ([br A1 n1 c1 a0.Young,br A2 n2 c2 a0.Old,aS A3 n3 c3 a1]) (fun u post=>u=iV r∧post=[]):=by
 refine bx Tryz.func116 J J ?_;simp only [aU];refine V ?_;refine gD (aX J J) ?_;rintro _ _ ⟨B4,rfl,rfl⟩;refine V ?_;refine aP (fun s L=> ∃p6 A6 n6 c6,iH N a1 a0 p6=some r∧s=[(1,I A3 n3 c3),(2,pV B4 0),(4,iV 0),(5,I A6 n6 c6)]∧L=[aS A3 n3 c3 a1,cc A6 n6 c6 p6,br A1 n1 c1 a0.Young,br A2 n2 c2 a0.Old,aw B4 36 [I A1 n1 c1,I A2 n2 c2]]) ?_ ?_
 ·refine V ?_;refine gD (aN (R:=(Rep.sl bV)) (vss:=[[I A1 n1 c1],[I A2 n2 c2]]) (xs:=[a0.Young,a0.Old]) J (AS _ _ _ _ _ _) J J (fun _ _ hr=> .cons (⟨_,J,hr 1 _ J J⟩) (.cons (⟨_,J,hr 2 _ J J⟩) All2.nil))) ?_;rintro _ _ ⟨A7,n7,c7,rfl,rfl⟩;refine gR (aG 0 J aJ J Tryz.underlying117) ?_;refine V ?_;refine aZ (fun m s L=> ∃p9 p10 A9 n9 c9,ga N a0 a1 m p9 p10=some r∧s=[(1,I A3 n3 c3),(2,pV B4 0),(4,iV 0),(5,I A9 n9 c9),(16,I A7 n7 c7),(17,iV (([a0.Young,a0.Old]:List (List Gw)).length:Int)),(18,iV p10)]∧L=[aS A3 n3 c3 a1,cc A9 n9 c9 p9,dQ (Rep.sl bV) 34 (I A7 n7 c7) ([a0.Young,a0.Old]:List (List Gw)),br A1 n1 c1 a0.Young,br A2 n2 c2 a0.Old,aw B4 36 [I A1 n1 c1,I A2 n2 c2]]) N _ _ ⟨[],0,none,0,0,h,J,J⟩ sA ((bL (dn .i64) 3 _).trans (cS [5,0,1,3,4,2] 6)) ?_;rintro (_|m8) _ _ ⟨p9,p10,A9,n9,c9,h,rfl,rfl⟩
  ·exact az h
  rw [ga.eq_2] at h;refine V ?_;refine ay ?_;refine aq J (fun g12=> ?_) (fun g12=> ?_)
  ·replace h:=ag g12 h;refine V ?_;refine aP (fun s L=> ∃p14 A14 n14 c14,jM N (ga N a0 a1 m8) a0 p10 a1 p14=some r∧s=[(1,I A3 n3 c3),(2,pV B4 0),(4,iV 0),(5,I A14 n14 c14),(16,I A7 n7 c7),(17,iV (([a0.Young,a0.Old]:List (List Gw)).length:Int)),(18,iV p10)]∧L=[aS A3 n3 c3 a1,cc A14 n14 c14 p14,dQ (Rep.sl bV) 34 (I A7 n7 c7) ([a0.Young,a0.Old]:List (List Gw)),br A1 n1 c1 a0.Young,br A2 n2 c2 a0.Old,aw B4 36 [I A1 n1 c1,I A2 n2 c2]]) ?_ ?_
   ·refine V ?_;obtain ⟨x15,hx15,h⟩:=aa h;obtain ⟨lx15,ux15,hx15⟩:=aj hx15;refine gR (aB 2 J aJ J J Tryz.underlying117 yh lx15 ux15) ?_;refine gD (BD (R':=bV) (ys:=x15) 2 J aJ J hx15 gK (fun _ _ _ h=>by obtain ⟨u,e,k⟩:=h;exact ⟨u,by rw [e];rfl,k⟩)) ?_;rintro _ _ ⟨A16,n16,c16,rfl,rfl⟩;refine V ?_;refine gR (aG 0 J ae J hP) ?_;refine V ?_;refine aZ (fun m s L=> ∃p18 p19 A18 n18 c18,fE N (ga N a0 a1 m8) a0 p10 x15 a1 m p18 p19=some r∧s=[(1,I A3 n3 c3),(2,pV B4 0),(4,iV 0),(5,I A18 n18 c18),(16,I A7 n7 c7),(17,iV (([a0.Young,a0.Old]:List (List Gw)).length:Int)),(18,iV p10),(22,I A16 n16 c16),(23,iV (x15.length:Int)),(24,iV p19)]∧L=[aS A3 n3 c3 a1,cc A18 n18 c18 p18,dQ (Rep.sl bV) 34 (I A7 n7 c7) ([a0.Young,a0.Old]:List (List Gw)),br A16 n16 c16 x15,br A1 n1 c1 a0.Young,br A2 n2 c2 a0.Old,aw B4 36 [I A1 n1 c1,I A2 n2 c2]]) N _ _ ⟨p9,0,A9,n9,c9,h,J,J⟩ sA (cS [1,2,3,0,4,5,6] 7) ?_;rintro (_|m17) _ _ ⟨p18,p19,A18,n18,c18,h,rfl,rfl⟩
    ·exact az h
    rw [fE.eq_2] at h;refine V ?_;refine ay ?_;refine aq J (fun g20=> ?_) (fun g20=> ?_)
    ·replace h:=ag g20 h;refine V ?_;refine ay ?_;refine V ?_;obtain ⟨x21,hx21,h⟩:=aa h;obtain ⟨lx21,ux21,hx21⟩:=aj hx21;refine gR (aB 3 J ae J J hP bu lx21 ux21) ?_;refine xZ 3 J hx21 (cA x21) ?_;rintro _ _ ⟨A22,n22,c22,A23,n23,c23,rfl,rfl⟩;refine gR (mr (us:=[iV x21.Kind,iV x21.Shape,iV x21.Flags,iV x21.Age,I A22 n22 c22,I A23 n23 c23]) 0 J J bo J) ?_;refine gD (aM dD J) ?_;rintro _ _ ⟨B25,rfl,rfl⟩;refine gO (au (us:=[iV x21.Kind,iV x21.Shape,iV x21.Flags,iV x21.Age,I A22 n22 c22,I A23 n23 c23]) (cs':=[iV x21.Kind,iV x21.Shape,iV x21.Flags,iV x21.Age,I A22 n22 c22,I A23 n23 c23]) 0 J J J J bu J J J) ?_;rintro _ _ rfl;refine V ?_;refine ay ?_;refine V ?_;refine gR (aC (us:=[iV x21.Kind,iV x21.Shape,iV x21.Flags,iV x21.Age,I A22 n22 c22,I A23 n23 c23]) 0 J J bo J) ?_;obtain ⟨y26,hy26,h⟩:=aa h;refine gD (ak (lO hy26) yP J (hJ (ap (i:=2) J J) (hJ (ap (i:=3) J J) ai)) jP) ?_;rintro _ _ ⟨_,⟨rfl,rfl⟩,rfl⟩;refine V ?_;refine aq J (fun g27=> ?_) (fun g27=> ?_)
     ·replace h:=ag g27 h;refine V ?_;obtain rfl:=ao h;exact aL J J (cS [] 11) ⟨J,J⟩
     replace h:=ah g27 h;refine V ?_;refine cy O ([aw B25 47 [iV x21.Kind,iV x21.Shape,iV x21.Flags,iV x21.Age,I A22 n22 c22,I A23 n23 c23],vL (bO (I A16 n16 c16) p19.toNat 6 0) [iV x21.Kind,iV x21.Shape,iV x21.Flags,iV x21.Age,I A22 n22 c22,I A23 n23 c23],aS A22 n22 c22 x21.Slots,aS A23 n23 c23 x21.More,aS A3 n3 c3 a1,dQ (Rep.sl bV) 34 (I A7 n7 c7) ([a0.Young,a0.Old]:List (List Gw)),br A16 n16 c16 x15,br A1 n1 c1 a0.Young,br A2 n2 c2 a0.Old,aw B4 36 [I A1 n1 c1,I A2 n2 c2]]) (cS [0,1,2,3,4,6,7,8,9,10] 11) ?_;refine zE 0 J (ax J) ?_;refine zR 1 J (aC (us:=[iV x21.Kind,iV x21.Shape,iV x21.Flags,iV x21.Age,I A22 n22 c22,I A23 n23 c23]) 0 J J bo J) ?_;refine zR 4 J (aC (us:=[iV x21.Kind,iV x21.Shape,iV x21.Flags,iV x21.Age,I A22 n22 c22,I A23 n23 c23]) 0 J J bo J) ?_;obtain ⟨y28,hy28,h⟩:=aa h;refine zD 2 J (ak (pn hy28) Cc J (hJ (ap (i:=2) J J) (hJ (ap (i:=3) J J) ai)) ng) ?_;rintro _ _ ⟨_,⟨A29,n29,c29,rfl,rfl⟩,rfl⟩;refine gX (cS [1,2,3,4,5,7,8,9,10,11] 12) ?_;obtain ⟨q30,h⟩:=am h;refine zD 3 J (ba 6 0 J J aJ J J hU uE J J q30) ?_;rintro _ _ ⟨A31,n31,c31,rfl,rfl⟩;refine gX (cS [1,2,3,4,5,7,8,9,10,11] 12) ?_;obtain ⟨y32,hy32,h⟩:=aa h;refine zD 5 J (ak (tZ hy32) EG J (hJ (ap (i:=3) J J) (hJ (ap (i:=4) J J) ai)) rm) ?_;rintro _ _ ⟨_,⟨A33,n33,c33,rfl,rfl⟩,rfl⟩;refine gX (cS [2,3,4,5,6,8,9,10,11,12] 13) ?_
     obtain ⟨q34,h⟩:=am h;refine zD 6 J (ba 7 0 J J aJ J J hU uE J J q34) ?_;rintro _ _ ⟨A35,n35,c35,rfl,rfl⟩;refine gX (cS [2,3,4,5,6,8,9,10,11,12] 13) ?_;refine zE 7 J (bz J) ?_;refine cx O ?_;refine V ?_;obtain ⟨q36,h⟩:=am h;refine gE (aT J J q36.1 q36.2) ?_;refine V ?_;exact ⟨m17,_,_,GD _,⟨(p18++y28)++y32,p19+1,A35,n35,c35,h,J,J⟩,sA,cS [6,7,8,9,10,11,12] 13⟩
    replace h:=ah g20 h;refine V ?_;exact ⟨_,_,⟨p18,A18,n18,c18,h,J,J⟩,sA,cS [0,1,2,4,5,6] 7⟩
   rintro _ _ ⟨p14,A14,n14,c14,h,rfl,rfl⟩;refine dA ?_;obtain ⟨q37,h⟩:=am h;refine gE (aT J J q37.1 q37.2) ?_;refine V ?_;exact ⟨m8,_,_,GD _,⟨p14,p10+1,A14,n14,c14,h,J,J⟩,sA,cS [0,1,2,3,4,5] 6⟩
  replace h:=ah g12 h;refine V ?_;exact ⟨_,_,⟨p9,A9,n9,c9,h,J,J⟩,sA,cS [0,1,3,4,5] 6⟩
 rintro _ _ ⟨p6,A6,n6,c6,h,rfl,rfl⟩;refine aP (fun s L=> ∃p39 A39 n39 c39,jL N a0 p39=some r∧s=[(2,pV B4 0),(4,iV 0),(5,I A39 n39 c39)]∧L=[cc A39 n39 c39 p39,br A1 n1 c1 a0.Young,br A2 n2 c2 a0.Old,aw B4 36 [I A1 n1 c1,I A2 n2 c2]]) ?_ ?_
 ·refine V ?_;refine gR (aG 0 J ae J hO) ?_;refine V ?_;refine aZ (fun m s L=> ∃p41 p42 A41 n41 c41,dk N a1 a0 m p41 p42=some r∧s=[(2,pV B4 0),(4,iV 0),(5,I A41 n41 c41),(40,I A3 n3 c3),(41,iV (a1.length:Int)),(42,iV p42)]∧L=[cc A41 n41 c41 p41,aS A3 n3 c3 a1,br A1 n1 c1 a0.Young,br A2 n2 c2 a0.Old,aw B4 36 [I A1 n1 c1,I A2 n2 c2]]) N _ _ ⟨p6,0,A6,n6,c6,h,J,J⟩ sA (cS [1,0,2,3,4] 5) ?_;rintro (_|m40) _ _ ⟨p41,p42,A41,n41,c41,h,rfl,rfl⟩
  ·exact az h
  rw [dk.eq_2] at h;refine V ?_;refine ay ?_;refine aq J (fun g43=> ?_) (fun g43=> ?_)
  ·replace h:=ag g43 h;refine V ?_;refine aP (fun s L=> ∃p45 A45 n45 c45,gT N (dk N a1 a0 m40) a1 p42 a0 p45=some r∧s=[(2,pV B4 0),(4,iV 0),(5,I A45 n45 c45),(40,I A3 n3 c3),(41,iV (a1.length:Int)),(42,iV p42)]∧L=[cc A45 n45 c45 p45,aS A3 n3 c3 a1,br A1 n1 c1 a0.Young,br A2 n2 c2 a0.Old,aw B4 36 [I A1 n1 c1,I A2 n2 c2]]) ?_ ?_
   ·refine V ?_;obtain ⟨x46,hx46,h⟩:=aa h;obtain ⟨lx46,ux46,hx46⟩:=aj hx46;refine gR (aB 1 J ae J J hO aI lx46 ux46) ?_;refine gR (aQ (us:=ar x46) 1 J ae J hx46 bn (fun _ _ _ h=>by rw [show _=_ from h];rfl)) ?_;refine gD (aM gr J) ?_;rintro _ _ ⟨B47,rfl,rfl⟩;refine gO (au (us:=ar x46) (cs':=ar x46) 0 J J J J aI J J J) ?_;rintro _ _ rfl;refine V ?_;obtain ⟨b48,hb48,h⟩:=aa h;refine aD 4 53 b48 ?_ ?_
    ·clear h;refine aE 49 J (fun g48=> ?_) (fun g48=> ?_)
     ·have h:=ag g48 hb48;refine V ?_;obtain rfl:=ao h;exact ad sA (cS [0,1,2,3,4,5] 6)
     have h:=ah g48 hb48;refine V ?_;obtain rfl:=ao h;exact ad sA (cS [0,1,2,3,4,5] 6)
    refine V ?_;refine aq J (fun g49=> ?_) (fun g49=> ?_)
    ·replace h:=ag g49 h;refine V ?_;refine gD (aN (R:=(dn .i64)) (vss:=[[iV x46.N]]) (xs:=[x46.N]) J (dO _) J J (fun _ _ hr=> .cons J All2.nil)) ?_;rintro _ _ ⟨A50,n50,c50,rfl,rfl⟩;obtain ⟨q51,h⟩:=am h;refine gD (ba 2 0 J J aJ J J hU uE J J q51) ?_;rintro _ _ ⟨A52,n52,c52,rfl,rfl⟩;refine bX ?_;refine V ?_;exact ⟨_,_,⟨p41++([x46.N]:List Int),A52,n52,c52,h,J,J⟩,sA,cS [2,3,4,5,6] 7⟩
    replace h:=ah g49 h;refine V ?_;exact ⟨_,_,⟨p41,A41,n41,c41,h,J,J⟩,sA,cS [1,2,3,4,5] 6⟩
   rintro _ _ ⟨p45,A45,n45,c45,h,rfl,rfl⟩;refine dA ?_;obtain ⟨q53,h⟩:=am h;refine gE (aT J J q53.1 q53.2) ?_;refine V ?_;exact ⟨m40,_,_,GD _,⟨p45,p42+1,A45,n45,c45,h,J,J⟩,sA,cS [0,1,2,3,4] 5⟩
  replace h:=ah g43 h;refine V ?_;exact ⟨_,_,⟨p41,A41,n41,c41,h,J,J⟩,sA,cS [0,2,3,4] 5⟩
 rintro _ _ ⟨p39,A39,n39,c39,h,rfl,rfl⟩;refine ay ?_;refine V ?_;refine gE (fm J) ?_;obtain ⟨y54,hy54,h⟩:=aa h;refine gD (ak (mo hy54 ⟨hJ J (hJ J (hJ J ai)),187, #[], #[pV B4 0],J,DC,fun _ _ hh=>qv hh⟩) EH J (hJ (be (i:=0) J) (hJ (xw (i:=3) J) (hJ (ap (i:=1) J J) (hJ (ap (i:=2) J J) ai)))) lz) ?_;rintro _ _ ⟨_,⟨rfl,rfl⟩,rfl⟩;refine V ?_;refine aq J (fun g55=> ?_) (fun g55=> ?_)
 ·replace h:=ag g55 h;refine V ?_;obtain rfl:=ao h;exact aL J J (cS [] 4) ⟨J,J⟩
 replace h:=ah g55 h;refine V ?_;obtain rfl:=ao h;exact aL J J (cS [] 4) ⟨J,J⟩
theorem re {r:Int}: ∀v post,((fun (u:Value) (post:List Chunk)=>u=iV r∧post=[])) v post→ ∀c∈post,bR c:=by
 rintro _ _ ⟨rfl,rfl⟩;exact ai
def ep (N:Nat)(a0:Gu)(a1:(List Int)):Option Bool:=
 (ey N a1 a0.N).bind fun y4=>some y4
theorem qR {N:Nat}{a0:Gu}{a1:(List Int)}{r:Bool}(h:ep N a0 a1=some r):Okc Tryz.prog 191 [(bd a0),pV B1 0] ([cR B1 23 [I A2 n2 c2],eM A2 n2 c2 a1]) (fun u post=>u=.bool r∧post=[]):=by
 refine bx Tryz.func191 J J ?_;simp only [aU];refine V ?_;refine gD (aX J J) ?_;rintro _ _ ⟨B3,rfl,rfl⟩;refine V ?_;refine gR (dL 1 J J ln J) ?_;refine V ?_;obtain ⟨y4,hy4,h⟩:=aa h;refine gD (ak (kp hy4) zT J (hJ (ap (i:=2) J J) ai) jt) ?_;rintro _ _ ⟨_,⟨rfl,rfl⟩,rfl⟩;refine V ?_;obtain rfl:=ao h;exact aL J J (cS [] 3) ⟨J,J⟩
def eI (N:Nat)(ff:Gu→Option Bool)(y6:(Gw))(x12:Gu×Gu):((List Gu))→Option (Option Exit×(List Gu))
 |p13=>(ff x12.1).bind fun y18=>bif y18 then (bD (bN (p13.length+([x12.1,x12.2]:List Gu).length)) (some (none,p13++([x12.1,x12.2]:List Gu)))) else (some (none,p13))
def nq (N:Nat)(a0:Gw)(ff:Gu→Option Bool):Option Gw:=
 (jF N a0).bind fun y6=>(fX N a0).bind fun y10=>(ex N a0 (bW (fun x st=>eI N ff y6 x st)) (none,[])).bind fun y14=>lw y14.1 (some (⟨y6.Kind,y6.Shape,y6.Flags,y6.Age,y6.Slots,y14.2⟩:Gw)) none (fun _=>none)
set_option maxHeartbeats 4000000 in
theorem vH {N:Nat}{a0:Gw}{ff:Gu→Option Bool}{r:Gw}(h:nq N a0 ff=some r){vf:Value}{G:List Chunk}(hf:CE Tryz.prog vf G (fun x=> [(bd x)]) (fun r=> .bool r) ff):Okc Tryz.prog 190 [.agg #[iV a0.Kind,iV a0.Shape,iV a0.Flags,iV a0.Age,I A1 n1 c1,I A2 n2 c2],vf] (aS A1 n1 c1 a0.Slots::aS A2 n2 c2 a0.More::G) (fun u post=> ∃A0 n0 c0 A1 n1 c1,u=.agg #[iV r.Kind,iV r.Shape,iV r.Flags,iV r.Age,I A0 n0 c0,I A1 n1 c1]∧post=[cB A0 n0 c0 r.Slots,cB A1 n1 c1 r.More]):=by
 refine bx Tryz.func190 J J ?_;simp only [aU];refine V ?_;refine gD (aX J J) ?_;rintro _ _ ⟨B3,rfl,rfl⟩;refine gD (aX J (BO hf)) ?_;rintro _ _ ⟨B4,rfl,rfl⟩;refine gD (aM dD J) ?_;rintro _ _ ⟨B5,rfl,rfl⟩;refine V ?_;refine gR (aC (us:=[iV a0.Kind,iV a0.Shape,iV a0.Flags,iV a0.Age,I A1 n1 c1,I A2 n2 c2]) 2 J J bo J) ?_;obtain ⟨y6,hy6,h⟩:=aa h;refine gD (ak (qN hy6) Cd J (hJ (ap (i:=3) J J) (hJ (ap (i:=4) J J) ai)) nZ) ?_;rintro _ _ ⟨_,⟨A7,n7,c7,A8,n8,c8,rfl,rfl⟩,rfl⟩;refine gD (aM dD J) ?_;rintro _ _ ⟨B9,rfl,rfl⟩;refine gO (au (us:=[iV y6.Kind,iV y6.Shape,iV y6.Flags,iV y6.Age,I A7 n7 c7,I A8 n8 c8]) (cs':=[iV y6.Kind,iV y6.Shape,iV y6.Flags,iV y6.Age,I A7 n7 c7,I A8 n8 c8]) 0 J J J J bu J J J) ?_;rintro _ _ rfl;refine V ?_;refine gO (au (us:=[I none 0 0]) (cs':=[iV y6.Kind,iV y6.Shape,iV y6.Flags,iV y6.Age,I A7 n7 c7,I none 0 0]) 0 J J J J eJ J J J) ?_;rintro _ _ rfl;refine V ?_;refine ay ?_;refine V ?_;refine gR (aC (us:=[iV a0.Kind,iV a0.Shape,iV a0.Flags,iV a0.Age,I A1 n1 c1,I A2 n2 c2]) 5 J J bo J) ?_;obtain ⟨y10,hy10,h⟩:=aa h;refine gD (ak (mQ hy10) zG J (hJ (ap (i:=6) J J) (hJ (ap (i:=7) J J) ai)) kW) ?_;rintro _ _ ⟨_,⟨B11,rfl,rfl⟩,rfl⟩;refine mj ?_;refine jB ?_;refine dP ?_ bH (fP 0 J);refine sN ?_;obtain ⟨y14,hy14,h⟩:=aa h
 refine kS (en:=(fun x=> [(bd x.1),(bd x.2)])) (fun x st=>eI N ff y6 x st) (fun (st:(List Gu)) (mz:((Option Addr×Nat×Nat)))=> [aw B4 97 [vf],aw B5 47 [iV 0,iV 0,iV 0,iV 0,I none 0 0,I none 0 0],cB A7 n7 c7 y6.Slots,dQ aF 52 (.slice mz.1 mz.2.1 mz.2.2) st,aw B9 47 [iV y6.Kind,iV y6.Shape,iV y6.Flags,iV y6.Age,I A7 n7 c7,.slice mz.1 mz.2.1 mz.2.2]]++G) [cR B11 47 [iV a0.Kind,iV a0.Shape,iV a0.Flags,iV a0.Age,I A1 n1 c1,I A2 n2 c2],aS A1 n1 c1 a0.Slots,aS A2 n2 c2 a0.More] ([]) ((none,0,0)) J J zC J (fun _=>J) (fun l G hY=>(kk hy14 hY).mono fun _ _ hh=>hh.2) ((bL aF 52 _).trans (bq [1,8,9] [] [6,5,3,0,2] 10 J)) h ?_ ?_ ?_ ?_
 ·rintro l x12 p13 je sr12 ⟨A13,n13,c13⟩ h;replace h:eI N ff y6 x12 p13=some (je,sr12):=h;simp only [pJ,List.zip_cons_cons,List.zip_nil_left,List.zip_nil_right,List.reverse_cons,List.reverse_nil,List.nil_append,List.cons_append];refine V ?_;refine gD (aM gr J) ?_;rintro _ _ ⟨B16,rfl,rfl⟩;refine gO (au (us:=ar x12.1) (cs':=ar x12.1) 0 J J J J aI J J J) ?_;rintro _ _ rfl;refine V ?_;refine gD (aM gr J) ?_;rintro _ _ ⟨B17,rfl,rfl⟩;refine gO (au (us:=ar x12.2) (cs':=ar x12.2) 0 J J J J aI J J J) ?_;rintro _ _ rfl;refine V ?_;refine gR (aC (us:=ar x12.1) 1 J J bn J) ?_;obtain ⟨y18,hy18,h⟩:=aa h;refine gD (xo (a:=x12.1) [aw B17 52 (ar x12.2),aw B16 52 (ar x12.1),aw B4 97 [vf],aw B5 47 [iV 0,iV 0,iV 0,iV 0,I none 0 0,I none 0 0],cB A7 n7 c7 y6.Slots,cB A13 n13 c13 p13,aw B9 47 [iV y6.Kind,iV y6.Shape,iV y6.Flags,iV y6.Age,I A7 n7 c7,I A13 n13 c13]] hf hy18 J J) ?_;rintro _ _ ⟨rfl,rfl⟩;refine bX ?_;refine V ?_;refine aq J (fun g19=> ?_) (fun g19=> ?_)
  ·replace h:=ag g19 h;refine V ?_;refine gR (aC (us:=ar x12.1) 1 J J bn J) ?_;refine gR (aC (us:=ar x12.2) 0 J J bn J) ?_;refine gD (aN (R:=aF) (vss:=[(ar x12.1),(ar x12.2)]) (xs:=[x12.1,x12.2]) J (xR _ _ _ _ _ _) J J (fun _ _ hr=> .cons J (.cons J All2.nil))) ?_;rintro _ _ ⟨A20,n20,c20,rfl,rfl⟩;obtain ⟨q21,h⟩:=am h;refine gD (ba 6 0 J J aJ J J hO nn J J q21) ?_;rintro _ _ ⟨A22,n22,c22,rfl,rfl⟩;refine V ?_;refine gO (au (us:=[I A22 n22 c22]) (cs':=[iV y6.Kind,iV y6.Shape,iV y6.Flags,iV y6.Age,I A7 n7 c7,I A22 n22 c22]) 7 J J J J eJ J J J) ?_;rintro _ _ rfl;refine V ?_;obtain ⟨rfl,rfl⟩:=Prod.mk.inj (Option.some.inj h);exact rv ((cS [3,4,5,6,7] 8).trans (dm (A22,n22,c22) J))
  replace h:=ah g19 h;refine V ?_;obtain ⟨rfl,rfl⟩:=Prod.mk.inj (Option.some.inj h);exact rv ((cS [2,3,4,5,6] 7).trans (dm (A13,n13,c13) J))
 ·rintro ⟨A13,n13,c13⟩ h;refine iR (aw B4 97 [vf]::aw B5 47 [iV 0,iV 0,iV 0,iV 0,I none 0 0,I none 0 0]::cB A7 n7 c7 y6.Slots::cB A13 n13 c13 y14.2::aw B9 47 [iV y6.Kind,iV y6.Shape,iV y6.Flags,iV y6.Age,I A7 n7 c7,I A13 n13 c13]::G) J ?_;refine V ?_;refine gR (aC (us:=[iV y6.Kind,iV y6.Shape,iV y6.Flags,iV y6.Age,I A7 n7 c7,I A13 n13 c13]) 4 J J bo J) ?_;refine gO (au (us:=[iV y6.Kind,iV y6.Shape,iV y6.Flags,iV y6.Age,I A7 n7 c7,I A13 n13 c13]) (cs':=[iV y6.Kind,iV y6.Shape,iV y6.Flags,iV y6.Age,I A7 n7 c7,I A13 n13 c13]) 1 J J J J bu J J J) ?_;rintro _ _ rfl;refine bX ?_;refine V ?_;obtain rfl:=ao h;exact dl (rs:=[.cell 4 47]) (vs:=[.agg #[iV y6.Kind,iV y6.Shape,iV y6.Flags,iV y6.Age,I A7 n7 c7,I A13 n13 c13]]) J (.cons (bY 1 J J bo) .nil) J (sD [2,3] 5 J J) ⟨_,_,_,_,_,_,J,J⟩
 ·rintro ⟨A13,n13,c13⟩ h;exact az h
 rintro i ⟨A13,n13,c13⟩ h;exact az h
theorem sL {r:Gw}: ∀v post,((fun (u:Value) (post:List Chunk)=> ∃A0 n0 c0 A1 n1 c1,u=.agg #[iV r.Kind,iV r.Shape,iV r.Flags,iV r.Age,I A0 n0 c0,I A1 n1 c1]∧post=[cB A0 n0 c0 r.Slots,cB A1 n1 c1 r.More])) v post→ ∀c∈post,bR c:=by
 rintro _ _ ⟨_,_,_,_,_,_,rfl,rfl⟩;exact hJ bm (hJ bm (ai))
def ik (N:Nat)(a0:Gw)(a1:(List Int)):Option Gw:=
 (lR N a0).bind fun y7=>bif !y7 then (some (⟨0,0,0,0,[],[]⟩:Gw)) else ((nq N a0 (fun x=>ep N x a1)).bind fun y11=>some y11)
theorem uj {N:Nat}{a0:Gw}{a1:(List Int)}{r:Gw}(h:ik N a0 a1=some r):Okc Tryz.prog 118 [.agg #[iV a0.Kind,iV a0.Shape,iV a0.Flags,iV a0.Age,I A1 n1 c1,I A2 n2 c2],I A3 n3 c3] ([aS A1 n1 c1 a0.Slots,aS A2 n2 c2 a0.More,eM A3 n3 c3 a1]) (fun u post=> ∃A0 n0 c0 A1 n1 c1,u=.agg #[iV r.Kind,iV r.Shape,iV r.Flags,iV r.Age,I A0 n0 c0,I A1 n1 c1]∧post=[cB A0 n0 c0 r.Slots,cB A1 n1 c1 r.More]):=by
 refine bx Tryz.func118 J J ?_;simp only [aU];refine V ?_;refine gD (aX J J) ?_;rintro _ _ ⟨B4,rfl,rfl⟩;refine gD (aX J J) ?_;rintro _ _ ⟨B5,rfl,rfl⟩;refine gD (aM dD J) ?_;rintro _ _ ⟨B6,rfl,rfl⟩;refine V ?_;refine ay ?_;refine V ?_;refine gR (aC (us:=[iV a0.Kind,iV a0.Shape,iV a0.Flags,iV a0.Age,I A1 n1 c1,I A2 n2 c2]) 2 J J bo J) ?_;obtain ⟨y7,hy7,h⟩:=aa h;refine gD (ak (sM hy7) zN J (hJ (ap (i:=3) J J) (hJ (ap (i:=4) J J) ai)) pY) ?_;rintro _ _ ⟨_,⟨rfl,rfl⟩,rfl⟩;refine V ?_;refine aq J (fun g8=> ?_) (fun g8=> ?_)
 ·replace h:=ag g8 h;refine V ?_;refine gE (bJ J (oL)) ?_;refine gO (au (us:=[iV 0,iV 0,iV 0,iV 0,I none 0 0,I none 0 0]) (cs':=[iV 0,iV 0,iV 0,iV 0,I none 0 0,I none 0 0]) 0 J J J J bu J J J) ?_;rintro _ _ rfl;refine V ?_;obtain rfl:=ao h;exact dl (rs:=[.cell 4 47]) (vs:=[.agg #[iV 0,iV 0,iV 0,iV 0,I none 0 0,I none 0 0]]) J (.cons (bY 0 J J bo) .nil) J ((bL aF 52 _).trans ((bL aF 52 _).trans (cS [1,0] 8))) ⟨_,_,_,_,_,_,J,J⟩
 replace h:=ah g8 h;refine V ?_;refine gR (aC (us:=[iV a0.Kind,iV a0.Shape,iV a0.Flags,iV a0.Age,I A1 n1 c1,I A2 n2 c2]) 2 J J bo J) ?_;refine gE (fm J) ?_;obtain ⟨y11,hy11,h⟩:=aa h;refine gD (ak (vH hy11 ⟨hJ J (hJ J ai),191, #[], #[pV B5 0],J,DA,fun _ _ hh=>qR hh⟩) DB J (hJ (ap (i:=3) J J) (hJ (ap (i:=4) J J) (hJ (xw (i:=1) J) (hJ (ap (i:=5) J J) ai)))) sL) ?_;rintro _ _ ⟨_,⟨A12,n12,c12,A13,n13,c13,rfl,rfl⟩,rfl⟩;refine gO (au (us:=[iV y11.Kind,iV y11.Shape,iV y11.Flags,iV y11.Age,I A12 n12 c12,I A13 n13 c13]) (cs':=[iV y11.Kind,iV y11.Shape,iV y11.Flags,iV y11.Age,I A12 n12 c12,I A13 n13 c13]) 2 J J J J bu J J J) ?_;rintro _ _ rfl;refine V ?_;obtain rfl:=ao h;exact dl (rs:=[.cell 4 47]) (vs:=[.agg #[iV y11.Kind,iV y11.Shape,iV y11.Flags,iV y11.Age,I A12 n12 c12,I A13 n13 c13]]) J (.cons (bY 2 J J bo) .nil) J (cS [0,1] 8) ⟨_,_,_,_,_,_,J,J⟩
theorem sa {r:Gw}: ∀v post,((fun (u:Value) (post:List Chunk)=> ∃A0 n0 c0 A1 n1 c1,u=.agg #[iV r.Kind,iV r.Shape,iV r.Flags,iV r.Age,I A0 n0 c0,I A1 n1 c1]∧post=[cB A0 n0 c0 r.Slots,cB A1 n1 c1 r.More])) v post→ ∀c∈post,bR c:=by
 rintro _ _ ⟨_,_,_,_,_,_,rfl,rfl⟩;exact hJ bm (hJ bm (ai))
def lr (N:Nat)(a0:Gw):Option Bool:=
 (bif decide (a0.Kind=10) then ((dS N a0).bind fun y5=>some y5) else (some false)).bind fun b4=>some b4
theorem wo {N:Nat}{a0:Gw}{r:Bool}(h:lr N a0=some r):Okc Tryz.prog 192 [.agg #[iV a0.Kind,iV a0.Shape,iV a0.Flags,iV a0.Age,I A1 n1 c1,I A2 n2 c2]] ([aS A1 n1 c1 a0.Slots,aS A2 n2 c2 a0.More]) (fun u post=>u=.bool r∧post=[]):=by
 refine bx Tryz.func192 J J ?_;simp only [aU];refine V ?_;refine gD (aX J J) ?_;rintro _ _ ⟨B3,rfl,rfl⟩;refine V ?_;obtain ⟨b4,hb4,h⟩:=aa h;refine aD 3 9 b4 ?_ ?_
 ·clear h;refine aE 6 J (fun g4=> ?_) (fun g4=> ?_)
  ·have h:=ag g4 hb4;refine bA (aC (us:=[iV a0.Kind,iV a0.Shape,iV a0.Flags,iV a0.Age,I A1 n1 c1,I A2 n2 c2]) 0 J J bo J) J (aO g4 J) J ?_;obtain ⟨y5,hy5,h⟩:=aa h;refine ca (ak (lO hy5) yP J (hJ (ap (i:=1) J J) (hJ (ap (i:=2) J J) ai)) jP) J (aO g4 J) J ?_;rintro _ _ ⟨_,⟨rfl,rfl⟩,rfl⟩;refine V ?_;obtain rfl:=ao h;exact ad sA (cS [0,1,2] 3)
  have h:=ah g4 hb4;refine V ?_;obtain rfl:=ao h;exact ad sA (cS [0,1,2] 3)
 refine V ?_;obtain rfl:=ao h;exact aL J J (cS [] 3) ⟨J,J⟩
theorem tT {r:Bool}: ∀v post,((fun (u:Value) (post:List Chunk)=>u=.bool r∧post=[])) v post→ ∀c∈post,bR c:=by
 rintro _ _ ⟨rfl,rfl⟩;exact ai
def lK (N:Nat)(a0:Gw):Option Gw:=
 (eT N a0.Slots).bind fun y5=>(aH a0.More 0).bind fun x7=>some (⟨a0.Kind,a0.Shape,a0.Flags,a0.Age,y5,([x7]:List Gu)⟩:Gw)
theorem tU {N:Nat}{a0:Gw}{r:Gw}(h:lK N a0=some r):Okc Tryz.prog 193 [.agg #[iV a0.Kind,iV a0.Shape,iV a0.Flags,iV a0.Age,I A1 n1 c1,I A2 n2 c2]] ([aS A1 n1 c1 a0.Slots,aS A2 n2 c2 a0.More]) (fun u post=> ∃A0 n0 c0 A1 n1 c1,u=.agg #[iV r.Kind,iV r.Shape,iV r.Flags,iV r.Age,I A0 n0 c0,I A1 n1 c1]∧post=[cB A0 n0 c0 r.Slots,cB A1 n1 c1 r.More]):=by
 refine bx Tryz.func193 J J ?_;simp only [aU];refine V ?_;refine gD (aX J J) ?_;rintro _ _ ⟨B3,rfl,rfl⟩;refine gD (aM dD J) ?_;rintro _ _ ⟨B4,rfl,rfl⟩;refine V ?_;obtain ⟨y5,hy5,h⟩:=aa h;refine gD (ak (jG hy5) yQ J (hJ (ap (i:=2) J J) ai) il) ?_;rintro _ _ ⟨_,⟨A6,n6,c6,rfl,rfl⟩,rfl⟩;refine V ?_;refine gO (au (us:=[I A6 n6 c6]) (cs':=[iV a0.Kind,iV a0.Shape,iV a0.Flags,iV a0.Age,I A6 n6 c6,I A2 n2 c2]) 2 J J J J eJ J J J) ?_;rintro _ _ rfl;refine V ?_;obtain ⟨x7,hx7,h⟩:=aa h;obtain ⟨lx7,ux7,hx7⟩:=aj hx7;refine gR (aB 4 J ae J J hO aI lx7 ux7) ?_;refine gR (aQ (us:=ar x7) 4 J ae J hx7 bn (fun _ _ _ h=>by rw [show _=_ from h];rfl)) ?_;refine gD (aN (R:=aF) (vss:=[(ar x7)]) (xs:=[x7]) J (gN _ _ _) J J (fun _ _ hr=> .cons J All2.nil)) ?_;rintro _ _ ⟨A8,n8,c8,rfl,rfl⟩;refine V ?_;refine gO (au (us:=[I A8 n8 c8]) (cs':=[iV a0.Kind,iV a0.Shape,iV a0.Flags,iV a0.Age,I A6 n6 c6,I A8 n8 c8]) 3 J J J J eJ J J J) ?_;rintro _ _ rfl;refine V ?_;refine gR (aC (us:=[iV a0.Kind,iV a0.Shape,iV a0.Flags,iV a0.Age,I A6 n6 c6,I A8 n8 c8]) 3 J J bo J) ?_;refine gO (au (us:=[iV a0.Kind,iV a0.Shape,iV a0.Flags,iV a0.Age,I A6 n6 c6,I A8 n8 c8]) (cs':=[iV a0.Kind,iV a0.Shape,iV a0.Flags,iV a0.Age,I A6 n6 c6,I A8 n8 c8]) 2 J J J J bu J J J) ?_;rintro _ _ rfl;refine bX ?_;refine V ?_;obtain rfl:=ao h
 exact dl (rs:=[.cell 2 47]) (vs:=[.agg #[iV a0.Kind,iV a0.Shape,iV a0.Flags,iV a0.Age,I A6 n6 c6,I A8 n8 c8]]) J (.cons (bY 2 J J bo) .nil) J (cS [1,0] 6) ⟨_,_,_,_,_,_,J,J⟩
theorem rj {r:Gw}: ∀v post,((fun (u:Value) (post:List Chunk)=> ∃A0 n0 c0 A1 n1 c1,u=.agg #[iV r.Kind,iV r.Shape,iV r.Flags,iV r.Age,I A0 n0 c0,I A1 n1 c1]∧post=[cB A0 n0 c0 r.Slots,cB A1 n1 c1 r.More])) v post→ ∀c∈post,bR c:=by
 rintro _ _ ⟨_,_,_,_,_,_,rfl,rfl⟩;exact hJ bm (hJ bm (ai))
end Go.Proofs.YtmimkglhbmcokaaGreat
namespace Go.Proofs.YtmimkglhbmcokaaGreat
variable {A1 A2 A3 A4:Option Addr} {B1 M2 M5 c1 c2 c3 c4 n1 n2 n3 n4:Nat}
open Go.RowKit Asn
set_option maxRecDepth 20000
def dy (N:Nat){σ:Type}(fy:(Int×(List Gu))→σ→Option (Bool×σ))(a1:Gw):Nat→Int→σ→Option σ
 |0,_,_=>none
 |m4+1,p5,p6=>bD (in64 (p5+4)) (bif decide (p5+4≤(a1.More.length:Int)) then (bD (in64 (p5+4)) (bD (in64 (p5+4)) (bD ((0:Int)≤p5∧(0:Int)≤p5+4∧p5.toNat≤(p5+4).toNat∧(p5+4).toNat≤a1.More.length) ((fy (p5,(a1.More.drop p5.toNat).take ((p5+4).toNat - p5.toNat)) p6).bind fun y13=>bif !y13.1 then (some y13.2) else (bD (in64 (p5+4)) ((dy N fy a1 m4) (p5+4) y13.2)))))) else (some p6))
def gv (N:Nat){σ:Type}(a1:Gw)(fy:(Int×(List Gu))→σ→Option (Bool×σ))(s0:σ):Option σ:=
 dy N fy a1 N 1 s0
theorem nV {N:Nat}{σ:Type}{a1:Gw}{fy:(Int×(List Gu))→σ→Option (Bool×σ)}{s0:σ}{r:σ}(h:gv N a1 fy s0=some r){l:Nat}{G:σ→List Chunk}(hY:mh Tryz.prog l G (fun (x:Int×(List Gu)) vs cs=> ∃A1 n1 c1,vs=[iV x.1,I A1 n1 c1]∧cs=[aS A1 n1 c1 x.2]) fy):Okc Tryz.prog 240 [.func (.yield l) #[] #[],pV B1 0] (cR B1 47 [iV a1.Kind,iV a1.Shape,iV a1.Flags,iV a1.Age,I A2 n2 c2,I A3 n3 c3]::aS A2 n2 c2 a1.Slots::aS A3 n3 c3 a1.More::(G s0)) (fun u post=>u=.tuple #[]∧post=G r):=by
 refine bx Tryz.func240 J J ?_;simp only [aU];refine V ?_;refine aZ (fun m s L=> ∃p5 p6,dy N fy a1 m p5 p6=some r∧s=[(0,.func (.yield l) #[] #[]),(1,pV B1 0),(3,iV p5)]∧L=aS A2 n2 c2 a1.Slots::aS A3 n3 c3 a1.More::cR B1 47 [iV a1.Kind,iV a1.Shape,iV a1.Flags,iV a1.Age,I A2 n2 c2,I A3 n3 c3]::(G p6)) N _ _ ⟨1,s0,h,J,J⟩ sA (cS [1,2,0] 3) ?_;rintro (_|m4) _ _ ⟨p5,p6,h,rfl,rfl⟩
 ·exact az h
 rw [dy.eq_2] at h;refine ay ?_;refine V ?_;obtain ⟨q7,h⟩:=am h;refine gE (aT J J q7.1 q7.2) ?_;refine V ?_;refine gR (dL 2 J J cz J) ?_;refine gR (aG 1 J ae J hO) ?_;refine V ?_;refine aq J (fun g8=> ?_) (fun g8=> ?_)
 ·replace h:=ag g8 h;refine V ?_;refine ay ?_;refine V ?_;refine gR (dL 2 J J cz J) ?_;refine V ?_;obtain ⟨q9,h⟩:=am h;refine gE (aT J J q9.1 q9.2) ?_;refine V ?_;obtain ⟨q10,h⟩:=am h;refine gE (aT J J q10.1 q10.2) ?_;obtain ⟨q11,h⟩:=am h;refine CD 1 J (l:=p5.toNat) (h:=(p5+4).toNat) q11.2.2.1 q11.2.2.2 ?_;rintro A12 n12 c12 e12;refine gR (zi 2 J e12 J hO aI J (by rw [Int.toNat_of_nonneg q11.1];rfl) (by rw [Int.toNat_of_nonneg q11.2.1];rfl) (by rw [Int.toNat_of_nonneg q11.2.1];rfl) q11.2.2.1 q11.2.2.2) ?_;obtain ⟨y13,hy13,h⟩:=aa h;refine gD (uZ (a:=(p5,(a1.More.drop p5.toNat).take ((p5+4).toNat - p5.toNat))) [aS A12 n12 c12 ((a1.More.drop p5.toNat).take ((p5+4).toNat - p5.toNat)),aS A2 n2 c2 a1.Slots,aS A3 n3 c3 a1.More,cR B1 47 [iV a1.Kind,iV a1.Shape,iV a1.Flags,iV a1.Age,I A2 n2 c2,I A3 n3 c3]] hY hy13 J J ⟨_,_,_,J,J⟩ (ej 0 J J)) ?_;rintro _ _ ⟨rfl,rfl⟩;refine V ?_;refine aq J (fun g14=> ?_) (fun g14=> ?_)
  ·replace h:=ag g14 h;refine V ?_;obtain rfl:=ao h;exact vo J (cS [] 4) ⟨J,J⟩
  replace h:=ah g14 h;refine V ?_;obtain ⟨q15,h⟩:=am h;refine gE (aT J J q15.1 q15.2) ?_;refine V ?_;exact ⟨m4,_,_,GD _,⟨p5+4,y13.2,h,J,J⟩,sA,cS [1,2,3] 4⟩
 replace h:=ah g8 h;refine V ?_;obtain rfl:=ao h;exact lN J (cS [] 3) ⟨J,J⟩
def ja (N:Nat)(a0:Gw):Option Unit:=
 some ()
theorem qF {N:Nat}{a0:Gw}{r:Unit}(h:ja N a0=some r):Okc Tryz.prog 194 [.agg #[iV a0.Kind,iV a0.Shape,iV a0.Flags,iV a0.Age,I A1 n1 c1,I A2 n2 c2]] ([aS A1 n1 c1 a0.Slots,aS A2 n2 c2 a0.More]) (fun u post=> ∃B900,u=.func (.func 240) #[] #[pV B900 0]∧post=[aw B900 47 [iV a0.Kind,iV a0.Shape,iV a0.Flags,iV a0.Age,I A1 n1 c1,I A2 n2 c2]]):=by
 refine bx Tryz.func194 J J ?_;simp only [aU];refine V ?_;refine gD (aX J J) ?_;rintro _ _ ⟨B3,rfl,rfl⟩;refine V ?_;refine gE (fm J) ?_;refine V ?_;obtain rfl:=ao h;exact aL J J (cS [0] 3) ⟨_,J,J⟩
theorem oU {a0:Gw}{A1:Option Addr}{n1:Nat}{c1:Nat}{A2:Option Addr}{n2:Nat}{c2:Nat}: ∀v post,((fun (u:Value) (post:List Chunk)=> ∃B900,u=.func (.func 240) #[] #[pV B900 0]∧post=[aw B900 47 [iV a0.Kind,iV a0.Shape,iV a0.Flags,iV a0.Age,I A1 n1 c1,I A2 n2 c2]])) v post→ ∀c∈post,bR c:=by
 rintro _ _ ⟨_,rfl,rfl⟩;exact hJ mf (ai)
def gp (N:Nat)(x28:(Int×(List Gu)))(a0:Gw)(p14:(List (Int×Bool)))(y21:(Gw))(p30:(List Gu))(p31:(List Gu))(p46:Int)(p47:Int)(p48:ByteArray):Option (Option Exit×(List Gu)×(List Gu)):=
 (aH x28.2 0).bind fun x51=>(aH x28.2 1).bind fun x52=>(aH x28.2 3).bind fun x53=>bD (bN (p30.length+([x51,x52,(⟨p46,p47,p48⟩:Gu),x53]:List Gu).length)) (some (none,(p30++([x51,x52,(⟨p46,p47,p48⟩:Gu),x53]:List Gu),p31)))
def dq (N:Nat)(a0:Gw)(p14:(List (Int×Bool)))(y21:(Gw))(x28:Int×(List Gu)):((List Gu)×(List Gu))→Option (Option Exit×((List Gu)×(List Gu)))
 |(p30,p31)=>(aH x28.2 0).bind fun x34=>bif !((lk p14 x34.N).getD false) then ((aH a0.More 0).bind fun x36=>(aH x28.2 1).bind fun x37=>(aH x28.2 3).bind fun x38=>bD (bN (p31.length+([x36,x37,x38]:List Gu).length)) (some (none,(p30,p31++([x36,x37,x38]:List Gu))))) else ((aH x28.2 2).bind fun x43=>(bif decide (x43.Kind=7) then (some (!((lk p14 x43.N).getD false))) else (some false)).bind fun b49=>bif b49 then (gp N x28 a0 p14 y21 p30 p31 0 0 (⟨#[]⟩)) else (gp N x28 a0 p14 y21 p30 p31 x43.Kind x43.N x43.S))
def jb (N:Nat)(a0:Gw)(p14:(List (Int×Bool))):Option (Gw×(List Gu)):=
 (lK N a0).bind fun y21=>(ja N a0).bind fun y26=>(gv N a0 (bW (fun x st=>dq N a0 p14 y21 x st)) (none,(y21.More,[]))).bind fun y32=>lw y32.1 (some ((⟨y21.Kind,y21.Shape,y21.Flags,y21.Age,y21.Slots,y32.2.1⟩:Gw),y32.2.2)) none (fun _=>none)
def d9 (N:Nat)(a1:(List Int))(a0:Gw):Nat→Int→(List (Int×Bool))→Option (Gw×(List Gu))
 |0,_,_=>none
 |m15+1,p16,p17=>bif decide (p16<(a1.length:Int)) then ((aH a1 p16).bind fun x19=>bD (in64 (p16+1)) ((d9 N a1 a0 m15) (p16+1) (uf p17 x19 true))) else (jb N a0 p17)
def iK (N:Nat)(a0:Gw)(a1:(List Int)):Option (Gw×(List Gu)):=
 (lr N a0).bind fun y6=>bif !y6 then (some ((⟨0,0,0,0,[],[]⟩:Gw),[])) else (d9 N a1 a0 N 0 ([]:(List (Int×Bool))))
set_option maxHeartbeats 4000000 in
theorem sq {N:Nat}{a0:Gw}{a1:(List Int)}{r:(Gw×(List Gu))}(h:iK N a0 a1=some r):Okc Tryz.prog 119 [.agg #[iV a0.Kind,iV a0.Shape,iV a0.Flags,iV a0.Age,I A1 n1 c1,I A2 n2 c2],I A3 n3 c3] ([aS A1 n1 c1 a0.Slots,aS A2 n2 c2 a0.More,eM A3 n3 c3 a1]) (fun u post=> ∃A0 n0 c0 A1 n1 c1 A2 n2 c2,u=.tuple #[.agg #[iV r.1.Kind,iV r.1.Shape,iV r.1.Flags,iV r.1.Age,I A0 n0 c0,I A1 n1 c1],I A2 n2 c2]∧post=[cB A0 n0 c0 r.1.Slots,cB A1 n1 c1 r.1.More,cB A2 n2 c2 r.2]):=by
 refine bx Tryz.func119 J J ?_;simp only [aU];refine V ?_;refine gD (aX J J) ?_;rintro _ _ ⟨B4,rfl,rfl⟩;refine gD (aM dD J) ?_;rintro _ _ ⟨B5,rfl,rfl⟩;refine V ?_;refine ay ?_;refine V ?_;refine gR (aC (us:=[iV a0.Kind,iV a0.Shape,iV a0.Flags,iV a0.Age,I A1 n1 c1,I A2 n2 c2]) 1 J J bo J) ?_;obtain ⟨y6,hy6,h⟩:=aa h;refine gD (ak (wo hy6) Dz J (hJ (ap (i:=2) J J) (hJ (ap (i:=3) J J) ai)) tT) ?_;rintro _ _ ⟨_,⟨rfl,rfl⟩,rfl⟩;refine V ?_;refine aq J (fun g7=> ?_) (fun g7=> ?_)
 ·replace h:=ag g7 h;refine V ?_;refine gE (bJ J (oL)) ?_;refine gO (au (us:=[iV 0,iV 0,iV 0,iV 0,I none 0 0,I none 0 0]) (cs':=[iV 0,iV 0,iV 0,iV 0,I none 0 0,I none 0 0]) 0 J J J J bu J J J) ?_;rintro _ _ rfl;refine V ?_;obtain rfl:=ao h;exact dl (rs:=[.cell 4 47,.tmp 5]) (vs:=[.agg #[iV 0,iV 0,iV 0,iV 0,I none 0 0,I none 0 0],I none 0 0]) J (.cons (bY 0 J J bo) (.cons (im J) .nil)) J ((bL aF 52 _).trans ((bL aF 52 _).trans ((bL aF 52 _).trans (cS [2,1,0] 8)))) ⟨_,_,_,_,_,_,_,_,_,J,J⟩
 replace h:=ah g7 h;refine V ?_;refine gR (aG 4 J ae J hU) ?_;refine gD (xm (ek:=kN) (ev:=De) J Gp) ?_;rintro _ _ ⟨M11,rfl,rfl⟩;refine gD (aM CG J) ?_;rintro _ _ ⟨B12,rfl,rfl⟩;refine gO (au (us:=[.map (some M11)]) (cs':=[.map (some M11)]) 0 J J J J CQ J J J) ?_;rintro _ _ rfl;refine V ?_;refine aP (fun s L=> ∃p14,jb N a0 p14=some r∧s=[(2,pV B4 0),(4,pV B5 0),(5,I none 0 0),(6,pV B12 0)]∧L=[aS A1 n1 c1 a0.Slots,aS A2 n2 c2 a0.More,aw B4 47 [iV a0.Kind,iV a0.Shape,iV a0.Flags,iV a0.Age,I A1 n1 c1,I A2 n2 c2],aw B5 47 [iV 0,iV 0,iV 0,iV 0,I none 0 0,I none 0 0],dN kN De M11 p14,aw B12 151 [.map (some M11)]]) ?_ ?_
 ·refine V ?_;refine gR (aG 6 J ae J hU) ?_;refine V ?_;refine aZ (fun m s L=> ∃p16 p17,d9 N a1 a0 m p16 p17=some r∧s=[(2,pV B4 0),(4,pV B5 0),(5,I none 0 0),(6,pV B12 0),(21,I A3 n3 c3),(22,iV (a1.length:Int)),(23,iV p16)]∧L=[eM A3 n3 c3 a1,aS A1 n1 c1 a0.Slots,aS A2 n2 c2 a0.More,aw B4 47 [iV a0.Kind,iV a0.Shape,iV a0.Flags,iV a0.Age,I A1 n1 c1,I A2 n2 c2],aw B5 47 [iV 0,iV 0,iV 0,iV 0,I none 0 0,I none 0 0],dN kN De M11 p17,aw B12 151 [.map (some M11)]]) N _ _ ⟨0,([]:(List (Int×Bool))),h,J,J⟩ sA (cS [6,4,5,3,2,1,0] 7) ?_;rintro (_|m15) _ _ ⟨p16,p17,h,rfl,rfl⟩
  ·exact az h
  rw [d9.eq_2] at h;refine V ?_;refine ay ?_;refine aq J (fun g18=> ?_) (fun g18=> ?_)
  ·replace h:=ag g18 h;refine V ?_;refine ay ?_;refine V ?_;obtain ⟨x19,hx19,h⟩:=aa h;obtain ⟨lx19,ux19,hx19⟩:=aj hx19;refine gR (aB 0 J ae J J hU dj lx19 ux19) ?_;refine gR (aW (u:=iV x19) 0 J ae J hx19 cM (fun _ _ _ h=>by rw [show _=_ from h];rfl)) ?_;refine V ?_;refine gO (ke (a:=x19) (b:=true) 5 J J J J Gp (gn t5)) ?_;rintro _ _ rfl;refine bX ?_;refine V ?_;obtain ⟨q20,h⟩:=am h;refine gE (aT J J q20.1 q20.2) ?_;refine V ?_;exact ⟨m15,_,_,GD _,⟨p16+1,uf p17 x19 true,h,J,J⟩,sA,cS [0,1,2,3,4,5,6] 7⟩
  replace h:=ah g18 h;refine V ?_;exact ⟨_,_,⟨p17,h,J,J⟩,sA,cS [1,2,3,4,5,6] 7⟩
 rintro _ _ ⟨p14,h,rfl,rfl⟩;refine V ?_;refine gR (aC (us:=[iV a0.Kind,iV a0.Shape,iV a0.Flags,iV a0.Age,I A1 n1 c1,I A2 n2 c2]) 2 J J bo J) ?_;obtain ⟨y21,hy21,h⟩:=aa h;refine gD (ak (tU hy21) Dy J (hJ (ap (i:=0) J J) (hJ (ap (i:=1) J J) ai)) rj) ?_;rintro _ _ ⟨_,⟨A22,n22,c22,A23,n23,c23,rfl,rfl⟩,rfl⟩;refine gD (aM dD J) ?_;rintro _ _ ⟨B24,rfl,rfl⟩;refine gO (au (us:=[iV y21.Kind,iV y21.Shape,iV y21.Flags,iV y21.Age,I A22 n22 c22,I A23 n23 c23]) (cs':=[iV y21.Kind,iV y21.Shape,iV y21.Flags,iV y21.Age,I A22 n22 c22,I A23 n23 c23]) 0 J J J J bu J J J) ?_;rintro _ _ rfl;refine V ?_;refine gD (aM Ba J) ?_;rintro _ _ ⟨B25,rfl,rfl⟩;refine V ?_;refine ay ?_;refine V ?_;refine gR (aC (us:=[iV a0.Kind,iV a0.Shape,iV a0.Flags,iV a0.Age,I A1 n1 c1,I A2 n2 c2]) 6 J J bo J) ?_;obtain ⟨y26,hy26,h⟩:=aa h;refine gD (ak (qF hy26) Dx J (hJ (ap (i:=4) J J) (hJ (ap (i:=5) J J) ai)) oU) ?_;rintro _ _ ⟨_,⟨B27,rfl,rfl⟩,rfl⟩;refine mj ?_;refine jB ?_;refine dP ?_ bH (fP 0 J);obtain ⟨y32,hy32,h⟩:=aa h
 refine vE (R:=(fun (x:Int×(List Gu)) vs cs=> ∃A1 n1 c1,vs=[iV x.1,I A1 n1 c1]∧cs=[aS A1 n1 c1 x.2])) (fun x st=>dq N a0 p14 y21 x st) (fun (st:(List Gu)×(List Gu)) (mz:((Option Addr×Nat×Nat)×(Option Addr×Nat×Nat)))=> [aS A1 n1 c1 a0.Slots,aS A2 n2 c2 a0.More,aw B4 47 [iV a0.Kind,iV a0.Shape,iV a0.Flags,iV a0.Age,I A1 n1 c1,I A2 n2 c2],aw B5 47 [iV 0,iV 0,iV 0,iV 0,I none 0 0,I none 0 0],dN kN De M11 p14,aw B12 151 [.map (some M11)],cB A22 n22 c22 y21.Slots,dQ aF 52 (.slice mz.1.1 mz.1.2.1 mz.1.2.2) st.1,aw B24 47 [iV y21.Kind,iV y21.Shape,iV y21.Flags,iV y21.Age,I A22 n22 c22,.slice mz.1.1 mz.1.2.1 mz.1.2.2],dQ aF 52 (.slice mz.2.1 mz.2.2.1 mz.2.2.2) st.2,aw B25 38 [.slice mz.2.1 mz.2.2.1 mz.2.2.2]]) [cR B27 47 [iV a0.Kind,iV a0.Shape,iV a0.Flags,iV a0.Age,I A1 n1 c1,I A2 n2 c2],aS A1 n1 c1 a0.Slots,aS A2 n2 c2 a0.More] ((y21.More,[])) (((A23,n23,c23),(none,0,0))) J J Dn J (by rintro _ _ _ ⟨_,_,_,rfl,rfl⟩;rfl) (fun l G hY=>(nV hy32 hY).mono fun _ _ hh=>hh.2) ((bL aF 52 _).trans (bq [1,6,7] [] [6,7,8,9,10,11,4,5,3,0,2] 12 J)) h ?_ ?_ ?_ ?_
 ·rintro l x28 ⟨p30,p31⟩ je sr28 ⟨⟨A30,n30,c30⟩,⟨A31,n31,c31⟩⟩ h _ _ ⟨A29,n29,c29,rfl,rfl⟩;replace h:dq N a0 p14 y21 x28 (p30,p31)=some (je,sr28):=h;simp only [pJ,List.zip_cons_cons,List.zip_nil_left,List.zip_nil_right,List.reverse_cons,List.reverse_nil,List.nil_append,List.cons_append];refine V ?_;refine ay ?_;refine ay ?_;refine cy O _ (ab _) ?_;refine zR 0 J (aR 6 J J BE J) ?_;refine zE 1 J (ax J) ?_;obtain ⟨x34,hx34,h⟩:=aa h;obtain ⟨lx34,ux34,hx34⟩:=aj hx34;refine zR 2 J (aB 0 J ae J J hO aI lx34 ux34) ?_;refine zR 3 J (lc 0 J ae J (bB lx34 ux34) iL) ?_;refine zR 4 J (aW (u:=iV x34.N) 0 J ae J hx34 cM (fun _ _ _ h=>by rw [show _=_ from h];rfl)) ?_;refine zR 5 J (xa (a:=x34.N) (z:=false) 5 J we J J Gp (gn t5) zc) ?_;refine zE 6 J (rl J) ?_;refine cx O ?_;refine jB ?_;refine aq J (fun g35=> ?_) (fun g35=> ?_)
  ·replace h:=ag g35 h;refine ay ?_;obtain ⟨x36,hx36,h⟩:=aa h;obtain ⟨lx36,ux36,hx36⟩:=aj hx36;obtain ⟨x37,hx37,h⟩:=aa h;obtain ⟨lx37,ux37,hx37⟩:=aj hx37;obtain ⟨x38,hx38,h⟩:=aa h;obtain ⟨lx38,ux38,hx38⟩:=aj hx38;refine dP (t:=[(2,pV B4 0),(4,pV B5 0),(5,I none 0 0),(6,pV B12 0),(9,pV B24 0),(10,pV B25 0),(12,I A29 n29 c29)]) ?_ gA (ab _)
   refine eR O 12 [] [0,11] [43,44,45,46,47,48,49,50,51,52,53,54] [[],[],[1],[2],[3],[],[5],[6],[],[8],[9],[4,7,10]] [aV (I A31 n31 c31),
aV (pV B4 5),
aV (I A2 n2 c2),
aV (bO (I A2 n2 c2) ((0:Int).toNat) 3 0),
aV ((bd x36)),
aV (I A29 n29 c29),
aV (bO (I A29 n29 c29) ((1:Int).toNat) 3 0),
aV ((bd x37)),
aV (I A29 n29 c29),
aV (bO (I A29 n29 c29) ((3:Int).toNat) 3 0),
aV ((bd x38)),
aX3 (fun (A40:Option Addr) (n40 c40:Nat)=> I A40 n40 c40) (fun A40 n40 c40=> [cB A40 n40 c40 ([x36,x37,x38]:List Gu)])] [] (ab _) (gu) O rfl rfl ?_ ?_ ?_
   ·exact gt
   ·refine ac J ?_ ?_
    ·refine fx (aN (R:=aF) (vss:=[(ar x36),(ar x37),(ar x38)]) (xs:=[x36,x37,x38]) J (t7 _ _ _ _ _ _ _ _ _) J J (fun _ _ hr=> .cons J (.cons J (.cons J All2.nil)))) J ?_;rintro _ _ ⟨A39,n39,c39,rfl,rfl⟩;exact iT A39 n39 c39 (ab _)
    refine ac J ?_ ?_
    ·exact bT (aQ (us:=ar x38) 0 J ae J hx38 bn (fun _ _ _ h=>by rw [show _=_ from h];rfl)) J (aA J (ab _))
    refine ac J ?_ ?_
    ·exact bT (aB 0 J ae J J hO aI lx38 ux38) J (aA J (ab _))
    refine ac J ?_ ?_
    ·exact bh (ax J) J (aA J (ab _))
    refine ac J ?_ ?_
    ·exact bT (aQ (us:=ar x37) 0 J ae J hx37 bn (fun _ _ _ h=>by rw [show _=_ from h];rfl)) J (aA J (ab _))
    refine ac J ?_ ?_
    ·exact bT (aB 0 J ae J J hO aI lx37 ux37) J (aA J (ab _))
    refine ac J ?_ ?_
    ·exact bh (ax J) J (aA J (ab _))
    refine ac J ?_ ?_
    ·exact bT (aQ (us:=ar x36) 2 J ae J hx36 bn (fun _ _ _ h=>by rw [show _=_ from h];rfl)) J (aA J (ab _))
    refine ac J ?_ ?_
    ·exact bT (aB 2 J ae J J hO aI lx36 ux36) J (aA J (ab _))
    refine ac J ?_ ?_
    ·exact bT (aR 3 J J cz J) J (aA J (ab _))
    refine ac J ?_ ?_
    ·exact bh (bQ J ce) J (aA J (ab _))
    refine ac J ?_ ?_
    ·exact bT (aR 11 J J cz J) J (aA J (ab _))
    exact dh
   intro A40 n40 c40;refine gP (t:=[(43,I A31 n31 c31),(54,I A40 n40 c40),(2,pV B4 0),(4,pV B5 0),(5,I none 0 0),(6,pV B12 0),(9,pV B24 0),(10,pV B25 0),(12,I A29 n29 c29)]) (L':=[cB A40 n40 c40 ([x36,x37,x38]:List Gu),aS A29 n29 c29 x28.2,aS A1 n1 c1 a0.Slots,aS A2 n2 c2 a0.More,aw B4 47 [iV a0.Kind,iV a0.Shape,iV a0.Flags,iV a0.Age,I A1 n1 c1,I A2 n2 c2],aw B5 47 [iV 0,iV 0,iV 0,iV 0,I none 0 0,I none 0 0],dN kN De M11 p14,aw B12 151 [.map (some M11)],cB A22 n22 c22 y21.Slots,cB A30 n30 c30 p30,aw B24 47 [iV y21.Kind,iV y21.Shape,iV y21.Flags,iV y21.Age,I A22 n22 c22,I A30 n30 c30],cB A31 n31 c31 p31,aw B25 38 [I A31 n31 c31]]) ?_ gA (ab _);obtain ⟨q41,h⟩:=am h;refine kR 12 J O (ba 11 0 J J aJ J J hO nn J J q41) J J J ?_;rintro _ _ ⟨A42,n42,c42,rfl,rfl⟩;refine qu ?_;refine nh 13 J O (au (us:=[I A42 n42 c42]) (cs':=[I A42 n42 c42]) 12 J J J J eJ J J J) J J ?_;rintro _ _ rfl;refine gx O ?_;refine V ?_;obtain ⟨rfl,rfl⟩:=Prod.mk.inj (Option.some.inj h);exact rv ((cS [2,3,4,5,6,7,8,9,10,11,12] 13).trans (dm ((A30,n30,c30),(A42,n42,c42)) J))
  replace h:=ah g35 h;refine V ?_;obtain ⟨x43,hx43,h⟩:=aa h;obtain ⟨lx43,ux43,hx43⟩:=aj hx43;refine gR (aB 0 J ae J J hO aI lx43 ux43) ?_;refine gR (aQ (us:=ar x43) 0 J ae J hx43 bn (fun _ _ _ h=>by rw [show _=_ from h];rfl)) ?_;refine gD (aM gr J) ?_;rintro _ _ ⟨B44,rfl,rfl⟩;refine gO (au (us:=ar x43) (cs':=ar x43) 0 J J J J aI J J J) ?_;rintro _ _ rfl;refine V ?_;refine aP (fun s L=> ∃p46 p47 p48,gp N x28 a0 p14 y21 p30 p31 p46 p47 p48=some (je,sr28)∧s=[(2,pV B4 0),(4,pV B5 0),(5,I none 0 0),(6,pV B12 0),(9,pV B24 0),(10,pV B25 0),(12,I A29 n29 c29),(13,pV B44 0)]∧L=[aS A29 n29 c29 x28.2,aS A1 n1 c1 a0.Slots,aS A2 n2 c2 a0.More,aw B4 47 [iV a0.Kind,iV a0.Shape,iV a0.Flags,iV a0.Age,I A1 n1 c1,I A2 n2 c2],aw B5 47 [iV 0,iV 0,iV 0,iV 0,I none 0 0,I none 0 0],dN kN De M11 p14,aw B12 151 [.map (some M11)],cB A22 n22 c22 y21.Slots,cB A30 n30 c30 p30,aw B24 47 [iV y21.Kind,iV y21.Shape,iV y21.Flags,iV y21.Age,I A22 n22 c22,I A30 n30 c30],cB A31 n31 c31 p31,aw B25 38 [I A31 n31 c31],aw B44 52 [iV p46,iV p47,.string p48]]) ?_ ?_
  ·refine V ?_;obtain ⟨b49,hb49,h⟩:=aa h;refine aD 6 68 b49 ?_ ?_
   ·clear h;refine aE 62 J (fun g49=> ?_) (fun g49=> ?_)
    ·have h:=ag g49 hb49;refine V ?_;refine bA (xa (a:=x43.N) (z:=false) 6 J we J J Gp (gn t5) zc) J (aO g49 J) J ?_;refine V ?_;obtain rfl:=ao h;exact ad sA (cS [0,1,2,3,4,5,6,7,8,9,10,11,12] 13)
    have h:=ah g49 hb49;refine V ?_;obtain rfl:=ao h;exact ad sA (cS [0,1,2,3,4,5,6,7,8,9,10,11,12] 13)
   refine V ?_;refine aq J (fun g50=> ?_) (fun g50=> ?_)
   ·replace h:=ag g50 h;refine dA ?_;refine gE (bJ J (wG)) ?_;refine gO (au (us:=[iV 0,iV 0,.string (⟨#[]⟩)]) (cs':=[iV 0,iV 0,.string (⟨#[]⟩)]) 0 J J J J aI J J J) ?_;rintro _ _ rfl;refine bX ?_;refine V ?_;exact ⟨_,_,⟨0,0,⟨#[]⟩,h,J,J⟩,sA,cS [1,2,3,4,5,6,7,8,9,10,11,12,0] 13⟩
   replace h:=ah g50 h;refine V ?_;exact ⟨_,_,⟨x43.Kind,x43.N,x43.S,h,J,J⟩,sA,cS [1,2,3,4,5,6,7,8,9,10,11,12,0] 13⟩
  rintro _ _ ⟨p46,p47,p48,h,rfl,rfl⟩;refine cy O ([aS A29 n29 c29 x28.2,aS A1 n1 c1 a0.Slots,aS A2 n2 c2 a0.More,aw B4 47 [iV a0.Kind,iV a0.Shape,iV a0.Flags,iV a0.Age,I A1 n1 c1,I A2 n2 c2],aw B5 47 [iV 0,iV 0,iV 0,iV 0,I none 0 0,I none 0 0],dN kN De M11 p14,aw B12 151 [.map (some M11)],cB A22 n22 c22 y21.Slots,aw B24 47 [iV y21.Kind,iV y21.Shape,iV y21.Flags,iV y21.Age,I A22 n22 c22,I A30 n30 c30],cB A31 n31 c31 p31,aw B25 38 [I A31 n31 c31],aw B44 52 [iV p46,iV p47,.string p48]]) (cS [0,1,2,3,4,5,6,7,9,10,11,12] 13) ?_;refine zE 0 J (bQ J ce) ?_;refine zR 1 J (aR 8 J J cz J) ?_;refine zE 2 J (ax J) ?_;obtain ⟨x51,hx51,h⟩:=aa h;obtain ⟨lx51,ux51,hx51⟩:=aj hx51;refine zR 3 J (aB 0 J ae J J hO aI lx51 ux51) ?_;refine zR 4 J (aQ (us:=ar x51) 0 J ae J hx51 bn (fun _ _ _ h=>by rw [show _=_ from h];rfl)) ?_;refine zE 5 J (ax J) ?_;obtain ⟨x52,hx52,h⟩:=aa h;obtain ⟨lx52,ux52,hx52⟩:=aj hx52;refine zR 6 J (aB 0 J ae J J hO aI lx52 ux52) ?_;refine zR 7 J (aQ (us:=ar x52) 0 J ae J hx52 bn (fun _ _ _ h=>by rw [show _=_ from h];rfl)) ?_;refine zR 8 J (aC (us:=[iV p46,iV p47,.string p48]) 11 J J bn J) ?_;refine zE 9 J (ax J) ?_;obtain ⟨x53,hx53,h⟩:=aa h;obtain ⟨lx53,ux53,hx53⟩:=aj hx53;refine zR 10 J (aB 0 J ae J J hO aI lx53 ux53) ?_
  refine zR 11 J (aQ (us:=ar x53) 0 J ae J hx53 bn (fun _ _ _ h=>by rw [show _=_ from h];rfl)) ?_;refine zD 12 J (aN (R:=aF) (vss:=[(ar x51),(ar x52),[iV p46,iV p47,.string p48],(ar x53)]) (xs:=[x51,x52,(⟨p46,p47,p48⟩:Gu),x53]) J (xQ _ _ _ _ _ _ _ _ _ _ _ _) J J (fun _ _ hr=> .cons J (.cons J (.cons J (.cons J All2.nil))))) ?_;rintro _ _ ⟨A54,n54,c54,rfl,rfl⟩;refine gX (cS [1,2,3,4,5,6,7,8,10,11,12,13] 14) ?_;obtain ⟨q55,h⟩:=am h;refine zD 13 J (ba 9 0 J J aJ J J hO nn J J q55) ?_;rintro _ _ ⟨A56,n56,c56,rfl,rfl⟩;refine gX (cS [1,2,3,4,5,6,7,8,10,11,12,13] 14) ?_;refine zE 14 J (bQ J ce) ?_;refine oM 15 J O O (au (us:=[I A56 n56 c56]) (cs':=[iV y21.Kind,iV y21.Shape,iV y21.Flags,iV y21.Age,I A22 n22 c22,I A56 n56 c56]) 10 J J J J eJ J J J) ?_;rintro _ _ rfl;refine cx O ?_;refine DX ?_;obtain ⟨rfl,rfl⟩:=Prod.mk.inj (Option.some.inj h);exact rv ((cS [2,3,4,5,6,7,8,9,10,11,12] 14).trans (dm ((A56,n56,c56),(A31,n31,c31)) J))
 ·rintro ⟨⟨A30,n30,c30⟩,⟨A31,n31,c31⟩⟩ h;refine iR ([aS A1 n1 c1 a0.Slots,aS A2 n2 c2 a0.More,aw B4 47 [iV a0.Kind,iV a0.Shape,iV a0.Flags,iV a0.Age,I A1 n1 c1,I A2 n2 c2],aw B5 47 [iV 0,iV 0,iV 0,iV 0,I none 0 0,I none 0 0],dN kN De M11 p14,aw B12 151 [.map (some M11)],cB A22 n22 c22 y21.Slots,cB A30 n30 c30 y32.2.1,aw B24 47 [iV y21.Kind,iV y21.Shape,iV y21.Flags,iV y21.Age,I A22 n22 c22,I A30 n30 c30],cB A31 n31 c31 y32.2.2,aw B25 38 [I A31 n31 c31]]) J ?_;refine V ?_;refine ay ?_;refine cy O ([aS A1 n1 c1 a0.Slots,aS A2 n2 c2 a0.More,aw B4 47 [iV a0.Kind,iV a0.Shape,iV a0.Flags,iV a0.Age,I A1 n1 c1,I A2 n2 c2],dN kN De M11 p14,aw B12 151 [.map (some M11)],cB A22 n22 c22 y21.Slots,cB A30 n30 c30 y32.2.1,aw B24 47 [iV y21.Kind,iV y21.Shape,iV y21.Flags,iV y21.Age,I A22 n22 c22,I A30 n30 c30],cB A31 n31 c31 y32.2.2,aw B25 38 [I A31 n31 c31]]) (cS [0,1,2,4,5,6,7,8,9,10] 11) ?_;refine zR 0 J (aC (us:=[iV y21.Kind,iV y21.Shape,iV y21.Flags,iV y21.Age,I A22 n22 c22,I A30 n30 c30]) 7 J J bo J) ?_;refine zR 1 J (aR 9 J J cz J) ?_;refine zO 2 J (au (us:=[iV y21.Kind,iV y21.Shape,iV y21.Flags,iV y21.Age,I A22 n22 c22,I A30 n30 c30]) (cs':=[iV y21.Kind,iV y21.Shape,iV y21.Flags,iV y21.Age,I A22 n22 c22,I A30 n30 c30]) 3 J J J J bu J J J) ?_;rintro _ _ rfl;refine gX (cS [0,1,2,4,5,6,7,8,9,10] 11) ?_;refine zE 3 J (bz J) ?_
  refine cx O ?_;refine V ?_;obtain rfl:=ao h;exact dl (rs:=[.cell 4 47,.tmp 5]) (vs:=[.agg #[iV y21.Kind,iV y21.Shape,iV y21.Flags,iV y21.Age,I A22 n22 c22,I A30 n30 c30],I A31 n31 c31]) J (.cons (bY 3 J J bo) (.cons (im J) .nil)) J (cS [6,7,9] 11) ⟨_,_,_,_,_,_,_,_,_,J,J⟩
 ·rintro ⟨⟨A30,n30,c30⟩,⟨A31,n31,c31⟩⟩ h;exact az h
 rintro i ⟨⟨A30,n30,c30⟩,⟨A31,n31,c31⟩⟩ h;exact az h
theorem qG {r:(Gw×(List Gu))}: ∀v post,((fun (u:Value) (post:List Chunk)=> ∃A0 n0 c0 A1 n1 c1 A2 n2 c2,u=.tuple #[.agg #[iV r.1.Kind,iV r.1.Shape,iV r.1.Flags,iV r.1.Age,I A0 n0 c0,I A1 n1 c1],I A2 n2 c2]∧post=[cB A0 n0 c0 r.1.Slots,cB A1 n1 c1 r.1.More,cB A2 n2 c2 r.2])) v post→ ∀c∈post,bR c:=by
 rintro _ _ ⟨_,_,_,_,_,_,_,_,_,rfl,rfl⟩;exact hJ bm (hJ bm (hJ bm (ai)))
def nT (N:Nat)(p4:(List Gu)):Option (List Gu):=
 some p4
def gS (N:Nat)(kb5:(List Gu)→Int→Option (List Gu))(a0:(List Gu))(p7:Int)(a1:(List (Int×Int)))(p6:(List Gu))(x10:Gu)(p13:Int):Option (List Gu):=
 bD (bN (p6.length+([(⟨x10.Kind,p13,x10.S⟩:Gu)]:List Gu).length)) (bD (in64 (p7+1)) (kb5 (p6++([(⟨x10.Kind,p13,x10.S⟩:Gu)]:List Gu)) (p7+1)))
def dw (N:Nat)(a0:(List Gu))(a1:(List (Int×Int))):Nat→(List Gu)→Int→Option (List Gu)
 |0,_,_=>none
 |m5+1,p6,p7=>bif decide (p7<(a0.length:Int)) then ((aH a0 p7).bind fun x10=>(bif (lk a1 x10.N).isSome then ((bif decide (x10.Kind=7) then (some true) else (some (decide (x10.Kind=9)))).bind fun b15=>some b15) else (some false)).bind fun b14=>bif b14 then (gS N (dw N a0 a1 m5) a0 p7 a1 p6 x10 ((lk a1 x10.N).getD 0)) else (gS N (dw N a0 a1 m5) a0 p7 a1 p6 x10 x10.N)) else (nT N p6)
def eL (N:Nat)(a0:(List Gu))(a1:(List (Int×Int))):Option (List Gu):=
 dw N a0 a1 N [] 0
set_option maxHeartbeats 4000000 in
theorem iG {N:Nat}{a0:(List Gu)}{a1:(List (Int×Int))}{r:(List Gu)}(h:eL N a0 a1=some r):Okc Tryz.prog 120 [I A1 n1 c1,.map (some M2)] ([aS A1 n1 c1 a0,Bm kN CF M2 a1]) (fun u post=> ∃A0 n0 c0,u=I A0 n0 c0∧post=[cB A0 n0 c0 r]):=by
 refine bx Tryz.func120 J J ?_;simp only [aU];refine V ?_;refine aP (fun s L=> ∃p4 A4 n4 c4,nT N p4=some r∧s=[(4,I none 0 0),(5,I A4 n4 c4)]∧L=[cB A4 n4 c4 p4]) ?_ ?_
 ·refine V ?_;refine gR (aG 0 J ae J hO) ?_;refine V ?_;refine aZ (fun m s L=> ∃p6 p7 A6 n6 c6,dw N a0 a1 m p6 p7=some r∧s=[(1,.map (some M2)),(4,I none 0 0),(5,I A6 n6 c6),(10,I A1 n1 c1),(11,iV (a0.length:Int)),(12,iV p7)]∧L=[Bm kN CF M2 a1,cB A6 n6 c6 p6,aS A1 n1 c1 a0]) N _ _ ⟨[],0,none,0,0,h,J,J⟩ sA ((bL aF 52 _).trans (cS [2,0,1] 3)) ?_;rintro (_|m5) _ _ ⟨p6,p7,A6,n6,c6,h,rfl,rfl⟩
  ·exact az h
  rw [dw.eq_2] at h;refine V ?_;refine ay ?_;refine aq J (fun g9=> ?_) (fun g9=> ?_)
  ·replace h:=ag g9 h;refine V ?_;refine ay ?_;refine V ?_;obtain ⟨x10,hx10,h⟩:=aa h;obtain ⟨lx10,ux10,hx10⟩:=aj hx10;refine gR (aB 2 J ae J J hO aI lx10 ux10) ?_;refine gR (aQ (us:=ar x10) 2 J ae J hx10 bn (fun _ _ _ h=>by rw [show _=_ from h];rfl)) ?_;refine gD (aM gr J) ?_;rintro _ _ ⟨B11,rfl,rfl⟩;refine gO (au (us:=ar x10) (cs':=ar x10) 0 J J J J aI J J J) ?_;rintro _ _ rfl;refine V ?_;refine aP (fun s L=> ∃p13,gS N (dw N a0 a1 m5) a0 p7 a1 p6 x10 p13=some r∧s=[(1,.map (some M2)),(4,I none 0 0),(5,I A6 n6 c6),(7,pV B11 0),(10,I A1 n1 c1),(11,iV (a0.length:Int)),(12,iV p7)]∧L=[Bm kN CF M2 a1,cB A6 n6 c6 p6,aS A1 n1 c1 a0,aw B11 52 [iV x10.Kind,iV p13,.string x10.S]]) ?_ ?_
   ·refine V ?_;refine gR (tf (a:=x10.N) (z:=0) 1 J Es J J Tryz.underlying137 (gn t5) E0) ?_;refine V ?_;obtain ⟨b14,hb14,h⟩:=aa h;refine aD 9 33 b14 ?_ ?_
    ·clear h;refine aE 24 J (fun g14=> ?_) (fun g14=> ?_)
     ·have h:=ag g14 hb14;refine V ?_;obtain ⟨b15,hb15,h⟩:=aa h;refine aD 4 32 b15 ?_ ?_
      ·clear h;refine aE 28 J (fun g15=> ?_) (fun g15=> ?_)
       ·have h:=ag g15 hb15;refine V ?_;obtain rfl:=ao h;exact ad sA (cS [0,1,2,3] 4)
       have h:=ah g15 hb15;refine V ?_;obtain rfl:=ao h;exact ad sA (cS [0,1,2,3] 4)
      refine V ?_;obtain rfl:=ao h;exact ad sA (cS [0,1,2,3] 4)
     have h:=ah g14 hb14;refine V ?_;obtain rfl:=ao h;exact ad sA (cS [0,1,2,3] 4)
    refine V ?_;refine aq J (fun g16=> ?_) (fun g16=> ?_)
    ·replace h:=ag g16 h;refine V ?_;refine gO (au (us:=[iV ((lk a1 x10.N).getD 0)]) (cs':=[iV x10.Kind,iV ((lk a1 x10.N).getD 0),.string x10.S]) 0 J J J J dj J J J) ?_;rintro _ _ rfl;refine V ?_;exact ⟨_,_,⟨(lk a1 x10.N).getD 0,h,J,J⟩,sA,cS [1,2,3,0] 4⟩
    replace h:=ah g16 h;refine V ?_;exact ⟨_,_,⟨x10.N,h,J,J⟩,sA,cS [1,2,3,0] 4⟩
   rintro _ _ ⟨p13,h,rfl,rfl⟩;refine V ?_;refine gR (aC (us:=[iV x10.Kind,iV p13,.string x10.S]) 3 J J bn J) ?_;refine gD (aN (R:=aF) (vss:=[[iV x10.Kind,iV p13,.string x10.S]]) (xs:=[(⟨x10.Kind,p13,x10.S⟩:Gu)]) J (gN _ _ _) J J (fun _ _ hr=> .cons J All2.nil)) ?_;rintro _ _ ⟨A17,n17,c17,rfl,rfl⟩;obtain ⟨q18,h⟩:=am h;refine gD (ba 2 0 J J aJ J J hO nn J J q18) ?_;rintro _ _ ⟨A19,n19,c19,rfl,rfl⟩;refine bX ?_;refine V ?_;obtain ⟨q20,h⟩:=am h;refine gE (aT J J q20.1 q20.2) ?_;refine V ?_;exact ⟨m5,_,_,GD _,⟨p6++([(⟨x10.Kind,p13,x10.S⟩:Gu)]:List Gu),p7+1,A19,n19,c19,h,J,J⟩,sA,cS [1,2,3] 5⟩
  replace h:=ah g9 h;refine V ?_;exact ⟨_,_,⟨p6,A6,n6,c6,h,J,J⟩,sA,cS [1] 3⟩
 rintro _ _ ⟨p4,A4,n4,c4,h,rfl,rfl⟩;refine V ?_;obtain rfl:=ao h;exact aL J J (cS [0] 1) ⟨_,_,_,J,J⟩
theorem gm {r:(List Gu)}: ∀v post,((fun (u:Value) (post:List Chunk)=> ∃A0 n0 c0,u=I A0 n0 c0∧post=[cB A0 n0 c0 r])) v post→ ∀c∈post,bR c:=by
 rintro _ _ ⟨_,_,_,rfl,rfl⟩;exact hJ bm (ai)
def dC (N:Nat)(a1:(List Gu))(a0:Gx)(p28:(List Gw))(y13:((List Int)))(y22:(Option Exit×(List (Int×Int))))(p38:(List Gu))(p39:Int)(p40:Int)(p41:Int)(p42:Int)(p43:(List Gu))(p44:(List Gu)):Option (Option Exit×(List Gw)×(List Gu)):=
 (eL N p43 y22.2).bind fun y56=>(eL N p44 y22.2).bind fun y59=>bD (bN (p28.length+([(⟨p39,p40,p41,p42,y56,y59⟩:Gw)]:List Gw).length)) (some (none,(p28++([(⟨p39,p40,p41,p42,y56,y59⟩:Gw)]:List Gw),p38)))
def eC (N:Nat)(a1:(List Gu))(a0:Gx)(y13:((List Int)))(y22:(Option Exit×(List (Int×Int))))(x27:Int×Int):((List Gw)×(List Gu))→Option (Option Exit×((List Gw)×(List Gu)))
 |(p28,p29)=>(dF N a0 x27.2).bind fun y33=>bif decide (y33.Kind=8) then ((ik N y33 y13).bind fun y46=>dC N a1 a0 p28 y13 y22 p29 y46.Kind y46.Shape y46.Flags y46.Age y46.Slots y46.More) else (bif decide (y33.Kind=10) then ((iK N y33 y13).bind fun y50=>bD (bN (p29.length+y50.2.length)) (dC N a1 a0 p28 y13 y22 (p29++y50.2) y50.1.Kind y50.1.Shape y50.1.Flags y50.1.Age y50.1.Slots y50.1.More)) else (dC N a1 a0 p28 y13 y22 p29 y33.Kind y33.Shape y33.Flags y33.Age y33.Slots y33.More))
def eD (N:Nat)(a1:(List Gu))(a0:Gx)(y13:((List Int)))(x20:Int×Int):((List (Int×Int)))→Option (Option Exit×(List (Int×Int)))
 |p21=>bD (in64 (2*x20.1)) (bD (in64 ((2*x20.1)+2)) (some (none,uf p21 x20.2 ((2*x20.1)+2))))
def bw (N:Nat)(a0:Gx)(a1:(List Gu)):Option (Gx×(List Gu)×(List Gu)×Int):=
 (js N a0 a1).bind fun y7=>bif !decide (y7=0) then (some ((⟨[],[]⟩:Gx),[],[],y7)) else ((cv N a0 a1).bind fun y13=>(fO N y13).bind fun y18=>(d7 N y13 (bW (fun x st=>eD N a1 a0 y13 x st)) (none,([]:(List (Int×Int))))).bind fun y22=>lw y22.1 ((fO N y13).bind fun y25=>(d7 N y13 (bW (fun x st=>eC N a1 a0 y13 y22 x st)) (none,([],[]))).bind fun y30=>lw y30.1 ((eL N a1 y22.2).bind fun y65=>(eL N y30.2.2 y22.2).bind fun y67=>some ((⟨[],y30.2.1⟩:Gx),y65,y67,0)) none (fun _=>none)) none (fun _=>none))
set_option maxHeartbeats 4000000 in
theorem i6 {N:Nat}{a0:Gx}{a1:(List Gu)}{r:(Gx×(List Gu)×(List Gu)×Int)}(h:bw N a0 a1=some r):Okc Tryz.prog 44 [.agg #[I A1 n1 c1,I A2 n2 c2],I A3 n3 c3] ([br A1 n1 c1 a0.Young,br A2 n2 c2 a0.Old,aS A3 n3 c3 a1]) (fun u post=> ∃A0 n0 c0 A1 n1 c1 A2 n2 c2 A3 n3 c3,u=.tuple #[.agg #[I A0 n0 c0,I A1 n1 c1],I A2 n2 c2,I A3 n3 c3,iV r.2.2.2]∧post=[tM A0 n0 c0 r.1.Young,ie bV 47 5 3 (I A1 n1 c1) r.1.Old,cB A2 n2 c2 r.2.1,cB A3 n3 c3 r.2.2.1]):=by
 refine bx Tryz.func44 J J ?_;simp only [aU];refine V ?_;refine gD (aX J J) ?_;rintro _ _ ⟨B4,rfl,rfl⟩;refine gD (aM kj J) ?_;rintro _ _ ⟨B5,rfl,rfl⟩;refine V ?_;refine gD (aM Ba J) ?_;rintro _ _ ⟨B6,rfl,rfl⟩;refine V ?_;refine ay ?_;refine V ?_;refine gR (aC (us:=[I A1 n1 c1,I A2 n2 c2]) 2 J J cu J) ?_;refine V ?_;obtain ⟨y7,hy7,h⟩:=aa h;refine gD (ak (tH hy7) DQ J (hJ (ap (i:=3) J J) (hJ (ap (i:=4) J J) (hJ (ap (i:=5) J J) ai))) re) ?_;rintro _ _ ⟨_,⟨rfl,rfl⟩,rfl⟩;refine V ?_;refine aq J (fun g8=> ?_) (fun g8=> ?_)
 ·replace h:=ag g8 h;refine V ?_;refine gE (bJ J (wI)) ?_;refine V ?_;refine gO (au (us:=[I none 0 0,I none 0 0]) (cs':=[I none 0 0,I none 0 0]) 1 J J J J iX J J J) ?_;rintro _ _ rfl;refine V ?_;refine gO (au (us:=[I none 0 0]) (cs':=[I none 0 0]) 0 J J J J eJ J J J) ?_;rintro _ _ rfl;refine V ?_;obtain rfl:=ao h;exact dl (rs:=[.cell 4 36,.tmp 5,.cell 6 38,.tmp 7]) (vs:=[.agg #[I none 0 0,I none 0 0],I none 0 0,I none 0 0,iV y7]) J (.cons (bY 1 J J cu) (.cons (im J) (.cons (jf 0 J J cz) (.cons (im J) .nil)))) J ((bL bV 47 _).trans ((zB bV 47 5 3 _).trans ((bL aF 52 _).trans ((bL aF 52 _).trans (cS [3,2,1,0] 10))))) ⟨_,_,_,_,_,_,_,_,_,_,_,_,J,J⟩
 replace h:=ah g8 h;refine V ?_;refine gR (aC (us:=[I A1 n1 c1,I A2 n2 c2]) 2 J J cu J) ?_;refine V ?_;obtain ⟨y13,hy13,h⟩:=aa h;refine gD (ak (oZ hy13) Cl J (hJ (ap (i:=3) J J) (hJ (ap (i:=4) J J) (hJ (ap (i:=5) J J) ai))) mW) ?_;rintro _ _ ⟨_,⟨A14,n14,c14,rfl,rfl⟩,rfl⟩;refine gD (aM sJ J) ?_;rintro _ _ ⟨B15,rfl,rfl⟩;refine gO (au (us:=[I A14 n14 c14]) (cs':=[I A14 n14 c14]) 0 J J J J mp J J J) ?_;rintro _ _ rfl;refine bX ?_;refine V ?_;refine gD (tz (ek:=kN) (ev:=CF)) ?_;rintro _ _ ⟨M16,rfl,rfl⟩;refine gD (aM CH J) ?_;rintro _ _ ⟨B17,rfl,rfl⟩;refine gO (au (us:=[.map (some M16)]) (cs':=[.map (some M16)]) 0 J J J J CR J J J) ?_;rintro _ _ rfl;refine V ?_;refine ay ?_;refine V ?_;obtain ⟨y18,hy18,h⟩:=aa h;refine gD (ak (kH hy18) wE J (hJ (be (i:=3) J) ai) i5) ?_;rintro _ _ ⟨_,⟨B19,rfl,rfl⟩,rfl⟩;refine mj ?_;refine jB ?_;refine dP ?_ bH (fP 0 J);refine dP ?_ bH (cg 4 J);refine sN ?_;obtain ⟨y22,hy22,h⟩:=aa h
 refine kS (en:=(fun x=> [iV x.1,iV x.2])) (fun x st=>eD N a1 a0 y13 x st) (fun (st:(List (Int×Int))) (mz:Unit)=> [aS A3 n3 c3 a1,br A1 n1 c1 a0.Young,br A2 n2 c2 a0.Old,aw B4 36 [I A1 n1 c1,I A2 n2 c2],aw B5 36 [I none 0 0,I none 0 0],aw B6 38 [I none 0 0],eM A14 n14 c14 y13,aw B15 23 [I A14 n14 c14],dN kN CF M16 st,aw B17 137 [.map (some M16)]]) [cR B19 23 [I A14 n14 c14],eM A14 n14 c14 y13] (([]:(List (Int×Int)))) (()) J J wz J (fun _=>J) (fun l G hY=>(iE hy22 hY).mono fun _ _ hh=>hh.2) (bq [0,4] [] [10,8,9,7,6,5,4,3,2,1] 11 J) h ?_ ?_ ?_ ?_
 ·rintro l x20 p21 je sr20 _ h;replace h:eD N a1 a0 y13 x20 p21=some (je,sr20):=h;simp only [pJ,List.zip_cons_cons,List.zip_nil_left,List.zip_nil_right,List.reverse_cons,List.reverse_nil,List.nil_append,List.cons_append];refine V ?_;refine gR (aR 9 J J rc J) ?_;refine V ?_;obtain ⟨q23,h⟩:=am h;refine gE (tW J J q23.1 q23.2) ?_;obtain ⟨q24,h⟩:=am h;refine gE (aT J J q24.1 q24.2) ?_;refine gO (ke (a:=x20.2) (b:=(2*x20.1)+2) 8 J J J J Tryz.underlying137 (gn t5)) ?_;rintro _ _ rfl;refine V ?_;obtain ⟨rfl,rfl⟩:=Prod.mk.inj (Option.some.inj h);exact rv ((cS [0,1,2,3,4,5,6,7,8,9] 10).trans (dm () J))
 ·rintro _ h;refine iR ([aS A3 n3 c3 a1,br A1 n1 c1 a0.Young,br A2 n2 c2 a0.Old,aw B4 36 [I A1 n1 c1,I A2 n2 c2],aw B5 36 [I none 0 0,I none 0 0],aw B6 38 [I none 0 0],eM A14 n14 c14 y13,aw B15 23 [I A14 n14 c14],dN kN CF M16 y22.2,aw B17 137 [.map (some M16)]]) J ?_;refine V ?_;refine ay ?_;refine V ?_;obtain ⟨y25,hy25,h⟩:=aa h;refine gD (ak (kH hy25) wE J (hJ (ap (i:=6) J J) ai) i5) ?_;rintro _ _ ⟨_,⟨B26,rfl,rfl⟩,rfl⟩;refine mj ?_;refine jB ?_;refine dP ?_ bH (fP 0 J);obtain ⟨y30,hy30,h⟩:=aa h;refine kS (en:=(fun x=> [iV x.1,iV x.2])) (fun x st=>eC N a1 a0 y13 y22 x st) (fun (st:(List Gw)×(List Gu)) (mz:((Option Addr×Nat×Nat)×(Option Addr×Nat×Nat)))=> [aS A3 n3 c3 a1,br A1 n1 c1 a0.Young,br A2 n2 c2 a0.Old,aw B4 36 [I A1 n1 c1,I A2 n2 c2],ie bV 47 5 3 (.slice mz.1.1 mz.1.2.1 mz.1.2.2) st.1,aw B5 36 [I none 0 0,.slice mz.1.1 mz.1.2.1 mz.1.2.2],dQ aF 52 (.slice mz.2.1 mz.2.2.1 mz.2.2.2) st.2,aw B6 38 [.slice mz.2.1 mz.2.2.1 mz.2.2.2],eM A14 n14 c14 y13,aw B15 23 [I A14 n14 c14],dN kN CF M16 y22.2,aw B17 137 [.map (some M16)]]) [cR B26 23 [I A14 n14 c14],eM A14 n14 c14 y13] (([],[])) (((none,0,0),(none,0,0))) J J wz J (fun _=>J) (fun l G hY=>(iE hy30 hY).mono fun _ _ hh=>hh.2) ((zB bV 47 5 3 _).trans ((bL aF 52 _).trans (bq [2,9] [] [3,4,5,6,1,7,0,8,9,10,11,12] 13 J))) h ?_ ?_ ?_ ?_
  ·rintro l x27 ⟨p28,p29⟩ je sr27 ⟨⟨A28,n28,c28⟩,⟨A29,n29,c29⟩⟩ h;replace h:eC N a1 a0 y13 y22 x27 (p28,p29)=some (je,sr27):=h;simp only [pJ,List.zip_cons_cons,List.zip_nil_left,List.zip_nil_right,List.reverse_cons,List.reverse_nil,List.nil_append,List.cons_append];refine V ?_;refine gR (aC (us:=[I A1 n1 c1,I A2 n2 c2]) 3 J J cu J) ?_;refine V ?_;obtain ⟨y33,hy33,h⟩:=aa h;refine gD (ak (nB hy33) yU J (hJ (ap (i:=1) J J) (hJ (ap (i:=2) J J) ai)) lA) ?_;rintro _ _ ⟨_,⟨A34,n34,c34,A35,n35,c35,rfl,rfl⟩,rfl⟩;refine gD (aM dD J) ?_;rintro _ _ ⟨B36,rfl,rfl⟩;refine gO (au (us:=[iV y33.Kind,iV y33.Shape,iV y33.Flags,iV y33.Age,I A34 n34 c34,I A35 n35 c35]) (cs':=[iV y33.Kind,iV y33.Shape,iV y33.Flags,iV y33.Age,I A34 n34 c34,I A35 n35 c35]) 0 J J J J bu J J J) ?_;rintro _ _ rfl;refine bX ?_;refine V ?_
   refine aP (fun s L=> ∃p38 p39 p40 p41 p42 p43 p44 A38 n38 c38 A43 n43 c43 A44 n44 c44,dC N a1 a0 p28 y13 y22 p38 p39 p40 p41 p42 p43 p44=some (je,sr27)∧s=[(1,I A3 n3 c3),(2,pV B4 0),(4,pV B5 0),(5,I none 0 0),(6,pV B6 0),(7,iV 0),(9,pV B15 0),(10,pV B17 0),(15,pV B36 0)]∧L=[aS A3 n3 c3 a1,br A1 n1 c1 a0.Young,br A2 n2 c2 a0.Old,aw B4 36 [I A1 n1 c1,I A2 n2 c2],ie bV 47 5 3 (I A28 n28 c28) p28,aw B5 36 [I none 0 0,I A28 n28 c28],cB A38 n38 c38 p38,aw B6 38 [I A38 n38 c38],eM A14 n14 c14 y13,aw B15 23 [I A14 n14 c14],dN kN CF M16 y22.2,aw B17 137 [.map (some M16)],cB A43 n43 c43 p43,cB A44 n44 c44 p44,aw B36 47 [iV p39,iV p40,iV p41,iV p42,I A43 n43 c43,I A44 n44 c44]]) ?_ ?_
   ·refine V ?_;refine aq J (fun g45=> ?_) (fun g45=> ?_)
    ·replace h:=ag g45 h;refine dA ?_;refine gR (aC (us:=[iV y33.Kind,iV y33.Shape,iV y33.Flags,iV y33.Age,I A34 n34 c34,I A35 n35 c35]) 0 J J bo J) ?_;refine gR (aR 12 J J ln J) ?_;obtain ⟨y46,hy46,h⟩:=aa h;refine gD (ak (uj hy46) DP J (hJ (be (i:=1) J) (hJ (be (i:=2) J) (hJ (ap (i:=11) J J) ai))) sa) ?_;rintro _ _ ⟨_,⟨A47,n47,c47,A48,n48,c48,rfl,rfl⟩,rfl⟩;refine gO (au (us:=[iV y46.Kind,iV y46.Shape,iV y46.Flags,iV y46.Age,I A47 n47 c47,I A48 n48 c48]) (cs':=[iV y46.Kind,iV y46.Shape,iV y46.Flags,iV y46.Age,I A47 n47 c47,I A48 n48 c48]) 2 J J J J bu J J J) ?_;rintro _ _ rfl;refine V ?_;exact ⟨_,_,⟨p29,y46.Kind,y46.Shape,y46.Flags,y46.Age,y46.Slots,y46.More,A29,n29,c29,A47,n47,c47,A48,n48,c48,h,J,J⟩,sA,cS [5,6,7,8,9,10,11,12,13,14,15,16,0,1,2] 17⟩
    replace h:=ah g45 h;refine V ?_;refine aq J (fun g49=> ?_) (fun g49=> ?_)
    ·replace h:=ag g49 h;refine V ?_;refine gR (aC (us:=[iV y33.Kind,iV y33.Shape,iV y33.Flags,iV y33.Age,I A34 n34 c34,I A35 n35 c35]) 0 J J bo J) ?_;refine gR (aR 12 J J ln J) ?_;obtain ⟨y50,hy50,h⟩:=aa h;refine gD (ak (sq hy50) DO J (hJ (be (i:=1) J) (hJ (be (i:=2) J) (hJ (ap (i:=11) J J) ai))) qG) ?_;rintro _ _ ⟨_,⟨A51,n51,c51,A52,n52,c52,A53,n53,c53,rfl,rfl⟩,rfl⟩;refine V ?_;refine gO (au (us:=[iV y50.1.Kind,iV y50.1.Shape,iV y50.1.Flags,iV y50.1.Age,I A51 n51 c51,I A52 n52 c52]) (cs':=[iV y50.1.Kind,iV y50.1.Shape,iV y50.1.Flags,iV y50.1.Age,I A51 n51 c51,I A52 n52 c52]) 3 J J J J bu J J J) ?_;rintro _ _ rfl;refine V ?_;refine gR (aR 13 J J cz J) ?_;refine V ?_;obtain ⟨q54,h⟩:=am h;refine gD (ba 12 2 J J aJ J J hO nn J J q54) ?_;rintro _ _ ⟨A55,n55,c55,rfl,rfl⟩;refine bX ?_;refine gO (au (us:=[I A55 n55 c55]) (cs':=[I A55 n55 c55]) 13 J J J J eJ J J J) ?_;rintro _ _ rfl;refine V ?_;exact ⟨_,_,⟨p29++y50.2,y50.1.Kind,y50.1.Shape,y50.1.Flags,y50.1.Age,y50.1.Slots,y50.1.More,A55,n55,c55,A51,n51,c51,A52,n52,c52,h,J,J⟩,sA,cS [6,7,8,9,10,11,12,13,14,15,16,17,0,1,3] 18⟩
    replace h:=ah g49 h;refine V ?_;exact ⟨_,_,⟨p29,y33.Kind,y33.Shape,y33.Flags,y33.Age,y33.Slots,y33.More,A29,n29,c29,A34,n34,c34,A35,n35,c35,h,J,J⟩,sA,cS [3,4,5,6,7,8,9,10,11,12,13,14,1,2,0] 15⟩
   rintro _ _ ⟨p38,p39,p40,p41,p42,p43,p44,A38,n38,c38,A43,n43,c43,A44,n44,c44,h,rfl,rfl⟩;refine ay ?_;obtain ⟨y56,hy56,h⟩:=aa h;obtain ⟨y59,hy59,h⟩:=aa h;refine dP (t:=[(1,I A3 n3 c3),(2,pV B4 0),(4,pV B5 0),(5,I none 0 0),(6,pV B6 0),(7,iV 0),(9,pV B15 0),(10,pV B17 0),(15,pV B36 0)]) ?_ gA (ab _)
   refine eR O 9 [] [3,7,8] [62,63,64,65,66,67,68,69,70] [[],[0],[],[1,2],[],[4],[],[5,6],[]] [aV (pV B36 4),
aV (I A43 n43 c43),
aV (.map (some M16)),
aX3 (fun (A58:Option Addr) (n58 c58:Nat)=> I A58 n58 c58) (fun A58 n58 c58=> [cB A58 n58 c58 y56]),
aV (pV B36 5),
aV (I A44 n44 c44),
aV (.map (some M16)),
aX3 (fun (A61:Option Addr) (n61 c61:Nat)=> I A61 n61 c61) (fun A61 n61 c61=> [cB A61 n61 c61 y59]),
aV (pV B36 4)] [] (ab _) (gu) O rfl rfl ?_ ?_ ?_
   ·exact gt
   ·refine ac J ?_ ?_
    ·exact bh (bQ J iM) J (aA J (ab _))
    refine ac J ?_ ?_
    ·refine fx (ak (iG hy59) sH J (hJ (be (i:=13) J) (hJ (qy (i:=10) J) ai)) gm) J ?_;rintro _ _ ⟨_,⟨A60,n60,c60,rfl,rfl⟩,rfl⟩;exact iT A60 n60 c60 (ab _)
    refine ac J ?_ ?_
    ·exact bT (aR 11 J J rc J) J (aA J (ab _))
    refine ac J ?_ ?_
    ·exact bT (aR 14 J J cz J) J (aA J (ab _))
    refine ac J ?_ ?_
    ·exact bh (bQ J ce) J (aA J (ab _))
    refine ac J ?_ ?_
    ·refine fx (ak (iG hy56) sH J (hJ (be (i:=12) J) (hJ (qy (i:=10) J) ai)) gm) J ?_;rintro _ _ ⟨_,⟨A57,n57,c57,rfl,rfl⟩,rfl⟩;exact iT A57 n57 c57 (ab _)
    refine ac J ?_ ?_
    ·exact bT (aR 11 J J rc J) J (aA J (ab _))
    refine ac J ?_ ?_
    ·exact bT (aR 14 J J cz J) J (aA J (ab _))
    refine ac J ?_ ?_
    ·exact bh (bQ J iM) J (aA J (ab _))
    exact dh
   intro A58 n58 c58 A61 n61 c61;refine gP (t:=[(65,I A58 n58 c58),(69,I A61 n61 c61),(70,pV B36 4),(1,I A3 n3 c3),(2,pV B4 0),(4,pV B5 0),(5,I none 0 0),(6,pV B6 0),(7,iV 0),(9,pV B15 0),(10,pV B17 0),(15,pV B36 0)]) (L':=[cB A58 n58 c58 y56,cB A61 n61 c61 y59,aS A3 n3 c3 a1,br A1 n1 c1 a0.Young,br A2 n2 c2 a0.Old,aw B4 36 [I A1 n1 c1,I A2 n2 c2],ie bV 47 5 3 (I A28 n28 c28) p28,aw B5 36 [I none 0 0,I A28 n28 c28],cB A38 n38 c38 p38,aw B6 38 [I A38 n38 c38],eM A14 n14 c14 y13,aw B15 23 [I A14 n14 c14],dN kN CF M16 y22.2,aw B17 137 [.map (some M16)],cB A43 n43 c43 p43,cB A44 n44 c44 p44,aw B36 47 [iV p39,iV p40,iV p41,iV p42,I A43 n43 c43,I A44 n44 c44]]) ?_ gA (ab _);refine nh 9 J O (au (us:=[I A58 n58 c58]) (cs':=[iV p39,iV p40,iV p41,iV p42,I A58 n58 c58,I A44 n44 c44]) 16 J J J J eJ J J J) J J ?_;rintro _ _ rfl;refine pS 10 J O (bQ J ce) J J J ?_;refine nh 11 J O (au (us:=[I A61 n61 c61]) (cs':=[iV p39,iV p40,iV p41,iV p42,I A58 n58 c58,I A61 n61 c61]) 16 J J J J eJ J J J) J J ?_;rintro _ _ rfl;refine qu ?_;refine gx O ?_;refine V ?_;refine gR (aC (us:=[iV p39,iV p40,iV p41,iV p42,I A58 n58 c58,I A61 n61 c61]) 16 J J bo J) ?_;refine kT (cg 0 J) ?_
   refine gD (yt (R:=bV) (vs1:=[iV p39,iV p40,iV p41,iV p42,I A58 n58 c58,I A61 n61 c61]) (x:=(⟨p39,p40,p41,p42,y56,y59⟩:Gw)) 1 5 J J (t8 _ _ _ _ _ _ _ _ _ _) J J (fun _ _ hr=>⟨_,_,_,_,_,_,J,hr 0 _ J J,hr 1 _ J J⟩)) ?_;rintro _ _ ⟨A62,n62,c62,rfl,rfl⟩;obtain ⟨q63,h⟩:=am h;refine gD (yw 6 1 J J J (Nat.succ_pos _) J J hP Bb J J q63) ?_;rintro _ _ ⟨A64,n64,c64,rfl,rfl⟩;refine bX ?_;refine kT (cS [0,2,3,4,5,6,7,8,9,10,11,12,13,14,15,16] 17) ?_;refine V ?_;refine gO (au (us:=[I A64 n64 c64]) (cs':=[I none 0 0,I A64 n64 c64]) 6 J J J J yh J J J) ?_;rintro _ _ rfl;refine V ?_;obtain ⟨rfl,rfl⟩:=Prod.mk.inj (Option.some.inj h);exact rv ((cS [1,2,3,4,5,6,7,8,9,10,11,12] 16).trans (dm ((A64,n64,c64),(A38,n38,c38)) J))
  ·rintro ⟨⟨A28,n28,c28⟩,⟨A29,n29,c29⟩⟩ h;refine iR ([aS A3 n3 c3 a1,br A1 n1 c1 a0.Young,br A2 n2 c2 a0.Old,aw B4 36 [I A1 n1 c1,I A2 n2 c2],ie bV 47 5 3 (I A28 n28 c28) y30.2.1,aw B5 36 [I none 0 0,I A28 n28 c28],cB A29 n29 c29 y30.2.2,aw B6 38 [I A29 n29 c29],eM A14 n14 c14 y13,aw B15 23 [I A14 n14 c14],dN kN CF M16 y22.2,aw B17 137 [.map (some M16)]]) J ?_;refine V ?_;refine ay ?_;refine cy O _ (ab _) ?_;refine zR 0 J (aC (us:=[I none 0 0,I A28 n28 c28]) 5 J J cu J) ?_;refine zE 1 J (ax J) ?_;refine zR 2 J (aR 11 J J rc J) ?_;refine zR 4 J (aR 7 J J cz J) ?_;refine zR 5 J (aR 11 J J rc J) ?_;obtain ⟨y65,hy65,h⟩:=aa h;refine zD 3 J (ak (iG hy65) sH J (hJ (ap (i:=0) J J) (hJ (qy (i:=10) J) ai)) gm) ?_;rintro _ _ ⟨_,⟨A66,n66,c66,rfl,rfl⟩,rfl⟩;refine gX (cS [1,2,3,4,5,6,7,8,9,10,11,12] 13) ?_;obtain ⟨y67,hy67,h⟩:=aa h;refine zD 6 J (ak (iG hy67) sH J (hJ (be (i:=7) J) (hJ (qy (i:=11) J) ai)) gm) ?_;rintro _ _ ⟨_,⟨A68,n68,c68,rfl,rfl⟩,rfl⟩;refine gX (cS [2,3,4,5,6,7,8,9,10,11,12,13] 14) ?_;refine zO 7 J (au (us:=[I none 0 0,I A28 n28 c28]) (cs':=[I none 0 0,I A28 n28 c28]) 7 J J J J iX J J J) ?_;rintro _ _ rfl;refine gX (cS [2,3,4,5,6,7,8,9,10,11,12,13] 14) ?_;refine zE 8 J (bz J) ?_
   refine oM 9 J O O (au (us:=[I A68 n68 c68]) (cs':=[I A68 n68 c68]) 9 J J J J eJ J J J) ?_;rintro _ _ rfl;refine zE 10 J (bz J) ?_;refine cx O ?_;refine V ?_;obtain rfl:=ao h;exact dl (rs:=[.cell 4 36,.tmp 5,.cell 6 38,.tmp 7]) (vs:=[.agg #[I none 0 0,I A28 n28 c28],I A66 n66 c66,I A68 n68 c68,iV 0]) J (.cons (bY 7 J J cu) (.cons (im J) (.cons (jf 9 J J cz) (.cons (im J) .nil)))) J ((bL bV 47 _).trans (cS [0,7,2,1] 15)) ⟨_,_,_,_,_,_,_,_,_,_,_,_,J,J⟩
  ·rintro ⟨⟨A28,n28,c28⟩,⟨A29,n29,c29⟩⟩ h;exact az h
  rintro i ⟨⟨A28,n28,c28⟩,⟨A29,n29,c29⟩⟩ h;exact az h
 ·rintro _ h;exact az h
 rintro i _ h;exact az h
def rL (N:Nat):Option Bool:=
 some true
def nI (N:Nat)(a0:(List Int))(a1:(List Int)):Nat→Int→Option Bool
 |0,_=>none
 |m5+1,p6=>bif decide (p6<(a0.length:Int)) then ((aH a0 p6).bind fun x8=>(aH a1 p6).bind fun x9=>bif !decide (x8=x9) then (some false) else (bD (in64 (p6+1)) ((nI N a0 a1 m5) (p6+1)))) else (rL N)
def ck (N:Nat)(a0:(List Int))(a1:(List Int)):Option Bool:=
 bif !decide ((a0.length:Int)=(a1.length:Int)) then (some false) else (nI N a0 a1 N 0)
theorem lg {N:Nat}{a0:(List Int)}{a1:(List Int)}{r:Bool}(h:ck N a0 a1=some r):Okc Tryz.prog 34 [I A1 n1 c1,I A2 n2 c2] ([eM A1 n1 c1 a0,eM A2 n2 c2 a1]) (fun u post=>u=.bool r∧post=[]):=by
 refine bx Tryz.func34 J J ?_;simp only [aU];refine V ?_;refine ay ?_;refine V ?_;refine gR (aG 0 J ae J hU) ?_;refine V ?_;refine gR (aG 1 J ae J hU) ?_;refine V ?_;refine aq J (fun g3=> ?_) (fun g3=> ?_)
 ·replace h:=ag g3 h;refine V ?_;obtain rfl:=ao h;exact aL J J (cS [] 2) ⟨J,J⟩
 replace h:=ah g3 h;refine V ?_;refine aP (fun s L=>rL N=some r∧s=[(4,.bool false)]∧L=[]) ?_ ?_
 ·refine V ?_;refine aZ (fun m s L=> ∃p6,nI N a0 a1 m p6=some r∧s=[(0,I A1 n1 c1),(1,I A2 n2 c2),(4,.bool false),(5,iV p6)]∧L=[eM A1 n1 c1 a0,eM A2 n2 c2 a1]) N _ _ ⟨0,h,J,J⟩ sA (cS [0,1] 2) ?_;rintro (_|m5) _ _ ⟨p6,h,rfl,rfl⟩
  ·exact az h
  rw [nI.eq_2] at h;refine ay ?_;refine V ?_;refine gR (aG 0 J ae J hU) ?_;refine V ?_;refine aq J (fun g7=> ?_) (fun g7=> ?_)
  ·replace h:=ag g7 h;refine V ?_;refine ay ?_;refine cQ ?_;refine ay ?_;refine cy O _ (ab _) ?_;refine zE 0 J (ax J) ?_;refine zE 1 J (ax J) ?_;obtain ⟨x8,hx8,h⟩:=aa h;obtain ⟨lx8,ux8,hx8⟩:=aj hx8;refine zR 2 J (aB 0 J ae J J hU dj lx8 ux8) ?_;refine zR 3 J (aW (u:=iV x8) 0 J ae J hx8 cM (fun _ _ _ h=>by rw [show _=_ from h];rfl)) ?_;refine zE 4 J (ax J) ?_;refine zE 5 J (ax J) ?_;obtain ⟨x9,hx9,h⟩:=aa h;obtain ⟨lx9,ux9,hx9⟩:=aj hx9;refine zR 6 J (aB 1 J ae J J hU dj lx9 ux9) ?_;refine zR 7 J (aW (u:=iV x9) 1 J ae J hx9 cM (fun _ _ _ h=>by rw [show _=_ from h];rfl)) ?_;refine zE 8 J (D8 J J) ?_;refine cx O ?_;refine jB ?_;refine aq J (fun g10=> ?_) (fun g10=> ?_)
   ·replace h:=ag g10 h;refine V ?_;obtain rfl:=ao h;exact aL J J (cS [] 2) ⟨J,J⟩
   replace h:=ah g10 h;refine V ?_;obtain ⟨q11,h⟩:=am h;refine gE (aT J J q11.1 q11.2) ?_;refine V ?_;exact ⟨m5,_,_,GD _,⟨p6+1,h,J,J⟩,sA,cS [0,1] 2⟩
  replace h:=ah g7 h;refine V ?_;exact ⟨_,_,⟨h,J,J⟩,sA,cS [] 2⟩
 rintro _ _ ⟨h,rfl,rfl⟩;refine V ?_;obtain rfl:=ao h;exact aL J J (cS [] 0) ⟨J,J⟩
theorem jl {r:Bool}: ∀v post,((fun (u:Value) (post:List Chunk)=>u=.bool r∧post=[])) v post→ ∀c∈post,bR c:=by
 rintro _ _ ⟨rfl,rfl⟩;exact ai
def lj (N:Nat):Option Bool:=
 some true
def iD (N:Nat)(a0:(List Gu))(a1:(List Gu)):Nat→Int→Option Bool
 |0,_=>none
 |m5+1,p6=>bif decide (p6<(a0.length:Int)) then ((aH a0 p6).bind fun x8=>(aH a1 p6).bind fun x9=>bif !decide (x8=x9) then (some false) else (bD (in64 (p6+1)) ((iD N a0 a1 m5) (p6+1)))) else (lj N)
def bM (N:Nat)(a0:(List Gu))(a1:(List Gu)):Option Bool:=
 bif !decide ((a0.length:Int)=(a1.length:Int)) then (some false) else (iD N a0 a1 N 0)
theorem eA {N:Nat}{a0:(List Gu)}{a1:(List Gu)}{r:Bool}(h:bM N a0 a1=some r):Okc Tryz.prog 48 [I A1 n1 c1,I A2 n2 c2] ([aS A1 n1 c1 a0,aS A2 n2 c2 a1]) (fun u post=>u=.bool r∧post=[]):=by
 refine bx Tryz.func48 J J ?_;simp only [aU];refine V ?_;refine ay ?_;refine V ?_;refine gR (aG 0 J ae J hO) ?_;refine V ?_;refine gR (aG 1 J ae J hO) ?_;refine V ?_;refine aq J (fun g3=> ?_) (fun g3=> ?_)
 ·replace h:=ag g3 h;refine V ?_;obtain rfl:=ao h;exact aL J J (cS [] 2) ⟨J,J⟩
 replace h:=ah g3 h;refine V ?_;refine aP (fun s L=>lj N=some r∧s=[(4,.bool false)]∧L=[]) ?_ ?_
 ·refine V ?_;refine aZ (fun m s L=> ∃p6,iD N a0 a1 m p6=some r∧s=[(0,I A1 n1 c1),(1,I A2 n2 c2),(4,.bool false),(5,iV p6)]∧L=[aS A1 n1 c1 a0,aS A2 n2 c2 a1]) N _ _ ⟨0,h,J,J⟩ sA (cS [0,1] 2) ?_;rintro (_|m5) _ _ ⟨p6,h,rfl,rfl⟩
  ·exact az h
  rw [iD.eq_2] at h;refine ay ?_;refine V ?_;refine gR (aG 0 J ae J hO) ?_;refine V ?_;refine aq J (fun g7=> ?_) (fun g7=> ?_)
  ·replace h:=ag g7 h;refine V ?_;refine ay ?_;refine cQ ?_;refine ay ?_;refine cy O _ (ab _) ?_;refine zE 0 J (ax J) ?_;refine zE 1 J (ax J) ?_;obtain ⟨x8,hx8,h⟩:=aa h;obtain ⟨lx8,ux8,hx8⟩:=aj hx8;refine zR 2 J (aB 0 J ae J J hO aI lx8 ux8) ?_;refine zR 3 J (aQ (us:=ar x8) 0 J ae J hx8 bn (fun _ _ _ h=>by rw [show _=_ from h];rfl)) ?_;refine zE 4 J (ax J) ?_;refine zE 5 J (ax J) ?_;obtain ⟨x9,hx9,h⟩:=aa h;obtain ⟨lx9,ux9,hx9⟩:=aj hx9;refine zR 6 J (aB 1 J ae J J hO aI lx9 ux9) ?_;refine zR 7 J (aQ (us:=ar x9) 1 J ae J hx9 bn (fun _ _ _ h=>by rw [show _=_ from h];rfl)) ?_;refine zE 8 J (AM (x:=x8) (y:=x9) J J) ?_;refine cx O ?_;refine jB ?_;refine aq J (fun g10=> ?_) (fun g10=> ?_)
   ·replace h:=ag g10 h;refine V ?_;obtain rfl:=ao h;exact aL J J (cS [] 2) ⟨J,J⟩
   replace h:=ah g10 h;refine V ?_;obtain ⟨q11,h⟩:=am h;refine gE (aT J J q11.1 q11.2) ?_;refine V ?_;exact ⟨m5,_,_,GD _,⟨p6+1,h,J,J⟩,sA,cS [0,1] 2⟩
  replace h:=ah g7 h;refine V ?_;exact ⟨_,_,⟨h,J,J⟩,sA,cS [] 2⟩
 rintro _ _ ⟨h,rfl,rfl⟩;refine V ?_;obtain rfl:=ao h;exact aL J J (cS [] 0) ⟨J,J⟩
theorem dM {r:Bool}: ∀v post,((fun (u:Value) (post:List Chunk)=>u=.bool r∧post=[])) v post→ ∀c∈post,bR c:=by
 rintro _ _ ⟨rfl,rfl⟩;exact ai
end Go.Proofs.YtmimkglhbmcokaaGreat