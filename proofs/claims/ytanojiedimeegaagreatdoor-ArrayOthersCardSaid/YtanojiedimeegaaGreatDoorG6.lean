/- Merged texts: part 6. No conditions of their own. -/
import Derived.Test.YtanojiedimeegaaGreatDoorG5
namespace Go.Proofs.YtanojiedimeegaaGreatDoor
theorem Ci:type_of% Tryz.underlying82:=Tryz.underlying82
theorem Ch:type_of% Tryz.underlying67:=Tryz.underlying67
theorem Cg:type_of% Tryz.underlying202:=Tryz.underlying202
variable {A1 A10 A12 A13 A14 A15 A16 A17 A2 A3 A4 A5 A6 A7 A8 A9:Option Addr} {B1 B10 B12 B2 B4 B5 B7 B9 M11 M14 M3 M8 c1 c10 c12 c13 c14 c15 c16 c17 c2 c3 c4 c5 c6 c7 c8 c9 n1 n10 n12 n13 n14 n15 n16 n17 n2 n3 n4 n5 n6 n7 n8 n9:Nat}
open Go.RowKit Asn
set_option maxRecDepth 20000
def lp (N:Nat)(a0:Cl):Option Unit:=
 some ()
theorem o4 {N:Nat}{a0:Cl}{r:Unit}(h:lp N a0=some r):Okc Tryz.prog 104 [.agg #[iV a0.Kind,iV a0.Shape,iV a0.Flags,iV a0.Age,I A1 n1 c1,I A2 n2 c2]] ([cn A1 n1 c1 a0.Slots,cn A2 n2 c2 a0.More,aR 0 30 [iV 8,iV 0,.string (⟨#[]⟩:ByteArray)]]) (fun u post=> ∃B900,u=.func (.func 157) #[] #[pV B900 0]∧post=[aj B900 138 [iV a0.Kind,iV a0.Shape,iV a0.Flags,iV a0.Age,I A1 n1 c1,I A2 n2 c2]]):=by
 refine bj Tryz.func104 J J ?_;simp only [aS];refine U ?_;refine gD (aN J J) ?_;rintro _ _ ⟨B3,rfl,rfl⟩;refine U ?_;refine gE (mJ J) ?_;refine U ?_;obtain rfl:=al h;exact aJ J J (cS [0] 4) ⟨_,J,J⟩
theorem nH {a0:Cl}{A1:Option Addr}{n1:Nat}{c1:Nat}{A2:Option Addr}{n2:Nat}{c2:Nat}: ∀v post,((fun (u:Value) (post:List Chunk)=> ∃B900,u=.func (.func 157) #[] #[pV B900 0]∧post=[aj B900 138 [iV a0.Kind,iV a0.Shape,iV a0.Flags,iV a0.Age,I A1 n1 c1,I A2 n2 c2]])) v post→ ∀c∈post,bS c:=by
 rintro _ _ ⟨_,rfl,rfl⟩;exact hE mF (ac)
def dx (N:Nat):Option CC:=
 some (⟨1,0,(⟨#[108,101,110,103,116,104]⟩:ByteArray)⟩:CC)
theorem dO {N:Nat}{r:CC}(h:dx N=some r):Okc Tryz.prog 97 [] ([]) (fun u post=>u=.agg #[iV r.Kind,iV r.N,.string r.S]∧post=[]):=by
 refine bj Tryz.func97 J J ?_;simp only [aS];refine U ?_;refine gD (aF qx J) ?_;rintro _ _ ⟨B1,rfl,rfl⟩;refine U ?_;refine gE (aW J (rq _ _)) ?_;refine gO (ao (us:=[iV 1,iV 0,.string (⟨#[108,101,110,103,116,104]⟩:ByteArray)]) (cs':=[iV 1,iV 0,.string (⟨#[108,101,110,103,116,104]⟩:ByteArray)]) 0 J J J J fd J J J) ?_;rintro _ _ rfl;refine U ?_;obtain rfl:=al h;exact bR (rs:=[.cell 0 24]) (vs:=[.agg #[iV 1,iV 0,.string (⟨#[108,101,110,103,116,104]⟩:ByteArray)]]) J (.cons (bg 0 J J bH) .nil) J (cS [] 1) ⟨J,J⟩
theorem du {r:CC}: ∀v post,((fun (u:Value) (post:List Chunk)=>u=.agg #[iV r.Kind,iV r.N,.string r.S]∧post=[])) v post→ ∀c∈post,bS c:=by
 rintro _ _ ⟨rfl,rfl⟩;exact ac
def cN (N:Nat)(a0:Cw):Option Unit:=
 some ()
theorem df {N:Nat}{a0:Cw}{r:Unit}(h:cN N a0=some r):Okc Tryz.prog 118 [pV B1 0] ([aR B1 151 [iV a0.spent_.steps_,iV a0.spent_.made_,iV a0.spent_.calls_,iV a0.config_.Way,iV a0.config_.Steps,iV a0.config_.Calls,iV a0.config_.Made,iV a0.config_.Young,iV a0.config_.Full,iV a0.config_.Sites,.nilIface,pV B2 0,pV B9 0,I A12 n12 c12,iV a0.epoch_,iV a0.serial_,iV a0.sleepers_,I A13 n13 c13,I A14 n14 c14],aR B2 199 [I A3 n3 c3,I A4 n4 c4,I A5 n5 c5,I A6 n6 c6,pV B7 0],lv A3 n3 c3 a0.heap_.m_.Young,lv A4 n4 c4 a0.heap_.m_.Old,cn A5 n5 c5 a0.heap_.roots_,cn A6 n6 c6 a0.heap_.pending_,aR B7 247 [.map (some M8)],d5 cv cy M8 a0.heap_.set_.at_,aR B9 205 [I A10 n10 c10,.map (some M11)],oJ A10 n10 c10 a0.shapes_.shapes_,d5 aD cu M11 a0.shapes_.next_,be A12 n12 c12 a0.symbols_,ct A13 n13 c13 a0.events_,be A14 n14 c14 a0.out_]) (fun u post=>u=pV B9 0∧post=[]):=by
 refine bj Tryz.func118 J J ?_;simp only [aS];refine U ?_;refine aw ?_;refine U ?_;refine gE (cZ J hP) ?_;refine U ?_;refine f5 J ?_;refine U ?_;refine gR (bN 0 J J wR J) ?_;refine U ?_;obtain rfl:=al h;exact aJ J J (cS [] 14) ⟨J,J⟩
theorem cM {B9:Nat}: ∀v post,((fun (u:Value) (post:List Chunk)=>u=pV B9 0∧post=[])) v post→ ∀c∈post,bS c:=by
 rintro _ _ ⟨rfl,rfl⟩;exact ac
def eW (N:Nat)(a0:Cz)(a1:Int):Option Bool:=
 (bif decide (0≤a1) then (some (decide (a1<(a0.shapes_.length:Int)))) else (some false)).bind fun b4=>some b4
theorem gi {N:Nat}{a0:Cz}{a1:Int}{r:Bool}(h:eW N a0 a1=some r):Okc Tryz.prog 212 [pV B1 0,iV a1] ([aR B1 205 [I A2 n2 c2,.map (some M3)],oJ A2 n2 c2 a0.shapes_,d5 aD cu M3 a0.next_]) (fun u post=>u=.bool r∧post=[]):=by
 refine bj Tryz.func212 J J ?_;simp only [aS];refine U ?_;refine gE (ns J Tryz.underlying144) ?_;refine U ?_;obtain ⟨b4,hb4,h⟩:=aa h;refine aA 8 19 b4 ?_ ?_
 ·clear h;refine ax 11 J (fun g4=> ?_) (fun g4=> ?_)
  ·have h:=ad g4 hb4;refine U ?_;refine bv (bN 0 J J jS J) J (aZ g4 J) J ?_;refine bv (br 1 J aI J Cg) J (aZ g4 J) J ?_;refine U ?_;obtain rfl:=al h;exact ab sA (cS [0,1,2] 3)
  have h:=ae g4 hb4;refine U ?_;obtain rfl:=al h;exact ab sA (cS [0,1,2] 3)
 refine U ?_;obtain rfl:=al h;exact aJ J J (cS [] 3) ⟨J,J⟩
theorem fe {r:Bool}: ∀v post,((fun (u:Value) (post:List Chunk)=>u=.bool r∧post=[])) v post→ ∀c∈post,bS c:=by
 rintro _ _ ⟨rfl,rfl⟩;exact ac
def kZ (N:Nat)(a0:Cz)(a1:Int):Option (Ct×Bool):=
 (eW N a0 a1).bind fun y5=>bif !y5 then (some ((⟨0,(⟨0,0,⟨#[]⟩⟩:CC),0,0⟩:Ct),false)) else ((ck a0.shapes_ a1).bind fun x7=>some (x7,true))
theorem ox {N:Nat}{a0:Cz}{a1:Int}{r:(Ct×Bool)}(h:kZ N a0 a1=some r):Okc Tryz.prog 215 [pV B1 0,iV a1] ([aR B1 205 [I A2 n2 c2,.map (some M3)],oJ A2 n2 c2 a0.shapes_,d5 aD cu M3 a0.next_]) (fun u post=>u=.tuple #[.agg #[iV r.1.Up,iV r.1.Key.Kind,iV r.1.Key.N,.string r.1.Key.S,iV r.1.Attrs,iV r.1.Len],.bool r.2]∧post=[]):=by
 refine bj Tryz.func215 J J ?_;simp only [aS];refine U ?_;refine gD (aF lw J) ?_;rintro _ _ ⟨B4,rfl,rfl⟩;refine U ?_;refine aw ?_;refine U ?_;obtain ⟨y5,hy5,h⟩:=aa h;refine gD (ak (gi hy5) sP J (hE (ag (i:=1) J J) (hE (ag (i:=2) J J) (hE (ag (i:=3) J J) ac))) fe) ?_;rintro _ _ ⟨_,⟨rfl,rfl⟩,rfl⟩;refine U ?_;refine aq J (fun g6=> ?_) (fun g6=> ?_)
 ·replace h:=ad g6 h;refine U ?_;refine gE (aW J (xz)) ?_;refine gO (ao (us:=[iV 0,iV 0,iV 0,.string (⟨#[]⟩),iV 0,iV 0]) (cs':=[iV 0,iV 0,iV 0,.string (⟨#[]⟩),iV 0,iV 0]) 0 J J J J cp J J J) ?_;rintro _ _ rfl;refine U ?_;obtain rfl:=al h;exact bR (rs:=[.cell 4 201,.tmp 5]) (vs:=[.agg #[iV 0,iV 0,iV 0,.string (⟨#[]⟩),iV 0,iV 0],.bool false]) J (.cons (bg 0 J J kU) (.cons (cJ J) .nil)) J (cS [] 4) ⟨J,J⟩
 replace h:=ae g6 h;refine U ?_;refine gR (bN 1 J J jS J) ?_;refine U ?_;obtain ⟨x7,hx7,h⟩:=aa h;obtain ⟨lx7,ux7,hx7⟩:=aG hx7;refine gR (bf 2 J aI J J Cg cp lx7 ux7) ?_;refine gR (bi (us:=[iV x7.Up,iV x7.Key.Kind,iV x7.Key.N,.string x7.Key.S,iV x7.Attrs,iV x7.Len]) 2 J aI J hx7 kU (fun _ _ _ h=>by rw [show _=_ from h];rfl)) ?_;refine gO (ao (us:=[iV x7.Up,iV x7.Key.Kind,iV x7.Key.N,.string x7.Key.S,iV x7.Attrs,iV x7.Len]) (cs':=[iV x7.Up,iV x7.Key.Kind,iV x7.Key.N,.string x7.Key.S,iV x7.Attrs,iV x7.Len]) 0 J J J J cp J J J) ?_;rintro _ _ rfl;refine U ?_;obtain rfl:=al h;exact bR (rs:=[.cell 4 201,.tmp 5]) (vs:=[.agg #[iV x7.Up,iV x7.Key.Kind,iV x7.Key.N,.string x7.Key.S,iV x7.Attrs,iV x7.Len],.bool true]) J (.cons (bg 0 J J kU) (.cons (cJ J) .nil)) J (cS [] 4) ⟨J,J⟩
theorem nE {r:(Ct×Bool)}: ∀v post,((fun (u:Value) (post:List Chunk)=>u=.tuple #[.agg #[iV r.1.Up,iV r.1.Key.Kind,iV r.1.Key.N,.string r.1.Key.S,iV r.1.Attrs,iV r.1.Len],.bool r.2]∧post=[])) v post→ ∀c∈post,bS c:=by
 rintro _ _ ⟨rfl,rfl⟩;exact ac
def eX (N:Nat)(a0:Cz)(a1:Int):Option Int:=
 (kZ N a0 a1).bind fun y4=>some y4.1.Len
theorem gj {N:Nat}{a0:Cz}{a1:Int}{r:Int}(h:eX N a0 a1=some r):Okc Tryz.prog 173 [pV B1 0,iV a1] ([aR B1 205 [I A2 n2 c2,.map (some M3)],oJ A2 n2 c2 a0.shapes_,d5 aD cu M3 a0.next_]) (fun u post=>u=iV r∧post=[]):=by
 refine bj Tryz.func173 J J ?_;simp only [aS];refine U ?_;obtain ⟨y4,hy4,h⟩:=aa h;refine gD (ak (ox hy4) yV J (hE (ag (i:=0) J J) (hE (ag (i:=1) J J) (hE (ag (i:=2) J J) ac))) nE) ?_;rintro _ _ ⟨_,⟨rfl,rfl⟩,rfl⟩;refine U ?_;refine gD (aF lw J) ?_;rintro _ _ ⟨B5,rfl,rfl⟩;refine gO (ao (us:=[iV y4.1.Up,iV y4.1.Key.Kind,iV y4.1.Key.N,.string y4.1.Key.S,iV y4.1.Attrs,iV y4.1.Len]) (cs':=[iV y4.1.Up,iV y4.1.Key.Kind,iV y4.1.Key.N,.string y4.1.Key.S,iV y4.1.Attrs,iV y4.1.Len]) 0 J J J J cp J J J) ?_;rintro _ _ rfl;refine U ?_;obtain rfl:=al h;exact aJ J J (cS [] 4) ⟨J,J⟩
theorem fi {r:Int}: ∀v post,((fun (u:Value) (post:List Chunk)=>u=iV r∧post=[])) v post→ ∀c∈post,bS c:=by
 rintro _ _ ⟨rfl,rfl⟩;exact ac
def jJ (N:Nat)(p8:(List Ct)):Option (List Ct):=
 some p8
def fH (N:Nat)(a0:Cz):Nat→Int→(List Ct)→Int→Option (List Ct)
 |0,_,_,_=>none
 |m10+1,p11,p12,p13=>bif decide (0≤p13) then ((ck a0.shapes_ p11).bind fun x15=>(ck p12 p13).bind fun x16=>(ck (List.set p12 p13.toNat (⟨x15.Up,(⟨x15.Key.Kind,x15.Key.N,x15.Key.S⟩:CC),x15.Attrs,x15.Len⟩:Ct)) p13).bind fun x17=>dD (cc (p13 - 1)) ((fH N a0 m10) x17.Up (List.set p12 p13.toNat (⟨x15.Up,(⟨x15.Key.Kind,x15.Key.N,x15.Key.S⟩:CC),x15.Attrs,x15.Len⟩:Ct)) (p13 - 1))) else (jJ N p12)
def dV (N:Nat)(a0:Cz)(a1:Int):Option (List Ct):=
 (eX N a0 a1).bind fun y4=>dD (0≤y4∧y4≤1000000) (dD (cc (((List.replicate y4.toNat (⟨0,(⟨0,0,⟨#[]⟩⟩:CC),0,0⟩:Ct)).length:Int) - 1)) (fH N a0 N a1 (List.replicate y4.toNat (⟨0,(⟨0,0,⟨#[]⟩⟩:CC),0,0⟩:Ct)) (((List.replicate y4.toNat (⟨0,(⟨0,0,⟨#[]⟩⟩:CC),0,0⟩:Ct)).length:Int) - 1)))
theorem eC {N:Nat}{a0:Cz}{a1:Int}{r:(List Ct)}(h:dV N a0 a1=some r):Okc Tryz.prog 168 [pV B1 0,iV a1] ([aR B1 205 [I A2 n2 c2,.map (some M3)],oJ A2 n2 c2 a0.shapes_,d5 aD cu M3 a0.next_]) (fun u post=> ∃A0 n0 c0,u=I A0 n0 c0∧post=[cR A0 n0 c0 r]):=by
 refine bj Tryz.func168 J J ?_;simp only [aS];refine U ?_;obtain ⟨y4,hy4,h⟩:=aa h;refine gD (ak (gj hy4) sU J (hE (ag (i:=0) J J) (hE (ag (i:=1) J J) (hE (ag (i:=2) J J) ac))) fi) ?_;rintro _ _ ⟨_,⟨rfl,rfl⟩,rfl⟩;obtain ⟨q5,h⟩:=aB h;refine gD (yb (R:=nm) (zl:=[iV 0,iV 0,iV 0,.string (⟨#[]⟩),iV 0,iV 0]) (x0:=(⟨0,(⟨0,0,⟨#[]⟩⟩:CC),0,0⟩:Ct)) J J Cg J J J J J (by decide) (fun _ _=>J) q5) ?_;rintro _ _ ⟨A6,n6,c6,rfl,rfl⟩;refine U ?_;refine aY (fun s L=> ∃p8 A8 n8 c8,jJ N p8=some r∧s=[(4,I none 0 0),(5,I A8 n8 c8)]∧L=[cR A8 n8 c8 p8]) ?_ ?_
 ·refine U ?_;refine gR (br 0 J az J Cg) ?_;obtain ⟨q9,h⟩:=aB h;refine gE (gQ J J q9.1 q9.2) ?_;refine U ?_;refine ci (fun m s L=> ∃p11 p12 p13 A12 n12 c12,fH N a0 m p11 p12 p13=some r∧s=[(0,pV B1 0),(1,iV p11),(4,I none 0 0),(5,I A12 n12 c12),(6,iV p13)]∧L=[cR A12 n12 c12 p12,oJ A2 n2 c2 a0.shapes_,d5 aD cu M3 a0.next_,aR B1 205 [I A2 n2 c2,.map (some M3)]]) N _ _ ⟨a1,List.replicate y4.toNat (⟨0,(⟨0,0,⟨#[]⟩⟩:CC),0,0⟩:Ct),((List.replicate y4.toNat (⟨0,(⟨0,0,⟨#[]⟩⟩:CC),0,0⟩:Ct)).length:Int) - 1,A6,n6,c6,h,J,J⟩ sA (cS [0,2,3,1] 4) ?_;rintro (_|m10) _ _ ⟨p11,p12,p13,A12,n12,c12,h,rfl,rfl⟩
  ·exact bd h
  rw [fH.eq_2] at h;refine aw ?_;refine U ?_;refine aq J (fun g14=> ?_) (fun g14=> ?_)
  ·replace h:=ad g14 h;refine U ?_;refine aw ?_;refine U ?_;refine gR (bN 3 J J jS J) ?_;refine U ?_;obtain ⟨x15,hx15,h⟩:=aa h;obtain ⟨lx15,ux15,hx15⟩:=aG hx15;refine gR (bf 1 J aI J J Cg cp lx15 ux15) ?_;refine gR (bi (us:=[iV x15.Up,iV x15.Key.Kind,iV x15.Key.N,.string x15.Key.S,iV x15.Attrs,iV x15.Len]) 1 J aI J hx15 kU (fun _ _ _ h=>by rw [show _=_ from h];rfl)) ?_;obtain ⟨x16,hx16,h⟩:=aa h;obtain ⟨lx16,ux16,hx16⟩:=aG hx16;refine gR (bf 0 J az J J Cg cp lx16 ux16) ?_;refine gO (cF (us:=[iV x15.Up,iV x15.Key.Kind,iV x15.Key.N,.string x15.Key.S,iV x15.Attrs,iV x15.Len]) (z:=(⟨x15.Up,(⟨x15.Key.Kind,x15.Key.N,x15.Key.S⟩:CC),x15.Attrs,x15.Len⟩:Ct)) 0 J J J J cp J (ba lx16 ux16) J (fun S w vs xk hk hr ho=>by obtain rfl:=Option.some.inj (hk.symm.trans hx16);rw [show _=_ from hr];rfl)) ?_;rintro _ _ rfl;refine U ?_;obtain ⟨x17,hx17,h⟩:=aa h;obtain ⟨lx17,ux17,hx17⟩:=aG hx17;refine gR (bf 0 J az J J Cg cp lx17 ux17) ?_;refine gR (lA 0 J az J (ba lx17 ux17) oO) ?_;refine gR (dg (u:=iV x17.Up) 0 J az J hx17 co (fun _ _ _ h=>by rw [show _=_ from h];rfl)) ?_;refine U ?_;obtain ⟨q18,h⟩:=aB h;refine gE (gQ J J q18.1 q18.2) ?_;refine U ?_;exact ⟨m10,_,_,CG _,⟨x17.Up,List.set p12 p13.toNat (⟨x15.Up,(⟨x15.Key.Kind,x15.Key.N,x15.Key.S⟩:CC),x15.Attrs,x15.Len⟩:Ct),p13 - 1,A12,n12,c12,h,J,J⟩,sA,cS [0,1,2,3] 4⟩
  replace h:=ae g14 h;refine U ?_;exact ⟨_,_,⟨p12,A12,n12,c12,h,J,J⟩,sA,cS [0] 4⟩
 rintro _ _ ⟨p8,A8,n8,c8,h,rfl,rfl⟩;refine U ?_;obtain rfl:=al h;exact aJ J J (cS [0] 1) ⟨_,_,_,J,J⟩
theorem dU {r:(List Ct)}: ∀v post,((fun (u:Value) (post:List Chunk)=> ∃A0 n0 c0,u=I A0 n0 c0∧post=[cR A0 n0 c0 r])) v post→ ∀c∈post,bS c:=by
 rintro _ _ ⟨_,_,_,rfl,rfl⟩;exact hE dh (ac)
def iI (N:Nat)(p5:(List Int)):Option (List Int):=
 some p5
def fk (N:Nat)(y6:((List Ct))):Nat→(List Int)→Int→Option (List Int)
 |0,_,_=>none
 |m8+1,p9,p10=>bif decide (p10<(y6.length:Int)) then ((ck y6 p10).bind fun x13=>dD (iO (p9.length+([x13.Attrs]:List Int).length)) (dD (cc (p10+1)) ((fk N y6 m8) (p9++([x13.Attrs]:List Int)) (p10+1)))) else (iI N p9)
def jm (N:Nat)(a0:Cz)(a1:Int):Option (List Int):=
 (dV N a0 a1).bind fun y6=>fk N y6 N [] 0
theorem mq {N:Nat}{a0:Cz}{a1:Int}{r:(List Int)}(h:jm N a0 a1=some r):Okc Tryz.prog 158 [pV B1 0,iV a1] ([aR B1 205 [I A2 n2 c2,.map (some M3)],oJ A2 n2 c2 a0.shapes_,d5 aD cu M3 a0.next_]) (fun u post=> ∃A0 n0 c0,u=I A0 n0 c0∧post=[cC (iX .i64) 3 (I A0 n0 c0) r]):=by
 refine bj Tryz.func158 J J ?_;simp only [aS];refine U ?_;refine aY (fun s L=> ∃p5 A5 n5 c5,iI N p5=some r∧s=[(4,I none 0 0),(5,I A5 n5 c5)]∧L=[cC (iX .i64) 3 (I A5 n5 c5) p5]) ?_ ?_
 ·refine U ?_;obtain ⟨y6,hy6,h⟩:=aa h;refine gD (ak (eC hy6) qq J (hE (ag (i:=0) J J) (hE (ag (i:=1) J J) (hE (ag (i:=2) J J) ac))) dU) ?_;rintro _ _ ⟨_,⟨A7,n7,c7,rfl,rfl⟩,rfl⟩;refine gR (br 0 J az J Cg) ?_;refine U ?_;refine ci (fun m s L=> ∃p9 p10 A9 n9 c9,fk N y6 m p9 p10=some r∧s=[(4,I none 0 0),(5,I A9 n9 c9),(10,I A7 n7 c7),(11,iV (y6.length:Int)),(12,iV p10)]∧L=[cC (iX .i64) 3 (I A9 n9 c9) p9,cR A7 n7 c7 y6]) N _ _ ⟨[],0,none,0,0,h,J,J⟩ sA ((ei (iX .i64) 3 _).trans (cS [0,1] 5)) ?_;rintro (_|m8) _ _ ⟨p9,p10,A9,n9,c9,h,rfl,rfl⟩
  ·exact bd h
  rw [fk.eq_2] at h;refine U ?_;refine aw ?_;refine aq J (fun g12=> ?_) (fun g12=> ?_)
  ·replace h:=ad g12 h;refine U ?_;refine aw ?_;refine U ?_;obtain ⟨x13,hx13,h⟩:=aa h;obtain ⟨lx13,ux13,hx13⟩:=aG hx13;refine gR (bf 1 J az J J Cg cp lx13 ux13) ?_;refine gR (bi (us:=[iV x13.Up,iV x13.Key.Kind,iV x13.Key.N,.string x13.Key.S,iV x13.Attrs,iV x13.Len]) 1 J az J hx13 kU (fun _ _ _ h=>by rw [show _=_ from h];rfl)) ?_;refine gD (aF lw J) ?_;rintro _ _ ⟨B14,rfl,rfl⟩;refine gO (ao (us:=[iV x13.Up,iV x13.Key.Kind,iV x13.Key.N,.string x13.Key.S,iV x13.Attrs,iV x13.Len]) (cs':=[iV x13.Up,iV x13.Key.Kind,iV x13.Key.N,.string x13.Key.S,iV x13.Attrs,iV x13.Len]) 0 J J J J cp J J J) ?_;rintro _ _ rfl;refine U ?_;refine gD (bD (R:=(iX .i64)) (vss:=[[iV x13.Attrs]]) (xs:=[x13.Attrs]) J (sc _) J J (fun _ _ hr=> .cons J All2.nil)) ?_;rintro _ _ ⟨A15,n15,c15,rfl,rfl⟩;obtain ⟨q16,h⟩:=aB h;refine gD (cG 2 0 J J az J J hU Bw J J q16) ?_;rintro _ _ ⟨A17,n17,c17,rfl,rfl⟩;refine U ?_;obtain ⟨q18,h⟩:=aB h;refine gE (bU J J q18.1 q18.2) ?_;refine U ?_;exact ⟨m8,_,_,CG _,⟨p9++([x13.Attrs]:List Int),p10+1,A17,n17,c17,h,J,J⟩,sA,cS [2,3] 4⟩
  replace h:=ae g12 h;refine U ?_;exact ⟨_,_,⟨p9,A9,n9,c9,h,J,J⟩,sA,cS [0] 2⟩
 rintro _ _ ⟨p5,A5,n5,c5,h,rfl,rfl⟩;refine U ?_;obtain rfl:=al h;exact aJ J J (cS [0] 1) ⟨_,_,_,J,J⟩
theorem lz {r:(List Int)}: ∀v post,((fun (u:Value) (post:List Chunk)=> ∃A0 n0 c0,u=I A0 n0 c0∧post=[cC (iX .i64) 3 (I A0 n0 c0) r])) v post→ ∀c∈post,bS c:=by
 rintro _ _ ⟨_,_,_,rfl,rfl⟩;exact hE dh (ac)
def jk (N:Nat)(p5:(List CC)):Option (List CC):=
 some p5
def fJ (N:Nat)(y6:((List Ct))):Nat→(List CC)→Int→Option (List CC)
 |0,_,_=>none
 |m8+1,p9,p10=>bif decide (p10<(y6.length:Int)) then ((ck y6 p10).bind fun x13=>dD (iO (p9.length+([x13.Key]:List CC).length)) (dD (cc (p10+1)) ((fJ N y6 m8) (p9++([x13.Key]:List CC)) (p10+1)))) else (jk N p9)
def jL (N:Nat)(a0:Cz)(a1:Int):Option (List CC):=
 (dV N a0 a1).bind fun y6=>fJ N y6 N [] 0
theorem nD {N:Nat}{a0:Cz}{a1:Int}{r:(List CC)}(h:jL N a0 a1=some r):Okc Tryz.prog 124 [pV B1 0,iV a1] ([aR B1 205 [I A2 n2 c2,.map (some M3)],oJ A2 n2 c2 a0.shapes_,d5 aD cu M3 a0.next_]) (fun u post=> ∃A0 n0 c0,u=I A0 n0 c0∧post=[kW A0 n0 c0 r]):=by
 refine bj Tryz.func124 J J ?_;simp only [aS];refine U ?_;refine aY (fun s L=> ∃p5 A5 n5 c5,jk N p5=some r∧s=[(4,I none 0 0),(5,I A5 n5 c5)]∧L=[kW A5 n5 c5 p5]) ?_ ?_
 ·refine U ?_;obtain ⟨y6,hy6,h⟩:=aa h;refine gD (ak (eC hy6) qq J (hE (ag (i:=0) J J) (hE (ag (i:=1) J J) (hE (ag (i:=2) J J) ac))) dU) ?_;rintro _ _ ⟨_,⟨A7,n7,c7,rfl,rfl⟩,rfl⟩;refine gR (br 0 J az J Cg) ?_;refine U ?_;refine ci (fun m s L=> ∃p9 p10 A9 n9 c9,fJ N y6 m p9 p10=some r∧s=[(4,I none 0 0),(5,I A9 n9 c9),(10,I A7 n7 c7),(11,iV (y6.length:Int)),(12,iV p10)]∧L=[kW A9 n9 c9 p9,cR A7 n7 c7 y6]) N _ _ ⟨[],0,none,0,0,h,J,J⟩ sA ((ei fF 24 _).trans (cS [0,1] 5)) ?_;rintro (_|m8) _ _ ⟨p9,p10,A9,n9,c9,h,rfl,rfl⟩
  ·exact bd h
  rw [fJ.eq_2] at h;refine U ?_;refine aw ?_;refine aq J (fun g12=> ?_) (fun g12=> ?_)
  ·replace h:=ad g12 h;refine U ?_;refine aw ?_;refine U ?_;obtain ⟨x13,hx13,h⟩:=aa h;obtain ⟨lx13,ux13,hx13⟩:=aG hx13;refine gR (bf 1 J az J J Cg cp lx13 ux13) ?_;refine gR (bi (us:=[iV x13.Up,iV x13.Key.Kind,iV x13.Key.N,.string x13.Key.S,iV x13.Attrs,iV x13.Len]) 1 J az J hx13 kU (fun _ _ _ h=>by rw [show _=_ from h];rfl)) ?_;refine gD (aF lw J) ?_;rintro _ _ ⟨B14,rfl,rfl⟩;refine gO (ao (us:=[iV x13.Up,iV x13.Key.Kind,iV x13.Key.N,.string x13.Key.S,iV x13.Attrs,iV x13.Len]) (cs':=[iV x13.Up,iV x13.Key.Kind,iV x13.Key.N,.string x13.Key.S,iV x13.Attrs,iV x13.Len]) 0 J J J J cp J J J) ?_;rintro _ _ rfl;refine U ?_;refine gR (ai (us:=[iV x13.Key.Kind,iV x13.Key.N,.string x13.Key.S]) 0 J J bH J) ?_;refine gD (bD (R:=fF) (vss:=[[iV x13.Key.Kind,iV x13.Key.N,.string x13.Key.S]]) (xs:=[x13.Key]) J (mU _ _ _) J J (fun _ _ hr=> .cons J All2.nil)) ?_;rintro _ _ ⟨A15,n15,c15,rfl,rfl⟩;obtain ⟨q16,h⟩:=aB h;refine gD (cG 2 0 J J az J J Ch wx J J q16) ?_;rintro _ _ ⟨A17,n17,c17,rfl,rfl⟩;refine U ?_;obtain ⟨q18,h⟩:=aB h;refine gE (bU J J q18.1 q18.2) ?_;refine U ?_;exact ⟨m8,_,_,CG _,⟨p9++([x13.Key]:List CC),p10+1,A17,n17,c17,h,J,J⟩,sA,cS [2,3] 4⟩
  replace h:=ae g12 h;refine U ?_;exact ⟨_,_,⟨p9,A9,n9,c9,h,J,J⟩,sA,cS [0] 2⟩
 rintro _ _ ⟨p5,A5,n5,c5,h,rfl,rfl⟩;refine U ?_;obtain rfl:=al h;exact aJ J J (cS [0] 1) ⟨_,_,_,J,J⟩
theorem mj {r:(List CC)}: ∀v post,((fun (u:Value) (post:List Chunk)=> ∃A0 n0 c0,u=I A0 n0 c0∧post=[kW A0 n0 c0 r])) v post→ ∀c∈post,bS c:=by
 rintro _ _ ⟨_,_,_,rfl,rfl⟩;exact hE dh (ac)
def eS (N:Nat)(a2:CC)(a3:Int)(p28:Int)(p29:Int)(p30:ByteArray)(p31:Int)(p32:Int)(p33:ByteArray):Option Cr:=
 some (⟨a2,a3,(⟨0,0,⟨#[]⟩⟩:Cp),(⟨p28,p29,p30⟩:Cp),(⟨p31,p32,p33⟩:Cp)⟩:Cr)
def fL (N:Nat)(a0:Cn)(a1:Int)(a2:CC)(a3:Int):Option Cr:=
 dD (cc (a1+1)) (bif decide ((a0.Cell.Slots.length:Int)≤a1+1) then (some (⟨a2,a3,(⟨0,0,⟨#[]⟩⟩:Cp),(⟨0,0,⟨#[]⟩⟩:Cp),(⟨0,0,⟨#[]⟩⟩:Cp)⟩:Cr)) else (dD (cc (a1+1)) ((ck a0.Cell.Slots (a1+1)).bind fun x24=>bif decide (aX .i64 a3 8=0) then (some (⟨a2,a3,x24,(⟨0,0,⟨#[]⟩⟩:Cp),(⟨0,0,⟨#[]⟩⟩:Cp)⟩:Cr)) else ((dK N a0.w_ x24).bind fun y34=>bif decide ((y34.Slots.length:Int)=2) then ((ck y34.Slots 0).bind fun x42=>(ck y34.Slots 1).bind fun x43=>eS N a2 a3 x42.Kind x42.N x42.S x43.Kind x43.N x43.S) else (eS N a2 a3 0 0 (⟨#[]⟩) 0 0 (⟨#[]⟩))))))
theorem iM {N:Nat}{a0:Cn}{a1:Int}{a2:CC}{a3:Int}{r:Cr}(h:fL N a0 a1 a2 a3=some r):Okc Tryz.prog 159 [pV B1 0,iV a1,.agg #[iV a2.Kind,iV a2.N,.string a2.S],iV a3] ([aR B1 140 [iV a0.Cell.Kind,iV a0.Cell.Shape,iV a0.Cell.Flags,iV a0.Cell.Age,I A2 n2 c2,I A3 n3 c3,pV B4 0,iV a0.at_.Kind,iV a0.at_.N,.string a0.at_.S],cn A2 n2 c2 a0.Cell.Slots,cn A3 n3 c3 a0.Cell.More,aR B4 151 [iV a0.w_.spent_.steps_,iV a0.w_.spent_.made_,iV a0.w_.spent_.calls_,iV a0.w_.config_.Way,iV a0.w_.config_.Steps,iV a0.w_.config_.Calls,iV a0.w_.config_.Made,iV a0.w_.config_.Young,iV a0.w_.config_.Full,iV a0.w_.config_.Sites,.nilIface,pV B5 0,pV B12 0,I A15 n15 c15,iV a0.w_.epoch_,iV a0.w_.serial_,iV a0.w_.sleepers_,I A16 n16 c16,I A17 n17 c17],aR B5 199 [I A6 n6 c6,I A7 n7 c7,I A8 n8 c8,I A9 n9 c9,pV B10 0],lv A6 n6 c6 a0.w_.heap_.m_.Young,lv A7 n7 c7 a0.w_.heap_.m_.Old,cn A8 n8 c8 a0.w_.heap_.roots_,cn A9 n9 c9 a0.w_.heap_.pending_,aR B10 247 [.map (some M11)],d5 cv cy M11 a0.w_.heap_.set_.at_,aR B12 205 [I A13 n13 c13,.map (some M14)],oJ A13 n13 c13 a0.w_.shapes_.shapes_,d5 aD cu M14 a0.w_.shapes_.next_,be A15 n15 c15 a0.w_.symbols_,ct A16 n16 c16 a0.w_.events_,be A17 n17 c17 a0.w_.out_]) (fun u post=>u=.agg #[iV r.Key.Kind,iV r.Key.N,.string r.Key.S,iV r.Attrs,iV r.Value.Kind,iV r.Value.N,.string r.Value.S,iV r.Get.Kind,iV r.Get.N,.string r.Get.S,iV r.Set.Kind,iV r.Set.N,.string r.Set.S]∧post=[]):=by
 refine bj Tryz.func159 J J ?_;simp only [aS];refine U ?_;refine gD (aN J J) ?_;rintro _ _ ⟨B18,rfl,rfl⟩;refine gD (aF dy J) ?_;rintro _ _ ⟨B19,rfl,rfl⟩;refine U ?_;refine gR (ai (us:=[iV a2.Kind,iV a2.N,.string a2.S]) 1 J J bH J) ?_;refine U ?_;refine gE (aW J (uw _ _ _ _)) ?_;refine gD (aF dy J) ?_;rintro _ _ ⟨B20,rfl,rfl⟩;refine gO (ao (us:=[iV a2.Kind,iV a2.N,.string a2.S,iV a3,iV 0,iV 0,.string (⟨#[]⟩),iV 0,iV 0,.string (⟨#[]⟩),iV 0,iV 0,.string (⟨#[]⟩)]) (cs':=[iV a2.Kind,iV a2.N,.string a2.S,iV a3,iV 0,iV 0,.string (⟨#[]⟩),iV 0,iV 0,.string (⟨#[]⟩),iV 0,iV 0,.string (⟨#[]⟩)]) 0 J J J J cj J J J) ?_;rintro _ _ rfl;refine U ?_;refine aw ?_;refine U ?_;obtain ⟨q21,h⟩:=aB h;refine gE (bU J J q21.1 q21.2) ?_;refine U ?_;refine gR (bN 3 J J d4 J) ?_;refine gR (br 4 J aI J hH) ?_;refine U ?_;refine aq J (fun g22=> ?_) (fun g22=> ?_)
 ·replace h:=ad g22 h;refine U ?_;refine gR (ai (us:=[iV a2.Kind,iV a2.N,.string a2.S,iV a3,iV 0,iV 0,.string (⟨#[]⟩),iV 0,iV 0,.string (⟨#[]⟩),iV 0,iV 0,.string (⟨#[]⟩)]) 0 J J da J) ?_;refine gO (ao (us:=[iV a2.Kind,iV a2.N,.string a2.S,iV a3,iV 0,iV 0,.string (⟨#[]⟩),iV 0,iV 0,.string (⟨#[]⟩),iV 0,iV 0,.string (⟨#[]⟩)]) (cs':=[iV a2.Kind,iV a2.N,.string a2.S,iV a3,iV 0,iV 0,.string (⟨#[]⟩),iV 0,iV 0,.string (⟨#[]⟩),iV 0,iV 0,.string (⟨#[]⟩)]) 1 J J J J cj J J J) ?_;rintro _ _ rfl;refine U ?_;obtain rfl:=al h;exact bR (rs:=[.cell 8 42]) (vs:=[.agg #[iV a2.Kind,iV a2.N,.string a2.S,iV a3,iV 0,iV 0,.string (⟨#[]⟩),iV 0,iV 0,.string (⟨#[]⟩),iV 0,iV 0,.string (⟨#[]⟩)]]) J (.cons (bg 1 J J da) .nil) J (cS [] 20) ⟨J,J⟩
 replace h:=ae g22 h;refine U ?_;refine gR (bN 3 J J d4 J) ?_;refine U ?_;obtain ⟨q23,h⟩:=aB h;refine gE (bU J J q23.1 q23.2) ?_;obtain ⟨x24,hx24,h⟩:=aa h;obtain ⟨lx24,ux24,hx24⟩:=aG hx24;refine gR (bf 4 J aI J J hH aT lx24 ux24) ?_;refine gR (bi (us:=[iV x24.Kind,iV x24.N,.string x24.S]) 4 J aI J hx24 aH (fun _ _ _ h=>by rw [show _=_ from h];rfl)) ?_;refine gD (aF dF J) ?_;rintro _ _ ⟨B25,rfl,rfl⟩;refine gO (ao (us:=[iV x24.Kind,iV x24.N,.string x24.S]) (cs':=[iV x24.Kind,iV x24.N,.string x24.S]) 0 J J J J aT J J J) ?_;rintro _ _ rfl;refine bG ?_;refine U ?_;refine aw ?_;refine U ?_;refine gE (bm J J) ?_;refine U ?_;refine aq J (fun g26=> ?_) (fun g26=> ?_)
 ·replace h:=ad g26 h;refine U ?_;refine gR (ai (us:=[iV x24.Kind,iV x24.N,.string x24.S]) 0 J J aH J) ?_;refine U ?_;refine gO (ao (us:=[iV x24.Kind,iV x24.N,.string x24.S]) (cs':=[iV a2.Kind,iV a2.N,.string a2.S,iV a3,iV x24.Kind,iV x24.N,.string x24.S,iV 0,iV 0,.string (⟨#[]⟩),iV 0,iV 0,.string (⟨#[]⟩)]) 1 J J J J aT J J J) ?_;rintro _ _ rfl;refine U ?_;refine gR (ai (us:=[iV a2.Kind,iV a2.N,.string a2.S,iV a3,iV x24.Kind,iV x24.N,.string x24.S,iV 0,iV 0,.string (⟨#[]⟩),iV 0,iV 0,.string (⟨#[]⟩)]) 1 J J da J) ?_;refine gO (ao (us:=[iV a2.Kind,iV a2.N,.string a2.S,iV a3,iV x24.Kind,iV x24.N,.string x24.S,iV 0,iV 0,.string (⟨#[]⟩),iV 0,iV 0,.string (⟨#[]⟩)]) (cs':=[iV a2.Kind,iV a2.N,.string a2.S,iV a3,iV x24.Kind,iV x24.N,.string x24.S,iV 0,iV 0,.string (⟨#[]⟩),iV 0,iV 0,.string (⟨#[]⟩)]) 2 J J J J cj J J J) ?_;rintro _ _ rfl;refine U ?_;obtain rfl:=al h;exact bR (rs:=[.cell 8 42]) (vs:=[.agg #[iV a2.Kind,iV a2.N,.string a2.S,iV a3,iV x24.Kind,iV x24.N,.string x24.S,iV 0,iV 0,.string (⟨#[]⟩),iV 0,iV 0,.string (⟨#[]⟩)]]) J (.cons (bg 2 J J da) .nil) J (cS [] 21) ⟨J,J⟩
 replace h:=ae g26 h;refine U ?_;refine aY (fun s L=> ∃p28 p29 p30 p31 p32 p33,eS N a2 a3 p28 p29 p30 p31 p32 p33=some r∧s=[(8,pV B19 0),(9,pV B20 0)]∧L=[aj B19 42 [iV 0,iV 0,.string (⟨#[]⟩),iV 0,iV 0,iV 0,.string (⟨#[]⟩),iV 0,iV 0,.string (⟨#[]⟩),iV 0,iV 0,.string (⟨#[]⟩)],aj B20 42 [iV a2.Kind,iV a2.N,.string a2.S,iV a3,iV 0,iV 0,.string (⟨#[]⟩),iV p28,iV p29,.string p30,iV p31,iV p32,.string p33]]) ?_ ?_
 ·refine aw ?_;obtain ⟨y34,hy34,h⟩:=aa h;refine gz (t:=[(0,pV B1 0),(8,pV B19 0),(9,pV B20 0),(10,pV B25 0)]) ?_ kY (am _)
  refine iE O 7 [] [5,6] [40,41,42,43,44,45,11] [[],[0],[1],[2],[],[3,4],[]] [aV (pV B1 0),
aV (pV B1 0),
aV (pV B1 6),
aV (pV B4 0),
aV (.agg #[iV x24.Kind,iV x24.N,.string x24.S]),
aX6 (fun (A37:Option Addr) (n37 c37:Nat) (A38:Option Addr) (n38 c38:Nat)=> .agg #[iV y34.Kind,iV y34.Shape,iV y34.Flags,iV y34.Age,I A37 n37 c37,I A38 n38 c38]) (fun A37 n37 c37 A38 n38 c38=> [aU A37 n37 c37 y34.Slots,aU A38 n38 c38 y34.More]),
aX1 (fun (B40:Nat)=>pV B40 0) (fun B40=> [aj B40 138 [iV 0,iV 0,iV 0,iV 0,I none 0 0,I none 0 0]])] [] (am _) (kE) O rfl rfl ?_ ?_ ?_
  ·exact kD
  ·refine ar J ?_ ?_
   ·refine nb (aF dv J) J ?_;rintro _ _ ⟨B39,rfl,rfl⟩;exact yD B39 (am _)
   refine ar J ?_ ?_
   ·refine nb (ak (d9 hy34) qt J (hE (ag (i:=7) J J) (hE (ag (i:=8) J J) (hE (ag (i:=9) J J) (hE (ag (i:=10) J J) (hE (ag (i:=11) J J) (hE (ag (i:=12) J J) (hE (ag (i:=13) J J) (hE (ag (i:=14) J J) (hE (ag (i:=15) J J) (hE (ag (i:=16) J J) (hE (ag (i:=17) J J) (hE (ag (i:=18) J J) (hE (ag (i:=19) J J) (hE (ag (i:=20) J J) ac)))))))))))))) dQ) J ?_;rintro _ _ ⟨_,⟨A35,n35,c35,A36,n36,c36,rfl,rfl⟩,rfl⟩;exact Bo A35 n35 c35 A36 n36 c36 (am _)
   refine ar J ?_ ?_
   ·exact gA (ai (us:=[iV x24.Kind,iV x24.N,.string x24.S]) 0 J J aH J) J (bF J (am _))
   refine ar J ?_ ?_
   ·exact gA (bN 4 J J pG J) J (bF J (am _))
   refine ar J ?_ ?_
   ·exact cP (bE J jU) J (bF J (am _))
   refine ar J ?_ ?_
   ·exact cP (aP J) J (bF J (am _))
   refine ar J ?_ ?_
   ·exact cP (av J) J (bF J (am _))
   exact eN
  intro A37 n37 c37 A38 n38 c38 B40
  refine nd (t:=[(45,.agg #[iV y34.Kind,iV y34.Shape,iV y34.Flags,iV y34.Age,I A37 n37 c37,I A38 n38 c38]),(11,pV B40 0),(0,pV B1 0),(8,pV B19 0),(9,pV B20 0),(10,pV B25 0)]) (L':=[aU A37 n37 c37 y34.Slots,aU A38 n38 c38 y34.More,aj B40 138 [iV 0,iV 0,iV 0,iV 0,I none 0 0,I none 0 0],aj B25 30 [iV x24.Kind,iV x24.N,.string x24.S],aj B20 42 [iV a2.Kind,iV a2.N,.string a2.S,iV a3,iV 0,iV 0,.string (⟨#[]⟩),iV 0,iV 0,.string (⟨#[]⟩),iV 0,iV 0,.string (⟨#[]⟩)],aj B19 42 [iV 0,iV 0,.string (⟨#[]⟩),iV 0,iV 0,iV 0,.string (⟨#[]⟩),iV 0,iV 0,.string (⟨#[]⟩),iV 0,iV 0,.string (⟨#[]⟩)],aj B18 24 [iV a2.Kind,iV a2.N,.string a2.S],aR B1 140 [iV a0.Cell.Kind,iV a0.Cell.Shape,iV a0.Cell.Flags,iV a0.Cell.Age,I A2 n2 c2,I A3 n3 c3,pV B4 0,iV a0.at_.Kind,iV a0.at_.N,.string a0.at_.S],cn A2 n2 c2 a0.Cell.Slots,cn A3 n3 c3 a0.Cell.More,aR B4 151 [iV a0.w_.spent_.steps_,iV a0.w_.spent_.made_,iV a0.w_.spent_.calls_,iV a0.w_.config_.Way,iV a0.w_.config_.Steps,iV a0.w_.config_.Calls,iV a0.w_.config_.Made,iV a0.w_.config_.Young,iV a0.w_.config_.Full,iV a0.w_.config_.Sites,.nilIface,pV B5 0,pV B12 0,I A15 n15 c15,iV a0.w_.epoch_,iV a0.w_.serial_,iV a0.w_.sleepers_,I A16 n16 c16,I A17 n17 c17],aR B5 199 [I A6 n6 c6,I A7 n7 c7,I A8 n8 c8,I A9 n9 c9,pV B10 0],lv A6 n6 c6 a0.w_.heap_.m_.Young,lv A7 n7 c7 a0.w_.heap_.m_.Old,cn A8 n8 c8 a0.w_.heap_.roots_,cn A9 n9 c9 a0.w_.heap_.pending_,aR B10 247 [.map (some M11)],d5 cv cy M11 a0.w_.heap_.set_.at_,aR B12 205 [I A13 n13 c13,.map (some M14)],oJ A13 n13 c13 a0.w_.shapes_.shapes_,d5 aD cu M14 a0.w_.shapes_.next_,be A15 n15 c15 a0.w_.symbols_,ct A16 n16 c16 a0.w_.events_,be A17 n17 c17 a0.w_.out_]) ?_ kY (am _)
  refine o7 7 J O (ao (us:=[iV y34.Kind,iV y34.Shape,iV y34.Flags,iV y34.Age,I A37 n37 c37,I A38 n38 c38]) (cs':=[iV y34.Kind,iV y34.Shape,iV y34.Flags,iV y34.Age,I A37 n37 c37,I A38 n38 c38]) 2 J J J J bY J J J) J J ?_;rintro _ _ rfl;refine wU ?_;refine kV O ?_;refine U ?_;refine gR (br 0 J az J hH) ?_;refine U ?_;refine aq J (fun g41=> ?_) (fun g41=> ?_)
  ·replace h:=ad g41 h
   refine bn O ([aU A37 n37 c37 y34.Slots,aU A38 n38 c38 y34.More,aj B40 138 [iV y34.Kind,iV y34.Shape,iV y34.Flags,iV y34.Age,I A37 n37 c37,I A38 n38 c38],aj B25 30 [iV x24.Kind,iV x24.N,.string x24.S],aj B19 42 [iV 0,iV 0,.string (⟨#[]⟩),iV 0,iV 0,iV 0,.string (⟨#[]⟩),iV 0,iV 0,.string (⟨#[]⟩),iV 0,iV 0,.string (⟨#[]⟩)],aj B18 24 [iV a2.Kind,iV a2.N,.string a2.S],aR B1 140 [iV a0.Cell.Kind,iV a0.Cell.Shape,iV a0.Cell.Flags,iV a0.Cell.Age,I A2 n2 c2,I A3 n3 c3,pV B4 0,iV a0.at_.Kind,iV a0.at_.N,.string a0.at_.S],cn A2 n2 c2 a0.Cell.Slots,cn A3 n3 c3 a0.Cell.More,aR B4 151 [iV a0.w_.spent_.steps_,iV a0.w_.spent_.made_,iV a0.w_.spent_.calls_,iV a0.w_.config_.Way,iV a0.w_.config_.Steps,iV a0.w_.config_.Calls,iV a0.w_.config_.Made,iV a0.w_.config_.Young,iV a0.w_.config_.Full,iV a0.w_.config_.Sites,.nilIface,pV B5 0,pV B12 0,I A15 n15 c15,iV a0.w_.epoch_,iV a0.w_.serial_,iV a0.w_.sleepers_,I A16 n16 c16,I A17 n17 c17],aR B5 199 [I A6 n6 c6,I A7 n7 c7,I A8 n8 c8,I A9 n9 c9,pV B10 0],lv A6 n6 c6 a0.w_.heap_.m_.Young,lv A7 n7 c7 a0.w_.heap_.m_.Old,cn A8 n8 c8 a0.w_.heap_.roots_,cn A9 n9 c9 a0.w_.heap_.pending_,aR B10 247 [.map (some M11)],d5 cv cy M11 a0.w_.heap_.set_.at_,aR B12 205 [I A13 n13 c13,.map (some M14)],oJ A13 n13 c13 a0.w_.shapes_.shapes_,d5 aD cu M14 a0.w_.shapes_.next_,be A15 n15 c15 a0.w_.symbols_,ct A16 n16 c16 a0.w_.events_,be A17 n17 c17 a0.w_.out_]) (cS [0,1,2,3,5,6,7,8,9,10,11,12,13,14,15,16,17,18,19,20,21,22,23] 24) ?_
   refine zE 0 J (bE J ft) ?_;refine zR 1 J (aM 2 J J d4 J) ?_;obtain ⟨x42,hx42,h⟩:=aa h;obtain ⟨lx42,ux42,hx42⟩:=aG hx42;refine zR 2 J (bf 0 J az J J hH aT lx42 ux42) ?_;refine zR 3 J (bi (us:=[iV x42.Kind,iV x42.N,.string x42.S]) 0 J az J hx42 aH (fun _ _ _ h=>by rw [show _=_ from h];rfl)) ?_;refine zE 4 J (bE J ft) ?_;refine zR 5 J (aM 2 J J d4 J) ?_;obtain ⟨x43,hx43,h⟩:=aa h;obtain ⟨lx43,ux43,hx43⟩:=aG hx43;refine zR 6 J (bf 0 J az J J hH aT lx43 ux43) ?_;refine zR 7 J (bi (us:=[iV x43.Kind,iV x43.N,.string x43.S]) 0 J az J hx43 aH (fun _ _ _ h=>by rw [show _=_ from h];rfl)) ?_;refine zE 8 J (bE J qm) ?_;refine zO 9 J (ao (us:=[iV x42.Kind,iV x42.N,.string x42.S]) (cs':=[iV a2.Kind,iV a2.N,.string a2.S,iV a3,iV 0,iV 0,.string (⟨#[]⟩),iV x42.Kind,iV x42.N,.string x42.S,iV 0,iV 0,.string (⟨#[]⟩)]) 4 J J J J aT J J J) ?_;rintro _ _ rfl;refine cf (cS [0,1,2,3,5,6,7,8,9,10,11,12,13,14,15,16,17,18,19,20,21,22,23] 24) ?_;refine bC ?_;refine zE 10 J (bE J ql) ?_;refine zO 11 J (ao (us:=[iV x43.Kind,iV x43.N,.string x43.S]) (cs':=[iV a2.Kind,iV a2.N,.string a2.S,iV a3,iV 0,iV 0,.string (⟨#[]⟩),iV x42.Kind,iV x42.N,.string x42.S,iV x43.Kind,iV x43.N,.string x43.S]) 4 J J J J aT J J J) ?_;rintro _ _ rfl;refine cf (cS [0,1,2,3,5,6,7,8,9,10,11,12,13,14,15,16,17,18,19,20,21,22,23] 24) ?_;refine bC ?_;refine bc O ?_;refine dz ?_
   exact ⟨_,_,⟨x42.Kind,x42.N,x42.S,x43.Kind,x43.N,x43.S,h,J,J⟩,sA,cS [5,4] 24⟩
  replace h:=ae g41 h;refine U ?_;exact ⟨_,_,⟨0,0,⟨#[]⟩,0,0,⟨#[]⟩,h,J,J⟩,sA,cS [5,4] 24⟩
 rintro _ _ ⟨p28,p29,p30,p31,p32,p33,h,rfl,rfl⟩;refine U ?_;refine gR (ai (us:=[iV a2.Kind,iV a2.N,.string a2.S,iV a3,iV 0,iV 0,.string (⟨#[]⟩),iV p28,iV p29,.string p30,iV p31,iV p32,.string p33]) 1 J J da J) ?_;refine gO (ao (us:=[iV a2.Kind,iV a2.N,.string a2.S,iV a3,iV 0,iV 0,.string (⟨#[]⟩),iV p28,iV p29,.string p30,iV p31,iV p32,.string p33]) (cs':=[iV a2.Kind,iV a2.N,.string a2.S,iV a3,iV 0,iV 0,.string (⟨#[]⟩),iV p28,iV p29,.string p30,iV p31,iV p32,.string p33]) 0 J J J J cj J J J) ?_;rintro _ _ rfl;refine U ?_;obtain rfl:=al h;exact bR (rs:=[.cell 8 42]) (vs:=[.agg #[iV a2.Kind,iV a2.N,.string a2.S,iV a3,iV 0,iV 0,.string (⟨#[]⟩),iV p28,iV p29,.string p30,iV p31,iV p32,.string p33]]) J (.cons (bg 0 J J da) .nil) J (cS [] 2) ⟨J,J⟩
theorem gI {r:Cr}: ∀v post,((fun (u:Value) (post:List Chunk)=>u=.agg #[iV r.Key.Kind,iV r.Key.N,.string r.Key.S,iV r.Attrs,iV r.Value.Kind,iV r.Value.N,.string r.Value.S,iV r.Get.Kind,iV r.Get.N,.string r.Get.S,iV r.Set.Kind,iV r.Set.N,.string r.Set.S]∧post=[])) v post→ ∀c∈post,bS c:=by
 rintro _ _ ⟨rfl,rfl⟩;exact ac
def ld (N:Nat)(a0:Cw)(p39:(List Cr)):Option (List Cr):=
 some p39
def im (N:Nat)(y41:((List CC)))(y36:((List Int)))(y16_1:(Cn))(a0:Cw):Nat→(List Cr)→(List CC)→Int→Option (List Cr)
 |0,_,_,_=>none
 |m44+1,p45,p46,p47=>bif decide (p47<(y41.length:Int)) then ((ck p46 p47).bind fun x50=>(ck y36 p47).bind fun x52=>(fL N (⟨y16_1.Cell,a0,y16_1.at_⟩:Cn) p47 x50 x52).bind fun y53=>dD ((p45.length+([y53]:List Cr).length)≤549755813888) (dD (cc (p47+1)) ((im N y41 y36 y16_1 a0 m44) (p45++([y53]:List Cr)) p46 (p47+1)))) else (ld N a0 p45)
def fr (N:Nat)(a0:Cw)(a1:Cp):Option (List Cr):=
 (eO N a0 a1).bind fun y16=>vP y16 (fun y16_0=>some []) (fun y16_1=>(cN N a0).bind fun y35=>(jm N a0.shapes_ y16_1.Cell.Shape).bind fun y36=>(cN N a0).bind fun y40=>(jL N a0.shapes_ y16_1.Cell.Shape).bind fun y41=>im N y41 y36 y16_1 a0 N [] y41 0)
theorem f6 {N:Nat}{a0:Cw}{a1:Cp}{r:(List Cr)}(h:fr N a0 a1=some r):Okc Tryz.prog 105 [pV B1 0,.agg #[iV a1.Kind,iV a1.N,.string a1.S]] ([be A12 n12 c12 a0.symbols_,ct A13 n13 c13 a0.events_,be A14 n14 c14 a0.out_,aj B1 151 [iV a0.spent_.steps_,iV a0.spent_.made_,iV a0.spent_.calls_,iV a0.config_.Way,iV a0.config_.Steps,iV a0.config_.Calls,iV a0.config_.Made,iV a0.config_.Young,iV a0.config_.Full,iV a0.config_.Sites,.nilIface,pV B2 0,pV B9 0,I A12 n12 c12,iV a0.epoch_,iV a0.serial_,iV a0.sleepers_,I A13 n13 c13,I A14 n14 c14],aj B2 199 [I A3 n3 c3,I A4 n4 c4,I A5 n5 c5,I A6 n6 c6,pV B7 0],bu A3 n3 c3 a0.heap_.m_.Young,bu A4 n4 c4 a0.heap_.m_.Old,aU A5 n5 c5 a0.heap_.roots_,aU A6 n6 c6 a0.heap_.pending_,aj B7 247 [.map (some M8)],aL cv cy M8 a0.heap_.set_.at_,aj B9 205 [I A10 n10 c10,.map (some M11)],cR A10 n10 c10 a0.shapes_.shapes_,aL aD cu M11 a0.shapes_.next_]) (fun u post=> ∃A500 n500 c500,u=I A500 n500 c500∧post=[cC iY 42 (I A500 n500 c500) r,aj B1 151 [iV a0.spent_.steps_,iV a0.spent_.made_,iV a0.spent_.calls_,iV a0.config_.Way,iV a0.config_.Steps,iV a0.config_.Calls,iV a0.config_.Made,iV a0.config_.Young,iV a0.config_.Full,iV a0.config_.Sites,.nilIface,pV B2 0,pV B9 0,I A12 n12 c12,iV a0.epoch_,iV a0.serial_,iV a0.sleepers_,I A13 n13 c13,I A14 n14 c14],aj B2 199 [I A3 n3 c3,I A4 n4 c4,I A5 n5 c5,I A6 n6 c6,pV B7 0],bu A3 n3 c3 a0.heap_.m_.Young,bu A4 n4 c4 a0.heap_.m_.Old,aU A5 n5 c5 a0.heap_.roots_,aU A6 n6 c6 a0.heap_.pending_,aj B7 247 [.map (some M8)],aL cv cy M8 a0.heap_.set_.at_,aj B9 205 [I A10 n10 c10,.map (some M11)],cR A10 n10 c10 a0.shapes_.shapes_,aL aD cu M11 a0.shapes_.next_]):=by
 refine bj Tryz.func105 J J ?_;simp only [aS];refine U ?_;refine gD (aN J J) ?_;rintro _ _ ⟨B15,rfl,rfl⟩;refine U ?_;refine gR (ai (us:=[iV a1.Kind,iV a1.N,.string a1.S]) 0 J J aH J) ?_;obtain ⟨y16,hy16,h⟩:=aa h;rcases y16 with y16_0|y16_1
 ·replace h:=uH h;refine gD (aE (cI hy16) kR J (aC [1,2,3] [4,5,6,7,8,9,10,11,12,13,14] [0,1,2,3] 15 J)) ?_;rintro _ _ ⟨_,⟨rfl,rfl⟩,rfl⟩;refine U ?_;refine aw ?_;refine U ?_;refine f3 J ?_;refine U ?_;obtain rfl:=al h;exact aJ J J ((ei iY 42 _).trans (cS [0,1,2,3,4,5,6,7,8,9,10,11] 16)) ⟨_,_,_,J,J⟩
 replace h:=uG h;refine gD (aE (cI hy16) kR J (aC [1,2,3] [4,5,6,7,8,9,10,11,12,13,14] [0,1,2,3] 15 J)) ?_;rintro _ _ ⟨_,⟨B18,A19,n19,c19,A20,n20,c20,rfl,rfl⟩,rfl⟩;refine U ?_;refine aw ?_;refine U ?_;refine f5 J ?_;refine U ?_;refine aw ?_;refine bn O _ (am _) ?_;refine zE 0 J (av J) ?_;refine zE 2 J (av J) ?_;refine zE 3 J (aP J) ?_;refine zE 4 J (cD J dM) ?_;refine zE 5 J (bE J jW) ?_;refine zR 6 J (aM 0 J J co J) ?_;obtain ⟨y35,hy35,h⟩:=aa h;refine zD 1 J (ak (df hy35) oX J (hE (ap (i:=3) J) (hE (ap (i:=4) J) (hE (ah (i:=5) J) (hE (ah (i:=6) J) (hE (ah (i:=7) J) (hE (ah (i:=8) J) (hE (ap (i:=9) J) (hE (aK (i:=10) J) (hE (ap (i:=11) J) (hE (ah (i:=12) J) (hE (aK (i:=13) J) (hE (ag (i:=15) J J) (hE (ag (i:=16) J J) (hE (ag (i:=17) J J) ac)))))))))))))) cM) ?_;rintro _ _ ⟨_,⟨rfl,rfl⟩,rfl⟩;refine ⟨_,am _,am _,?_⟩;obtain ⟨y36,hy36,h⟩:=aa h;refine zD 7 J (ak (mq hy36) zf J (hE (ap (i:=11) J) (hE (ah (i:=12) J) (hE (aK (i:=13) J) ac))) lz) ?_;rintro _ _ ⟨_,⟨A37,n37,c37,rfl,rfl⟩,rfl⟩;refine cf (cS [1,2,3,4,5,6,7,8,9,10,11,12,13,14,15,16,17,18] 19) ?_;refine zE 8 J (aQ J) ?_;refine bc O ?_;refine dz ?_
 refine aY (fun s L=> ∃p39 A39 n39 c39,ld N a0 p39=some r∧s=[(4,I none 0 0),(7,I A39 n39 c39)]∧L=[cC iY 42 (I A39 n39 c39) p39,be A12 n12 c12 a0.symbols_,ct A13 n13 c13 a0.events_,be A14 n14 c14 a0.out_,aj B1 151 [iV a0.spent_.steps_,iV a0.spent_.made_,iV a0.spent_.calls_,iV a0.config_.Way,iV a0.config_.Steps,iV a0.config_.Calls,iV a0.config_.Made,iV a0.config_.Young,iV a0.config_.Full,iV a0.config_.Sites,.nilIface,pV B2 0,pV B9 0,I A12 n12 c12,iV a0.epoch_,iV a0.serial_,iV a0.sleepers_,I A13 n13 c13,I A14 n14 c14],bu A3 n3 c3 a0.heap_.m_.Young,bu A4 n4 c4 a0.heap_.m_.Old,aU A5 n5 c5 a0.heap_.roots_,aU A6 n6 c6 a0.heap_.pending_,aj B2 199 [I A3 n3 c3,I A4 n4 c4,I A5 n5 c5,I A6 n6 c6,pV B7 0],cR A10 n10 c10 a0.shapes_.shapes_,aL aD cu M11 a0.shapes_.next_,aj B9 205 [I A10 n10 c10,.map (some M11)],aL cv cy M8 a0.heap_.set_.at_,aj B7 247 [.map (some M8)]]) ?_ ?_
 ·refine aw ?_;obtain ⟨y40,hy40,h⟩:=aa h;obtain ⟨y41,hy41,h⟩:=aa h;refine gz (t:=[(0,pV B1 0),(4,I none 0 0),(5,pV B18 0),(7,I none 0 0),(8,I A37 n37 c37)]) ?_ kY (am _)
  refine iE O 10 [] [7,8,9] [27,28,29,30,31,32,33,34,35,36] [[],[0],[],[2],[3],[4],[5],[1,6],[7],[]] [aV (pV B1 0),
aV (pV B9 0),
aV (pV B18 0),
aV (pV B18 0),
aV (pV B18 0),
aV (pV B18 1),
aV (iV y16_1.Cell.Shape),
aX3 (fun (A43:Option Addr) (n43 c43:Nat)=> I A43 n43 c43) (fun A43 n43 c43=> [kW A43 n43 c43 y41]),
aV (iV (y41.length:Int)),
aV (iV 0)] [] (am _) (kE) O rfl rfl ?_ ?_ ?_
  ·exact kD
  ·refine ar J ?_ ?_
   ·exact cP (av J) J (bF J (am _))
   refine ar J ?_ ?_
   ·intro A43 n43 c43;exact gA (br 0 J az J Ch) J (bF J (am _))
   refine ar J ?_ ?_
   ·refine nb (ak (nD hy41) zm J (hE (ap (i:=12) J) (hE (ah (i:=13) J) (hE (aK (i:=14) J) ac))) mj) J ?_;rintro _ _ ⟨_,⟨A42,n42,c42,rfl,rfl⟩,rfl⟩;exact yC A42 n42 c42 (am _)
   refine ar J ?_ ?_
   ·exact gA (aM 1 J J co J) J (bF J (am _))
   refine ar J ?_ ?_
   ·exact cP (bE J jW) J (bF J (am _))
   refine ar J ?_ ?_
   ·exact cP (cD J dM) J (bF J (am _))
   refine ar J ?_ ?_
   ·exact cP (aP J) J (bF J (am _))
   refine ar J ?_ ?_
   ·exact cP (av J) J (bF J (am _))
   refine ar J ?_ ?_
   ·refine nb (ak (df hy40) oX J (hE (ap (i:=4) J) (hE (ap (i:=5) J) (hE (ah (i:=6) J) (hE (ah (i:=7) J) (hE (ah (i:=8) J) (hE (ah (i:=9) J) (hE (ap (i:=10) J) (hE (aK (i:=11) J) (hE (ap (i:=12) J) (hE (ah (i:=13) J) (hE (aK (i:=14) J) (hE (ag (i:=16) J J) (hE (ag (i:=17) J J) (hE (ag (i:=18) J J) ac)))))))))))))) cM) J ?_;rintro _ _ ⟨_,⟨rfl,rfl⟩,rfl⟩;exact bF J (am _)
   refine ar J ?_ ?_
   ·exact cP (av J) J (bF J (am _))
   exact eN
  intro A43 n43 c43;refine nd (t:=[(34,I A43 n43 c43),(35,iV (y41.length:Int)),(36,iV 0),(0,pV B1 0),(4,I none 0 0),(5,pV B18 0),(7,I none 0 0),(8,I A37 n37 c37)]) (L':=[kW A43 n43 c43 y41,cC (iX .i64) 3 (I A37 n37 c37) y36,aj B18 140 [iV y16_1.Cell.Kind,iV y16_1.Cell.Shape,iV y16_1.Cell.Flags,iV y16_1.Cell.Age,I A19 n19 c19,I A20 n20 c20,pV B1 0,iV y16_1.at_.Kind,iV y16_1.at_.N,.string y16_1.at_.S],aU A19 n19 c19 y16_1.Cell.Slots,aU A20 n20 c20 y16_1.Cell.More,aj B1 151 [iV a0.spent_.steps_,iV a0.spent_.made_,iV a0.spent_.calls_,iV a0.config_.Way,iV a0.config_.Steps,iV a0.config_.Calls,iV a0.config_.Made,iV a0.config_.Young,iV a0.config_.Full,iV a0.config_.Sites,.nilIface,pV B2 0,pV B9 0,I A12 n12 c12,iV a0.epoch_,iV a0.serial_,iV a0.sleepers_,I A13 n13 c13,I A14 n14 c14],aj B2 199 [I A3 n3 c3,I A4 n4 c4,I A5 n5 c5,I A6 n6 c6,pV B7 0],bu A3 n3 c3 a0.heap_.m_.Young,bu A4 n4 c4 a0.heap_.m_.Old,aU A5 n5 c5 a0.heap_.roots_,aU A6 n6 c6 a0.heap_.pending_,aj B7 247 [.map (some M8)],aL cv cy M8 a0.heap_.set_.at_,aj B9 205 [I A10 n10 c10,.map (some M11)],cR A10 n10 c10 a0.shapes_.shapes_,aL aD cu M11 a0.shapes_.next_,aj B15 30 [iV a1.Kind,iV a1.N,.string a1.S],be A12 n12 c12 a0.symbols_,ct A13 n13 c13 a0.events_,be A14 n14 c14 a0.out_]) ?_ kY (am _);refine kV O ?_;refine U ?_
  refine ci (fun m s L=> ∃p45 p46 p47 A45 n45 c45 A46 n46 c46,im N y41 y36 y16_1 a0 m p45 p46 p47=some r∧s=[(4,I none 0 0),(5,pV B18 0),(7,I A45 n45 c45),(8,I A37 n37 c37),(34,I A46 n46 c46),(35,iV (y41.length:Int)),(36,iV p47)]∧L=[cC iY 42 (I A45 n45 c45) p45,cC (iX .i64) 3 (I A37 n37 c37) y36,kW A46 n46 c46 p46,aU A19 n19 c19 y16_1.Cell.Slots,aU A20 n20 c20 y16_1.Cell.More,aj B18 140 [iV y16_1.Cell.Kind,iV y16_1.Cell.Shape,iV y16_1.Cell.Flags,iV y16_1.Cell.Age,I A19 n19 c19,I A20 n20 c20,pV B1 0,iV y16_1.at_.Kind,iV y16_1.at_.N,.string y16_1.at_.S],be A12 n12 c12 a0.symbols_,ct A13 n13 c13 a0.events_,be A14 n14 c14 a0.out_,aj B1 151 [iV a0.spent_.steps_,iV a0.spent_.made_,iV a0.spent_.calls_,iV a0.config_.Way,iV a0.config_.Steps,iV a0.config_.Calls,iV a0.config_.Made,iV a0.config_.Young,iV a0.config_.Full,iV a0.config_.Sites,.nilIface,pV B2 0,pV B9 0,I A12 n12 c12,iV a0.epoch_,iV a0.serial_,iV a0.sleepers_,I A13 n13 c13,I A14 n14 c14],bu A3 n3 c3 a0.heap_.m_.Young,bu A4 n4 c4 a0.heap_.m_.Old,aU A5 n5 c5 a0.heap_.roots_,aU A6 n6 c6 a0.heap_.pending_,aj B2 199 [I A3 n3 c3,I A4 n4 c4,I A5 n5 c5,I A6 n6 c6,pV B7 0],cR A10 n10 c10 a0.shapes_.shapes_,aL aD cu M11 a0.shapes_.next_,aj B9 205 [I A10 n10 c10,.map (some M11)],aL cv cy M8 a0.heap_.set_.at_,aj B7 247 [.map (some M8)]]) N _ _ ⟨[],y41,0,none,0,0,A43,n43,c43,h,J,J⟩ sA ((ei iY 42 _).trans (cS [0,2,1,4,5,3,18,19,20,6,8,9,10,11,7,15,16,14,13,12] 21)) ?_
  rintro (_|m44) _ _ ⟨p45,p46,p47,A45,n45,c45,A46,n46,c46,h,rfl,rfl⟩
  ·exact bd h
  rw [im.eq_2] at h;refine U ?_;refine aw ?_;refine aq J (fun g49=> ?_) (fun g49=> ?_)
  ·replace h:=ad g49 h;refine U ?_;refine aw ?_;refine U ?_;obtain ⟨x50,hx50,h⟩:=aa h;obtain ⟨lx50,ux50,hx50⟩:=aG hx50;refine gR (bf 2 J az J J Ch fd lx50 ux50) ?_;refine gR (bi (us:=[iV x50.Kind,iV x50.N,.string x50.S]) 2 J az J hx50 bH (fun _ _ _ h=>by rw [show _=_ from h];rfl)) ?_;refine gD (aF qx J) ?_;rintro _ _ ⟨B51,rfl,rfl⟩;refine U ?_;refine gO (ao (us:=[iV x50.Kind,iV x50.N,.string x50.S]) (cs':=[iV x50.Kind,iV x50.N,.string x50.S]) 0 J J J J fd J J J) ?_;rintro _ _ rfl;refine bG ?_;refine U ?_;obtain ⟨x52,hx52,h⟩:=aa h;obtain ⟨lx52,ux52,hx52⟩:=aG hx52;refine gz (t:=[(4,I none 0 0),(5,pV B18 0),(7,I A45 n45 c45),(8,I A37 n37 c37),(9,iV p47),(10,pV B51 0),(34,I A46 n46 c46),(35,iV (y41.length:Int)),(36,iV p47)]) ?_ kY (am _)
   refine iE O 8 [0] [0,1,2,3,7] [41,42,43,44,45,46,47,48] [[],[],[],[],[],[],[4,5],[6]] [aV (I A45 n45 c45),
aV (pV B18 0),
aV (iV p47),
aV (.agg #[iV x50.Kind,iV x50.N,.string x50.S]),
aV (I A37 n37 c37),
aV (iV p47),
aV (dG (I A37 n37 c37) p47.toNat 1 0),
aV (iV x52)] [] (am _) (jv rfl kE) O rfl rfl ?_ ?_ ?_
   ·refine ju J ?_ ?_
    ·exact o6 (av J) J (bF J (am _))
    exact kD
   ·refine ar J ?_ ?_
    ·exact gA (dg (u:=iV x52) 2 J az J hx52 co (fun _ _ _ h=>by rw [show _=_ from h];rfl)) J (bF J (am _))
    refine ar J ?_ ?_
    ·exact gA (bf 2 J az J J hU fT lx52 ux52) J (bF J (am _))
    refine ar J ?_ ?_
    ·exact cP (av J) J (bF J (am _))
    refine ar J ?_ ?_
    ·exact cP (av J) J (bF J (am _))
    refine ar J ?_ ?_
    ·exact gA (ai (us:=[iV x50.Kind,iV x50.N,.string x50.S]) 0 J J bH J) J (bF J (am _))
    refine ar J ?_ ?_
    ·exact cP (av J) J (bF J (am _))
    refine ar J ?_ ?_
    ·exact cP (av J) J (bF J (am _))
    refine ar J ?_ ?_
    ·exact cP (av J) J (bF J (am _))
    exact eN
   refine nd (t:=[(41,I A45 n45 c45),(42,pV B18 0),(43,iV p47),(44,.agg #[iV x50.Kind,iV x50.N,.string x50.S]),(48,iV x52),(4,I none 0 0),(5,pV B18 0),(7,I A45 n45 c45),(8,I A37 n37 c37),(9,iV p47),(10,pV B51 0),(34,I A46 n46 c46),(35,iV (y41.length:Int)),(36,iV p47)]) (L':=[aj B51 24 [iV x50.Kind,iV x50.N,.string x50.S],cC iY 42 (I A45 n45 c45) p45,cC (iX .i64) 3 (I A37 n37 c37) y36,kW A46 n46 c46 p46,aU A19 n19 c19 y16_1.Cell.Slots,aU A20 n20 c20 y16_1.Cell.More,aj B18 140 [iV y16_1.Cell.Kind,iV y16_1.Cell.Shape,iV y16_1.Cell.Flags,iV y16_1.Cell.Age,I A19 n19 c19,I A20 n20 c20,pV B1 0,iV y16_1.at_.Kind,iV y16_1.at_.N,.string y16_1.at_.S],be A12 n12 c12 a0.symbols_,ct A13 n13 c13 a0.events_,be A14 n14 c14 a0.out_,aj B1 151 [iV a0.spent_.steps_,iV a0.spent_.made_,iV a0.spent_.calls_,iV a0.config_.Way,iV a0.config_.Steps,iV a0.config_.Calls,iV a0.config_.Made,iV a0.config_.Young,iV a0.config_.Full,iV a0.config_.Sites,.nilIface,pV B2 0,pV B9 0,I A12 n12 c12,iV a0.epoch_,iV a0.serial_,iV a0.sleepers_,I A13 n13 c13,I A14 n14 c14],bu A3 n3 c3 a0.heap_.m_.Young,bu A4 n4 c4 a0.heap_.m_.Old,aU A5 n5 c5 a0.heap_.roots_,aU A6 n6 c6 a0.heap_.pending_,aj B2 199 [I A3 n3 c3,I A4 n4 c4,I A5 n5 c5,I A6 n6 c6,pV B7 0],cR A10 n10 c10 a0.shapes_.shapes_,aL aD cu M11 a0.shapes_.next_,aj B9 205 [I A10 n10 c10,.map (some M11)],aL cv cy M8 a0.heap_.set_.at_,aj B7 247 [.map (some M8)]]) ?_ kY (am _)
   obtain ⟨y53,hy53,h⟩:=aa h;refine pS 8 J O (ak (iM hy53) vC J (hE (ap (i:=6) J) (hE (ah (i:=4) J) (hE (ah (i:=5) J) (hE (ap (i:=10) J) (hE (ap (i:=15) J) (hE (ah (i:=11) J) (hE (ah (i:=12) J) (hE (ah (i:=13) J) (hE (ah (i:=14) J) (hE (ap (i:=20) J) (hE (aK (i:=19) J) (hE (ap (i:=18) J) (hE (ah (i:=16) J) (hE (aK (i:=17) J) (hE (ag (i:=7) J J) (hE (ag (i:=8) J J) (hE (ag (i:=9) J J) ac))))))))))))))))) gI) J J J ?_;rintro _ _ ⟨_,⟨rfl,rfl⟩,rfl⟩;refine pS 9 J O (bD (R:=iY) (vss:=[[iV y53.Key.Kind,iV y53.Key.N,.string y53.Key.S,iV y53.Attrs,iV y53.Value.Kind,iV y53.Value.N,.string y53.Value.S,iV y53.Get.Kind,iV y53.Get.N,.string y53.Get.S,iV y53.Set.Kind,iV y53.Set.N,.string y53.Set.S]]) (xs:=[y53]) J (xr _ _ _ _ _ _ _ _ _ _ _ _ _) J J (fun _ _ hr=> .cons J All2.nil)) J J J ?_;rintro _ _ ⟨A54,n54,c54,rfl,rfl⟩;obtain ⟨q55,h⟩:=aB h;refine pS 10 J O (qL 2 0 J J az J J Ci Bi J J J q55) J J J ?_;rintro _ _ ⟨A56,n56,c56,rfl,rfl⟩;refine rS 11 J O (aQ J) J J J ?_;refine kV O ?_;refine U ?_;obtain ⟨q57,h⟩:=aB h;refine gE (bU J J q57.1 q57.2) ?_;refine U ?_
   exact ⟨m44,_,_,CG _,⟨p45++([y53]:List Cr),p46,p47+1,A56,n56,c56,A46,n46,c46,h,J,J⟩,sA,cS [2,3,4,5,6,7,8,9,10,11,12,13,14,15,16,17,18,19,20,21] 22⟩
  replace h:=ae g49 h;refine U ?_;exact ⟨_,_,⟨p45,A45,n45,c45,h,J,J⟩,sA,cS [0,6,7,8,9,10,11,12,13,14,15,16,17,18,19] 20⟩
 rintro _ _ ⟨p39,A39,n39,c39,h,rfl,rfl⟩;refine U ?_;obtain rfl:=al h;exact aJ J J (cS [0,4,9,5,6,7,8,14,13,12,10,11] 15) ⟨_,_,_,J,J⟩
def oI (N:Nat)(p7:Int):Option (Int×Bool):=
 bif decide (4294967294<p7) then (some (0,false)) else (some (p7,true))
def lF (N:Nat)(a0:ByteArray):Nat→Int→Int→Option (Int×Bool)
 |0,_,_=>none
 |m8+1,p9,p10=>bif decide (p10<(a0.size:Int)) then ((wg a0 p10).bind fun x12=>(bif decide (x12<48) then (some true) else ((wg a0 p10).bind fun x14=>some (decide (57<x14)))).bind fun b13=>bif b13 then (some (0,false)) else (dD (cc (10*p9)) ((wg a0 p10).bind fun x17=>dD (cc ((10*p9)+(IntKind.i64.wrap (IntKind.u8.wrap (x17 - 48))))) (dD (cc (p10+1)) ((lF N a0 m8) ((10*p9)+(IntKind.i64.wrap (IntKind.u8.wrap (x17 - 48)))) (p10+1)))))) else (oI N p9)
def pI (N:Nat)(a0:ByteArray):Option (Int×Bool):=
 (bif a0.toList==(⟨#[]⟩:ByteArray).toList then (some true) else (some (decide (10<(a0.size:Int))))).bind fun b1=>(bif b1 then (some true) else ((wg a0 0).bind fun x3=>(bif decide (x3=48) then (some (decide (1<(a0.size:Int)))) else (some false)).bind fun b4=>some b4)).bind fun b2=>bif b2 then (some (0,false)) else (lF N a0 N 0 0)
theorem ss {N:Nat}{a0:ByteArray}{r:(Int×Bool)}(h:pI N a0=some r):Okc Tryz.prog 151 [.string a0] ([]) (fun u post=>u=.tuple #[iV r.1,.bool r.2]∧post=[]):=by
 refine bj Tryz.func151 J J ?_;simp only [aS];refine U ?_;refine aw ?_;refine U ?_;refine gE (ra J J) ?_;refine U ?_;obtain ⟨b1,hb1,h⟩:=aa h;refine aA 4 12 b1 ?_ ?_
 ·clear h;refine ax 8 J (fun g1=> ?_) (fun g1=> ?_)
  ·have h:=ad g1 hb1;refine U ?_;obtain rfl:=al h;exact ab sA (cS [] 0)
  have h:=ae g1 hb1;refine U ?_;refine fR (lH J hJ) J (bO g1 J) J ?_;refine U ?_;obtain rfl:=al h;exact ab sA (cS [] 0)
 refine U ?_;obtain ⟨b2,hb2,h⟩:=aa h;refine aA 9 22 b2 ?_ ?_
 ·clear h;refine ax 13 J (fun g2=> ?_) (fun g2=> ?_)
  ·have h:=ad g2 hb2;refine U ?_;obtain rfl:=al h;exact ab sA (cS [] 0)
  have h:=ae g2 hb2;refine U ?_;obtain ⟨x3,hx3,h⟩:=aa h;refine fR (nr J J hJ hx3) J (bO g2 J) J ?_;refine U ?_;obtain ⟨b4,hb4,h⟩:=aa h;refine aA 4 21 b4 ?_ ?_
  ·clear h;refine ax 17 J (fun g4=> ?_) (fun g4=> ?_)
   ·have h:=ad g4 hb4;refine U ?_;refine fR (lH J hJ) J (aZ g4 J) J ?_;refine U ?_;obtain rfl:=al h;exact ab sA (cS [] 0)
   have h:=ae g4 hb4;refine U ?_;obtain rfl:=al h;exact ab sA (cS [] 0)
  refine U ?_;obtain rfl:=al h;exact ab sA (cS [] 0)
 refine U ?_;refine aq J (fun g5=> ?_) (fun g5=> ?_)
 ·replace h:=ad g5 h;refine U ?_;obtain rfl:=al h;exact cT J J J (cS [] 0) ⟨J,J⟩
 replace h:=ae g5 h;refine U ?_;refine aY (fun s L=> ∃p7,oI N p7=some r∧s=[(2,iV 0),(3,.bool false),(4,iV p7)]∧L=[]) ?_ ?_
 ·refine U ?_;refine gE (lH J hJ) ?_;refine U ?_;refine ci (fun m s L=> ∃p9 p10,lF N a0 m p9 p10=some r∧s=[(0,.string a0),(2,iV 0),(3,.bool false),(4,iV p9),(24,iV (a0.size:Int)),(25,iV p10)]∧L=[]) N _ _ ⟨0,0,h,J,J⟩ sA (cS [] 0) ?_;rintro (_|m8) _ _ ⟨p9,p10,h,rfl,rfl⟩
  ·exact bd h
  rw [lF.eq_2] at h;refine U ?_;refine aw ?_;refine aq J (fun g11=> ?_) (fun g11=> ?_)
  ·replace h:=ad g11 h;refine U ?_;refine aw ?_;refine U ?_;refine aw ?_;refine U ?_;obtain ⟨x12,hx12,h⟩:=aa h;refine gE (nr J J hJ hx12) ?_;refine U ?_;obtain ⟨b13,hb13,h⟩:=aa h;refine aA 5 37 b13 ?_ ?_
   ·clear h;refine ax 32 J (fun g13=> ?_) (fun g13=> ?_)
    ·have h:=ad g13 hb13;refine U ?_;obtain rfl:=al h;exact ab sA (cS [] 0)
    have h:=ae g13 hb13;refine U ?_;obtain ⟨x14,hx14,h⟩:=aa h;refine fR (nr J J hJ hx14) J (bO g13 J) J ?_;refine U ?_;obtain rfl:=al h;exact ab sA (cS [] 0)
   refine U ?_;refine aq J (fun g15=> ?_) (fun g15=> ?_)
   ·replace h:=ad g15 h;refine U ?_;obtain rfl:=al h;exact cT J J J (cS [] 0) ⟨J,J⟩
   replace h:=ae g15 h;refine U ?_;obtain ⟨q16,h⟩:=aB h;refine gE (kG J J q16.1 q16.2) ?_;refine U ?_;obtain ⟨x17,hx17,h⟩:=aa h;refine gE (nr J J hJ hx17) ?_;refine gE (yz J J) ?_;refine gE (AX J J hN) ?_;obtain ⟨q18,h⟩:=aB h;refine gE (bU J J q18.1 q18.2) ?_;refine U ?_;obtain ⟨q19,h⟩:=aB h;refine gE (bU J J q19.1 q19.2) ?_;refine U ?_;exact ⟨m8,_,_,CG _,⟨(10*p9)+(IntKind.i64.wrap (IntKind.u8.wrap (x17 - 48))),p10+1,h,J,J⟩,sA,cS [] 0⟩
  replace h:=ae g11 h;refine U ?_;exact ⟨_,_,⟨p9,h,J,J⟩,sA,cS [] 0⟩
 rintro _ _ ⟨p7,h,rfl,rfl⟩;refine aw ?_;refine U ?_;refine aq J (fun g20=> ?_) (fun g20=> ?_)
 ·replace h:=ad g20 h;refine U ?_;obtain rfl:=al h;exact cT J J J (cS [] 0) ⟨J,J⟩
 replace h:=ae g20 h;refine U ?_;obtain rfl:=al h;exact cT J J J (cS [] 0) ⟨J,J⟩
theorem qS {r:(Int×Bool)}: ∀v post,((fun (u:Value) (post:List Chunk)=>u=.tuple #[iV r.1,.bool r.2]∧post=[])) v post→ ∀c∈post,bS c:=by
 rintro _ _ ⟨rfl,rfl⟩;exact ac
def fs (N:Nat)(a0:CC):Option Bool:=
 bif decide (a0.Kind=0) then ((bif a0.S.toList==(⟨#[]⟩:ByteArray).toList then (some (decide (0≤a0.N))) else (some false)).bind fun b3=>(bif b3 then (some (decide (a0.N≤4294967294))) else (some false)).bind fun b4=>some b4) else (bif decide (a0.Kind=1) then ((pI N a0.S).bind fun y6=>(bif decide (a0.N=0) then (some (decide ((a0.S.size:Int)≤65536))) else (some false)).bind fun b7=>(bif b7 then (some (!y6.2)) else (some false)).bind fun b8=>some b8) else (bif decide (a0.Kind=2) then ((bif a0.S.toList==(⟨#[]⟩:ByteArray).toList then (some (decide (1≤a0.N))) else (some false)).bind fun b10=>some b10) else (some false)))
theorem fC {N:Nat}{a0:CC}{r:Bool}(h:fs N a0=some r):Okc Tryz.prog 99 [.agg #[iV a0.Kind,iV a0.N,.string a0.S]] ([]) (fun u post=>u=.bool r∧post=[]):=by
 refine bj Tryz.func99 J J ?_;simp only [aS];refine U ?_;refine gD (aN J J) ?_;rintro _ _ ⟨B1,rfl,rfl⟩;refine U ?_;refine aw ?_;refine U ?_;refine aq J (fun g2=> ?_) (fun g2=> ?_)
 ·replace h:=ad g2 h;refine U ?_;refine gE (ra J J) ?_;refine U ?_;obtain ⟨b3,hb3,h⟩:=aa h;refine aA 4 16 b3 ?_ ?_
  ·clear h;refine ax 12 J (fun g3=> ?_) (fun g3=> ?_)
   ·have h:=ad g3 hb3;refine U ?_;obtain rfl:=al h;exact ab sA (cS [0] 1)
   have h:=ae g3 hb3;refine U ?_;obtain rfl:=al h;exact ab sA (cS [0] 1)
  refine U ?_;obtain ⟨b4,hb4,h⟩:=aa h;refine aA 4 21 b4 ?_ ?_
  ·clear h;refine ax 17 J (fun g4=> ?_) (fun g4=> ?_)
   ·have h:=ad g4 hb4;refine U ?_;obtain rfl:=al h;exact ab sA (cS [0] 1)
   have h:=ae g4 hb4;refine U ?_;obtain rfl:=al h;exact ab sA (cS [0] 1)
  refine U ?_;obtain rfl:=al h;exact aJ J J (cS [] 1) ⟨J,J⟩
 replace h:=ae g2 h;refine U ?_;refine aq J (fun g5=> ?_) (fun g5=> ?_)
 ·replace h:=ad g5 h;refine U ?_;obtain ⟨y6,hy6,h⟩:=aa h;refine gD (ak (ss hy6) zh J (ac) qS) ?_;rintro _ _ ⟨_,⟨rfl,rfl⟩,rfl⟩;refine U ?_;obtain ⟨b7,hb7,h⟩:=aa h;refine aA 5 38 b7 ?_ ?_
  ·clear h;refine ax 33 J (fun g7=> ?_) (fun g7=> ?_)
   ·have h:=ad g7 hb7;refine U ?_;refine fR (lH J hJ) J (aZ g7 J) J ?_;refine U ?_;obtain rfl:=al h;exact ab sA (cS [0] 1)
   have h:=ae g7 hb7;refine U ?_;obtain rfl:=al h;exact ab sA (cS [0] 1)
  refine U ?_;obtain ⟨b8,hb8,h⟩:=aa h;refine aA 3 42 b8 ?_ ?_
  ·clear h;refine ax 39 J (fun g8=> ?_) (fun g8=> ?_)
   ·have h:=ad g8 hb8;refine U ?_;obtain rfl:=al h;exact ab sA (cS [0] 1)
   have h:=ae g8 hb8;refine U ?_;obtain rfl:=al h;exact ab sA (cS [0] 1)
  refine U ?_;obtain rfl:=al h;exact aJ J J (cS [] 1) ⟨J,J⟩
 replace h:=ae g5 h;refine U ?_;refine aq J (fun g9=> ?_) (fun g9=> ?_)
 ·replace h:=ad g9 h;refine U ?_;refine gE (ra J J) ?_;refine U ?_;obtain ⟨b10,hb10,h⟩:=aa h;refine aA 4 52 b10 ?_ ?_
  ·clear h;refine ax 48 J (fun g10=> ?_) (fun g10=> ?_)
   ·have h:=ad g10 hb10;refine U ?_;obtain rfl:=al h;exact ab sA (cS [0] 1)
   have h:=ae g10 hb10;refine U ?_;obtain rfl:=al h;exact ab sA (cS [0] 1)
  refine U ?_;obtain rfl:=al h;exact aJ J J (cS [] 1) ⟨J,J⟩
 replace h:=ae g9 h;refine U ?_;obtain rfl:=al h;exact aJ J J (cS [] 1) ⟨J,J⟩
theorem eg {r:Bool}: ∀v post,((fun (u:Value) (post:List Chunk)=>u=.bool r∧post=[])) v post→ ∀c∈post,bS c:=by
 rintro _ _ ⟨rfl,rfl⟩;exact ac
def mO (N:Nat)(a0:Int):Option Bool:=
 some (!decide (a0=a0))
theorem oT {N:Nat}{a0:Int}{r:Bool}(h:mO N a0=some r):Okc Tryz.prog 232 [iV a0] ([]) (fun u post=>u=.bool r∧post=[]):=by
 refine bj Tryz.func232 J J ?_;simp only [aS];refine U ?_;obtain rfl:=al h;exact aJ J J (cS [] 0) ⟨J,J⟩
theorem mN {r:Bool}: ∀v post,((fun (u:Value) (post:List Chunk)=>u=.bool r∧post=[])) v post→ ∀c∈post,bS c:=by
 rintro _ _ ⟨rfl,rfl⟩;exact ac
def kO (N:Nat)(a0:Int)(a1:Int):Option Int:=
 (mO N a0).bind fun y1=>(mO N a1).bind fun y2=>bif y1 then (bif y2 then (some 0) else (some (-1))) else (bif y2 then (some 1) else (bif decide (a0<a1) then (some (-1)) else (bif decide (a1<a0) then (some 1) else (some 0))))
theorem mP {N:Nat}{a0:Int}{a1:Int}{r:Int}(h:kO N a0 a1=some r):Okc Tryz.prog 208 [iV a0,iV a1] ([]) (fun u post=>u=iV r∧post=[]):=by
 refine bj Tryz.func208 J J ?_;simp only [aS];refine U ?_;obtain ⟨y1,hy1,h⟩:=aa h;refine gD (ak (oT hy1) vq J (ac) mN) ?_;rintro _ _ ⟨_,⟨rfl,rfl⟩,rfl⟩;refine U ?_;obtain ⟨y2,hy2,h⟩:=aa h;refine gD (ak (oT hy2) vq J (ac) mN) ?_;rintro _ _ ⟨_,⟨rfl,rfl⟩,rfl⟩;refine U ?_;refine aw ?_;refine U ?_;refine aq J (fun g3=> ?_) (fun g3=> ?_)
 ·replace h:=ad g3 h;refine aw ?_;refine U ?_;refine aq J (fun g4=> ?_) (fun g4=> ?_)
  ·replace h:=ad g4 h;refine U ?_;obtain rfl:=al h;exact aJ J J (cS [] 0) ⟨J,J⟩
  replace h:=ae g4 h;refine U ?_;obtain rfl:=al h;exact aJ J J (cS [] 0) ⟨J,J⟩
 replace h:=ae g3 h;refine U ?_;refine aw ?_;refine U ?_;refine aq J (fun g5=> ?_) (fun g5=> ?_)
 ·replace h:=ad g5 h;refine U ?_;obtain rfl:=al h;exact aJ J J (cS [] 0) ⟨J,J⟩
 replace h:=ae g5 h;refine U ?_;refine aw ?_;refine U ?_;refine aq J (fun g6=> ?_) (fun g6=> ?_)
 ·replace h:=ad g6 h;refine U ?_;obtain rfl:=al h;exact aJ J J (cS [] 0) ⟨J,J⟩
 replace h:=ae g6 h;refine U ?_;refine aw ?_;refine U ?_;refine aq J (fun g7=> ?_) (fun g7=> ?_)
 ·replace h:=ad g7 h;refine U ?_;obtain rfl:=al h;exact aJ J J (cS [] 0) ⟨J,J⟩
 replace h:=ae g7 h;refine U ?_;obtain rfl:=al h;exact aJ J J (cS [] 0) ⟨J,J⟩
theorem ll {r:Int}: ∀v post,((fun (u:Value) (post:List Chunk)=>u=iV r∧post=[])) v post→ ∀c∈post,bS c:=by
 rintro _ _ ⟨rfl,rfl⟩;exact ac
def ez (N:Nat)(a0:CC)(a1:CC):Option Int:=
 (bif decide (a0.Kind=0) then (some (decide (a1.Kind=0))) else (some false)).bind fun b3=>bif b3 then ((kO N a0.N a1.N).bind fun y5=>some y5) else ((kO N a0.Kind a1.Kind).bind fun y6=>some y6)
theorem eG {N:Nat}{a0:CC}{a1:CC}{r:Int}(h:ez N a0 a1=some r):Okc Tryz.prog 161 [.agg #[iV a0.Kind,iV a0.N,.string a0.S],.agg #[iV a1.Kind,iV a1.N,.string a1.S]] ([]) (fun u post=>u=iV r∧post=[]):=by
 refine bj Tryz.func161 J J ?_;simp only [aS];refine U ?_;refine gD (aN J J) ?_;rintro _ _ ⟨B1,rfl,rfl⟩;refine gD (aN J J) ?_;rintro _ _ ⟨B2,rfl,rfl⟩;refine U ?_;refine aw ?_;refine U ?_;obtain ⟨b3,hb3,h⟩:=aa h;refine aA 4 12 b3 ?_ ?_
 ·clear h;refine ax 8 J (fun g3=> ?_) (fun g3=> ?_)
  ·have h:=ad g3 hb3;refine U ?_;obtain rfl:=al h;exact ab sA (cS [0,1] 2)
  have h:=ae g3 hb3;refine U ?_;obtain rfl:=al h;exact ab sA (cS [0,1] 2)
 refine U ?_;refine aq J (fun g4=> ?_) (fun g4=> ?_)
 ·replace h:=ad g4 h;refine U ?_;obtain ⟨y5,hy5,h⟩:=aa h;refine gD (ak (mP hy5) vv J (ac) ll) ?_;rintro _ _ ⟨_,⟨rfl,rfl⟩,rfl⟩;refine U ?_;obtain rfl:=al h;exact aJ J J (cS [] 2) ⟨J,J⟩
 replace h:=ae g4 h;refine U ?_;obtain ⟨y6,hy6,h⟩:=aa h;refine gD (ak (mP hy6) vv J (ac) ll) ?_;rintro _ _ ⟨_,⟨rfl,rfl⟩,rfl⟩;refine U ?_;obtain rfl:=al h;exact aJ J J (cS [] 2) ⟨J,J⟩
theorem qQ {r:Int}: ∀v post,((fun (u:Value) (post:List Chunk)=>u=iV r∧post=[])) v post→ ∀c∈post,bS c:=by
 rintro _ _ ⟨rfl,rfl⟩;exact ac
def dB (N:Nat)(kb3:(List CC)→Int→Option (List CC))(a1:Int)(a2:Int)(p5:Int)(p8:(List CC)):Option (List CC):=
 dD (cc (p5+1)) (kb3 p8 (p5+1))
def cA (N:Nat)(kb3:(List CC)→Int→Option (List CC))(a1:Int)(a2:Int)(p5:Int):Nat→(List CC)→Int→Option (List CC)
 |0,_,_=>none
 |m9+1,p10,p11=>(bif decide (a1<p11) then ((ck p10 p11).bind fun x13=>dD (cc (p11 - 1)) ((ck p10 (p11 - 1)).bind fun x15=>(ez N x13 x15).bind fun y16=>some (decide (y16<0)))) else (some false)).bind fun b12=>bif b12 then (dD (cc (p11 - 1)) (dD (cc (p11 - 1)) ((ck p10 (p11 - 1)).bind fun x20=>(ck p10 p11).bind fun x21=>(ck p10 p11).bind fun x22=>(ck (List.set p10 p11.toNat (⟨x20.Kind,x20.N,x20.S⟩:CC)) (p11 - 1)).bind fun x23=>dD (cc (p11 - 1)) ((cA N kb3 a1 a2 p5 m9) (List.set (List.set p10 p11.toNat (⟨x20.Kind,x20.N,x20.S⟩:CC)) ((p11 - 1).toNat) (⟨x21.Kind,x21.N,x21.S⟩:CC)) (p11 - 1))))) else (dB N kb3 a1 a2 p5 p10)
def bJ (N:Nat)(a1:Int)(a2:Int):Nat→(List CC)→Int→Option (List CC)
 |0,_,_=>none
 |m3+1,p4,p5=>bif decide (p5<a2) then (cA N (bJ N a1 a2 m3) a1 a2 p5 N p4 p5) else (some p4)
def cb (N:Nat)(a0:(List CC))(a1:Int)(a2:Int):Option (List CC):=
 dD (cc (a1+1)) (bJ N a1 a2 N a0 (a1+1))
theorem cz {N:Nat}{a0:(List CC)}{a1:Int}{a2:Int}{r:(List CC)}(h:cb N a0 a1 a2=some r):Okc Tryz.prog 230 [I A1 n1 c1,iV a1,iV a2,.func (.func 161) #[] #[]] ([kW A1 n1 c1 a0]) (fun u post=>u=.tuple #[]∧post=[kW A1 n1 c1 r]):=by
 refine bj Tryz.func230 J J ?_;simp only [aS];refine U ?_;obtain ⟨q2,h⟩:=aB h;refine gE (bU J J q2.1 q2.2) ?_;refine U ?_;refine ci (fun m s L=> ∃p4 p5,bJ N a1 a2 m p4 p5=some r∧s=[(0,I A1 n1 c1),(1,iV a1),(2,iV a2),(3,.func (.func 161) #[] #[]),(8,iV p5)]∧L=[kW A1 n1 c1 p4]) N _ _ ⟨a0,a1+1,h,J,J⟩ sA (cS [0] 1) ?_;rintro (_|m3) _ _ ⟨p4,p5,h,rfl,rfl⟩
 ·exact bd h
 rw [bJ.eq_2] at h;refine aw ?_;refine U ?_;refine aq J (fun g6=> ?_) (fun g6=> ?_)
 ·replace h:=ad g6 h;refine U ?_;refine aY (fun s L=> ∃p8,dB N (bJ N a1 a2 m3) a1 a2 p5 p8=some r∧s=[(0,I A1 n1 c1),(1,iV a1),(2,iV a2),(3,.func (.func 161) #[] #[]),(8,iV p5)]∧L=[kW A1 n1 c1 p8]) ?_ ?_
  ·refine U ?_;refine ci (fun m s L=> ∃p10 p11,cA N (bJ N a1 a2 m3) a1 a2 p5 m p10 p11=some r∧s=[(0,I A1 n1 c1),(1,iV a1),(2,iV a2),(3,.func (.func 161) #[] #[]),(8,iV p5),(9,iV p11)]∧L=[kW A1 n1 c1 p10]) N _ _ ⟨p4,p5,h,J,J⟩ sA (cS [0] 1) ?_;rintro (_|m9) _ _ ⟨p10,p11,h,rfl,rfl⟩
   ·exact bd h
   rw [cA.eq_2] at h;refine aw ?_;refine aw ?_;refine bn O _ (am _) ?_;refine zE 0 J (av J) ?_;refine zE 1 J (av J) ?_;refine zE 2 J (zK J J) ?_;refine zE 3 J (av J) ?_;obtain ⟨b12,hb12,h⟩:=aa h;refine iS (fun l=>(((((((((((((l.setIfInBounds 4 true).setIfInBounds 5 true).setIfInBounds 6 true).setIfInBounds 7 true).setIfInBounds 8 true).setIfInBounds 9 true).setIfInBounds 10 true).setIfInBounds 11 true).setIfInBounds 12 true).setIfInBounds 13 true).setIfInBounds 14 true).setIfInBounds 15 true).setIfInBounds 16 true)) 0 34 b12 (fun rest=> ?_) ?_
   ·clear h;refine ky 21 J (fun g12=> ?_) (fun g12=> ?_)
    ·have h:=ad g12 hb12;refine fA 4 J O (av J) (aZ g12 J) J ?_;refine fA 5 J O (av J) (aZ g12 J) J ?_;refine fA 6 J O (av J) (aZ g12 J) J ?_;obtain ⟨x13,hx13,h⟩:=aa h;obtain ⟨lx13,ux13,hx13⟩:=aG hx13;refine ie 7 J O (bf 0 J az J J Ch fd lx13 ux13) (aZ g12 J) J ?_;refine ie 8 J O (bi (us:=[iV x13.Kind,iV x13.N,.string x13.S]) 0 J az J hx13 bH (fun _ _ _ h=>by rw [show _=_ from h];rfl)) (aZ g12 J) J ?_;refine fA 9 J O (av J) (aZ g12 J) J ?_;refine fA 10 J O (av J) (aZ g12 J) J ?_;obtain ⟨q14,h⟩:=aB h;refine fA 11 J O (gQ J J q14.1 q14.2) (aZ g12 J) J ?_;obtain ⟨x15,hx15,h⟩:=aa h;obtain ⟨lx15,ux15,hx15⟩:=aG hx15;refine ie 12 J O (bf 0 J az J J Ch fd lx15 ux15) (aZ g12 J) J ?_;refine ie 13 J O (bi (us:=[iV x15.Kind,iV x15.N,.string x15.S]) 0 J az J hx15 bH (fun _ _ _ h=>by rw [show _=_ from h];rfl)) (aZ g12 J) J ?_;obtain ⟨y16,hy16,h⟩:=aa h;refine nc 14 J O (gx (eG hy16) lL J J J (ac) qQ) J (aZ g12 J) J ?_;rintro _ _ ⟨_,⟨rfl,rfl⟩,rfl⟩;refine ⟨_,am _,am _,?_⟩;refine fA 15 J O (uV J J) (aZ g12 J) J ?_;refine zE 16 J (eH g12 J J) ?_;obtain rfl:=al h
     exact fx rest (dr J (ay (ay (ay (ay (ay (ay (ay (ay (ay (ay (ay (ay (ay bX J) J) J) J) J) J) J) J) J) J) J) J) J)) (am _) (am _)
    have h:=ae g12 hb12;refine cx 4 J O (fW g12 J) J ?_;refine cx 5 J O (fW g12 J) J ?_;refine cx 6 J O (fW g12 J) J ?_;refine cx 7 J O (fW g12 J) J ?_;refine cx 8 J O (fW g12 J) J ?_;refine cx 9 J O (fW g12 J) J ?_;refine cx 10 J O (fW g12 J) J ?_;refine cx 11 J O (fW g12 J) J ?_;refine cx 12 J O (fW g12 J) J ?_;refine cx 13 J O (fW g12 J) J ?_;refine cx 14 J O (fW g12 J) J ?_;refine cx 15 J O (fW g12 J) J ?_;refine zE 16 J (eI g12 J J) ?_;obtain rfl:=al h;exact fx rest (dr J (ay (ay (ay (ay (ay (ay (ay (ay (ay (ay (ay (ay (ay bX J) J) J) J) J) J) J) J) J) J) J) J) J)) (am _) (am _)
   refine bc O ?_;refine dz ?_;refine aq J (fun g17=> ?_) (fun g17=> ?_)
   ·replace h:=ad g17 h;refine U ?_;refine aw ?_;refine eK ?_;obtain ⟨q18,h⟩:=aB h;obtain ⟨q19,h⟩:=aB h;obtain ⟨x20,hx20,h⟩:=aa h;obtain ⟨lx20,ux20,hx20⟩:=aG hx20;obtain ⟨x21,hx21,h⟩:=aa h;obtain ⟨lx21,ux21,hx21⟩:=aG hx21;refine gz (t:=[(0,I A1 n1 c1),(1,iV a1),(2,iV a2),(3,.func (.func 161) #[] #[]),(8,iV p5),(9,iV p11)]) ?_ kY (am _)
    refine iE O 14 [2,3,4] [0,1,2,4,9,13] [37,38,39,40,41,42,43,44,45,46,47,48,49,50] [[],[],[],[],[3],[],[],[6],[5,7],[8],[],[],[10,11],[12]] [aV (I A1 n1 c1),
 aV (iV p11),
 aV (I A1 n1 c1),
 aV (iV p11),
 aV (iV (p11 - 1)),
 aV (I A1 n1 c1),
 aV (iV p11),
 aV (iV (p11 - 1)),
 aV (dG (I A1 n1 c1) ((p11 - 1).toNat) 3 0),
 aV (.agg #[iV x20.Kind,iV x20.N,.string x20.S]),
 aV (I A1 n1 c1),
 aV (iV p11),
 aV (dG (I A1 n1 c1) p11.toNat 3 0),
 aV (.agg #[iV x21.Kind,iV x21.N,.string x21.S])] [] (am _) (jv rfl (jv rfl (jv rfl kE))) O rfl rfl ?_ ?_ ?_
    ·refine ju J ?_ ?_
     ·exact o6 (av J) J (bF J (am _))
     refine ju J ?_ ?_
     ·exact o6 (av J) J (bF J (am _))
     refine ju J ?_ ?_
     ·exact o6 (gQ J J q18.1 q18.2) J (bF J (am _))
     exact kD
    ·refine ar J ?_ ?_
     ·exact gA (bi (us:=[iV x21.Kind,iV x21.N,.string x21.S]) 0 J az J hx21 bH (fun _ _ _ h=>by rw [show _=_ from h];rfl)) J (bF J (am _))
     refine ar J ?_ ?_
     ·exact gA (bf 0 J az J J Ch fd lx21 ux21) J (bF J (am _))
     refine ar J ?_ ?_
     ·exact cP (av J) J (bF J (am _))
     refine ar J ?_ ?_
     ·exact cP (av J) J (bF J (am _))
     refine ar J ?_ ?_
     ·exact gA (bi (us:=[iV x20.Kind,iV x20.N,.string x20.S]) 0 J az J hx20 bH (fun _ _ _ h=>by rw [show _=_ from h];rfl)) J (bF J (am _))
     refine ar J ?_ ?_
     ·exact gA (bf 0 J az J J Ch fd lx20 ux20) J (bF J (am _))
     refine ar J ?_ ?_
     ·exact cP (gQ J J q19.1 q19.2) J (bF J (am _))
     refine ar J ?_ ?_
     ·exact cP (av J) J (bF J (am _))
     refine ar J ?_ ?_
     ·exact cP (av J) J (bF J (am _))
     refine ar J ?_ ?_
     ·exact cP (gQ J J q18.1 q18.2) J (bF J (am _))
     refine ar J ?_ ?_
     ·exact cP (av J) J (bF J (am _))
     refine ar J ?_ ?_
     ·exact cP (av J) J (bF J (am _))
     refine ar J ?_ ?_
     ·exact cP (av J) J (bF J (am _))
     refine ar J ?_ ?_
     ·exact cP (av J) J (bF J (am _))
     exact eN
    refine nd (t:=[(37,I A1 n1 c1),(38,iV p11),(39,I A1 n1 c1),(41,iV (p11 - 1)),(46,.agg #[iV x20.Kind,iV x20.N,.string x20.S]),(50,.agg #[iV x21.Kind,iV x21.N,.string x21.S]),(0,I A1 n1 c1),(1,iV a1),(2,iV a2),(3,.func (.func 161) #[] #[]),(8,iV p5),(9,iV p11)]) (L':=[kW A1 n1 c1 p10]) ?_ kY (am _);obtain ⟨x22,hx22,h⟩:=aa h;obtain ⟨lx22,ux22,hx22⟩:=aG hx22;refine Bc 14 J O (bf 0 J az J J Ch fd lx22 ux22) J J J ?_;refine o7 15 J O (cF (us:=[iV x20.Kind,iV x20.N,.string x20.S]) (z:=(⟨x20.Kind,x20.N,x20.S⟩:CC)) 0 J J J J fd J (ba lx22 ux22) J (fun S w vs xk hk hr ho=>by obtain rfl:=Option.some.inj (hk.symm.trans hx22);rw [show _=_ from hr];rfl)) J J ?_;rintro _ _ rfl;obtain ⟨x23,hx23,h⟩:=aa h;obtain ⟨lx23,ux23,hx23⟩:=aG hx23;refine Bc 16 J O (bf 0 J az J J Ch fd lx23 ux23) J J J ?_;refine o7 17 J O (cF (us:=[iV x21.Kind,iV x21.N,.string x21.S]) (z:=(⟨x21.Kind,x21.N,x21.S⟩:CC)) 0 J J J J fd J (ba lx23 ux23) J (fun S w vs xk hk hr ho=>by obtain rfl:=Option.some.inj (hk.symm.trans hx23);rw [show _=_ from hr];rfl)) J J ?_;rintro _ _ rfl;refine kV O ?_;refine U ?_;obtain ⟨q24,h⟩:=aB h;refine gE (gQ J J q24.1 q24.2) ?_;refine U ?_
    exact ⟨m9,_,_,CG _,⟨List.set (List.set p10 p11.toNat (⟨x20.Kind,x20.N,x20.S⟩:CC)) ((p11 - 1).toNat) (⟨x21.Kind,x21.N,x21.S⟩:CC),p11 - 1,h,J,J⟩,sA,cS [0] 1⟩
   replace h:=ae g17 h;refine U ?_;exact ⟨_,_,⟨p10,h,J,J⟩,sA,cS [0] 1⟩
  rintro _ _ ⟨p8,h,rfl,rfl⟩;refine U ?_;obtain ⟨q25,h⟩:=aB h;refine gE (bU J J q25.1 q25.2) ?_;refine U ?_;exact ⟨m3,_,_,CG _,⟨p8,p5+1,h,J,J⟩,sA,cS [0] 1⟩
 replace h:=ae g6 h;refine U ?_;obtain rfl:=al h;exact fu J (cS [0] 1) ⟨J,J⟩
def bT (N:Nat)(a0:(List CC))(a1:Int)(a2:Int)(a3:Int)(ff:(CC×CC)→Option Int):Option Unit:=
 none
theorem cg {N:Nat}{a0:(List CC)}{a1:Int}{a2:Int}{a3:Int}{ff:(CC×CC)→Option Int}{r:Unit}(h:bT N a0 a1 a2 a3 ff=some r){vf:Value}{G:List Chunk}(hf:zA Tryz.prog vf G (fun x=> [.agg #[iV x.1.Kind,iV x.1.N,.string x.1.S],.agg #[iV x.2.Kind,iV x.2.N,.string x.2.S]]) (fun r=>iV r) ff):Okc Tryz.prog 231 [I A1 n1 c1,iV a1,iV a2,iV a3,vf] (iT fF (I A1 n1 c1) a0::G) (fun u post=>u=.tuple #[]∧post=[]):=by
 exact bd h
theorem bW: ∀v post,((fun (u:Value) (post:List Chunk)=>u=.tuple #[]∧post=[])) v post→ ∀c∈post,bS c:=by
 rintro _ _ ⟨rfl,rfl⟩;exact ac
def dn (N:Nat)(kb14:Int→Option (List CC))(a1:Int)(p15:Int)(y13:((List CC))):Option (List CC):=
 dD (cc (p15*2)) (kb14 (p15*2))
def ij (N:Nat)(kb14:Int→Option (List CC))(a1:Int)(p15:Int)(y13:((List CC))):Option (List CC):=
 dD (cc (0+p15)) (bif decide (0+p15<a1) then ((bT N y13 0 (0+p15) a1 (fun x=>ez N x.1 x.2)).bind fun y32=>dn N kb14 a1 p15 y13) else (dn N kb14 a1 p15 y13))
def dm (N:Nat)(kb14:Int→Option (List CC))(a1:Int)(p15:Int)(y13:((List CC))):Option (List CC):=
 dD (cc (p15*2)) (kb14 (p15*2))
def ee (N:Nat)(kb14:Int→Option (List CC))(a1:Int)(p15:Int)(y13:((List CC)))(p20:Int):Option (List CC):=
 dD (cc (p20+p15)) (bif decide (p20+p15<a1) then ((bT N y13 p20 (p20+p15) a1 (fun x=>ez N x.1 x.2)).bind fun y37=>dm N kb14 a1 p15 y13) else (dm N kb14 a1 p15 y13))
def dj (N:Nat)(kb14:Int→Option (List CC))(a1:Int)(p15:Int)(y13:((List CC))):Nat→Int→Int→Option (List CC)
 |0,_,_=>none
 |m21+1,p22,p23=>bif decide (p23≤a1) then (dD (cc (p22+p15)) ((bT N y13 p22 (p22+p15) p23 (fun x=>ez N x.1 x.2)).bind fun y26=>dD (cc (2*p15)) (dD (cc (p23+(2*p15))) ((dj N kb14 a1 p15 y13 m21) p23 (p23+(2*p15)))))) else (ee N kb14 a1 p15 y13 p22)
def bq (N:Nat)(a1:Int)(y13:((List CC))):Nat→Int→Option (List CC)
 |0,_=>none
 |m14+1,p15=>bif decide (p15<a1) then (dD (cc (2*p15)) (dj N (bq N a1 y13 m14) a1 p15 y13 N 0 (2*p15))) else (some y13)
def iG (N:Nat)(a1:Int)(a0:(List CC)):Option (List CC):=
 (cb N a0 0 a1).bind fun y13=>bq N a1 y13 N 20
def dl (N:Nat)(kb40:Int→Option (List CC))(a1:Int)(p41:Int)(y39:((List CC))):Option (List CC):=
 dD (cc (p41*2)) (kb40 (p41*2))
def ii (N:Nat)(kb40:Int→Option (List CC))(a1:Int)(p41:Int)(y39:((List CC))):Option (List CC):=
 dD (cc (0+p41)) (bif decide (0+p41<a1) then ((bT N y39 0 (0+p41) a1 (fun x=>ez N x.1 x.2)).bind fun y58=>dl N kb40 a1 p41 y39) else (dl N kb40 a1 p41 y39))
def dk (N:Nat)(kb40:Int→Option (List CC))(a1:Int)(p41:Int)(y39:((List CC))):Option (List CC):=
 dD (cc (p41*2)) (kb40 (p41*2))
def ed (N:Nat)(kb40:Int→Option (List CC))(a1:Int)(p41:Int)(y39:((List CC)))(p46:Int):Option (List CC):=
 dD (cc (p46+p41)) (bif decide (p46+p41<a1) then ((bT N y39 p46 (p46+p41) a1 (fun x=>ez N x.1 x.2)).bind fun y63=>dk N kb40 a1 p41 y39) else (dk N kb40 a1 p41 y39))
def di (N:Nat)(kb40:Int→Option (List CC))(a1:Int)(p41:Int)(y39:((List CC))):Nat→Int→Int→Option (List CC)
 |0,_,_=>none
 |m47+1,p48,p49=>bif decide (p49≤a1) then (dD (cc (p48+p41)) ((bT N y39 p48 (p48+p41) p49 (fun x=>ez N x.1 x.2)).bind fun y52=>dD (cc (2*p41)) (dD (cc (p49+(2*p41))) ((di N kb40 a1 p41 y39 m47) p49 (p49+(2*p41)))))) else (ed N kb40 a1 p41 y39 p48)
def bp (N:Nat)(a1:Int)(y39:((List CC))):Nat→Int→Option (List CC)
 |0,_=>none
 |m40+1,p41=>bif decide (p41<a1) then (dD (cc (2*p41)) (di N (bp N a1 y39 m40) a1 p41 y39 N 0 (2*p41))) else (some y39)
def ew (N:Nat)(a1:Int)(p4:(List CC))(p5:Int):Option (List CC):=
 (cb N p4 p5 a1).bind fun y39=>bp N a1 y39 N 20
def dt (N:Nat)(a1:Int):Nat→(List CC)→Int→Int→Option (List CC)
 |0,_,_,_=>none
 |m6+1,p7,p8,p9=>bif decide (p9≤a1) then ((cb N p7 p8 p9).bind fun y11=>dD (cc (p9+20)) ((dt N a1 m6) y11 p9 (p9+20))) else (ew N a1 p7 p8)
def eL (N:Nat)(a0:(List CC))(a1:Int):Option (List CC):=
 dt N a1 N a0 0 20
set_option maxHeartbeats 4000000 in
theorem iF {N:Nat}{a0:(List CC)}{a1:Int}{r:(List CC)}(h:eL N a0 a1=some r):Okc Tryz.prog 207 [I A1 n1 c1,iV a1,.func (.func 161) #[] #[]] ([kW A1 n1 c1 a0]) (fun u post=>u=.tuple #[]∧post=[kW A1 n1 c1 r]):=by
 refine bj Tryz.func207 J J ?_;simp only [aS];refine U ?_;refine aY (fun s L=>(iG N a1 a0=some r∧s=[(0,I A1 n1 c1),(1,iV a1),(2,.func (.func 161) #[] #[]),(6,iV 20),(7,iV 0)]∧L=[kW A1 n1 c1 a0])∨(∃p4 p5,ew N a1 p4 p5=some r∧s=[(0,I A1 n1 c1),(1,iV a1),(2,.func (.func 161) #[] #[]),(6,iV 20),(7,iV p5)]∧L=[kW A1 n1 c1 p4])) ?_ ?_
 ·refine eK ?_;refine ci (fun m s L=> ∃p7 p8 p9,dt N a1 m p7 p8 p9=some r∧s=[(0,I A1 n1 c1),(1,iV a1),(2,.func (.func 161) #[] #[]),(6,iV 20),(7,iV p8),(8,iV p9)]∧L=[kW A1 n1 c1 p7]) N _ _ ⟨a0,0,20,h,J,J⟩ sA (cS [0] 1) ?_;rintro (_|m6) _ _ ⟨p7,p8,p9,h,rfl,rfl⟩
  ·exact bd h
  rw [dt.eq_2] at h;refine aw ?_;refine U ?_;refine aq J (fun g10=> ?_) (fun g10=> ?_)
  ·replace h:=ad g10 h;refine U ?_;obtain ⟨y11,hy11,h⟩:=aa h;refine gD (aE (cz hy11) sN J (aC [] [0] [] 1 J)) ?_;rintro _ _ ⟨_,⟨rfl,rfl⟩,rfl⟩;refine U ?_;obtain ⟨q12,h⟩:=aB h;refine gE (bU J J q12.1 q12.2) ?_;refine U ?_;exact ⟨m6,_,_,CG _,⟨y11,p9,p9+20,h,J,J⟩,sA,cS [0] 1⟩
  replace h:=ae g10 h;refine U ?_;exact ⟨_,_,.inr (⟨p7,p8,h,J,J⟩),sA,cS [0] 1⟩
 rintro _ _ (⟨h,rfl,rfl⟩|⟨p4,p5,h,rfl,rfl⟩)
 ·refine U ?_;obtain ⟨y13,hy13,h⟩:=aa h;refine gD (aE (cz hy13) sN J (aC [] [0] [] 1 J)) ?_;rintro _ _ ⟨_,⟨rfl,rfl⟩,rfl⟩;refine U ?_;refine ci (fun m s L=> ∃p15,bq N a1 y13 m p15=some r∧s=[(0,I A1 n1 c1),(1,iV a1),(2,.func (.func 161) #[] #[]),(6,iV p15)]∧L=[kW A1 n1 c1 y13]) N _ _ ⟨20,h,J,J⟩ sA (cS [0] 1) ?_;rintro (_|m14) _ _ ⟨p15,h,rfl,rfl⟩
  ·exact bd h
  rw [bq.eq_2] at h;refine aw ?_;refine U ?_;refine aq J (fun g16=> ?_) (fun g16=> ?_)
  ·replace h:=ad g16 h;refine U ?_;obtain ⟨q17,h⟩:=aB h;refine gE (kG J J q17.1 q17.2) ?_;refine U ?_;refine aY (fun s L=>(ij N (bq N a1 y13 m14) a1 p15 y13=some r∧s=[(0,I A1 n1 c1),(1,iV a1),(2,.func (.func 161) #[] #[]),(6,iV p15),(7,iV 0)]∧L=[kW A1 n1 c1 y13])∨(∃p20,ee N (bq N a1 y13 m14) a1 p15 y13 p20=some r∧s=[(0,I A1 n1 c1),(1,iV a1),(2,.func (.func 161) #[] #[]),(6,iV p15),(7,iV p20)]∧L=[kW A1 n1 c1 y13])) ?_ ?_
   ·refine eK ?_;refine ci (fun m s L=> ∃p22 p23,dj N (bq N a1 y13 m14) a1 p15 y13 m p22 p23=some r∧s=[(0,I A1 n1 c1),(1,iV a1),(2,.func (.func 161) #[] #[]),(6,iV p15),(7,iV p22),(8,iV p23)]∧L=[kW A1 n1 c1 y13]) N _ _ ⟨0,2*p15,h,J,J⟩ sA (cS [0] 1) ?_;rintro (_|m21) _ _ ⟨p22,p23,h,rfl,rfl⟩
    ·exact bd h
    rw [dj.eq_2] at h;refine aw ?_;refine U ?_;refine aq J (fun g24=> ?_) (fun g24=> ?_)
    ·replace h:=ad g24 h;refine U ?_;obtain ⟨q25,h⟩:=aB h;refine gE (bU J J q25.1 q25.2) ?_;refine U ?_;obtain ⟨y26,hy26,h⟩:=aa h;refine gD (ak (cg hy26 ⟨ac,161, #[], #[],J,lL,fun _ _ hh=>eG hh⟩) nv J (hE (ah (i:=0) J) ac) bW) ?_;rintro _ _ ⟨_,⟨rfl,rfl⟩,rfl⟩;refine U ?_;obtain ⟨q27,h⟩:=aB h;refine gE (kG J J q27.1 q27.2) ?_;obtain ⟨q28,h⟩:=aB h;refine gE (bU J J q28.1 q28.2) ?_;refine U ?_;exact ⟨m21,_,_,CG _,⟨p23,p23+(2*p15),h,J,J⟩,sA,cS [0] 1⟩
    replace h:=ae g24 h;refine U ?_;exact ⟨_,_,.inr (⟨p22,h,J,J⟩),sA,cS [0] 1⟩
   rintro _ _ (⟨h,rfl,rfl⟩|⟨p20,h,rfl,rfl⟩)
   ·refine aY (fun s L=>dn N (bq N a1 y13 m14) a1 p15 y13=some r∧s=[(0,I A1 n1 c1),(1,iV a1),(2,.func (.func 161) #[] #[]),(6,iV p15)]∧L=[kW A1 n1 c1 y13]) ?_ ?_
    ·refine U ?_;obtain ⟨q30,h⟩:=aB h;refine gE (bU J J q30.1 q30.2) ?_;refine U ?_;refine aq J (fun g31=> ?_) (fun g31=> ?_)
     ·replace h:=ad g31 h;refine U ?_;obtain ⟨y32,hy32,h⟩:=aa h;refine gD (ak (cg hy32 ⟨ac,161, #[], #[],J,lL,fun _ _ hh=>eG hh⟩) nv J (hE (ah (i:=0) J) ac) bW) ?_;rintro _ _ ⟨_,⟨rfl,rfl⟩,rfl⟩;refine U ?_;exact ⟨_,_,⟨h,J,J⟩,sA,cS [0] 1⟩
     replace h:=ae g31 h;refine U ?_;exact ⟨_,_,⟨h,J,J⟩,sA,cS [0] 1⟩
    rintro _ _ ⟨h,rfl,rfl⟩;refine U ?_;obtain ⟨q33,h⟩:=aB h;refine gE (kG J J q33.1 q33.2) ?_;refine U ?_;exact ⟨m14,_,_,CG _,⟨p15*2,h,J,J⟩,sA,cS [0] 1⟩
   refine aY (fun s L=>dm N (bq N a1 y13 m14) a1 p15 y13=some r∧s=[(0,I A1 n1 c1),(1,iV a1),(2,.func (.func 161) #[] #[]),(6,iV p15)]∧L=[kW A1 n1 c1 y13]) ?_ ?_
   ·refine U ?_;obtain ⟨q35,h⟩:=aB h;refine gE (bU J J q35.1 q35.2) ?_;refine U ?_;refine aq J (fun g36=> ?_) (fun g36=> ?_)
    ·replace h:=ad g36 h;refine U ?_;obtain ⟨y37,hy37,h⟩:=aa h;refine gD (ak (cg hy37 ⟨ac,161, #[], #[],J,lL,fun _ _ hh=>eG hh⟩) nv J (hE (ah (i:=0) J) ac) bW) ?_;rintro _ _ ⟨_,⟨rfl,rfl⟩,rfl⟩;refine U ?_;exact ⟨_,_,⟨h,J,J⟩,sA,cS [0] 1⟩
    replace h:=ae g36 h;refine U ?_;exact ⟨_,_,⟨h,J,J⟩,sA,cS [0] 1⟩
   rintro _ _ ⟨h,rfl,rfl⟩;refine U ?_;obtain ⟨q38,h⟩:=aB h;refine gE (kG J J q38.1 q38.2) ?_;refine U ?_;exact ⟨m14,_,_,CG _,⟨p15*2,h,J,J⟩,sA,cS [0] 1⟩
  replace h:=ae g16 h;refine U ?_;obtain rfl:=al h;exact fu J (cS [0] 1) ⟨J,J⟩
 refine U ?_;obtain ⟨y39,hy39,h⟩:=aa h;refine gD (aE (cz hy39) sN J (aC [] [0] [] 1 J)) ?_;rintro _ _ ⟨_,⟨rfl,rfl⟩,rfl⟩;refine bG ?_;refine U ?_;refine ci (fun m s L=> ∃p41,bp N a1 y39 m p41=some r∧s=[(0,I A1 n1 c1),(1,iV a1),(2,.func (.func 161) #[] #[]),(6,iV p41)]∧L=[kW A1 n1 c1 y39]) N _ _ ⟨20,h,J,J⟩ sA (cS [0] 1) ?_;rintro (_|m40) _ _ ⟨p41,h,rfl,rfl⟩
 ·exact bd h
 rw [bp.eq_2] at h;refine aw ?_;refine U ?_;refine aq J (fun g42=> ?_) (fun g42=> ?_)
 ·replace h:=ad g42 h;refine U ?_;obtain ⟨q43,h⟩:=aB h;refine gE (kG J J q43.1 q43.2) ?_;refine U ?_;refine aY (fun s L=>(ii N (bp N a1 y39 m40) a1 p41 y39=some r∧s=[(0,I A1 n1 c1),(1,iV a1),(2,.func (.func 161) #[] #[]),(6,iV p41),(7,iV 0)]∧L=[kW A1 n1 c1 y39])∨(∃p46,ed N (bp N a1 y39 m40) a1 p41 y39 p46=some r∧s=[(0,I A1 n1 c1),(1,iV a1),(2,.func (.func 161) #[] #[]),(6,iV p41),(7,iV p46)]∧L=[kW A1 n1 c1 y39])) ?_ ?_
  ·refine eK ?_;refine ci (fun m s L=> ∃p48 p49,di N (bp N a1 y39 m40) a1 p41 y39 m p48 p49=some r∧s=[(0,I A1 n1 c1),(1,iV a1),(2,.func (.func 161) #[] #[]),(6,iV p41),(7,iV p48),(8,iV p49)]∧L=[kW A1 n1 c1 y39]) N _ _ ⟨0,2*p41,h,J,J⟩ sA (cS [0] 1) ?_;rintro (_|m47) _ _ ⟨p48,p49,h,rfl,rfl⟩
   ·exact bd h
   rw [di.eq_2] at h;refine aw ?_;refine U ?_;refine aq J (fun g50=> ?_) (fun g50=> ?_)
   ·replace h:=ad g50 h;refine U ?_;obtain ⟨q51,h⟩:=aB h;refine gE (bU J J q51.1 q51.2) ?_;refine U ?_;obtain ⟨y52,hy52,h⟩:=aa h;refine gD (ak (cg hy52 ⟨ac,161, #[], #[],J,lL,fun _ _ hh=>eG hh⟩) nv J (hE (ah (i:=0) J) ac) bW) ?_;rintro _ _ ⟨_,⟨rfl,rfl⟩,rfl⟩;refine U ?_;obtain ⟨q53,h⟩:=aB h;refine gE (kG J J q53.1 q53.2) ?_;obtain ⟨q54,h⟩:=aB h;refine gE (bU J J q54.1 q54.2) ?_;refine U ?_;exact ⟨m47,_,_,CG _,⟨p49,p49+(2*p41),h,J,J⟩,sA,cS [0] 1⟩
   replace h:=ae g50 h;refine U ?_;exact ⟨_,_,.inr (⟨p48,h,J,J⟩),sA,cS [0] 1⟩
  rintro _ _ (⟨h,rfl,rfl⟩|⟨p46,h,rfl,rfl⟩)
  ·refine aY (fun s L=>dl N (bp N a1 y39 m40) a1 p41 y39=some r∧s=[(0,I A1 n1 c1),(1,iV a1),(2,.func (.func 161) #[] #[]),(6,iV p41)]∧L=[kW A1 n1 c1 y39]) ?_ ?_
   ·refine U ?_;obtain ⟨q56,h⟩:=aB h;refine gE (bU J J q56.1 q56.2) ?_;refine U ?_;refine aq J (fun g57=> ?_) (fun g57=> ?_)
    ·replace h:=ad g57 h;refine U ?_;obtain ⟨y58,hy58,h⟩:=aa h;refine gD (ak (cg hy58 ⟨ac,161, #[], #[],J,lL,fun _ _ hh=>eG hh⟩) nv J (hE (ah (i:=0) J) ac) bW) ?_;rintro _ _ ⟨_,⟨rfl,rfl⟩,rfl⟩;refine U ?_;exact ⟨_,_,⟨h,J,J⟩,sA,cS [0] 1⟩
    replace h:=ae g57 h;refine U ?_;exact ⟨_,_,⟨h,J,J⟩,sA,cS [0] 1⟩
   rintro _ _ ⟨h,rfl,rfl⟩;refine U ?_;obtain ⟨q59,h⟩:=aB h;refine gE (kG J J q59.1 q59.2) ?_;refine U ?_;exact ⟨m40,_,_,CG _,⟨p41*2,h,J,J⟩,sA,cS [0] 1⟩
  refine aY (fun s L=>dk N (bp N a1 y39 m40) a1 p41 y39=some r∧s=[(0,I A1 n1 c1),(1,iV a1),(2,.func (.func 161) #[] #[]),(6,iV p41)]∧L=[kW A1 n1 c1 y39]) ?_ ?_
  ·refine U ?_;obtain ⟨q61,h⟩:=aB h;refine gE (bU J J q61.1 q61.2) ?_;refine U ?_;refine aq J (fun g62=> ?_) (fun g62=> ?_)
   ·replace h:=ad g62 h;refine U ?_;obtain ⟨y63,hy63,h⟩:=aa h;refine gD (ak (cg hy63 ⟨ac,161, #[], #[],J,lL,fun _ _ hh=>eG hh⟩) nv J (hE (ah (i:=0) J) ac) bW) ?_;rintro _ _ ⟨_,⟨rfl,rfl⟩,rfl⟩;refine U ?_;exact ⟨_,_,⟨h,J,J⟩,sA,cS [0] 1⟩
   replace h:=ae g62 h;refine U ?_;exact ⟨_,_,⟨h,J,J⟩,sA,cS [0] 1⟩
  rintro _ _ ⟨h,rfl,rfl⟩;refine U ?_;obtain ⟨q64,h⟩:=aB h;refine gE (kG J J q64.1 q64.2) ?_;refine U ?_;exact ⟨m40,_,_,CG _,⟨p41*2,h,J,J⟩,sA,cS [0] 1⟩
 replace h:=ae g42 h;refine U ?_;obtain rfl:=al h;exact fu J (cS [0] 1) ⟨J,J⟩
def ex (N:Nat)(a0:(List CC)):Option (List CC):=
 (eL N a0 (a0.length:Int)).bind fun y2=>some y2
theorem ik {N:Nat}{a0:(List CC)}{r:(List CC)}(h:ex N a0=some r):Okc Tryz.prog 160 [I A1 n1 c1,.func (.func 161) #[] #[]] ([kW A1 n1 c1 a0]) (fun u post=>u=.tuple #[]∧post=[kW A1 n1 c1 r]):=by
 refine bj Tryz.func160 J J ?_;simp only [aS];refine U ?_;refine gR (br 0 J az J Ch) ?_;refine U ?_;obtain ⟨y2,hy2,h⟩:=aa h;refine gD (aE (iF hy2) yX J (aC [] [0] [] 1 J)) ?_;rintro _ _ ⟨_,⟨rfl,rfl⟩,rfl⟩;refine nf ?_;obtain rfl:=al h;exact fu J (cS [0] 1) ⟨J,J⟩
def oH (N:Nat)(p3:(List CC)):Option (List CC):=
 (ex N p3).bind fun y19=>some y19
def lE (N:Nat)(kb4:(List CC)→Int→Option (List CC))(a0:(List CC))(p6:Int)(p10:(List CC)):Option (List CC):=
 dD (cc (p6+1)) (kb4 p10 (p6+1))
def gK (N:Nat)(a0:(List CC)):Nat→(List CC)→Int→Option (List CC)
 |0,_,_=>none
 |m4+1,p5,p6=>bif decide (p6<(a0.length:Int)) then ((ck a0 p6).bind fun x11=>(fs N x11).bind fun y13=>bif y13 then (dD (iO (p5.length+([x11]:List CC).length)) (lE N (gK N a0 m4) a0 p6 (p5++([x11]:List CC)))) else (lE N (gK N a0 m4) a0 p6 p5)) else (oH N p5)
def pH (N:Nat)(a0:(List CC)):Option (List CC):=
 gK N a0 N [] 0
theorem sr {N:Nat}{a0:(List CC)}{r:(List CC)}(h:pH N a0=some r):Okc Tryz.prog 106 [I A1 n1 c1] ([iT fF (I A1 n1 c1) a0]) (fun u post=> ∃A0 n0 c0,u=I A0 n0 c0∧post=[kW A0 n0 c0 r]):=by
 refine bj Tryz.func106 J J ?_;simp only [aS];refine U ?_;refine aY (fun s L=> ∃p3 A3 n3 c3,oH N p3=some r∧s=[(2,I none 0 0),(3,I A3 n3 c3)]∧L=[kW A3 n3 c3 p3]) ?_ ?_
 ·refine U ?_;refine gR (br 0 J aI J Ch) ?_;refine U ?_;refine ci (fun m s L=> ∃p5 p6 A5 n5 c5,gK N a0 m p5 p6=some r∧s=[(2,I none 0 0),(3,I A5 n5 c5),(6,I A1 n1 c1),(7,iV (a0.length:Int)),(8,iV p6)]∧L=[kW A5 n5 c5 p5,iT fF (I A1 n1 c1) a0]) N _ _ ⟨[],0,none,0,0,h,J,J⟩ sA ((ei fF 24 _).trans (cS [0,1] 2)) ?_;rintro (_|m4) _ _ ⟨p5,p6,A5,n5,c5,h,rfl,rfl⟩
  ·exact bd h
  rw [gK.eq_2] at h;refine U ?_;refine aw ?_;refine aq J (fun g8=> ?_) (fun g8=> ?_)
  ·replace h:=ad g8 h;refine U ?_;refine aY (fun s L=> ∃p10 A10 n10 c10,lE N (gK N a0 m4) a0 p6 p10=some r∧s=[(2,I none 0 0),(3,I A10 n10 c10),(6,I A1 n1 c1),(7,iV (a0.length:Int)),(8,iV p6)]∧L=[kW A10 n10 c10 p10,iT fF (I A1 n1 c1) a0]) ?_ ?_
   ·refine U ?_;obtain ⟨x11,hx11,h⟩:=aa h;obtain ⟨lx11,ux11,hx11⟩:=aG hx11;refine gR (bf 1 J aI J J Ch fd lx11 ux11) ?_;refine gR (bi (us:=[iV x11.Kind,iV x11.N,.string x11.S]) 1 J aI J hx11 bH (fun _ _ _ h=>by rw [show _=_ from h];rfl)) ?_;refine gD (aF qx J) ?_;rintro _ _ ⟨B12,rfl,rfl⟩;refine gO (ao (us:=[iV x11.Kind,iV x11.N,.string x11.S]) (cs':=[iV x11.Kind,iV x11.N,.string x11.S]) 0 J J J J fd J J J) ?_;rintro _ _ rfl;refine U ?_;refine gR (ai (us:=[iV x11.Kind,iV x11.N,.string x11.S]) 0 J J bH J) ?_;obtain ⟨y13,hy13,h⟩:=aa h;refine gD (ak (fC hy13) pp J (ac) eg) ?_;rintro _ _ ⟨_,⟨rfl,rfl⟩,rfl⟩;refine U ?_;refine aq J (fun g14=> ?_) (fun g14=> ?_)
    ·replace h:=ad g14 h;refine U ?_;refine gR (ai (us:=[iV x11.Kind,iV x11.N,.string x11.S]) 0 J J bH J) ?_;refine gD (bD (R:=fF) (vss:=[[iV x11.Kind,iV x11.N,.string x11.S]]) (xs:=[x11]) J (mU _ _ _) J J (fun _ _ hr=> .cons J All2.nil)) ?_;rintro _ _ ⟨A15,n15,c15,rfl,rfl⟩;obtain ⟨q16,h⟩:=aB h;refine gD (cG 2 0 J J az J J Ch wx J J q16) ?_;rintro _ _ ⟨A17,n17,c17,rfl,rfl⟩;refine U ?_;exact ⟨_,_,⟨p5++([x11]:List CC),A17,n17,c17,h,J,J⟩,sA,cS [2,3] 4⟩
    replace h:=ae g14 h;refine U ?_;exact ⟨_,_,⟨p5,A5,n5,c5,h,J,J⟩,sA,cS [1,2] 3⟩
   rintro _ _ ⟨p10,A10,n10,c10,h,rfl,rfl⟩;refine gX ?_;obtain ⟨q18,h⟩:=aB h;refine gE (bU J J q18.1 q18.2) ?_;refine U ?_;exact ⟨m4,_,_,CG _,⟨p10,p6+1,A10,n10,c10,h,J,J⟩,sA,cS [0,1] 2⟩
  replace h:=ae g8 h;refine U ?_;exact ⟨_,_,⟨p5,A5,n5,c5,h,J,J⟩,sA,cS [0] 2⟩
 rintro _ _ ⟨p3,A3,n3,c3,h,rfl,rfl⟩;refine U ?_;obtain ⟨y19,hy19,h⟩:=aa h;refine gD (aE (ik hy19) ze J (aC [] [0] [] 1 J)) ?_;rintro _ _ ⟨_,⟨rfl,rfl⟩,rfl⟩;refine bG ?_;refine U ?_;obtain rfl:=al h;exact aJ J J (cS [0] 1) ⟨_,_,_,J,J⟩
theorem qR {r:(List CC)}: ∀v post,((fun (u:Value) (post:List Chunk)=> ∃A0 n0 c0,u=I A0 n0 c0∧post=[kW A0 n0 c0 r])) v post→ ∀c∈post,bS c:=by
 rintro _ _ ⟨_,_,_,rfl,rfl⟩;exact hE dh (ac)
end Go.Proofs.YtanojiedimeegaaGreatDoor
namespace Go.Proofs.YtanojiedimeegaaGreatDoor
variable {A1 A10 A12 A13 A14 A15 A16 A17 A2 A3 A4 A5 A6 A7 A8 A9:Option Addr} {B1 B10 B12 B2 B4 B5 B7 B9 M11 M14 M3 M8 c1 c10 c12 c13 c14 c15 c16 c17 c2 c3 c4 c5 c6 c7 c8 c9 n1 n10 n12 n13 n14 n15 n16 n17 n2 n3 n4 n5 n6 n7 n8 n9:Nat}
open Go.RowKit Asn
set_option maxRecDepth 20000
def mY (N:Nat)(a0:Cw)(p37:(List CC)):Option (List CC):=
 (pH N p37).bind fun y50=>some y50
def ke (N:Nat)(y38:((List Cr)))(a0:Cw):Nat→Int→(List CC)→Option (List CC)
 |0,_,_=>none
 |m40+1,p41,p42=>bif decide (p41<(y38.length:Int)) then ((ck y38 p41).bind fun x44=>dD (iO (p42.length+([x44.Key]:List CC).length)) (dD (cc (p41+1)) ((ke N y38 a0 m40) (p41+1) (p42++([x44.Key]:List CC))))) else (mY N a0 p42)
def kf (N:Nat)(a0:Cw)(a1:Cp)(x25:Int×Cp):((List CC))→Option (Option Exit×(List CC))
 |p26=>dD (iO (p26.length+([(⟨0,x25.1,⟨#[]⟩⟩:CC)]:List CC).length)) (some (none,p26++([(⟨0,x25.1,⟨#[]⟩⟩:CC)]:List CC)))
def gW (N:Nat)(a0:Cw)(a1:Cp):Option (List CC):=
 (bM N a0 a1).bind fun y16=>bif !y16.2 then (some []) else ((lp N y16.1).bind fun y23=>(js N y16.1 (ma (fun x st=>kf N a0 a1 x st)) (none,[])).bind fun y27=>sb y27.1 ((dx N).bind fun y32=>dD (iO (y27.2.length+([y32]:List CC).length)) ((fr N a0 a1).bind fun y38=>ke N y38 a0 N 0 (y27.2++([y32]:List CC)))) none (fun _=>none))
theorem kT {N:Nat}{a0:Cw}{a1:Cp}{r:(List CC)}(h:gW N a0 a1=some r):Okc Tryz.prog 30 [pV B1 0,.agg #[iV a1.Kind,iV a1.N,.string a1.S]] ([be A12 n12 c12 a0.symbols_,ct A13 n13 c13 a0.events_,be A14 n14 c14 a0.out_,aR 0 30 [iV 8,iV 0,.string (⟨#[]⟩:ByteArray)],aj B1 151 [iV a0.spent_.steps_,iV a0.spent_.made_,iV a0.spent_.calls_,iV a0.config_.Way,iV a0.config_.Steps,iV a0.config_.Calls,iV a0.config_.Made,iV a0.config_.Young,iV a0.config_.Full,iV a0.config_.Sites,.nilIface,pV B2 0,pV B9 0,I A12 n12 c12,iV a0.epoch_,iV a0.serial_,iV a0.sleepers_,I A13 n13 c13,I A14 n14 c14],aj B2 199 [I A3 n3 c3,I A4 n4 c4,I A5 n5 c5,I A6 n6 c6,pV B7 0],bu A3 n3 c3 a0.heap_.m_.Young,bu A4 n4 c4 a0.heap_.m_.Old,aU A5 n5 c5 a0.heap_.roots_,aU A6 n6 c6 a0.heap_.pending_,aj B7 247 [.map (some M8)],aL cv cy M8 a0.heap_.set_.at_,aj B9 205 [I A10 n10 c10,.map (some M11)],cR A10 n10 c10 a0.shapes_.shapes_,aL aD cu M11 a0.shapes_.next_]) (fun u post=> ∃A500 n500 c500,u=I A500 n500 c500∧post=[kW A500 n500 c500 r,aj B1 151 [iV a0.spent_.steps_,iV a0.spent_.made_,iV a0.spent_.calls_,iV a0.config_.Way,iV a0.config_.Steps,iV a0.config_.Calls,iV a0.config_.Made,iV a0.config_.Young,iV a0.config_.Full,iV a0.config_.Sites,.nilIface,pV B2 0,pV B9 0,I A12 n12 c12,iV a0.epoch_,iV a0.serial_,iV a0.sleepers_,I A13 n13 c13,I A14 n14 c14],aj B2 199 [I A3 n3 c3,I A4 n4 c4,I A5 n5 c5,I A6 n6 c6,pV B7 0],bu A3 n3 c3 a0.heap_.m_.Young,bu A4 n4 c4 a0.heap_.m_.Old,aU A5 n5 c5 a0.heap_.roots_,aU A6 n6 c6 a0.heap_.pending_,aj B7 247 [.map (some M8)],aL cv cy M8 a0.heap_.set_.at_,aj B9 205 [I A10 n10 c10,.map (some M11)],cR A10 n10 c10 a0.shapes_.shapes_,aL aD cu M11 a0.shapes_.next_]):=by
 refine bj Tryz.func30 J J ?_;simp only [aS];refine U ?_;refine gD (aN J J) ?_;rintro _ _ ⟨B15,rfl,rfl⟩;refine U ?_;refine gR (ai (us:=[iV a1.Kind,iV a1.N,.string a1.S]) 0 J J aH J) ?_;obtain ⟨y16,hy16,h⟩:=aa h;refine gD (ak (cr hy16) jf J (hE (ap (i:=5) J) (hE (ap (i:=6) J) (hE (ah (i:=7) J) (hE (ah (i:=8) J) (hE (ah (i:=9) J) (hE (ah (i:=10) J) (hE (ap (i:=11) J) (hE (aK (i:=12) J) (hE (ap (i:=13) J) (hE (ah (i:=14) J) (hE (aK (i:=15) J) (hE (ag (i:=1) J J) (hE (ag (i:=2) J J) (hE (ag (i:=3) J J) ac)))))))))))))) bZ) ?_;rintro _ _ ⟨_,⟨A17,n17,c17,A18,n18,c18,rfl,rfl⟩,rfl⟩;refine U ?_;refine gD (aF dv J) ?_;rintro _ _ ⟨B19,rfl,rfl⟩;refine gO (ao (us:=[iV y16.1.Kind,iV y16.1.Shape,iV y16.1.Flags,iV y16.1.Age,I A17 n17 c17,I A18 n18 c18]) (cs':=[iV y16.1.Kind,iV y16.1.Shape,iV y16.1.Flags,iV y16.1.Age,I A17 n17 c17,I A18 n18 c18]) 0 J J J J bY J J J) ?_;rintro _ _ rfl;refine U ?_;refine aw ?_;refine U ?_;refine aq J (fun g20=> ?_) (fun g20=> ?_)
 ·replace h:=ad g20 h;refine U ?_;obtain rfl:=al h;exact aJ J J ((ei fF 24 _).trans (cS [0,9,10,11,12,13,14,15,16,17,18,19] 20)) ⟨_,_,_,J,J⟩
 replace h:=ae g20 h;refine U ?_;refine gD (aF zX J) ?_;rintro _ _ ⟨B22,rfl,rfl⟩;refine U ?_;refine aw ?_;refine U ?_;refine gR (ai (us:=[iV y16.1.Kind,iV y16.1.Shape,iV y16.1.Flags,iV y16.1.Age,I A17 n17 c17,I A18 n18 c18]) 1 J J bw J) ?_;obtain ⟨y23,hy23,h⟩:=aa h;refine gD (ak (o4 hy23) zr J (hE (ah (i:=2) J) (hE (ah (i:=3) J) (hE (ag (i:=8) J J) ac))) nH) ?_;rintro _ _ ⟨_,⟨B24,rfl,rfl⟩,rfl⟩;refine nf ?_;refine dz ?_;refine gz ?_ bX (lj 0 J);refine gz ?_ bX (bV 3 J);refine wA ?_;refine gz ?_ bX (bV 4 J);obtain ⟨y27,hy27,h⟩:=aa h
 refine ry (en:=(fun x=> [iV x.1,.agg #[iV x.2.Kind,iV x.2.N,.string x.2.S]])) (fun x st=>kf N a0 a1 x st) (fun (st:(List CC)) (mz:((Option Addr×Nat×Nat)))=> [be A12 n12 c12 a0.symbols_,ct A13 n13 c13 a0.events_,be A14 n14 c14 a0.out_,aj B1 151 [iV a0.spent_.steps_,iV a0.spent_.made_,iV a0.spent_.calls_,iV a0.config_.Way,iV a0.config_.Steps,iV a0.config_.Calls,iV a0.config_.Made,iV a0.config_.Young,iV a0.config_.Full,iV a0.config_.Sites,.nilIface,pV B2 0,pV B9 0,I A12 n12 c12,iV a0.epoch_,iV a0.serial_,iV a0.sleepers_,I A13 n13 c13,I A14 n14 c14],aj B15 30 [iV a1.Kind,iV a1.N,.string a1.S],cC fF 24 (.slice mz.1 mz.2.1 mz.2.2) st,aj B22 67 [.slice mz.1 mz.2.1 mz.2.2],aR 0 30 [iV 8,iV 0,.string (⟨#[]⟩:ByteArray)],bu A3 n3 c3 a0.heap_.m_.Young,bu A4 n4 c4 a0.heap_.m_.Old,aU A5 n5 c5 a0.heap_.roots_,aU A6 n6 c6 a0.heap_.pending_,aj B2 199 [I A3 n3 c3,I A4 n4 c4,I A5 n5 c5,I A6 n6 c6,pV B7 0],cR A10 n10 c10 a0.shapes_.shapes_,aL aD cu M11 a0.shapes_.next_,aj B9 205 [I A10 n10 c10,.map (some M11)],aL cv cy M8 a0.heap_.set_.at_,aj B7 247 [.map (some M8)]]) [aR B24 138 [iV y16.1.Kind,iV y16.1.Shape,iV y16.1.Flags,iV y16.1.Age,I A17 n17 c17,I A18 n18 c18],cn A17 n17 c17 y16.1.Slots,cn A18 n18 c18 y16.1.More,aR 0 30 [iV 8,iV 0,.string (⟨#[]⟩:ByteArray)]] ([]) ((none,0,0)) J J zg J (fun _=>J) (fun l G hY=>(mX hy27 hY).mono fun _ _ hh=>hh.2) ((ei fF 24 _).trans (aC [1,4,5,10] [] [7,8,9,11,6,0,2,10,13,14,15,16,12,20,21,19,18,17] 22 J)) h ?_ ?_ ?_ ?_
 ·rintro l x25 p26 je sr25 ⟨A26,n26,c26⟩ h;replace h:kf N a0 a1 x25 p26=some (je,sr25):=h;simp only [rG,List.zip_cons_cons,List.zip_nil_left,List.zip_nil_right,List.reverse_cons,List.reverse_nil,List.nil_append,List.cons_append];refine U ?_;refine gE (aW J (rt _ _)) ?_;refine gD (bD (R:=fF) (vss:=[[iV 0,iV x25.1,.string (⟨#[]⟩)]]) (xs:=[(⟨0,x25.1,⟨#[]⟩⟩:CC)]) J (mU _ _ _) J J (fun _ _ hr=> .cons J All2.nil)) ?_;rintro _ _ ⟨A29,n29,c29,rfl,rfl⟩;obtain ⟨q30,h⟩:=aB h;refine gD (cG 6 0 J J az J J Ch wx J J q30) ?_;rintro _ _ ⟨A31,n31,c31,rfl,rfl⟩;refine gO (ao (us:=[I A31 n31 c31]) (cs':=[I A31 n31 c31]) 7 J J J J t4 J J J) ?_;rintro _ _ rfl;refine bG ?_;refine U ?_;obtain ⟨rfl,rfl⟩:=Prod.mk.inj (Option.some.inj h);exact xE ((cS [1,2,3,4,5,6,7,8,9,10,11,12,13,14,15,16,17,18] 19).trans (fY (A31,n31,c31) J))
 ·rintro ⟨A26,n26,c26⟩ h;refine nz ([be A12 n12 c12 a0.symbols_,ct A13 n13 c13 a0.events_,be A14 n14 c14 a0.out_,aj B1 151 [iV a0.spent_.steps_,iV a0.spent_.made_,iV a0.spent_.calls_,iV a0.config_.Way,iV a0.config_.Steps,iV a0.config_.Calls,iV a0.config_.Made,iV a0.config_.Young,iV a0.config_.Full,iV a0.config_.Sites,.nilIface,pV B2 0,pV B9 0,I A12 n12 c12,iV a0.epoch_,iV a0.serial_,iV a0.sleepers_,I A13 n13 c13,I A14 n14 c14],aj B15 30 [iV a1.Kind,iV a1.N,.string a1.S],kW A26 n26 c26 y27.2,aj B22 67 [I A26 n26 c26],aR 0 30 [iV 8,iV 0,.string (⟨#[]⟩:ByteArray)],bu A3 n3 c3 a0.heap_.m_.Young,bu A4 n4 c4 a0.heap_.m_.Old,aU A5 n5 c5 a0.heap_.roots_,aU A6 n6 c6 a0.heap_.pending_,aj B2 199 [I A3 n3 c3,I A4 n4 c4,I A5 n5 c5,I A6 n6 c6,pV B7 0],cR A10 n10 c10 a0.shapes_.shapes_,aL aD cu M11 a0.shapes_.next_,aj B9 205 [I A10 n10 c10,.map (some M11)],aL cv cy M8 a0.heap_.set_.at_,aj B7 247 [.map (some M8)]]) J ?_;refine U ?_;refine aw ?_;refine bn O _ (am _) ?_;refine zR 0 J (aM 6 J J zG J) ?_;obtain ⟨y32,hy32,h⟩:=aa h;refine zD 1 J (ak (dO hy32) rk J (ac) du) ?_;rintro _ _ ⟨_,⟨rfl,rfl⟩,rfl⟩;refine ⟨_,am _,am _,?_⟩;refine zD 2 J (bD (R:=fF) (vss:=[[iV y32.Kind,iV y32.N,.string y32.S]]) (xs:=[y32]) J (mU _ _ _) J J (fun _ _ hr=> .cons J All2.nil)) ?_;rintro _ _ ⟨A33,n33,c33,rfl,rfl⟩;refine cf (cS [1,2,3,4,5,6,7,8,9,10,11,12,13,14,15,16,17,18] 19) ?_;obtain ⟨q34,h⟩:=aB h
  refine te 3 J O O (cG 6 0 J J az J J Ch wx J J q34) ?_;rintro _ _ ⟨A35,n35,c35,rfl,rfl⟩;refine bC ?_;refine kz 4 J O O (ao (us:=[I A35 n35 c35]) (cs':=[I A35 n35 c35]) 7 J J J J t4 J J J) ?_;rintro _ _ rfl;refine bC ?_;refine bc O ?_;refine dz ?_;refine aY (fun s L=> ∃p37 A37 n37 c37,mY N a0 p37=some r∧s=[(4,I none 0 0),(7,pV B22 0)]∧L=[kW A37 n37 c37 p37,aj B22 67 [I A37 n37 c37],aR 0 30 [iV 8,iV 0,.string (⟨#[]⟩:ByteArray)],be A12 n12 c12 a0.symbols_,ct A13 n13 c13 a0.events_,be A14 n14 c14 a0.out_,aj B1 151 [iV a0.spent_.steps_,iV a0.spent_.made_,iV a0.spent_.calls_,iV a0.config_.Way,iV a0.config_.Steps,iV a0.config_.Calls,iV a0.config_.Made,iV a0.config_.Young,iV a0.config_.Full,iV a0.config_.Sites,.nilIface,pV B2 0,pV B9 0,I A12 n12 c12,iV a0.epoch_,iV a0.serial_,iV a0.sleepers_,I A13 n13 c13,I A14 n14 c14],bu A3 n3 c3 a0.heap_.m_.Young,bu A4 n4 c4 a0.heap_.m_.Old,aU A5 n5 c5 a0.heap_.roots_,aU A6 n6 c6 a0.heap_.pending_,aj B2 199 [I A3 n3 c3,I A4 n4 c4,I A5 n5 c5,I A6 n6 c6,pV B7 0],cR A10 n10 c10 a0.shapes_.shapes_,aL aD cu M11 a0.shapes_.next_,aj B9 205 [I A10 n10 c10,.map (some M11)],aL cv cy M8 a0.heap_.set_.at_,aj B7 247 [.map (some M8)]]) ?_ ?_
  ·refine U ?_;refine gR (ai (us:=[iV a1.Kind,iV a1.N,.string a1.S]) 5 J J aH J) ?_;obtain ⟨y38,hy38,h⟩:=aa h;refine gD (aE (f6 hy38) qv J (aC [1,2,3] [4,13,9,10,11,12,18,17,16,14,15] [0,1,2,3,5,6,7,8] 19 J)) ?_;rintro _ _ ⟨_,⟨A39,n39,c39,rfl,rfl⟩,rfl⟩;refine gR (br 0 J az J Ci) ?_;refine U ?_
   refine ci (fun m s L=> ∃p41 p42 A42 n42 c42,ke N y38 a0 m p41 p42=some r∧s=[(4,I none 0 0),(7,pV B22 0),(34,I A39 n39 c39),(35,iV (y38.length:Int)),(36,iV p41)]∧L=[cC iY 42 (I A39 n39 c39) y38,kW A42 n42 c42 p42,aj B22 67 [I A42 n42 c42],aR 0 30 [iV 8,iV 0,.string (⟨#[]⟩:ByteArray)],be A12 n12 c12 a0.symbols_,ct A13 n13 c13 a0.events_,be A14 n14 c14 a0.out_,aj B1 151 [iV a0.spent_.steps_,iV a0.spent_.made_,iV a0.spent_.calls_,iV a0.config_.Way,iV a0.config_.Steps,iV a0.config_.Calls,iV a0.config_.Made,iV a0.config_.Young,iV a0.config_.Full,iV a0.config_.Sites,.nilIface,pV B2 0,pV B9 0,I A12 n12 c12,iV a0.epoch_,iV a0.serial_,iV a0.sleepers_,I A13 n13 c13,I A14 n14 c14],bu A3 n3 c3 a0.heap_.m_.Young,bu A4 n4 c4 a0.heap_.m_.Old,aU A5 n5 c5 a0.heap_.roots_,aU A6 n6 c6 a0.heap_.pending_,aj B2 199 [I A3 n3 c3,I A4 n4 c4,I A5 n5 c5,I A6 n6 c6,pV B7 0],cR A10 n10 c10 a0.shapes_.shapes_,aL aD cu M11 a0.shapes_.next_,aj B9 205 [I A10 n10 c10,.map (some M11)],aL cv cy M8 a0.heap_.set_.at_,aj B7 247 [.map (some M8)]]) N _ _ ⟨0,y27.2++([y32]:List CC),A35,n35,c35,h,J,J⟩ sA (cS [0,17,18,19,13,14,15,1,3,4,5,6,2,10,11,9,8,7] 20) ?_;rintro (_|m40) _ _ ⟨p41,p42,A42,n42,c42,h,rfl,rfl⟩
   ·exact bd h
   rw [ke.eq_2] at h;refine U ?_;refine aw ?_;refine aq J (fun g43=> ?_) (fun g43=> ?_)
   ·replace h:=ad g43 h;refine U ?_;refine aw ?_;refine U ?_;obtain ⟨x44,hx44,h⟩:=aa h;obtain ⟨lx44,ux44,hx44⟩:=aG hx44;refine gR (bf 0 J az J J Ci cj lx44 ux44) ?_;refine gR (bi (us:=[iV x44.Key.Kind,iV x44.Key.N,.string x44.Key.S,iV x44.Attrs,iV x44.Value.Kind,iV x44.Value.N,.string x44.Value.S,iV x44.Get.Kind,iV x44.Get.N,.string x44.Get.S,iV x44.Set.Kind,iV x44.Set.N,.string x44.Set.S]) 0 J az J hx44 da (fun _ _ _ h=>by rw [show _=_ from h];rfl)) ?_;refine gD (aF dy J) ?_;rintro _ _ ⟨B45,rfl,rfl⟩;refine gO (ao (us:=[iV x44.Key.Kind,iV x44.Key.N,.string x44.Key.S,iV x44.Attrs,iV x44.Value.Kind,iV x44.Value.N,.string x44.Value.S,iV x44.Get.Kind,iV x44.Get.N,.string x44.Get.S,iV x44.Set.Kind,iV x44.Set.N,.string x44.Set.S]) (cs':=[iV x44.Key.Kind,iV x44.Key.N,.string x44.Key.S,iV x44.Attrs,iV x44.Value.Kind,iV x44.Value.N,.string x44.Value.S,iV x44.Get.Kind,iV x44.Get.N,.string x44.Get.S,iV x44.Set.Kind,iV x44.Set.N,.string x44.Set.S]) 0 J J J J cj J J J) ?_;rintro _ _ rfl;refine U ?_;refine gR (ai (us:=[iV x44.Key.Kind,iV x44.Key.N,.string x44.Key.S]) 0 J J bH J) ?_;refine gD (bD (R:=fF) (vss:=[[iV x44.Key.Kind,iV x44.Key.N,.string x44.Key.S]]) (xs:=[x44.Key]) J (mU _ _ _) J J (fun _ _ hr=> .cons J All2.nil)) ?_;rintro _ _ ⟨A46,n46,c46,rfl,rfl⟩;obtain ⟨q47,h⟩:=aB h;refine gD (cG 3 0 J J az J J Ch wx J J q47) ?_;rintro _ _ ⟨A48,n48,c48,rfl,rfl⟩;refine bG ?_
    refine gO (ao (us:=[I A48 n48 c48]) (cs':=[I A48 n48 c48]) 4 J J J J t4 J J J) ?_;rintro _ _ rfl;refine U ?_;obtain ⟨q49,h⟩:=aB h;refine gE (bU J J q49.1 q49.2) ?_;refine U ?_;exact ⟨m40,_,_,CG _,⟨p41+1,p42++([x44.Key]:List CC),A48,n48,c48,h,J,J⟩,sA,cS [2,3,4,5,6,7,8,9,10,11,12,13,14,15,16,17,18,19] 20⟩
   replace h:=ae g43 h;refine U ?_;exact ⟨_,_,⟨p42,A42,n42,c42,h,J,J⟩,sA,cS [1,2,3,4,5,6,7,8,9,10,11,12,13,14,15,16,17] 18⟩
  rintro _ _ ⟨p37,A37,n37,c37,h,rfl,rfl⟩;refine U ?_;obtain ⟨y50,hy50,h⟩:=aa h;refine gD (ak (sr hy50) zq J (hE (ah (i:=0) J) ac) qR) ?_;rintro _ _ ⟨_,⟨A51,n51,c51,rfl,rfl⟩,rfl⟩;refine U ?_;obtain rfl:=al h;exact aJ J J (cS [0,7,12,8,9,10,11,17,16,15,13,14] 18) ⟨_,_,_,J,J⟩
 ·rintro ⟨A26,n26,c26⟩ h;exact bd h
 rintro i ⟨A26,n26,c26⟩ h;exact bd h
def jg (N:Nat)(y5:(CC))(a0:Cl)(p9:Int):Option Cr:=
 some (⟨y5,p9,(⟨3,(a0.More.length:Int),⟨#[]⟩⟩:Cp),(⟨0,0,⟨#[]⟩⟩:Cp),(⟨0,0,⟨#[]⟩⟩:Cp)⟩:Cr)
def ka (N:Nat)(a0:Cl):Option Cr:=
 (dx N).bind fun y5=>bif !decide (aX .i64 a0.Flags 32=0) then (jg N y5 a0 0) else (jg N y5 a0 1)
theorem mg {N:Nat}{a0:Cl}{r:Cr}(h:ka N a0=some r):Okc Tryz.prog 98 [.agg #[iV a0.Kind,iV a0.Shape,iV a0.Flags,iV a0.Age,I A1 n1 c1,I A2 n2 c2]] ([cn A1 n1 c1 a0.Slots,cn A2 n2 c2 a0.More]) (fun u post=>u=.agg #[iV r.Key.Kind,iV r.Key.N,.string r.Key.S,iV r.Attrs,iV r.Value.Kind,iV r.Value.N,.string r.Value.S,iV r.Get.Kind,iV r.Get.N,.string r.Get.S,iV r.Set.Kind,iV r.Set.N,.string r.Set.S]∧post=[]):=by
 refine bj Tryz.func98 J J ?_;simp only [aS];refine U ?_;refine gD (aN J J) ?_;rintro _ _ ⟨B3,rfl,rfl⟩;refine gD (aF dy J) ?_;rintro _ _ ⟨B4,rfl,rfl⟩;refine U ?_;refine aw ?_;obtain ⟨y5,hy5,h⟩:=aa h;refine gz (t:=[(1,pV B3 0),(2,pV B4 0)]) ?_ kY (am _)
 refine iE O 7 [] [5,6] [4,5,6,7,8,9,3] [[],[],[1],[2],[3],[0,4],[]] [aV (.agg #[iV y5.Kind,iV y5.N,.string y5.S]),
 aV (pV B3 5),
 aV (I A2 n2 c2),
 aV (iV (a0.More.length:Int)),
 aV (.agg #[iV 3,iV (a0.More.length:Int),.string (⟨#[]⟩)]),
 aV (.agg #[iV y5.Kind,iV y5.N,.string y5.S,iV 1,iV 3,iV (a0.More.length:Int),.string (⟨#[]⟩),iV 0,iV 0,.string (⟨#[]⟩),iV 0,iV 0,.string (⟨#[]⟩)]),
 aX1 (fun (B7:Nat)=>pV B7 0) (fun B7=> [aj B7 42 [iV 0,iV 0,.string (⟨#[]⟩),iV 0,iV 0,iV 0,.string (⟨#[]⟩),iV 0,iV 0,.string (⟨#[]⟩),iV 0,iV 0,.string (⟨#[]⟩)]])] [] (am _) (kE) O rfl rfl ?_ ?_ ?_
 ·exact kD
 ·refine ar J ?_ ?_
  ·refine nb (aF dy J) J ?_;rintro _ _ ⟨B6,rfl,rfl⟩;exact yD B6 (am _)
  refine ar J ?_ ?_
  ·exact cP (aW J (lN _ _ _ _ _ _ _)) J (bF J (am _))
  refine ar J ?_ ?_
  ·exact cP (aW J (iu _ _)) J (bF J (am _))
  refine ar J ?_ ?_
  ·exact gA (br 3 J aI J hH) J (bF J (am _))
  refine ar J ?_ ?_
  ·exact gA (aM 1 J J d4 J) J (bF J (am _))
  refine ar J ?_ ?_
  ·exact cP (bE J jV) J (bF J (am _))
  refine ar J ?_ ?_
  ·refine nb (ak (dO hy5) rk J (ac) du) J ?_;rintro _ _ ⟨_,⟨rfl,rfl⟩,rfl⟩;exact bF J (am _)
  exact eN
 intro B7;refine nd (t:=[(9,.agg #[iV y5.Kind,iV y5.N,.string y5.S,iV 1,iV 3,iV (a0.More.length:Int),.string (⟨#[]⟩),iV 0,iV 0,.string (⟨#[]⟩),iV 0,iV 0,.string (⟨#[]⟩)]),(3,pV B7 0),(1,pV B3 0),(2,pV B4 0)]) (L':=[aj B7 42 [iV 0,iV 0,.string (⟨#[]⟩),iV 0,iV 0,iV 0,.string (⟨#[]⟩),iV 0,iV 0,.string (⟨#[]⟩),iV 0,iV 0,.string (⟨#[]⟩)],aj B4 42 [iV 0,iV 0,.string (⟨#[]⟩),iV 0,iV 0,iV 0,.string (⟨#[]⟩),iV 0,iV 0,.string (⟨#[]⟩),iV 0,iV 0,.string (⟨#[]⟩)],aj B3 138 [iV a0.Kind,iV a0.Shape,iV a0.Flags,iV a0.Age,I A1 n1 c1,I A2 n2 c2],cn A1 n1 c1 a0.Slots,cn A2 n2 c2 a0.More]) ?_ kY (am _);refine o7 7 J O (ao (us:=[iV y5.Kind,iV y5.N,.string y5.S,iV 1,iV 3,iV (a0.More.length:Int),.string (⟨#[]⟩),iV 0,iV 0,.string (⟨#[]⟩),iV 0,iV 0,.string (⟨#[]⟩)]) (cs':=[iV y5.Kind,iV y5.N,.string y5.S,iV 1,iV 3,iV (a0.More.length:Int),.string (⟨#[]⟩),iV 0,iV 0,.string (⟨#[]⟩),iV 0,iV 0,.string (⟨#[]⟩)]) 0 J J J J cj J J J) J J ?_;rintro _ _ rfl;refine kV O ?_;refine dz ?_;refine aY (fun s L=> ∃p9,jg N y5 a0 p9=some r∧s=[(2,pV B4 0),(3,pV B7 0)]∧L=[aj B4 42 [iV 0,iV 0,.string (⟨#[]⟩),iV 0,iV 0,iV 0,.string (⟨#[]⟩),iV 0,iV 0,.string (⟨#[]⟩),iV 0,iV 0,.string (⟨#[]⟩)],aj B7 42 [iV y5.Kind,iV y5.N,.string y5.S,iV p9,iV 3,iV (a0.More.length:Int),.string (⟨#[]⟩),iV 0,iV 0,.string (⟨#[]⟩),iV 0,iV 0,.string (⟨#[]⟩)]]) ?_ ?_
 ·refine U ?_;refine gE (bm J J) ?_;refine U ?_;refine aq J (fun g10=> ?_) (fun g10=> ?_)
  ·replace h:=ad g10 h;refine U ?_;refine gO (ao (us:=[iV 0]) (cs':=[iV y5.Kind,iV y5.N,.string y5.S,iV 0,iV 3,iV (a0.More.length:Int),.string (⟨#[]⟩),iV 0,iV 0,.string (⟨#[]⟩),iV 0,iV 0,.string (⟨#[]⟩)]) 0 J J J J fT J J J) ?_;rintro _ _ rfl;refine U ?_;exact ⟨_,_,⟨0,h,J,J⟩,sA,cS [1,0] 5⟩
  replace h:=ae g10 h;refine U ?_;exact ⟨_,_,⟨1,h,J,J⟩,sA,cS [1,0] 5⟩
 rintro _ _ ⟨p9,h,rfl,rfl⟩;refine U ?_;refine gR (ai (us:=[iV y5.Kind,iV y5.N,.string y5.S,iV p9,iV 3,iV (a0.More.length:Int),.string (⟨#[]⟩),iV 0,iV 0,.string (⟨#[]⟩),iV 0,iV 0,.string (⟨#[]⟩)]) 1 J J da J) ?_;refine gO (ao (us:=[iV y5.Kind,iV y5.N,.string y5.S,iV p9,iV 3,iV (a0.More.length:Int),.string (⟨#[]⟩),iV 0,iV 0,.string (⟨#[]⟩),iV 0,iV 0,.string (⟨#[]⟩)]) (cs':=[iV y5.Kind,iV y5.N,.string y5.S,iV p9,iV 3,iV (a0.More.length:Int),.string (⟨#[]⟩),iV 0,iV 0,.string (⟨#[]⟩),iV 0,iV 0,.string (⟨#[]⟩)]) 0 J J J J cj J J J) ?_;rintro _ _ rfl;refine bG ?_;refine U ?_;obtain rfl:=al h;exact bR (rs:=[.cell 2 42]) (vs:=[.agg #[iV y5.Kind,iV y5.N,.string y5.S,iV p9,iV 3,iV (a0.More.length:Int),.string (⟨#[]⟩),iV 0,iV 0,.string (⟨#[]⟩),iV 0,iV 0,.string (⟨#[]⟩)]]) J (.cons (bg 0 J J da) .nil) J (cS [] 2) ⟨J,J⟩
theorem kw {r:Cr}: ∀v post,((fun (u:Value) (post:List Chunk)=>u=.agg #[iV r.Key.Kind,iV r.Key.N,.string r.Key.S,iV r.Attrs,iV r.Value.Kind,iV r.Value.N,.string r.Value.S,iV r.Get.Kind,iV r.Get.N,.string r.Get.S,iV r.Set.Kind,iV r.Set.N,.string r.Set.S]∧post=[])) v post→ ∀c∈post,bS c:=by
 rintro _ _ ⟨rfl,rfl⟩;exact ac
def kS (N:Nat)(a0:Cl)(a1:Int):Option Bool:=
 (bif decide (a1<(a0.More.length:Int)) then ((ck a0.More a1).bind fun x5=>some (!decide (x5=(⟨8,0,(⟨#[]⟩:ByteArray)⟩:Cp)))) else (some false)).bind fun b4=>some b4
theorem mV {N:Nat}{a0:Cl}{a1:Int}{r:Bool}(h:kS N a0 a1=some r):Okc Tryz.prog 100 [.agg #[iV a0.Kind,iV a0.Shape,iV a0.Flags,iV a0.Age,I A1 n1 c1,I A2 n2 c2],iV a1] ([cn A1 n1 c1 a0.Slots,cn A2 n2 c2 a0.More,aR 0 30 [iV 8,iV 0,.string (⟨#[]⟩:ByteArray)]]) (fun u post=>u=.bool r∧post=[]):=by
 refine bj Tryz.func100 J J ?_;simp only [aS];refine U ?_;refine gD (aN J J) ?_;rintro _ _ ⟨B3,rfl,rfl⟩;refine U ?_;refine aw ?_;refine bn O _ (am _) ?_;refine zE 0 J (av J) ?_;refine zE 1 J (bE J jV) ?_;refine zR 2 J (aM 0 J J d4 J) ?_;refine zR 3 J (br 2 J aI J hH) ?_;refine zE 4 J (uV J J) ?_;refine zE 5 J (av J) ?_;obtain ⟨b4,hb4,h⟩:=aa h;refine iS (fun l=>((((((((l.setIfInBounds 6 true).setIfInBounds 7 true).setIfInBounds 8 true).setIfInBounds 9 true).setIfInBounds 10 true).setIfInBounds 11 true).setIfInBounds 12 true).setIfInBounds 13 true)) 1 18 b4 (fun rest=> ?_) ?_
 ·clear h;refine ky 10 J (fun g4=> ?_) (fun g4=> ?_)
  ·have h:=ad g4 hb4;refine fA 6 J O (bE J jV) (aZ g4 J) J ?_;refine ie 7 J O (aM 0 J J d4 J) (aZ g4 J) J ?_;refine fA 8 J O (av J) (aZ g4 J) J ?_;obtain ⟨x5,hx5,h⟩:=aa h;obtain ⟨lx5,ux5,hx5⟩:=aG hx5;refine ie 9 J O (bf 2 J aI J J hH aT lx5 ux5) (aZ g4 J) J ?_;refine ie 10 J O (bi (us:=[iV x5.Kind,iV x5.N,.string x5.S]) 2 J aI J hx5 aH (fun _ _ _ h=>by rw [show _=_ from h];rfl)) (aZ g4 J) J ?_;refine ie 11 J O (gG (us:=[iV 8,iV 0,.string (⟨#[]⟩:ByteArray)]) 3 J J aH J) (aZ g4 J) J ?_;refine fA 12 J O (r5 (x:=x5) (y:=(⟨8,0,(⟨#[]⟩:ByteArray)⟩:Cp)) J J) (aZ g4 J) J ?_;refine zE 13 J (eH g4 J J) ?_;obtain rfl:=al h;exact fx rest (dr J (ay (ay (ay (ay (ay (ay (ay (ay bX J) J) J) J) J) J) J) J)) (am _) (am _)
  have h:=ae g4 hb4;refine cx 6 J O (fW g4 J) J ?_;refine cx 7 J O (fW g4 J) J ?_;refine cx 8 J O (fW g4 J) J ?_;refine cx 9 J O (fW g4 J) J ?_;refine cx 10 J O (fW g4 J) J ?_;refine cx 11 J O (fW g4 J) J ?_;refine cx 12 J O (fW g4 J) J ?_;refine zE 13 J (eI g4 J J) ?_;obtain rfl:=al h;exact fx rest (dr J (ay (ay (ay (ay (ay (ay (ay (ay bX J) J) J) J) J) J) J) J)) (am _) (am _)
 refine zE 14 J (aQ J) ?_;refine bc O ?_;refine U ?_;obtain rfl:=al h;exact aJ J J (cS [] 4) ⟨J,J⟩
theorem ln {r:Bool}: ∀v post,((fun (u:Value) (post:List Chunk)=>u=.bool r∧post=[])) v post→ ∀c∈post,bS c:=by
 rintro _ _ ⟨rfl,rfl⟩;exact ac
def jl (N:Nat):Option (Int×Int×Bool):=
 some (0,0,false)
def fj (N:Nat)(a0:Cz)(a2:CC):Nat→Int→Int→Int→ByteArray→Int→Int→Option (Int×Int×Bool)
 |0,_,_,_,_,_,_=>none
 |m10+1,p12,p13,p14,p15,p16,p17=>bif decide (0<p17) then (bif decide ((⟨p13,p14,p15⟩:CC)=a2) then (dD (cc (p17 - 1)) (some (p17 - 1,p16,true))) else ((ck a0.shapes_ p12).bind fun x22=>(fj N a0 a2 m10) x22.Up x22.Key.Kind x22.Key.N x22.Key.S x22.Attrs x22.Len)) else (jl N)
def dJ (N:Nat)(a0:Cz)(a1:Int)(a2:CC):Option (Int×Int×Bool):=
 (eW N a0 a1).bind fun y5=>bif !y5 then (some (0,0,false)) else ((ck a0.shapes_ a1).bind fun x8=>fj N a0 a2 N x8.Up x8.Key.Kind x8.Key.N x8.Key.S x8.Attrs x8.Len)
theorem d8 {N:Nat}{a0:Cz}{a1:Int}{a2:CC}{r:(Int×Int×Bool)}(h:dJ N a0 a1 a2=some r):Okc Tryz.prog 164 [pV B1 0,iV a1,.agg #[iV a2.Kind,iV a2.N,.string a2.S]] ([aR B1 205 [I A2 n2 c2,.map (some M3)],oJ A2 n2 c2 a0.shapes_,d5 aD cu M3 a0.next_]) (fun u post=>u=.tuple #[iV r.1,iV r.2.1,.bool r.2.2]∧post=[]):=by
 refine bj Tryz.func164 J J ?_;simp only [aS];refine U ?_;refine gD (aN J J) ?_;rintro _ _ ⟨B4,rfl,rfl⟩;refine U ?_;refine aw ?_;refine U ?_;obtain ⟨y5,hy5,h⟩:=aa h;refine gD (ak (gi hy5) sP J (hE (ag (i:=1) J J) (hE (ag (i:=2) J J) (hE (ag (i:=3) J J) ac))) fe) ?_;rintro _ _ ⟨_,⟨rfl,rfl⟩,rfl⟩;refine U ?_;refine aq J (fun g6=> ?_) (fun g6=> ?_)
 ·replace h:=ad g6 h;refine U ?_;obtain rfl:=al h;exact uZ J J J J (cS [] 4) ⟨J,J⟩
 replace h:=ae g6 h;refine U ?_;refine aY (fun s L=>jl N=some r∧s=[(6,iV 0),(7,iV 0),(8,.bool false)]∧L=[]) ?_ ?_
 ·refine U ?_;refine gR (bN 1 J J jS J) ?_;refine U ?_;obtain ⟨x8,hx8,h⟩:=aa h;obtain ⟨lx8,ux8,hx8⟩:=aG hx8;refine gR (bf 2 J aI J J Cg cp lx8 ux8) ?_;refine gR (bi (us:=[iV x8.Up,iV x8.Key.Kind,iV x8.Key.N,.string x8.Key.S,iV x8.Attrs,iV x8.Len]) 2 J aI J hx8 kU (fun _ _ _ h=>by rw [show _=_ from h];rfl)) ?_;refine gD (aF lw J) ?_;rintro _ _ ⟨B9,rfl,rfl⟩;refine gO (ao (us:=[iV x8.Up,iV x8.Key.Kind,iV x8.Key.N,.string x8.Key.S,iV x8.Attrs,iV x8.Len]) (cs':=[iV x8.Up,iV x8.Key.Kind,iV x8.Key.N,.string x8.Key.S,iV x8.Attrs,iV x8.Len]) 0 J J J J cp J J J) ?_;rintro _ _ rfl;refine U ?_;refine ci (fun m s L=> ∃p12 p13 p14 p15 p16 p17 B11,fj N a0 a2 m p12 p13 p14 p15 p16 p17=some r∧s=[(0,pV B1 0),(5,pV B4 0),(6,iV 0),(7,iV 0),(8,.bool false),(9,pV B11 0)]∧L=[aj B11 201 [iV p12,iV p13,iV p14,.string p15,iV p16,iV p17],oJ A2 n2 c2 a0.shapes_,d5 aD cu M3 a0.next_,aR B1 205 [I A2 n2 c2,.map (some M3)],aj B4 24 [iV a2.Kind,iV a2.N,.string a2.S]]) N _ _ ⟨x8.Up,x8.Key.Kind,x8.Key.N,x8.Key.S,x8.Attrs,x8.Len,B9,h,J,J⟩ sA (cS [0,3,4,2,1] 5) ?_;rintro (_|m10) _ _ ⟨p12,p13,p14,p15,p16,p17,B11,h,rfl,rfl⟩
  ·exact bd h
  rw [fj.eq_2] at h;refine aw ?_;refine U ?_;refine aq J (fun g18=> ?_) (fun g18=> ?_)
  ·replace h:=ad g18 h;refine U ?_;refine aw ?_;refine U ?_;refine gR (ai (us:=[iV p13,iV p14,.string p15]) 0 J J bH J) ?_;refine gR (ai (us:=[iV a2.Kind,iV a2.N,.string a2.S]) 4 J J bH J) ?_;refine gE (rb (x:=(⟨p13,p14,p15⟩:CC)) (y:=a2) J J) ?_;refine U ?_;refine aq J (fun g19=> ?_) (fun g19=> ?_)
   ·replace h:=ad g19 h;refine aw ?_;refine bn O _ (am _) ?_;refine zE 0 J (bE J oM) ?_;refine zR 1 J (aM 0 J J co J) ?_;obtain ⟨q20,h⟩:=aB h;refine zE 2 J (gQ J J q20.1 q20.2) ?_;refine zE 3 J (bE J lh) ?_;refine zR 4 J (aM 0 J J co J) ?_;refine zE 5 J (aQ J) ?_;refine zE 6 J (aQ J) ?_;refine zE 7 J (aQ J) ?_;refine bc O ?_;refine U ?_;obtain rfl:=al h;exact uZ J J J J (cS [] 5) ⟨J,J⟩
   replace h:=ae g19 h;refine U ?_;refine aw ?_;refine U ?_;refine gR (ai (us:=[iV p12,iV p13,iV p14,.string p15,iV p16,iV p17]) 0 J J kU J) ?_;refine U ?_;refine gD (aF lw J) ?_;rintro _ _ ⟨B21,rfl,rfl⟩;refine gO (ao (us:=[iV p12,iV p13,iV p14,.string p15,iV p16,iV p17]) (cs':=[iV p12,iV p13,iV p14,.string p15,iV p16,iV p17]) 0 J J J J cp J J J) ?_;rintro _ _ rfl;refine U ?_;refine bn O _ (am _) ?_;refine zE 0 J (av J) ?_;refine zE 1 J (aP J) ?_;refine zE 2 J (cD J lg) ?_;refine zR 3 J (bN 4 J J jS J) ?_;refine zE 4 J (cD J oO) ?_;refine zR 5 J (aM 0 J J co J) ?_;obtain ⟨x22,hx22,h⟩:=aa h;obtain ⟨lx22,ux22,hx22⟩:=aG hx22;refine zR 6 J (bf 2 J aI J J Cg cp lx22 ux22) ?_;refine zR 7 J (bi (us:=[iV x22.Up,iV x22.Key.Kind,iV x22.Key.N,.string x22.Key.S,iV x22.Attrs,iV x22.Len]) 2 J aI J hx22 kU (fun _ _ _ h=>by rw [show _=_ from h];rfl)) ?_;refine kz 8 J O O (ao (us:=[iV x22.Up,iV x22.Key.Kind,iV x22.Key.N,.string x22.Key.S,iV x22.Attrs,iV x22.Len]) (cs':=[iV x22.Up,iV x22.Key.Kind,iV x22.Key.N,.string x22.Key.S,iV x22.Attrs,iV x22.Len]) 0 J J J J cp J J J) ?_;rintro _ _ rfl;refine bc O ?_;refine dz ?_;exact ⟨m10,_,_,CG _,⟨x22.Up,x22.Key.Kind,x22.Key.N,x22.Key.S,x22.Attrs,x22.Len,B21,h,J,J⟩,sA,cS [0,2,3,4,5] 6⟩
  replace h:=ae g18 h;refine U ?_;exact ⟨_,_,⟨h,J,J⟩,sA,cS [] 5⟩
 rintro _ _ ⟨h,rfl,rfl⟩;refine U ?_;obtain rfl:=al h;exact uZ J J J J (cS [] 0) ⟨J,J⟩
theorem dP {r:(Int×Int×Bool)}: ∀v post,((fun (u:Value) (post:List Chunk)=>u=.tuple #[iV r.1,iV r.2.1,.bool r.2.2]∧post=[])) v post→ ∀c∈post,bS c:=by
 rintro _ _ ⟨rfl,rfl⟩;exact ac
def dL (N:Nat)(a0:Cn)(a1:CC):Option (Cr×Int×Bool):=
 (cN N a0.w_).bind fun y20=>(dJ N a0.w_.shapes_ a0.Cell.Shape a1).bind fun y21=>bif !y21.2.2 then (some ((⟨(⟨0,0,⟨#[]⟩⟩:CC),0,(⟨0,0,⟨#[]⟩⟩:Cp),(⟨0,0,⟨#[]⟩⟩:Cp),(⟨0,0,⟨#[]⟩⟩:Cp)⟩:Cr),0,false)) else ((fL N a0 y21.1 a1 y21.2.1).bind fun y23=>some (y23,y21.1,true))
theorem ea {N:Nat}{a0:Cn}{a1:CC}{r:(Cr×Int×Bool)}(h:dL N a0 a1=some r):Okc Tryz.prog 117 [pV B1 0,.agg #[iV a1.Kind,iV a1.N,.string a1.S]] ([aR B1 140 [iV a0.Cell.Kind,iV a0.Cell.Shape,iV a0.Cell.Flags,iV a0.Cell.Age,I A2 n2 c2,I A3 n3 c3,pV B4 0,iV a0.at_.Kind,iV a0.at_.N,.string a0.at_.S],cn A2 n2 c2 a0.Cell.Slots,cn A3 n3 c3 a0.Cell.More,aR B4 151 [iV a0.w_.spent_.steps_,iV a0.w_.spent_.made_,iV a0.w_.spent_.calls_,iV a0.w_.config_.Way,iV a0.w_.config_.Steps,iV a0.w_.config_.Calls,iV a0.w_.config_.Made,iV a0.w_.config_.Young,iV a0.w_.config_.Full,iV a0.w_.config_.Sites,.nilIface,pV B5 0,pV B12 0,I A15 n15 c15,iV a0.w_.epoch_,iV a0.w_.serial_,iV a0.w_.sleepers_,I A16 n16 c16,I A17 n17 c17],aR B5 199 [I A6 n6 c6,I A7 n7 c7,I A8 n8 c8,I A9 n9 c9,pV B10 0],lv A6 n6 c6 a0.w_.heap_.m_.Young,lv A7 n7 c7 a0.w_.heap_.m_.Old,cn A8 n8 c8 a0.w_.heap_.roots_,cn A9 n9 c9 a0.w_.heap_.pending_,aR B10 247 [.map (some M11)],d5 cv cy M11 a0.w_.heap_.set_.at_,aR B12 205 [I A13 n13 c13,.map (some M14)],oJ A13 n13 c13 a0.w_.shapes_.shapes_,d5 aD cu M14 a0.w_.shapes_.next_,be A15 n15 c15 a0.w_.symbols_,ct A16 n16 c16 a0.w_.events_,be A17 n17 c17 a0.w_.out_]) (fun u post=>u=.tuple #[.agg #[iV r.1.Key.Kind,iV r.1.Key.N,.string r.1.Key.S,iV r.1.Attrs,iV r.1.Value.Kind,iV r.1.Value.N,.string r.1.Value.S,iV r.1.Get.Kind,iV r.1.Get.N,.string r.1.Get.S,iV r.1.Set.Kind,iV r.1.Set.N,.string r.1.Set.S],iV r.2.1,.bool r.2.2]∧post=[]):=by
 refine bj Tryz.func117 J J ?_;simp only [aS];refine U ?_;refine gD (aN J J) ?_;rintro _ _ ⟨B18,rfl,rfl⟩;refine gD (aF dy J) ?_;rintro _ _ ⟨B19,rfl,rfl⟩;refine U ?_;refine aw ?_;refine bn O _ (am _) ?_;refine zE 0 J (av J) ?_;refine zE 1 J (aP J) ?_;refine zE 2 J (bE J jU) ?_;refine zR 3 J (bN 2 J J pG J) ?_;refine zE 5 J (av J) ?_;refine zE 6 J (aP J) ?_;refine zE 7 J (cD J dM) ?_;refine zE 8 J (bE J jW) ?_;refine zR 9 J (bN 2 J J co J) ?_;refine zR 10 J (ai (us:=[iV a1.Kind,iV a1.N,.string a1.S]) 1 J J bH J) ?_;obtain ⟨y20,hy20,h⟩:=aa h;refine zD 4 J (ak (df hy20) oX J (hE (ag (i:=5) J J) (hE (ag (i:=6) J J) (hE (ag (i:=7) J J) (hE (ag (i:=8) J J) (hE (ag (i:=9) J J) (hE (ag (i:=10) J J) (hE (ag (i:=11) J J) (hE (ag (i:=12) J J) (hE (ag (i:=13) J J) (hE (ag (i:=14) J J) (hE (ag (i:=15) J J) (hE (ag (i:=16) J J) (hE (ag (i:=17) J J) (hE (ag (i:=18) J J) ac)))))))))))))) cM) ?_;rintro _ _ ⟨_,⟨rfl,rfl⟩,rfl⟩;refine ⟨_,am _,am _,?_⟩;obtain ⟨y21,hy21,h⟩:=aa h;refine zD 11 J (ak (d8 hy21) qr J (hE (ag (i:=13) J J) (hE (ag (i:=14) J J) (hE (ag (i:=15) J J) ac))) dP) ?_;rintro _ _ ⟨_,⟨rfl,rfl⟩,rfl⟩;refine ⟨_,am _,am _,?_⟩;refine zE 12 J (av J) ?_;refine zE 13 J (aO J J) ?_;refine zE 14 J (aO J J) ?_
 refine zE 15 J (aO J J) ?_;refine zE 16 J (aQ J) ?_;refine zE 17 J (aQ J) ?_;refine zE 18 J (aQ J) ?_;refine bc O ?_;refine dz ?_;refine aw ?_;refine U ?_;refine aq J (fun g22=> ?_) (fun g22=> ?_)
 ·replace h:=ad g22 h;refine U ?_;refine gE (aW J (lO)) ?_;refine gO (ao (us:=[iV 0,iV 0,.string (⟨#[]⟩),iV 0,iV 0,iV 0,.string (⟨#[]⟩),iV 0,iV 0,.string (⟨#[]⟩),iV 0,iV 0,.string (⟨#[]⟩)]) (cs':=[iV 0,iV 0,.string (⟨#[]⟩),iV 0,iV 0,iV 0,.string (⟨#[]⟩),iV 0,iV 0,.string (⟨#[]⟩),iV 0,iV 0,.string (⟨#[]⟩)]) 0 J J J J cj J J J) ?_;rintro _ _ rfl;refine U ?_;obtain rfl:=al h;exact bR (rs:=[.cell 4 42,.tmp 5,.tmp 6]) (vs:=[.agg #[iV 0,iV 0,.string (⟨#[]⟩),iV 0,iV 0,iV 0,.string (⟨#[]⟩),iV 0,iV 0,.string (⟨#[]⟩),iV 0,iV 0,.string (⟨#[]⟩)],iV 0,.bool false]) J (.cons (bg 0 J J da) (.cons (cJ J) (.cons (cJ J) .nil))) J (cS [] 19) ⟨J,J⟩
 replace h:=ae g22 h;refine U ?_;refine gR (ai (us:=[iV a1.Kind,iV a1.N,.string a1.S]) 1 J J bH J) ?_;refine U ?_;obtain ⟨y23,hy23,h⟩:=aa h;refine gD (ak (iM hy23) vC J (hE (ag (i:=2) J J) (hE (ag (i:=3) J J) (hE (ag (i:=4) J J) (hE (ag (i:=5) J J) (hE (ag (i:=6) J J) (hE (ag (i:=7) J J) (hE (ag (i:=8) J J) (hE (ag (i:=9) J J) (hE (ag (i:=10) J J) (hE (ag (i:=11) J J) (hE (ag (i:=12) J J) (hE (ag (i:=13) J J) (hE (ag (i:=14) J J) (hE (ag (i:=15) J J) (hE (ag (i:=16) J J) (hE (ag (i:=17) J J) (hE (ag (i:=18) J J) ac))))))))))))))))) gI) ?_;rintro _ _ ⟨_,⟨rfl,rfl⟩,rfl⟩;refine U ?_;refine gO (ao (us:=[iV y23.Key.Kind,iV y23.Key.N,.string y23.Key.S,iV y23.Attrs,iV y23.Value.Kind,iV y23.Value.N,.string y23.Value.S,iV y23.Get.Kind,iV y23.Get.N,.string y23.Get.S,iV y23.Set.Kind,iV y23.Set.N,.string y23.Set.S]) (cs':=[iV y23.Key.Kind,iV y23.Key.N,.string y23.Key.S,iV y23.Attrs,iV y23.Value.Kind,iV y23.Value.N,.string y23.Value.S,iV y23.Get.Kind,iV y23.Get.N,.string y23.Get.S,iV y23.Set.Kind,iV y23.Set.N,.string y23.Set.S]) 0 J J J J cj J J J) ?_;rintro _ _ rfl;refine U ?_;obtain rfl:=al h
 exact bR (rs:=[.cell 4 42,.tmp 5,.tmp 6]) (vs:=[.agg #[iV y23.Key.Kind,iV y23.Key.N,.string y23.Key.S,iV y23.Attrs,iV y23.Value.Kind,iV y23.Value.N,.string y23.Value.S,iV y23.Get.Kind,iV y23.Get.N,.string y23.Get.S,iV y23.Set.Kind,iV y23.Set.N,.string y23.Set.S],iV y21.1,.bool true]) J (.cons (bg 0 J J da) (.cons (cJ J) (.cons (cJ J) .nil))) J (cS [] 19) ⟨J,J⟩
theorem dR {r:(Cr×Int×Bool)}: ∀v post,((fun (u:Value) (post:List Chunk)=>u=.tuple #[.agg #[iV r.1.Key.Kind,iV r.1.Key.N,.string r.1.Key.S,iV r.1.Attrs,iV r.1.Value.Kind,iV r.1.Value.N,.string r.1.Value.S,iV r.1.Get.Kind,iV r.1.Get.N,.string r.1.Get.S,iV r.1.Set.Kind,iV r.1.Set.N,.string r.1.Set.S],iV r.2.1,.bool r.2.2]∧post=[])) v post→ ∀c∈post,bS c:=by
 rintro _ _ ⟨rfl,rfl⟩;exact ac
def lD (N:Nat)(a0:Cw)(a1:Cp)(a2:CC):Option (Cr×Bool):=
 (eO N a0 a1).bind fun y18=>vP y18 (fun y18_0=>some ((⟨(⟨0,0,⟨#[]⟩⟩:CC),0,(⟨0,0,⟨#[]⟩⟩:Cp),(⟨0,0,⟨#[]⟩⟩:Cp),(⟨0,0,⟨#[]⟩⟩:Cp)⟩:Cr),false)) (fun y18_1=>(dL N (⟨y18_1.Cell,a0,y18_1.at_⟩:Cn) a2).bind fun y36=>some (y36.1,y36.2.2))
theorem nQ {N:Nat}{a0:Cw}{a1:Cp}{a2:CC}{r:(Cr×Bool)}(h:lD N a0 a1 a2=some r):Okc Tryz.prog 40 [pV B1 0,.agg #[iV a1.Kind,iV a1.N,.string a1.S],.agg #[iV a2.Kind,iV a2.N,.string a2.S]] ([be A12 n12 c12 a0.symbols_,ct A13 n13 c13 a0.events_,be A14 n14 c14 a0.out_,aj B1 151 [iV a0.spent_.steps_,iV a0.spent_.made_,iV a0.spent_.calls_,iV a0.config_.Way,iV a0.config_.Steps,iV a0.config_.Calls,iV a0.config_.Made,iV a0.config_.Young,iV a0.config_.Full,iV a0.config_.Sites,.nilIface,pV B2 0,pV B9 0,I A12 n12 c12,iV a0.epoch_,iV a0.serial_,iV a0.sleepers_,I A13 n13 c13,I A14 n14 c14],aj B2 199 [I A3 n3 c3,I A4 n4 c4,I A5 n5 c5,I A6 n6 c6,pV B7 0],bu A3 n3 c3 a0.heap_.m_.Young,bu A4 n4 c4 a0.heap_.m_.Old,aU A5 n5 c5 a0.heap_.roots_,aU A6 n6 c6 a0.heap_.pending_,aj B7 247 [.map (some M8)],aL cv cy M8 a0.heap_.set_.at_,aj B9 205 [I A10 n10 c10,.map (some M11)],cR A10 n10 c10 a0.shapes_.shapes_,aL aD cu M11 a0.shapes_.next_]) (fun u post=>u=.tuple #[.agg #[iV r.1.Key.Kind,iV r.1.Key.N,.string r.1.Key.S,iV r.1.Attrs,iV r.1.Value.Kind,iV r.1.Value.N,.string r.1.Value.S,iV r.1.Get.Kind,iV r.1.Get.N,.string r.1.Get.S,iV r.1.Set.Kind,iV r.1.Set.N,.string r.1.Set.S],.bool r.2]∧post=[aj B1 151 [iV a0.spent_.steps_,iV a0.spent_.made_,iV a0.spent_.calls_,iV a0.config_.Way,iV a0.config_.Steps,iV a0.config_.Calls,iV a0.config_.Made,iV a0.config_.Young,iV a0.config_.Full,iV a0.config_.Sites,.nilIface,pV B2 0,pV B9 0,I A12 n12 c12,iV a0.epoch_,iV a0.serial_,iV a0.sleepers_,I A13 n13 c13,I A14 n14 c14],aj B2 199 [I A3 n3 c3,I A4 n4 c4,I A5 n5 c5,I A6 n6 c6,pV B7 0],bu A3 n3 c3 a0.heap_.m_.Young,bu A4 n4 c4 a0.heap_.m_.Old,aU A5 n5 c5 a0.heap_.roots_,aU A6 n6 c6 a0.heap_.pending_,aj B7 247 [.map (some M8)],aL cv cy M8 a0.heap_.set_.at_,aj B9 205 [I A10 n10 c10,.map (some M11)],cR A10 n10 c10 a0.shapes_.shapes_,aL aD cu M11 a0.shapes_.next_]):=by
 refine bj Tryz.func40 J J ?_;simp only [aS];refine U ?_;refine gD (aN J J) ?_;rintro _ _ ⟨B15,rfl,rfl⟩;refine gD (aN J J) ?_;rintro _ _ ⟨B16,rfl,rfl⟩;refine gD (aF dy J) ?_;rintro _ _ ⟨B17,rfl,rfl⟩;refine U ?_;refine gR (ai (us:=[iV a1.Kind,iV a1.N,.string a1.S]) 2 J J aH J) ?_;obtain ⟨y18,hy18,h⟩:=aa h;rcases y18 with y18_0|y18_1
 ·replace h:=uH h;refine gD (aE (cI hy18) kR J (aC [3,4,5] [6,7,8,9,10,11,12,13,14,15,16] [0,1,2,3,4,5] 17 J)) ?_;rintro _ _ ⟨_,⟨rfl,rfl⟩,rfl⟩;refine U ?_;refine aw ?_;refine U ?_;refine f3 J ?_;refine U ?_;refine gE (aW J (lO)) ?_;refine gO (ao (us:=[iV 0,iV 0,.string (⟨#[]⟩),iV 0,iV 0,iV 0,.string (⟨#[]⟩),iV 0,iV 0,.string (⟨#[]⟩),iV 0,iV 0,.string (⟨#[]⟩)]) (cs':=[iV 0,iV 0,.string (⟨#[]⟩),iV 0,iV 0,iV 0,.string (⟨#[]⟩),iV 0,iV 0,.string (⟨#[]⟩),iV 0,iV 0,.string (⟨#[]⟩)]) 11 J J J J cj J J J) ?_;rintro _ _ rfl;refine U ?_;obtain rfl:=al h;exact bR (rs:=[.cell 6 42,.tmp 7]) (vs:=[.agg #[iV 0,iV 0,.string (⟨#[]⟩),iV 0,iV 0,iV 0,.string (⟨#[]⟩),iV 0,iV 0,.string (⟨#[]⟩),iV 0,iV 0,.string (⟨#[]⟩)],.bool false]) J (.cons (bg 11 J J da) (.cons (cJ J) .nil)) J (cS [0,1,2,3,4,5,6,7,8,9,10] 17) ⟨J,J⟩
 replace h:=uG h;refine gD (aE (cI hy18) kR J (aC [3,4,5] [6,7,8,9,10,11,12,13,14,15,16] [0,1,2,3,4,5] 17 J)) ?_;rintro _ _ ⟨_,⟨B19,A20,n20,c20,A21,n21,c21,rfl,rfl⟩,rfl⟩;refine bG ?_;refine U ?_;refine aw ?_;refine U ?_;refine f5 J ?_;refine U ?_;refine gR (ai (us:=[iV a2.Kind,iV a2.N,.string a2.S]) 15 J J bH J) ?_;obtain ⟨y36,hy36,h⟩:=aa h;refine gD (ak (ea hy36) qu J (hE (ap (i:=0) J) (hE (ah (i:=1) J) (hE (ah (i:=2) J) (hE (ap (i:=3) J) (hE (ap (i:=4) J) (hE (ah (i:=5) J) (hE (ah (i:=6) J) (hE (ah (i:=7) J) (hE (ah (i:=8) J) (hE (ap (i:=9) J) (hE (aK (i:=10) J) (hE (ap (i:=11) J) (hE (ah (i:=12) J) (hE (aK (i:=13) J) (hE (ag (i:=17) J J) (hE (ag (i:=18) J J) (hE (ag (i:=19) J J) ac))))))))))))))))) dR) ?_;rintro _ _ ⟨_,⟨rfl,rfl⟩,rfl⟩;refine U ?_;refine gD (aF dy J) ?_;rintro _ _ ⟨B37,rfl,rfl⟩
 refine gO (ao (us:=[iV y36.1.Key.Kind,iV y36.1.Key.N,.string y36.1.Key.S,iV y36.1.Attrs,iV y36.1.Value.Kind,iV y36.1.Value.N,.string y36.1.Value.S,iV y36.1.Get.Kind,iV y36.1.Get.N,.string y36.1.Get.S,iV y36.1.Set.Kind,iV y36.1.Set.N,.string y36.1.Set.S]) (cs':=[iV y36.1.Key.Kind,iV y36.1.Key.N,.string y36.1.Key.S,iV y36.1.Attrs,iV y36.1.Value.Kind,iV y36.1.Value.N,.string y36.1.Value.S,iV y36.1.Get.Kind,iV y36.1.Get.N,.string y36.1.Get.S,iV y36.1.Set.Kind,iV y36.1.Set.N,.string y36.1.Set.S]) 0 J J J J cj J J J) ?_;rintro _ _ rfl;refine U ?_;refine gR (ai (us:=[iV y36.1.Key.Kind,iV y36.1.Key.N,.string y36.1.Key.S,iV y36.1.Attrs,iV y36.1.Value.Kind,iV y36.1.Value.N,.string y36.1.Value.S,iV y36.1.Get.Kind,iV y36.1.Get.N,.string y36.1.Get.S,iV y36.1.Set.Kind,iV y36.1.Set.N,.string y36.1.Set.S]) 0 J J da J) ?_;refine U ?_;refine gO (ao (us:=[iV y36.1.Key.Kind,iV y36.1.Key.N,.string y36.1.Key.S,iV y36.1.Attrs,iV y36.1.Value.Kind,iV y36.1.Value.N,.string y36.1.Value.S,iV y36.1.Get.Kind,iV y36.1.Get.N,.string y36.1.Get.S,iV y36.1.Set.Kind,iV y36.1.Set.N,.string y36.1.Set.S]) (cs':=[iV y36.1.Key.Kind,iV y36.1.Key.N,.string y36.1.Key.S,iV y36.1.Attrs,iV y36.1.Value.Kind,iV y36.1.Value.N,.string y36.1.Value.S,iV y36.1.Get.Kind,iV y36.1.Get.N,.string y36.1.Get.S,iV y36.1.Set.Kind,iV y36.1.Set.N,.string y36.1.Set.S]) 15 J J J J cj J J J) ?_;rintro _ _ rfl;refine U ?_;obtain rfl:=al h
 exact bR (rs:=[.cell 6 42,.tmp 7]) (vs:=[.agg #[iV y36.1.Key.Kind,iV y36.1.Key.N,.string y36.1.Key.S,iV y36.1.Attrs,iV y36.1.Value.Kind,iV y36.1.Value.N,.string y36.1.Value.S,iV y36.1.Get.Kind,iV y36.1.Get.N,.string y36.1.Get.S,iV y36.1.Set.Kind,iV y36.1.Set.N,.string y36.1.Set.S],.bool y36.2.2]) J (.cons (bg 15 J J da) (.cons (cJ J) .nil)) J (cS [4,5,6,7,8,9,10,11,12,13,14] 21) ⟨J,J⟩
def iQ (N:Nat)(a0:Cw)(a1:Cp)(a2:CC):Option (Cr×Bool):=
 (bM N a0 a1).bind fun y18=>bif !y18.2 then (some ((⟨(⟨0,0,⟨#[]⟩⟩:CC),0,(⟨0,0,⟨#[]⟩⟩:Cp),(⟨0,0,⟨#[]⟩⟩:Cp),(⟨0,0,⟨#[]⟩⟩:Cp)⟩:Cr),false)) else ((dx N).bind fun y23=>bif decide (a2=y23) then ((ka N y18.1).bind fun y25=>some (y25,true)) else ((bif decide (a2.Kind=0) then ((fs N a2).bind fun y27=>some y27) else (some false)).bind fun b26=>(bif b26 then ((kS N y18.1 a2.N).bind fun y29=>some y29) else (some false)).bind fun b28=>bif b28 then ((ck y18.1.More a2.N).bind fun x31=>some ((⟨a2,7,x31,(⟨0,0,⟨#[]⟩⟩:Cp),(⟨0,0,⟨#[]⟩⟩:Cp)⟩:Cr),true)) else ((lD N a0 a1 a2).bind fun y32=>some (y32.1,y32.2))))
theorem lR {N:Nat}{a0:Cw}{a1:Cp}{a2:CC}{r:(Cr×Bool)}(h:iQ N a0 a1 a2=some r):Okc Tryz.prog 25 [pV B1 0,.agg #[iV a1.Kind,iV a1.N,.string a1.S],.agg #[iV a2.Kind,iV a2.N,.string a2.S]] ([be A12 n12 c12 a0.symbols_,ct A13 n13 c13 a0.events_,be A14 n14 c14 a0.out_,aR 0 30 [iV 8,iV 0,.string (⟨#[]⟩:ByteArray)],aj B1 151 [iV a0.spent_.steps_,iV a0.spent_.made_,iV a0.spent_.calls_,iV a0.config_.Way,iV a0.config_.Steps,iV a0.config_.Calls,iV a0.config_.Made,iV a0.config_.Young,iV a0.config_.Full,iV a0.config_.Sites,.nilIface,pV B2 0,pV B9 0,I A12 n12 c12,iV a0.epoch_,iV a0.serial_,iV a0.sleepers_,I A13 n13 c13,I A14 n14 c14],aj B2 199 [I A3 n3 c3,I A4 n4 c4,I A5 n5 c5,I A6 n6 c6,pV B7 0],bu A3 n3 c3 a0.heap_.m_.Young,bu A4 n4 c4 a0.heap_.m_.Old,aU A5 n5 c5 a0.heap_.roots_,aU A6 n6 c6 a0.heap_.pending_,aj B7 247 [.map (some M8)],aL cv cy M8 a0.heap_.set_.at_,aj B9 205 [I A10 n10 c10,.map (some M11)],cR A10 n10 c10 a0.shapes_.shapes_,aL aD cu M11 a0.shapes_.next_]) (fun u post=>u=.tuple #[.agg #[iV r.1.Key.Kind,iV r.1.Key.N,.string r.1.Key.S,iV r.1.Attrs,iV r.1.Value.Kind,iV r.1.Value.N,.string r.1.Value.S,iV r.1.Get.Kind,iV r.1.Get.N,.string r.1.Get.S,iV r.1.Set.Kind,iV r.1.Set.N,.string r.1.Set.S],.bool r.2]∧post=[aj B1 151 [iV a0.spent_.steps_,iV a0.spent_.made_,iV a0.spent_.calls_,iV a0.config_.Way,iV a0.config_.Steps,iV a0.config_.Calls,iV a0.config_.Made,iV a0.config_.Young,iV a0.config_.Full,iV a0.config_.Sites,.nilIface,pV B2 0,pV B9 0,I A12 n12 c12,iV a0.epoch_,iV a0.serial_,iV a0.sleepers_,I A13 n13 c13,I A14 n14 c14],aj B2 199 [I A3 n3 c3,I A4 n4 c4,I A5 n5 c5,I A6 n6 c6,pV B7 0],bu A3 n3 c3 a0.heap_.m_.Young,bu A4 n4 c4 a0.heap_.m_.Old,aU A5 n5 c5 a0.heap_.roots_,aU A6 n6 c6 a0.heap_.pending_,aj B7 247 [.map (some M8)],aL cv cy M8 a0.heap_.set_.at_,aj B9 205 [I A10 n10 c10,.map (some M11)],cR A10 n10 c10 a0.shapes_.shapes_,aL aD cu M11 a0.shapes_.next_]):=by
 refine bj Tryz.func25 J J ?_;simp only [aS];refine U ?_;refine gD (aN J J) ?_;rintro _ _ ⟨B15,rfl,rfl⟩;refine gD (aN J J) ?_;rintro _ _ ⟨B16,rfl,rfl⟩;refine gD (aF dy J) ?_;rintro _ _ ⟨B17,rfl,rfl⟩;refine U ?_;refine gR (ai (us:=[iV a1.Kind,iV a1.N,.string a1.S]) 2 J J aH J) ?_;obtain ⟨y18,hy18,h⟩:=aa h;refine gD (ak (cr hy18) jf J (hE (ap (i:=7) J) (hE (ap (i:=8) J) (hE (ah (i:=9) J) (hE (ah (i:=10) J) (hE (ah (i:=11) J) (hE (ah (i:=12) J) (hE (ap (i:=13) J) (hE (aK (i:=14) J) (hE (ap (i:=15) J) (hE (ah (i:=16) J) (hE (aK (i:=17) J) (hE (ag (i:=3) J J) (hE (ag (i:=4) J J) (hE (ag (i:=5) J J) ac)))))))))))))) bZ) ?_;rintro _ _ ⟨_,⟨A19,n19,c19,A20,n20,c20,rfl,rfl⟩,rfl⟩;refine U ?_;refine gD (aF dv J) ?_;rintro _ _ ⟨B21,rfl,rfl⟩;refine gO (ao (us:=[iV y18.1.Kind,iV y18.1.Shape,iV y18.1.Flags,iV y18.1.Age,I A19 n19 c19,I A20 n20 c20]) (cs':=[iV y18.1.Kind,iV y18.1.Shape,iV y18.1.Flags,iV y18.1.Age,I A19 n19 c19,I A20 n20 c20]) 0 J J J J bY J J J) ?_;rintro _ _ rfl;refine U ?_;refine aw ?_;refine U ?_;refine aq J (fun g22=> ?_) (fun g22=> ?_)
 ·replace h:=ad g22 h;refine U ?_;refine gE (aW J (lO)) ?_;refine gO (ao (us:=[iV 0,iV 0,.string (⟨#[]⟩),iV 0,iV 0,iV 0,.string (⟨#[]⟩),iV 0,iV 0,.string (⟨#[]⟩),iV 0,iV 0,.string (⟨#[]⟩)]) (cs':=[iV 0,iV 0,.string (⟨#[]⟩),iV 0,iV 0,iV 0,.string (⟨#[]⟩),iV 0,iV 0,.string (⟨#[]⟩),iV 0,iV 0,.string (⟨#[]⟩)]) 3 J J J J cj J J J) ?_;rintro _ _ rfl;refine U ?_;obtain rfl:=al h;exact bR (rs:=[.cell 6 42,.tmp 7]) (vs:=[.agg #[iV 0,iV 0,.string (⟨#[]⟩),iV 0,iV 0,iV 0,.string (⟨#[]⟩),iV 0,iV 0,.string (⟨#[]⟩),iV 0,iV 0,.string (⟨#[]⟩)],.bool false]) J (.cons (bg 3 J J da) (.cons (cJ J) .nil)) J (cS [10,11,12,13,14,15,16,17,18,19,20] 21) ⟨J,J⟩
 replace h:=ae g22 h;refine aw ?_;refine bn O _ (am _) ?_;refine zR 0 J (ai (us:=[iV a2.Kind,iV a2.N,.string a2.S]) 4 J J bH J) ?_;obtain ⟨y23,hy23,h⟩:=aa h;refine zD 1 J (ak (dO hy23) rk J (ac) du) ?_;rintro _ _ ⟨_,⟨rfl,rfl⟩,rfl⟩;refine ⟨_,am _,am _,?_⟩;refine zE 2 J (rb (x:=a2) (y:=y23) J J) ?_;refine zE 3 J (aQ J) ?_;refine bc O ?_;refine dz ?_;refine aq J (fun g24=> ?_) (fun g24=> ?_)
 ·replace h:=ad g24 h;refine U ?_;refine gR (ai (us:=[iV y18.1.Kind,iV y18.1.Shape,iV y18.1.Flags,iV y18.1.Age,I A19 n19 c19,I A20 n20 c20]) 0 J J bw J) ?_;obtain ⟨y25,hy25,h⟩:=aa h;refine gD (ak (mg hy25) xi J (hE (ah (i:=1) J) (hE (ah (i:=2) J) ac)) kw) ?_;rintro _ _ ⟨_,⟨rfl,rfl⟩,rfl⟩;refine gO (ao (us:=[iV y25.Key.Kind,iV y25.Key.N,.string y25.Key.S,iV y25.Attrs,iV y25.Value.Kind,iV y25.Value.N,.string y25.Value.S,iV y25.Get.Kind,iV y25.Get.N,.string y25.Get.S,iV y25.Set.Kind,iV y25.Set.N,.string y25.Set.S]) (cs':=[iV y25.Key.Kind,iV y25.Key.N,.string y25.Key.S,iV y25.Attrs,iV y25.Value.Kind,iV y25.Value.N,.string y25.Value.S,iV y25.Get.Kind,iV y25.Get.N,.string y25.Get.S,iV y25.Set.Kind,iV y25.Set.N,.string y25.Set.S]) 3 J J J J cj J J J) ?_;rintro _ _ rfl;refine bG ?_;refine U ?_;obtain rfl:=al h;exact bR (rs:=[.cell 6 42,.tmp 7]) (vs:=[.agg #[iV y25.Key.Kind,iV y25.Key.N,.string y25.Key.S,iV y25.Attrs,iV y25.Value.Kind,iV y25.Value.N,.string y25.Value.S,iV y25.Get.Kind,iV y25.Get.N,.string y25.Get.S,iV y25.Set.Kind,iV y25.Set.N,.string y25.Set.S],.bool true]) J (.cons (bg 3 J J da) (.cons (cJ J) .nil)) J (cS [10,11,12,13,14,15,16,17,18,19,20] 21) ⟨J,J⟩
 replace h:=ae g24 h;refine U ?_;obtain ⟨b26,hb26,h⟩:=aa h;refine aA 3 33 b26 ?_ ?_
 ·clear h;refine ax 30 J (fun g26=> ?_) (fun g26=> ?_)
  ·have h:=ad g26 hb26;refine bv (ai (us:=[iV a2.Kind,iV a2.N,.string a2.S]) 4 J J bH J) J (aZ g26 J) J ?_;obtain ⟨y27,hy27,h⟩:=aa h;refine bx (ak (fC hy27) pp J (ac) eg) J (aZ g26 J) J ?_;rintro _ _ ⟨_,⟨rfl,rfl⟩,rfl⟩;refine U ?_;obtain rfl:=al h;exact ab sA (cS [0,1,2,3,4,5,6,7,8,9,10,11,12,13,14,15,16,17,18,19,20] 21)
  have h:=ae g26 hb26;refine U ?_;obtain rfl:=al h;exact ab sA (cS [0,1,2,3,4,5,6,7,8,9,10,11,12,13,14,15,16,17,18,19,20] 21)
 refine U ?_;obtain ⟨b28,hb28,h⟩:=aa h;refine aA 5 39 b28 ?_ ?_
 ·clear h;refine ax 34 J (fun g28=> ?_) (fun g28=> ?_)
  ·have h:=ad g28 hb28;refine bv (ai (us:=[iV y18.1.Kind,iV y18.1.Shape,iV y18.1.Flags,iV y18.1.Age,I A19 n19 c19,I A20 n20 c20]) 0 J J bw J) J (aZ g28 J) J ?_;refine U ?_;obtain ⟨y29,hy29,h⟩:=aa h;refine bx (ak (mV hy29) vI J (hE (ah (i:=1) J) (hE (ah (i:=2) J) (hE (ag (i:=9) J J) ac))) ln) J (aZ g28 J) J ?_;rintro _ _ ⟨_,⟨rfl,rfl⟩,rfl⟩;refine U ?_;obtain rfl:=al h;exact ab sA (cS [0,1,2,3,4,5,6,7,8,9,10,11,12,13,14,15,16,17,18,19,20] 21)
  have h:=ae g28 hb28;refine U ?_;obtain rfl:=al h;exact ab sA (cS [0,1,2,3,4,5,6,7,8,9,10,11,12,13,14,15,16,17,18,19,20] 21)
 refine U ?_;refine aq J (fun g30=> ?_) (fun g30=> ?_)
 ·replace h:=ad g30 h;refine aw ?_;refine bn O _ (am _) ?_;refine zR 0 J (ai (us:=[iV a2.Kind,iV a2.N,.string a2.S]) 4 J J bH J) ?_;refine zE 1 J (bE J jV) ?_;refine zR 2 J (aM 0 J J d4 J) ?_;refine zE 3 J (bE J uS) ?_;refine zR 4 J (aM 4 J J co J) ?_;obtain ⟨x31,hx31,h⟩:=aa h;obtain ⟨lx31,ux31,hx31⟩:=aG hx31;refine zR 5 J (bf 2 J az J J hH aT lx31 ux31) ?_;refine zR 6 J (bi (us:=[iV x31.Kind,iV x31.N,.string x31.S]) 2 J az J hx31 aH (fun _ _ _ h=>by rw [show _=_ from h];rfl)) ?_;refine zE 7 J (aW J (lN _ _ _ _ _ _ _)) ?_;refine kz 8 J O O (ao (us:=[iV a2.Kind,iV a2.N,.string a2.S,iV 7,iV x31.Kind,iV x31.N,.string x31.S,iV 0,iV 0,.string (⟨#[]⟩),iV 0,iV 0,.string (⟨#[]⟩)]) (cs':=[iV a2.Kind,iV a2.N,.string a2.S,iV 7,iV x31.Kind,iV x31.N,.string x31.S,iV 0,iV 0,.string (⟨#[]⟩),iV 0,iV 0,.string (⟨#[]⟩)]) 3 J J J J cj J J J) ?_;rintro _ _ rfl;refine bC ?_;refine zE 9 J (aQ J) ?_;refine bc O ?_;refine U ?_;obtain rfl:=al h;exact bR (rs:=[.cell 6 42,.tmp 7]) (vs:=[.agg #[iV a2.Kind,iV a2.N,.string a2.S,iV 7,iV x31.Kind,iV x31.N,.string x31.S,iV 0,iV 0,.string (⟨#[]⟩),iV 0,iV 0,.string (⟨#[]⟩)],.bool true]) J (.cons (bg 3 J J da) (.cons (cJ J) .nil)) J (cS [10,11,12,13,14,15,16,17,18,19,20] 21) ⟨J,J⟩
 replace h:=ae g30 h;refine U ?_;refine gR (ai (us:=[iV a1.Kind,iV a1.N,.string a1.S]) 5 J J aH J) ?_;refine gR (ai (us:=[iV a2.Kind,iV a2.N,.string a2.S]) 4 J J bH J) ?_;obtain ⟨y32,hy32,h⟩:=aa h;refine gD (aE (nQ hy32) xn J (aC [6,7,8] [10,11,12,13,14,15,16,17,18,19,20] [0,1,2,3,4,5,6,7,8,9] 21 J)) ?_;rintro _ _ ⟨_,⟨rfl,rfl⟩,rfl⟩;refine U ?_;refine gO (ao (us:=[iV y32.1.Key.Kind,iV y32.1.Key.N,.string y32.1.Key.S,iV y32.1.Attrs,iV y32.1.Value.Kind,iV y32.1.Value.N,.string y32.1.Value.S,iV y32.1.Get.Kind,iV y32.1.Get.N,.string y32.1.Get.S,iV y32.1.Set.Kind,iV y32.1.Set.N,.string y32.1.Set.S]) (cs':=[iV y32.1.Key.Kind,iV y32.1.Key.N,.string y32.1.Key.S,iV y32.1.Attrs,iV y32.1.Value.Kind,iV y32.1.Value.N,.string y32.1.Value.S,iV y32.1.Get.Kind,iV y32.1.Get.N,.string y32.1.Get.S,iV y32.1.Set.Kind,iV y32.1.Set.N,.string y32.1.Set.S]) 14 J J J J cj J J J) ?_;rintro _ _ rfl;refine U ?_;obtain rfl:=al h;exact bR (rs:=[.cell 6 42,.tmp 7]) (vs:=[.agg #[iV y32.1.Key.Kind,iV y32.1.Key.N,.string y32.1.Key.S,iV y32.1.Attrs,iV y32.1.Value.Kind,iV y32.1.Value.N,.string y32.1.Value.S,iV y32.1.Get.Kind,iV y32.1.Get.N,.string y32.1.Get.S,iV y32.1.Set.Kind,iV y32.1.Set.N,.string y32.1.Set.S],.bool y32.2]) J (.cons (bg 14 J J da) (.cons (cJ J) .nil)) J (cS [0,1,2,3,4,5,6,7,8,9,10] 21) ⟨J,J⟩
def bI (N:Nat)(a0:Cm)(a1:Int):Option Bool:=
 some (!decide (aX .i64 a0.Has a1=0))
theorem bB {N:Nat}{a0:Cm}{a1:Int}{r:Bool}(h:bI N a0 a1=some r):Okc Tryz.prog 152 [.agg #[iV a0.Has,iV a0.Attrs,iV a0.Value.Kind,iV a0.Value.N,.string a0.Value.S,iV a0.Get.Kind,iV a0.Get.N,.string a0.Get.S,iV a0.Set.Kind,iV a0.Set.N,.string a0.Set.S],iV a1] ([]) (fun u post=>u=.bool r∧post=[]):=by
 refine bj Tryz.func152 J J ?_;simp only [aS];refine U ?_;refine gD (aN J J) ?_;rintro _ _ ⟨B1,rfl,rfl⟩;refine U ?_;refine gE (bm J J) ?_;refine U ?_;obtain rfl:=al h;exact aJ J J (cS [] 1) ⟨J,J⟩
theorem bh {r:Bool}: ∀v post,((fun (u:Value) (post:List Chunk)=>u=.bool r∧post=[])) v post→ ∀c∈post,bS c:=by
 rintro _ _ ⟨rfl,rfl⟩;exact ac
def jX (N:Nat)(p11:Int):Option Int:=
 some p11
def kJ (N:Nat)(a0:Cm)(p7:Int):Option Int:=
 (bI N a0 32).bind fun y12=>bif y12 then (jX N (ce .i64 p7 4)) else (jX N p7)
def kK (N:Nat)(a0:Cm)(p3:Int):Option Int:=
 (bI N a0 16).bind fun y8=>bif y8 then (kJ N a0 (ce .i64 p3 2)) else (kJ N a0 p3)
def lI (N:Nat)(a0:Cm):Option Int:=
 (bI N a0 2).bind fun y4=>bif y4 then (kK N a0 (ce .i64 0 1)) else (kK N a0 0)
theorem nS {N:Nat}{a0:Cm}{r:Int}(h:lI N a0=some r):Okc Tryz.prog 153 [.agg #[iV a0.Has,iV a0.Attrs,iV a0.Value.Kind,iV a0.Value.N,.string a0.Value.S,iV a0.Get.Kind,iV a0.Get.N,.string a0.Get.S,iV a0.Set.Kind,iV a0.Set.N,.string a0.Set.S]] ([]) (fun u post=>u=iV r∧post=[]):=by
 refine bj Tryz.func153 J J ?_;simp only [aS];refine U ?_;refine gD (aN J J) ?_;rintro _ _ ⟨B1,rfl,rfl⟩;refine U ?_;refine aY (fun s L=> ∃p3,kK N a0 p3=some r∧s=[(1,pV B1 0),(2,iV 0),(3,iV p3)]∧L=[aj B1 32 [iV a0.Has,iV a0.Attrs,iV a0.Value.Kind,iV a0.Value.N,.string a0.Value.S,iV a0.Get.Kind,iV a0.Get.N,.string a0.Get.S,iV a0.Set.Kind,iV a0.Set.N,.string a0.Set.S]]) ?_ ?_
 ·refine U ?_;refine gR (ai (us:=[iV a0.Has,iV a0.Attrs,iV a0.Value.Kind,iV a0.Value.N,.string a0.Value.S,iV a0.Get.Kind,iV a0.Get.N,.string a0.Get.S,iV a0.Set.Kind,iV a0.Set.N,.string a0.Set.S]) 0 J J cU J) ?_;obtain ⟨y4,hy4,h⟩:=aa h;refine gD (ak (bB hy4) dq J (ac) bh) ?_;rintro _ _ ⟨_,⟨rfl,rfl⟩,rfl⟩;refine U ?_;refine aq J (fun g5=> ?_) (fun g5=> ?_)
  ·replace h:=ad g5 h;refine U ?_;refine gE (gy J J) ?_;refine U ?_;exact ⟨_,_,⟨ce .i64 0 1,h,J,J⟩,sA,cS [0] 1⟩
  replace h:=ae g5 h;refine U ?_;exact ⟨_,_,⟨0,h,J,J⟩,sA,cS [0] 1⟩
 rintro _ _ ⟨p3,h,rfl,rfl⟩;refine aY (fun s L=> ∃p7,kJ N a0 p7=some r∧s=[(1,pV B1 0),(2,iV 0),(3,iV p7)]∧L=[aj B1 32 [iV a0.Has,iV a0.Attrs,iV a0.Value.Kind,iV a0.Value.N,.string a0.Value.S,iV a0.Get.Kind,iV a0.Get.N,.string a0.Get.S,iV a0.Set.Kind,iV a0.Set.N,.string a0.Set.S]]) ?_ ?_
 ·refine U ?_;refine gR (ai (us:=[iV a0.Has,iV a0.Attrs,iV a0.Value.Kind,iV a0.Value.N,.string a0.Value.S,iV a0.Get.Kind,iV a0.Get.N,.string a0.Get.S,iV a0.Set.Kind,iV a0.Set.N,.string a0.Set.S]) 0 J J cU J) ?_;obtain ⟨y8,hy8,h⟩:=aa h;refine gD (ak (bB hy8) dq J (ac) bh) ?_;rintro _ _ ⟨_,⟨rfl,rfl⟩,rfl⟩;refine U ?_;refine aq J (fun g9=> ?_) (fun g9=> ?_)
  ·replace h:=ad g9 h;refine U ?_;refine gE (gy J J) ?_;refine U ?_;exact ⟨_,_,⟨ce .i64 p3 2,h,J,J⟩,sA,cS [0] 1⟩
  replace h:=ae g9 h;refine U ?_;exact ⟨_,_,⟨p3,h,J,J⟩,sA,cS [0] 1⟩
 rintro _ _ ⟨p7,h,rfl,rfl⟩;refine aY (fun s L=> ∃p11,jX N p11=some r∧s=[(2,iV 0),(3,iV p11)]∧L=[]) ?_ ?_
 ·refine U ?_;refine gR (ai (us:=[iV a0.Has,iV a0.Attrs,iV a0.Value.Kind,iV a0.Value.N,.string a0.Value.S,iV a0.Get.Kind,iV a0.Get.N,.string a0.Get.S,iV a0.Set.Kind,iV a0.Set.N,.string a0.Set.S]) 0 J J cU J) ?_;obtain ⟨y12,hy12,h⟩:=aa h;refine gD (ak (bB hy12) dq J (ac) bh) ?_;rintro _ _ ⟨_,⟨rfl,rfl⟩,rfl⟩;refine U ?_;refine aq J (fun g13=> ?_) (fun g13=> ?_)
  ·replace h:=ad g13 h;refine U ?_;refine gE (gy J J) ?_;refine U ?_;exact ⟨_,_,⟨ce .i64 p7 4,h,J,J⟩,sA,cS [] 1⟩
  replace h:=ae g13 h;refine U ?_;exact ⟨_,_,⟨p7,h,J,J⟩,sA,cS [] 1⟩
 rintro _ _ ⟨p11,h,rfl,rfl⟩;refine U ?_;obtain rfl:=al h;exact aJ J J (cS [] 0) ⟨J,J⟩
theorem me {r:Int}: ∀v post,((fun (u:Value) (post:List Chunk)=>u=iV r∧post=[])) v post→ ∀c∈post,bS c:=by
 rintro _ _ ⟨rfl,rfl⟩;exact ac
end Go.Proofs.YtanojiedimeegaaGreatDoor