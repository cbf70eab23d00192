/- Merged texts: part 6. No conditions of their own. -/
import Derived.Test.YtanojiedimeegaaGreatDoorG5
namespace Go.Proofs.YtanojiedimeegaaGreatDoor
theorem DU:type_of% Tryz.underlying82:=Tryz.underlying82
theorem DT:type_of% Tryz.underlying67:=Tryz.underlying67
theorem DS:type_of% Tryz.underlying202:=Tryz.underlying202
variable {A1 A10 A12 A13 A14 A15 A16 A17 A2 A3 A4 A5 A6 A7 A8 A9:Option Addr} {B1 B10 B12 B2 B4 B5 B7 B9 M11 M14 M3 M8 c1 c10 c12 c13 c14 c15 c16 c17 c2 c3 c4 c5 c6 c7 c8 c9 n1 n10 n12 n13 n14 n15 n16 n17 n2 n3 n4 n5 n6 n7 n8 n9:Nat}
open Go.RowKit Asn
set_option maxRecDepth 20000
def jB (N:Nat)(a0:DZ):Option Unit:=
 some ()
theorem mq {N:Nat}{a0:DZ}{r:Unit}(h:jB N a0=some r):Okc Tryz.prog 104 [.agg #[iV a0.Kind,iV a0.Shape,iV a0.Flags,iV a0.Age,I A1 n1 c1,I A2 n2 c2]] ([cx A1 n1 c1 a0.Slots,cx A2 n2 c2 a0.More,aL 0 30 [iV 8,iV 0,.string (⟨#[]⟩:ByteArray)]]) (fun u post=> ∃B900,u=.func (.func 157) #[] #[pV B900 0]∧post=[ad B900 138 [iV a0.Kind,iV a0.Shape,iV a0.Flags,iV a0.Age,I A1 n1 c1,I A2 n2 c2]]):=by
 refine be Tryz.func104 J J ?_;simp only [aM];refine U ?_;refine gD (aE J J) ?_;rintro _ _ ⟨B3,rfl,rfl⟩;refine U ?_;refine gE (oU J) ?_;refine U ?_;obtain rfl:=am h;exact aI J J (cS [0] 4) ⟨_,J,J⟩
theorem kT {a0:DZ}{A1:Option Addr}{n1:Nat}{c1:Nat}{A2:Option Addr}{n2:Nat}{c2:Nat}: ∀v post,((fun (u:Value) (post:List Chunk)=> ∃B900,u=.func (.func 157) #[] #[pV B900 0]∧post=[ad B900 138 [iV a0.Kind,iV a0.Shape,iV a0.Flags,iV a0.Age,I A1 n1 c1,I A2 n2 c2]])) v post→ ∀c∈post,bI c:=by
 rintro _ _ ⟨_,rfl,rfl⟩;exact hE oP (ac)
def cR (N:Nat):Option DX:=
 some (⟨1,0,(⟨#[108,101,110,103,116,104]⟩:ByteArray)⟩:DX)
theorem cZ {N:Nat}{r:DX}(h:cR N=some r):Okc Tryz.prog 97 [] ([]) (fun u post=>u=.agg #[iV r.Kind,iV r.N,.string r.S]∧post=[]):=by
 refine be Tryz.func97 J J ?_;simp only [aM];refine U ?_;refine gD (aF mt J) ?_;rintro _ _ ⟨B1,rfl,rfl⟩;refine U ?_;refine gE (aY J (tR _ _)) ?_;refine gO (ao (us:=[iV 1,iV 0,.string (⟨#[108,101,110,103,116,104]⟩:ByteArray)]) (cs':=[iV 1,iV 0,.string (⟨#[108,101,110,103,116,104]⟩:ByteArray)]) 0 J J J J dE J J J) ?_;rintro _ _ rfl;refine U ?_;obtain rfl:=am h;exact bJ (rs:=[.cell 0 24]) (vs:=[.agg #[iV 1,iV 0,.string (⟨#[108,101,110,103,116,104]⟩:ByteArray)]]) J (.cons (bg 0 J J bp) .nil) J (cS [] 1) ⟨J,J⟩
theorem cH {r:DX}: ∀v post,((fun (u:Value) (post:List Chunk)=>u=.agg #[iV r.Kind,iV r.N,.string r.S]∧post=[])) v post→ ∀c∈post,bI c:=by
 rintro _ _ ⟨rfl,rfl⟩;exact ac
def cE (N:Nat)(a0:D4):Option Unit:=
 some ()
theorem cT {N:Nat}{a0:D4}{r:Unit}(h:cE N a0=some r):Okc Tryz.prog 118 [pV B1 0] ([aL B1 151 [iV a0.spent_.steps_,iV a0.spent_.made_,iV a0.spent_.calls_,iV a0.config_.Way,iV a0.config_.Steps,iV a0.config_.Calls,iV a0.config_.Made,iV a0.config_.Young,iV a0.config_.Full,iV a0.config_.Sites,.nilIface,pV B2 0,pV B9 0,I A12 n12 c12,iV a0.epoch_,iV a0.serial_,iV a0.sleepers_,I A13 n13 c13,I A14 n14 c14],aL B2 199 [I A3 n3 c3,I A4 n4 c4,I A5 n5 c5,I A6 n6 c6,pV B7 0],nZ A3 n3 c3 a0.heap_.m_.Young,nZ A4 n4 c4 a0.heap_.m_.Old,cx A5 n5 c5 a0.heap_.roots_,cx A6 n6 c6 a0.heap_.pending_,aL B7 247 [.map (some M8)],eY bS bU M8 a0.heap_.set_.at_,aL B9 205 [I A10 n10 c10,.map (some M11)],ri A10 n10 c10 a0.shapes_.shapes_,eY az bR M11 a0.shapes_.next_,aZ A12 n12 c12 a0.symbols_,cb A13 n13 c13 a0.events_,aZ A14 n14 c14 a0.out_]) (fun u post=>u=pV B9 0∧post=[]):=by
 refine be Tryz.func118 J J ?_;simp only [aM];refine U ?_;refine ax ?_;refine U ?_;refine gE (cA J DP) ?_;refine U ?_;refine dS J ?_;refine U ?_;refine gR (bT 0 J J yU J) ?_;refine U ?_;obtain rfl:=am h;exact aI J J (cS [] 14) ⟨J,J⟩
theorem cz {B9:Nat}: ∀v post,((fun (u:Value) (post:List Chunk)=>u=pV B9 0∧post=[])) v post→ ∀c∈post,bI c:=by
 rintro _ _ ⟨rfl,rfl⟩;exact ac
def fR (N:Nat)(a0:D9)(a1:Int):Option Bool:=
 (bif decide (0≤a1) then (some (decide (a1<(a0.shapes_.length:Int)))) else (some false)).bind fun b4=>some b4
theorem ik {N:Nat}{a0:D9}{a1:Int}{r:Bool}(h:fR N a0 a1=some r):Okc Tryz.prog 212 [pV B1 0,iV a1] ([aL B1 205 [I A2 n2 c2,.map (some M3)],ri A2 n2 c2 a0.shapes_,eY az bR M3 a0.next_]) (fun u post=>u=.bool r∧post=[]):=by
 refine be Tryz.func212 J J ?_;simp only [aM];refine U ?_;refine gE (lf J Tryz.underlying144) ?_;refine U ?_;obtain ⟨b4,hb4,h⟩:=aa h;refine aJ 8 19 b4 ?_ ?_
 ·clear h;refine aH 11 J (fun g4=> ?_) (fun g4=> ?_)
  ·have h:=ag g4 hb4;refine U ?_;refine bH (bT 0 J J ly J) J (aX g4 J) J ?_;refine bH (bu 1 J aP J DS) J (aX g4 J) J ?_;refine U ?_;obtain rfl:=am h;exact ae sA (cS [0,1,2] 3)
  have h:=ah g4 hb4;refine U ?_;obtain rfl:=am h;exact ae sA (cS [0,1,2] 3)
 refine U ?_;obtain rfl:=am h;exact aI J J (cS [] 3) ⟨J,J⟩
theorem f8 {r:Bool}: ∀v post,((fun (u:Value) (post:List Chunk)=>u=.bool r∧post=[])) v post→ ∀c∈post,bI c:=by
 rintro _ _ ⟨rfl,rfl⟩;exact ac
def mP (N:Nat)(a0:D9)(a1:Int):Option (Ed×Bool):=
 (fR N a0 a1).bind fun y5=>bif !y5 then (some ((⟨0,(⟨0,0,⟨#[]⟩⟩:DX),0,0⟩:Ed),false)) else ((cm a0.shapes_ a1).bind fun x7=>some (x7,true))
theorem qr {N:Nat}{a0:D9}{a1:Int}{r:(Ed×Bool)}(h:mP N a0 a1=some r):Okc Tryz.prog 215 [pV B1 0,iV a1] ([aL B1 205 [I A2 n2 c2,.map (some M3)],ri A2 n2 c2 a0.shapes_,eY az bR M3 a0.next_]) (fun u post=>u=.tuple #[.agg #[iV r.1.Up,iV r.1.Key.Kind,iV r.1.Key.N,.string r.1.Key.S,iV r.1.Attrs,iV r.1.Len],.bool r.2]∧post=[]):=by
 refine be Tryz.func215 J J ?_;simp only [aM];refine U ?_;refine gD (aF nt J) ?_;rintro _ _ ⟨B4,rfl,rfl⟩;refine U ?_;refine ax ?_;refine U ?_;obtain ⟨y5,hy5,h⟩:=aa h;refine gD (ak (ik hy5) uY J (hE (ai (i:=1) J J) (hE (ai (i:=2) J J) (hE (ai (i:=3) J J) ac))) f8) ?_;rintro _ _ ⟨_,⟨rfl,rfl⟩,rfl⟩;refine U ?_;refine aq J (fun g6=> ?_) (fun g6=> ?_)
 ·replace h:=ag g6 h;refine U ?_;refine gE (aY J (zC)) ?_;refine gO (ao (us:=[iV 0,iV 0,iV 0,.string (⟨#[]⟩),iV 0,iV 0]) (cs':=[iV 0,iV 0,iV 0,.string (⟨#[]⟩),iV 0,iV 0]) 0 J J J J cC J J J) ?_;rintro _ _ rfl;refine U ?_;obtain rfl:=am h;exact bJ (rs:=[.cell 4 201,.tmp 5]) (vs:=[.agg #[iV 0,iV 0,iV 0,.string (⟨#[]⟩),iV 0,iV 0],.bool false]) J (.cons (bg 0 J J mM) (.cons (cD J) .nil)) J (cS [] 4) ⟨J,J⟩
 replace h:=ah g6 h;refine U ?_;refine gR (bT 1 J J ly J) ?_;refine U ?_;obtain ⟨x7,hx7,h⟩:=aa h;obtain ⟨lx7,ux7,hx7⟩:=aK hx7;refine gR (bi 2 J aP J J DS cC lx7 ux7) ?_;refine gR (bm (us:=[iV x7.Up,iV x7.Key.Kind,iV x7.Key.N,.string x7.Key.S,iV x7.Attrs,iV x7.Len]) 2 J aP J hx7 mM (fun _ _ _ h=>by rw [show _=_ from h];rfl)) ?_;refine gO (ao (us:=[iV x7.Up,iV x7.Key.Kind,iV x7.Key.N,.string x7.Key.S,iV x7.Attrs,iV x7.Len]) (cs':=[iV x7.Up,iV x7.Key.Kind,iV x7.Key.N,.string x7.Key.S,iV x7.Attrs,iV x7.Len]) 0 J J J J cC J J J) ?_;rintro _ _ rfl;refine U ?_;obtain rfl:=am h;exact bJ (rs:=[.cell 4 201,.tmp 5]) (vs:=[.agg #[iV x7.Up,iV x7.Key.Kind,iV x7.Key.N,.string x7.Key.S,iV x7.Attrs,iV x7.Len],.bool true]) J (.cons (bg 0 J J mM) (.cons (cD J) .nil)) J (cS [] 4) ⟨J,J⟩
theorem pG {r:(Ed×Bool)}: ∀v post,((fun (u:Value) (post:List Chunk)=>u=.tuple #[.agg #[iV r.1.Up,iV r.1.Key.Kind,iV r.1.Key.N,.string r.1.Key.S,iV r.1.Attrs,iV r.1.Len],.bool r.2]∧post=[])) v post→ ∀c∈post,bI c:=by
 rintro _ _ ⟨rfl,rfl⟩;exact ac
def fS (N:Nat)(a0:D9)(a1:Int):Option Int:=
 (mP N a0 a1).bind fun y4=>some y4.1.Len
theorem il {N:Nat}{a0:D9}{a1:Int}{r:Int}(h:fS N a0 a1=some r):Okc Tryz.prog 173 [pV B1 0,iV a1] ([aL B1 205 [I A2 n2 c2,.map (some M3)],ri A2 n2 c2 a0.shapes_,eY az bR M3 a0.next_]) (fun u post=>u=iV r∧post=[]):=by
 refine be Tryz.func173 J J ?_;simp only [aM];refine U ?_;obtain ⟨y4,hy4,h⟩:=aa h;refine gD (ak (qr hy4) AS J (hE (ai (i:=0) J J) (hE (ai (i:=1) J J) (hE (ai (i:=2) J J) ac))) pG) ?_;rintro _ _ ⟨_,⟨rfl,rfl⟩,rfl⟩;refine U ?_;refine gD (aF nt J) ?_;rintro _ _ ⟨B5,rfl,rfl⟩;refine gO (ao (us:=[iV y4.1.Up,iV y4.1.Key.Kind,iV y4.1.Key.N,.string y4.1.Key.S,iV y4.1.Attrs,iV y4.1.Len]) (cs':=[iV y4.1.Up,iV y4.1.Key.Kind,iV y4.1.Key.N,.string y4.1.Key.S,iV y4.1.Attrs,iV y4.1.Len]) 0 J J J J cC J J J) ?_;rintro _ _ rfl;refine U ?_;obtain rfl:=am h;exact aI J J (cS [] 4) ⟨J,J⟩
theorem gb {r:Int}: ∀v post,((fun (u:Value) (post:List Chunk)=>u=iV r∧post=[])) v post→ ∀c∈post,bI c:=by
 rintro _ _ ⟨rfl,rfl⟩;exact ac
def lp (N:Nat)(p8:(List Ed)):Option (List Ed):=
 some p8
def gC (N:Nat)(a0:D9):Nat→Int→(List Ed)→Int→Option (List Ed)
 |0,_,_,_=>none
 |m10+1,p11,p12,p13=>bif decide (0≤p13) then ((cm a0.shapes_ p11).bind fun x15=>(cm p12 p13).bind fun x16=>(cm (List.set p12 p13.toNat (⟨x15.Up,(⟨x15.Key.Kind,x15.Key.N,x15.Key.S⟩:DX),x15.Attrs,x15.Len⟩:Ed)) p13).bind fun x17=>dC (cg (p13 - 1)) ((gC N a0 m10) x17.Up (List.set p12 p13.toNat (⟨x15.Up,(⟨x15.Key.Kind,x15.Key.N,x15.Key.S⟩:DX),x15.Attrs,x15.Len⟩:Ed)) (p13 - 1))) else (lp N p12)
def ex (N:Nat)(a0:D9)(a1:Int):Option (List Ed):=
 (fS N a0 a1).bind fun y4=>dC (0≤y4∧y4≤1000000) (dC (cg (((List.replicate y4.toNat (⟨0,(⟨0,0,⟨#[]⟩⟩:DX),0,0⟩:Ed)).length:Int) - 1)) (gC N a0 N a1 (List.replicate y4.toNat (⟨0,(⟨0,0,⟨#[]⟩⟩:DX),0,0⟩:Ed)) (((List.replicate y4.toNat (⟨0,(⟨0,0,⟨#[]⟩⟩:DX),0,0⟩:Ed)).length:Int) - 1)))
theorem fh {N:Nat}{a0:D9}{a1:Int}{r:(List Ed)}(h:ex N a0 a1=some r):Okc Tryz.prog 168 [pV B1 0,iV a1] ([aL B1 205 [I A2 n2 c2,.map (some M3)],ri A2 n2 c2 a0.shapes_,eY az bR M3 a0.next_]) (fun u post=> ∃A0 n0 c0,u=I A0 n0 c0∧post=[cf A0 n0 c0 r]):=by
 refine be Tryz.func168 J J ?_;simp only [aM];refine U ?_;obtain ⟨y4,hy4,h⟩:=aa h;refine gD (ak (il hy4) vd J (hE (ai (i:=0) J J) (hE (ai (i:=1) J J) (hE (ai (i:=2) J J) ac))) gb) ?_;rintro _ _ ⟨_,⟨rfl,rfl⟩,rfl⟩;obtain ⟨q5,h⟩:=aG h;refine gD (Ad (R:=pp) (zl:=[iV 0,iV 0,iV 0,.string (⟨#[]⟩),iV 0,iV 0]) (x0:=(⟨0,(⟨0,0,⟨#[]⟩⟩:DX),0,0⟩:Ed)) J J DS J J J J J (by decide) (fun _ _=>J) q5) ?_;rintro _ _ ⟨A6,n6,c6,rfl,rfl⟩;refine U ?_;refine aW (fun s L=> ∃p8 A8 n8 c8,lp N p8=some r∧s=[(4,I none 0 0),(5,I A8 n8 c8)]∧L=[cf A8 n8 c8 p8]) ?_ ?_
 ·refine U ?_;refine gR (bu 0 J aA J DS) ?_;obtain ⟨q9,h⟩:=aG h;refine gE (iZ J J q9.1 q9.2) ?_;refine U ?_;refine bV (fun m s L=> ∃p11 p12 p13 A12 n12 c12,gC N a0 m p11 p12 p13=some r∧s=[(0,pV B1 0),(1,iV p11),(4,I none 0 0),(5,I A12 n12 c12),(6,iV p13)]∧L=[cf A12 n12 c12 p12,ri A2 n2 c2 a0.shapes_,eY az bR M3 a0.next_,aL B1 205 [I A2 n2 c2,.map (some M3)]]) N _ _ ⟨a1,List.replicate y4.toNat (⟨0,(⟨0,0,⟨#[]⟩⟩:DX),0,0⟩:Ed),((List.replicate y4.toNat (⟨0,(⟨0,0,⟨#[]⟩⟩:DX),0,0⟩:Ed)).length:Int) - 1,A6,n6,c6,h,J,J⟩ sA (cS [0,2,3,1] 4) ?_;rintro (_|m10) _ _ ⟨p11,p12,p13,A12,n12,c12,h,rfl,rfl⟩
  ·exact bc h
  rw [gC.eq_2] at h;refine ax ?_;refine U ?_;refine aq J (fun g14=> ?_) (fun g14=> ?_)
  ·replace h:=ag g14 h;refine U ?_;refine ax ?_;refine U ?_;refine gR (bT 3 J J ly J) ?_;refine U ?_;obtain ⟨x15,hx15,h⟩:=aa h;obtain ⟨lx15,ux15,hx15⟩:=aK hx15;refine gR (bi 1 J aP J J DS cC lx15 ux15) ?_;refine gR (bm (us:=[iV x15.Up,iV x15.Key.Kind,iV x15.Key.N,.string x15.Key.S,iV x15.Attrs,iV x15.Len]) 1 J aP J hx15 mM (fun _ _ _ h=>by rw [show _=_ from h];rfl)) ?_;obtain ⟨x16,hx16,h⟩:=aa h;obtain ⟨lx16,ux16,hx16⟩:=aK hx16;refine gR (bi 0 J aA J J DS cC lx16 ux16) ?_;refine gO (dc (us:=[iV x15.Up,iV x15.Key.Kind,iV x15.Key.N,.string x15.Key.S,iV x15.Attrs,iV x15.Len]) (z:=(⟨x15.Up,(⟨x15.Key.Kind,x15.Key.N,x15.Key.S⟩:DX),x15.Attrs,x15.Len⟩:Ed)) 0 J J J J cC J (bf lx16 ux16) J (fun S w vs xk hk hr ho=>by obtain rfl:=Option.some.inj (hk.symm.trans hx16);rw [show _=_ from hr];rfl)) ?_;rintro _ _ rfl;refine U ?_;obtain ⟨x17,hx17,h⟩:=aa h;obtain ⟨lx17,ux17,hx17⟩:=aK hx17;refine gR (bi 0 J aA J J DS cC lx17 ux17) ?_;refine gR (nA 0 J aA J (bf lx17 ux17) qN) ?_;refine gR (dp (u:=iV x17.Up) 0 J aA J hx17 cv (fun _ _ _ h=>by rw [show _=_ from h];rfl)) ?_;refine U ?_;obtain ⟨q18,h⟩:=aG h;refine gE (iZ J J q18.1 q18.2) ?_;refine U ?_;exact ⟨m10,_,_,Eg _,⟨x17.Up,List.set p12 p13.toNat (⟨x15.Up,(⟨x15.Key.Kind,x15.Key.N,x15.Key.S⟩:DX),x15.Attrs,x15.Len⟩:Ed),p13 - 1,A12,n12,c12,h,J,J⟩,sA,cS [0,1,2,3] 4⟩
  replace h:=ah g14 h;refine U ?_;exact ⟨_,_,⟨p12,A12,n12,c12,h,J,J⟩,sA,cS [0] 4⟩
 rintro _ _ ⟨p8,A8,n8,c8,h,rfl,rfl⟩;refine U ?_;obtain rfl:=am h;exact aI J J (cS [0] 1) ⟨_,_,_,J,J⟩
theorem ew {r:(List Ed)}: ∀v post,((fun (u:Value) (post:List Chunk)=> ∃A0 n0 c0,u=I A0 n0 c0∧post=[cf A0 n0 c0 r])) v post→ ∀c∈post,bI c:=by
 rintro _ _ ⟨_,_,_,rfl,rfl⟩;exact hE cG (ac)
def jR (N:Nat)(p5:(List Int)):Option (List Int):=
 some p5
def ge (N:Nat)(y6:((List Ed))):Nat→(List Int)→Int→Option (List Int)
 |0,_,_=>none
 |m8+1,p9,p10=>bif decide (p10<(y6.length:Int)) then ((cm y6 p10).bind fun x13=>dC (iD (p9.length+([x13.Attrs]:List Int).length)) (dC (cg (p10+1)) ((ge N y6 m8) (p9++([x13.Attrs]:List Int)) (p10+1)))) else (jR N p9)
def kI (N:Nat)(a0:D9)(a1:Int):Option (List Int):=
 (ex N a0 a1).bind fun y6=>ge N y6 N [] 0
theorem oy {N:Nat}{a0:D9}{a1:Int}{r:(List Int)}(h:kI N a0 a1=some r):Okc Tryz.prog 158 [pV B1 0,iV a1] ([aL B1 205 [I A2 n2 c2,.map (some M3)],ri A2 n2 c2 a0.shapes_,eY az bR M3 a0.next_]) (fun u post=> ∃A0 n0 c0,u=I A0 n0 c0∧post=[cF (kg .i64) 3 (I A0 n0 c0) r]):=by
 refine be Tryz.func158 J J ?_;simp only [aM];refine U ?_;refine aW (fun s L=> ∃p5 A5 n5 c5,jR N p5=some r∧s=[(4,I none 0 0),(5,I A5 n5 c5)]∧L=[cF (kg .i64) 3 (I A5 n5 c5) p5]) ?_ ?_
 ·refine U ?_;obtain ⟨y6,hy6,h⟩:=aa h;refine gD (ak (fh hy6) sH J (hE (ai (i:=0) J J) (hE (ai (i:=1) J J) (hE (ai (i:=2) J J) ac))) ew) ?_;rintro _ _ ⟨_,⟨A7,n7,c7,rfl,rfl⟩,rfl⟩;refine gR (bu 0 J aA J DS) ?_;refine U ?_;refine bV (fun m s L=> ∃p9 p10 A9 n9 c9,ge N y6 m p9 p10=some r∧s=[(4,I none 0 0),(5,I A9 n9 c9),(10,I A7 n7 c7),(11,iV (y6.length:Int)),(12,iV p10)]∧L=[cF (kg .i64) 3 (I A9 n9 c9) p9,cf A7 n7 c7 y6]) N _ _ ⟨[],0,none,0,0,h,J,J⟩ sA ((dH (kg .i64) 3 _).trans (cS [0,1] 5)) ?_;rintro (_|m8) _ _ ⟨p9,p10,A9,n9,c9,h,rfl,rfl⟩
  ·exact bc h
  rw [ge.eq_2] at h;refine U ?_;refine ax ?_;refine aq J (fun g12=> ?_) (fun g12=> ?_)
  ·replace h:=ag g12 h;refine U ?_;refine ax ?_;refine U ?_;obtain ⟨x13,hx13,h⟩:=aa h;obtain ⟨lx13,ux13,hx13⟩:=aK hx13;refine gR (bi 1 J aA J J DS cC lx13 ux13) ?_;refine gR (bm (us:=[iV x13.Up,iV x13.Key.Kind,iV x13.Key.N,.string x13.Key.S,iV x13.Attrs,iV x13.Len]) 1 J aA J hx13 mM (fun _ _ _ h=>by rw [show _=_ from h];rfl)) ?_;refine gD (aF nt J) ?_;rintro _ _ ⟨B14,rfl,rfl⟩;refine gO (ao (us:=[iV x13.Up,iV x13.Key.Kind,iV x13.Key.N,.string x13.Key.S,iV x13.Attrs,iV x13.Len]) (cs':=[iV x13.Up,iV x13.Key.Kind,iV x13.Key.N,.string x13.Key.S,iV x13.Attrs,iV x13.Len]) 0 J J J J cC J J J) ?_;rintro _ _ rfl;refine U ?_;refine gD (bM (R:=(kg .i64)) (vss:=[[iV x13.Attrs]]) (xs:=[x13.Attrs]) J (uq _) J J (fun _ _ hr=> .cons J All2.nil)) ?_;rintro _ _ ⟨A15,n15,c15,rfl,rfl⟩;obtain ⟨q16,h⟩:=aG h;refine gD (ct 2 0 J J aA J J DQ De J J q16) ?_;rintro _ _ ⟨A17,n17,c17,rfl,rfl⟩;refine U ?_;obtain ⟨q18,h⟩:=aG h;refine gE (bO J J q18.1 q18.2) ?_;refine U ?_;exact ⟨m8,_,_,Eg _,⟨p9++([x13.Attrs]:List Int),p10+1,A17,n17,c17,h,J,J⟩,sA,cS [2,3] 4⟩
  replace h:=ah g12 h;refine U ?_;exact ⟨_,_,⟨p9,A9,n9,c9,h,J,J⟩,sA,cS [0] 2⟩
 rintro _ _ ⟨p5,A5,n5,c5,h,rfl,rfl⟩;refine U ?_;obtain rfl:=am h;exact aI J J (cS [0] 1) ⟨_,_,_,J,J⟩
theorem nz {r:(List Int)}: ∀v post,((fun (u:Value) (post:List Chunk)=> ∃A0 n0 c0,u=I A0 n0 c0∧post=[cF (kg .i64) 3 (I A0 n0 c0) r])) v post→ ∀c∈post,bI c:=by
 rintro _ _ ⟨_,_,_,rfl,rfl⟩;exact hE cG (ac)
def kG (N:Nat)(p5:(List DX)):Option (List DX):=
 some p5
def gG (N:Nat)(y6:((List Ed))):Nat→(List DX)→Int→Option (List DX)
 |0,_,_=>none
 |m8+1,p9,p10=>bif decide (p10<(y6.length:Int)) then ((cm y6 p10).bind fun x13=>dC (iD (p9.length+([x13.Key]:List DX).length)) (dC (cg (p10+1)) ((gG N y6 m8) (p9++([x13.Key]:List DX)) (p10+1)))) else (kG N p9)
def im (N:Nat)(a0:D9)(a1:Int):Option (List DX):=
 (ex N a0 a1).bind fun y6=>gG N y6 N [] 0
theorem kF {N:Nat}{a0:D9}{a1:Int}{r:(List DX)}(h:im N a0 a1=some r):Okc Tryz.prog 124 [pV B1 0,iV a1] ([aL B1 205 [I A2 n2 c2,.map (some M3)],ri A2 n2 c2 a0.shapes_,eY az bR M3 a0.next_]) (fun u post=> ∃A0 n0 c0,u=I A0 n0 c0∧post=[iF A0 n0 c0 r]):=by
 refine be Tryz.func124 J J ?_;simp only [aM];refine U ?_;refine aW (fun s L=> ∃p5 A5 n5 c5,kG N p5=some r∧s=[(4,I none 0 0),(5,I A5 n5 c5)]∧L=[iF A5 n5 c5 p5]) ?_ ?_
 ·refine U ?_;obtain ⟨y6,hy6,h⟩:=aa h;refine gD (ak (fh hy6) sH J (hE (ai (i:=0) J J) (hE (ai (i:=1) J J) (hE (ai (i:=2) J J) ac))) ew) ?_;rintro _ _ ⟨_,⟨A7,n7,c7,rfl,rfl⟩,rfl⟩;refine gR (bu 0 J aA J DS) ?_;refine U ?_;refine bV (fun m s L=> ∃p9 p10 A9 n9 c9,gG N y6 m p9 p10=some r∧s=[(4,I none 0 0),(5,I A9 n9 c9),(10,I A7 n7 c7),(11,iV (y6.length:Int)),(12,iV p10)]∧L=[iF A9 n9 c9 p9,cf A7 n7 c7 y6]) N _ _ ⟨[],0,none,0,0,h,J,J⟩ sA ((dH gh 24 _).trans (cS [0,1] 5)) ?_;rintro (_|m8) _ _ ⟨p9,p10,A9,n9,c9,h,rfl,rfl⟩
  ·exact bc h
  rw [gG.eq_2] at h;refine U ?_;refine ax ?_;refine aq J (fun g12=> ?_) (fun g12=> ?_)
  ·replace h:=ag g12 h;refine U ?_;refine ax ?_;refine U ?_;obtain ⟨x13,hx13,h⟩:=aa h;obtain ⟨lx13,ux13,hx13⟩:=aK hx13;refine gR (bi 1 J aA J J DS cC lx13 ux13) ?_;refine gR (bm (us:=[iV x13.Up,iV x13.Key.Kind,iV x13.Key.N,.string x13.Key.S,iV x13.Attrs,iV x13.Len]) 1 J aA J hx13 mM (fun _ _ _ h=>by rw [show _=_ from h];rfl)) ?_;refine gD (aF nt J) ?_;rintro _ _ ⟨B14,rfl,rfl⟩;refine gO (ao (us:=[iV x13.Up,iV x13.Key.Kind,iV x13.Key.N,.string x13.Key.S,iV x13.Attrs,iV x13.Len]) (cs':=[iV x13.Up,iV x13.Key.Kind,iV x13.Key.N,.string x13.Key.S,iV x13.Attrs,iV x13.Len]) 0 J J J J cC J J J) ?_;rintro _ _ rfl;refine U ?_;refine gR (ab (us:=[iV x13.Key.Kind,iV x13.Key.N,.string x13.Key.S]) 0 J J bp J) ?_;refine gD (bM (R:=gh) (vss:=[[iV x13.Key.Kind,iV x13.Key.N,.string x13.Key.S]]) (xs:=[x13.Key]) J (kb _ _ _) J J (fun _ _ hr=> .cons J All2.nil)) ?_;rintro _ _ ⟨A15,n15,c15,rfl,rfl⟩;obtain ⟨q16,h⟩:=aG h;refine gD (ct 2 0 J J aA J J DT vA J J q16) ?_;rintro _ _ ⟨A17,n17,c17,rfl,rfl⟩;refine U ?_;obtain ⟨q18,h⟩:=aG h;refine gE (bO J J q18.1 q18.2) ?_;refine U ?_;exact ⟨m8,_,_,Eg _,⟨p9++([x13.Key]:List DX),p10+1,A17,n17,c17,h,J,J⟩,sA,cS [2,3] 4⟩
  replace h:=ah g12 h;refine U ?_;exact ⟨_,_,⟨p9,A9,n9,c9,h,J,J⟩,sA,cS [0] 2⟩
 rintro _ _ ⟨p5,A5,n5,c5,h,rfl,rfl⟩;refine U ?_;obtain rfl:=am h;exact aI J J (cS [0] 1) ⟨_,_,_,J,J⟩
theorem ji {r:(List DX)}: ∀v post,((fun (u:Value) (post:List Chunk)=> ∃A0 n0 c0,u=I A0 n0 c0∧post=[iF A0 n0 c0 r])) v post→ ∀c∈post,bI c:=by
 rintro _ _ ⟨_,_,_,rfl,rfl⟩;exact hE cG (ac)
def fM (N:Nat)(a2:DX)(a3:Int)(p28:Int)(p29:Int)(p30:ByteArray)(p31:Int)(p32:Int)(p33:ByteArray):Option D0:=
 some (⟨a2,a3,(⟨0,0,⟨#[]⟩⟩:Ea),(⟨p28,p29,p30⟩:Ea),(⟨p31,p32,p33⟩:Ea)⟩:D0)
def gJ (N:Nat)(a0:D5)(a1:Int)(a2:DX)(a3:Int):Option D0:=
 dC (cg (a1+1)) (bif decide ((a0.Cell.Slots.length:Int)≤a1+1) then (some (⟨a2,a3,(⟨0,0,⟨#[]⟩⟩:Ea),(⟨0,0,⟨#[]⟩⟩:Ea),(⟨0,0,⟨#[]⟩⟩:Ea)⟩:D0)) else (dC (cg (a1+1)) ((cm a0.Cell.Slots (a1+1)).bind fun x24=>bif decide (aS .i64 a3 8=0) then (some (⟨a2,a3,x24,(⟨0,0,⟨#[]⟩⟩:Ea),(⟨0,0,⟨#[]⟩⟩:Ea)⟩:D0)) else ((d7 N a0.w_ x24).bind fun y34=>bif decide ((y34.Slots.length:Int)=2) then ((cm y34.Slots 0).bind fun x42=>(cm y34.Slots 1).bind fun x43=>fM N a2 a3 x42.Kind x42.N x42.S x43.Kind x43.N x43.S) else (fM N a2 a3 0 0 (⟨#[]⟩) 0 0 (⟨#[]⟩))))))
theorem jV {N:Nat}{a0:D5}{a1:Int}{a2:DX}{a3:Int}{r:D0}(h:gJ N a0 a1 a2 a3=some r):Okc Tryz.prog 159 [pV B1 0,iV a1,.agg #[iV a2.Kind,iV a2.N,.string a2.S],iV a3] ([aL B1 140 [iV a0.Cell.Kind,iV a0.Cell.Shape,iV a0.Cell.Flags,iV a0.Cell.Age,I A2 n2 c2,I A3 n3 c3,pV B4 0,iV a0.at_.Kind,iV a0.at_.N,.string a0.at_.S],cx A2 n2 c2 a0.Cell.Slots,cx A3 n3 c3 a0.Cell.More,aL B4 151 [iV a0.w_.spent_.steps_,iV a0.w_.spent_.made_,iV a0.w_.spent_.calls_,iV a0.w_.config_.Way,iV a0.w_.config_.Steps,iV a0.w_.config_.Calls,iV a0.w_.config_.Made,iV a0.w_.config_.Young,iV a0.w_.config_.Full,iV a0.w_.config_.Sites,.nilIface,pV B5 0,pV B12 0,I A15 n15 c15,iV a0.w_.epoch_,iV a0.w_.serial_,iV a0.w_.sleepers_,I A16 n16 c16,I A17 n17 c17],aL B5 199 [I A6 n6 c6,I A7 n7 c7,I A8 n8 c8,I A9 n9 c9,pV B10 0],nZ A6 n6 c6 a0.w_.heap_.m_.Young,nZ A7 n7 c7 a0.w_.heap_.m_.Old,cx A8 n8 c8 a0.w_.heap_.roots_,cx A9 n9 c9 a0.w_.heap_.pending_,aL B10 247 [.map (some M11)],eY bS bU M11 a0.w_.heap_.set_.at_,aL B12 205 [I A13 n13 c13,.map (some M14)],ri A13 n13 c13 a0.w_.shapes_.shapes_,eY az bR M14 a0.w_.shapes_.next_,aZ A15 n15 c15 a0.w_.symbols_,cb A16 n16 c16 a0.w_.events_,aZ A17 n17 c17 a0.w_.out_]) (fun u post=>u=.agg #[iV r.Key.Kind,iV r.Key.N,.string r.Key.S,iV r.Attrs,iV r.Value.Kind,iV r.Value.N,.string r.Value.S,iV r.Get.Kind,iV r.Get.N,.string r.Get.S,iV r.Set.Kind,iV r.Set.N,.string r.Set.S]∧post=[]):=by
 refine be Tryz.func159 J J ?_;simp only [aM];refine U ?_;refine gD (aE J J) ?_;rintro _ _ ⟨B18,rfl,rfl⟩;refine gD (aF ci J) ?_;rintro _ _ ⟨B19,rfl,rfl⟩;refine U ?_;refine gR (ab (us:=[iV a2.Kind,iV a2.N,.string a2.S]) 1 J J bp J) ?_;refine U ?_;refine gE (aY J (wI _ _ _ _)) ?_;refine gD (aF ci J) ?_;rintro _ _ ⟨B20,rfl,rfl⟩;refine gO (ao (us:=[iV a2.Kind,iV a2.N,.string a2.S,iV a3,iV 0,iV 0,.string (⟨#[]⟩),iV 0,iV 0,.string (⟨#[]⟩),iV 0,iV 0,.string (⟨#[]⟩)]) (cs':=[iV a2.Kind,iV a2.N,.string a2.S,iV a3,iV 0,iV 0,.string (⟨#[]⟩),iV 0,iV 0,.string (⟨#[]⟩),iV 0,iV 0,.string (⟨#[]⟩)]) 0 J J J J bz J J J) ?_;rintro _ _ rfl;refine U ?_;refine ax ?_;refine U ?_;obtain ⟨q21,h⟩:=aG h;refine gE (bO J J q21.1 q21.2) ?_;refine U ?_;refine gR (bT 3 J J eC J) ?_;refine gR (bu 4 J aP J hN) ?_;refine U ?_;refine aq J (fun g22=> ?_) (fun g22=> ?_)
 ·replace h:=ag g22 h;refine U ?_;refine gR (ab (us:=[iV a2.Kind,iV a2.N,.string a2.S,iV a3,iV 0,iV 0,.string (⟨#[]⟩),iV 0,iV 0,.string (⟨#[]⟩),iV 0,iV 0,.string (⟨#[]⟩)]) 0 J J ce J) ?_;refine gO (ao (us:=[iV a2.Kind,iV a2.N,.string a2.S,iV a3,iV 0,iV 0,.string (⟨#[]⟩),iV 0,iV 0,.string (⟨#[]⟩),iV 0,iV 0,.string (⟨#[]⟩)]) (cs':=[iV a2.Kind,iV a2.N,.string a2.S,iV a3,iV 0,iV 0,.string (⟨#[]⟩),iV 0,iV 0,.string (⟨#[]⟩),iV 0,iV 0,.string (⟨#[]⟩)]) 1 J J J J bz J J J) ?_;rintro _ _ rfl;refine U ?_;obtain rfl:=am h;exact bJ (rs:=[.cell 8 42]) (vs:=[.agg #[iV a2.Kind,iV a2.N,.string a2.S,iV a3,iV 0,iV 0,.string (⟨#[]⟩),iV 0,iV 0,.string (⟨#[]⟩),iV 0,iV 0,.string (⟨#[]⟩)]]) J (.cons (bg 1 J J ce) .nil) J (cS [] 20) ⟨J,J⟩
 replace h:=ah g22 h;refine U ?_;refine gR (bT 3 J J eC J) ?_;refine U ?_;obtain ⟨q23,h⟩:=aG h;refine gE (bO J J q23.1 q23.2) ?_;obtain ⟨x24,hx24,h⟩:=aa h;obtain ⟨lx24,ux24,hx24⟩:=aK hx24;refine gR (bi 4 J aP J J hN ba lx24 ux24) ?_;refine gR (bm (us:=[iV x24.Kind,iV x24.N,.string x24.S]) 4 J aP J hx24 aC (fun _ _ _ h=>by rw [show _=_ from h];rfl)) ?_;refine gD (aF fH J) ?_;rintro _ _ ⟨B25,rfl,rfl⟩;refine gO (ao (us:=[iV x24.Kind,iV x24.N,.string x24.S]) (cs':=[iV x24.Kind,iV x24.N,.string x24.S]) 0 J J J J ba J J J) ?_;rintro _ _ rfl;refine bA ?_;refine U ?_;refine ax ?_;refine U ?_;refine gE (bj J J) ?_;refine U ?_;refine aq J (fun g26=> ?_) (fun g26=> ?_)
 ·replace h:=ag g26 h;refine U ?_;refine gR (ab (us:=[iV x24.Kind,iV x24.N,.string x24.S]) 0 J J aC J) ?_;refine U ?_;refine gO (ao (us:=[iV x24.Kind,iV x24.N,.string x24.S]) (cs':=[iV a2.Kind,iV a2.N,.string a2.S,iV a3,iV x24.Kind,iV x24.N,.string x24.S,iV 0,iV 0,.string (⟨#[]⟩),iV 0,iV 0,.string (⟨#[]⟩)]) 1 J J J J ba J J J) ?_;rintro _ _ rfl;refine U ?_;refine gR (ab (us:=[iV a2.Kind,iV a2.N,.string a2.S,iV a3,iV x24.Kind,iV x24.N,.string x24.S,iV 0,iV 0,.string (⟨#[]⟩),iV 0,iV 0,.string (⟨#[]⟩)]) 1 J J ce J) ?_;refine gO (ao (us:=[iV a2.Kind,iV a2.N,.string a2.S,iV a3,iV x24.Kind,iV x24.N,.string x24.S,iV 0,iV 0,.string (⟨#[]⟩),iV 0,iV 0,.string (⟨#[]⟩)]) (cs':=[iV a2.Kind,iV a2.N,.string a2.S,iV a3,iV x24.Kind,iV x24.N,.string x24.S,iV 0,iV 0,.string (⟨#[]⟩),iV 0,iV 0,.string (⟨#[]⟩)]) 2 J J J J bz J J J) ?_;rintro _ _ rfl;refine U ?_;obtain rfl:=am h;exact bJ (rs:=[.cell 8 42]) (vs:=[.agg #[iV a2.Kind,iV a2.N,.string a2.S,iV a3,iV x24.Kind,iV x24.N,.string x24.S,iV 0,iV 0,.string (⟨#[]⟩),iV 0,iV 0,.string (⟨#[]⟩)]]) J (.cons (bg 2 J J ce) .nil) J (cS [] 21) ⟨J,J⟩
 replace h:=ah g26 h;refine U ?_;refine aW (fun s L=> ∃p28 p29 p30 p31 p32 p33,fM N a2 a3 p28 p29 p30 p31 p32 p33=some r∧s=[(8,pV B19 0),(9,pV B20 0)]∧L=[ad B19 42 [iV 0,iV 0,.string (⟨#[]⟩),iV 0,iV 0,iV 0,.string (⟨#[]⟩),iV 0,iV 0,.string (⟨#[]⟩),iV 0,iV 0,.string (⟨#[]⟩)],ad B20 42 [iV a2.Kind,iV a2.N,.string a2.S,iV a3,iV 0,iV 0,.string (⟨#[]⟩),iV p28,iV p29,.string p30,iV p31,iV p32,.string p33]]) ?_ ?_
 ·refine ax ?_;obtain ⟨y34,hy34,h⟩:=aa h;refine eX (t:=[(0,pV B1 0),(8,pV B19 0),(9,pV B20 0),(10,pV B25 0)]) ?_ jd (aj _)
  refine f4 O 7 [] [5,6] [40,41,42,43,44,45,11] [[],[0],[1],[2],[],[3,4],[]] [aV (pV B1 0),
aV (pV B1 0),
aV (pV B1 6),
aV (pV B4 0),
aV (.agg #[iV x24.Kind,iV x24.N,.string x24.S]),
aX6 (fun (A37:Option Addr) (n37 c37:Nat) (A38:Option Addr) (n38 c38:Nat)=> .agg #[iV y34.Kind,iV y34.Shape,iV y34.Flags,iV y34.Age,I A37 n37 c37,I A38 n38 c38]) (fun A37 n37 c37 A38 n38 c38=> [aQ A37 n37 c37 y34.Slots,aQ A38 n38 c38 y34.More]),
aX1 (fun (B40:Nat)=>pV B40 0) (fun B40=> [ad B40 138 [iV 0,iV 0,iV 0,iV 0,I none 0 0,I none 0 0]])] [] (aj _) (iJ) O rfl rfl ?_ ?_ ?_
  ·exact iI
  ·refine ap J ?_ ?_
   ·refine ja (aF dm J) J ?_;rintro _ _ ⟨B39,rfl,rfl⟩;exact vW B39 (aj _)
   refine ap J ?_ ?_
   ·refine ja (ak (eG hy34) sJ J (hE (ai (i:=7) J J) (hE (ai (i:=8) J J) (hE (ai (i:=9) J J) (hE (ai (i:=10) J J) (hE (ai (i:=11) J J) (hE (ai (i:=12) J J) (hE (ai (i:=13) J J) (hE (ai (i:=14) J J) (hE (ai (i:=15) J J) (hE (ai (i:=16) J J) (hE (ai (i:=17) J J) (hE (ai (i:=18) J J) (hE (ai (i:=19) J J) (hE (ai (i:=20) J J) ac)))))))))))))) ef) J ?_;rintro _ _ ⟨_,⟨A35,n35,c35,A36,n36,c36,rfl,rfl⟩,rfl⟩;exact C6 A35 n35 c35 A36 n36 c36 (aj _)
   refine ap J ?_ ?_
   ·exact fF (ab (us:=[iV x24.Kind,iV x24.N,.string x24.S]) 0 J J aC J) J (bn J (aj _))
   refine ap J ?_ ?_
   ·exact fF (bT 4 J J rS J) J (bn J (aj _))
   refine ap J ?_ ?_
   ·exact cq (bB J lJ) J (bn J (aj _))
   refine ap J ?_ ?_
   ·exact cq (aR J) J (bn J (aj _))
   refine ap J ?_ ?_
   ·exact cq (aw J) J (bn J (aj _))
   exact dJ
  intro A37 n37 c37 A38 n38 c38 B40
  refine lU (t:=[(45,.agg #[iV y34.Kind,iV y34.Shape,iV y34.Flags,iV y34.Age,I A37 n37 c37,I A38 n38 c38]),(11,pV B40 0),(0,pV B1 0),(8,pV B19 0),(9,pV B20 0),(10,pV B25 0)]) (L':=[aQ A37 n37 c37 y34.Slots,aQ A38 n38 c38 y34.More,ad B40 138 [iV 0,iV 0,iV 0,iV 0,I none 0 0,I none 0 0],ad B25 30 [iV x24.Kind,iV x24.N,.string x24.S],ad B20 42 [iV a2.Kind,iV a2.N,.string a2.S,iV a3,iV 0,iV 0,.string (⟨#[]⟩),iV 0,iV 0,.string (⟨#[]⟩),iV 0,iV 0,.string (⟨#[]⟩)],ad B19 42 [iV 0,iV 0,.string (⟨#[]⟩),iV 0,iV 0,iV 0,.string (⟨#[]⟩),iV 0,iV 0,.string (⟨#[]⟩),iV 0,iV 0,.string (⟨#[]⟩)],ad B18 24 [iV a2.Kind,iV a2.N,.string a2.S],aL B1 140 [iV a0.Cell.Kind,iV a0.Cell.Shape,iV a0.Cell.Flags,iV a0.Cell.Age,I A2 n2 c2,I A3 n3 c3,pV B4 0,iV a0.at_.Kind,iV a0.at_.N,.string a0.at_.S],cx A2 n2 c2 a0.Cell.Slots,cx A3 n3 c3 a0.Cell.More,aL B4 151 [iV a0.w_.spent_.steps_,iV a0.w_.spent_.made_,iV a0.w_.spent_.calls_,iV a0.w_.config_.Way,iV a0.w_.config_.Steps,iV a0.w_.config_.Calls,iV a0.w_.config_.Made,iV a0.w_.config_.Young,iV a0.w_.config_.Full,iV a0.w_.config_.Sites,.nilIface,pV B5 0,pV B12 0,I A15 n15 c15,iV a0.w_.epoch_,iV a0.w_.serial_,iV a0.w_.sleepers_,I A16 n16 c16,I A17 n17 c17],aL B5 199 [I A6 n6 c6,I A7 n7 c7,I A8 n8 c8,I A9 n9 c9,pV B10 0],nZ A6 n6 c6 a0.w_.heap_.m_.Young,nZ A7 n7 c7 a0.w_.heap_.m_.Old,cx A8 n8 c8 a0.w_.heap_.roots_,cx A9 n9 c9 a0.w_.heap_.pending_,aL B10 247 [.map (some M11)],eY bS bU M11 a0.w_.heap_.set_.at_,aL B12 205 [I A13 n13 c13,.map (some M14)],ri A13 n13 c13 a0.w_.shapes_.shapes_,eY az bR M14 a0.w_.shapes_.next_,aZ A15 n15 c15 a0.w_.symbols_,cb A16 n16 c16 a0.w_.events_,aZ A17 n17 c17 a0.w_.out_]) ?_ jd (aj _)
  refine ns 7 J O (ao (us:=[iV y34.Kind,iV y34.Shape,iV y34.Flags,iV y34.Age,I A37 n37 c37,I A38 n38 c38]) (cs':=[iV y34.Kind,iV y34.Shape,iV y34.Flags,iV y34.Age,I A37 n37 c37,I A38 n38 c38]) 2 J J J J bY J J J) J J ?_;rintro _ _ rfl;refine wX ?_;refine jb O ?_;refine U ?_;refine gR (bu 0 J aA J hN) ?_;refine U ?_;refine aq J (fun g41=> ?_) (fun g41=> ?_)
  ·replace h:=ag g41 h
   refine bq O ([aQ A37 n37 c37 y34.Slots,aQ A38 n38 c38 y34.More,ad B40 138 [iV y34.Kind,iV y34.Shape,iV y34.Flags,iV y34.Age,I A37 n37 c37,I A38 n38 c38],ad B25 30 [iV x24.Kind,iV x24.N,.string x24.S],ad B19 42 [iV 0,iV 0,.string (⟨#[]⟩),iV 0,iV 0,iV 0,.string (⟨#[]⟩),iV 0,iV 0,.string (⟨#[]⟩),iV 0,iV 0,.string (⟨#[]⟩)],ad B18 24 [iV a2.Kind,iV a2.N,.string a2.S],aL B1 140 [iV a0.Cell.Kind,iV a0.Cell.Shape,iV a0.Cell.Flags,iV a0.Cell.Age,I A2 n2 c2,I A3 n3 c3,pV B4 0,iV a0.at_.Kind,iV a0.at_.N,.string a0.at_.S],cx A2 n2 c2 a0.Cell.Slots,cx A3 n3 c3 a0.Cell.More,aL B4 151 [iV a0.w_.spent_.steps_,iV a0.w_.spent_.made_,iV a0.w_.spent_.calls_,iV a0.w_.config_.Way,iV a0.w_.config_.Steps,iV a0.w_.config_.Calls,iV a0.w_.config_.Made,iV a0.w_.config_.Young,iV a0.w_.config_.Full,iV a0.w_.config_.Sites,.nilIface,pV B5 0,pV B12 0,I A15 n15 c15,iV a0.w_.epoch_,iV a0.w_.serial_,iV a0.w_.sleepers_,I A16 n16 c16,I A17 n17 c17],aL B5 199 [I A6 n6 c6,I A7 n7 c7,I A8 n8 c8,I A9 n9 c9,pV B10 0],nZ A6 n6 c6 a0.w_.heap_.m_.Young,nZ A7 n7 c7 a0.w_.heap_.m_.Old,cx A8 n8 c8 a0.w_.heap_.roots_,cx A9 n9 c9 a0.w_.heap_.pending_,aL B10 247 [.map (some M11)],eY bS bU M11 a0.w_.heap_.set_.at_,aL B12 205 [I A13 n13 c13,.map (some M14)],ri A13 n13 c13 a0.w_.shapes_.shapes_,eY az bR M14 a0.w_.shapes_.next_,aZ A15 n15 c15 a0.w_.symbols_,cb A16 n16 c16 a0.w_.events_,aZ A17 n17 c17 a0.w_.out_]) (cS [0,1,2,3,5,6,7,8,9,10,11,12,13,14,15,16,17,18,19,20,21,22,23] 24) ?_
   refine zE 0 J (bB J gm) ?_;refine zR 1 J (aO 2 J J eC J) ?_;obtain ⟨x42,hx42,h⟩:=aa h;obtain ⟨lx42,ux42,hx42⟩:=aK hx42;refine zR 2 J (bi 0 J aA J J hN ba lx42 ux42) ?_;refine zR 3 J (bm (us:=[iV x42.Kind,iV x42.N,.string x42.S]) 0 J aA J hx42 aC (fun _ _ _ h=>by rw [show _=_ from h];rfl)) ?_;refine zE 4 J (bB J gm) ?_;refine zR 5 J (aO 2 J J eC J) ?_;obtain ⟨x43,hx43,h⟩:=aa h;obtain ⟨lx43,ux43,hx43⟩:=aK hx43;refine zR 6 J (bi 0 J aA J J hN ba lx43 ux43) ?_;refine zR 7 J (bm (us:=[iV x43.Kind,iV x43.N,.string x43.S]) 0 J aA J hx43 aC (fun _ _ _ h=>by rw [show _=_ from h];rfl)) ?_;refine zE 8 J (bB J sB) ?_;refine zO 9 J (ao (us:=[iV x42.Kind,iV x42.N,.string x42.S]) (cs':=[iV a2.Kind,iV a2.N,.string a2.S,iV a3,iV 0,iV 0,.string (⟨#[]⟩),iV x42.Kind,iV x42.N,.string x42.S,iV 0,iV 0,.string (⟨#[]⟩)]) 4 J J J J ba J J J) ?_;rintro _ _ rfl;refine cN (cS [0,1,2,3,5,6,7,8,9,10,11,12,13,14,15,16,17,18,19,20,21,22,23] 24) ?_;refine cr ?_;refine zE 10 J (bB J sy) ?_;refine zO 11 J (ao (us:=[iV x43.Kind,iV x43.N,.string x43.S]) (cs':=[iV a2.Kind,iV a2.N,.string a2.S,iV a3,iV 0,iV 0,.string (⟨#[]⟩),iV x42.Kind,iV x42.N,.string x42.S,iV x43.Kind,iV x43.N,.string x43.S]) 4 J J J J ba J J J) ?_;rintro _ _ rfl;refine cN (cS [0,1,2,3,5,6,7,8,9,10,11,12,13,14,15,16,17,18,19,20,21,22,23] 24) ?_;refine cr ?_;refine bh O ?_;refine dT ?_
   exact ⟨_,_,⟨x42.Kind,x42.N,x42.S,x43.Kind,x43.N,x43.S,h,J,J⟩,sA,cS [5,4] 24⟩
  replace h:=ah g41 h;refine U ?_;exact ⟨_,_,⟨0,0,⟨#[]⟩,0,0,⟨#[]⟩,h,J,J⟩,sA,cS [5,4] 24⟩
 rintro _ _ ⟨p28,p29,p30,p31,p32,p33,h,rfl,rfl⟩;refine U ?_;refine gR (ab (us:=[iV a2.Kind,iV a2.N,.string a2.S,iV a3,iV 0,iV 0,.string (⟨#[]⟩),iV p28,iV p29,.string p30,iV p31,iV p32,.string p33]) 1 J J ce J) ?_;refine gO (ao (us:=[iV a2.Kind,iV a2.N,.string a2.S,iV a3,iV 0,iV 0,.string (⟨#[]⟩),iV p28,iV p29,.string p30,iV p31,iV p32,.string p33]) (cs':=[iV a2.Kind,iV a2.N,.string a2.S,iV a3,iV 0,iV 0,.string (⟨#[]⟩),iV p28,iV p29,.string p30,iV p31,iV p32,.string p33]) 0 J J J J bz J J J) ?_;rintro _ _ rfl;refine U ?_;obtain rfl:=am h;exact bJ (rs:=[.cell 8 42]) (vs:=[.agg #[iV a2.Kind,iV a2.N,.string a2.S,iV a3,iV 0,iV 0,.string (⟨#[]⟩),iV p28,iV p29,.string p30,iV p31,iV p32,.string p33]]) J (.cons (bg 0 J J ce) .nil) J (cS [] 2) ⟨J,J⟩
theorem iL {r:D0}: ∀v post,((fun (u:Value) (post:List Chunk)=>u=.agg #[iV r.Key.Kind,iV r.Key.N,.string r.Key.S,iV r.Attrs,iV r.Value.Kind,iV r.Value.N,.string r.Value.S,iV r.Get.Kind,iV r.Get.N,.string r.Get.S,iV r.Set.Kind,iV r.Set.N,.string r.Set.S]∧post=[])) v post→ ∀c∈post,bI c:=by
 rintro _ _ ⟨rfl,rfl⟩;exact ac
def mU (N:Nat)(a0:D4)(p39:(List D0)):Option (List D0):=
 some p39
def jr (N:Nat)(y41:((List DX)))(y36:((List Int)))(y16_1:(D5))(a0:D4):Nat→(List D0)→(List DX)→Int→Option (List D0)
 |0,_,_,_=>none
 |m44+1,p45,p46,p47=>bif decide (p47<(y41.length:Int)) then ((cm p46 p47).bind fun x50=>(cm y36 p47).bind fun x52=>(gJ N (⟨y16_1.Cell,a0,y16_1.at_⟩:D5) p47 x50 x52).bind fun y53=>dC ((p45.length+([y53]:List D0).length)≤549755813888) (dC (cg (p47+1)) ((jr N y41 y36 y16_1 a0 m44) (p45++([y53]:List D0)) p46 (p47+1)))) else (mU N a0 p45)
def eN (N:Nat)(a0:D4)(a1:Ea):Option (List D0):=
 (cu N a0 a1).bind fun y16=>vz y16 (fun y16_0=>some []) (fun y16_1=>(cE N a0).bind fun y35=>(kI N a0.shapes_ y16_1.Cell.Shape).bind fun y36=>(cE N a0).bind fun y40=>(im N a0.shapes_ y16_1.Cell.Shape).bind fun y41=>jr N y41 y36 y16_1 a0 N [] y41 0)
theorem fA {N:Nat}{a0:D4}{a1:Ea}{r:(List D0)}(h:eN N a0 a1=some r):Okc Tryz.prog 105 [pV B1 0,.agg #[iV a1.Kind,iV a1.N,.string a1.S]] ([aZ A12 n12 c12 a0.symbols_,cb A13 n13 c13 a0.events_,aZ A14 n14 c14 a0.out_,ad B1 151 [iV a0.spent_.steps_,iV a0.spent_.made_,iV a0.spent_.calls_,iV a0.config_.Way,iV a0.config_.Steps,iV a0.config_.Calls,iV a0.config_.Made,iV a0.config_.Young,iV a0.config_.Full,iV a0.config_.Sites,.nilIface,pV B2 0,pV B9 0,I A12 n12 c12,iV a0.epoch_,iV a0.serial_,iV a0.sleepers_,I A13 n13 c13,I A14 n14 c14],ad B2 199 [I A3 n3 c3,I A4 n4 c4,I A5 n5 c5,I A6 n6 c6,pV B7 0],bd A3 n3 c3 a0.heap_.m_.Young,bd A4 n4 c4 a0.heap_.m_.Old,aQ A5 n5 c5 a0.heap_.roots_,aQ A6 n6 c6 a0.heap_.pending_,ad B7 247 [.map (some M8)],aD bS bU M8 a0.heap_.set_.at_,ad B9 205 [I A10 n10 c10,.map (some M11)],cf A10 n10 c10 a0.shapes_.shapes_,aD az bR M11 a0.shapes_.next_]) (fun u post=> ∃A500 n500 c500,u=I A500 n500 c500∧post=[cF gH 42 (I A500 n500 c500) r,ad B1 151 [iV a0.spent_.steps_,iV a0.spent_.made_,iV a0.spent_.calls_,iV a0.config_.Way,iV a0.config_.Steps,iV a0.config_.Calls,iV a0.config_.Made,iV a0.config_.Young,iV a0.config_.Full,iV a0.config_.Sites,.nilIface,pV B2 0,pV B9 0,I A12 n12 c12,iV a0.epoch_,iV a0.serial_,iV a0.sleepers_,I A13 n13 c13,I A14 n14 c14],ad B2 199 [I A3 n3 c3,I A4 n4 c4,I A5 n5 c5,I A6 n6 c6,pV B7 0],bd A3 n3 c3 a0.heap_.m_.Young,bd A4 n4 c4 a0.heap_.m_.Old,aQ A5 n5 c5 a0.heap_.roots_,aQ A6 n6 c6 a0.heap_.pending_,ad B7 247 [.map (some M8)],aD bS bU M8 a0.heap_.set_.at_,ad B9 205 [I A10 n10 c10,.map (some M11)],cf A10 n10 c10 a0.shapes_.shapes_,aD az bR M11 a0.shapes_.next_]):=by
 refine be Tryz.func105 J J ?_;simp only [aM];refine U ?_;refine gD (aE J J) ?_;rintro _ _ ⟨B15,rfl,rfl⟩;refine U ?_;refine gR (ab (us:=[iV a1.Kind,iV a1.N,.string a1.S]) 0 J J aC J) ?_;obtain ⟨y16,hy16,h⟩:=aa h;rcases y16 with y16_0|y16_1
 ·replace h:=wm h;refine gD (aB (bD hy16) ed J (ay [1,2,3] [4,5,6,7,8,9,10,11,12,13,14] [0,1,2,3] 15 J)) ?_;rintro _ _ ⟨_,⟨rfl,rfl⟩,rfl⟩;refine U ?_;refine ax ?_;refine U ?_;refine dI J ?_;refine U ?_;obtain rfl:=am h;exact aI J J ((dH gH 42 _).trans (cS [0,1,2,3,4,5,6,7,8,9,10,11] 16)) ⟨_,_,_,J,J⟩
 replace h:=wl h;refine gD (aB (bD hy16) ed J (ay [1,2,3] [4,5,6,7,8,9,10,11,12,13,14] [0,1,2,3] 15 J)) ?_;rintro _ _ ⟨_,⟨B18,A19,n19,c19,A20,n20,c20,rfl,rfl⟩,rfl⟩;refine U ?_;refine ax ?_;refine U ?_;refine dS J ?_;refine U ?_;refine ax ?_;refine bq O _ (aj _) ?_;refine zE 0 J (aw J) ?_;refine zE 2 J (aw J) ?_;refine zE 3 J (aR J) ?_;refine zE 4 J (cP J dR) ?_;refine zE 5 J (bB J jZ) ?_;refine zR 6 J (aO 0 J J cv J) ?_;obtain ⟨y35,hy35,h⟩:=aa h;refine zD 1 J (ak (cT hy35) pB J (hE (ar (i:=3) J) (hE (ar (i:=4) J) (hE (al (i:=5) J) (hE (al (i:=6) J) (hE (al (i:=7) J) (hE (al (i:=8) J) (hE (ar (i:=9) J) (hE (aN (i:=10) J) (hE (ar (i:=11) J) (hE (al (i:=12) J) (hE (aN (i:=13) J) (hE (ai (i:=15) J J) (hE (ai (i:=16) J J) (hE (ai (i:=17) J J) ac)))))))))))))) cz) ?_;rintro _ _ ⟨_,⟨rfl,rfl⟩,rfl⟩;refine ⟨_,aj _,aj _,?_⟩;obtain ⟨y36,hy36,h⟩:=aa h;refine zD 7 J (ak (oy hy36) Bc J (hE (ar (i:=11) J) (hE (al (i:=12) J) (hE (aN (i:=13) J) ac))) nz) ?_;rintro _ _ ⟨_,⟨A37,n37,c37,rfl,rfl⟩,rfl⟩;refine cN (cS [1,2,3,4,5,6,7,8,9,10,11,12,13,14,15,16,17,18] 19) ?_;refine zE 8 J (aT J) ?_;refine bh O ?_;refine dT ?_
 refine aW (fun s L=> ∃p39 A39 n39 c39,mU N a0 p39=some r∧s=[(4,I none 0 0),(7,I A39 n39 c39)]∧L=[cF gH 42 (I A39 n39 c39) p39,aZ A12 n12 c12 a0.symbols_,cb A13 n13 c13 a0.events_,aZ A14 n14 c14 a0.out_,ad B1 151 [iV a0.spent_.steps_,iV a0.spent_.made_,iV a0.spent_.calls_,iV a0.config_.Way,iV a0.config_.Steps,iV a0.config_.Calls,iV a0.config_.Made,iV a0.config_.Young,iV a0.config_.Full,iV a0.config_.Sites,.nilIface,pV B2 0,pV B9 0,I A12 n12 c12,iV a0.epoch_,iV a0.serial_,iV a0.sleepers_,I A13 n13 c13,I A14 n14 c14],bd A3 n3 c3 a0.heap_.m_.Young,bd A4 n4 c4 a0.heap_.m_.Old,aQ A5 n5 c5 a0.heap_.roots_,aQ A6 n6 c6 a0.heap_.pending_,ad B2 199 [I A3 n3 c3,I A4 n4 c4,I A5 n5 c5,I A6 n6 c6,pV B7 0],cf A10 n10 c10 a0.shapes_.shapes_,aD az bR M11 a0.shapes_.next_,ad B9 205 [I A10 n10 c10,.map (some M11)],aD bS bU M8 a0.heap_.set_.at_,ad B7 247 [.map (some M8)]]) ?_ ?_
 ·refine ax ?_;obtain ⟨y40,hy40,h⟩:=aa h;obtain ⟨y41,hy41,h⟩:=aa h;refine eX (t:=[(0,pV B1 0),(4,I none 0 0),(5,pV B18 0),(7,I none 0 0),(8,I A37 n37 c37)]) ?_ jd (aj _)
  refine f4 O 10 [] [7,8,9] [27,28,29,30,31,32,33,34,35,36] [[],[0],[],[2],[3],[4],[5],[1,6],[7],[]] [aV (pV B1 0),
aV (pV B9 0),
aV (pV B18 0),
aV (pV B18 0),
aV (pV B18 0),
aV (pV B18 1),
aV (iV y16_1.Cell.Shape),
aX3 (fun (A43:Option Addr) (n43 c43:Nat)=> I A43 n43 c43) (fun A43 n43 c43=> [iF A43 n43 c43 y41]),
aV (iV (y41.length:Int)),
aV (iV 0)] [] (aj _) (iJ) O rfl rfl ?_ ?_ ?_
  ·exact iI
  ·refine ap J ?_ ?_
   ·exact cq (aw J) J (bn J (aj _))
   refine ap J ?_ ?_
   ·intro A43 n43 c43;exact fF (bu 0 J aA J DT) J (bn J (aj _))
   refine ap J ?_ ?_
   ·refine ja (ak (kF hy41) xJ J (hE (ar (i:=12) J) (hE (al (i:=13) J) (hE (aN (i:=14) J) ac))) ji) J ?_;rintro _ _ ⟨_,⟨A42,n42,c42,rfl,rfl⟩,rfl⟩;exact AC A42 n42 c42 (aj _)
   refine ap J ?_ ?_
   ·exact fF (aO 1 J J cv J) J (bn J (aj _))
   refine ap J ?_ ?_
   ·exact cq (bB J jZ) J (bn J (aj _))
   refine ap J ?_ ?_
   ·exact cq (cP J dR) J (bn J (aj _))
   refine ap J ?_ ?_
   ·exact cq (aR J) J (bn J (aj _))
   refine ap J ?_ ?_
   ·exact cq (aw J) J (bn J (aj _))
   refine ap J ?_ ?_
   ·refine ja (ak (cT hy40) pB J (hE (ar (i:=4) J) (hE (ar (i:=5) J) (hE (al (i:=6) J) (hE (al (i:=7) J) (hE (al (i:=8) J) (hE (al (i:=9) J) (hE (ar (i:=10) J) (hE (aN (i:=11) J) (hE (ar (i:=12) J) (hE (al (i:=13) J) (hE (aN (i:=14) J) (hE (ai (i:=16) J J) (hE (ai (i:=17) J J) (hE (ai (i:=18) J J) ac)))))))))))))) cz) J ?_;rintro _ _ ⟨_,⟨rfl,rfl⟩,rfl⟩;exact bn J (aj _)
   refine ap J ?_ ?_
   ·exact cq (aw J) J (bn J (aj _))
   exact dJ
  intro A43 n43 c43;refine lU (t:=[(34,I A43 n43 c43),(35,iV (y41.length:Int)),(36,iV 0),(0,pV B1 0),(4,I none 0 0),(5,pV B18 0),(7,I none 0 0),(8,I A37 n37 c37)]) (L':=[iF A43 n43 c43 y41,cF (kg .i64) 3 (I A37 n37 c37) y36,ad B18 140 [iV y16_1.Cell.Kind,iV y16_1.Cell.Shape,iV y16_1.Cell.Flags,iV y16_1.Cell.Age,I A19 n19 c19,I A20 n20 c20,pV B1 0,iV y16_1.at_.Kind,iV y16_1.at_.N,.string y16_1.at_.S],aQ A19 n19 c19 y16_1.Cell.Slots,aQ A20 n20 c20 y16_1.Cell.More,ad B1 151 [iV a0.spent_.steps_,iV a0.spent_.made_,iV a0.spent_.calls_,iV a0.config_.Way,iV a0.config_.Steps,iV a0.config_.Calls,iV a0.config_.Made,iV a0.config_.Young,iV a0.config_.Full,iV a0.config_.Sites,.nilIface,pV B2 0,pV B9 0,I A12 n12 c12,iV a0.epoch_,iV a0.serial_,iV a0.sleepers_,I A13 n13 c13,I A14 n14 c14],ad B2 199 [I A3 n3 c3,I A4 n4 c4,I A5 n5 c5,I A6 n6 c6,pV B7 0],bd A3 n3 c3 a0.heap_.m_.Young,bd A4 n4 c4 a0.heap_.m_.Old,aQ A5 n5 c5 a0.heap_.roots_,aQ A6 n6 c6 a0.heap_.pending_,ad B7 247 [.map (some M8)],aD bS bU M8 a0.heap_.set_.at_,ad B9 205 [I A10 n10 c10,.map (some M11)],cf A10 n10 c10 a0.shapes_.shapes_,aD az bR M11 a0.shapes_.next_,ad B15 30 [iV a1.Kind,iV a1.N,.string a1.S],aZ A12 n12 c12 a0.symbols_,cb A13 n13 c13 a0.events_,aZ A14 n14 c14 a0.out_]) ?_ jd (aj _);refine jb O ?_;refine U ?_
  refine bV (fun m s L=> ∃p45 p46 p47 A45 n45 c45 A46 n46 c46,jr N y41 y36 y16_1 a0 m p45 p46 p47=some r∧s=[(4,I none 0 0),(5,pV B18 0),(7,I A45 n45 c45),(8,I A37 n37 c37),(34,I A46 n46 c46),(35,iV (y41.length:Int)),(36,iV p47)]∧L=[cF gH 42 (I A45 n45 c45) p45,cF (kg .i64) 3 (I A37 n37 c37) y36,iF A46 n46 c46 p46,aQ A19 n19 c19 y16_1.Cell.Slots,aQ A20 n20 c20 y16_1.Cell.More,ad B18 140 [iV y16_1.Cell.Kind,iV y16_1.Cell.Shape,iV y16_1.Cell.Flags,iV y16_1.Cell.Age,I A19 n19 c19,I A20 n20 c20,pV B1 0,iV y16_1.at_.Kind,iV y16_1.at_.N,.string y16_1.at_.S],aZ A12 n12 c12 a0.symbols_,cb A13 n13 c13 a0.events_,aZ A14 n14 c14 a0.out_,ad B1 151 [iV a0.spent_.steps_,iV a0.spent_.made_,iV a0.spent_.calls_,iV a0.config_.Way,iV a0.config_.Steps,iV a0.config_.Calls,iV a0.config_.Made,iV a0.config_.Young,iV a0.config_.Full,iV a0.config_.Sites,.nilIface,pV B2 0,pV B9 0,I A12 n12 c12,iV a0.epoch_,iV a0.serial_,iV a0.sleepers_,I A13 n13 c13,I A14 n14 c14],bd A3 n3 c3 a0.heap_.m_.Young,bd A4 n4 c4 a0.heap_.m_.Old,aQ A5 n5 c5 a0.heap_.roots_,aQ A6 n6 c6 a0.heap_.pending_,ad B2 199 [I A3 n3 c3,I A4 n4 c4,I A5 n5 c5,I A6 n6 c6,pV B7 0],cf A10 n10 c10 a0.shapes_.shapes_,aD az bR M11 a0.shapes_.next_,ad B9 205 [I A10 n10 c10,.map (some M11)],aD bS bU M8 a0.heap_.set_.at_,ad B7 247 [.map (some M8)]]) N _ _ ⟨[],y41,0,none,0,0,A43,n43,c43,h,J,J⟩ sA ((dH gH 42 _).trans (cS [0,2,1,4,5,3,18,19,20,6,8,9,10,11,7,15,16,14,13,12] 21)) ?_
  rintro (_|m44) _ _ ⟨p45,p46,p47,A45,n45,c45,A46,n46,c46,h,rfl,rfl⟩
  ·exact bc h
  rw [jr.eq_2] at h;refine U ?_;refine ax ?_;refine aq J (fun g49=> ?_) (fun g49=> ?_)
  ·replace h:=ag g49 h;refine U ?_;refine ax ?_;refine U ?_;obtain ⟨x50,hx50,h⟩:=aa h;obtain ⟨lx50,ux50,hx50⟩:=aK hx50;refine gR (bi 2 J aA J J DT dE lx50 ux50) ?_;refine gR (bm (us:=[iV x50.Kind,iV x50.N,.string x50.S]) 2 J aA J hx50 bp (fun _ _ _ h=>by rw [show _=_ from h];rfl)) ?_;refine gD (aF mt J) ?_;rintro _ _ ⟨B51,rfl,rfl⟩;refine U ?_;refine gO (ao (us:=[iV x50.Kind,iV x50.N,.string x50.S]) (cs':=[iV x50.Kind,iV x50.N,.string x50.S]) 0 J J J J dE J J J) ?_;rintro _ _ rfl;refine bA ?_;refine U ?_;obtain ⟨x52,hx52,h⟩:=aa h;obtain ⟨lx52,ux52,hx52⟩:=aK hx52;refine eX (t:=[(4,I none 0 0),(5,pV B18 0),(7,I A45 n45 c45),(8,I A37 n37 c37),(9,iV p47),(10,pV B51 0),(34,I A46 n46 c46),(35,iV (y41.length:Int)),(36,iV p47)]) ?_ jd (aj _)
   refine f4 O 8 [0] [0,1,2,3,7] [41,42,43,44,45,46,47,48] [[],[],[],[],[],[],[4,5],[6]] [aV (I A45 n45 c45),
aV (pV B18 0),
aV (iV p47),
aV (.agg #[iV x50.Kind,iV x50.N,.string x50.S]),
aV (I A37 n37 c37),
aV (iV p47),
aV (d3 (I A37 n37 c37) p47.toNat 1 0),
aV (iV x52)] [] (aj _) (gt rfl iJ) O rfl rfl ?_ ?_ ?_
   ·refine gr J ?_ ?_
    ·exact nr (aw J) J (bn J (aj _))
    exact iI
   ·refine ap J ?_ ?_
    ·exact fF (dp (u:=iV x52) 2 J aA J hx52 cv (fun _ _ _ h=>by rw [show _=_ from h];rfl)) J (bn J (aj _))
    refine ap J ?_ ?_
    ·exact fF (bi 2 J aA J J DQ f7 lx52 ux52) J (bn J (aj _))
    refine ap J ?_ ?_
    ·exact cq (aw J) J (bn J (aj _))
    refine ap J ?_ ?_
    ·exact cq (aw J) J (bn J (aj _))
    refine ap J ?_ ?_
    ·exact fF (ab (us:=[iV x50.Kind,iV x50.N,.string x50.S]) 0 J J bp J) J (bn J (aj _))
    refine ap J ?_ ?_
    ·exact cq (aw J) J (bn J (aj _))
    refine ap J ?_ ?_
    ·exact cq (aw J) J (bn J (aj _))
    refine ap J ?_ ?_
    ·exact cq (aw J) J (bn J (aj _))
    exact dJ
   refine lU (t:=[(41,I A45 n45 c45),(42,pV B18 0),(43,iV p47),(44,.agg #[iV x50.Kind,iV x50.N,.string x50.S]),(48,iV x52),(4,I none 0 0),(5,pV B18 0),(7,I A45 n45 c45),(8,I A37 n37 c37),(9,iV p47),(10,pV B51 0),(34,I A46 n46 c46),(35,iV (y41.length:Int)),(36,iV p47)]) (L':=[ad B51 24 [iV x50.Kind,iV x50.N,.string x50.S],cF gH 42 (I A45 n45 c45) p45,cF (kg .i64) 3 (I A37 n37 c37) y36,iF A46 n46 c46 p46,aQ A19 n19 c19 y16_1.Cell.Slots,aQ A20 n20 c20 y16_1.Cell.More,ad B18 140 [iV y16_1.Cell.Kind,iV y16_1.Cell.Shape,iV y16_1.Cell.Flags,iV y16_1.Cell.Age,I A19 n19 c19,I A20 n20 c20,pV B1 0,iV y16_1.at_.Kind,iV y16_1.at_.N,.string y16_1.at_.S],aZ A12 n12 c12 a0.symbols_,cb A13 n13 c13 a0.events_,aZ A14 n14 c14 a0.out_,ad B1 151 [iV a0.spent_.steps_,iV a0.spent_.made_,iV a0.spent_.calls_,iV a0.config_.Way,iV a0.config_.Steps,iV a0.config_.Calls,iV a0.config_.Made,iV a0.config_.Young,iV a0.config_.Full,iV a0.config_.Sites,.nilIface,pV B2 0,pV B9 0,I A12 n12 c12,iV a0.epoch_,iV a0.serial_,iV a0.sleepers_,I A13 n13 c13,I A14 n14 c14],bd A3 n3 c3 a0.heap_.m_.Young,bd A4 n4 c4 a0.heap_.m_.Old,aQ A5 n5 c5 a0.heap_.roots_,aQ A6 n6 c6 a0.heap_.pending_,ad B2 199 [I A3 n3 c3,I A4 n4 c4,I A5 n5 c5,I A6 n6 c6,pV B7 0],cf A10 n10 c10 a0.shapes_.shapes_,aD az bR M11 a0.shapes_.next_,ad B9 205 [I A10 n10 c10,.map (some M11)],aD bS bU M8 a0.heap_.set_.at_,ad B7 247 [.map (some M8)]]) ?_ jd (aj _)
   obtain ⟨y53,hy53,h⟩:=aa h;refine r7 8 J O (ak (jV hy53) xA J (hE (ar (i:=6) J) (hE (al (i:=4) J) (hE (al (i:=5) J) (hE (ar (i:=10) J) (hE (ar (i:=15) J) (hE (al (i:=11) J) (hE (al (i:=12) J) (hE (al (i:=13) J) (hE (al (i:=14) J) (hE (ar (i:=20) J) (hE (aN (i:=19) J) (hE (ar (i:=18) J) (hE (al (i:=16) J) (hE (aN (i:=17) J) (hE (ai (i:=7) J J) (hE (ai (i:=8) J J) (hE (ai (i:=9) J J) ac))))))))))))))))) iL) J J J ?_;rintro _ _ ⟨_,⟨rfl,rfl⟩,rfl⟩;refine r7 9 J O (bM (R:=gH) (vss:=[[iV y53.Key.Kind,iV y53.Key.N,.string y53.Key.S,iV y53.Attrs,iV y53.Value.Kind,iV y53.Value.N,.string y53.Value.S,iV y53.Get.Kind,iV y53.Get.N,.string y53.Get.S,iV y53.Set.Kind,iV y53.Set.N,.string y53.Set.S]]) (xs:=[y53]) J (zx _ _ _ _ _ _ _ _ _ _ _ _ _) J J (fun _ _ hr=> .cons J All2.nil)) J J J ?_;rintro _ _ ⟨A54,n54,c54,rfl,rfl⟩;obtain ⟨q55,h⟩:=aG h;refine r7 10 J O (ta 2 0 J J aA J J DU CY J J J q55) J J J ?_;rintro _ _ ⟨A56,n56,c56,rfl,rfl⟩;refine rg 11 J O (aT J) J J J ?_;refine jb O ?_;refine U ?_;obtain ⟨q57,h⟩:=aG h;refine gE (bO J J q57.1 q57.2) ?_;refine U ?_
   exact ⟨m44,_,_,Eg _,⟨p45++([y53]:List D0),p46,p47+1,A56,n56,c56,A46,n46,c46,h,J,J⟩,sA,cS [2,3,4,5,6,7,8,9,10,11,12,13,14,15,16,17,18,19,20,21] 22⟩
  replace h:=ah g49 h;refine U ?_;exact ⟨_,_,⟨p45,A45,n45,c45,h,J,J⟩,sA,cS [0,6,7,8,9,10,11,12,13,14,15,16,17,18,19] 20⟩
 rintro _ _ ⟨p39,A39,n39,c39,h,rfl,rfl⟩;refine U ?_;obtain rfl:=am h;exact aI J J (cS [0,4,9,5,6,7,8,14,13,12,10,11] 15) ⟨_,_,_,J,J⟩
def mT (N:Nat)(a1:Ea):Option (List D0):=
 (dM N a1).bind fun y2=>some []
theorem qB {N:Nat}{a1:Ea}{r:(List D0)}(h:mT N a1=some r):Okc Tryz.prog 105 [.pointer none,.agg #[iV a1.Kind,iV a1.N,.string a1.S]] ([]) (fun u post=> ∃A0 n0 c0,u=I A0 n0 c0∧post=[cF gH 42 (I A0 n0 c0) r]):=by
 refine be Tryz.func105 J J ?_;simp only [aM];refine U ?_;refine gD (aE J J) ?_;rintro _ _ ⟨B1,rfl,rfl⟩;refine U ?_;refine gR (ab (us:=[iV a1.Kind,iV a1.N,.string a1.S]) 0 J J aC J) ?_;obtain ⟨y2,hy2,h⟩:=aa h;refine gD (ak (eM hy2) ed J (ac) d9) ?_;rintro _ _ ⟨_,⟨rfl,rfl⟩,rfl⟩;refine U ?_;refine ax ?_;refine U ?_;refine dI J ?_;refine U ?_;obtain rfl:=am h;exact aI J J ((dH gH 42 _).trans (cS [0] 2)) ⟨_,_,_,J,J⟩
theorem pI {r:(List D0)}: ∀v post,((fun (u:Value) (post:List Chunk)=> ∃A0 n0 c0,u=I A0 n0 c0∧post=[cF gH 42 (I A0 n0 c0) r])) v post→ ∀c∈post,bI c:=by
 rintro _ _ ⟨_,_,_,rfl,rfl⟩;exact hE cG (ac)
def qH (N:Nat)(p7:Int):Option (Int×Bool):=
 bif decide (4294967294<p7) then (some (0,false)) else (some (p7,true))
def nE (N:Nat)(a0:ByteArray):Nat→Int→Int→Option (Int×Bool)
 |0,_,_=>none
 |m8+1,p9,p10=>bif decide (p10<(a0.size:Int)) then ((yk a0 p10).bind fun x12=>(bif decide (x12<48) then (some true) else ((yk a0 p10).bind fun x14=>some (decide (57<x14)))).bind fun b13=>bif b13 then (some (0,false)) else (dC (cg (10*p9)) ((yk a0 p10).bind fun x17=>dC (cg ((10*p9)+(IntKind.i64.wrap (IntKind.u8.wrap (x17 - 48))))) (dC (cg (p10+1)) ((nE N a0 m8) ((10*p9)+(IntKind.i64.wrap (IntKind.u8.wrap (x17 - 48)))) (p10+1)))))) else (qH N p9)
def rT (N:Nat)(a0:ByteArray):Option (Int×Bool):=
 (bif a0.toList==(⟨#[]⟩:ByteArray).toList then (some true) else (some (decide (10<(a0.size:Int))))).bind fun b1=>(bif b1 then (some true) else ((yk a0 0).bind fun x3=>(bif decide (x3=48) then (some (decide (1<(a0.size:Int)))) else (some false)).bind fun b4=>some b4)).bind fun b2=>bif b2 then (some (0,false)) else (nE N a0 N 0 0)
theorem uE {N:Nat}{a0:ByteArray}{r:(Int×Bool)}(h:rT N a0=some r):Okc Tryz.prog 151 [.string a0] ([]) (fun u post=>u=.tuple #[iV r.1,.bool r.2]∧post=[]):=by
 refine be Tryz.func151 J J ?_;simp only [aM];refine U ?_;refine ax ?_;refine U ?_;refine gE (tt J J) ?_;refine U ?_;obtain ⟨b1,hb1,h⟩:=aa h;refine aJ 4 12 b1 ?_ ?_
 ·clear h;refine aH 8 J (fun g1=> ?_) (fun g1=> ?_)
  ·have h:=ag g1 hb1;refine U ?_;obtain rfl:=am h;exact ae sA (cS [] 0)
  have h:=ah g1 hb1;refine U ?_;refine iG (qP J hO) J (cB g1 J) J ?_;refine U ?_;obtain rfl:=am h;exact ae sA (cS [] 0)
 refine U ?_;obtain ⟨b2,hb2,h⟩:=aa h;refine aJ 9 22 b2 ?_ ?_
 ·clear h;refine aH 13 J (fun g2=> ?_) (fun g2=> ?_)
  ·have h:=ag g2 hb2;refine U ?_;obtain rfl:=am h;exact ae sA (cS [] 0)
  have h:=ah g2 hb2;refine U ?_;obtain ⟨x3,hx3,h⟩:=aa h;refine iG (pu J J hO hx3) J (cB g2 J) J ?_;refine U ?_;obtain ⟨b4,hb4,h⟩:=aa h;refine aJ 4 21 b4 ?_ ?_
  ·clear h;refine aH 17 J (fun g4=> ?_) (fun g4=> ?_)
   ·have h:=ag g4 hb4;refine U ?_;refine iG (qP J hO) J (aX g4 J) J ?_;refine U ?_;obtain rfl:=am h;exact ae sA (cS [] 0)
   have h:=ah g4 hb4;refine U ?_;obtain rfl:=am h;exact ae sA (cS [] 0)
  refine U ?_;obtain rfl:=am h;exact ae sA (cS [] 0)
 refine U ?_;refine aq J (fun g5=> ?_) (fun g5=> ?_)
 ·replace h:=ag g5 h;refine U ?_;obtain rfl:=am h;exact cw J J J (cS [] 0) ⟨J,J⟩
 replace h:=ah g5 h;refine U ?_;refine aW (fun s L=> ∃p7,qH N p7=some r∧s=[(2,iV 0),(3,.bool false),(4,iV p7)]∧L=[]) ?_ ?_
 ·refine U ?_;refine gE (qP J hO) ?_;refine U ?_;refine bV (fun m s L=> ∃p9 p10,nE N a0 m p9 p10=some r∧s=[(0,.string a0),(2,iV 0),(3,.bool false),(4,iV p9),(24,iV (a0.size:Int)),(25,iV p10)]∧L=[]) N _ _ ⟨0,0,h,J,J⟩ sA (cS [] 0) ?_;rintro (_|m8) _ _ ⟨p9,p10,h,rfl,rfl⟩
  ·exact bc h
  rw [nE.eq_2] at h;refine U ?_;refine ax ?_;refine aq J (fun g11=> ?_) (fun g11=> ?_)
  ·replace h:=ag g11 h;refine U ?_;refine ax ?_;refine U ?_;refine ax ?_;refine U ?_;obtain ⟨x12,hx12,h⟩:=aa h;refine gE (pu J J hO hx12) ?_;refine U ?_;obtain ⟨b13,hb13,h⟩:=aa h;refine aJ 5 37 b13 ?_ ?_
   ·clear h;refine aH 32 J (fun g13=> ?_) (fun g13=> ?_)
    ·have h:=ag g13 hb13;refine U ?_;obtain rfl:=am h;exact ae sA (cS [] 0)
    have h:=ah g13 hb13;refine U ?_;obtain ⟨x14,hx14,h⟩:=aa h;refine iG (pu J J hO hx14) J (cB g13 J) J ?_;refine U ?_;obtain rfl:=am h;exact ae sA (cS [] 0)
   refine U ?_;refine aq J (fun g15=> ?_) (fun g15=> ?_)
   ·replace h:=ag g15 h;refine U ?_;obtain rfl:=am h;exact cw J J J (cS [] 0) ⟨J,J⟩
   replace h:=ah g15 h;refine U ?_;obtain ⟨q16,h⟩:=aG h;refine gE (mC J J q16.1 q16.2) ?_;refine U ?_;obtain ⟨x17,hx17,h⟩:=aa h;refine gE (pu J J hO hx17) ?_;refine gE (Az J J) ?_;refine gE (CN J J hP) ?_;obtain ⟨q18,h⟩:=aG h;refine gE (bO J J q18.1 q18.2) ?_;refine U ?_;obtain ⟨q19,h⟩:=aG h;refine gE (bO J J q19.1 q19.2) ?_;refine U ?_;exact ⟨m8,_,_,Eg _,⟨(10*p9)+(IntKind.i64.wrap (IntKind.u8.wrap (x17 - 48))),p10+1,h,J,J⟩,sA,cS [] 0⟩
  replace h:=ah g11 h;refine U ?_;exact ⟨_,_,⟨p9,h,J,J⟩,sA,cS [] 0⟩
 rintro _ _ ⟨p7,h,rfl,rfl⟩;refine ax ?_;refine U ?_;refine aq J (fun g20=> ?_) (fun g20=> ?_)
 ·replace h:=ag g20 h;refine U ?_;obtain rfl:=am h;exact cw J J J (cS [] 0) ⟨J,J⟩
 replace h:=ah g20 h;refine U ?_;obtain rfl:=am h;exact cw J J J (cS [] 0) ⟨J,J⟩
theorem th {r:(Int×Bool)}: ∀v post,((fun (u:Value) (post:List Chunk)=>u=.tuple #[iV r.1,.bool r.2]∧post=[])) v post→ ∀c∈post,bI c:=by
 rintro _ _ ⟨rfl,rfl⟩;exact ac
def fd (N:Nat)(a0:DX):Option Bool:=
 bif decide (a0.Kind=0) then ((bif a0.S.toList==(⟨#[]⟩:ByteArray).toList then (some (decide (0≤a0.N))) else (some false)).bind fun b3=>(bif b3 then (some (decide (a0.N≤4294967294))) else (some false)).bind fun b4=>some b4) else (bif decide (a0.Kind=1) then ((rT N a0.S).bind fun y6=>(bif decide (a0.N=0) then (some (decide ((a0.S.size:Int)≤65536))) else (some false)).bind fun b7=>(bif b7 then (some (!y6.2)) else (some false)).bind fun b8=>some b8) else (bif decide (a0.Kind=2) then ((bif a0.S.toList==(⟨#[]⟩:ByteArray).toList then (some (decide (1≤a0.N))) else (some false)).bind fun b10=>some b10) else (some false)))
theorem fq {N:Nat}{a0:DX}{r:Bool}(h:fd N a0=some r):Okc Tryz.prog 99 [.agg #[iV a0.Kind,iV a0.N,.string a0.S]] ([]) (fun u post=>u=.bool r∧post=[]):=by
 refine be Tryz.func99 J J ?_;simp only [aM];refine U ?_;refine gD (aE J J) ?_;rintro _ _ ⟨B1,rfl,rfl⟩;refine U ?_;refine ax ?_;refine U ?_;refine aq J (fun g2=> ?_) (fun g2=> ?_)
 ·replace h:=ag g2 h;refine U ?_;refine gE (tt J J) ?_;refine U ?_;obtain ⟨b3,hb3,h⟩:=aa h;refine aJ 4 16 b3 ?_ ?_
  ·clear h;refine aH 12 J (fun g3=> ?_) (fun g3=> ?_)
   ·have h:=ag g3 hb3;refine U ?_;obtain rfl:=am h;exact ae sA (cS [0] 1)
   have h:=ah g3 hb3;refine U ?_;obtain rfl:=am h;exact ae sA (cS [0] 1)
  refine U ?_;obtain ⟨b4,hb4,h⟩:=aa h;refine aJ 4 21 b4 ?_ ?_
  ·clear h;refine aH 17 J (fun g4=> ?_) (fun g4=> ?_)
   ·have h:=ag g4 hb4;refine U ?_;obtain rfl:=am h;exact ae sA (cS [0] 1)
   have h:=ah g4 hb4;refine U ?_;obtain rfl:=am h;exact ae sA (cS [0] 1)
  refine U ?_;obtain rfl:=am h;exact aI J J (cS [] 1) ⟨J,J⟩
 replace h:=ah g2 h;refine U ?_;refine aq J (fun g5=> ?_) (fun g5=> ?_)
 ·replace h:=ag g5 h;refine U ?_;obtain ⟨y6,hy6,h⟩:=aa h;refine gD (ak (uE hy6) Bd J (ac) th) ?_;rintro _ _ ⟨_,⟨rfl,rfl⟩,rfl⟩;refine U ?_;obtain ⟨b7,hb7,h⟩:=aa h;refine aJ 5 38 b7 ?_ ?_
  ·clear h;refine aH 33 J (fun g7=> ?_) (fun g7=> ?_)
   ·have h:=ag g7 hb7;refine U ?_;refine iG (qP J hO) J (aX g7 J) J ?_;refine U ?_;obtain rfl:=am h;exact ae sA (cS [0] 1)
   have h:=ah g7 hb7;refine U ?_;obtain rfl:=am h;exact ae sA (cS [0] 1)
  refine U ?_;obtain ⟨b8,hb8,h⟩:=aa h;refine aJ 3 42 b8 ?_ ?_
  ·clear h;refine aH 39 J (fun g8=> ?_) (fun g8=> ?_)
   ·have h:=ag g8 hb8;refine U ?_;obtain rfl:=am h;exact ae sA (cS [0] 1)
   have h:=ah g8 hb8;refine U ?_;obtain rfl:=am h;exact ae sA (cS [0] 1)
  refine U ?_;obtain rfl:=am h;exact aI J J (cS [] 1) ⟨J,J⟩
 replace h:=ah g5 h;refine U ?_;refine aq J (fun g9=> ?_) (fun g9=> ?_)
 ·replace h:=ag g9 h;refine U ?_;refine gE (tt J J) ?_;refine U ?_;obtain ⟨b10,hb10,h⟩:=aa h;refine aJ 4 52 b10 ?_ ?_
  ·clear h;refine aH 48 J (fun g10=> ?_) (fun g10=> ?_)
   ·have h:=ag g10 hb10;refine U ?_;obtain rfl:=am h;exact ae sA (cS [0] 1)
   have h:=ah g10 hb10;refine U ?_;obtain rfl:=am h;exact ae sA (cS [0] 1)
  refine U ?_;obtain rfl:=am h;exact aI J J (cS [] 1) ⟨J,J⟩
 replace h:=ah g9 h;refine U ?_;obtain rfl:=am h;exact aI J J (cS [] 1) ⟨J,J⟩
theorem ea {r:Bool}: ∀v post,((fun (u:Value) (post:List Chunk)=>u=.bool r∧post=[])) v post→ ∀c∈post,bI c:=by
 rintro _ _ ⟨rfl,rfl⟩;exact ac
def oZ (N:Nat)(a0:Int):Option Bool:=
 some (!decide (a0=a0))
theorem qT {N:Nat}{a0:Int}{r:Bool}(h:oZ N a0=some r):Okc Tryz.prog 232 [iV a0] ([]) (fun u post=>u=.bool r∧post=[]):=by
 refine be Tryz.func232 J J ?_;simp only [aM];refine U ?_;obtain rfl:=am h;exact aI J J (cS [] 0) ⟨J,J⟩
theorem oY {r:Bool}: ∀v post,((fun (u:Value) (post:List Chunk)=>u=.bool r∧post=[])) v post→ ∀c∈post,bI c:=by
 rintro _ _ ⟨rfl,rfl⟩;exact ac
def mI (N:Nat)(a0:Int)(a1:Int):Option Int:=
 (oZ N a0).bind fun y1=>(oZ N a1).bind fun y2=>bif y1 then (bif y2 then (some 0) else (some (-1))) else (bif y2 then (some 1) else (bif decide (a0<a1) then (some (-1)) else (bif decide (a1<a0) then (some 1) else (some 0))))
theorem o0 {N:Nat}{a0:Int}{a1:Int}{r:Int}(h:mI N a0 a1=some r):Okc Tryz.prog 208 [iV a0,iV a1] ([]) (fun u post=>u=iV r∧post=[]):=by
 refine be Tryz.func208 J J ?_;simp only [aM];refine U ?_;obtain ⟨y1,hy1,h⟩:=aa h;refine gD (ak (qT hy1) xr J (ac) oY) ?_;rintro _ _ ⟨_,⟨rfl,rfl⟩,rfl⟩;refine U ?_;obtain ⟨y2,hy2,h⟩:=aa h;refine gD (ak (qT hy2) xr J (ac) oY) ?_;rintro _ _ ⟨_,⟨rfl,rfl⟩,rfl⟩;refine U ?_;refine ax ?_;refine U ?_;refine aq J (fun g3=> ?_) (fun g3=> ?_)
 ·replace h:=ag g3 h;refine ax ?_;refine U ?_;refine aq J (fun g4=> ?_) (fun g4=> ?_)
  ·replace h:=ag g4 h;refine U ?_;obtain rfl:=am h;exact aI J J (cS [] 0) ⟨J,J⟩
  replace h:=ah g4 h;refine U ?_;obtain rfl:=am h;exact aI J J (cS [] 0) ⟨J,J⟩
 replace h:=ah g3 h;refine U ?_;refine ax ?_;refine U ?_;refine aq J (fun g5=> ?_) (fun g5=> ?_)
 ·replace h:=ag g5 h;refine U ?_;obtain rfl:=am h;exact aI J J (cS [] 0) ⟨J,J⟩
 replace h:=ah g5 h;refine U ?_;refine ax ?_;refine U ?_;refine aq J (fun g6=> ?_) (fun g6=> ?_)
 ·replace h:=ag g6 h;refine U ?_;obtain rfl:=am h;exact aI J J (cS [] 0) ⟨J,J⟩
 replace h:=ah g6 h;refine U ?_;refine ax ?_;refine U ?_;refine aq J (fun g7=> ?_) (fun g7=> ?_)
 ·replace h:=ag g7 h;refine U ?_;obtain rfl:=am h;exact aI J J (cS [] 0) ⟨J,J⟩
 replace h:=ah g7 h;refine U ?_;obtain rfl:=am h;exact aI J J (cS [] 0) ⟨J,J⟩
theorem nh {r:Int}: ∀v post,((fun (u:Value) (post:List Chunk)=>u=iV r∧post=[])) v post→ ∀c∈post,bI c:=by
 rintro _ _ ⟨rfl,rfl⟩;exact ac
def fc (N:Nat)(a0:DX)(a1:DX):Option Int:=
 (bif decide (a0.Kind=0) then (some (decide (a1.Kind=0))) else (some false)).bind fun b3=>bif b3 then ((mI N a0.N a1.N).bind fun y5=>some y5) else ((mI N a0.Kind a1.Kind).bind fun y6=>some y6)
theorem fo {N:Nat}{a0:DX}{a1:DX}{r:Int}(h:fc N a0 a1=some r):Okc Tryz.prog 161 [.agg #[iV a0.Kind,iV a0.N,.string a0.S],.agg #[iV a1.Kind,iV a1.N,.string a1.S]] ([]) (fun u post=>u=iV r∧post=[]):=by
 refine be Tryz.func161 J J ?_;simp only [aM];refine U ?_;refine gD (aE J J) ?_;rintro _ _ ⟨B1,rfl,rfl⟩;refine gD (aE J J) ?_;rintro _ _ ⟨B2,rfl,rfl⟩;refine U ?_;refine ax ?_;refine U ?_;obtain ⟨b3,hb3,h⟩:=aa h;refine aJ 4 12 b3 ?_ ?_
 ·clear h;refine aH 8 J (fun g3=> ?_) (fun g3=> ?_)
  ·have h:=ag g3 hb3;refine U ?_;obtain rfl:=am h;exact ae sA (cS [0,1] 2)
  have h:=ah g3 hb3;refine U ?_;obtain rfl:=am h;exact ae sA (cS [0,1] 2)
 refine U ?_;refine aq J (fun g4=> ?_) (fun g4=> ?_)
 ·replace h:=ag g4 h;refine U ?_;obtain ⟨y5,hy5,h⟩:=aa h;refine gD (ak (o0 hy5) xv J (ac) nh) ?_;rintro _ _ ⟨_,⟨rfl,rfl⟩,rfl⟩;refine U ?_;obtain rfl:=am h;exact aI J J (cS [] 2) ⟨J,J⟩
 replace h:=ah g4 h;refine U ?_;obtain ⟨y6,hy6,h⟩:=aa h;refine gD (ak (o0 hy6) xv J (ac) nh) ?_;rintro _ _ ⟨_,⟨rfl,rfl⟩,rfl⟩;refine U ?_;obtain rfl:=am h;exact aI J J (cS [] 2) ⟨J,J⟩
theorem tg {r:Int}: ∀v post,((fun (u:Value) (post:List Chunk)=>u=iV r∧post=[])) v post→ ∀c∈post,bI c:=by
 rintro _ _ ⟨rfl,rfl⟩;exact ac
def dP (N:Nat)(kb3:(List DX)→Int→Option (List DX))(a1:Int)(a2:Int)(p5:Int)(p8:(List DX)):Option (List DX):=
 dC (cg (p5+1)) (kb3 p8 (p5+1))
def cM (N:Nat)(kb3:(List DX)→Int→Option (List DX))(a1:Int)(a2:Int)(p5:Int):Nat→(List DX)→Int→Option (List DX)
 |0,_,_=>none
 |m9+1,p10,p11=>(bif decide (a1<p11) then ((cm p10 p11).bind fun x13=>dC (cg (p11 - 1)) ((cm p10 (p11 - 1)).bind fun x15=>(fc N x13 x15).bind fun y16=>some (decide (y16<0)))) else (some false)).bind fun b12=>bif b12 then (dC (cg (p11 - 1)) (dC (cg (p11 - 1)) ((cm p10 (p11 - 1)).bind fun x20=>(cm p10 p11).bind fun x21=>(cm p10 p11).bind fun x22=>(cm (List.set p10 p11.toNat (⟨x20.Kind,x20.N,x20.S⟩:DX)) (p11 - 1)).bind fun x23=>dC (cg (p11 - 1)) ((cM N kb3 a1 a2 p5 m9) (List.set (List.set p10 p11.toNat (⟨x20.Kind,x20.N,x20.S⟩:DX)) ((p11 - 1).toNat) (⟨x21.Kind,x21.N,x21.S⟩:DX)) (p11 - 1))))) else (dP N kb3 a1 a2 p5 p10)
def bL (N:Nat)(a1:Int)(a2:Int):Nat→(List DX)→Int→Option (List DX)
 |0,_,_=>none
 |m3+1,p4,p5=>bif decide (p5<a2) then (cM N (bL N a1 a2 m3) a1 a2 p5 N p4 p5) else (some p4)
def ck (N:Nat)(a0:(List DX))(a1:Int)(a2:Int):Option (List DX):=
 dC (cg (a1+1)) (bL N a1 a2 N a0 (a1+1))
theorem cL {N:Nat}{a0:(List DX)}{a1:Int}{a2:Int}{r:(List DX)}(h:ck N a0 a1 a2=some r):Okc Tryz.prog 230 [I A1 n1 c1,iV a1,iV a2,.func (.func 161) #[] #[]] ([iF A1 n1 c1 a0]) (fun u post=>u=.tuple #[]∧post=[iF A1 n1 c1 r]):=by
 refine be Tryz.func230 J J ?_;simp only [aM];refine U ?_;obtain ⟨q2,h⟩:=aG h;refine gE (bO J J q2.1 q2.2) ?_;refine U ?_;refine bV (fun m s L=> ∃p4 p5,bL N a1 a2 m p4 p5=some r∧s=[(0,I A1 n1 c1),(1,iV a1),(2,iV a2),(3,.func (.func 161) #[] #[]),(8,iV p5)]∧L=[iF A1 n1 c1 p4]) N _ _ ⟨a0,a1+1,h,J,J⟩ sA (cS [0] 1) ?_;rintro (_|m3) _ _ ⟨p4,p5,h,rfl,rfl⟩
 ·exact bc h
 rw [bL.eq_2] at h;refine ax ?_;refine U ?_;refine aq J (fun g6=> ?_) (fun g6=> ?_)
 ·replace h:=ag g6 h;refine U ?_;refine aW (fun s L=> ∃p8,dP N (bL N a1 a2 m3) a1 a2 p5 p8=some r∧s=[(0,I A1 n1 c1),(1,iV a1),(2,iV a2),(3,.func (.func 161) #[] #[]),(8,iV p5)]∧L=[iF A1 n1 c1 p8]) ?_ ?_
  ·refine U ?_;refine bV (fun m s L=> ∃p10 p11,cM N (bL N a1 a2 m3) a1 a2 p5 m p10 p11=some r∧s=[(0,I A1 n1 c1),(1,iV a1),(2,iV a2),(3,.func (.func 161) #[] #[]),(8,iV p5),(9,iV p11)]∧L=[iF A1 n1 c1 p10]) N _ _ ⟨p4,p5,h,J,J⟩ sA (cS [0] 1) ?_;rintro (_|m9) _ _ ⟨p10,p11,h,rfl,rfl⟩
   ·exact bc h
   rw [cM.eq_2] at h;refine ax ?_;refine ax ?_;refine bq O _ (aj _) ?_;refine zE 0 J (aw J) ?_;refine zE 1 J (aw J) ?_;refine zE 2 J (BB J J) ?_;refine zE 3 J (aw J) ?_;obtain ⟨b12,hb12,h⟩:=aa h;refine eW (fun l=>(((((((((((((l.setIfInBounds 4 true).setIfInBounds 5 true).setIfInBounds 6 true).setIfInBounds 7 true).setIfInBounds 8 true).setIfInBounds 9 true).setIfInBounds 10 true).setIfInBounds 11 true).setIfInBounds 12 true).setIfInBounds 13 true).setIfInBounds 14 true).setIfInBounds 15 true).setIfInBounds 16 true)) 0 34 b12 (fun rest=> ?_) ?_
   ·clear h;refine f3 21 J (fun g12=> ?_) (fun g12=> ?_)
    ·have h:=ag g12 hb12;refine dA 4 J O (aw J) (aX g12 J) J ?_;refine dA 5 J O (aw J) (aX g12 J) J ?_;refine dA 6 J O (aw J) (aX g12 J) J ?_;obtain ⟨x13,hx13,h⟩:=aa h;obtain ⟨lx13,ux13,hx13⟩:=aK hx13;refine gA 7 J O (bi 0 J aA J J DT dE lx13 ux13) (aX g12 J) J ?_;refine gA 8 J O (bm (us:=[iV x13.Kind,iV x13.N,.string x13.S]) 0 J aA J hx13 bp (fun _ _ _ h=>by rw [show _=_ from h];rfl)) (aX g12 J) J ?_;refine dA 9 J O (aw J) (aX g12 J) J ?_;refine dA 10 J O (aw J) (aX g12 J) J ?_;obtain ⟨q14,h⟩:=aG h;refine dA 11 J O (iZ J J q14.1 q14.2) (aX g12 J) J ?_;obtain ⟨x15,hx15,h⟩:=aa h;obtain ⟨lx15,ux15,hx15⟩:=aK hx15;refine gA 12 J O (bi 0 J aA J J DT dE lx15 ux15) (aX g12 J) J ?_;refine gA 13 J O (bm (us:=[iV x15.Kind,iV x15.N,.string x15.S]) 0 J aA J hx15 bp (fun _ _ _ h=>by rw [show _=_ from h];rfl)) (aX g12 J) J ?_;obtain ⟨y16,hy16,h⟩:=aa h;refine lT 14 J O (dK (fo hy16) nL J J J (ac) tg) J (aX g12 J) J ?_;rintro _ _ ⟨_,⟨rfl,rfl⟩,rfl⟩;refine ⟨_,aj _,aj _,?_⟩;refine dA 15 J O (zg J J) (aX g12 J) J ?_;refine zE 16 J (cX g12 J J) ?_;obtain rfl:=am h
     exact dz rest (cj J (av (av (av (av (av (av (av (av (av (av (av (av (av bv J) J) J) J) J) J) J) J) J) J) J) J) J)) (aj _) (aj _)
    have h:=ah g12 hb12;refine bN 4 J O (dy g12 J) J ?_;refine bN 5 J O (dy g12 J) J ?_;refine bN 6 J O (dy g12 J) J ?_;refine bN 7 J O (dy g12 J) J ?_;refine bN 8 J O (dy g12 J) J ?_;refine bN 9 J O (dy g12 J) J ?_;refine bN 10 J O (dy g12 J) J ?_;refine bN 11 J O (dy g12 J) J ?_;refine bN 12 J O (dy g12 J) J ?_;refine bN 13 J O (dy g12 J) J ?_;refine bN 14 J O (dy g12 J) J ?_;refine bN 15 J O (dy g12 J) J ?_;refine zE 16 J (cY g12 J J) ?_;obtain rfl:=am h;exact dz rest (cj J (av (av (av (av (av (av (av (av (av (av (av (av (av bv J) J) J) J) J) J) J) J) J) J) J) J) J)) (aj _) (aj _)
   refine bh O ?_;refine dT ?_;refine aq J (fun g17=> ?_) (fun g17=> ?_)
   ·replace h:=ag g17 h;refine U ?_;refine ax ?_;refine f5 ?_;obtain ⟨q18,h⟩:=aG h;obtain ⟨q19,h⟩:=aG h;obtain ⟨x20,hx20,h⟩:=aa h;obtain ⟨lx20,ux20,hx20⟩:=aK hx20;obtain ⟨x21,hx21,h⟩:=aa h;obtain ⟨lx21,ux21,hx21⟩:=aK hx21;refine eX (t:=[(0,I A1 n1 c1),(1,iV a1),(2,iV a2),(3,.func (.func 161) #[] #[]),(8,iV p5),(9,iV p11)]) ?_ jd (aj _)
    refine f4 O 14 [2,3,4] [0,1,2,4,9,13] [37,38,39,40,41,42,43,44,45,46,47,48,49,50] [[],[],[],[],[3],[],[],[6],[5,7],[8],[],[],[10,11],[12]] [aV (I A1 n1 c1),
 aV (iV p11),
 aV (I A1 n1 c1),
 aV (iV p11),
 aV (iV (p11 - 1)),
 aV (I A1 n1 c1),
 aV (iV p11),
 aV (iV (p11 - 1)),
 aV (d3 (I A1 n1 c1) ((p11 - 1).toNat) 3 0),
 aV (.agg #[iV x20.Kind,iV x20.N,.string x20.S]),
 aV (I A1 n1 c1),
 aV (iV p11),
 aV (d3 (I A1 n1 c1) p11.toNat 3 0),
 aV (.agg #[iV x21.Kind,iV x21.N,.string x21.S])] [] (aj _) (gt rfl (gt rfl (gt rfl iJ))) O rfl rfl ?_ ?_ ?_
    ·refine gr J ?_ ?_
     ·exact nr (aw J) J (bn J (aj _))
     refine gr J ?_ ?_
     ·exact nr (aw J) J (bn J (aj _))
     refine gr J ?_ ?_
     ·exact nr (iZ J J q18.1 q18.2) J (bn J (aj _))
     exact iI
    ·refine ap J ?_ ?_
     ·exact fF (bm (us:=[iV x21.Kind,iV x21.N,.string x21.S]) 0 J aA J hx21 bp (fun _ _ _ h=>by rw [show _=_ from h];rfl)) J (bn J (aj _))
     refine ap J ?_ ?_
     ·exact fF (bi 0 J aA J J DT dE lx21 ux21) J (bn J (aj _))
     refine ap J ?_ ?_
     ·exact cq (aw J) J (bn J (aj _))
     refine ap J ?_ ?_
     ·exact cq (aw J) J (bn J (aj _))
     refine ap J ?_ ?_
     ·exact fF (bm (us:=[iV x20.Kind,iV x20.N,.string x20.S]) 0 J aA J hx20 bp (fun _ _ _ h=>by rw [show _=_ from h];rfl)) J (bn J (aj _))
     refine ap J ?_ ?_
     ·exact fF (bi 0 J aA J J DT dE lx20 ux20) J (bn J (aj _))
     refine ap J ?_ ?_
     ·exact cq (iZ J J q19.1 q19.2) J (bn J (aj _))
     refine ap J ?_ ?_
     ·exact cq (aw J) J (bn J (aj _))
     refine ap J ?_ ?_
     ·exact cq (aw J) J (bn J (aj _))
     refine ap J ?_ ?_
     ·exact cq (iZ J J q18.1 q18.2) J (bn J (aj _))
     refine ap J ?_ ?_
     ·exact cq (aw J) J (bn J (aj _))
     refine ap J ?_ ?_
     ·exact cq (aw J) J (bn J (aj _))
     refine ap J ?_ ?_
     ·exact cq (aw J) J (bn J (aj _))
     refine ap J ?_ ?_
     ·exact cq (aw J) J (bn J (aj _))
     exact dJ
    refine lU (t:=[(37,I A1 n1 c1),(38,iV p11),(39,I A1 n1 c1),(41,iV (p11 - 1)),(46,.agg #[iV x20.Kind,iV x20.N,.string x20.S]),(50,.agg #[iV x21.Kind,iV x21.N,.string x21.S]),(0,I A1 n1 c1),(1,iV a1),(2,iV a2),(3,.func (.func 161) #[] #[]),(8,iV p5),(9,iV p11)]) (L':=[iF A1 n1 c1 p10]) ?_ jd (aj _);obtain ⟨x22,hx22,h⟩:=aa h;obtain ⟨lx22,ux22,hx22⟩:=aK hx22;refine CS 14 J O (bi 0 J aA J J DT dE lx22 ux22) J J J ?_;refine ns 15 J O (dc (us:=[iV x20.Kind,iV x20.N,.string x20.S]) (z:=(⟨x20.Kind,x20.N,x20.S⟩:DX)) 0 J J J J dE J (bf lx22 ux22) J (fun S w vs xk hk hr ho=>by obtain rfl:=Option.some.inj (hk.symm.trans hx22);rw [show _=_ from hr];rfl)) J J ?_;rintro _ _ rfl;obtain ⟨x23,hx23,h⟩:=aa h;obtain ⟨lx23,ux23,hx23⟩:=aK hx23;refine CS 16 J O (bi 0 J aA J J DT dE lx23 ux23) J J J ?_;refine ns 17 J O (dc (us:=[iV x21.Kind,iV x21.N,.string x21.S]) (z:=(⟨x21.Kind,x21.N,x21.S⟩:DX)) 0 J J J J dE J (bf lx23 ux23) J (fun S w vs xk hk hr ho=>by obtain rfl:=Option.some.inj (hk.symm.trans hx23);rw [show _=_ from hr];rfl)) J J ?_;rintro _ _ rfl;refine jb O ?_;refine U ?_;obtain ⟨q24,h⟩:=aG h;refine gE (iZ J J q24.1 q24.2) ?_;refine U ?_
    exact ⟨m9,_,_,Eg _,⟨List.set (List.set p10 p11.toNat (⟨x20.Kind,x20.N,x20.S⟩:DX)) ((p11 - 1).toNat) (⟨x21.Kind,x21.N,x21.S⟩:DX),p11 - 1,h,J,J⟩,sA,cS [0] 1⟩
   replace h:=ah g17 h;refine U ?_;exact ⟨_,_,⟨p10,h,J,J⟩,sA,cS [0] 1⟩
  rintro _ _ ⟨p8,h,rfl,rfl⟩;refine U ?_;obtain ⟨q25,h⟩:=aG h;refine gE (bO J J q25.1 q25.2) ?_;refine U ?_;exact ⟨m3,_,_,Eg _,⟨p8,p5+1,h,J,J⟩,sA,cS [0] 1⟩
 replace h:=ah g6 h;refine U ?_;obtain rfl:=am h;exact eu J (cS [0] 1) ⟨J,J⟩
def ca (N:Nat)(a0:(List DX))(a1:Int)(a2:Int)(a3:Int)(ff:(DX×DX)→Option Int):Option Unit:=
 none
theorem co {N:Nat}{a0:(List DX)}{a1:Int}{a2:Int}{a3:Int}{ff:(DX×DX)→Option Int}{r:Unit}(h:ca N a0 a1 a2 a3 ff=some r){vf:Value}{G:List Chunk}(hf:Bv Tryz.prog vf G (fun x=> [.agg #[iV x.1.Kind,iV x.1.N,.string x.1.S],.agg #[iV x.2.Kind,iV x.2.N,.string x.2.S]]) (fun r=>iV r) ff):Okc Tryz.prog 231 [I A1 n1 c1,iV a1,iV a2,iV a3,vf] (lW gh (I A1 n1 c1) a0::G) (fun u post=>u=.tuple #[]∧post=[]):=by
 exact bc h
theorem cc: ∀v post,((fun (u:Value) (post:List Chunk)=>u=.tuple #[]∧post=[])) v post→ ∀c∈post,bI c:=by
 rintro _ _ ⟨rfl,rfl⟩;exact ac
def dw (N:Nat)(kb14:Int→Option (List DX))(a1:Int)(p15:Int)(y13:((List DX))):Option (List DX):=
 dC (cg (p15*2)) (kb14 (p15*2))
def jo (N:Nat)(kb14:Int→Option (List DX))(a1:Int)(p15:Int)(y13:((List DX))):Option (List DX):=
 dC (cg (0+p15)) (bif decide (0+p15<a1) then ((ca N y13 0 (0+p15) a1 (fun x=>fc N x.1 x.2)).bind fun y32=>dw N kb14 a1 p15 y13) else (dw N kb14 a1 p15 y13))
def dv (N:Nat)(kb14:Int→Option (List DX))(a1:Int)(p15:Int)(y13:((List DX))):Option (List DX):=
 dC (cg (p15*2)) (kb14 (p15*2))
def eL (N:Nat)(kb14:Int→Option (List DX))(a1:Int)(p15:Int)(y13:((List DX)))(p20:Int):Option (List DX):=
 dC (cg (p20+p15)) (bif decide (p20+p15<a1) then ((ca N y13 p20 (p20+p15) a1 (fun x=>fc N x.1 x.2)).bind fun y37=>dv N kb14 a1 p15 y13) else (dv N kb14 a1 p15 y13))
def dr (N:Nat)(kb14:Int→Option (List DX))(a1:Int)(p15:Int)(y13:((List DX))):Nat→Int→Int→Option (List DX)
 |0,_,_=>none
 |m21+1,p22,p23=>bif decide (p23≤a1) then (dC (cg (p22+p15)) ((ca N y13 p22 (p22+p15) p23 (fun x=>fc N x.1 x.2)).bind fun y26=>dC (cg (2*p15)) (dC (cg (p23+(2*p15))) ((dr N kb14 a1 p15 y13 m21) p23 (p23+(2*p15)))))) else (eL N kb14 a1 p15 y13 p22)
def bx (N:Nat)(a1:Int)(y13:((List DX))):Nat→Int→Option (List DX)
 |0,_=>none
 |m14+1,p15=>bif decide (p15<a1) then (dC (cg (2*p15)) (dr N (bx N a1 y13 m14) a1 p15 y13 N 0 (2*p15))) else (some y13)
def jP (N:Nat)(a1:Int)(a0:(List DX)):Option (List DX):=
 (ck N a0 0 a1).bind fun y13=>bx N a1 y13 N 20
def du (N:Nat)(kb40:Int→Option (List DX))(a1:Int)(p41:Int)(y39:((List DX))):Option (List DX):=
 dC (cg (p41*2)) (kb40 (p41*2))
def jn (N:Nat)(kb40:Int→Option (List DX))(a1:Int)(p41:Int)(y39:((List DX))):Option (List DX):=
 dC (cg (0+p41)) (bif decide (0+p41<a1) then ((ca N y39 0 (0+p41) a1 (fun x=>fc N x.1 x.2)).bind fun y58=>du N kb40 a1 p41 y39) else (du N kb40 a1 p41 y39))
def dt (N:Nat)(kb40:Int→Option (List DX))(a1:Int)(p41:Int)(y39:((List DX))):Option (List DX):=
 dC (cg (p41*2)) (kb40 (p41*2))
def eK (N:Nat)(kb40:Int→Option (List DX))(a1:Int)(p41:Int)(y39:((List DX)))(p46:Int):Option (List DX):=
 dC (cg (p46+p41)) (bif decide (p46+p41<a1) then ((ca N y39 p46 (p46+p41) a1 (fun x=>fc N x.1 x.2)).bind fun y63=>dt N kb40 a1 p41 y39) else (dt N kb40 a1 p41 y39))
def dq (N:Nat)(kb40:Int→Option (List DX))(a1:Int)(p41:Int)(y39:((List DX))):Nat→Int→Int→Option (List DX)
 |0,_,_=>none
 |m47+1,p48,p49=>bif decide (p49≤a1) then (dC (cg (p48+p41)) ((ca N y39 p48 (p48+p41) p49 (fun x=>fc N x.1 x.2)).bind fun y52=>dC (cg (2*p41)) (dC (cg (p49+(2*p41))) ((dq N kb40 a1 p41 y39 m47) p49 (p49+(2*p41)))))) else (eK N kb40 a1 p41 y39 p48)
def bw (N:Nat)(a1:Int)(y39:((List DX))):Nat→Int→Option (List DX)
 |0,_=>none
 |m40+1,p41=>bif decide (p41<a1) then (dC (cg (2*p41)) (dq N (bw N a1 y39 m40) a1 p41 y39 N 0 (2*p41))) else (some y39)
def eZ (N:Nat)(a1:Int)(p4:(List DX))(p5:Int):Option (List DX):=
 (ck N p4 p5 a1).bind fun y39=>bw N a1 y39 N 20
def dD (N:Nat)(a1:Int):Nat→(List DX)→Int→Int→Option (List DX)
 |0,_,_,_=>none
 |m6+1,p7,p8,p9=>bif decide (p9≤a1) then ((ck N p7 p8 p9).bind fun y11=>dC (cg (p9+20)) ((dD N a1 m6) y11 p9 (p9+20))) else (eZ N a1 p7 p8)
def fw (N:Nat)(a0:(List DX))(a1:Int):Option (List DX):=
 dD N a1 N a0 0 20
set_option maxHeartbeats 4000000 in
theorem jO {N:Nat}{a0:(List DX)}{a1:Int}{r:(List DX)}(h:fw N a0 a1=some r):Okc Tryz.prog 207 [I A1 n1 c1,iV a1,.func (.func 161) #[] #[]] ([iF A1 n1 c1 a0]) (fun u post=>u=.tuple #[]∧post=[iF A1 n1 c1 r]):=by
 refine be Tryz.func207 J J ?_;simp only [aM];refine U ?_;refine aW (fun s L=>(jP N a1 a0=some r∧s=[(0,I A1 n1 c1),(1,iV a1),(2,.func (.func 161) #[] #[]),(6,iV 20),(7,iV 0)]∧L=[iF A1 n1 c1 a0])∨(∃p4 p5,eZ N a1 p4 p5=some r∧s=[(0,I A1 n1 c1),(1,iV a1),(2,.func (.func 161) #[] #[]),(6,iV 20),(7,iV p5)]∧L=[iF A1 n1 c1 p4])) ?_ ?_
 ·refine f5 ?_;refine bV (fun m s L=> ∃p7 p8 p9,dD N a1 m p7 p8 p9=some r∧s=[(0,I A1 n1 c1),(1,iV a1),(2,.func (.func 161) #[] #[]),(6,iV 20),(7,iV p8),(8,iV p9)]∧L=[iF A1 n1 c1 p7]) N _ _ ⟨a0,0,20,h,J,J⟩ sA (cS [0] 1) ?_;rintro (_|m6) _ _ ⟨p7,p8,p9,h,rfl,rfl⟩
  ·exact bc h
  rw [dD.eq_2] at h;refine ax ?_;refine U ?_;refine aq J (fun g10=> ?_) (fun g10=> ?_)
  ·replace h:=ag g10 h;refine U ?_;obtain ⟨y11,hy11,h⟩:=aa h;refine gD (aB (cL hy11) uW J (ay [] [0] [] 1 J)) ?_;rintro _ _ ⟨_,⟨rfl,rfl⟩,rfl⟩;refine U ?_;obtain ⟨q12,h⟩:=aG h;refine gE (bO J J q12.1 q12.2) ?_;refine U ?_;exact ⟨m6,_,_,Eg _,⟨y11,p9,p9+20,h,J,J⟩,sA,cS [0] 1⟩
  replace h:=ah g10 h;refine U ?_;exact ⟨_,_,.inr (⟨p7,p8,h,J,J⟩),sA,cS [0] 1⟩
 rintro _ _ (⟨h,rfl,rfl⟩|⟨p4,p5,h,rfl,rfl⟩)
 ·refine U ?_;obtain ⟨y13,hy13,h⟩:=aa h;refine gD (aB (cL hy13) uW J (ay [] [0] [] 1 J)) ?_;rintro _ _ ⟨_,⟨rfl,rfl⟩,rfl⟩;refine U ?_;refine bV (fun m s L=> ∃p15,bx N a1 y13 m p15=some r∧s=[(0,I A1 n1 c1),(1,iV a1),(2,.func (.func 161) #[] #[]),(6,iV p15)]∧L=[iF A1 n1 c1 y13]) N _ _ ⟨20,h,J,J⟩ sA (cS [0] 1) ?_;rintro (_|m14) _ _ ⟨p15,h,rfl,rfl⟩
  ·exact bc h
  rw [bx.eq_2] at h;refine ax ?_;refine U ?_;refine aq J (fun g16=> ?_) (fun g16=> ?_)
  ·replace h:=ag g16 h;refine U ?_;obtain ⟨q17,h⟩:=aG h;refine gE (mC J J q17.1 q17.2) ?_;refine U ?_;refine aW (fun s L=>(jo N (bx N a1 y13 m14) a1 p15 y13=some r∧s=[(0,I A1 n1 c1),(1,iV a1),(2,.func (.func 161) #[] #[]),(6,iV p15),(7,iV 0)]∧L=[iF A1 n1 c1 y13])∨(∃p20,eL N (bx N a1 y13 m14) a1 p15 y13 p20=some r∧s=[(0,I A1 n1 c1),(1,iV a1),(2,.func (.func 161) #[] #[]),(6,iV p15),(7,iV p20)]∧L=[iF A1 n1 c1 y13])) ?_ ?_
   ·refine f5 ?_;refine bV (fun m s L=> ∃p22 p23,dr N (bx N a1 y13 m14) a1 p15 y13 m p22 p23=some r∧s=[(0,I A1 n1 c1),(1,iV a1),(2,.func (.func 161) #[] #[]),(6,iV p15),(7,iV p22),(8,iV p23)]∧L=[iF A1 n1 c1 y13]) N _ _ ⟨0,2*p15,h,J,J⟩ sA (cS [0] 1) ?_;rintro (_|m21) _ _ ⟨p22,p23,h,rfl,rfl⟩
    ·exact bc h
    rw [dr.eq_2] at h;refine ax ?_;refine U ?_;refine aq J (fun g24=> ?_) (fun g24=> ?_)
    ·replace h:=ag g24 h;refine U ?_;obtain ⟨q25,h⟩:=aG h;refine gE (bO J J q25.1 q25.2) ?_;refine U ?_;obtain ⟨y26,hy26,h⟩:=aa h;refine gD (ak (co hy26 ⟨ac,161, #[], #[],J,nL,fun _ _ hh=>fo hh⟩) px J (hE (al (i:=0) J) ac) cc) ?_;rintro _ _ ⟨_,⟨rfl,rfl⟩,rfl⟩;refine U ?_;obtain ⟨q27,h⟩:=aG h;refine gE (mC J J q27.1 q27.2) ?_;obtain ⟨q28,h⟩:=aG h;refine gE (bO J J q28.1 q28.2) ?_;refine U ?_;exact ⟨m21,_,_,Eg _,⟨p23,p23+(2*p15),h,J,J⟩,sA,cS [0] 1⟩
    replace h:=ah g24 h;refine U ?_;exact ⟨_,_,.inr (⟨p22,h,J,J⟩),sA,cS [0] 1⟩
   rintro _ _ (⟨h,rfl,rfl⟩|⟨p20,h,rfl,rfl⟩)
   ·refine aW (fun s L=>dw N (bx N a1 y13 m14) a1 p15 y13=some r∧s=[(0,I A1 n1 c1),(1,iV a1),(2,.func (.func 161) #[] #[]),(6,iV p15)]∧L=[iF A1 n1 c1 y13]) ?_ ?_
    ·refine U ?_;obtain ⟨q30,h⟩:=aG h;refine gE (bO J J q30.1 q30.2) ?_;refine U ?_;refine aq J (fun g31=> ?_) (fun g31=> ?_)
     ·replace h:=ag g31 h;refine U ?_;obtain ⟨y32,hy32,h⟩:=aa h;refine gD (ak (co hy32 ⟨ac,161, #[], #[],J,nL,fun _ _ hh=>fo hh⟩) px J (hE (al (i:=0) J) ac) cc) ?_;rintro _ _ ⟨_,⟨rfl,rfl⟩,rfl⟩;refine U ?_;exact ⟨_,_,⟨h,J,J⟩,sA,cS [0] 1⟩
     replace h:=ah g31 h;refine U ?_;exact ⟨_,_,⟨h,J,J⟩,sA,cS [0] 1⟩
    rintro _ _ ⟨h,rfl,rfl⟩;refine U ?_;obtain ⟨q33,h⟩:=aG h;refine gE (mC J J q33.1 q33.2) ?_;refine U ?_;exact ⟨m14,_,_,Eg _,⟨p15*2,h,J,J⟩,sA,cS [0] 1⟩
   refine aW (fun s L=>dv N (bx N a1 y13 m14) a1 p15 y13=some r∧s=[(0,I A1 n1 c1),(1,iV a1),(2,.func (.func 161) #[] #[]),(6,iV p15)]∧L=[iF A1 n1 c1 y13]) ?_ ?_
   ·refine U ?_;obtain ⟨q35,h⟩:=aG h;refine gE (bO J J q35.1 q35.2) ?_;refine U ?_;refine aq J (fun g36=> ?_) (fun g36=> ?_)
    ·replace h:=ag g36 h;refine U ?_;obtain ⟨y37,hy37,h⟩:=aa h;refine gD (ak (co hy37 ⟨ac,161, #[], #[],J,nL,fun _ _ hh=>fo hh⟩) px J (hE (al (i:=0) J) ac) cc) ?_;rintro _ _ ⟨_,⟨rfl,rfl⟩,rfl⟩;refine U ?_;exact ⟨_,_,⟨h,J,J⟩,sA,cS [0] 1⟩
    replace h:=ah g36 h;refine U ?_;exact ⟨_,_,⟨h,J,J⟩,sA,cS [0] 1⟩
   rintro _ _ ⟨h,rfl,rfl⟩;refine U ?_;obtain ⟨q38,h⟩:=aG h;refine gE (mC J J q38.1 q38.2) ?_;refine U ?_;exact ⟨m14,_,_,Eg _,⟨p15*2,h,J,J⟩,sA,cS [0] 1⟩
  replace h:=ah g16 h;refine U ?_;obtain rfl:=am h;exact eu J (cS [0] 1) ⟨J,J⟩
 refine U ?_;obtain ⟨y39,hy39,h⟩:=aa h;refine gD (aB (cL hy39) uW J (ay [] [0] [] 1 J)) ?_;rintro _ _ ⟨_,⟨rfl,rfl⟩,rfl⟩;refine bA ?_;refine U ?_;refine bV (fun m s L=> ∃p41,bw N a1 y39 m p41=some r∧s=[(0,I A1 n1 c1),(1,iV a1),(2,.func (.func 161) #[] #[]),(6,iV p41)]∧L=[iF A1 n1 c1 y39]) N _ _ ⟨20,h,J,J⟩ sA (cS [0] 1) ?_;rintro (_|m40) _ _ ⟨p41,h,rfl,rfl⟩
 ·exact bc h
 rw [bw.eq_2] at h;refine ax ?_;refine U ?_;refine aq J (fun g42=> ?_) (fun g42=> ?_)
 ·replace h:=ag g42 h;refine U ?_;obtain ⟨q43,h⟩:=aG h;refine gE (mC J J q43.1 q43.2) ?_;refine U ?_;refine aW (fun s L=>(jn N (bw N a1 y39 m40) a1 p41 y39=some r∧s=[(0,I A1 n1 c1),(1,iV a1),(2,.func (.func 161) #[] #[]),(6,iV p41),(7,iV 0)]∧L=[iF A1 n1 c1 y39])∨(∃p46,eK N (bw N a1 y39 m40) a1 p41 y39 p46=some r∧s=[(0,I A1 n1 c1),(1,iV a1),(2,.func (.func 161) #[] #[]),(6,iV p41),(7,iV p46)]∧L=[iF A1 n1 c1 y39])) ?_ ?_
  ·refine f5 ?_;refine bV (fun m s L=> ∃p48 p49,dq N (bw N a1 y39 m40) a1 p41 y39 m p48 p49=some r∧s=[(0,I A1 n1 c1),(1,iV a1),(2,.func (.func 161) #[] #[]),(6,iV p41),(7,iV p48),(8,iV p49)]∧L=[iF A1 n1 c1 y39]) N _ _ ⟨0,2*p41,h,J,J⟩ sA (cS [0] 1) ?_;rintro (_|m47) _ _ ⟨p48,p49,h,rfl,rfl⟩
   ·exact bc h
   rw [dq.eq_2] at h;refine ax ?_;refine U ?_;refine aq J (fun g50=> ?_) (fun g50=> ?_)
   ·replace h:=ag g50 h;refine U ?_;obtain ⟨q51,h⟩:=aG h;refine gE (bO J J q51.1 q51.2) ?_;refine U ?_;obtain ⟨y52,hy52,h⟩:=aa h;refine gD (ak (co hy52 ⟨ac,161, #[], #[],J,nL,fun _ _ hh=>fo hh⟩) px J (hE (al (i:=0) J) ac) cc) ?_;rintro _ _ ⟨_,⟨rfl,rfl⟩,rfl⟩;refine U ?_;obtain ⟨q53,h⟩:=aG h;refine gE (mC J J q53.1 q53.2) ?_;obtain ⟨q54,h⟩:=aG h;refine gE (bO J J q54.1 q54.2) ?_;refine U ?_;exact ⟨m47,_,_,Eg _,⟨p49,p49+(2*p41),h,J,J⟩,sA,cS [0] 1⟩
   replace h:=ah g50 h;refine U ?_;exact ⟨_,_,.inr (⟨p48,h,J,J⟩),sA,cS [0] 1⟩
  rintro _ _ (⟨h,rfl,rfl⟩|⟨p46,h,rfl,rfl⟩)
  ·refine aW (fun s L=>du N (bw N a1 y39 m40) a1 p41 y39=some r∧s=[(0,I A1 n1 c1),(1,iV a1),(2,.func (.func 161) #[] #[]),(6,iV p41)]∧L=[iF A1 n1 c1 y39]) ?_ ?_
   ·refine U ?_;obtain ⟨q56,h⟩:=aG h;refine gE (bO J J q56.1 q56.2) ?_;refine U ?_;refine aq J (fun g57=> ?_) (fun g57=> ?_)
    ·replace h:=ag g57 h;refine U ?_;obtain ⟨y58,hy58,h⟩:=aa h;refine gD (ak (co hy58 ⟨ac,161, #[], #[],J,nL,fun _ _ hh=>fo hh⟩) px J (hE (al (i:=0) J) ac) cc) ?_;rintro _ _ ⟨_,⟨rfl,rfl⟩,rfl⟩;refine U ?_;exact ⟨_,_,⟨h,J,J⟩,sA,cS [0] 1⟩
    replace h:=ah g57 h;refine U ?_;exact ⟨_,_,⟨h,J,J⟩,sA,cS [0] 1⟩
   rintro _ _ ⟨h,rfl,rfl⟩;refine U ?_;obtain ⟨q59,h⟩:=aG h;refine gE (mC J J q59.1 q59.2) ?_;refine U ?_;exact ⟨m40,_,_,Eg _,⟨p41*2,h,J,J⟩,sA,cS [0] 1⟩
  refine aW (fun s L=>dt N (bw N a1 y39 m40) a1 p41 y39=some r∧s=[(0,I A1 n1 c1),(1,iV a1),(2,.func (.func 161) #[] #[]),(6,iV p41)]∧L=[iF A1 n1 c1 y39]) ?_ ?_
  ·refine U ?_;obtain ⟨q61,h⟩:=aG h;refine gE (bO J J q61.1 q61.2) ?_;refine U ?_;refine aq J (fun g62=> ?_) (fun g62=> ?_)
   ·replace h:=ag g62 h;refine U ?_;obtain ⟨y63,hy63,h⟩:=aa h;refine gD (ak (co hy63 ⟨ac,161, #[], #[],J,nL,fun _ _ hh=>fo hh⟩) px J (hE (al (i:=0) J) ac) cc) ?_;rintro _ _ ⟨_,⟨rfl,rfl⟩,rfl⟩;refine U ?_;exact ⟨_,_,⟨h,J,J⟩,sA,cS [0] 1⟩
   replace h:=ah g62 h;refine U ?_;exact ⟨_,_,⟨h,J,J⟩,sA,cS [0] 1⟩
  rintro _ _ ⟨h,rfl,rfl⟩;refine U ?_;obtain ⟨q64,h⟩:=aG h;refine gE (mC J J q64.1 q64.2) ?_;refine U ?_;exact ⟨m40,_,_,Eg _,⟨p41*2,h,J,J⟩,sA,cS [0] 1⟩
 replace h:=ah g42 h;refine U ?_;obtain rfl:=am h;exact eu J (cS [0] 1) ⟨J,J⟩
def fa (N:Nat)(a0:(List DX)):Option (List DX):=
 (fw N a0 (a0.length:Int)).bind fun y2=>some y2
theorem jp {N:Nat}{a0:(List DX)}{r:(List DX)}(h:fa N a0=some r):Okc Tryz.prog 160 [I A1 n1 c1,.func (.func 161) #[] #[]] ([iF A1 n1 c1 a0]) (fun u post=>u=.tuple #[]∧post=[iF A1 n1 c1 r]):=by
 refine be Tryz.func160 J J ?_;simp only [aM];refine U ?_;refine gR (bu 0 J aA J DT) ?_;refine U ?_;obtain ⟨y2,hy2,h⟩:=aa h;refine gD (aB (jO hy2) AU J (ay [] [0] [] 1 J)) ?_;rintro _ _ ⟨_,⟨rfl,rfl⟩,rfl⟩;refine lV ?_;obtain rfl:=am h;exact eu J (cS [0] 1) ⟨J,J⟩
def qG (N:Nat)(p3:(List DX)):Option (List DX):=
 (fa N p3).bind fun y19=>some y19
def nD (N:Nat)(kb4:(List DX)→Int→Option (List DX))(a0:(List DX))(p6:Int)(p10:(List DX)):Option (List DX):=
 dC (cg (p6+1)) (kb4 p10 (p6+1))
def iQ (N:Nat)(a0:(List DX)):Nat→(List DX)→Int→Option (List DX)
 |0,_,_=>none
 |m4+1,p5,p6=>bif decide (p6<(a0.length:Int)) then ((cm a0 p6).bind fun x11=>(fd N x11).bind fun y13=>bif y13 then (dC (iD (p5.length+([x11]:List DX).length)) (nD N (iQ N a0 m4) a0 p6 (p5++([x11]:List DX)))) else (nD N (iQ N a0 m4) a0 p6 p5)) else (qG N p5)
def mf (N:Nat)(a0:(List DX)):Option (List DX):=
 iQ N a0 N [] 0
theorem nC {N:Nat}{a0:(List DX)}{r:(List DX)}(h:mf N a0=some r):Okc Tryz.prog 106 [I A1 n1 c1] ([lW gh (I A1 n1 c1) a0]) (fun u post=> ∃A0 n0 c0,u=I A0 n0 c0∧post=[iF A0 n0 c0 r]):=by
 refine be Tryz.func106 J J ?_;simp only [aM];refine U ?_;refine aW (fun s L=> ∃p3 A3 n3 c3,qG N p3=some r∧s=[(2,I none 0 0),(3,I A3 n3 c3)]∧L=[iF A3 n3 c3 p3]) ?_ ?_
 ·refine U ?_;refine gR (bu 0 J aP J DT) ?_;refine U ?_;refine bV (fun m s L=> ∃p5 p6 A5 n5 c5,iQ N a0 m p5 p6=some r∧s=[(2,I none 0 0),(3,I A5 n5 c5),(6,I A1 n1 c1),(7,iV (a0.length:Int)),(8,iV p6)]∧L=[iF A5 n5 c5 p5,lW gh (I A1 n1 c1) a0]) N _ _ ⟨[],0,none,0,0,h,J,J⟩ sA ((dH gh 24 _).trans (cS [0,1] 2)) ?_;rintro (_|m4) _ _ ⟨p5,p6,A5,n5,c5,h,rfl,rfl⟩
  ·exact bc h
  rw [iQ.eq_2] at h;refine U ?_;refine ax ?_;refine aq J (fun g8=> ?_) (fun g8=> ?_)
  ·replace h:=ag g8 h;refine U ?_;refine aW (fun s L=> ∃p10 A10 n10 c10,nD N (iQ N a0 m4) a0 p6 p10=some r∧s=[(2,I none 0 0),(3,I A10 n10 c10),(6,I A1 n1 c1),(7,iV (a0.length:Int)),(8,iV p6)]∧L=[iF A10 n10 c10 p10,lW gh (I A1 n1 c1) a0]) ?_ ?_
   ·refine U ?_;obtain ⟨x11,hx11,h⟩:=aa h;obtain ⟨lx11,ux11,hx11⟩:=aK hx11;refine gR (bi 1 J aP J J DT dE lx11 ux11) ?_;refine gR (bm (us:=[iV x11.Kind,iV x11.N,.string x11.S]) 1 J aP J hx11 bp (fun _ _ _ h=>by rw [show _=_ from h];rfl)) ?_;refine gD (aF mt J) ?_;rintro _ _ ⟨B12,rfl,rfl⟩;refine gO (ao (us:=[iV x11.Kind,iV x11.N,.string x11.S]) (cs':=[iV x11.Kind,iV x11.N,.string x11.S]) 0 J J J J dE J J J) ?_;rintro _ _ rfl;refine U ?_;refine gR (ab (us:=[iV x11.Kind,iV x11.N,.string x11.S]) 0 J J bp J) ?_;obtain ⟨y13,hy13,h⟩:=aa h;refine gD (ak (fq hy13) qm J (ac) ea) ?_;rintro _ _ ⟨_,⟨rfl,rfl⟩,rfl⟩;refine U ?_;refine aq J (fun g14=> ?_) (fun g14=> ?_)
    ·replace h:=ag g14 h;refine U ?_;refine gR (ab (us:=[iV x11.Kind,iV x11.N,.string x11.S]) 0 J J bp J) ?_;refine gD (bM (R:=gh) (vss:=[[iV x11.Kind,iV x11.N,.string x11.S]]) (xs:=[x11]) J (kb _ _ _) J J (fun _ _ hr=> .cons J All2.nil)) ?_;rintro _ _ ⟨A15,n15,c15,rfl,rfl⟩;obtain ⟨q16,h⟩:=aG h;refine gD (ct 2 0 J J aA J J DT vA J J q16) ?_;rintro _ _ ⟨A17,n17,c17,rfl,rfl⟩;refine U ?_;exact ⟨_,_,⟨p5++([x11]:List DX),A17,n17,c17,h,J,J⟩,sA,cS [2,3] 4⟩
    replace h:=ah g14 h;refine U ?_;exact ⟨_,_,⟨p5,A5,n5,c5,h,J,J⟩,sA,cS [1,2] 3⟩
   rintro _ _ ⟨p10,A10,n10,c10,h,rfl,rfl⟩;refine jc ?_;obtain ⟨q18,h⟩:=aG h;refine gE (bO J J q18.1 q18.2) ?_;refine U ?_;exact ⟨m4,_,_,Eg _,⟨p10,p6+1,A10,n10,c10,h,J,J⟩,sA,cS [0,1] 2⟩
  replace h:=ah g8 h;refine U ?_;exact ⟨_,_,⟨p5,A5,n5,c5,h,J,J⟩,sA,cS [0] 2⟩
 rintro _ _ ⟨p3,A3,n3,c3,h,rfl,rfl⟩;refine U ?_;obtain ⟨y19,hy19,h⟩:=aa h;refine gD (aB (jp hy19) Bb J (ay [] [0] [] 1 J)) ?_;rintro _ _ ⟨_,⟨rfl,rfl⟩,rfl⟩;refine bA ?_;refine U ?_;obtain rfl:=am h;exact aI J J (cS [0] 1) ⟨_,_,_,J,J⟩
theorem lE {r:(List DX)}: ∀v post,((fun (u:Value) (post:List Chunk)=> ∃A0 n0 c0,u=I A0 n0 c0∧post=[iF A0 n0 c0 r])) v post→ ∀c∈post,bI c:=by
 rintro _ _ ⟨_,_,_,rfl,rfl⟩;exact hE cG (ac)
end Go.Proofs.YtanojiedimeegaaGreatDoor