/- Merged texts: part 5. No conditions of their own. -/
import Derived.Test.YthhiddkljcacaaaGreatG4
set_option maxHeartbeats 4000000
namespace Go.Proofs.YthhiddkljcacaaaGreat
variable (N:Nat){a1 d:Int}{a f B6:Nat}{c:VC}{a2:Vy}
theorem Vm:type_of% Tryz.underlying233:=Tryz.underlying233
variable {A1 A2 A3 A4 A5 A6:Option Addr}{B1 B2 e M3 c1 c2 c3 c4 c5 c6 i n2 n3 n4 n5 n6:Nat}
open Go.RowKit Asn
set_option maxRecDepth 20000
def pI (c:VK)(a1:VH)(a2:Int):Option (VH×Bool×VK):=
 (IX N a2).bind fun a=>(bif !a.2 then (some true) else ((rT N c a1).bind fun d=>some (!d))).bind fun b8=>bif b8 then (some ((⟨0,0,⟨#[]⟩⟩:VH),false,c)) else ((DQ N c (⟨a2,0,1,0,([a1]:List VH),a.1⟩:VL)).bind fun a6=>bif !a6.2.1 then (some ((⟨0,0,⟨#[]⟩⟩:VH),false,a6.2.2)) else ((mM N a6.2.2 a1).bind fun a8=>some (a6.1,true,a8)))
theorem I2 {N:Nat}{c:VK}{a1:VH}{a2:Int}{r:VH×Bool×VK}(h:pI N c a1 a2=some r){B1 B2 e:Nat}:Okc V5 10 [pV B1 0,(bS a1),iV a2] ([oDWorld B1 B2 e c]) (fun u p=>u=.tuple #[.agg #[iV r.1.no,iV r.1.N,.string r.1.S],.bool r.2.1]/\p=[oDWorld B1 B2 e r.2.2]):=by
 refine av Tryz.func10 ?_;intro a;refine bB fun f=> ?_
 obtain ⟨j,k,h⟩:=ad h;refine bN (oR (QM k)) fun z l m=> ?_
 refine sZ ?_;refine iF 5 23 18 h (fun _ d h=> ?_) (fun _ d h=> ?_) fun b8 h=> ?_
 ·exact gY
 ·refine aa ?_;obtain ⟨i,k,h⟩:=ad h;refine gU (oR (I4 k)) (bY d J) ?_;exact gY
 refine aG h ?_ ?_<;>intro h
 ·exact eY
 refine aa ?_;refine bN (cB (R:=ca) (vss:=[(ee a1)]) (xs:=[a1]) J (qf _ _ _) J J (fun _ _ hr=> .cons J All2.nil)) fun a6 a8 t=> ?_
 refine d6 (cu 0 J) ?_;refine d6 (cu 1 J) ?_;refine aa ?_;obtain ⟨q,k,h⟩:=ad h;refine cV (oC (Pc k)) ?_;intro o;refine sY ?_;refine gH J h ?_ ?_<;>intro h
 ·exact eY
 refine aa ?_;obtain ⟨n,k,h⟩:=ad h;refine cV (oC (IU k)) ?_;exact eN
def Fa (N:Nat)(c:ByteArray):Option Vy:=
 some (⟨1,0,c⟩:Vy)
theorem Jw {N:Nat}{c:ByteArray}{r:Vy}(h:Fa N c=some r):Okc V5 29 [.string c] ([]) (fun u p=>u=(dN r)/\p=[]):=by
 refine av Tryz.func29 ?_;intro B1;exact eY
def zN (N:Nat)(a:Int):Option (Int×Bool):=
 bif decide (4294967294<a) then (some (0,false)) else (some (a,true))
def rS (N:Nat)(c:ByteArray):Nat->Int->Int->Option (Int×Bool)
 |0,_,_=>none
 |d+1,a,a6=>bif decide (a6<(c.size:Int)) then ((lr c a6).bind fun i=>(bif decide (i<48) then (some true) else ((lr c a6).bind fun f=>some (decide (57<f)))).bind fun e=>bif e then (some (0,false)) else (ae (in64 (10*a)) ((lr c a6).bind fun a8=>ae (in64 ((10*a)+(IntKind.i64.wrap (IntKind.u8.wrap (a8 - 48))))) (ae (in64 (a6+1)) ((rS N c d) ((10*a)+(IntKind.i64.wrap (IntKind.u8.wrap (a8 - 48)))) (a6+1)))))) else (zN N a)
def rW (c:ByteArray):Option (Int×Bool):=
 (bif c.toList==(⟨#[]⟩:ByteArray).toList then (some true) else (some (decide (10<(c.size:Int))))).bind fun b1=>(bif b1 then (some true) else ((lr c 0).bind fun x3=>(bif decide (x3=48) then (some (decide (1<(c.size:Int)))) else (some false)).bind fun b4=>some b4)).bind fun b2=>bif b2 then (some (0,false)) else (rS N c N 0 0)
theorem Rg {N:Nat}{c:ByteArray}{r:Int×Bool}(h:rW N c=some r):Okc V5 129 [.string c] ([]) (fun u p=>u=.tuple #[iV r.1,.bool r.2]/\p=[]):=by
 refine av Tryz.func129 ?_;refine sZ ?_;refine aJ (kh J J) ?_;refine dJ 4 12 8 h (fun _ j h=> ?_) fun b1 h=> ?_
 ·refine aa ?_;refine bR (jD J Vi) J (bY j J) J ?_;exact gY
 refine aa ?_;refine dJ 9 22 13 h (fun _ i h=> ?_) fun b2 h=> ?_
 ·refine aa ?_;obtain ⟨x3,n,h⟩:=ad h;refine bR (sq J J Vi n) J (bY i J) J ?_;refine aa ?_;refine bF 4 21 17 h (fun _ f h=> ?_) fun b4 h=> ?_
  ·refine aa ?_;refine bR (jD J Vi) J (be f J) J ?_;exact gY
  exact gY
 refine aG h ?_ ?_<;>intro h
 ·exact eY
 refine aa ?_;refine aF (fun s L=> ∃d,zN N d=some r/\s=[(2,iV 0),(3,.bool false),(4,iV d)]/\L=[]) ?_ ?_
 ·refine aa ?_;refine aJ (jD J Vi) ?_;refine lK (fun m s L=> ∃(a:Int) (a6:Int),rS N c m a a6=some r/\s=[(0,.string c),(2,iV 0),(3,.bool false),(4,iV a),(24,iV (c.size:Int)),(25,iV a6)]/\L=[]) N ?_;rintro t _ _ ⟨a,a6,h,rfl,rfl⟩;rw [rS.eq_2] at h;refine aa ?_;refine aH ?_;refine gH J h ?_ ?_<;>intro h
  ·refine sY ?_;refine sZ ?_;obtain ⟨E,a8,h⟩:=ad h;refine aJ (sq J J Vi a8) ?_;refine dJ 5 37 32 h (fun _ l h=> ?_) fun D h=> ?_
   ·refine aa ?_;obtain ⟨C,q,h⟩:=ad h;refine bR (sq J J Vi q) J (bY l J) J ?_;exact gY
   refine aG h ?_ ?_<;>intro h
   ·exact eY
   refine aa ?_;obtain ⟨e,h⟩:=ai h;refine aJ (gq J J e.1 e.2) ?_;obtain ⟨B,o,h⟩:=ad h;refine gE (sq J J Vi o) ?_;refine gE (aaT J J) ?_;refine gE (jl J J Ex) ?_;obtain ⟨A,h⟩:=ai h;refine aa ?_;obtain ⟨z,h⟩:=ai h;exact lY
  exact jY
 rintro _ _ ⟨d,h,rfl,rfl⟩;refine sZ ?_;refine gH J h ?_ ?_<;>intro h
 ·exact eY
 exact eY
def fW (c:Vy):Option Bool:=
 bif decide (c.no=0) then ((bif c.S.toList==(⟨#[]⟩:ByteArray).toList then (some (decide (0<=c.N))) else (some false)).bind fun b3=>(bif b3 then (some (decide (c.N<=4294967294))) else (some false)).bind fun b4=>some b4) else (bif decide (c.no=1) then ((rW N c.S).bind fun a=>(bif decide (c.N=0) then (some (decide ((c.S.size:Int)<=65536))) else (some false)).bind fun d=>(bif d then (some (!a.2)) else (some false)).bind fun b8=>some b8) else (bif decide (c.no=2) then ((bif c.S.toList==(⟨#[]⟩:ByteArray).toList then (some (decide (1<=c.N))) else (some false)).bind fun a6=>some a6) else (some false)))
theorem zG {N:Nat}{c:Vy}{r:Bool}(h:fW N c=some r):Okc V5 85 [(dN c)] ([]) (fun u p=>u=.bool r/\p=[]):=by
 refine av Tryz.func85 ?_;intro B1;refine sY ?_;refine gH J h ?_ ?_<;>intro h
 ·refine aa ?_;refine aJ (kh J J) ?_;refine gS 4 16 12 h ?_;intro b3 h;refine aa ?_;refine gS 4 21 17 h ?_;intro b4 h;exact eY
 refine aG h ?_ ?_<;>intro h
 ·refine cR h (fun _ k=>Rg k) fun d h=> ?_
  refine bF 5 38 33 h (fun _ a h=> ?_) fun e h=> ?_
  ·refine aa ?_;refine bR (jD J Vi) J (be a J) J ?_;exact gY
  refine aa ?_;refine gS 3 42 39 h ?_;intro b8 h;exact eY
 refine aG h ?_ ?_<;>intro h
 ·refine aa ?_;refine aJ (kh J J) ?_;refine gS 4 52 48 h ?_;intro a6 h;exact eY
 exact eY
def my (N:Nat)(c:VK):Option Unit:=
 some ()
theorem Pp {N:Nat}{c:VK}{r:Unit}(h:my N c=some r):Okc V5 49 [pV B1 0] ([aQ B1 85 (cF c B2 e A4 n4 c4 A5 n5 c5 A6 n6 c6),pDHeap B2 c.XX,pDTable e c.Ya,aL eS (Y A4 n4 c4) c.Yk,aL jE (Y A5 n5 c5) c.Yl,aL eS (Y A6 n6 c6) c.Ym]) (fun u p=>u=pV e 0/\p=[]):=by
 refine av Tryz.func49 ?_;refine sZ ?_;refine aJ (gC J Vj) ?_;refine d8 J ?_;exact eY
theorem qL {N:Nat}{c:VK}{r:Unit}(h:my N c=some r){B1 B2 e:Nat}:Okc V5 49 [pV B1 0] ([pDWorld B1 B2 e c]) (fun u p=>u=pV e 0/\p=[]):=jR 0 rfl (fun _=>Pp h)
def pv (N:Nat)(c:VC)(a1:Int):Option Bool:=
 (bif decide (0<=a1) then (some (decide (a1<(c.Ya.length:Int)))) else (some false)).bind fun b4=>some b4
theorem DV {N:Nat}{r:Bool}(h:pv N c a1=some r):Okc V5 180 [pV B1 0,iV a1] ([aQ B1 191 [Y A2 n2 c2,.map (some M3)],aL cD (Y A2 n2 c2) c.Ya,cK dH cp M3 c.Yn]) (fun u p=>u=.bool r/\p=[]):=by
 refine av Tryz.func180 ?_;refine aJ (sr J Tryz.underlying81) ?_;refine gS 8 19 11 h ?_;intro b4 h;exact eY
def H4 (N:Nat):Option (Int×Int×Bool):=
 some (0,0,false)
def xF (N:Nat)(c:VC)(a2:Vy):Nat->Int->Int->Int->ByteArray->Int->Int->Option (Int×Int×Bool)
 |0,_,_,_,_,_,_=>none
 |j+1,i,a,f,e,d,a8=>bif decide (0<a8) then (bif decide ((⟨a,f,e⟩:Vy)=a2) then (ae (in64 (a8 - 1)) (some (a8 - 1,d,true))) else ((ak c.Ya i).bind fun a6=>(xF N c a2 j) a6.Up a6.XZ.no a6.XZ.N a6.XZ.S a6.XT a6.Yo)) else (H4 N)
def nE (c:VC)(a1:Int)(a2:Vy):Option (Int×Int×Bool):=
 (pv N c a1).bind fun a=>bif !a then (some (0,0,false)) else ((ak c.Ya a1).bind fun x8=>xF N c a2 N x8.Up x8.XZ.no x8.XZ.N x8.XZ.S x8.XT x8.Yo)
theorem xR {N:Nat}{r:Int×Int×Bool}(h:nE N c a1 a2=some r):Okc V5 137 [pV B1 0,iV a1,(dN a2)] ([aQ B1 191 [Y A2 n2 c2,.map (some M3)],aL cD (Y A2 n2 c2) c.Ya,cK dH cp M3 c.Yn]) (fun u p=>u=.tuple #[iV r.1,iV r.2.1,.bool r.2.2]/\p=[]):=by
 refine av Tryz.func137 ?_;intro a;refine sY ?_;refine cR h (fun _ k=>DV k) fun n h=> ?_
 refine gH J h ?_ ?_<;>intro h
 ·exact eY
 refine aa ?_;refine aF (fun s L=>H4 N=some r/\s=[(6,iV 0),(7,iV 0),(8,.bool false)]/\L=[]) ?_ ?_
 ·refine aa ?_;obtain ⟨x8,B,A,z,h⟩:=aI h;refine bB fun F=> ?_
  refine lK (fun m s L=> ∃(j:Int) (d:Int) (a6:Int) (a8:ByteArray) (i:Int) (f:Int) (e:Nat),xF N c a2 m j d a6 a8 i f=some r/\s=[(0,pV B1 0),(5,pV a 0),(6,iV 0),(7,iV 0),(8,.bool false),(9,pV e 0)]/\L=[ab e 159 [iV j,iV d,iV a6,.string a8,iV i,iV f],aL cD (Y A2 n2 c2) c.Ya,cK dH cp M3 c.Yn,aQ B1 191 [Y A2 n2 c2,.map (some M3)],ab a 34 (ij a2)]) N ?_;rintro t _ _ ⟨j,d,a6,a8,i,f,e,h,rfl,rfl⟩;rw [xF.eq_2] at h;refine sZ ?_;refine gH J h ?_ ?_<;>intro h
  ·refine sY ?_;refine aJ (Mk (x:=(⟨d,a6,a8⟩:Vy)) (y:=a2) J J) ?_;refine gH J h ?_ ?_<;>intro h
   ·refine dY [] ?_;refine aa ?_;obtain ⟨q,h⟩:=ai h;exact eY
   refine sY ?_;intro o;refine aa ?_;refine cy I _ (ah _) ?_;refine aa ?_;obtain ⟨l,E,D,C,h⟩:=aI h;refine aa ?_;refine iu 8 J I I (bL (us:=Bq l) (cs':=Bq l) 0 J J J J size159.out J J J) ?_;rintro _ _ rfl;exact lY
  exact jY
 rintro _ _ ⟨h,rfl,rfl⟩;exact eY
theorem Pe {N:Nat}{r:Int×Int×Bool}(h:nE N c a1 a2=some r):Okc V5 137 [pV B1 0,iV a1,(dN a2)] ([pDTable B1 c]) (fun u p=>u=.tuple #[iV r.1,iV r.2.1,.bool r.2.2]/\p=[]):=jR 0 rfl (fun _=>xR h)
def Dt (N:Nat)(a2:Vy)(d a6 a8:Int)(f:ByteArray)(e a:Int)(c:ByteArray):Option VN:=
 some (⟨a2,d,(⟨0,0,⟨#[]⟩⟩:VH),(⟨a6,a8,f⟩:VH),(⟨e,a,c⟩:VH)⟩:VN)
def qY (c:VA)(a1:Int)(a2:Vy)(d:Int):Option VN:=
 ae (in64 (a1+1)) (bif decide ((c.XY.XQ.length:Int)<=a1+1) then (some (⟨a2,d,(⟨0,0,⟨#[]⟩⟩:VH),(⟨0,0,⟨#[]⟩⟩:VH),(⟨0,0,⟨#[]⟩⟩:VH)⟩:VN)) else (ae (in64 (a1+1)) ((ak c.XY.XQ (a1+1)).bind fun e=>bif decide (aM .i64 d 8=0) then (some (⟨a2,d,e,(⟨0,0,⟨#[]⟩⟩:VH),(⟨0,0,⟨#[]⟩⟩:VH)⟩:VN)) else ((gZ N c.w_ e).bind fun a6=>bif decide ((a6.XQ.length:Int)=2) then ((ak a6.XQ 0).bind fun a8=>(ak a6.XQ 1).bind fun a=>Dt N a2 d a8.no a8.N a8.S a.no a.N a.S) else (Dt N a2 d 0 0 (⟨#[]⟩) 0 0 (⟨#[]⟩))))))
theorem HT {N:Nat}{c:VA}{r:VN}(h:qY N c a1 a2 d=some r):Okc V5 52 [pV B1 0,iV a1,(dN a2),iV d] ([aQ B1 103 [iV c.XY.no,iV c.XY.XV,iV c.XY.XU,iV c.XY.XW,Y A2 n2 c2,Y A3 n3 c3,pV a 0,iV c.at_.no,iV c.at_.N,.string c.at_.S],ap A2 n2 c2 c.XY.XQ,ap A3 n3 c3 c.XY.XP,pDWorld a f B6 c.w_]) (fun u p=>u=(dw r)/\p=[]):=by
 refine av Tryz.func52 ?_;intro O;refine bB fun B=> ?_
 intro C;refine sY ?_;obtain ⟨g4,h⟩:=ai h;refine aG h ?_ ?_<;>intro h
 ·exact eY
 refine aa ?_;obtain ⟨Z,h⟩:=ai h;refine aa ?_;obtain ⟨a8,e2,e3,e4,h⟩:=aI h;refine bB fun D=> ?_
 refine sZ ?_;refine aJ (fL J J) ?_;refine gH J h ?_ ?_<;>intro h
 ·exact eY
 refine aa ?_;refine aF (fun s L=> ∃M K H F q E,Dt N a2 d M K H F q E=some r/\s=[(8,pV B 0),(9,pV C 0)]/\L=[ab B 48 [iV 0,iV 0,.string (⟨#[]⟩),iV 0,iV 0,iV 0,.string (⟨#[]⟩),iV 0,iV 0,.string (⟨#[]⟩),iV 0,iV 0,.string (⟨#[]⟩)],ab C 48 [iV a2.no,iV a2.N,.string a2.S,iV d,iV 0,iV 0,.string (⟨#[]⟩),iV M,iV K,.string H,iV F,iV q,.string E]]) ?_ ?_
 ·refine aH ?_;obtain ⟨a6,X,h⟩:=ad h;refine dx (t:=[(0,pV B1 0),(8,pV B 0),(9,pV C 0),(10,pV D 0)]) ?_ cL (ah _);refine fv I 7 [] [5,6] [40,41,42,43,44,45,11] [[],[0],[1],[2],[],[3,4],[]] [aV (pV B1 0),
aV (pV B1 0),
aV (pV B1 6),
aV (pV a 0),
aV (.agg #[iV a8.no,iV a8.N,.string a8.S]),
aX6 (fun (n:Option Addr) (m l:Nat) (j:Option Addr) (i e:Nat)=> .agg #[iV a6.no,iV a6.XV,iV a6.XU,iV a6.XW,Y n m l,Y j i e]) (fun n m l j i e=> [aj n m l a6.XQ,aj j i e a6.XP]),
aX1 (fun (z:Nat)=>pV z 0) (fun z=> [ab z 45 [iV 0,iV 0,iV 0,iV 0,Y none 0 0,Y none 0 0]])] [] (ah _) (fB) I rfl rfl ?_ ?_ ?_
  ·exact fz
  ·refine bl J ?_ ?_
   ·refine fi (iq zero45.out J) J ?_;rintro _ _ ⟨V,rfl,rfl⟩;exact wU V (ah _)
   refine bl J ?_ ?_
   ·refine fi (oR (Dy X)) J ?_;rintro _ _ ⟨_,⟨U,T,S,R,Q,P,rfl,rfl⟩,rfl⟩;exact G4 U T S R Q P (ah _)
   refine qR (db (us:=[iV a8.no,iV a8.N,.string a8.S]) 0 J J agg29.out J) ?_;refine qR (lT 4 J J tf J) ?_;refine qE (bW J LY) ?_;refine qE (cr J) ?_;refine qE (ay J) ?_;exact fq
  intro n m l j i e z;refine eF (t:=[(45,.agg #[iV a6.no,iV a6.XV,iV a6.XU,iV a6.XW,Y n m l,Y j i e]),(11,pV z 0),(0,pV B1 0),(8,pV B 0),(9,pV C 0),(10,pV D 0)]) (L':=[aj n m l a6.XQ,aj j i e a6.XP,ab z 45 [iV 0,iV 0,iV 0,iV 0,Y none 0 0,Y none 0 0],ab D 29 [iV a8.no,iV a8.N,.string a8.S],ab C 48 [iV a2.no,iV a2.N,.string a2.S,iV d,iV 0,iV 0,.string (⟨#[]⟩),iV 0,iV 0,.string (⟨#[]⟩),iV 0,iV 0,.string (⟨#[]⟩)],ab B 48 [iV 0,iV 0,.string (⟨#[]⟩),iV 0,iV 0,iV 0,.string (⟨#[]⟩),iV 0,iV 0,.string (⟨#[]⟩),iV 0,iV 0,.string (⟨#[]⟩)],ab O 34 (ij a2),aQ B1 103 [iV c.XY.no,iV c.XY.XV,iV c.XY.XU,iV c.XY.XW,Y A2 n2 c2,Y A3 n3 c3,pV a 0,iV c.at_.no,iV c.at_.N,.string c.at_.S],ap A2 n2 c2 c.XY.XQ,ap A3 n3 c3 c.XY.XP,pDWorld a f B6 c.w_]) ?_ cL (ah _);refine gv 7 J I (bL (us:=(bw a6 n m l j i e)) (cs':=(bw a6 n m l j i e)) 2 J J J J size45.out J J J) J J ?_;rintro _ _ rfl;refine jo ?_;refine fw I ?_;refine aG h ?_ ?_<;>intro h
  ·refine cy I ([aj n m l a6.XQ,aj j i e a6.XP,ab z 45 (bw a6 n m l j i e),ab D 29 [iV a8.no,iV a8.N,.string a8.S],ab B 48 [iV 0,iV 0,.string (⟨#[]⟩),iV 0,iV 0,iV 0,.string (⟨#[]⟩),iV 0,iV 0,.string (⟨#[]⟩),iV 0,iV 0,.string (⟨#[]⟩)],ab O 34 (ij a2),aQ B1 103 [iV c.XY.no,iV c.XY.XV,iV c.XY.XU,iV c.XY.XW,Y A2 n2 c2,Y A3 n3 c3,pV a 0,iV c.at_.no,iV c.at_.N,.string c.at_.S],ap A2 n2 c2 c.XY.XQ,ap A3 n3 c3 c.XY.XP,pDWorld a f B6 c.w_]) (cS [0,1,2,3,5,6,7,8,9,10] 11) ?_;refine aa ?_;obtain ⟨o,f3,f9,g0,h⟩:=aI h;refine aa ?_;obtain ⟨A,g1,g2,g3,h⟩:=aI h;refine aa ?_;refine zO 9 J (bL (us:=[iV o.no,iV o.N,.string o.S]) (cs':=[iV a2.no,iV a2.N,.string a2.S,iV d,iV 0,iV 0,.string (⟨#[]⟩),iV o.no,iV o.N,.string o.S,iV 0,iV 0,.string (⟨#[]⟩)]) 4 J J J J size29.out J J J) ?_;rintro _ _ rfl;refine bE ?_;refine aa ?_;refine zO 11 J (bL (us:=[iV A.no,iV A.N,.string A.S]) (cs':=[iV a2.no,iV a2.N,.string a2.S,iV d,iV 0,iV 0,.string (⟨#[]⟩),iV o.no,iV o.N,.string o.S,iV A.no,iV A.N,.string A.S]) 4 J J J J size29.out J J J) ?_;rintro _ _ rfl;refine bE ?_;exact jY
  exact jY
 rintro _ _ ⟨M,K,H,F,q,E,h,rfl,rfl⟩;exact eY
def kJ (c:VA)(a1:Vy):Option (VN×Int×Bool):=
 (my N c.w_).bind fun a=>(nE N c.w_.Ya c.XY.XV a1).bind fun a6=>bif !a6.2.2 then (some ((⟨(⟨0,0,⟨#[]⟩⟩:Vy),0,(⟨0,0,⟨#[]⟩⟩:VH),(⟨0,0,⟨#[]⟩⟩:VH),(⟨0,0,⟨#[]⟩⟩:VH)⟩:VN),0,false)) else ((qY N c a6.1 a1 a6.2.1).bind fun a8=>some (a8,a6.1,true))
theorem xT {N:Nat}{c:VA}{a1:Vy}{r:VN×Int×Bool}(h:kJ N c a1=some r):Okc V5 89 [pV B1 0,(dN a1)] ([aQ B1 103 [iV c.XY.no,iV c.XY.XV,iV c.XY.XU,iV c.XY.XW,Y A2 n2 c2,Y A3 n3 c3,pV a 0,iV c.at_.no,iV c.at_.N,.string c.at_.S],ap A2 n2 c2 c.XY.XQ,ap A3 n3 c3 c.XY.XP,pDWorld a f B6 c.w_]) (fun u p=>u=.tuple #[(dw r.1),iV r.2.1,.bool r.2.2]/\p=[]):=by
 refine av Tryz.func89 ?_;intro i;refine bB fun e=> ?_
 refine dY [0,1,2,3,5,6,7,8,9,10] ?_;obtain ⟨d,k,h⟩:=ad h;refine zD 4 J (oR (qL k)) ?_;rintro _ _ ⟨_,⟨rfl,rfl⟩,rfl⟩;refine ⟨_,ah _,ah _,?_⟩;obtain ⟨a6,k,h⟩:=ad h;refine zD 11 J (oR (Pe k)) ?_;rintro _ _ ⟨_,⟨rfl,rfl⟩,rfl⟩;refine ⟨_,ah _,ah _,?_⟩;refine zX [12,13,14,15,16,17,18] ?_;refine sY ?_;refine gH J h ?_ ?_<;>intro h
 ·exact eY
 refine cR h (fun _ k=>HT k) fun a8 h=> ?_
 exact eN
def yu (c:VC)(a1:Int):Option (VI×Bool):=
 (pv N c a1).bind fun a=>bif !a then (some ((⟨0,(⟨0,0,⟨#[]⟩⟩:Vy),0,0⟩:VI),false)) else ((ak c.Ya a1).bind fun x7=>some (x7,true))
theorem Qe {N:Nat}{r:VI×Bool}(h:yu N c a1=some r):Okc V5 177 [pV B1 0,iV a1] ([aQ B1 191 [Y A2 n2 c2,.map (some M3)],aL cD (Y A2 n2 c2) c.Ya,cK dH cp M3 c.Yn]) (fun u p=>u=.tuple #[(aaK r.1),.bool r.2]/\p=[]):=by
 refine av Tryz.func177 ?_;intro a;refine sY ?_;refine cR h (fun _ k=>DV k) fun d h=> ?_
 refine gH J h ?_ ?_<;>intro h
 ·exact eY
 refine aa ?_;obtain ⟨x7,a6,a8,e,h⟩:=aI h;exact eY
def pp (c:VC)(a1:Int):Option Int:=
 (yu N c a1).bind fun a=>some a.1.Yo
theorem DW {N:Nat}{r:Int}(h:pp N c a1=some r):Okc V5 130 [pV B1 0,iV a1] ([aQ B1 191 [Y A2 n2 c2,.map (some M3)],aL cD (Y A2 n2 c2) c.Ya,cK dH cp M3 c.Yn]) (fun u p=>u=iV r/\p=[]):=by
 refine av Tryz.func130 ?_;refine cR h (fun _ k=>Qe k) fun a h=> ?_
 intro f;exact eY
theorem Pz {N:Nat}{r:Int}(h:pp N c a1=some r):Okc V5 130 [pV B1 0,iV a1] ([pDTable B1 c]) (fun u p=>u=iV r/\p=[]):=jR 0 rfl (fun _=>DW h)
def r8 (N:Nat)(c:Int):Option Bool:=
 (bif decide (0<=c) then (some (decide (c<=15))) else (some false)).bind fun b1=>(bif b1 then (some (!decide (aM .i64 c 9=9))) else (some false)).bind fun b2=>some b2
theorem Rt {N:Nat}{c:Int}{r:Bool}(h:r8 N c=some r):Okc V5 189 [iV c] ([]) (fun u p=>u=.bool r/\p=[]):=by
 refine av Tryz.func189 ?_;refine gS 3 8 5 h ?_;intro b1 h;refine aa ?_;refine bF 4 13 9 h (fun _ a h=> ?_) fun b2 h=> ?_
 ·refine aa ?_;refine bR (fL J J) J (be a J) J ?_;exact gY
 exact eY
def qZ (c:VC)(a1:Int)(a2:Vy)(d:Int):Option Int:=
 (pv N c a1).bind fun f=>bif !f then (some 2) else ((fW N a2).bind fun e=>(bif !e then (some true) else ((r8 N d).bind fun a=>some (!a))).bind fun b8=>bif b8 then (some 1) else (some 0))
theorem DB {N:Nat}{r:Int}(h:qZ N c a1 a2 d=some r):Okc V5 143 [pV B1 0,iV a1,(dN a2),iV d] ([aQ B1 191 [Y A2 n2 c2,.map (some M3)],aL cD (Y A2 n2 c2) c.Ya,cK dH cp M3 c.Yn]) (fun u p=>u=iV r/\p=[]):=by
 refine av Tryz.func143 ?_;intro a;refine sY ?_;refine aJ (gC J Tryz.underlying81) ?_;refine d8 J ?_;refine cR h (fun _ k=>DV k) fun i h=> ?_
 refine gH J h ?_ ?_<;>intro h
 ·exact eY
 refine cR h (fun _ k=>zG k) fun f h=> ?_
 refine dJ 4 25 21 h (fun _ j h=> ?_) fun b8 h=> ?_
 ·refine cR h (fun _ k=>Rt k) fun e h=> ?_
  exact gY
 refine aG h ?_ ?_<;>intro h
 ·exact eY
 exact eY
def H2 (N:Nat)(a6:Int)(a:List VI)(a8:(List (VD×Int))):Option (Int×Int×VC):=
 some (a6,0,(⟨a,a8⟩:VC))
def xW (N:Nat)(e:List VI):Nat->Int->Int->(List VI)->(List (VD×Int))->Option (Int×Int×VC)
 |0,_,_,_,_=>none
 |i+1,a8,d,a,f=>bif decide (d<(e.length:Int)) then ((ak e d).bind fun a6=>(ak a a8).bind fun c=>ae (in64 (c.Yo+1)) (ae (bC (a.length+([(⟨a8,a6.XZ,a6.XT,c.Yo+1⟩:VI)]:List VI).length)) (ae (in64 (((a++([(⟨a8,a6.XZ,a6.XT,c.Yo+1⟩:VI)]:List VI)).length:Int) - 1)) (ae (in64 (d+1)) ((xW N e i) (((a++([(⟨a8,a6.XZ,a6.XT,c.Yo+1⟩:VI)]:List VI)).length:Int) - 1) (d+1) (a++([(⟨a8,a6.XZ,a6.XT,c.Yo+1⟩:VI)]:List VI)) (dp f (⟨a8,a6.XZ,a6.XT⟩:VD) (a.length:Int))))))) else (H2 N a8 a f)
def ra (c:VC)(d:Int)(a:List VI):Option (Int×Int×VC):=
 ae (in64 (1073741824 - (c.Ya.length:Int))) (bif decide (1073741824 - (c.Ya.length:Int)<(a.length:Int)) then (some (0,5,c)) else (xW N a N d 0 c.Ya c.Yn))
def yg (N:Nat)(c:VC):Nat->Int->(List VI)->Option (Int×Int×VC)
 |0,_,_=>none
 |e+1,a,a6=>bif decide (0<(a6.length:Int)) then ((ak a6 0).bind fun a8=>(ak a6 0).bind fun d=>bif !((lk c.Yn (⟨a,a8.XZ,d.XT⟩:VD)).isSome) then (ra N c a a6) else (ae ((0:Int)<=1/\(1:Int).toNat<=a6.length/\a6.length<=a6.length) ((yg N c e) ((lk c.Yn (⟨a,a8.XZ,d.XT⟩:VD)).getD 0) ((a6.drop ((1:Int).toNat)).take (a6.length - (1:Int).toNat))))) else (ra N c a a6)
def uw (c:VC)(a1:Int)(a2:List VI):Option (Int×Int×VC):=
 yg N c N a1 a2
theorem DT {N:Nat}{a2:List VI}{r:Int×Int×VC}(h:uw N c a1 a2=some r):Okc V5 144 [pV B1 0,iV a1,Y A4 n4 c4] ([aL cD (Y A4 n4 c4) a2,ab B1 191 [Y A2 n2 c2,.map (some M3)],aK cD 159 (Y A2 n2 c2) c.Ya,aA dH cp M3 c.Yn]) (fun u p=> ∃A0 n0 c0 M1,u=.tuple #[iV r.1,iV r.2.1]/\p=[ab B1 191 [Y A0 n0 c0,.map (some M1)],aK cD 159 (Y A0 n0 c0) r.2.2.Ya,aA dH cp M1 r.2.2.Yn]):=by
 refine av Tryz.func144 ?_;refine aF (fun s L=> ∃Q i q j n,ra N c Q i=some r/\s=[(0,pV B1 0),(6,iV 0),(7,iV 0),(8,iV Q),(9,Y q j n)]/\L=[aL cD (Y q j n) i,aK cD 159 (Y A2 n2 c2) c.Ya,aA dH cp M3 c.Yn,ab B1 191 [Y A2 n2 c2,.map (some M3)]]) ?_ ?_
 ·refine aa ?_;refine lK (fun m s L=> ∃(K:Int) (P:List VI) (e3:Option Addr) (e4 Z:Nat),yg N c m K P=some r/\s=[(0,pV B1 0),(6,iV 0),(7,iV 0),(8,iV K),(9,Y e3 e4 Z)]/\L=[aL cD (Y e3 e4 Z) P,aK cD 159 (Y A2 n2 c2) c.Ya,aA dH cp M3 c.Yn,ab B1 191 [Y A2 n2 c2,.map (some M3)]]) N ?_;rintro m8 _ _ ⟨K,P,e3,e4,Z,h,rfl,rfl⟩;rw [yg.eq_2] at h;refine sZ ?_;refine gH J h ?_ ?_<;>intro h
  ·refine aa ?_;refine dY [] ?_;refine aa ?_;obtain ⟨g6,e6,e7,g7,h⟩:=aI h;refine aa ?_;refine zR 7 J (dc 0 J bA J (toNat_lt e6 e7) FS) ?_;refine aa ?_;obtain ⟨g8,e8,e9,g9,h⟩:=aI h;refine aa ?_;refine zR 11 J (dc 0 J bA J (toNat_lt e8 e9) AN) ?_;refine aa ?_;refine zR 14 J (sC (a:=(⟨K,g6.XZ,g8.XT⟩:VD)) (z:=0) 2 J sN J J Tryz.underlying189 JM zero3.out) ?_;refine sY ?_;refine gH J h ?_ ?_<;>intro h
   ·refine aa ?_;refine adt J ?_;exact jY
   refine aa ?_;refine cy I _ (ah _) ?_;refine zY [0,1] ?_;obtain ⟨O,h⟩:=ai h;refine oM 0 J (l:=(1:Int).toNat) (h:=P.length) O.2.1 O.2.2 ?_;rintro h8 h9 i0 h0;refine zR 2 J (oJ 1 J h0 J Vf size159.out J (by rw [Wh O.1];rfl) O.2.1) ?_;refine zX [3,4] ?_;exact lY
  exact jY
 rintro _ _ ⟨Q,i,q,j,n,h,rfl,rfl⟩;refine sZ ?_;obtain ⟨i1,h⟩:=ai h;refine aG h ?_ ?_<;>intro h
 ·exact eY
 refine aa ?_;refine aF (fun s L=> ∃X A V U T S,H2 N X A V=some r/\s=[(6,iV 0),(7,iV 0),(8,iV X)]/\L=[aK cD 159 (Y U T S) A,aA dH cp M3 V,ab B1 191 [Y U T S,.map (some M3)]]) ?_ ?_
 ·refine aa ?_;refine lK (fun m s L=> ∃(a8:Int) (H:Int) (E:List VI) (M:(List (VD×Int))) (f:Option Addr) (e d:Nat),xW N i m a8 H E M=some r/\s=[(0,pV B1 0),(6,iV 0),(7,iV 0),(8,iV a8),(51,Y q j n),(52,iV (i.length:Int)),(53,iV H)]/\L=[aL cD (Y q j n) i,aK cD 159 (Y f e d) E,aA dH cp M3 M,ab B1 191 [Y f e d,.map (some M3)]]) N ?_;rintro i2 _ _ ⟨a8,H,E,M,f,e,d,h,rfl,rfl⟩;rw [xW.eq_2] at h;refine aa ?_;refine aH ?_;refine gH J h ?_ ?_<;>intro h
  ·refine sY ?_;obtain ⟨a6,h1,h2,h3,h⟩:=aI h;refine bB fun F=> ?_
   refine dY [] ?_;refine aa ?_;refine iu 15 J I I (pJ (a:=(⟨a8,a6.XZ,a6.XT⟩:VD)) (b:=(E.length:Int)) 3 J J J J Tryz.underlying189 JM) ?_;rintro _ _ rfl;refine aa ?_;refine aH ?_;obtain ⟨o,d3,d4,g1,h⟩:=aI h;obtain ⟨g2,h⟩:=ai h;refine dx (t:=[(0,pV B1 0),(6,iV 0),(7,iV 0),(8,iV a8),(13,pV F 0),(51,Y q j n),(52,iV (i.length:Int)),(53,iV H)]) ?_ cL (ah _);refine fv I 21 [0] [0,4,20] [72,73,74,75,76,77,78,79,80,81,82,83,84,85,86,87,88,89,90,91,92] [[],[],[1],[2],[3],[],[],[6],[],[8],[],[10],[11],[12],[],[13,14],[15],[16],[17],[5,7,9,18],[19]] [aV (pV B1 0),
aV (pV B1 0),
aV (pV B1 0),
aV (pV B1 0),
aV (Y f e d),
aV (iV a8),
aV (pV F 1),
aV ((dN a6.XZ)),
aV (pV F 4),
aV (iV a6.XT),
aV (pV B1 0),
aV (pV B1 0),
aV (pV B1 0),
aV (Y f e d),
aV (iV a8),
aV (bD (Y f e d) a8.toNat 6 0),
aV (bD (Y f e d) a8.toNat 6 5),
aV (iV o.Yo),
aV (iV (o.Yo+1)),
aV (.agg #[iV a8,iV a6.XZ.no,iV a6.XZ.N,.string a6.XZ.S,iV a6.XT,iV (o.Yo+1)]),
aX3 (fun (D:Option Addr) (C B:Nat)=> Y D C B) (fun D C B=> [aK cD 159 (Y D C B) ([(⟨a8,a6.XZ,a6.XT,o.Yo+1⟩:VI)]:List VI)])] [] (ah _) (ft rfl fB) I rfl rfl ?_ ?_ ?_
   ·refine fu J ?_ ?_
    ·exact fC (ay J) J (bj J (ah _))
    exact fz
   ·refine bl J ?_ ?_
    ·refine fi (cB (R:=cD) (vss:=[[iV a8,iV a6.XZ.no,iV a6.XZ.N,.string a6.XZ.S,iV a6.XT,iV (o.Yo+1)]]) (xs:=[(⟨a8,a6.XZ,a6.XT,o.Yo+1⟩:VI)]) J (Fm _ _ _ _ _ _) J J (fun _ _ hr=> .cons J All2.nil)) J ?_;rintro _ _ ⟨h4,h5,h6,rfl,rfl⟩;exact lp h4 h5 h6 (ah _)
    refine qE (iW J (bld_159_0_1_2_3 _ _ _ _ _ _).out) ?_;refine qE (cY J J g2.1 g2.2) ?_;refine bl J ?_ ?_
    ·exact dj (fZ (u:=iV o.Yo) 2 J aw J g1 eo (fun _ _ _ h=>by rw [show _=_ from h];rfl)) J (bj J (ah _))
    refine qR (dc 2 J aw J (toNat_lt d3 d4) FR) ?_;refine qR (cH 2 J aw J J Vf size159.out d3 d4) ?_;refine qE (ay J) ?_;refine qR (cn 4 J J GI J) ?_;refine qE (fb J Ba) ?_;refine qE (cr J) ?_;refine qE (ay J) ?_;refine qR (cn 0 J J eo J) ?_;refine qE (bW J AN) ?_;refine qR (db (us:=ij a6.XZ) 0 J J agg34.out J) ?_;refine qE (bW J FS) ?_;refine qE (ay J) ?_;refine qR (cn 4 J J GI J) ?_;refine qE (fb J Ba) ?_;refine qE (cr J) ?_;refine qE (ay J) ?_;refine qE (ay J) ?_;exact fq
   intro D C B;refine eF (t:=[(72,pV B1 0),(76,Y f e d),(92,Y D C B),(0,pV B1 0),(6,iV 0),(7,iV 0),(8,iV a8),(13,pV F 0),(51,Y q j n),(52,iV (i.length:Int)),(53,iV H)]) (L':=[aK cD 159 (Y D C B) ([(⟨a8,a6.XZ,a6.XT,o.Yo+1⟩:VI)]:List VI),ab F 159 (Bq a6),aL cD (Y q j n) i,aK cD 159 (Y f e d) E,aA dH cp M3 (dp M (⟨a8,a6.XZ,a6.XT⟩:VD) (E.length:Int)),ab B1 191 [Y f e d,.map (some M3)]]) ?_ cL (ah _);obtain ⟨h7,h⟩:=ai h;refine gP 21 J I (cG 3 0 J J aw J J Vf acX J J h7) J J J ?_;rintro _ _ ⟨g3,g4,g5,rfl,rfl⟩;refine jt 22 J I (cr J) J J J ?_;refine jt 23 J I (fb J Ba) J J J ?_;refine gv 24 J I (bL (us:=[Y g3 g4 g5]) (cs':=[Y g3 g4 g5,.map (some M3)]) 5 J J J J size156.out J J J) J J ?_;rintro _ _ rfl;refine jo ?_;refine fw I ?_;refine aa ?_;obtain ⟨i3,h⟩:=ai h;refine aa ?_;obtain ⟨i4,h⟩:=ai h;exact lY
  exact jY
 rintro _ _ ⟨X,A,V,U,T,S,h,rfl,rfl⟩;exact eY
def ur (c:VC)(a1:Int)(a2:Vy)(d:Int):Option (Int×Int×VC):=
 (qZ N c a1 a2 d).bind fun a=>bif !decide (a=0) then (some (0,a,c)) else ((nE N c a1 a2).bind fun f=>bif f.2.2 then (some (0,4,c)) else ((pp N c a1).bind fun e=>bif decide (1024<=e) then (some (0,9,c)) else ((uw N c a1 ([(⟨0,a2,d,0⟩:VI)]:List VI)).bind fun a6=>some (a6.1,a6.2.1,a6.2.2))))
theorem PP {N:Nat}{r:Int×Int×VC}(h:ur N c a1 a2 d=some r):Okc V5 131 [pV B1 0,iV a1,(dN a2),iV d] ([ab B1 191 [Y A2 n2 c2,.map (some M3)],aK cD 159 (Y A2 n2 c2) c.Ya,aA dH cp M3 c.Yn]) (fun u p=> ∃j e f i,u=.tuple #[iV r.1,iV r.2.1]/\p=[ab B1 191 [Y j e f,.map (some i)],aK cD 159 (Y j e f) r.2.2.Ya,aA dH cp i r.2.2.Yn]):=by
 refine av Tryz.func131 ?_;intro a;refine sY ?_;refine cR h (fun _ k=>DB k) fun n h=> ?_
 refine gH J h ?_ ?_<;>intro h
 ·exact eY
 refine sY ?_;refine cR h (fun _ k=>xR k) fun m h=> ?_
 refine gH J h ?_ ?_<;>intro h
 ·exact eY
 refine sY ?_;refine cR h (fun _ k=>DW k) fun l h=> ?_
 refine gH J h ?_ ?_<;>intro h
 ·exact eY
 refine aa ?_;refine gD (cB (R:=cD) (vss:=[[iV 0,iV a2.no,iV a2.N,.string a2.S,iV d,iV 0]]) (xs:=[(⟨0,a2,d,0⟩:VI)]) J (Fm _ _ _ _ _ _) J J (fun _ _ hr=> .cons J All2.nil)) ?_;rintro _ _ ⟨a6,a8,B,rfl,rfl⟩;refine d6 (cu 0 J) ?_;obtain ⟨A,k,h⟩:=ad h;refine gD (oC (DT k)) ?_;rintro _ _ ⟨_,⟨z,t,q,o,rfl,rfl⟩,rfl⟩;exact eY
theorem Pn {N:Nat}{r:Int×Int×VC}(h:ur N c a1 a2 d=some r):Okc V5 131 [pV B1 0,iV a1,(dN a2),iV d] ([oDTable B1 c]) (fun u p=>u=.tuple #[iV r.1,iV r.2.1]/\p=[oDTable B1 r.2.2]):=il 0 rfl (fun _=>PP h)
def ul (c:VA)(a1:VN)(a2:VH):Option (VH×VK):=
 bif decide (aM .i64 a1.XT 8=0) then (some (a1.Value,c.w_)) else ((bif decide (a2.no=9) then ((gZ N c.w_ a2).bind fun a8=>some (decide (a8.no=5))) else (some false)).bind fun d=>bif d then ((lF N c.w_ a2 (⟨5,0,0,0,([a1.Yc,a1.Yd]:List VH),[]⟩:VL)).bind fun a=>some (a2,a)) else ((mG N c.w_ (⟨5,0,0,0,([a1.Yc,a1.Yd]:List VH),[]⟩:VL)).bind fun a6=>some (a6.1,a6.2)))
theorem DD {N:Nat}{c:VA}{a1:VN}{a2:VH}{r:VH×VK}(h:ul N c a1 a2=some r):Okc V5 132 [pV B1 0,(dw a1),(bS a2)] ([ab B1 103 [iV c.XY.no,iV c.XY.XV,iV c.XY.XU,iV c.XY.XW,Y A2 n2 c2,Y A3 n3 c3,pV a 0,iV c.at_.no,iV c.at_.N,.string c.at_.S],aj A2 n2 c2 c.XY.XQ,aj A3 n3 c3 c.XY.XP,oDWorld a f B6 c.w_]) (fun u p=>u=.agg #[iV r.1.no,iV r.1.N,.string r.1.S]/\p=[oDWorld a f B6 r.2,ab B1 103 [iV c.XY.no,iV c.XY.XV,iV c.XY.XU,iV c.XY.XW,Y A2 n2 c2,Y A3 n3 c3,pV a 0,iV c.at_.no,iV c.at_.N,.string c.at_.S],aj A2 n2 c2 c.XY.XQ,aj A3 n3 c3 c.XY.XP]):=by
 refine av Tryz.func132 ?_;intro n;refine bB fun m=> ?_
 intro l;refine sY ?_;refine aJ (fL J J) ?_;refine gH J h ?_ ?_<;>intro h
 ·exact eY
 refine aa ?_;refine bN (cB (R:=ca) (vss:=[(ee a1.Yc),(ee a1.Yd)]) (xs:=[a1.Yc,a1.Yd]) J (Lo _ _ _ _ _ _) J J (fun _ _ hr=> .cons J (.cons J All2.nil))) fun j i e=> ?_
 intro d;refine aa ?_;refine aH ?_;refine dY [0,1,2,3] ?_;refine yJ [4,5,6,7,8,9,10,11,12] 0 23 32 h (fun _ a8 h rest=> ?_) (fun _ a8 h rest=> ?_) fun E h=> ?_
 ·refine yY [4,5,6,7,8] ?_;obtain ⟨D,k,h⟩:=ad h;refine iI 9 J I (oR (Dy k)) J (be a8 J) J ?_;rintro _ _ ⟨_,⟨C,B,A,z,t,q,rfl,rfl⟩,rfl⟩;refine bE ?_;refine ei 10 J I (vV J (UK _ _ _ _ _ _ _ _ _ _)) (be a8 J) J ?_;refine yY [11,12] ?_;exact yS rest h
 ·refine yY [4,5,6,7,8,9,10,11,12] ?_;exact yS rest h
 refine cJ I ?_;refine aG h ?_ ?_<;>intro h
 ·refine aH ?_;refine cy I ([ab d 45 [iV 5,iV 0,iV 0,iV 0,Y j i e,Y none 0 0],ab l 29 [iV 0,iV 0,.string (⟨#[]⟩)],ab m 29 (ee a2),ab n 48 (dS a1),ab B1 103 [iV c.XY.no,iV c.XY.XV,iV c.XY.XU,iV c.XY.XW,Y A2 n2 c2,Y A3 n3 c3,pV a 0,iV c.at_.no,iV c.at_.N,.string c.at_.S],aj A2 n2 c2 c.XY.XQ,aj A3 n3 c3 c.XY.XP]) (cS [0,2,3,4,5,6,7] 9) ?_;refine aa ?_;refine fg (cu 1 J) (cS [0,2,3,4,5,6,7] 9) ?_;obtain ⟨o,k,h⟩:=ad h;refine fg (km ca _) (cS [1,3,4,5,6,7,8] 10) ?_;refine zD 6 J (oC (PE k)) ?_;rintro _ _ ⟨_,⟨rfl,rfl⟩,rfl⟩;refine bE ?_;exact eY
 refine aa ?_;refine aH ?_;refine cy I ([ab d 45 [iV 5,iV 0,iV 0,iV 0,Y j i e,Y none 0 0],ab l 29 [iV 0,iV 0,.string (⟨#[]⟩)],ab m 29 (ee a2),ab n 48 (dS a1),ab B1 103 [iV c.XY.no,iV c.XY.XV,iV c.XY.XU,iV c.XY.XW,Y A2 n2 c2,Y A3 n3 c3,pV a 0,iV c.at_.no,iV c.at_.N,.string c.at_.S],aj A2 n2 c2 c.XY.XQ,aj A3 n3 c3 c.XY.XP]) (cS [0,2,3,4,5,6,7] 9) ?_;refine aa ?_;refine fg (cu 1 J) (cS [0,2,3,4,5,6,7] 9) ?_;obtain ⟨a6,k,h⟩:=ad h;refine fg (km ca _) (cS [1,3,4,5,6,7,8] 10) ?_;refine zD 5 J (oC (Pk k)) ?_;rintro _ _ ⟨_,⟨rfl,rfl⟩,rfl⟩;refine bE ?_;refine iu 6 J I I (bL (us:=[iV a6.1.no,iV a6.1.N,.string a6.1.S]) (cs':=[iV a6.1.no,iV a6.1.N,.string a6.1.S]) 4 J J J J size29.out J J J) ?_;rintro _ _ rfl;exact eY
def ui (N:Nat)(c:VK):Option VK:=
 ae (in64 (c.Yh+1)) (some (⟨c.Yj,c.Ye,(),c.XX,c.Ya,c.Yk,c.Yh+1,c.Yr,c.Ys,c.Yl,c.Ym⟩:VK))
theorem Pt {N:Nat}{c r:VK}(h:ui N c=some r):Okc V5 136 [pV B1 0] ([ab B1 85 (cF c B2 e A4 n4 c4 A5 n5 c5 A6 n6 c6),oDHeap B2 c.XX,oDTable e c.Ya,bi A4 n4 c4 c.Yk,cx A5 n5 c5 c.Yl,bi A6 n6 c6 c.Ym]) (fun u p=> ∃f a d A1 i c1 A2 n2 c2,u=.tuple #[]/\p=[ab B1 85 (cF r B2 e f a d A1 i c1 A2 n2 c2),oDHeap B2 r.XX,oDTable e r.Ya,bi f a d r.Yk,cx A1 i c1 r.Yl,bi A2 n2 c2 r.Ym]):=by
 refine av Tryz.func136 ?_;refine aJ (sr J Vj) ?_;refine d9 J ?_;refine aa ?_;obtain ⟨j,h⟩:=ai h;exact eY
theorem O6 {N:Nat}{c r:VK}(h:ui N c=some r){B1 B2 e:Nat}:Okc V5 136 [pV B1 0] ([oDWorld B1 B2 e c]) (fun u p=>u=.tuple #[]/\p=[oDWorld B1 B2 e r]):=il 0 rfl (fun _=>Pt h)
def jU (c:VA)(a1:Bool):Option VA:=
 (nD N c.w_ c.at_ c.XY).bind fun a=>(bif a1 then (some (!decide (aM .i64 c.XY.XU 16=0))) else (some false)).bind fun b8=>bif b8 then ((ui N a).bind fun a6=>some (⟨c.XY,a6,c.at_⟩:VA)) else (some (⟨c.XY,a,c.at_⟩:VA))
theorem t8 {N:Nat}{c:VA}{a1:Bool}{r:VA}(h:jU N c a1=some r):Okc V5 88 [pV B1 0,.bool a1] ([ab B1 103 [iV c.XY.no,iV c.XY.XV,iV c.XY.XU,iV c.XY.XW,Y A2 n2 c2,Y A3 n3 c3,pV a 0,iV c.at_.no,iV c.at_.N,.string c.at_.S],aj A2 n2 c2 c.XY.XQ,aj A3 n3 c3 c.XY.XP,oDWorld a f B6 c.w_]) (fun u p=> ∃j d e A1 i c1,u=.tuple #[]/\p=[ab B1 103 [iV r.XY.no,iV r.XY.XV,iV r.XY.XU,iV r.XY.XW,Y j d e,Y A1 i c1,pV a 0,iV r.at_.no,iV r.at_.N,.string r.at_.S],aj j d e r.XY.XQ,aj A1 i c1 r.XY.XP,oDWorld a f B6 r.w_]):=by
 refine gQ Tryz.func88 J J ?_;simp only [fe];refine aH ?_;refine cy I ([ab B1 103 [iV c.XY.no,iV c.XY.XV,iV c.XY.XU,iV c.XY.XW,Y A2 n2 c2,Y A3 n3 c3,pV a 0,iV c.at_.no,iV c.at_.N,.string c.at_.S],aj A2 n2 c2 c.XY.XQ,aj A3 n3 c3 c.XY.XP]) (cS [0,1,2] 4) ?_;refine aa ?_;obtain ⟨m,k,h⟩:=ad h;refine zD 12 J (oC (HJ k)) ?_;rintro _ _ ⟨_,⟨rfl,rfl⟩,rfl⟩;refine bE ?_;refine aa ?_;refine bF 8 26 18 h (fun _ l h=> ?_) fun b8 h=> ?_
 ·refine aa ?_;refine bR (fL J J) J (be l J) J ?_;exact gY
 refine aG h ?_ ?_<;>intro h
 ·refine cC h (fun _ k=>O6 k) fun a6 h=> ?_
  exact eN
 exact eY
def Ia (N:Nat)(a:List VI):Option (List VI):=
 some a
def xU (N:Nat)(c:VC):Nat->Int->(List VI)->Int->Option (List VI)
 |0,_,_,_=>none
 |f+1,e,a8,a=>bif decide (0<=a) then ((ak c.Ya e).bind fun a6=>(ak a8 a).bind fun i=>(ak (List.set a8 a.toNat (⟨a6.Up,(⟨a6.XZ.no,a6.XZ.N,a6.XZ.S⟩:Vy),a6.XT,a6.Yo⟩:VI)) a).bind fun d=>ae (in64 (a - 1)) ((xU N c f) d.Up (List.set a8 a.toNat (⟨a6.Up,(⟨a6.XZ.no,a6.XZ.N,a6.XZ.S⟩:Vy),a6.XT,a6.Yo⟩:VI)) (a - 1))) else (Ia N a8)
def px (c:VC)(a1:Int):Option (List VI):=
 (pp N c a1).bind fun a=>ae (0<=a/\a<=1000000) (ae (in64 (((List.replicate a.toNat (⟨0,(⟨0,0,⟨#[]⟩⟩:Vy),0,0⟩:VI)).length:Int) - 1)) (xU N c N a1 (List.replicate a.toNat (⟨0,(⟨0,0,⟨#[]⟩⟩:Vy),0,0⟩:VI)) (((List.replicate a.toNat (⟨0,(⟨0,0,⟨#[]⟩⟩:Vy),0,0⟩:VI)).length:Int) - 1)))
theorem yc {N:Nat}{r:List VI}(h:px N c a1=some r):Okc V5 102 [pV B1 0,iV a1] ([aQ B1 191 [Y A2 n2 c2,.map (some M3)],aL cD (Y A2 n2 c2) c.Ya,cK dH cp M3 c.Yn]) (fun u p=> ∃A q t,u=Y A q t/\p=[aK cD 159 (Y A q t) r]):=by
 refine av Tryz.func102 ?_;obtain ⟨P,k,h⟩:=ad h;refine gV (oR (DW k)) ?_;obtain ⟨B,h⟩:=ai h;refine bN (aaL (R:=cD) (zl:=[iV 0,iV 0,iV 0,.string (⟨#[]⟩),iV 0,iV 0]) (x0:=(⟨0,(⟨0,0,⟨#[]⟩⟩:Vy),0,0⟩:VI)) J J Vf J J J J J (by decide) (fun _ _=>J) B) fun A6 n6 c6=> ?_
 refine aF (fun s L=> ∃i o j l,Ia N i=some r/\s=[(4,Y none 0 0),(5,Y o j l)]/\L=[aK cD 159 (Y o j l) i]) ?_ ?_
 ·refine aa ?_;obtain ⟨Q,h⟩:=ai h;refine aa ?_;refine lK (fun m s L=> ∃(n:Int) (a8:List VI) (a:Int) (f:Option Addr) (e d:Nat),xU N c m n a8 a=some r/\s=[(0,pV B1 0),(1,iV n),(4,Y none 0 0),(5,Y f e d),(6,iV a)]/\L=[aK cD 159 (Y f e d) a8,aL cD (Y A2 n2 c2) c.Ya,cK dH cp M3 c.Yn,aQ B1 191 [Y A2 n2 c2,.map (some M3)]]) N ?_;rintro E _ _ ⟨n,a8,a,f,e,d,h,rfl,rfl⟩;rw [xU.eq_2] at h;refine sZ ?_;refine gH J h ?_ ?_<;>intro h
  ·refine sY ?_;obtain ⟨a6,d3,d4,Z,h⟩:=aI h;refine aa ?_;obtain ⟨V,O,M,K,h⟩:=aI h;refine aa ?_;refine fm (dX (us:=Bq a6) (z:=(⟨a6.Up,(⟨a6.XZ.no,a6.XZ.N,a6.XZ.S⟩:Vy),a6.XT,a6.Yo⟩:VI)) 0 J J J J size159.out J (toNat_lt O M) J (fun S w vs xk C hr T=>by obtain rfl:=Xx (C.symm.trans K);rw [show _=_ from hr];rfl)) ?_;obtain ⟨D,H,F,X,h⟩:=aI h;refine aa ?_;refine fS (iA 0 J aw J (toNat_lt H F) FQ) ?_;obtain ⟨U,h⟩:=ai h;refine aa ?_;exact ⟨E,_,_,VS _,⟨D.Up,List.set a8 a.toNat (⟨a6.Up,(⟨a6.XZ.no,a6.XZ.N,a6.XZ.S⟩:Vy),a6.XT,a6.Yo⟩:VI),a - 1,f,e,d,h,J,J⟩,sA,cS [0,1,2,3] 4⟩
  exact jY
 rintro _ _ ⟨i,o,j,l,h,rfl,rfl⟩;exact eY
def HO (N:Nat)(a:Int):Option Int:=
 some a
def xC (N:Nat)(a2:Int)(c:VC):Nat->Int->Option Int
 |0,_=>none
 |d+1,a=>(ak c.Ya a).bind fun x8=>bif decide (a2<x8.Yo) then ((ak c.Ya a).bind fun a6=>(xC N a2 c d) a6.Up) else (HO N a)
def uf (c:VC)(a1 a2:Int):Option Int:=
 xC N a2 c N a1
theorem HN {N:Nat}{a2 r:Int}(h:uf N c a1 a2=some r):Okc V5 145 [pV B1 0,iV a1,iV a2] ([aQ B1 191 [Y A2 n2 c2,.map (some M3)],aL cD (Y A2 n2 c2) c.Ya,cK dH cp M3 c.Yn]) (fun u p=>u=iV r/\p=[]):=by
 refine av Tryz.func145 ?_;refine aF (fun s L=> ∃d,HO N d=some r/\s=[(1,iV d),(6,iV 0)]/\L=[]) ?_ ?_
 ·refine aa ?_;refine lK (fun m s L=> ∃(a:Int),xC N a2 c m a=some r/\s=[(0,pV B1 0),(1,iV a),(2,iV a2),(6,iV 0)]/\L=[aL cD (Y A2 n2 c2) c.Ya,cK dH cp M3 c.Yn,aQ B1 191 [Y A2 n2 c2,.map (some M3)]]) N ?_;rintro i _ _ ⟨a,h,rfl,rfl⟩;rw [xC.eq_2] at h;refine sZ ?_;obtain ⟨x8,f,e,l,h⟩:=aI h;refine aa ?_;refine fS (dc 0 J bA J (toNat_lt f e) FR) ?_;refine gH J h ?_ ?_<;>intro h
  ·refine aa ?_;obtain ⟨j,a6,a8,n,h⟩:=aI h;refine aa ?_;refine fS (iA 0 J bA J (toNat_lt a6 a8) FQ) ?_;exact lN
  exact jY
 rintro _ _ ⟨d,h,rfl,rfl⟩;exact eY
def ub (c:VC)(a1:Int)(a2:Vy)(d:Int):Option (Int×Int×VC):=
 (qZ N c a1 a2 d).bind fun f=>bif !decide (f=0) then (some (0,f,c)) else ((nE N c a1 a2).bind fun a=>bif !a.2.2 then (some (0,3,c)) else ((px N c a1).bind fun e=>ae ((0:Int)<=a.1/\a.1.toNat<e.length) ((ak (List.drop a.1.toNat e) 0).bind fun a6=>(uf N c a1 a.1).bind fun i=>(uw N c i (List.set (List.drop a.1.toNat e) ((0:Int).toNat) (⟨a6.Up,(⟨a6.XZ.no,a6.XZ.N,a6.XZ.S⟩:Vy),d,a6.Yo⟩:VI))).bind fun a8=>some (a8.1,a8.2.1,a8.2.2))))
theorem Pi {N:Nat}{r:Int×Int×VC}(h:ub N c a1 a2 d=some r):Okc V5 133 [pV B1 0,iV a1,(dN a2),iV d] ([ab B1 191 [Y A2 n2 c2,.map (some M3)],aK cD 159 (Y A2 n2 c2) c.Ya,aA dH cp M3 c.Yn]) (fun u p=> ∃n f i m,u=.tuple #[iV r.1,iV r.2.1]/\p=[ab B1 191 [Y n f i,.map (some m)],aK cD 159 (Y n f i) r.2.2.Ya,aA dH cp m r.2.2.Yn]):=by
 refine av Tryz.func133 ?_;intro a;refine sY ?_;refine cR h (fun _ k=>DB k) fun B h=> ?_
 refine gH J h ?_ ?_<;>intro h
 ·exact eY
 refine cR h (fun _ k=>xR k) fun o h=> ?_
 refine sZ ?_;refine gH J h ?_ ?_<;>intro h
 ·exact eY
 refine kG h (fun _ k=>yc k) fun A R Q P h=> ?_
 obtain ⟨j,h⟩:=ai h;refine bN (ab0 (l:=o.1.toNat) 0 J J Vf size159.out J (by rw [Wh j.1];rfl) j.2) fun O M L=> ?_
 obtain ⟨e,a6,a8,t,h⟩:=aI h;refine gR (cH 0 J MR J J Vf size159.out a6 a8) ?_;refine gR (dc 0 J MR J (toNat_lt a6 a8) AN) ?_;refine fm (Tm (us:=[iV d]) (z:=(⟨e.Up,(⟨e.XZ.no,e.XZ.N,e.XZ.S⟩:Vy),d,e.Yo⟩:VI)) 0 J J J J size3.out J (toNat_lt a6 a8) J (fun S w vs xk q hr=>by obtain rfl:=Xx (q.symm.trans t);rw [show _=_ from hr];rfl)) ?_;refine cR h (fun _ k=>HN k) fun K h=> ?_
 refine d6 (aaA 0 J) ?_;refine aa ?_;obtain ⟨H,k,h⟩:=ad h;refine gD (oC (DT k)) ?_;rintro _ _ ⟨_,⟨F,E,D,C,rfl,rfl⟩,rfl⟩;exact eY
theorem O4 {N:Nat}{r:Int×Int×VC}(h:ub N c a1 a2 d=some r):Okc V5 133 [pV B1 0,iV a1,(dN a2),iV d] ([oDTable B1 c]) (fun u p=>u=.tuple #[iV r.1,iV r.2.1]/\p=[oDTable B1 r.2.2]):=il 0 rfl (fun _=>Pi h)
def DG (e:VN×Int×Bool)(c:VA)(a6:Int×Int×VC)(a1:VN)(a8:VO)(d:VK):Option (Bool×VA):=
 (jU N (⟨(⟨c.XY.no,a6.1,c.XY.XU,c.XY.XW,a8,c.XY.XP⟩:VL),d,c.at_⟩:VA) true).bind fun a=>some (true,a)
def ue (a:VN×Int×Bool)(a1:VN)(c:VA)(a8:Int)(d:VK):Option (Bool×VA):=
 ae (in64 (a.2.1+1)) (ae (in64 (a.2.1+1)) ((ak c.XY.XQ (a.2.1+1)).bind fun f=>(ul N (⟨(⟨c.XY.no,a8,c.XY.XU,c.XY.XW,c.XY.XQ,c.XY.XP⟩:VL),d,c.at_⟩:VA) a1 f).bind fun a6=>(ak c.XY.XQ (a.2.1+1)).bind fun i=>(jU N (⟨(⟨c.XY.no,a8,c.XY.XU,c.XY.XW,List.set c.XY.XQ ((a.2.1+1).toNat) (⟨a6.1.no,a6.1.N,a6.1.S⟩:VH),c.XY.XP⟩:VL),a6.2,c.at_⟩:VA) (!decide (a.1.XT=a1.XT))).bind fun e=>some (true,e)))
def rf (c:VA)(a1:VN):Option (Bool×VA):=
 (my N c.w_).bind fun f=>(kJ N c a1.XZ).bind fun a=>bif !a.2.2 then ((pp N c.w_.Ya c.XY.XV).bind fun e=>bif decide (1024<=e) then (some (false,c)) else ((ur N c.w_.Ya c.XY.XV a1.XZ a1.XT).bind fun a6=>bif !decide (a6.2.1=0) then (some (false,(⟨c.XY,(⟨c.w_.Yj,c.w_.Ye,(),c.w_.XX,a6.2.2,c.w_.Yk,c.w_.Yh,c.w_.Yr,c.w_.Ys,c.w_.Yl,c.w_.Ym⟩:VK),c.at_⟩:VA))) else ((ul N (⟨(⟨c.XY.no,a6.1,c.XY.XU,c.XY.XW,c.XY.XQ,c.XY.XP⟩:VL),(⟨c.w_.Yj,c.w_.Ye,(),c.w_.XX,a6.2.2,c.w_.Yk,c.w_.Yh,c.w_.Yr,c.w_.Ys,c.w_.Yl,c.w_.Ym⟩:VK),c.at_⟩:VA) a1 (⟨0,0,⟨#[]⟩⟩:VH)).bind fun d=>ae (bC (c.XY.XQ.length+([d.1]:List VH).length)) (DG N a c a6 a1 (c.XY.XQ++([d.1]:List VH)) d.2)))) else (bif !decide (a.1.XT=a1.XT) then ((ub N c.w_.Ya c.XY.XV a1.XZ a1.XT).bind fun a8=>bif !decide (a8.2.1=0) then (some (false,(⟨c.XY,(⟨c.w_.Yj,c.w_.Ye,(),c.w_.XX,a8.2.2,c.w_.Yk,c.w_.Yh,c.w_.Yr,c.w_.Ys,c.w_.Yl,c.w_.Ym⟩:VK),c.at_⟩:VA))) else (ue N a a1 c a8.1 (⟨c.w_.Yj,c.w_.Ye,(),c.w_.XX,a8.2.2,c.w_.Yk,c.w_.Yh,c.w_.Yr,c.w_.Ys,c.w_.Yl,c.w_.Ym⟩:VK))) else (ue N a a1 c c.XY.XV c.w_))
theorem H0 {N:Nat}{c:VA}{a1:VN}{r:Bool×VA}(h:rf N c a1=some r):Okc V5 86 [pV B1 0,(dw a1)] ([ab B1 103 [iV c.XY.no,iV c.XY.XV,iV c.XY.XU,iV c.XY.XW,Y A2 n2 c2,Y A3 n3 c3,pV a 0,iV c.at_.no,iV c.at_.N,.string c.at_.S],aj A2 n2 c2 c.XY.XQ,aj A3 n3 c3 c.XY.XP,oDWorld a f B6 c.w_]) (fun u p=> ∃T K Q A1 i c1,u=.bool r.1/\p=[ab B1 103 [iV r.2.XY.no,iV r.2.XY.XV,iV r.2.XY.XU,iV r.2.XY.XW,Y T K Q,Y A1 i c1,pV a 0,iV r.2.at_.no,iV r.2.at_.N,.string r.2.at_.S],aj T K Q r.2.XY.XQ,aj A1 i c1 r.2.XY.XP,oDWorld a f B6 r.2.w_]):=by
 refine av Tryz.func86 ?_;intro l;refine cR h (fun _ k=>qL k) fun y8 h=> ?_
 refine cR h (fun _ k=>xT k) fun d h=> ?_
 intro t;refine sY ?_;refine gH J h ?_ ?_<;>intro h
 ·refine sZ ?_;refine cR h (fun _ k=>Pz k) fun e9 h=> ?_
  refine gH J h ?_ ?_<;>intro h
  ·exact eY
  refine aa ?_;refine aH ?_;refine cy I ([ab t 48 (dS d.1),ab l 48 (dS a1),ab B1 103 [iV c.XY.no,iV c.XY.XV,iV c.XY.XU,iV c.XY.XW,Y A2 n2 c2,Y A3 n3 c3,pV a 0,iV c.at_.no,iV c.at_.N,.string c.at_.S],aj A2 n2 c2 c.XY.XQ,aj A3 n3 c3 c.XY.XP]) (cS [0,1,2,3,4] 6) ?_;refine aa ?_;refine fg ((cS [5,0,1,2,3,4] 6).trans Ff) (cS [2,3,4,5,6] 7) ?_;refine bX ?_;obtain ⟨q,k,h⟩:=ad h;refine zD 10 J (oC (Pn k)) ?_;rintro _ _ ⟨_,⟨rfl,rfl⟩,rfl⟩;refine bE ?_;refine bX ?_;refine fg (E4) (cS [1,2,3,4,5] 6) ?_;refine bX ?_;refine sY ?_;refine gH J h ?_ ?_<;>intro h
  ·exact eY
  refine aa ?_;refine aF (fun s L=> ∃F E D C B,DG N d c q a1 F E=some r/\s=[(0,pV B1 0),(3,pV l 0),(4,.bool false),(5,pV B6 0),(6,pV t 0),(7,iV d.2.1)]/\L=[aj D C B F,aj A3 n3 c3 c.XY.XP,ab B1 103 [iV c.XY.no,iV q.1,iV c.XY.XU,iV c.XY.XW,Y D C B,Y A3 n3 c3,pV a 0,iV c.at_.no,iV c.at_.N,.string c.at_.S],ab l 48 (dS a1),ab t 48 (dS d.1),oDWorld a f B6 E]) ?_ ?_
  ·refine cy I ([ab t 48 (dS d.1),ab l 48 (dS a1),aj A3 n3 c3 c.XY.XP]) (cS [1,2,5] 6) ?_;refine zY [0,1,2,3,4,6,7] ?_;refine zE 8 J (iW J bld_29_.out) ?_;refine nh 5 9 I ?_ ?_
   ·refine iS J (jH (cn 3 J J gt J)) J J J ?_;rintro _ _ ⟨rfl,rfl⟩;refine bE ?_;obtain ⟨a6,H,h⟩:=ad h;refine zD 9 J (oC (DD H)) ?_;rintro _ _ ⟨_,⟨rfl,rfl⟩,rfl⟩;refine bE ?_;refine bX ?_;refine fk 10 J (cB (R:=ca) (vss:=[[iV a6.1.no,iV a6.1.N,.string a6.1.S]]) (xs:=[a6.1]) J (qf _ _ _) J J (fun _ _ hr=> .cons J All2.nil)) fun P O M=> ?_
    obtain ⟨o,h⟩:=ai h;refine fk 11 J (cG 3 0 J J aw J J z9 nm J J o) fun a8 j e=> ?_
    refine zY [12,13,14] ?_;refine zO 15 J (bL (us:=[Y a8 j e]) (cs':=[iV c.XY.no,iV q.1,iV c.XY.XU,iV c.XY.XW,Y a8 j e,Y A3 n3 c3,pV a 0,iV c.at_.no,iV c.at_.N,.string c.at_.S]) 2 J J J J size43.out J J J) ?_;rintro _ _ rfl;refine bE ?_;refine bX ?_;refine cJ I ?_;exact jY
   obtain ⟨a6,H,h⟩:=ad h;refine iS J (oC (DD H)) J J J ?_;rintro _ _ ⟨_,⟨rfl,rfl⟩,rfl⟩;refine bE ?_;refine bX ?_;refine nh 5 10 I ?_ ?_
   ·refine iS J (jH (cn 1 J J gt J)) J J J ?_;rintro _ _ ⟨rfl,rfl⟩;refine bE ?_;refine fk 10 J (cB (R:=ca) (vss:=[[iV a6.1.no,iV a6.1.N,.string a6.1.S]]) (xs:=[a6.1]) J (qf _ _ _) J J (fun _ _ hr=> .cons J All2.nil)) fun P O M=> ?_
    obtain ⟨o,h⟩:=ai h;refine fk 11 J (cG 3 0 J J aw J J z9 nm J J o) fun a8 j e=> ?_
    refine zY [12,13,14] ?_;refine zO 15 J (bL (us:=[Y a8 j e]) (cs':=[iV c.XY.no,iV q.1,iV c.XY.XU,iV c.XY.XW,Y a8 j e,Y A3 n3 c3,pV a 0,iV c.at_.no,iV c.at_.N,.string c.at_.S]) 2 J J J J size43.out J J J) ?_;rintro _ _ rfl;refine bE ?_;refine bX ?_;refine cJ I ?_;exact jY
   refine iS J (cB (R:=ca) (vss:=[[iV a6.1.no,iV a6.1.N,.string a6.1.S]]) (xs:=[a6.1]) J (qf _ _ _) J J (fun _ _ hr=> .cons J All2.nil)) J J J ?_;rintro _ _ ⟨P,O,M,rfl,rfl⟩;refine bE ?_;refine zD 5 J (jH (cn 2 J J gt J)) ?_;rintro _ _ ⟨rfl,rfl⟩;refine bE ?_;obtain ⟨o,h⟩:=ai h;refine fk 11 J (cG 3 0 J J aw J J z9 nm J J o) fun a8 j e=> ?_
   refine zY [12,13,14] ?_;refine zO 15 J (bL (us:=[Y a8 j e]) (cs':=[iV c.XY.no,iV q.1,iV c.XY.XU,iV c.XY.XW,Y a8 j e,Y A3 n3 c3,pV a 0,iV c.at_.no,iV c.at_.N,.string c.at_.S]) 2 J J J J size43.out J J J) ?_;rintro _ _ rfl;refine bE ?_;refine bX ?_;refine cJ I ?_;exact jY
  rintro _ _ ⟨F,E,D,C,B,h,rfl,rfl⟩;refine qy h (fun _ k=>t8 k) fun f1 f2 f3 f9 g0 g1 g2 h=> ?_
  exact eN
 refine aa ?_;refine aF (fun s L=> ∃A m,ue N d a1 c A m=some r/\s=[(0,pV B1 0),(3,pV l 0),(4,.bool false),(7,iV d.2.1),(11,.bool (!decide (d.1.XT=a1.XT)))]/\L=[aj A2 n2 c2 c.XY.XQ,aj A3 n3 c3 c.XY.XP,ab B1 103 [iV c.XY.no,iV A,iV c.XY.XU,iV c.XY.XW,Y A2 n2 c2,Y A3 n3 c3,pV a 0,iV c.at_.no,iV c.at_.N,.string c.at_.S],ab l 48 (dS a1),oDWorld a f B6 m]) ?_ ?_
 ·refine aG h ?_ ?_<;>intro h
  ·refine aH ?_;refine cy I ([ab t 48 (dS d.1),ab l 48 (dS a1),ab B1 103 [iV c.XY.no,iV c.XY.XV,iV c.XY.XU,iV c.XY.XW,Y A2 n2 c2,Y A3 n3 c3,pV a 0,iV c.at_.no,iV c.at_.N,.string c.at_.S],aj A2 n2 c2 c.XY.XQ,aj A3 n3 c3 c.XY.XP]) (cS [0,1,2,3,4] 6) ?_;refine aa ?_;refine fg ((cS [5,0,1,2,3,4] 6).trans Ff) (cS [2,3,4,5,6] 7) ?_;refine bX ?_;obtain ⟨g3,k,h⟩:=ad h;refine zD 10 J (oC (O4 k)) ?_;rintro _ _ ⟨_,⟨rfl,rfl⟩,rfl⟩;refine bE ?_;refine bX ?_;refine fg (E4) (cS [1,2,3,4,5] 6) ?_;refine bX ?_;refine sY ?_;refine gH J h ?_ ?_<;>intro h
   ·exact eY
   exact jY
  exact jY
 rintro _ _ ⟨A,m,h,rfl,rfl⟩;refine aH ?_;refine cy I ([aj A2 n2 c2 c.XY.XQ,aj A3 n3 c3 c.XY.XP,ab B1 103 [iV c.XY.no,iV A,iV c.XY.XU,iV c.XY.XW,Y A2 n2 c2,Y A3 n3 c3,pV a 0,iV c.at_.no,iV c.at_.N,.string c.at_.S],ab l 48 (dS a1)]) (cS [0,1,2,3] 5) ?_;refine aa ?_;obtain ⟨g4,h⟩:=ai h;refine aa ?_;obtain ⟨g5,h⟩:=ai h;refine aa ?_;obtain ⟨g6,e6,e7,e8,h⟩:=aI h;refine aa ?_;obtain ⟨n,k,h⟩:=ad h;refine zD 18 J (oC (DD k)) ?_;rintro _ _ ⟨_,⟨rfl,rfl⟩,rfl⟩;refine bE ?_;refine bX ?_;obtain ⟨g7,Z,X,V,h⟩:=aI h;refine aa ?_;refine iu 20 J I I (dX (us:=[iV n.1.no,iV n.1.N,.string n.1.S]) (z:=(⟨n.1.no,n.1.N,n.1.S⟩:VH)) 2 J J J J size29.out J (toNat_lt Z X) J (fun S w vs xk U hr ho=>by obtain rfl:=Xx (U.symm.trans V);rw [show _=_ from hr];rfl)) ?_;rintro _ _ rfl;refine bX ?_;refine qy h (fun _ k=>t8 k) fun g8 g9 h0 h1 h2 h3 h4 h=> ?_
 exact eN
def nZ (c:VK)(a1:VH)(a2:Vy)(d:VH)(a4:Int):Option (Bool×VK):=
 (ia N c a1).bind fun a=>dB a (fun y7_0=>some (false,c)) (fun y7_1=>(fW N a2).bind fun a8=>(bif !a8 then (some true) else (some (decide (a4<0)))).bind fun e=>(bif e then (some true) else (some (decide (7<a4)))).bind fun b16=>bif b16 then (some (false,c)) else ((rf N (⟨y7_1.XY,c,y7_1.at_⟩:VA) (⟨a2,a4,d,(⟨0,0,⟨#[]⟩⟩:VH),(⟨0,0,⟨#[]⟩⟩:VH)⟩:VN)).bind fun a6=>some (a6.1,a6.2.w_)))
theorem Et {N:Nat}{c:VK}{a1 d:VH}{a4:Int}{r:Bool×VK}(h:nZ N c a1 a2 d a4=some r){B1 B2 e:Nat}:Okc V5 28 [pV B1 0,(bS a1),(dN a2),(bS d),iV a4] ([oDWorld B1 B2 e c]) (fun u p=>u=.bool r.1/\p=[oDWorld B1 B2 e r.2]):=by
 refine av Tryz.func28 ?_;intro a;refine bB fun f=> ?_
 intro B6;refine aa ?_;obtain ⟨i,a6,h⟩:=ad h;rcases i with y7_0|y7_1
 ·replace h:=gk h;refine gD (oR (eP a6)) ?_;rintro _ _ ⟨_,⟨rfl,rfl⟩,rfl⟩;refine sY ?_;refine d9 J ?_;exact eY
 replace h:=gj h;refine gD (oR (eP a6)) ?_;rintro _ _ ⟨_,⟨F,H,j,o,a8,E,D,rfl,rfl⟩,rfl⟩;refine sY ?_;refine cR h (fun _ k=>zG k) fun C h=> ?_
 refine gS 3 29 26 h ?_;intro B h;refine aa ?_;refine gS 3 33 30 h ?_;intro b16 h;refine aG h ?_ ?_<;>intro h
 ·exact eY
 refine qy h (fun _ k=>H0 k) fun A z t q n m l h=> ?_
 exact eN
end Go.Proofs.YthhiddkljcacaaaGreat
namespace Go.Proofs.YthhiddkljcacaaaGreat
variable (N:Nat){a1 d:Int}{f i B6:Nat}{a:VC}{a2:Vy}
variable {A1 A2 A3 A5:Option Addr}{B1 B2 e M3 c1 c2 c3 c5 c n2 n3 n5:Nat}
open Go.RowKit Asn
set_option maxRecDepth 20000
def HZ (N:Nat)(a:VP):Option VP:=
 some a
def xK (N:Nat)(a:((List VI))):Nat->VP->Int->Option VP
 |0,_,_=>none
 |d+1,c,a6=>bif decide (a6<(a.length:Int)) then ((ak a a6).bind fun a8=>ae (bC (c.length+([a8.XZ]:List Vy).length)) (ae (in64 (a6+1)) ((xK N a d) (c++([a8.XZ]:List Vy)) (a6+1)))) else (HZ N c)
def nF (a:VC)(a1:Int):Option VP:=
 (px N a a1).bind fun c=>xK N c N [] 0
theorem PR {N:Nat}{r:VP}(h:nF N a a1=some r):Okc V5 51 [pV B1 0,iV a1] ([aQ B1 191 [Y A2 n2 c2,.map (some M3)],aL cD (Y A2 n2 c2) a.Ya,cK dH cp M3 a.Yn]) (fun u p=> ∃z n q,u=Y z n q/\p=[bp z n q r]):=by
 refine av Tryz.func51 ?_;refine aF (fun s L=> ∃e A5 n5 c5,HZ N e=some r/\s=[(4,Y none 0 0),(5,Y A5 n5 c5)]/\L=[bp A5 n5 c5 e]) ?_ ?_
 ·refine aa ?_;obtain ⟨c,k,h⟩:=ad h;refine bN (oR (yc k)) fun t l o=> ?_
  refine dU (fun m s L=> ∃d a6 j f i,xK N c m d a6=some r/\s=[(4,Y none 0 0),(5,Y j f i),(10,Y t l o),(11,iV (c.length:Int)),(12,iV a6)]/\L=[bp j f i d,aK cD 159 (Y t l o) c]) N _ _ ⟨[],0,none,0,0,h,J,J⟩ sA ((ck fO 34 _).trans (cS [0,1] 5)) ?_;rintro (_|B) _ _ ⟨d,a6,j,f,i,h,rfl,rfl⟩
  ·exact bO h
  rw [xK.eq_2] at h;refine aa ?_;refine aH ?_;refine gH J h ?_ ?_<;>intro h
  ·refine sY ?_;obtain ⟨a8,S,Q,P,h⟩:=aI h;refine bB fun O=> ?_
   refine gD (cB (R:=fO) (vss:=[(ij a8.XZ)]) (xs:=[a8.XZ]) J (oF _ _ _) J J (fun _ _ hr=> .cons J All2.nil)) ?_;rintro _ _ ⟨M,K,H,rfl,rfl⟩;obtain ⟨A,h⟩:=ai h;refine bN (cG 2 0 J J aw J J Vc kB J J A) fun F E D=> ?_
   obtain ⟨C,h⟩:=ai h;exact lY
  exact jY
 rintro _ _ ⟨e,A5,n5,c5,h,rfl,rfl⟩;exact eY
theorem HM {N:Nat}{r:VP}(h:nF N a a1=some r):Okc V5 51 [pV B1 0,iV a1] ([pDTable B1 a]) (fun u p=> ∃e c d,u=Y e c d/\p=[bp e c d r]):=jR 0 rfl (fun _=>PR h)
def pO (N:Nat)(a:Int):Option Bool:=
 some (!decide (a=a))
theorem zF {N:Nat}{a:Int}{r:Bool}(h:pO N a=some r):Okc V5 212 [iV a] ([]) (fun u p=>u=.bool r/\p=[]):=by
 refine av Tryz.func212 ?_;exact eN
def uT (a a1:Int):Option Int:=
 (pO N a).bind fun d=>(pO N a1).bind fun c=>bif d then (bif c then (some 0) else (some (-1))) else (bif c then (some 1) else (bif decide (a<a1) then (some (-1)) else (bif decide (a1<a) then (some 1) else (some 0))))
theorem IR {N:Nat}{a r:Int}(h:uT N a a1=some r):Okc V5 179 [iV a,iV a1] ([]) (fun u p=>u=iV r/\p=[]):=by
 refine av Tryz.func179 ?_;refine cR h (fun _ k=>zF k) fun d h=> ?_
 refine cR h (fun _ k=>zF k) fun c h=> ?_
 refine sZ ?_;refine gH J h ?_ ?_<;>intro h
 ·refine sZ ?_;refine gH J h ?_ ?_<;>intro h
  ·exact eY
  exact eY
 refine sY ?_;refine gH J h ?_ ?_<;>intro h
 ·exact eY
 refine sY ?_;refine gH J h ?_ ?_<;>intro h
 ·exact eY
 refine sY ?_;refine gH J h ?_ ?_<;>intro h
 ·exact eY
 exact eY
def pP (a a1:Vy):Option Int:=
 (bif decide (a.no=0) then (some (decide (a1.no=0))) else (some false)).bind fun b3=>bif b3 then ((uT N a.N a1.N).bind fun d=>some d) else ((uT N a.no a1.no).bind fun c=>some c)
theorem zM {N:Nat}{a a1:Vy}{r:Int}(h:pP N a a1=some r):Okc V5 135 [(dN a),(dN a1)] ([]) (fun u p=>u=iV r/\p=[]):=by
 refine av Tryz.func135 ?_;intro B1;refine bB fun B2=> ?_
 refine sZ ?_;refine gS 4 12 8 h ?_;intro b3 h;refine aG h ?_ ?_<;>intro h
 ·refine cR h (fun _ k=>IR k) fun d h=> ?_
  exact eN
 refine cR h (fun _ k=>IR k) fun c h=> ?_
 exact eN
theorem zd {r:Int}: ∀v post,((fun (u:Value) (post:V3)=>u=iV r/\post=[])) v post-> ∀c∈post,bP c:=by
 rintro _ _ ⟨rfl,rfl⟩;exact aW
def xf (N:Nat)(a6:VP->Int->Option VP)(a1 a2 a:Int)(c:VP):Option VP:=
 ae (in64 (a+1)) (a6 c (a+1))
def tz (N:Nat)(e:VP->Int->Option VP)(a1 a2 d:Int):Nat->VP->Int->Option VP
 |0,_,_=>none
 |f+1,a8,a6=>(bif decide (a1<a6) then ((ak a8 a6).bind fun l=>ae (in64 (a6 - 1)) ((ak a8 (a6 - 1)).bind fun j=>(pP N l j).bind fun i=>some (decide (i<0)))) else (some false)).bind fun b12=>bif b12 then (ae (in64 (a6 - 1)) (ae (in64 (a6 - 1)) ((ak a8 (a6 - 1)).bind fun a=>(ak a8 a6).bind fun c=>(ak a8 a6).bind fun n=>(ak (List.set a8 a6.toNat (⟨a.no,a.N,a.S⟩:Vy)) (a6 - 1)).bind fun m=>ae (in64 (a6 - 1)) ((tz N e a1 a2 d f) (List.set (List.set a8 a6.toNat (⟨a.no,a.N,a.S⟩:Vy)) ((a6 - 1).toNat) (⟨c.no,c.N,c.S⟩:Vy)) (a6 - 1))))) else (xf N e a1 a2 d a8)
def qD (N:Nat)(a1 a2:Int):Nat->VP->Int->Option VP
 |0,_,_=>none
 |d+1,c,a=>bif decide (a<a2) then (tz N (qD N a1 a2 d) a1 a2 a N c a) else (some c)
def qF (a:VP)(a1 a2:Int):Option VP:=
 ae (in64 (a1+1)) (qD N a1 a2 N a (a1+1))
theorem CX {N:Nat}{a:VP}{a2:Int}{r:VP}(h:qF N a a1 a2=some r):Okc V5 216 [Y A1 c c1,iV a1,iV a2,.func (.func 135) #[] #[]] ([bp A1 c c1 a]) (fun u p=>u=.tuple #[]/\p=[bp A1 c c1 r]):=by
 refine av Tryz.func216 ?_;obtain ⟨V,h⟩:=ai h;refine aa ?_;refine lK (fun m s L=> ∃(l:VP) (e:Int),qD N a1 a2 m l e=some r/\s=[(0,Y A1 c c1),(1,iV a1),(2,iV a2),(3,.func (.func 135) #[] #[]),(8,iV e)]/\L=[bp A1 c c1 l]) N ?_;rintro q _ _ ⟨l,e,h,rfl,rfl⟩;rw [qD.eq_2] at h;refine sZ ?_;refine gH J h ?_ ?_<;>intro h
 ·refine aa ?_;refine aF (fun s L=> ∃j,xf N (qD N a1 a2 q) a1 a2 e j=some r/\s=[(0,Y A1 c c1),(1,iV a1),(2,iV a2),(3,.func (.func 135) #[] #[]),(8,iV e)]/\L=[bp A1 c c1 j]) ?_ ?_
  ·refine aa ?_;refine lK (fun m s L=> ∃(i:VP) (a6:Int),tz N (qD N a1 a2 q) a1 a2 e m i a6=some r/\s=[(0,Y A1 c c1),(1,iV a1),(2,iV a2),(3,.func (.func 135) #[] #[]),(8,iV e),(9,iV a6)]/\L=[bp A1 c c1 i]) N ?_;rintro X _ _ ⟨i,a6,h,rfl,rfl⟩;rw [tz.eq_2] at h;refine aH ?_;refine dY [0,1,2,3] ?_;refine yJ [4,5,6,7,8,9,10,11,12,13,14,15,16] 0 21 34 h (fun _ o h rest=> ?_) (fun _ o h rest=> ?_) fun b12 h=> ?_
   ·refine yY [4,5,6] ?_;obtain ⟨f1,e4,e5,e6,h⟩:=aI h;refine yY [7,8,9,10] ?_;obtain ⟨B,h⟩:=ai h;refine ei 11 J I (ne J J B.1 B.2) (be o J) J ?_;obtain ⟨f2,e7,e8,e9,h⟩:=aI h;refine yY [12,13] ?_;obtain ⟨f3,k,h⟩:=ad h;refine iI 14 J I (jA (zM k) J J J (aW) zd) J (be o J) J ?_;rintro _ _ ⟨_,⟨rfl,rfl⟩,rfl⟩;refine ⟨_,ah _,ah _,?_⟩;refine yY [15,16] ?_;exact yS rest h
   ·refine yY [4,5,6,7,8,9,10,11,12,13,14,15,16] ?_;exact yS rest h
   refine cJ I ?_;refine aG h ?_ ?_<;>intro h
   ·refine sY ?_;obtain ⟨f,h⟩:=ai h;obtain ⟨A,h⟩:=ai h;obtain ⟨a8,U,T,R,h⟩:=aI h;obtain ⟨d,Q,P,O,h⟩:=aI h;refine dx (t:=[(0,Y A1 c c1),(1,iV a1),(2,iV a2),(3,.func (.func 135) #[] #[]),(8,iV e),(9,iV a6)]) ?_ cL (ah _);refine fv I 14 [2,3,4] [0,1,2,4,9,13] [37,38,39,40,41,42,43,44,45,46,47,48,49,50] [[],[],[],[],[3],[],[],[6],[5,7],[8],[],[],[10,11],[12]] [aV (Y A1 c c1),
 aV (iV a6),
 aV (Y A1 c c1),
 aV (iV a6),
 aV (iV (a6 - 1)),
 aV (Y A1 c c1),
 aV (iV a6),
 aV (iV (a6 - 1)),
 aV (bD (Y A1 c c1) ((a6 - 1).toNat) 3 0),
 aV (.agg #[iV a8.no,iV a8.N,.string a8.S]),
 aV (Y A1 c c1),
 aV (iV a6),
 aV (bD (Y A1 c c1) a6.toNat 3 0),
 aV (.agg #[iV d.no,iV d.N,.string d.S])] [] (ah _) (ft rfl (ft rfl (ft rfl fB))) I rfl rfl ?_ ?_ ?_
    ·refine fu J ?_ ?_
     ·exact fC (ay J) J (bj J (ah _))
     refine fu J ?_ ?_
     ·exact fC (ay J) J (bj J (ah _))
     refine fu J ?_ ?_
     ·exact fC (ne J J f.1 f.2) J (bj J (ah _))
     exact fz
    ·refine bl J ?_ ?_
     ·exact dj (fX (us:=[iV d.no,iV d.N,.string d.S]) 0 J aw J O agg34.out (fun _ _ _ h=>by rw [show _=_ from h];rfl)) J (bj J (ah _))
     refine qR (cH 0 J aw J J Vc size34.out Q P) ?_;refine qE (ay J) ?_;refine qE (ay J) ?_;refine bl J ?_ ?_
     ·exact dj (fX (us:=[iV a8.no,iV a8.N,.string a8.S]) 0 J aw J R agg34.out (fun _ _ _ h=>by rw [show _=_ from h];rfl)) J (bj J (ah _))
     refine qR (cH 0 J aw J J Vc size34.out U T) ?_;refine qE (ne J J A.1 A.2) ?_;refine qE (ay J) ?_;refine qE (ay J) ?_;refine qE (ne J J f.1 f.2) ?_;refine qE (ay J) ?_;refine qE (ay J) ?_;refine qE (ay J) ?_;refine qE (ay J) ?_;exact fq
    refine eF (t:=[(37,Y A1 c c1),(38,iV a6),(39,Y A1 c c1),(41,iV (a6 - 1)),(46,.agg #[iV a8.no,iV a8.N,.string a8.S]),(50,.agg #[iV d.no,iV d.N,.string d.S]),(0,Y A1 c c1),(1,iV a1),(2,iV a2),(3,.func (.func 135) #[] #[]),(8,iV e),(9,iV a6)]) (L':=[bp A1 c c1 i]) ?_ cL (ah _);obtain ⟨f9,F,E,M,h⟩:=aI h;refine kD 14 J I (cH 0 J aw J J Vc size34.out F E) J J J ?_;refine gv 15 J I (dX (us:=[iV a8.no,iV a8.N,.string a8.S]) (z:=(⟨a8.no,a8.N,a8.S⟩:Vy)) 0 J J J J size34.out J (toNat_lt F E) J (fun S w vs xk n hr H=>by obtain rfl:=Xx (n.symm.trans M);rw [show _=_ from hr];rfl)) J J ?_;rintro _ _ rfl;obtain ⟨g0,D,C,K,h⟩:=aI h;refine kD 16 J I (cH 0 J aw J J Vc size34.out D C) J J J ?_;refine gv 17 J I (dX (us:=[iV d.no,iV d.N,.string d.S]) (z:=(⟨d.no,d.N,d.S⟩:Vy)) 0 J J J J size34.out J (toNat_lt D C) J (fun S w vs xk n hr H=>by obtain rfl:=Xx (n.symm.trans K);rw [show _=_ from hr];rfl)) J J ?_;rintro _ _ rfl;refine fw I ?_;refine aa ?_;obtain ⟨g1,h⟩:=ai h;exact lY
   exact jY
  rintro _ _ ⟨j,h,rfl,rfl⟩;refine aa ?_;obtain ⟨Z,h⟩:=ai h;exact lY
 exact eY
def tJ (N:Nat)(a1 a2 d:Int):Nat->VP->Int->Option VP
 |0,_,_=>none
 |e+1,c,a=>bif decide (a<d) then (ae (in64 (a1+a)) (ae (in64 (a2+a)) (ae (in64 (a2+a)) ((ak c (a2+a)).bind fun x9=>ae (in64 (a1+a)) ((ak c (a1+a)).bind fun a6=>(ak c (a1+a)).bind fun a8=>(ak (List.set c ((a1+a).toNat) (⟨x9.no,x9.N,x9.S⟩:Vy)) (a2+a)).bind fun f=>ae (in64 (a+1)) ((tJ N a1 a2 d e) (List.set (List.set c ((a1+a).toNat) (⟨x9.no,x9.N,x9.S⟩:Vy)) ((a2+a).toNat) (⟨a6.no,a6.N,a6.S⟩:Vy)) (a+1))))))) else (some c)
def tM (a:VP)(a1 a2 d:Int):Option VP:=
 tJ N a1 a2 d N a 0
theorem CZ {N:Nat}{a:VP}{a2:Int}{r:VP}(h:tM N a a1 a2 d=some r):Okc V5 251 [Y A1 c c1,iV a1,iV a2,iV d,.func (.func 135) #[] #[]] ([bp A1 c c1 a]) (fun u p=>u=.tuple #[]/\p=[bp A1 c c1 r]):=by
 refine av Tryz.func251 ?_;refine lK (fun m s L=> ∃(i:VP) (e:Int),tJ N a1 a2 d m i e=some r/\s=[(0,Y A1 c c1),(1,iV a1),(2,iV a2),(3,iV d),(10,iV e)]/\L=[bp A1 c c1 i]) N ?_;rintro Q _ _ ⟨i,e,h,rfl,rfl⟩;rw [tJ.eq_2] at h;refine sZ ?_;refine gH J h ?_ ?_<;>intro h
 ·refine sY ?_;obtain ⟨n,h⟩:=ai h;obtain ⟨f,h⟩:=ai h;obtain ⟨l,h⟩:=ai h;obtain ⟨x9,F,E,D,h⟩:=aI h;obtain ⟨o,h⟩:=ai h;obtain ⟨a6,P,O,M,h⟩:=aI h;refine dx (t:=[(0,Y A1 c c1),(1,iV a1),(2,iV a2),(3,iV d),(10,iV e)]) ?_ cL (ah _);refine fv I 20 [4,5,6,7] [0,3,4,7,13,19] [16,17,18,19,20,21,22,23,24,25,26,27,28,29,30,31,32,33,34,35] [[],[],[],[1,2],[],[],[],[5,6],[],[],[],[9,10],[8,11],[12],[],[],[],[15,16],[14,17],[18]] [aV (Y A1 c c1),
 aV (iV a1),
 aV (iV e),
 aV (iV (a1+e)),
 aV (Y A1 c c1),
 aV (iV a2),
 aV (iV e),
 aV (iV (a2+e)),
 aV (Y A1 c c1),
 aV (iV a2),
 aV (iV e),
 aV (iV (a2+e)),
 aV (bD (Y A1 c c1) ((a2+e).toNat) 3 0),
 aV (.agg #[iV x9.no,iV x9.N,.string x9.S]),
 aV (Y A1 c c1),
 aV (iV a1),
 aV (iV e),
 aV (iV (a1+e)),
 aV (bD (Y A1 c c1) ((a1+e).toNat) 3 0),
 aV (.agg #[iV a6.no,iV a6.N,.string a6.S])] [] (ah _) (ft rfl (ft rfl (ft rfl (ft rfl fB)))) I rfl rfl ?_ ?_ ?_
  ·refine fu J ?_ ?_
   ·exact fC (ay J) J (bj J (ah _))
   refine fu J ?_ ?_
   ·exact fC (ay J) J (bj J (ah _))
   refine fu J ?_ ?_
   ·exact fC (ay J) J (bj J (ah _))
   refine fu J ?_ ?_
   ·exact fC (cY J J f.1 f.2) J (bj J (ah _))
   exact fz
  ·refine bl J ?_ ?_
   ·exact dj (fX (us:=[iV a6.no,iV a6.N,.string a6.S]) 0 J aw J M agg34.out (fun _ _ _ h=>by rw [show _=_ from h];rfl)) J (bj J (ah _))
   refine qR (cH 0 J aw J J Vc size34.out P O) ?_;refine qE (cY J J o.1 o.2) ?_;refine qE (ay J) ?_;refine qE (ay J) ?_;refine qE (ay J) ?_;refine bl J ?_ ?_
   ·exact dj (fX (us:=[iV x9.no,iV x9.N,.string x9.S]) 0 J aw J D agg34.out (fun _ _ _ h=>by rw [show _=_ from h];rfl)) J (bj J (ah _))
   refine qR (cH 0 J aw J J Vc size34.out F E) ?_;refine qE (cY J J l.1 l.2) ?_;refine qE (ay J) ?_;refine qE (ay J) ?_;refine qE (ay J) ?_;refine qE (cY J J f.1 f.2) ?_;refine qE (ay J) ?_;refine qE (ay J) ?_;refine qE (ay J) ?_;refine qE (cY J J n.1 n.2) ?_;refine qE (ay J) ?_;refine qE (ay J) ?_;refine qE (ay J) ?_;exact fq
  refine eF (t:=[(16,Y A1 c c1),(19,iV (a1+e)),(20,Y A1 c c1),(23,iV (a2+e)),(29,.agg #[iV x9.no,iV x9.N,.string x9.S]),(35,.agg #[iV a6.no,iV a6.N,.string a6.S]),(0,Y A1 c c1),(1,iV a1),(2,iV a2),(3,iV d),(10,iV e)]) (L':=[bp A1 c c1 i]) ?_ cL (ah _);obtain ⟨U,a8,B,K,h⟩:=aI h;refine kD 20 J I (cH 0 J aw J J Vc size34.out a8 B) J J J ?_;refine gv 21 J I (dX (us:=[iV x9.no,iV x9.N,.string x9.S]) (z:=(⟨x9.no,x9.N,x9.S⟩:Vy)) 0 J J J J size34.out J (toNat_lt a8 B) J (fun S w vs xk j hr C=>by obtain rfl:=Xx (j.symm.trans K);rw [show _=_ from hr];rfl)) J J ?_;rintro _ _ rfl;obtain ⟨T,A,q,H,h⟩:=aI h;refine kD 22 J I (cH 0 J aw J J Vc size34.out A q) J J J ?_;refine gv 23 J I (dX (us:=[iV a6.no,iV a6.N,.string a6.S]) (z:=(⟨a6.no,a6.N,a6.S⟩:Vy)) 0 J J J J size34.out J (toNat_lt A q) J (fun S w vs xk j hr C=>by obtain rfl:=Xx (j.symm.trans H);rw [show _=_ from hr];rfl)) J J ?_;rintro _ _ rfl;refine fw I ?_;refine aa ?_;obtain ⟨R,h⟩:=ai h;exact lY
 exact eY
def Db (a2:Int)(c:VP)(a:Int):Option VP:=
 ae (in64 (a2 - a)) ((tM N c (a2 - a) a2 a).bind fun a6=>some a6)
def tS (N:Nat)(a2:Int):Nat->VP->Int->Int->Option VP
 |0,_,_,_=>none
 |d+1,c,a,a6=>bif !decide (a=a6) then (bif decide (a6<a) then (ae (in64 (a2 - a)) ((tM N c (a2 - a) a2 a6).bind fun a8=>ae (in64 (a - a6)) ((tS N a2 d) a8 (a - a6) a6))) else (ae (in64 (a2 - a)) (ae (in64 (a2+a6)) (ae (in64 ((a2+a6) - a)) ((tM N c (a2 - a) ((a2+a6) - a) a).bind fun e=>ae (in64 (a6 - a)) ((tS N a2 d) e a (a6 - a))))))) else (Db N a2 c a)
def xu (a:VP)(a1 a2 d:Int):Option VP:=
 ae (in64 (a2 - a1)) (ae (in64 (d - a2)) (tS N a2 N a (a2 - a1) (d - a2)))
theorem OT {N:Nat}{a:VP}{a2:Int}{r:VP}(h:xu N a a1 a2 d=some r):Okc V5 240 [Y A1 c c1,iV a1,iV a2,iV d,.func (.func 135) #[] #[]] ([bp A1 c c1 a]) (fun u p=>u=.tuple #[]/\p=[bp A1 c c1 r]):=by
 refine av Tryz.func240 ?_;obtain ⟨n,h⟩:=ai h;refine aa ?_;obtain ⟨l,h⟩:=ai h;refine aa ?_;refine aF (fun s L=> ∃j i,Db N a2 j i=some r/\s=[(0,Y A1 c c1),(2,iV a2),(4,.func (.func 135) #[] #[]),(10,iV i)]/\L=[bp A1 c c1 j]) ?_ ?_
 ·refine aa ?_;refine lK (fun m s L=> ∃(f:VP) (e:Int) (a6:Int),tS N a2 m f e a6=some r/\s=[(0,Y A1 c c1),(2,iV a2),(4,.func (.func 135) #[] #[]),(10,iV e),(11,iV a6)]/\L=[bp A1 c c1 f]) N ?_;rintro o _ _ ⟨f,e,a6,h,rfl,rfl⟩;rw [tS.eq_2] at h;refine sZ ?_;refine gH J h ?_ ?_<;>intro h
  ·refine aG h ?_ ?_<;>intro h
   ·refine aa ?_;obtain ⟨a8,h⟩:=ai h;refine cC h (fun _ k=>CZ k) fun F h=> ?_
    obtain ⟨E,h⟩:=ai h;exact lY
   refine aa ?_;obtain ⟨D,h⟩:=ai h;refine aa ?_;obtain ⟨C,h⟩:=ai h;refine aa ?_;obtain ⟨B,h⟩:=ai h;refine cC h (fun _ k=>CZ k) fun A h=> ?_
   obtain ⟨z,h⟩:=ai h;exact lY
  exact jY
 rintro _ _ ⟨j,i,h,rfl,rfl⟩;refine aa ?_;obtain ⟨t,h⟩:=ai h;refine cC h (fun _ k=>CZ k) fun q h=> ?_
 exact eN
def tK (N:Nat)(e:VP->Int->Int->Int->Option VP)(d a1 a2 a6:Int)(a8:VP):Option VP:=
 (bif decide ((IntKind.i64.wrap ((IntKind.u64.wrap (a1+d)).fdiv (2 ^ 1)))<((IntKind.i64.wrap ((IntKind.u64.wrap (a1+d)).fdiv (2 ^ 1)))+a2) - a6) then (some (decide (((IntKind.i64.wrap ((IntKind.u64.wrap (a1+d)).fdiv (2 ^ 1)))+a2) - a6<d))) else (some false)).bind fun c=>bif c then ((e a8 (IntKind.i64.wrap ((IntKind.u64.wrap (a1+d)).fdiv (2 ^ 1))) (((IntKind.i64.wrap ((IntKind.u64.wrap (a1+d)).fdiv (2 ^ 1)))+a2) - a6) d).bind fun a=>some a) else (some a8)
def tD (a8:VP->Int->Int->Int->Option VP)(a1 d a6 a2:Int)(a:VP):Option VP:=
 (bif decide (a1<a6) then (some (decide (a6<(IntKind.i64.wrap ((IntKind.u64.wrap (a1+d)).fdiv (2 ^ 1)))))) else (some false)).bind fun e=>bif e then ((a8 a a1 a6 (IntKind.i64.wrap ((IntKind.u64.wrap (a1+d)).fdiv (2 ^ 1)))).bind fun c=>tK N a8 d a1 a2 a6 c) else (tK N a8 d a1 a2 a6 a)
def xg (a8:VP->Int->Int->Int->Option VP)(a1 a2 d:Int)(a:VP)(a6:Int):Option VP:=
 ae (in64 (((IntKind.i64.wrap ((IntKind.u64.wrap (a1+d)).fdiv (2 ^ 1)))+a2) - a6)) ((bif decide (a6<a2) then (some (decide (a2<((IntKind.i64.wrap ((IntKind.u64.wrap (a1+d)).fdiv (2 ^ 1)))+a2) - a6))) else (some false)).bind fun e=>bif e then ((xu N a a6 a2 (((IntKind.i64.wrap ((IntKind.u64.wrap (a1+d)).fdiv (2 ^ 1)))+a2) - a6)).bind fun c=>tD N a8 a1 d a6 a2 c) else (tD N a8 a1 d a6 a2 a))
def tI (N:Nat)(c:VP->Int->Int->Int->Option VP)(a1 a2 d:Int)(a:VP):Nat->Int->Int->Option VP
 |0,_,_=>none
 |e+1,a6,a8=>bif decide (a6<a8) then (ae (in64 (a6+a8)) (ae (in64 ((((IntKind.i64.wrap ((IntKind.u64.wrap (a1+d)).fdiv (2 ^ 1)))+a2) - 1) - (IntKind.i64.wrap ((IntKind.u64.wrap (a6+a8)).fdiv (2 ^ 1))))) ((ak a ((((IntKind.i64.wrap ((IntKind.u64.wrap (a1+d)).fdiv (2 ^ 1)))+a2) - 1) - (IntKind.i64.wrap ((IntKind.u64.wrap (a6+a8)).fdiv (2 ^ 1))))).bind fun j=>(ak a (IntKind.i64.wrap ((IntKind.u64.wrap (a6+a8)).fdiv (2 ^ 1)))).bind fun i=>(pP N j i).bind fun f=>bif !(decide (f<0)) then (ae (in64 ((IntKind.i64.wrap ((IntKind.u64.wrap (a6+a8)).fdiv (2 ^ 1)))+1)) ((tI N c a1 a2 d a e) ((IntKind.i64.wrap ((IntKind.u64.wrap (a6+a8)).fdiv (2 ^ 1)))+1) a8)) else ((tI N c a1 a2 d a e) a6 (IntKind.i64.wrap ((IntKind.u64.wrap (a6+a8)).fdiv (2 ^ 1))))))) else (xg N c a1 a2 d a a6)
def xi (a6:VP->Int->Int->Int->Option VP)(a1 a2 d:Int)(a:VP)(a8 c:Int):Option VP:=
 ae (in64 (((IntKind.i64.wrap ((IntKind.u64.wrap (a1+d)).fdiv (2 ^ 1)))+a2) - 1)) (tI N a6 a1 a2 d a N a8 c)
def xh (a6:VP->Int->Int->Int->Option VP)(a1 a2 d:Int)(a:VP):Option VP:=
 ae (in64 (a1+d)) (ae (in64 ((IntKind.i64.wrap ((IntKind.u64.wrap (a1+d)).fdiv (2 ^ 1)))+a2)) (bif decide ((IntKind.i64.wrap ((IntKind.u64.wrap (a1+d)).fdiv (2 ^ 1)))<a2) then (ae (in64 (((IntKind.i64.wrap ((IntKind.u64.wrap (a1+d)).fdiv (2 ^ 1)))+a2) - d)) (xi N a6 a1 a2 d a (((IntKind.i64.wrap ((IntKind.u64.wrap (a1+d)).fdiv (2 ^ 1)))+a2) - d) (IntKind.i64.wrap ((IntKind.u64.wrap (a1+d)).fdiv (2 ^ 1))))) else (xi N a6 a1 a2 d a a1 a2)))
def tH (N:Nat)(i:VP->Int->Int->Int->Option VP)(a1 a2 d e:Int):Nat->VP->Int->Option VP
 |0,_,_=>none
 |f+1,a8,a6=>bif decide (e<a6) then (ae (in64 (a6 - 1)) (ae (in64 (a6 - 1)) ((ak a8 (a6 - 1)).bind fun a=>(ak a8 a6).bind fun c=>(ak a8 a6).bind fun l=>(ak (List.set a8 a6.toNat (⟨a.no,a.N,a.S⟩:Vy)) (a6 - 1)).bind fun j=>ae (in64 (a6 - 1)) ((tH N i a1 a2 d e f) (List.set (List.set a8 a6.toNat (⟨a.no,a.N,a.S⟩:Vy)) ((a6 - 1).toNat) (⟨c.no,c.N,c.S⟩:Vy)) (a6 - 1))))) else (some a8)
def CY (a6:VP->Int->Int->Int->Option VP)(a1 a2 d:Int)(a:VP)(a8:Int):Option VP:=
 tH N a6 a1 a2 d a8 N a a2
def tL (N:Nat)(c:VP->Int->Int->Int->Option VP)(a1 a2 d:Int)(a:VP):Nat->Int->Int->Option VP
 |0,_,_=>none
 |e+1,a6,a8=>bif decide (a6<a8) then (ae (in64 (a6+a8)) ((ak a a2).bind fun i=>(ak a (IntKind.i64.wrap ((IntKind.u64.wrap (a6+a8)).fdiv (2 ^ 1)))).bind fun f=>(pP N i f).bind fun y42=>bif !(decide (y42<0)) then (ae (in64 ((IntKind.i64.wrap ((IntKind.u64.wrap (a6+a8)).fdiv (2 ^ 1)))+1)) ((tL N c a1 a2 d a e) ((IntKind.i64.wrap ((IntKind.u64.wrap (a6+a8)).fdiv (2 ^ 1)))+1) a8)) else ((tL N c a1 a2 d a e) a6 (IntKind.i64.wrap ((IntKind.u64.wrap (a6+a8)).fdiv (2 ^ 1)))))) else (CY N c a1 a2 d a a6)
def xl (a6:VP->Int->Int->Int->Option VP)(a1 a2 d:Int)(a:VP):Option VP:=
 ae (in64 (d - a2)) (bif decide (d - a2=1) then (tL N a6 a1 a2 d a N a1 a2) else (xh N a6 a1 a2 d a))
def tG (N:Nat)(i:VP->Int->Int->Int->Option VP)(a1 a2 d c:Int):Nat->VP->Int->Option VP
 |0,_,_=>none
 |f+1,a8,a6=>ae (in64 (c - 1)) (bif decide (a6<c - 1) then (ae (in64 (a6+1)) (ae (in64 (a6+1)) ((ak a8 (a6+1)).bind fun a=>(ak a8 a6).bind fun e=>(ak a8 a6).bind fun l=>(ak (List.set a8 a6.toNat (⟨a.no,a.N,a.S⟩:Vy)) (a6+1)).bind fun j=>ae (in64 (a6+1)) ((tG N i a1 a2 d c f) (List.set (List.set a8 a6.toNat (⟨a.no,a.N,a.S⟩:Vy)) ((a6+1).toNat) (⟨e.no,e.N,e.S⟩:Vy)) (a6+1))))) else (some a8))
def C0 (a6:VP->Int->Int->Int->Option VP)(a1 a2 d:Int)(a:VP)(c:Int):Option VP:=
 tG N a6 a1 a2 d c N a a1
def qH (N:Nat)(a8:VP->Int->Int->Int->Option VP)(a1 a2 d:Int)(a:VP):Nat->Int->Int->Option VP
 |0,_,_=>none
 |e+1,c,a6=>bif decide (c<a6) then (ae (in64 (c+a6)) ((ak a (IntKind.i64.wrap ((IntKind.u64.wrap (c+a6)).fdiv (2 ^ 1)))).bind fun j=>(ak a a1).bind fun i=>(pP N j i).bind fun f=>bif decide (f<0) then (ae (in64 ((IntKind.i64.wrap ((IntKind.u64.wrap (c+a6)).fdiv (2 ^ 1)))+1)) ((qH N a8 a1 a2 d a e) ((IntKind.i64.wrap ((IntKind.u64.wrap (c+a6)).fdiv (2 ^ 1)))+1) a6)) else ((qH N a8 a1 a2 d a e) c (IntKind.i64.wrap ((IntKind.u64.wrap (c+a6)).fdiv (2 ^ 1)))))) else (C0 N a8 a1 a2 d a c)
def fo (N:Nat):Nat->VP->Int->Int->Int->Option VP
 |0,_,_,_,_=>none
 |c+1,a,a1,a2,d=>ae (in64 (a2 - a1)) (bif decide (a2 - a1=1) then (qH N (fo N c) a1 a2 d a N a2 d) else (xl N (fo N c) a1 a2 d a))
theorem Hv {N c:Nat}{a:VP}{a2:Int}:fo N (c+1) a a1 a2 d=ae (in64 (a2 - a1)) (bif decide (a2 - a1=1) then (qH N (fo N c) a1 a2 d a N a2 d) else (xl N (fo N c) a1 a2 d a)):=rfl
def nz (a:VP)(a1 a2 d:Int):Option VP:=fo N N a a1 a2 d
theorem OL {N:Nat}: ∀(Q:Nat) {a:VP} {a1:Int} {a2:Int} {d:Int} {r:VP} (h:fo N Q a a1 a2 d=some r) {A1:Option Addr} {c c1:Nat},Okc V5 217 [Y A1 c c1,iV a1,iV a2,iV d,.func (.func 135) #[] #[]] ([bp A1 c c1 a]) (fun u p=>u=.tuple #[]/\p=[bp A1 c c1 r]):=by
 intro Q
 induction Q with
 |zero=>intro a a1 a2 d r h A1 c c1;exact bO h
 | succ l Z=>
  intro a a1 a2 d r h A1 c c1;rw [Hv] at h;refine gQ Tryz.func217 J J ?_;simp only [fe];refine aF (fun s L=>xl N (fo N l) a1 a2 d a=some r/\s=[(0,Y A1 c c1),(1,iV a1),(2,iV a2),(3,iV d),(4,.func (.func 135) #[] #[])]/\L=[bp A1 c c1 a]) ?_ ?_
  ·refine aa ?_;obtain ⟨q4,h⟩:=ai h;refine aG h ?_ ?_<;>intro h
   ·refine aa ?_;refine aF (fun s L=> ∃o,C0 N (fo N l) a1 a2 d a o=some r/\s=[(0,Y A1 c c1),(1,iV a1),(2,iV a2),(3,iV d),(4,.func (.func 135) #[] #[]),(10,iV o)]/\L=[bp A1 c c1 a]) ?_ ?_
    ·refine aa ?_;refine lK (fun m s L=> ∃(B:Int) (P:Int),qH N (fo N l) a1 a2 d a m B P=some r/\s=[(0,Y A1 c c1),(1,iV a1),(2,iV a2),(3,iV d),(4,.func (.func 135) #[] #[]),(10,iV B),(11,iV P)]/\L=[bp A1 c c1 a]) N ?_;rintro m8 _ _ ⟨B,P,h,rfl,rfl⟩;rw [qH.eq_2] at h;refine sZ ?_;refine gH J h ?_ ?_<;>intro h
     ·refine aa ?_;obtain ⟨j5,h⟩:=ai h;refine aa ?_;refine gE (jl J J Vm) ?_;refine gE (wz (v:=(IntKind.u64.wrap (B+P)).fdiv (2 ^ 1)) J J (fun _=>J)) ?_;refine aJ (jl J J Ex) ?_;refine dY [] ?_;refine aa ?_;obtain ⟨j6,h7,h8,h9,h⟩:=aI h;refine aa ?_;obtain ⟨j7,i0,i1,i2,h⟩:=aI h;refine aa ?_;obtain ⟨j8,k,h⟩:=ad h;refine zD 9 J (jA (zM k) J J J (aW) zd) ?_;rintro _ _ ⟨_,⟨rfl,rfl⟩,rfl⟩;refine ⟨_,ah _,ah _,?_⟩;refine aG h ?_ ?_<;>intro h
      ·refine aa ?_;obtain ⟨j9,h⟩:=ai h;exact lY
      exact lY
     exact jY
    rintro _ _ ⟨o,h,rfl,rfl⟩;refine sZ ?_;refine lK (fun m s L=> ∃(O:VP) (a6:Int),tG N (fo N l) a1 a2 d o m O a6=some r/\s=[(0,Y A1 c c1),(1,iV a1),(2,iV a2),(3,iV d),(4,.func (.func 135) #[] #[]),(10,iV o),(13,iV a6)]/\L=[bp A1 c c1 O]) N ?_;rintro k0 _ _ ⟨O,a6,h,rfl,rfl⟩;rw [tG.eq_2] at h;refine sZ ?_;obtain ⟨k2,h⟩:=ai h;refine aG h ?_ ?_<;>intro h
    ·refine sY ?_;obtain ⟨M,h⟩:=ai h;obtain ⟨h5,h⟩:=ai h;obtain ⟨a8,e9,f1,f2,h⟩:=aI h;obtain ⟨j,f3,f9,g0,h⟩:=aI h;refine dx (t:=[(0,Y A1 c c1),(1,iV a1),(2,iV a2),(3,iV d),(4,.func (.func 135) #[] #[]),(10,iV o),(13,iV a6)]) ?_ cL (ah _);refine fv I 14 [2,3,4] [0,1,2,4,9,13] [61,62,63,64,65,66,67,68,69,70,71,72,73,74] [[],[],[],[],[3],[],[],[6],[5,7],[8],[],[],[10,11],[12]] [aV (Y A1 c c1),
aV (iV a6),
aV (Y A1 c c1),
aV (iV a6),
aV (iV (a6+1)),
aV (Y A1 c c1),
aV (iV a6),
aV (iV (a6+1)),
aV (bD (Y A1 c c1) ((a6+1).toNat) 3 0),
aV (.agg #[iV a8.no,iV a8.N,.string a8.S]),
aV (Y A1 c c1),
aV (iV a6),
aV (bD (Y A1 c c1) a6.toNat 3 0),
aV (.agg #[iV j.no,iV j.N,.string j.S])] [] (ah _) (ft rfl (ft rfl (ft rfl fB))) I rfl rfl ?_ ?_ ?_
     ·refine fu J ?_ ?_
      ·exact fC (ay J) J (bj J (ah _))
      refine fu J ?_ ?_
      ·exact fC (ay J) J (bj J (ah _))
      refine fu J ?_ ?_
      ·exact fC (cY J J M.1 M.2) J (bj J (ah _))
      exact fz
     ·refine bl J ?_ ?_
      ·exact dj (fX (us:=[iV j.no,iV j.N,.string j.S]) 0 J aw J g0 agg34.out (fun _ _ _ h=>by rw [show _=_ from h];rfl)) J (bj J (ah _))
      refine qR (cH 0 J aw J J Vc size34.out f3 f9) ?_;refine qE (ay J) ?_;refine qE (ay J) ?_;refine bl J ?_ ?_
      ·exact dj (fX (us:=[iV a8.no,iV a8.N,.string a8.S]) 0 J aw J f2 agg34.out (fun _ _ _ h=>by rw [show _=_ from h];rfl)) J (bj J (ah _))
      refine qR (cH 0 J aw J J Vc size34.out e9 f1) ?_;refine qE (cY J J h5.1 h5.2) ?_;refine qE (ay J) ?_;refine qE (ay J) ?_;refine qE (cY J J M.1 M.2) ?_;refine qE (ay J) ?_;refine qE (ay J) ?_;refine qE (ay J) ?_;refine qE (ay J) ?_;exact fq
     refine eF (t:=[(61,Y A1 c c1),(62,iV a6),(63,Y A1 c c1),(65,iV (a6+1)),(70,.agg #[iV a8.no,iV a8.N,.string a8.S]),(74,.agg #[iV j.no,iV j.N,.string j.S]),(0,Y A1 c c1),(1,iV a1),(2,iV a2),(3,iV d),(4,.func (.func 135) #[] #[]),(10,iV o),(13,iV a6)]) (L':=[bp A1 c c1 O]) ?_ cL (ah _);obtain ⟨k3,c7,c8,g1,h⟩:=aI h;refine kD 14 J I (cH 0 J aw J J Vc size34.out c7 c8) J J J ?_;refine gv 15 J I (dX (us:=[iV a8.no,iV a8.N,.string a8.S]) (z:=(⟨a8.no,a8.N,a8.S⟩:Vy)) 0 J J J J size34.out J (toNat_lt c7 c8) J (fun S w vs xk q hr R=>by obtain rfl:=Xx (q.symm.trans g1);rw [show _=_ from hr];rfl)) J J ?_;rintro _ _ rfl;refine jo ?_;obtain ⟨k4,c9,d0,g2,h⟩:=aI h;refine kD 16 J I (cH 0 J aw J J Vc size34.out c9 d0) J J J ?_;refine gv 17 J I (dX (us:=[iV j.no,iV j.N,.string j.S]) (z:=(⟨j.no,j.N,j.S⟩:Vy)) 0 J J J J size34.out J (toNat_lt c9 d0) J (fun S w vs xk q hr R=>by obtain rfl:=Xx (q.symm.trans g2);rw [show _=_ from hr];rfl)) J J ?_;rintro _ _ rfl;refine jo ?_;refine fw I ?_;refine aa ?_;obtain ⟨k5,h⟩:=ai h;exact lY
    exact eY
   exact jY
  rintro _ _ ⟨h,rfl,rfl⟩;refine aF (fun s L=>xh N (fo N l) a1 a2 d a=some r/\s=[(0,Y A1 c c1),(1,iV a1),(2,iV a2),(3,iV d),(4,.func (.func 135) #[] #[])]/\L=[bp A1 c c1 a]) ?_ ?_
  ·refine aa ?_;obtain ⟨k6,h⟩:=ai h;refine aG h ?_ ?_<;>intro h
   ·refine aa ?_;refine aF (fun s L=> ∃A,CY N (fo N l) a1 a2 d a A=some r/\s=[(0,Y A1 c c1),(1,iV a1),(2,iV a2),(3,iV d),(4,.func (.func 135) #[] #[]),(14,iV A)]/\L=[bp A1 c c1 a]) ?_ ?_
    ·refine aa ?_;refine lK (fun m s L=> ∃(K:Int) (H:Int),tL N (fo N l) a1 a2 d a m K H=some r/\s=[(0,Y A1 c c1),(1,iV a1),(2,iV a2),(3,iV d),(4,.func (.func 135) #[] #[]),(14,iV K),(15,iV H)]/\L=[bp A1 c c1 a]) N ?_;rintro k7 _ _ ⟨K,H,h,rfl,rfl⟩;rw [tL.eq_2] at h;refine sZ ?_;refine gH J h ?_ ?_<;>intro h
     ·refine aa ?_;obtain ⟨k8,h⟩:=ai h;refine aa ?_;refine gE (jl J J Vm) ?_;refine gE (wz (v:=(IntKind.u64.wrap (K+H)).fdiv (2 ^ 1)) J J (fun _=>J)) ?_;refine aJ (jl J J Ex) ?_;refine dY [] ?_;refine aa ?_;obtain ⟨k9,i3,i4,i5,h⟩:=aI h;refine aa ?_;obtain ⟨l0,i6,i7,i8,h⟩:=aI h;refine aa ?_;obtain ⟨y42,k,h⟩:=ad h;refine zD 9 J (jA (zM k) J J J (aW) zd) ?_;rintro _ _ ⟨_,⟨rfl,rfl⟩,rfl⟩;refine ⟨_,ah _,ah _,?_⟩;refine aG h ?_ ?_<;>intro h
      ·refine aa ?_;obtain ⟨l1,h⟩:=ai h;exact lY
      exact lY
     exact jY
    rintro _ _ ⟨A,h,rfl,rfl⟩;refine sZ ?_;refine lK (fun m s L=> ∃(F:VP) (i:Int),tH N (fo N l) a1 a2 d A m F i=some r/\s=[(0,Y A1 c c1),(1,iV a1),(2,iV a2),(3,iV d),(4,.func (.func 135) #[] #[]),(14,iV A),(17,iV i)]/\L=[bp A1 c c1 F]) N ?_;rintro l2 _ _ ⟨F,i,h,rfl,rfl⟩;rw [tH.eq_2] at h;refine sZ ?_;refine gH J h ?_ ?_<;>intro h
    ·refine sY ?_;obtain ⟨E,h⟩:=ai h;obtain ⟨h6,h⟩:=ai h;obtain ⟨f,g3,g4,g5,h⟩:=aI h;obtain ⟨e,g6,g7,g8,h⟩:=aI h;refine dx (t:=[(0,Y A1 c c1),(1,iV a1),(2,iV a2),(3,iV d),(4,.func (.func 135) #[] #[]),(14,iV A),(17,iV i)]) ?_ cL (ah _);refine fv I 14 [2,3,4] [0,1,2,4,9,13] [113,114,115,116,117,118,119,120,121,122,123,124,125,126] [[],[],[],[],[3],[],[],[6],[5,7],[8],[],[],[10,11],[12]] [aV (Y A1 c c1),
aV (iV i),
aV (Y A1 c c1),
aV (iV i),
aV (iV (i - 1)),
aV (Y A1 c c1),
aV (iV i),
aV (iV (i - 1)),
aV (bD (Y A1 c c1) ((i - 1).toNat) 3 0),
aV (.agg #[iV f.no,iV f.N,.string f.S]),
aV (Y A1 c c1),
aV (iV i),
aV (bD (Y A1 c c1) i.toNat 3 0),
aV (.agg #[iV e.no,iV e.N,.string e.S])] [] (ah _) (ft rfl (ft rfl (ft rfl fB))) I rfl rfl ?_ ?_ ?_
     ·refine fu J ?_ ?_
      ·exact fC (ay J) J (bj J (ah _))
      refine fu J ?_ ?_
      ·exact fC (ay J) J (bj J (ah _))
      refine fu J ?_ ?_
      ·exact fC (ne J J E.1 E.2) J (bj J (ah _))
      exact fz
     ·refine bl J ?_ ?_
      ·exact dj (fX (us:=[iV e.no,iV e.N,.string e.S]) 0 J aw J g8 agg34.out (fun _ _ _ h=>by rw [show _=_ from h];rfl)) J (bj J (ah _))
      refine qR (cH 0 J aw J J Vc size34.out g6 g7) ?_;refine qE (ay J) ?_;refine qE (ay J) ?_;refine bl J ?_ ?_
      ·exact dj (fX (us:=[iV f.no,iV f.N,.string f.S]) 0 J aw J g5 agg34.out (fun _ _ _ h=>by rw [show _=_ from h];rfl)) J (bj J (ah _))
      refine qR (cH 0 J aw J J Vc size34.out g3 g4) ?_;refine qE (ne J J h6.1 h6.2) ?_;refine qE (ay J) ?_;refine qE (ay J) ?_;refine qE (ne J J E.1 E.2) ?_;refine qE (ay J) ?_;refine qE (ay J) ?_;refine qE (ay J) ?_;refine qE (ay J) ?_;exact fq
     refine eF (t:=[(113,Y A1 c c1),(114,iV i),(115,Y A1 c c1),(117,iV (i - 1)),(122,.agg #[iV f.no,iV f.N,.string f.S]),(126,.agg #[iV e.no,iV e.N,.string e.S]),(0,Y A1 c c1),(1,iV a1),(2,iV a2),(3,iV d),(4,.func (.func 135) #[] #[]),(14,iV A),(17,iV i)]) (L':=[bp A1 c c1 F]) ?_ cL (ah _);obtain ⟨l3,d1,d2,g9,h⟩:=aI h;refine kD 14 J I (cH 0 J aw J J Vc size34.out d1 d2) J J J ?_;refine gv 15 J I (dX (us:=[iV f.no,iV f.N,.string f.S]) (z:=(⟨f.no,f.N,f.S⟩:Vy)) 0 J J J J size34.out J (toNat_lt d1 d2) J (fun S w vs xk q hr R=>by obtain rfl:=Xx (q.symm.trans g9);rw [show _=_ from hr];rfl)) J J ?_;rintro _ _ rfl;refine jo ?_;obtain ⟨l4,d3,d4,h0,h⟩:=aI h;refine kD 16 J I (cH 0 J aw J J Vc size34.out d3 d4) J J J ?_;refine gv 17 J I (dX (us:=[iV e.no,iV e.N,.string e.S]) (z:=(⟨e.no,e.N,e.S⟩:Vy)) 0 J J J J size34.out J (toNat_lt d3 d4) J (fun S w vs xk q hr R=>by obtain rfl:=Xx (q.symm.trans h0);rw [show _=_ from hr];rfl)) J J ?_;rintro _ _ rfl;refine jo ?_;refine fw I ?_;refine aa ?_;obtain ⟨l5,h⟩:=ai h;exact lY
    exact eY
   exact jY
  rintro _ _ ⟨h,rfl,rfl⟩;refine aa ?_;obtain ⟨l6,h⟩:=ai h;refine aa ?_;refine gE (jl J J Vm) ?_;refine gE (wz (v:=(IntKind.u64.wrap (a1+d)).fdiv (2 ^ 1)) J J (fun _=>J)) ?_;refine aJ (jl J J Ex) ?_;obtain ⟨l7,h⟩:=ai h;refine aa ?_;refine aF (fun s L=> ∃X V,xi N (fo N l) a1 a2 d a X V=some r/\s=[(0,Y A1 c c1),(1,iV a1),(2,iV a2),(3,iV d),(4,.func (.func 135) #[] #[]),(18,iV (IntKind.i64.wrap ((IntKind.u64.wrap (a1+d)).fdiv (2 ^ 1)))),(19,iV ((IntKind.i64.wrap ((IntKind.u64.wrap (a1+d)).fdiv (2 ^ 1)))+a2)),(20,iV X),(21,iV V)]/\L=[bp A1 c c1 a]) ?_ ?_
  ·refine aG h ?_ ?_<;>intro h
   ·refine aa ?_;obtain ⟨l8,h⟩:=ai h;exact jY
   exact jY
  rintro _ _ ⟨X,V,h,rfl,rfl⟩;refine aa ?_;obtain ⟨l9,h⟩:=ai h;refine aa ?_;refine aF (fun s L=> ∃n,xg N (fo N l) a1 a2 d a n=some r/\s=[(0,Y A1 c c1),(1,iV a1),(2,iV a2),(3,iV d),(4,.func (.func 135) #[] #[]),(18,iV (IntKind.i64.wrap ((IntKind.u64.wrap (a1+d)).fdiv (2 ^ 1)))),(19,iV ((IntKind.i64.wrap ((IntKind.u64.wrap (a1+d)).fdiv (2 ^ 1)))+a2)),(20,iV n)]/\L=[bp A1 c c1 a]) ?_ ?_
  ·refine aa ?_;refine lK (fun m s L=> ∃(D:Int) (C:Int),tI N (fo N l) a1 a2 d a m D C=some r/\s=[(0,Y A1 c c1),(1,iV a1),(2,iV a2),(3,iV d),(4,.func (.func 135) #[] #[]),(18,iV (IntKind.i64.wrap ((IntKind.u64.wrap (a1+d)).fdiv (2 ^ 1)))),(19,iV ((IntKind.i64.wrap ((IntKind.u64.wrap (a1+d)).fdiv (2 ^ 1)))+a2)),(20,iV D),(21,iV C),(22,iV (((IntKind.i64.wrap ((IntKind.u64.wrap (a1+d)).fdiv (2 ^ 1)))+a2) - 1))]/\L=[bp A1 c c1 a]) N ?_;rintro m1 _ _ ⟨D,C,h,rfl,rfl⟩;rw [tI.eq_2] at h;refine sZ ?_;refine gH J h ?_ ?_<;>intro h
   ·refine aa ?_;obtain ⟨m3,h⟩:=ai h;refine aa ?_;refine gE (jl J J Vm) ?_;refine gE (wz (v:=(IntKind.u64.wrap (D+C)).fdiv (2 ^ 1)) J J (fun _=>J)) ?_;refine aJ (jl J J Ex) ?_;refine dY [] ?_;refine aa ?_;obtain ⟨m4,h⟩:=ai h;refine aa ?_;obtain ⟨m5,i9,j0,j1,h⟩:=aI h;refine aa ?_;obtain ⟨m6,j2,j3,j4,h⟩:=aI h;refine aa ?_;obtain ⟨m7,k,h⟩:=ad h;refine zD 11 J (jA (zM k) J J J (aW) zd) ?_;rintro _ _ ⟨_,⟨rfl,rfl⟩,rfl⟩;refine ⟨_,ah _,ah _,?_⟩;refine aG h ?_ ?_<;>intro h
    ·refine aa ?_;obtain ⟨m9,h⟩:=ai h;exact lY
    exact lY
   exact jY
  rintro _ _ ⟨n,h,rfl,rfl⟩;refine aa ?_;obtain ⟨n0,h⟩:=ai h;refine aa ?_;refine aF (fun s L=> ∃U,tD N (fo N l) a1 d n a2 U=some r/\s=[(0,Y A1 c c1),(1,iV a1),(3,iV d),(4,.func (.func 135) #[] #[]),(18,iV (IntKind.i64.wrap ((IntKind.u64.wrap (a1+d)).fdiv (2 ^ 1)))),(20,iV n),(24,iV (((IntKind.i64.wrap ((IntKind.u64.wrap (a1+d)).fdiv (2 ^ 1)))+a2) - n))]/\L=[bp A1 c c1 U]) ?_ ?_
  ·refine aa ?_;refine gS 4 185 181 h ?_;intro n7 h;refine aG h ?_ ?_<;>intro h
   ·refine cC h (fun _ k=>OT k) fun n8 h=> ?_
    exact jN
   exact jY
  rintro _ _ ⟨U,h,rfl,rfl⟩;refine aF (fun s L=> ∃T,tK N (fo N l) d a1 a2 n T=some r/\s=[(0,Y A1 c c1),(3,iV d),(4,.func (.func 135) #[] #[]),(18,iV (IntKind.i64.wrap ((IntKind.u64.wrap (a1+d)).fdiv (2 ^ 1)))),(24,iV (((IntKind.i64.wrap ((IntKind.u64.wrap (a1+d)).fdiv (2 ^ 1)))+a2) - n))]/\L=[bp A1 c c1 T]) ?_ ?_
  ·refine aa ?_;refine gS 4 199 195 h ?_;intro n9 h;refine aG h ?_ ?_<;>intro h
   ·refine cC h (fun _ k=>Z k) fun o0 h=> ?_
    exact jN
   exact jY
  rintro _ _ ⟨T,h,rfl,rfl⟩;refine aa ?_;refine gS 4 213 209 h ?_;intro o1 h;refine aG h ?_ ?_<;>intro h
  ·refine cC h (fun _ k=>Z k) fun o2 h=> ?_
   exact eN
  exact eY
theorem qG {N:Nat}{a:VP}{a2:Int}{r:VP}(h:nz N a a1 a2 d=some r):Okc V5 217 [Y A1 c c1,iV a1,iV a2,iV d,.func (.func 135) #[] #[]] ([bp A1 c c1 a]) (fun u p=>u=.tuple #[]/\p=[bp A1 c c1 r]):=OL N h
def C4 (N:Nat)(a6:VP->Int->Option VP)(a1 a8:Int)(a:VP):Option VP:=
 ae (in64 (a8*2)) (a6 a (a8*2))
def ON (a6:VP->Int->Option VP)(a1 a8:Int)(a:VP):Option VP:=
 ae (in64 (0+a8)) (bif decide (0+a8<a1) then ((nz N a 0 (0+a8) a1).bind fun c=>C4 N a6 a1 a8 c) else (C4 N a6 a1 a8 a))
def C6 (N:Nat)(a6:VP->Int->Option VP)(a1 a8:Int)(a:VP):Option VP:=
 ae (in64 (a8*2)) (a6 a (a8*2))
def Hw (a6:VP->Int->Option VP)(a1 a8:Int)(a:VP)(c:Int):Option VP:=
 ae (in64 (c+a8)) (bif decide (c+a8<a1) then ((nz N a c (c+a8) a1).bind fun y42=>C6 N a6 a1 a8 y42) else (C6 N a6 a1 a8 a))
def C5 (N:Nat)(a8:VP->Int->Option VP)(a1 a6:Int):Nat->VP->Int->Int->Option VP
 |0,_,_,_=>none
 |f+1,d,c,a=>bif decide (a<=a1) then (ae (in64 (c+a6)) ((nz N d c (c+a6) a).bind fun e=>ae (in64 (2*a6)) (ae (in64 (a+(2*a6))) ((C5 N a8 a1 a6 f) e a (a+(2*a6)))))) else (Hw N a8 a1 a6 d c)
def nA (N:Nat)(a1:Int):Nat->VP->Int->Option VP
 |0,_,_=>none
 |a+1,a8,a6=>bif decide (a6<a1) then (ae (in64 (2*a6)) (C5 N (nA N a1 a) a1 a6 N a8 0 (2*a6))) else (some a8)
def OR (a1:Int)(a:VP):Option VP:=
 (qF N a 0 a1).bind fun a6=>nA N a1 N a6 20
def C3 (N:Nat)(a6:VP->Int->Option VP)(a1 a8:Int)(a:VP):Option VP:=
 ae (in64 (a8*2)) (a6 a (a8*2))
def OP (a6:VP->Int->Option VP)(a1 a8:Int)(a:VP):Option VP:=
 ae (in64 (0+a8)) (bif decide (0+a8<a1) then ((nz N a 0 (0+a8) a1).bind fun c=>C3 N a6 a1 a8 c) else (C3 N a6 a1 a8 a))
def xm (N:Nat)(a6:VP->Int->Option VP)(a1 a8:Int)(a:VP):Option VP:=
 ae (in64 (a8*2)) (a6 a (a8*2))
def C7 (a6:VP->Int->Option VP)(a1 a8:Int)(c:VP)(a:Int):Option VP:=
 ae (in64 (a+a8)) (bif decide (a+a8<a1) then ((nz N c a (a+a8) a1).bind fun d=>xm N a6 a1 a8 d) else (xm N a6 a1 a8 c))
def xn (N:Nat)(a8:VP->Int->Option VP)(a1 a6:Int):Nat->VP->Int->Int->Option VP
 |0,_,_,_=>none
 |f+1,d,c,a=>bif decide (a<=a1) then (ae (in64 (c+a6)) ((nz N d c (c+a6) a).bind fun e=>ae (in64 (2*a6)) (ae (in64 (a+(2*a6))) ((xn N a8 a1 a6 f) e a (a+(2*a6)))))) else (C7 N a8 a1 a6 d c)
def lC (N:Nat)(a1:Int):Nat->VP->Int->Option VP
 |0,_,_=>none
 |a+1,a8,a6=>bif decide (a6<a1) then (ae (in64 (2*a6)) (xn N (lC N a1 a) a1 a6 N a8 0 (2*a6))) else (some a8)
def Dd (a1:Int)(c:VP)(a:Int):Option VP:=
 (qF N c a a1).bind fun a6=>lC N a1 N a6 20
def xt (N:Nat)(a1:Int):Nat->VP->Int->Int->Option VP
 |0,_,_,_=>none
 |e+1,d,c,a=>bif decide (a<=a1) then ((qF N d c a).bind fun a6=>ae (in64 (a+20)) ((xt N a1 e) a6 a (a+20))) else (Dd N a1 d c)
def Dh (a:VP)(a1:Int):Option VP:=
 xt N a1 N a 0 20
theorem OQ {N:Nat}{a r:VP}(h:Dh N a a1=some r):Okc V5 178 [Y A1 c c1,iV a1,.func (.func 135) #[] #[]] ([bp A1 c c1 a]) (fun u p=>u=.tuple #[]/\p=[bp A1 c c1 r]):=by
 refine av Tryz.func178 ?_;refine aF (fun s L=>(OR N a1 a=some r/\s=[(0,Y A1 c c1),(1,iV a1),(2,.func (.func 135) #[] #[]),(6,iV 20),(7,iV 0)]/\L=[bp A1 c c1 a])\/(∃C B,Dd N a1 C B=some r/\s=[(0,Y A1 c c1),(1,iV a1),(2,.func (.func 135) #[] #[]),(6,iV 20),(7,iV B)]/\L=[bp A1 c c1 C])) ?_ ?_
 ·refine aa ?_;refine lK (fun m s L=> ∃(n:VP) (l:Int) (A:Int),xt N a1 m n l A=some r/\s=[(0,Y A1 c c1),(1,iV a1),(2,.func (.func 135) #[] #[]),(6,iV 20),(7,iV l),(8,iV A)]/\L=[bp A1 c c1 n]) N ?_;rintro m6 _ _ ⟨n,l,A,h,rfl,rfl⟩;rw [xt.eq_2] at h;refine sZ ?_;refine gH J h ?_ ?_<;>intro h
  ·refine cC h (fun _ k=>CX k) fun f2 h=> ?_
   obtain ⟨f3,h⟩:=ai h;exact lY
  refine aa ?_;exact ⟨_,_,.inr (⟨n,l,h,J,J⟩),sA,cS [0] 1⟩
 rintro _ _ (⟨h,rfl,rfl⟩|⟨C,B,h,rfl,rfl⟩)
 ·refine cC h (fun _ k=>CX k) fun f9 h=> ?_
  refine lK (fun m s L=> ∃(j:VP) (a6:Int),nA N a1 m j a6=some r/\s=[(0,Y A1 c c1),(1,iV a1),(2,.func (.func 135) #[] #[]),(6,iV a6)]/\L=[bp A1 c c1 j]) N ?_;rintro i _ _ ⟨j,a6,h,rfl,rfl⟩;rw [nA.eq_2] at h;refine sZ ?_;refine gH J h ?_ ?_<;>intro h
  ·refine aa ?_;obtain ⟨e3,h⟩:=ai h;refine aJ (gq J J e3.1 e3.2) ?_;refine aF (fun s L=>(ON N (nA N a1 i) a1 a6 j=some r/\s=[(0,Y A1 c c1),(1,iV a1),(2,.func (.func 135) #[] #[]),(6,iV a6),(7,iV 0)]/\L=[bp A1 c c1 j])\/(∃d Q,Hw N (nA N a1 i) a1 a6 d Q=some r/\s=[(0,Y A1 c c1),(1,iV a1),(2,.func (.func 135) #[] #[]),(6,iV a6),(7,iV Q)]/\L=[bp A1 c c1 d])) ?_ ?_
   ·refine aa ?_;refine lK (fun m s L=> ∃(z:VP) (t:Int) (P:Int),C5 N (nA N a1 i) a1 a6 m z t P=some r/\s=[(0,Y A1 c c1),(1,iV a1),(2,.func (.func 135) #[] #[]),(6,iV a6),(7,iV t),(8,iV P)]/\L=[bp A1 c c1 z]) N ?_;rintro g0 _ _ ⟨z,t,P,h,rfl,rfl⟩;rw [C5.eq_2] at h;refine sZ ?_;refine gH J h ?_ ?_<;>intro h
    ·refine aa ?_;obtain ⟨g1,h⟩:=ai h;refine cC h (fun _ k=>qG k) fun g2 h=> ?_
     obtain ⟨Z,h⟩:=ai h;refine gE (gq J J Z.1 Z.2) ?_;obtain ⟨g3,h⟩:=ai h;exact lY
    refine aa ?_;exact ⟨_,_,.inr (⟨z,t,h,J,J⟩),sA,cS [0] 1⟩
   rintro _ _ (⟨h,rfl,rfl⟩|⟨d,Q,h,rfl,rfl⟩)
   ·refine aF (fun s L=> ∃O,C4 N (nA N a1 i) a1 a6 O=some r/\s=[(0,Y A1 c c1),(1,iV a1),(2,.func (.func 135) #[] #[]),(6,iV a6)]/\L=[bp A1 c c1 O]) ?_ ?_
    ·refine aa ?_;obtain ⟨g4,h⟩:=ai h;refine aG h ?_ ?_<;>intro h
     ·refine cC h (fun _ k=>qG k) fun g5 h=> ?_
      exact jN
     exact jY
    rintro _ _ ⟨O,h,rfl,rfl⟩;refine aa ?_;obtain ⟨X,h⟩:=ai h;refine aJ (gq J J X.1 X.2) ?_;exact lN
   refine aF (fun s L=> ∃M,C6 N (nA N a1 i) a1 a6 M=some r/\s=[(0,Y A1 c c1),(1,iV a1),(2,.func (.func 135) #[] #[]),(6,iV a6)]/\L=[bp A1 c c1 M]) ?_ ?_
   ·refine aa ?_;obtain ⟨g6,h⟩:=ai h;refine aG h ?_ ?_<;>intro h
    ·refine cC h (fun _ k=>qG k) fun y42 h=> ?_
     exact jN
    exact jY
   rintro _ _ ⟨M,h,rfl,rfl⟩;refine aa ?_;obtain ⟨V,h⟩:=ai h;refine aJ (gq J J V.1 V.2) ?_;exact lN
  exact eY
 refine cC h (fun _ k=>CX k) fun g7 h=> ?_
 refine lK (fun m s L=> ∃(f:VP) (a8:Int),lC N a1 m f a8=some r/\s=[(0,Y A1 c c1),(1,iV a1),(2,.func (.func 135) #[] #[]),(6,iV a8)]/\L=[bp A1 c c1 f]) N ?_;rintro e _ _ ⟨f,a8,h,rfl,rfl⟩;rw [lC.eq_2] at h;refine sZ ?_;refine gH J h ?_ ?_<;>intro h
 ·refine aa ?_;obtain ⟨U,h⟩:=ai h;refine aJ (gq J J U.1 U.2) ?_;refine aF (fun s L=>(OP N (lC N a1 e) a1 a8 f=some r/\s=[(0,Y A1 c c1),(1,iV a1),(2,.func (.func 135) #[] #[]),(6,iV a8),(7,iV 0)]/\L=[bp A1 c c1 f])\/(∃K H,C7 N (lC N a1 e) a1 a8 K H=some r/\s=[(0,Y A1 c c1),(1,iV a1),(2,.func (.func 135) #[] #[]),(6,iV a8),(7,iV H)]/\L=[bp A1 c c1 K])) ?_ ?_
  ·refine aa ?_;refine lK (fun m s L=> ∃(q:VP) (o:Int) (F:Int),xn N (lC N a1 e) a1 a8 m q o F=some r/\s=[(0,Y A1 c c1),(1,iV a1),(2,.func (.func 135) #[] #[]),(6,iV a8),(7,iV o),(8,iV F)]/\L=[bp A1 c c1 q]) N ?_;rintro g8 _ _ ⟨q,o,F,h,rfl,rfl⟩;rw [xn.eq_2] at h;refine sZ ?_;refine gH J h ?_ ?_<;>intro h
   ·refine aa ?_;obtain ⟨g9,h⟩:=ai h;refine cC h (fun _ k=>qG k) fun h0 h=> ?_
    obtain ⟨T,h⟩:=ai h;refine gE (gq J J T.1 T.2) ?_;obtain ⟨h1,h⟩:=ai h;exact lY
   refine aa ?_;exact ⟨_,_,.inr (⟨q,o,h,J,J⟩),sA,cS [0] 1⟩
  rintro _ _ (⟨h,rfl,rfl⟩|⟨K,H,h,rfl,rfl⟩)
  ·refine aF (fun s L=> ∃E,C3 N (lC N a1 e) a1 a8 E=some r/\s=[(0,Y A1 c c1),(1,iV a1),(2,.func (.func 135) #[] #[]),(6,iV a8)]/\L=[bp A1 c c1 E]) ?_ ?_
   ·refine aa ?_;obtain ⟨h2,h⟩:=ai h;refine aG h ?_ ?_<;>intro h
    ·refine cC h (fun _ k=>qG k) fun h3 h=> ?_
     exact jN
    exact jY
   rintro _ _ ⟨E,h,rfl,rfl⟩;refine aa ?_;obtain ⟨S,h⟩:=ai h;refine aJ (gq J J S.1 S.2) ?_;exact lN
  refine aF (fun s L=> ∃D,xm N (lC N a1 e) a1 a8 D=some r/\s=[(0,Y A1 c c1),(1,iV a1),(2,.func (.func 135) #[] #[]),(6,iV a8)]/\L=[bp A1 c c1 D]) ?_ ?_
  ·refine aa ?_;obtain ⟨h4,h⟩:=ai h;refine aG h ?_ ?_<;>intro h
   ·refine cC h (fun _ k=>qG k) fun h5 h=> ?_
    exact jN
   exact jY
  rintro _ _ ⟨D,h,rfl,rfl⟩;refine aa ?_;obtain ⟨R,h⟩:=ai h;refine aJ (gq J J R.1 R.2) ?_;exact lN
 exact eY
def xr (a:VP):Option VP:=
 (Dh N a (a.length:Int)).bind fun c=>some c
theorem OO {N:Nat}{a r:VP}(h:xr N a=some r):Okc V5 134 [Y A1 c c1,.func (.func 135) #[] #[]] ([bp A1 c c1 a]) (fun u p=>u=.tuple #[]/\p=[bp A1 c c1 r]):=by
 refine av Tryz.func134 ?_;refine cC h (fun _ k=>OQ k) fun d h=> ?_
 exact eN
def EF (a:VP):Option VP:=
 (xr N a).bind fun a6=>some a6
def zP (N:Nat)(a6:VP->Int->Option VP)(a:VP)(c:Int)(a8:VP):Option VP:=
 ae (in64 (c+1)) (a6 a8 (c+1))
def rP (N:Nat)(a:VP):Nat->VP->Int->Option VP
 |0,_,_=>none
 |e+1,d,c=>bif decide (c<(a.length:Int)) then ((ak a c).bind fun a6=>(fW N a6).bind fun a8=>bif a8 then (ae (bC (d.length+([a6]:List Vy).length)) (zP N (rP N a e) a c (d++([a6]:List Vy)))) else (zP N (rP N a e) a c d)) else (EF N d)
def rZ (a:VP):Option VP:=
 rP N a N [] 0
theorem Rj {N:Nat}{a r:VP}(h:rZ N a=some r):Okc V5 87 [Y A1 c c1] ([eL A1 c c1 a]) (fun u p=> ∃q n o,u=Y q n o/\p=[bp q n o r]):=by
 refine av Tryz.func87 ?_;refine aF (fun s L=> ∃f A3 n3 c3,EF N f=some r/\s=[(2,Y none 0 0),(3,Y A3 n3 c3)]/\L=[bp A3 n3 c3 f]) ?_ ?_
 ·refine aa ?_;refine dU (fun m s L=> ∃e d A5 n5 c5,rP N a m e d=some r/\s=[(2,Y none 0 0),(3,Y A5 n5 c5),(6,Y A1 c c1),(7,iV (a.length:Int)),(8,iV d)]/\L=[bp A5 n5 c5 e,eL A1 c c1 a]) N _ _ ⟨[],0,none,0,0,h,J,J⟩ sA ((ck fO 34 _).trans (cS [0,1] 2)) ?_;rintro (_|t) _ _ ⟨e,d,A5,n5,c5,h,rfl,rfl⟩
  ·exact bO h
  rw [rP.eq_2] at h;refine aa ?_;refine aH ?_;refine gH J h ?_ ?_<;>intro h
  ·refine aa ?_;refine aF (fun s L=> ∃a8 l j i,zP N (rP N a t) a d a8=some r/\s=[(2,Y none 0 0),(3,Y l j i),(6,Y A1 c c1),(7,iV (a.length:Int)),(8,iV d)]/\L=[bp l j i a8,eL A1 c c1 a]) ?_ ?_
   ·refine aa ?_;obtain ⟨a6,S,Q,P,h⟩:=aI h;refine bB fun O=> ?_
    obtain ⟨M,k,h⟩:=ad h;refine cV (oR (zG k)) ?_;refine gH J h ?_ ?_<;>intro h
    ·refine aa ?_;refine gD (cB (R:=fO) (vss:=[[iV a6.no,iV a6.N,.string a6.S]]) (xs:=[a6]) J (oF _ _ _) J J (fun _ _ hr=> .cons J All2.nil)) ?_;rintro _ _ ⟨K,H,F,rfl,rfl⟩;obtain ⟨z,h⟩:=ai h;refine bN (cG 2 0 J J aw J J Vc kB J J z) fun E D C=> ?_
     exact jN
    exact jY
   rintro _ _ ⟨a8,l,j,i,h,rfl,rfl⟩;refine aa ?_;obtain ⟨B,h⟩:=ai h;exact lY
  exact jY
 rintro _ _ ⟨f,A3,n3,c3,h,rfl,rfl⟩;refine aa ?_;obtain ⟨A,k,h⟩:=ad h;refine cV (oC (OO k)) ?_;exact eN
def uQ (a:VK)(a1:VH):Option VP:=
 (ia N a a1).bind fun c=>dB c (fun y5_0=>some []) (fun y5_1=>(my N a).bind fun d=>(nF N a.Ya y5_1.XY.XV).bind fun a6=>(rZ N a6).bind fun a8=>some a8)
theorem IA {N:Nat}{a:VK}{a1:VH}{r:VP}(h:uQ N a a1=some r){B1 B2 e:Nat}:Okc V5 30 [pV B1 0,(bS a1)] ([pDWorld B1 B2 e a]) (fun u p=> ∃i c d,u=Y i c d/\p=[bp i c d r]):=by
 refine av Tryz.func30 ?_;intro f;refine aa ?_;obtain ⟨j,a6,h⟩:=ad h;rcases j with y5_0|y5_1
 ·replace h:=gk h;refine gD (oR (eP a6)) ?_;rintro _ _ ⟨_,⟨rfl,rfl⟩,rfl⟩;refine sY ?_;refine d9 J ?_;refine aa ?_;obtain rfl:=bn h;exact dV J J ((ck fO 34 _).trans (cS [0] 3)) ⟨_,_,_,J,J⟩
 replace h:=gj h;refine gD (oR (eP a6)) ?_;rintro _ _ ⟨_,⟨F,K,m,t,H,l,q,rfl,rfl⟩,rfl⟩;refine sY ?_;refine d8 J ?_;refine aa ?_;refine dY [0,2,3,4,5,6] ?_;obtain ⟨a8,k,h⟩:=ad h;refine zD 1 J (oR (qL k)) ?_;rintro _ _ ⟨_,⟨rfl,rfl⟩,rfl⟩;refine ⟨_,ah _,ah _,?_⟩;obtain ⟨E,k,h⟩:=ad h;refine fk 7 J (oR (HM k)) fun D C B=> ?_
 obtain ⟨A,k,h⟩:=ad h;refine fk 8 J (oR (Rj k)) fun z o n=> ?_
 refine zX [9] ?_;exact eY
def HU (N:Nat)(a:VW):Option VW:=
 some a
def xH (N:Nat)(a:((List VI))):Nat->VW->Int->Option VW
 |0,_,_=>none
 |d+1,c,a6=>bif decide (a6<(a.length:Int)) then ((ak a a6).bind fun a8=>ae (bC (c.length+([a8.XT]:List Int).length)) (ae (in64 (a6+1)) ((xH N a d) (c++([a8.XT]:List Int)) (a6+1)))) else (HU N c)
def qW (a:VC)(a1:Int):Option VW:=
 (px N a a1).bind fun c=>xH N c N [] 0
theorem PB {N:Nat}{r:VW}(h:qW N a a1=some r):Okc V5 50 [pV B1 0,iV a1] ([aQ B1 191 [Y A2 n2 c2,.map (some M3)],aL cD (Y A2 n2 c2) a.Ya,cK dH cp M3 a.Yn]) (fun u p=> ∃z n q,u=Y z n q/\p=[aR z n q r]):=by
 refine av Tryz.func50 ?_;refine aF (fun s L=> ∃e A5 n5 c5,HU N e=some r/\s=[(4,Y none 0 0),(5,Y A5 n5 c5)]/\L=[aR A5 n5 c5 e]) ?_ ?_
 ·refine aa ?_;obtain ⟨c,k,h⟩:=ad h;refine bN (oR (yc k)) fun t l o=> ?_
  refine dU (fun m s L=> ∃d a6 j f i,xH N c m d a6=some r/\s=[(4,Y none 0 0),(5,Y j f i),(10,Y t l o),(11,iV (c.length:Int)),(12,iV a6)]/\L=[aR j f i d,aK cD 159 (Y t l o) c]) N _ _ ⟨[],0,none,0,0,h,J,J⟩ sA ((ck (df .i64) 3 _).trans (cS [0,1] 5)) ?_;rintro (_|B) _ _ ⟨d,a6,j,f,i,h,rfl,rfl⟩
  ·exact bO h
  rw [xH.eq_2] at h;refine aa ?_;refine aH ?_;refine gH J h ?_ ?_<;>intro h
  ·refine sY ?_;obtain ⟨a8,S,Q,P,h⟩:=aI h;refine bB fun O=> ?_
   refine gD (cB (R:=(df .i64)) (vss:=[[iV a8.XT]]) (xs:=[a8.XT]) J (lQ _) J J (fun _ _ hr=> .cons J All2.nil)) ?_;rintro _ _ ⟨M,K,H,rfl,rfl⟩;obtain ⟨A,h⟩:=ai h;refine bN (cG 2 0 J J aw J J Vd iE J J A) fun F E D=> ?_
   obtain ⟨C,h⟩:=ai h;exact lY
  exact jY
 rintro _ _ ⟨e,A5,n5,c5,h,rfl,rfl⟩;exact eY
theorem O9 {N:Nat}{r:VW}(h:qW N a a1=some r):Okc V5 50 [pV B1 0,iV a1] ([pDTable B1 a]) (fun u p=> ∃e c d,u=Y e c d/\p=[aR e c d r]):=jR 0 rfl (fun _=>PB h)
def Ih (N:Nat)(a6:VZ):Option VZ:=
 some a6
def yt (N:Nat)(a8:VP)(e:VW)(y5_1:VA)(a:VK):Nat->VZ->Int->Option VZ
 |0,_,_=>none
 |j+1,c,a6=>bif decide (a6<(a8.length:Int)) then ((ak a8 a6).bind fun i=>(ak e a6).bind fun f=>(qY N (⟨y5_1.XY,a,y5_1.at_⟩:VA) a6 i f).bind fun d=>ae ((c.length+([d]:List VN).length)<=549755813888) (ae (in64 (a6+1)) ((yt N a8 e y5_1 a j) (c++([d]:List VN)) (a6+1)))) else (Ih N c)
def rH (a:VK)(a1:VH):Option VZ:=
 (ia N a a1).bind fun c=>dB c (fun y5_0=>some []) (fun y5_1=>(my N a).bind fun e=>(qW N a.Ya y5_1.XY.XV).bind fun a6=>(my N a).bind fun d=>(nF N a.Ya y5_1.XY.XV).bind fun a8=>yt N a8 a6 y5_1 a N [] 0)
theorem Iu {N:Nat}{a:VK}{a1:VH}{r:VZ}(h:rH N a a1=some r){B1 B2 e:Nat}:Okc V5 15 [pV B1 0,(bS a1)] ([pDWorld B1 B2 e a]) (fun u p=> ∃A0 X c0,u=Y A0 X c0/\p=[aK cI 48 (Y A0 X c0) r]):=by
 refine av Tryz.func15 ?_;intro f;refine aa ?_;obtain ⟨y5,f1,h⟩:=ad h;rcases y5 with y5_0|y5_1
 ·replace h:=gk h;refine gD (oR (eP f1)) ?_;rintro _ _ ⟨_,⟨rfl,rfl⟩,rfl⟩;refine sY ?_;refine d9 J ?_;refine aa ?_;obtain rfl:=bn h;exact dV J J ((ck cI 48 _).trans (cS [0] 3)) ⟨_,_,_,J,J⟩
 replace h:=gj h;refine gD (oR (eP f1)) ?_;rintro _ _ ⟨_,⟨o,M,D,H,K,C,F,rfl,rfl⟩,rfl⟩;refine sY ?_;refine d8 J ?_;refine aa ?_;refine dY [0,2,3,4,5,6] ?_;obtain ⟨g2,k,h⟩:=ad h;refine zD 1 J (oR (qL k)) ?_;rintro _ _ ⟨_,⟨rfl,rfl⟩,rfl⟩;refine ⟨_,ah _,ah _,?_⟩;obtain ⟨V,k,h⟩:=ad h;refine fk 7 J (oR (O9 k)) fun n l j=> ?_
 refine zX [8] ?_;refine aa ?_;refine aF (fun s L=> ∃U T S Q,Ih N U=some r/\s=[(4,Y none 0 0),(7,Y T S Q)]/\L=[aK cI 48 (Y T S Q) U]) ?_ ?_
 ·refine dY [0,2,3,4,5,6,9] ?_;obtain ⟨g3,k,h⟩:=ad h;refine zD 1 J (oR (qL k)) ?_;rintro _ _ ⟨_,⟨rfl,rfl⟩,rfl⟩;refine ⟨_,ah _,ah _,?_⟩;obtain ⟨q,k,h⟩:=ad h;refine fk 7 J (oR (HM k)) fun B A z=> ?_
  refine zD 8 J (jH (ie 0 J aw J Vc)) ?_;rintro _ _ ⟨rfl,rfl⟩;refine bE ?_;refine cJ I ?_;refine aa ?_;refine dU (fun m s L=> ∃E a8 i d c,yt N q V y5_1 a m E a8=some r/\s=[(4,Y none 0 0),(5,pV o 0),(7,Y i d c),(8,Y n l j),(34,Y B A z),(35,iV (q.length:Int)),(36,iV a8)]/\L=[aK cI 48 (Y i d c) E,aR n l j V,bp B A z q,aj M D H y5_1.XY.XQ,aj K C F y5_1.XY.XP,ab o 103 [iV y5_1.XY.no,iV y5_1.XY.XV,iV y5_1.XY.XU,iV y5_1.XY.XW,Y M D H,Y K C F,pV B1 0,iV y5_1.at_.no,iV y5_1.at_.N,.string y5_1.at_.S],pDWorld B1 B2 e a]) N _ _ ⟨[],0,none,0,0,h,J,J⟩ sA ((ck cI 48 _).trans (cS [0,2,1,4,5,3,7] 8)) ?_;rintro (_|g4) _ _ ⟨E,a8,i,d,c,h,rfl,rfl⟩
  ·exact bO h
  rw [yt.eq_2] at h;refine aa ?_;refine aH ?_;refine gH J h ?_ ?_<;>intro h
  ·refine sY ?_;obtain ⟨a6,f3,f9,g0,h⟩:=aI h;refine bB fun P=> ?_
   obtain ⟨O,e7,e8,e9,h⟩:=aI h;refine dx (t:=[(4,Y none 0 0),(5,pV o 0),(7,Y i d c),(8,Y n l j),(9,iV a8),(10,pV P 0),(34,Y B A z),(35,iV (q.length:Int)),(36,iV a8)]) ?_ cL (ah _);refine fv I 8 [0] [0,1,2,3,7] [41,42,43,44,45,46,47,48] [[],[],[],[],[],[],[4,5],[6]] [aV (Y i d c),
aV (pV o 0),
aV (iV a8),
aV (.agg #[iV a6.no,iV a6.N,.string a6.S]),
aV (Y n l j),
aV (iV a8),
aV (bD (Y n l j) a8.toNat 1 0),
aV (iV O)] [] (ah _) (ft rfl fB) I rfl rfl ?_ ?_ ?_
   ·refine fu J ?_ ?_
    ·exact fC (ay J) J (bj J (ah _))
    exact fz
   ·refine bl J ?_ ?_
    ·exact dj (fZ (u:=iV O) 2 J aw J e9 eo (fun _ _ _ h=>by rw [show _=_ from h];rfl)) J (bj J (ah _))
    refine qR (cH 2 J aw J J Vd size3.out e7 e8) ?_;refine qE (ay J) ?_;refine qE (ay J) ?_;refine qR (db (us:=[iV a6.no,iV a6.N,.string a6.S]) 0 J J agg34.out J) ?_;refine qE (ay J) ?_;refine qE (ay J) ?_;refine qE (ay J) ?_;exact fq
   refine eF (t:=[(41,Y i d c),(42,pV o 0),(43,iV a8),(44,.agg #[iV a6.no,iV a6.N,.string a6.S]),(48,iV O),(4,Y none 0 0),(5,pV o 0),(7,Y i d c),(8,Y n l j),(9,iV a8),(10,pV P 0),(34,Y B A z),(35,iV (q.length:Int)),(36,iV a8)]) (L':=[ab P 34 [iV a6.no,iV a6.N,.string a6.S],aK cI 48 (Y i d c) E,aR n l j V,bp B A z q,aj M D H y5_1.XY.XQ,aj K C F y5_1.XY.XP,ab o 103 [iV y5_1.XY.no,iV y5_1.XY.XV,iV y5_1.XY.XU,iV y5_1.XY.XW,Y M D H,Y K C F,pV B1 0,iV y5_1.at_.no,iV y5_1.at_.N,.string y5_1.at_.S],pDWorld B1 B2 e a]) ?_ cL (ah _);obtain ⟨Z,k,h⟩:=ad h;refine gP 8 J I (oR (HT k)) J J J ?_;rintro _ _ ⟨_,⟨rfl,rfl⟩,rfl⟩;refine gP 9 J I (cB (R:=cI) (vss:=[(dS Z)]) (xs:=[Z]) J (FG _ _ _ _ _ _ _ _ _ _ _ _ _) J J (fun _ _ hr=> .cons J All2.nil)) J J J ?_;rintro _ _ ⟨g5,g6,g7,rfl,rfl⟩;obtain ⟨g1,h⟩:=ai h;refine gP 10 J I (vo 2 0 J J aw J J Va CC J J J g1) J J J ?_;rintro _ _ ⟨g8,g9,h0,rfl,rfl⟩;refine jt 11 J I (dQ J) J J J ?_;refine fw I ?_;refine aa ?_;obtain ⟨h1,h⟩:=ai h;exact lY
  exact jY
 rintro _ _ ⟨U,T,S,Q,h,rfl,rfl⟩;exact eY
def uM (a:VK)(a1:VH):Option VK:=
 (ia N a a1).bind fun c=>dB c (fun y5_0=>some a) (fun y5_1=>(jU N (⟨(⟨y5_1.XY.no,y5_1.XY.XV,eZ .i64 y5_1.XY.XU 1,y5_1.XY.XW,y5_1.XY.XQ,y5_1.XY.XP⟩:VL),a,y5_1.at_⟩:VA) false).bind fun a6=>some a6.w_)
theorem Ir {N:Nat}{a:VK}{a1:VH}{r:VK}(h:uM N a a1=some r){B1 B2 e:Nat}:Okc V5 31 [pV B1 0,(bS a1)] ([oDWorld B1 B2 e a]) (fun u p=>u=.tuple #[]/\p=[oDWorld B1 B2 e r]):=by
 refine av Tryz.func31 ?_;intro f;refine aa ?_;obtain ⟨c,a6,h⟩:=ad h;rcases c with y5_0|y5_1
 ·replace h:=gk h;refine gD (oR (eP a6)) ?_;rintro _ _ ⟨_,⟨rfl,rfl⟩,rfl⟩;refine aa ?_;refine d8 J ?_;exact eY
 replace h:=gj h;refine gD (oR (eP a6)) ?_;rintro _ _ ⟨_,⟨B6,B,i,l,A,d,j,rfl,rfl⟩,rfl⟩;refine aa ?_;refine d9 J ?_;refine aa ?_;refine aJ (I6 J J) ?_;refine qy h (fun _ k=>t8 k) fun a8 z t q o n m h=> ?_
 exact eN
def EO (N:Nat)(a:VH)(c:Int):Option VE:=
 some (⟨51,c,a,(⟨0,0,⟨#[]⟩⟩:VH),(⟨0,0,⟨#[]⟩⟩:VH)⟩:VE)
def JK (a:VH)(a1:Int):Option VE:=
 bif decide (a1.tmod 8<0) then (ae (in64 ((a1.tmod 8)+8)) (EO N a ((a1.tmod 8)+8))) else (EO N a (a1.tmod 8))
theorem RU {N:Nat}{a:VH}{r:VE}(h:JK N a a1=some r):Okc V5 33 [(bS a),iV a1] ([]) (fun u p=>u=(gL r)/\p=[]):=by
 refine av Tryz.func33 ?_;intro B1;refine bB fun B2=> ?_
 refine aJ (iz J J (by decide)) ?_;refine aF (fun s L=> ∃c,EO N a c=some r/\s=[(2,pV B1 0),(4,pV B2 0),(5,iV c)]/\L=[ab B1 29 (ee a),ab B2 36 [iV 0,iV 0,iV 0,iV 0,.string (⟨#[]⟩),iV 0,iV 0,.string (⟨#[]⟩),iV 0,iV 0,.string (⟨#[]⟩)]]) ?_ ?_
 ·refine aG h ?_ ?_<;>intro h
  ·refine aa ?_;obtain ⟨d,h⟩:=ai h;exact jY
  exact jY
 rintro _ _ ⟨c,h,rfl,rfl⟩;exact eY
def eC (N:Nat)(a:VE)(a1:Int):Option Bool:=
 some (!decide (aM .i64 a.Has a1=0))
theorem im {N:Nat}{a:VE}{r:Bool}(h:eC N a a1=some r):Okc V5 181 [(gL a),iV a1] ([]) (fun u p=>u=.bool r/\p=[]):=by
 refine av Tryz.func181 ?_;intro B1;refine aa ?_;refine aJ (fL J J) ?_;exact eN
