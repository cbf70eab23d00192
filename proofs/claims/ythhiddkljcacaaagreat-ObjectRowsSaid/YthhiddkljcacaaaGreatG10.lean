/- Merged texts: part 10. No conditions of their own. -/
import Derived.Test.YthhiddkljcacaaaGreatG9
import Derived.Test.YthhiddkljcacaaaGreatG8
import Derived.KernelRfl
namespace Go.Proofs.YthhiddkljcacaaaGreat
variable (N:Nat){i:Int}{ρ:Int->Int}{l:List (Vy×Int)}{f:List Int}{PL PL':List VN}{M M' j k k' q':Nat}{A:Nat->Int}{P:Nat->List VN}{C:Nat->VL}{α:Type}{t:VC}{d:VE}{v x:VH}{s:VI}{w':VK}{c c':VL}{p:VN}{m:Vw}{g g':Vz}
section
open Go.RowKit
theorem Oi {kv:List (Int×Bool)}(h:kv.map Prod.fst=el m):di kv=el m:=by
 have e:di kv=eQ (kv.map Prod.fst):=rfl;rw [e,h]
 exact LD ((Be m).imp fun a e=>by omega) (Be m) fun x=>Iff.rfl
structure Pl (g:Vz):Prop where
 hb:HB g
 pend:g.Yg=[]
 cells: ∀c∈g.m_.XS++g.m_.XR,bT c=true/\(∀x∈bH c,az g.m_ x=true)/\c.no≠8/\c.no≠10
 roots: ∀x∈cc g.Yb,az g.m_ x=true
 set:di g.Yf.at_=el g.m_
structure Mv (g g':Vz) (ρ:Int->Int) (f:List Int):Prop where
 roots:g'.Yb=g.Yb.map (bd ρ f)
 pend:g'.Yg=[]
 at_: ∀a∈f,az g'.m_ (ρ a)=true/\ ∃age,am g'.m_ (ρ a)=oO (cU ρ f (am g.m_ a)) age
 rin:fA f g.Yb
 has: ∀a∈f,az g.m_ a=true
 cells: ∀c∈g'.m_.XS++g'.m_.XR,(∃a∈f, ∃age,c=oO (cU ρ f (am g.m_ a)) age)/\bT c=true/\ ∀x∈bH c,az g'.m_ x=true
 cnt:g'.m_.XS.length+g'.m_.XR.length<=g.m_.XS.length+g.m_.XR.length
 sum:mS g'.m_.XS+mS g'.m_.XR<=mS g.m_.XS+mS g.m_.XR
 wts:wt g'.m_.XS+wt g'.m_.XR<=wt g.m_.XS+wt g.m_.XR
 w64:W64 g'.m_
 r64: ∀v∈g'.Yb,in64 v.N
 set:g'.Yf.at_.map Prod.fst=el g'.m_
 inj: ∀a∈f, ∀b∈f,ρ a=ρ b->a=b
 cin: ∀a∈f,fA f (am g.m_ a).XQ/\fA f (am g.m_ a).XP
theorem Pl.check {N:Nat}(i:6500<N)(h:Pl g):iw N g.m_ (g.Yb++g.Yg)=0:=by
 unfold iw
 have f:(g.m_.XS++g.m_.XR).all (kr N)=true:=by
  rw [Wi];intro c d;have:=h.hb.small.cells c d;rw [LN W W W];exact (h.cells c d).1
 have e:dr g.m_ ((g.m_.XS++g.m_.XR).flatMap bH++cc (g.Yb++g.Yg))=true:=by
  unfold dr;rw [Wi];intro x a;rcases WY.1 a with a|a
  ·obtain ⟨c,d,a⟩:=List.mem_flatMap.1 a;exact (h.cells c d).2.1 x a
  rw [h.pend,Wj] at a;exact h.roots x a
 rw [f,e];rfl
theorem Pl.may {N:Nat}(f:6500<N)(h:Pl g):lu N g.m_ (g.Yb++g.Yg) (di g.Yf.at_)=true:=by
 rw [h.set,TV,h.pend,Wj];unfold qr sV dr;rw [XM,Wi,Wi];refine ⟨fun x a=>h.roots x a,fun c d=> ?_⟩;have:=h.hb.small.cells c d;have e:=(h.cells c d).2.1;unfold qq;rw [vu N W c W W,(h.cells c d).1];show (true&&_)=true;rw [Wb,XM];unfold dr;rw [Wi,Wi];exact ⟨fun x a=>e x (VU _ a),fun x a=>e x (VV _ a)⟩
theorem Rs (f:∀x∈cc (g.Yb++g.Yg),az g.m_ x=true)(e:∀c∈g.m_.XS++g.m_.XR, ∀x∈bH c,az g.m_ x=true)(d:di g.Yf.at_=el g.m_):Cj g=0:=by
 have j:dr g.m_ (cc (g.Yb++g.Yg))=true:=Wi.2 f
 have i:((g.m_.XS++g.m_.XR).all fun c=>dr g.m_ (bH c))=true:=Wi.2 fun c a=>Wi.2 (e c a)
 unfold Cj;rw [j,i,d,Nm];rfl
theorem Pl.ok (h:Pl g){N:Nat}(e:6500<N):ri N g=some 0:=by
 rw [aaP e h.hb,Rs (fun x a=> ?_) (fun c d=>(h.cells c d).2.1) h.set];rw [h.pend,Wj] at a;exact h.roots x a
theorem U3 {N:Nat}(t:6500<N)(h:Pl g): ∃g' ρ f,mJ N g=some (0,g')/\Mv g g' ρ f:=by
 have hcnt:=h.hb.wtd.cnt;rcases abO t h.hb with ⟨hm, -⟩|⟨met,kv,c,k2,e⟩
 ·rw [h.may t] at hm;cases hm
 have ef:bd (cA g.m_ met) met=bd (cA g.m_ met) (bh g.m_ met):=funext fun v=>(FK v).symm
 have l:fA (bh g.m_ met) g.Yb:=Kt c.rootIn
 have j: ∀a∈bh g.m_ met,(am g.m_ a).no≠8/\(am g.m_ a).no≠10:=fun a i=>(h.cells _ (iY (c.f1has i))).2.2
 have o:lj g.m_ met=[]:=by
  unfold lj;rw [List.flatMap_eq_nil_iff];exact fun a i=>BE (j a i).2
 have z:g.Yg.map (bd (cA g.m_ met) met)++(lj g.m_ met).map (bd (cA g.m_ met) met)=[]:=by rw [o,h.pend];rfl
 rw [z] at e
 have q: ∀a∈bh g.m_ met, ∃age,gM N g.m_ met a=oO (cU (cA g.m_ met) (bh g.m_ met) (am g.m_ a)) age:=fun a i=>⟨_,by
  unfold gM;rw [c.nCE a,sW (j a i).1 (j a i).2]⟩
 have A:=c.mid4;rw [o,WS] at A;refine ⟨_,cA g.m_ met,bh g.m_ met,e,⟨by rw [<-ef],rfl,fun a i=> ?_,l,fun a i=>c.f1has i,fun d p=> ?_,c.midCnt,by show mS (dO N g.m_ met).XS+mS (dO N g.m_ met).XR<=_;omega,c.midWt,c.midW,fun v u=> ?_,k2,fun a i b hb=>c.ren.inj a b i hb,fun a i=> ?_⟩⟩
 ·obtain ⟨n,m⟩:=c.at_ i;obtain ⟨age,B⟩:=q a i;exact ⟨n,age,m.trans B⟩
 ·obtain ⟨a,i,rfl⟩:=c.midMem p;obtain ⟨n,m⟩:=c.midAddr p;exact ⟨⟨a,i,q a i⟩,n,m⟩
 ·have hv':v∈g.Yb.map (bd (cA g.m_ met) met):=u;rw [ef] at hv';exact c.now64 v (by rw [WV];exact VU _ hv')
 have:=(c.cell i).inC;rw [sW (j a i).1 (j a i).2] at this;exact this
theorem U8 {N:Nat}(o:6500<N)(h:Pl g): ∃g' ρ f,mH N g=some (0,g')/\Mv g g' ρ f:=by
 rcases abz o h.hb with ⟨hm, -⟩|⟨live,f,kv,c,k2,e⟩
 ·exact absurd (h.check o) hm
 have l:fA f g.Yb:=Kt c.rootIn
 have j: ∀a∈f,(am g.m_ a).no≠8/\(am g.m_ a).no≠10:=fun a i=>(h.cells _ (iY (c.lv.fhas i))).2.2
 have m:kw g.m_ live f=[]:=by
  unfold kw;rw [List.flatMap_eq_nil_iff];exact fun a i=>BE (j a i).2
 have t:g.Yg.map (bd (cw f) f)++(kw g.m_ live f).map (bd (cw f) f)=[]:=by rw [m,h.pend];rfl
 rw [t] at e;have A:=c.next4;have q:=c.nextTot;have u:=c.nextCnt;rw [m,WS] at A;rw [m,List.map_nil,Wj,XK] at q;have h0n:(dE N g.m_ live f).XS.length=0:=rfl
 have n: ∀a∈f,cU (cw f) f (bJ N live (am g.m_ a))=oO (cU (cw f) f (am g.m_ a)) (am g.m_ a).XW:=fun a i=>by
  rw [sW (j a i).1 (j a i).2];rfl
 refine ⟨_,cw f,f,e,⟨J,J,fun a i=> ?_,l,fun a i=>c.lv.fhas i,fun d z=> ?_,by show (dE N g.m_ live f).XS.length+(dE N g.m_ live f).XR.length<=_;omega,by show mS (dE N g.m_ live f).XS+mS (dE N g.m_ live f).XR<=_;omega,by show wt (dE N g.m_ live f).XS+wt (dE N g.m_ live f).XR<=_;omega,c.nextW,fun v p=> ?_,k2,fun _ i _ hb=>Nn i hb,fun a i=> ?_⟩⟩
 ·exact ⟨LB i,_,(aa6 i).trans (n a i)⟩
 ·have hd':d∈f.map fun a=>cU (cw f) f (bJ N live (am g.m_ a)):=z
  obtain ⟨C,B⟩:=c.nextAddr hd';obtain ⟨a,i,rfl⟩:=W3.1 hd';exact ⟨⟨a,i,_,n a i⟩,C,B⟩
 ·exact c.now64 v (by rw [WV];exact VU _ p)
 have:=(c.cell i).inC;rw [sW (j a i).1 (j a i).2] at this;exact this
theorem Mv.pl (m:Mv g g' ρ f)(h:Pl g):Pl g':=by
 obtain ⟨q,n2⟩:=Lz m.set;have p:=h.hb.small;have hw:=h.hb.wtd
 have E:g'.Yb.length=g.Yb.length:=by rw [m.roots,XK]
 have j:=p.roots;have n:=hw.le;have B:=h.hb.four;have A:=h.hb.tot;have z:=hw.cnt;have d:=m.cnt;have u:=m.wts;have hsum:=m.sum;rw [Cd] at A;rw [h.pend,Wj] at j n B
 have i: ∀c∈g'.m_.XS++g'.m_.XR,c.XQ.length<=600/\c.XP.length<=2900:=fun c d=>by
  obtain ⟨⟨a,e,age,rfl⟩, -⟩:=m.cells c d;have:=p.cells _ (iY (m.has a e));show ((am g.m_ a).XQ.map _).length<=600/\((am g.m_ a).XP.map _).length<=2900;rw [XK,XK];exact this
 have l: ∀c∈g'.m_.XS++g'.m_.XR,c.no≠8/\c.no≠10:=fun c d=>by
  obtain ⟨⟨a,e,age,rfl⟩, -⟩:=m.cells c d;exact (h.cells _ (iY (m.has a e))).2.2
 refine ⟨⟨⟨by omega,by omega,?_,i,l⟩,⟨?_,by omega⟩,?_,?_,m.w64,?_,q,n2⟩,m.pend,fun c d=> ?_,fun x t=> ?_,Oi m.set⟩
 ·rw [m.pend,Wj];omega
 ·rw [m.pend,Wj];omega
 ·rw [Cd];omega
 ·rw [m.pend,Wj];omega
 ·rw [m.pend,Wj];exact m.r64
 ·obtain ⟨⟨a,e,age,rfl⟩,D,C⟩:=m.cells c d;exact ⟨D,C,(h.cells _ (iY (m.has a e))).2.2⟩
 obtain ⟨v,o,hb,rfl⟩:=sj.1 t;rw [m.roots] at o;obtain ⟨w,hw,rfl⟩:=W3.1 o;rw [Ga] at hb;rw [jF hb (m.rin w hw hb)];exact (m.at_ _ (m.rin w hw hb)).1
def G9 (S:List Int)(c:VL):List VH:=bif decide (c.no=8) then ga (fun x=>decide (x∈S)) c.XP else c.XP
structure IsoC (ρ:Int->Int) (S:List Int) (c d:VL):Prop where
 kind:d.no=c.no
 shape:d.XV=c.XV
 flags:d.XU=c.XU
 slots:d.XQ=c.XQ.map (bd ρ S)
 more:G9 (S.map ρ) d=(G9 S c).map (bd ρ S)
 inS:fA S c.XQ
 inM:fA S (G9 S c)
structure TVal (m:Vw) (R:List VH):Prop where
 right: ∀c∈m.XS++m.XR,bT c=true
 kind: ∀c∈m.XS++m.XR,c.no=8\/c.no=11
 addr: ∀c∈m.XS++m.XR, ∀x∈bH c,az m x=true
 size: ∀c∈m.XS++m.XR,c.XQ.length<=20/\c.XP.length<=20
 roots: ∀v∈R,v=jm\/(v.no=9/\v.S=⟨#[]⟩/\az m v.N=true)
structure Iso (mA mB:Vw) (RA RB:List VH) (S:List Int) (ρ:Int->Int):Prop where
 ren:Ren ρ S
 inA: ∀a∈S,az mA a=true
 inB: ∀a∈S,az mB (ρ a)=true
 cell: ∀a∈S,IsoC ρ S (am mA a) (am mB (ρ a))
 rootIn:fA S RA
 roots:RB=RA.map (bd ρ S)
section
variable {R:List VH}(h:TVal m R)
include h
end
section
variable {mA mB:Vw}{RA RB:List VH}{S:List Int}(h:Iso mA mB RA RB S ρ)(vA:TVal mA RA)(vB:TVal mB RB)
include h vA vB
end
end
section
open Go.RowKit
def ik (m:Vw)(a:Int)(c:VL):Vw:=bif decide (a%2=1) then ⟨m.XS.set (a / 2).toNat c,m.XR⟩ else ⟨m.XS,m.XR.set (a / 2 - 1).toNat c⟩
theorem NS {a:Int}(c:VL)(h:az m a=true):(∀x,az (ik m a c) x=az m x)/\(∀x,az m x=true->am (ik m a c) x=if x=a then c else am m x)/\(ik m a c).XS.length=m.XS.length/\(ik m a c).XR.length=m.XR.length/\(∀d∈(ik m a c).XS++(ik m a c).XR,d∈m.XS++m.XR\/d=c)/\mS (ik m a c).XS+mS (ik m a c).XR<=mS m.XS+mS m.XR+c.XP.length:=by
 have hhas: ∀m':Vw,m'.XS.length=m.XS.length->m'.XR.length=m.XR.length-> ∀x,az m' x=az m x:=fun m' q p x=>by
  rw [Bool.eq_iff_iff];constructor
  ·intro n;rcases ip n with ⟨i,hi,rfl⟩|⟨i,hi,rfl⟩
   ·rw [qo];exact VQ W
   rw [ko];exact VQ W
  intro n;rcases ip n with ⟨i,hi,rfl⟩|⟨i,hi,rfl⟩
  ·rw [qo];exact VQ W
  rw [ko];exact VQ W
 rcases ip h with ⟨j,o,rfl⟩|⟨j,o,rfl⟩
 ·have e:ik m (2*(j:Int)+1) c=⟨m.XS.set j c,m.XR⟩:=by
   unfold ik;rw [VQ W,cond_true,show ((2*(j:Int)+1) / 2).toNat=j by omega]
  rw [e];refine ⟨hhas _ (WT ..) J,fun x n=> ?_,WT ..,J,fun d f=> ?_,?_⟩
  ·rcases ip n with ⟨i,hi,rfl⟩|⟨i,hi,rfl⟩
   ·rw [jJ ⟨m.XS.set j c,m.XR⟩ i (by simpa using hi),jJ m i hi];simp only [List.getElem_set];by_cases l:j=i
    ·rw [if_pos l,if_pos W]
    rw [if_neg l,if_neg W]
   rw [gN ⟨m.XS.set j c,m.XR⟩ i hi,gN m i hi,if_neg W]
  ·rcases WY.1 f with f|f
   ·rcases W6 f with f|f
    ·exact .inl (VU _ f)
    exact .inr f
   exact .inl (VV _ f)
  have:=FM (fun c:VL=>c.XP.length) c m.XS j;unfold mS;simp only at this⊢;omega
 have e:ik m (2*(j:Int)+2) c=⟨m.XS,m.XR.set j c⟩:=by
  unfold ik;rw [VR W,cond_false,show ((2*(j:Int)+2) / 2 - 1).toNat=j by omega]
 rw [e];refine ⟨hhas _ J (WT ..),fun x n=> ?_,J,WT ..,fun d f=> ?_,?_⟩
 ·rcases ip n with ⟨i,hi,rfl⟩|⟨i,hi,rfl⟩
  ·rw [jJ ⟨m.XS,m.XR.set j c⟩ i hi,jJ m i hi,if_neg W]
  rw [gN ⟨m.XS,m.XR.set j c⟩ i (by simpa using hi),gN m i hi];simp only [List.getElem_set];by_cases l:j=i
  ·rw [if_pos l,if_pos W]
  rw [if_neg l,if_neg W]
 ·rcases WY.1 f with f|f
  ·exact .inl (VU _ f)
  rcases W6 f with f|f
  ·exact .inl (VV _ f)
  exact .inr f
 have:=FM (fun c:VL=>c.XP.length) c m.XR j;unfold mS;simp only at this⊢;omega
theorem vP (g:Vz)(a:Int)(c:VL):(cl g a c).m_=ik g.m_ a (ju c (am g.m_ a).XW)/\(cl g a c).Yb=g.Yb/\(cl g a c).Yg=g.Yg/\(cl g a c).Yf.at_=bif decide (a%2=1) then g.Yf.at_ else nj g.Yf.at_ a c:=by
 unfold cl ik;cases decide (a%2=1)<;>exact ⟨rfl,rfl,rfl,rfl⟩
theorem Su (h:bT c=true){a:Int}(m:0<=a)(l:a<=1):bT (ju c a)=true:=by
 unfold bT at h⊢;simp only [XM,Bool.not_eq_true',XD] at h⊢;obtain ⟨⟨⟨⟨⟨⟨⟨j,i⟩,f⟩,e⟩,d⟩, -⟩, -⟩,h⟩:=h;exact ⟨⟨⟨⟨⟨⟨⟨j,i⟩,f⟩,e⟩,d⟩,by show¬a<0;omega⟩,by show¬1<a;omega⟩,h⟩
theorem Tz (h:bT c=true):0<=c.XW/\c.XW<=1:=by
 unfold bT at h;simp only [XM,Bool.not_eq_true',XD] at h;omega
theorem adf {N:Nat}(n:6500<N)(d:Small g.m_ (g.Yb++g.Yg)){a:Int}(e:az g.m_ a=true)(u:c.XQ.length<=600/\c.XP.length<=2900):
  uE N g a c=some (bif !bT c then (51,g) else (0,cl g a c)):=by
 have q:=d.young;have t:=d.old;unfold uE fJ;rw [bs,cf,Cm N g (lZ d e),bs,Jm n W,bs,e]
 cases bT c with
 |false=>rfl
 | true=>
  rw [nt,cf,cf];unfold rj;rcases ip e with ⟨i,hi,rfl⟩|⟨i,hi,rfl⟩
  ·have m:(2*(i:Int)+1).tmod 2=1:=by rw [ku W];omega
   have l:(2*(i:Int)+1).tdiv 2=i:=by rw [We W];omega
   have j:(2*(i:Int)+1) / 2=i:=by omega
   have f:(2*(i:Int)+1)%2=1:=by omega
   unfold cl;rw [m,l,j,f,VQ (p:=(1:Int)=1) rfl,VR (p:=(1:Int)=0) W,ct,ct,r64 W W,bz hi,bs,bs];dsimp only [dB];rw [bz hi,bs,sv N c W,bs,cf,jJ g.m_ i hi];unfold yp;rw [List.set_set];rfl
  have m:(2*(i:Int)+2).tmod 2=0:=by rw [ku W];omega
  have l:(2*(i:Int)+2).tdiv 2=(i:Int)+1:=by rw [We W];omega
  have j:(2*(i:Int)+2) / 2 - 1=i:=by omega
  have f:(2*(i:Int)+2)%2=0:=by omega
  have o:(i:Int)+1 - 1=i:=by omega
  obtain ⟨b,hb⟩:=TX n (c:=c) W g.Yf.at_ i;have hb':lE N g.Yf (2*(i:Int)+2) c=some (b,⟨nj g.Yf.at_ (2*(i:Int)+2) c⟩):=hb;unfold cl;rw [hb',m,l,j,f,o,VR (p:=(0:Int)=1) W,VQ (p:=(0:Int)=0) rfl,cf,cf,r64 W W,r64 W W,bz hi,bs,bs];dsimp only [dB];rw [bz hi,bs,sv N c W,bs,ct,bs,gN g.m_ i hi];unfold yr;rw [List.set_set];rfl
theorem SR (C:di g.Yf.at_=el g.m_)(q:(g.Yf.at_.map Prod.fst).Nodup){a:Int}(A:az g.m_ a=true)(c:VL)(nd:((cl g a c).Yf.at_.map Prod.fst).Nodup):di (cl g a c).Yf.at_=el (cl g a c).m_:=by
 obtain ⟨z, -, -,f4⟩:=vP g a c;obtain ⟨E,s2,D,B, -, -⟩:=NS (ju c (am g.m_ a).XW) A;have e:di (cl g a c).Yf.at_=eQ ((cl g a c).Yf.at_.map Prod.fst):=rfl;rw [e];refine LD nd (Be _) fun x=> ?_
 have n: ∀x,x∈g.Yf.at_.map Prod.fst↔x∈el g.m_:=fun x=>by rw [<-C];exact (qa _ x).symm
 have hold: ∀i,i<g.m_.XR.length->fE (cl g a c).m_ i=if 2*(i:Int)+2=a then (bH c).any yB else fE g.m_ i:=fun i hi=>by
  unfold fE;rw [z,s2 _ (by rw [ko];exact VQ hi)];split<;>rfl
 rw [su,z,B,f4, <-z];rcases ip A with ⟨j,t,rfl⟩|⟨j,t,rfl⟩
 ·rw [VQ W,cond_true,n,su];refine ⟨fun ⟨i,m,o,u⟩=>⟨i,m,by rw [hold i m,if_neg W];exact o,u⟩,fun ⟨i,m,o,u⟩=>⟨i,m,by rw [hold i m,if_neg W] at o;exact o,u⟩⟩
 rw [VR W,cond_false,Kj q,n,su];constructor
 ·rintro (⟨m,⟨i,f,d,rfl⟩|rfl⟩|⟨m,⟨i,f,d,rfl⟩,p⟩)
  ·refine ⟨i,f,?_,J⟩;rw [hold i f];split
   ·exact m
   exact d
  ·exact ⟨j,t,by rw [hold j t,if_pos rfl];exact m,rfl⟩
  exact ⟨i,f,by rw [hold i f,if_neg p];exact d,rfl⟩
 rintro ⟨i,f,d,rfl⟩;rw [hold i f] at d;by_cases l:2*(i:Int)+2=2*(j:Int)+2
 ·rw [if_pos l] at d;exact .inl ⟨d,.inr l⟩
 rw [if_neg l] at d
 cases hb:(bH c).any yB with
 |true=>exact .inl ⟨rfl,.inl ⟨i,f,d,rfl⟩⟩
 |false=>exact .inr ⟨rfl,⟨i,f,d,rfl⟩,l⟩
theorem Ny (c:VL):(∀x,az m x=true->az ⟨m.XS++ [c],m.XR⟩ x=true/\am ⟨m.XS++ [c],m.XR⟩ x=am m x)/\az ⟨m.XS++ [c],m.XR⟩ (2*(m.XS.length:Int)+1)=true/\am ⟨m.XS++ [c],m.XR⟩ (2*(m.XS.length:Int)+1)=c:=by
 refine ⟨fun x d=> ?_,?_,?_⟩
 ·rcases ip d with ⟨i,hi,rfl⟩|⟨i,hi,rfl⟩
  ·have a:i<(m.XS++ [c]).length:=by simp;omega
   exact ⟨by rw [qo];exact VQ a,by rw [jJ ⟨m.XS++ [c],m.XR⟩ i a,jJ m i hi];exact List.getElem_append_left hi⟩
  exact ⟨by rw [ko];exact VQ hi,by rw [gN ⟨m.XS++ [c],m.XR⟩ i hi,gN m i hi]⟩
 ·rw [qo];exact VQ (by simp)
 rw [jJ ⟨m.XS++ [c],m.XR⟩ m.XS.length (by simp)];simp
theorem UU (c:VL):el ⟨m.XS++ [c],m.XR⟩=el m:=by
 unfold el;show List.map _ ((List.range m.XR.length).filter _)=_
 congr 1
 refine List.filter_congr fun i hi=> ?_
 unfold fE;rw [((Ny c).1 (2*(i:Int)+2) (by rw [ko];exact VQ (W7.1 hi))).2]
theorem G5 {N:Nat}(m:∀c∈g.m_.XS++g.m_.XR,c.XQ.length<=600/\c.XP.length<=2900){a:Int}(l:in64 a)(d:az g.m_ a=true):uJ N g a=some (am g.m_ a,true):=by
 unfold uJ;rw [Cm N g l,bs,d];have j:=m _ (iY d);have hi64:in64 a:=l;unfold rj;rcases ip d with ⟨i,hi,rfl⟩|⟨i,hi,rfl⟩
 ·have f:(2*(i:Int)+1).tmod 2=1:=by rw [ku W];omega
  have e:(2*(i:Int)+1).tdiv 2=i:=by rw [We W];omega
  rw [jJ g.m_ i hi] at j⊢;unfold in64 at hi64;rw [nt,cf,f,e,VQ (p:=(1:Int)=1) rfl,ct,r64 W W,bz hi,bs,bs];dsimp only [dB];rw [bz hi,bs,sv N _ W,bs]
 have f:(2*(i:Int)+2).tmod 2=0:=by rw [ku W];omega
 have e:(2*(i:Int)+2).tdiv 2=(i:Int)+1:=by rw [We W];omega
 have n:(i:Int)+1 - 1=i:=by omega
 rw [gN g.m_ i hi] at j⊢;unfold in64 at hi64;rw [nt,cf,f,e,n,VR (p:=(0:Int)=1) W,cf,r64 W W,r64 W W,bz hi,bs,bs];dsimp only [dB];rw [bz hi,bs,sv N _ W,bs]
theorem FB {N:Nat}{w:VK}(d:∀c∈w.XX.m_.XS++w.XX.m_.XR,c.XQ.length<=600/\c.XP.length<=2900)(a:aZ v=true)(i:in64 v.N)(f:az w.XX.m_ v.N=true):gZ N w v=some (am w.XX.m_ v.N):=by
 have e:nS N v=some (aZ v):=by
  unfold nS aZ;cases decide (v.no=7)<;>rfl
 unfold gZ;rw [e,bs,a,nt,cf,G5 d i f,bs];rfl
theorem Gg (N:Nat)(h:g.Yb[j]? =some v):jx N g (j:Int)=some v:=by
 obtain ⟨a,e⟩:=WH.1 h;rw [TH];unfold ta;rw [VQ (p:=(0:Int)<=(j:Int)) W,VQ (p:=(j:Int)<(g.Yb.length:Int)) W,Wg,List.getD_eq_getElem?_getD,h];rfl
theorem LA (N:Nat)(g:Vz):nL N g (g.Yb.length:Int)=some g:=by
 unfold nL fJ;rw [bs,nf,ct,VR (p:=max (g.Yb.length:Int) 0<(g.Yb.length:Int)) W,bs,cf]
def lw (w:VK)(g:Vz):VK:=⟨w.Yj,w.Ye,(),g,w.Ya,w.Yk,w.Yh,w.Yr,w.Ys,w.Yl,w.Ym⟩
theorem Kv (N:Nat){w:VK}(h:w.XX.Yb.length<=600):mE N w=some (w.XX.Yb.length:Int):=by
 unfold mE;rw [RW N _ h,bs]
theorem Lv (N:Nat)(a:Int)(w:VK): ∃b,t6 N a w=some b:=by
 unfold t6;by_cases h:0<a
 ·rw [bG h,ct,ce W,bs];exact ⟨_,J⟩
 rw [bI W,cf,bs];exact ⟨_,J⟩
theorem dz {ρ σ:Type}{b:Bool}{x y:Option σ}{f:σ->Option ρ}{P:σ->Prop}{R:ρ->Prop}(c:b=true->Sat x P)(a:b=false->Sat y P)(k:∀z,P z->Sat (f z) R):Sat ((bif b then x else y).bind f) R:=Sat.bind (gn c a) k
def G8 (k:Vy):Prop:=k.no=0->0<=k.N/\k.N<=4294967294
def gT (a:Int):Prop:=0<=a/\a<=15/\aM .i64 a 9≠9
theorem aah (N:Nat)(a:Int):Sat (r8 N a) fun b=>b=true->gT a:=by
 unfold r8;refine Sat.bind (P:=fun b=>b=true->0<=a/\a<=15) (bq (fun h=>ar fun d=>⟨h,XG d⟩) fun h=>ar fun h=>by cases h) fun b hb=> ?_
 refine dz (P:=fun c=>c=true->gT a) (fun e=>ar fun h=>⟨(hb e).1,(hb e).2,fun d=> ?_⟩) (fun _=>ar fun h=>by cases h) fun c f=>ar f
 rw [VQ d] at h;cases h
theorem vY {b:ByteArray}(c:0<=i)(d:i<(b.size:Int)):Sat (lr b i) fun x=>0<=x/\x<=255:=by
 have a:i.toNat<b.size:=by omega
 unfold lr;rw [if_pos c,getElem?_pos b i.toNat a];exact ⟨((b[i.toNat]).toNat:Int),J,by omega,by have:=(b[i.toNat]).toNat_lt;omega⟩
theorem acW (x:Int):0<=IntKind.u8.wrap x/\IntKind.u8.wrap x<=255:=by
 have:IntKind.u8.wrap x=x%256:=by rfl
 omega
theorem Kb (N:Nat)(s:ByteArray)(f:s.size<=10): ∀(m i:Nat) (p:Int),s.size<m+i->i<=s.size->0<=p->p+29<=29*(10:Int) ^ i->Sat (rS N s m p (i:Int)) fun _=>True
 |0,i,p,h,l,_,_=>by omega
 | m+1,i,p,h,l,t,q=>by
  rw [rS.eq_2]
  have e:(10:Int) ^ i<=10 ^ 10:=by
   have:(10:Nat) ^ i<=10 ^ 10:=Nat.pow_le_pow_right W W
   exact_mod_cast this
  rw [show (10:Int) ^ 10=10000000000 from rfl] at e;refine bq (fun a=> ?_) fun a=> ?_
  ·refine (vY W a).bind fun x o=> ?_
   refine dz (P:=fun _=>True) (fun _=>ar trivial) (fun _=>(vY W a).bind fun y _=>ar trivial) fun c _=> ?_
   refine gn (fun _=>ar trivial) fun _=> ?_
   refine bf (by constructor<;>omega) ((vY W a).bind fun y n=> ?_);have j:=acW (y - 48);rw [show IntKind.i64.wrap (IntKind.u8.wrap (y - 48))=IntKind.u8.wrap (y - 48) from IntWalk.i64_in _ ⟨by omega,by omega⟩];generalize IntKind.u8.wrap (y - 48)=d at j;refine bf (by constructor<;>omega) (bf (by constructor<;>omega) ?_);exact Kb N s f m (i+1) _ W W W (by rw [Int.pow_succ];omega)
  unfold zN;exact bq (fun _=>ar trivial) fun _=>ar trivial
theorem LM (N:Nat)(f:5000<=N)(s:ByteArray):Sat (rW N s) fun _=>True:=by
 unfold rW;by_cases a:s.size<=10
 ·cases e:(s.toList==(⟨#[]⟩:ByteArray).toList) with
  |true=>exact ar trivial
  | false=>
   have c:0<s.size:=by
    rcases Xk s.size with h|h
    ·exfalso
     have:s=⟨#[]⟩:=by
      obtain ⟨d⟩:=s;have:d= #[]:=Array.eq_empty_of_size_eq_zero h;rw [this]
     rw [this] at e;rw [beq_self_eq_true] at e;cases e
    exact h
   show Sat (Option.bind (some (decide (10<(s.size:Int)))) _) _;rw [bs,VR W];show Sat (Option.bind ((lr s 0).bind _) _) _
   refine Sat.bind (P:=fun _=>True) ((vY W W).bind fun x _=>dz (P:=fun _=>True) (fun _=>ar trivial) (fun _=>ar trivial) fun _ _=>ar trivial) fun b _=> ?_
   exact gn (fun _=>ar trivial) fun _=>Kb N s a N 0 0 W W W (by decide)
 have:(bif s.toList==(⟨#[]⟩:ByteArray).toList then (some true) else (some (decide (10<(s.size:Int)))))=some true:=by
  cases s.toList==(⟨#[]⟩:ByteArray).toList with
  |true=>rfl
  |false=>show some _=_;rw [VQ W]
 rw [this];exact ar trivial
theorem Fj (N:Nat)(d:5000<=N)(k:Vy):Sat (fW N k) fun b=>b=true->G8 k:=by
 unfold fW;refine bq (fun h=> ?_) fun h=> ?_
 ·refine dz (P:=fun b=>b=true->0<=k.N) (fun _=>ar fun h=>XG h) (fun _=>ar fun h=>by cases h) fun b hb=> ?_
  refine dz (P:=fun c=>c=true->G8 k) (fun e=>ar fun h _=>⟨hb e,XG h⟩) (fun _=>ar fun h=>by cases h) fun c a=>ar a
 refine Sat.mono (R:=fun _=>True) ?_ fun _ _ _ f=>absurd f h
 refine bq (fun _=> ?_) fun _=> ?_
 ·refine (LM N d k.S).bind fun y _=> ?_
  refine dz (P:=fun _=>True) (fun _=>ar trivial) (fun _=>ar trivial) fun b _=> ?_
  exact dz (P:=fun _=>True) (fun _=>ar trivial) (fun _=>ar trivial) fun b _=>ar trivial
 refine bq (fun _=> ?_) fun _=>ar trivial
 exact dz (P:=fun _=>True) (fun _=>ar trivial) (fun _=>ar trivial) fun b _=>ar trivial
theorem abZ (N:Nat){a:Int}(h:gT a):r8 N a=some true:=by
 unfold r8;rw [VQ h.1,ct,bs,VQ h.2.1,ct,VR h.2.2];rfl
def keyR (k:Vy):Prop:=fW N k=some true
theorem keyR.b {N:Nat}(c:5000<=N){k:Vy}(h:keyR N k):G8 k:=by
 obtain ⟨b,a,d⟩:=Fj N c k;rw [h] at a;cases a;exact d J
def qC (x:Vy×Int):Prop:=keyR N x.1/\gT x.2
def ka (s:VI):Vy×Int:=(s.XZ,s.XT)
def Has (t:VC)(i:Int)(s:VI):Prop:=0<=i/\t.Ya[i.toNat]? =some s
theorem Has.lt (h:Has t i s):0<=i/\i<t.Ya.length:=by
 have:=(WH.1 h.2).1;exact ⟨h.1,by have:=h.1;omega⟩
theorem Has.get (h:Has t i s):ak t.Ya i=some s:=by
 unfold ak;rw [if_neg (by have:=h.1;omega)];exact h.2
theorem Has.one {a:VI}(h:Has t i s)(c:Has t i a):s=a:=Xx (h.2.symm.trans c.2)
structure TU (t:VC):Prop where
 nx: ∀i s,Has t i s->0<s.Yo->lk t.Yn (⟨s.Up,s.XZ,s.XT⟩:VD)=some i
 root: ∀i s,Has t i s->s.Yo=0->i=0
structure Le (t t':VC):Prop where
 sub: ∀i s,Has t i s->Has t' i s
 tu:TU t->TU t'
theorem Le.refl (t:VC):Le t t:=⟨fun _ _ h=>h,fun h=>h⟩
structure TI (N:Nat) (t:VC):Prop where
 sh: ∀i s,Has t i s->0<=s.Yo/\s.Yo<=1024/\(0<s.Yo->qC N (ka s)/\ ∃u,Has t s.Up u/\u.Yo=s.Yo - 1)
 nx: ∀k j,lk t.Yn k=some j-> ∃a b,Has t k.YG a/\Has t j b/\b.Yo=a.Yo+1/\b.Up=k.YG/\b.XZ=k.YF/\b.XT=k.YH
inductive Row (t:VC):Int->List (Vy×Int)->Prop
 |nil {i:Int} {s:VI}:Has t i s->s.Yo=0->Row t i []
 |snoc {i:Int} {s:VI} {l:List (Vy×Int)}:Has t i s->0<s.Yo->Row t s.Up l->Row t i (l++ [ka s])
theorem Row.mono {t':VC}(h:Le t t')(r:Row t i l):Row t' i l:=by
 induction r with
 |nil c a=>exact .nil (h.sub _ _ c) a
 |snoc c a _ d=>exact .snoc (h.sub _ _ c) a d
theorem Row.has {N:Nat}(ti:TI N t)(r:Row t i l): ∃s,Has t i s/\s.Yo=l.length:=by
 induction r with
 |nil a c=>exact ⟨_,a,c⟩
 |snoc a c _ e=>
  obtain ⟨u,d,j⟩:=e;obtain ⟨-, -,f⟩:=ti.sh _ _ a;obtain ⟨-,m,b1,b2⟩:=f c;have:=d.one b1;subst this;exact ⟨_,a,by rw [XI,WU];omega⟩
theorem Row.le {N:Nat}(ti:TI N t)(r:Row t i l):l.length<=1024:=by
 obtain ⟨s,a,s2⟩:=r.has ti;have:=(ti.sh _ _ a).2.1;omega
theorem Row.ok {N:Nat}(ti:TI N t)(r:Row t i l): ∀x∈l,qC N x:=by
 induction r with
 |nil d c=>simp
 |snoc d c _ e=>
  intro x a;rcases WY.1 a with a|a
  ·exact e x a
  rw [W8] at a;subst a;exact ((ti.sh _ _ d).2.2 c).1
theorem acz (N:Nat)(t:VC)(i:Int):pv N t i=some (decide (0<=i)&&decide (i<(t.Ya.length:Int))):=by
 unfold pv;cases decide (0<=i)<;>rfl
theorem Has.has (N:Nat)(h:Has t i s):pv N t i=some true:=by
 rw [acz,VQ h.lt.1,VQ h.lt.2];rfl
theorem acQ (N:Nat)(h:Has t i s):yu N t i=some (s,true):=by
 unfold yu;rw [h.has N,bs,nt,cf,h.get,bs]
theorem GK (N:Nat)(h:Has t i s):pp N t i=some s.Yo:=by
 unfold pp;rw [acQ N h,bs]
theorem LW (N:Nat)(ti:TI N t)(lf:List (Vy×Int))(i:lf.length<=1024): ∀(m:Nat) (a8:Int) (a6:List VI) (a rest:List (Vy×Int)),a.length<m->lf=a++rest->a6.length=lf.length->Row t a8 a->
  (a6.drop a.length).map ka=rest->Sat (xU N t m a8 a6 ((a.length:Int) - 1)) fun l=>l.map ka=lf
 |0,_,_,a,_,h,_,_,_,_=>by omega
 | m+1,a8,a6,a,rest,h,d,p,o,c=>by
  rw [xU.eq_2]
  cases o with
  |nil f n=>
   rw [VR (by rw [WS];omega),cf];exact ar (by rw [d, <-c];rfl)
  | @snoc _ s l f n j=>
   have q:((((l++ [ka s]).length:Nat):Int) - 1)=(l.length:Int):=by rw [XI,WU];omega
   have u:lf.length=l.length+1+rest.length:=by rw [d,XI,XI,WU]
   rw [q,VQ W,ct,f.get,bs];refine kP W W fun A _=> ?_
   refine kP W (by rw [WT];omega) fun z e=> ?_
   rw [Wg,WK W] at e;cases e;refine bf (by constructor<;>omega) ?_;refine LW N ti lf i m _ _ l (ka s::rest) (by rw [XI,WU] at h;omega) (by rw [d,VT];rfl) (by rw [WT];exact p) j ?_;rw [Wg,List.drop_set,if_neg W,Xr,Wn (show l.length<a6.length by omega)];rw [XI,WU] at c;rw [List.set_cons_zero,WW,c]
theorem Cb (N:Nat)(c:5000<=N)(ti:TI N t)(h:Row t i l):Sat (px N t i) fun r=>r.map ka=l:=by
 obtain ⟨s,a,s2⟩:=h.has ti;have:=h.le ti;unfold px;rw [GK N a,bs,s2];refine bf (by constructor<;>omega) (bf (by rw [List.length_replicate];constructor<;>omega) ?_);rw [List.length_replicate,Wg];refine LW N ti l this N i _ l [] W (by simp) (by simp) h (by simp)
theorem Ko (N:Nat)(y:List VI)(e:y.length<=1024): ∀(m i:Nat) (p:List Vy),y.length<m+i->i<=y.length->p=(y.take i).map (·.XZ)->Sat (xK N y m p (i:Int)) fun l=>l=y.map (·.XZ)
 |0,i,p,h,f,_=>by omega
 | m+1,i,p,h,f,a=>by
  rw [xK.eq_2]
  have j:p.length<=i:=by rw [a,XK,XJ];omega
  refine bq (fun d=> ?_) fun d=> ?_
  ·refine kP W d fun x c=> ?_
   refine bf (by unfold bC;rw [WU];omega) (bf (by constructor<;>omega) ?_);refine Ko N y e m (i+1) _ W W ?_;rw [Wg] at c;rw [a,List.take_add_one,c,WV];rfl
  exact ar (by rw [a,Xf W])
theorem Ng (N:Nat)(c:5000<=N)(ti:TI N t)(h:Row t i l):nF N t i=some (l.map (·.1)):=by
 have:=h.le ti;refine Sat.eq ?_;unfold nF
 refine (Cb N c ti h).bind fun r hr=> ?_
 have e:r.length=l.length:=by rw [<-hr,XK]
 exact (Ko N r W N 0 [] W W J).mono fun x a=>by rw [a, <-hr,List.map_map];rfl
theorem JN (N:Nat)(y:List VI)(e:y.length<=1024): ∀(m i:Nat) (p:List Int),y.length<m+i->i<=y.length->p=(y.take i).map (·.XT)->Sat (xH N y m p (i:Int)) fun l=>l=y.map (·.XT)
 |0,i,p,h,f,_=>by omega
 | m+1,i,p,h,f,a=>by
  rw [xH.eq_2]
  have j:p.length<=i:=by rw [a,XK,XJ];omega
  refine bq (fun d=> ?_) fun d=> ?_
  ·refine kP W d fun x c=> ?_
   refine bf (by unfold bC;rw [WU];omega) (bf (by constructor<;>omega) ?_);refine JN N y e m (i+1) _ W W ?_;rw [Wg] at c;rw [a,List.take_add_one,c,WV];rfl
  exact ar (by rw [a,Xf W])
theorem UR (N:Nat)(c:5000<=N)(ti:TI N t)(h:Row t i l):qW N t i=some (l.map (·.2)):=by
 have:=h.le ti;refine Sat.eq ?_;unfold qW
 refine (Cb N c ti h).bind fun r hr=> ?_
 have e:r.length=l.length:=by rw [<-hr,XK]
 exact (JN N r W N 0 [] W W J).mono fun x a=>by rw [a, <-hr,List.map_map];rfl
def Ob (l:List (Vy×Int))(k:Vy)(r:Int×Int×Bool):Prop:=(r=(0,0,false)/\ ∀x∈l,x.1≠k)\/ ∃n:Nat,r.1=n/\r.2.2=true/\l[n]? =some (k,r.2.1)
theorem KE (N:Nat)(ti:TI N t)(k:Vy): ∀(m:Nat) (i:Int) (s:VI) (l:List (Vy×Int)),l.length<m->Has t i s->Row t i l->Sat (xF N t k m s.Up s.XZ.no s.XZ.N s.XZ.S s.XT s.Yo) (Ob l k)
 |0,i,s,l,h,c,q=>by omega
 | m+1,i,s,l,h,c,q=>by
  rw [xF.eq_2];have j:=q.le ti
  cases q with
  |nil p o=>
   have:=c.one p;subst this;rw [VR W,cf];exact ar (.inl ⟨J,by simp⟩)
  | @snoc _ E l p o A=>
   have:=c.one p;subst this;rw [XI,WU] at h j;obtain ⟨u,d,C⟩:=A.has ti;obtain ⟨a1,a2,B⟩:=ti.sh _ _ c;obtain ⟨b1,D,b2,b3⟩:=B o;have:=d.one b2;subst this;rw [VQ o,ct]
   refine bq (fun e=>bf (by constructor<;>omega) (ar (.inr ⟨l.length,by show s.Yo - 1=_;omega,rfl,?_⟩))) fun e=> ?_
   ·rw [WB (Xm _),Xr];show some (ka s)=_;rw [show k=s.XZ from e.symm];rfl
   rw [d.get,bs];refine (KE N ti k m _ u l W d A).mono fun r hr=> ?_
   rcases hr with ⟨r1,f⟩|⟨n,r1,f,z⟩
   ·refine .inl ⟨r1,fun x a=> ?_⟩;rcases WY.1 a with a|a
    ·exact f x a
    rw [W8] at a;subst a;exact e
   exact .inr ⟨n,r1,f,by rw [WA (WH.1 z).1];exact z⟩
theorem BQ (N:Nat)(c:5000<=N)(ti:TI N t)(h:Row t i l)(k:Vy):Sat (nE N t i k) (Ob l k):=by
 obtain ⟨s,a,s2⟩:=h.has ti;have:=h.le ti;unfold nE;rw [a.has N,bs,nt,cf,a.get,bs];exact KE N ti k N i s l W a h
theorem Jv (N:Nat)(ti:TI N t)(n:Nat): ∀(m:Nat) (i:Int) (l:List (Vy×Int)),l.length<m->Row t i l->n<=l.length->Sat (xC N (n:Int) t m i) fun r=>Row t r (l.take n)
 |0,i,l,h,a,e=>by omega
 | m+1,i,l,h,a,e=>by
  obtain ⟨s,c,s2⟩:=a.has ti;rw [xC.eq_2,c.get,bs];refine bq (fun j=> ?_) fun j=>ar (by rw [Xf W];exact a)
  rw [bs]
  cases a with
  |nil d o=>rw [WS] at s2;omega
  | @snoc _ p l d o f=>
   have:=c.one d;subst this;rw [XI,WU] at h s2 e;rw [List.take_append_of_le_length W];exact Jv N ti n m _ l W f W
theorem Kz (N:Nat)(c:5000<=N)(ti:TI N t)(h:Row t i l)(n:Nat)(a:n<=l.length):Sat (uf N t i (n:Int)) fun r=>Row t r (l.take n):=by
 have:=h.le ti;unfold uf;exact Jv N ti n N i l W h a
structure Grow (N:Nat) (t t':VC) (n:Nat):Prop where
 ti:TI N t'
 le:Le t t'
 num:t'.Ya.length<=t.Ya.length+n
def oV (t:VC)(l:List (Vy×Int))(n:Nat)(r:Int×Int×VC):Prop:=r.2.1=0/\Grow N t r.2.2 n/\Row r.2.2 r.1 l
theorem Has.app {x:VI}{n:List (VD×Int)}(h:Has t i s):Has ⟨t.Ya++ [x],n⟩ i s:=
 ⟨h.1,by rw [WA (WH.1 h.2).1];exact h.2⟩
theorem Row.app {x:VI}{n:List (VD×Int)}(r:Row t i l):Row ⟨t.Ya++ [x],n⟩ i l:=by
 induction r with
 |nil c a=>exact .nil c.app a
 |snoc c a _ d=>exact .snoc c.app a d
theorem Nq (N:Nat)(t:VC)(l:List VI)(K:∀x∈l,qC N (ka x))(lf:List (Vy×Int))(P:lf.length<=1024)(hb:t.Ya.length+l.length<=1073741824): ∀(m i:Nat) (a6:Int) (t':VC) (o:List (Vy×Int)),l.length<m+i->i<=l.length->TI N t'->Le t t'->t'.Ya.length=t.Ya.length+i->Row t' a6 o->lf=o++(l.drop i).map ka->(TU t-> ∀x,l[i]? =some x->lk t'.Yn (⟨a6,x.XZ,x.XT⟩:VD)=none)->Sat (xW N l m a6 (i:Int) t'.Ya t'.Yn) (oV N t lf l.length)
 |0,i,_,_,_,h,S,_,_,_,_,_,_=>by omega
 | m +1,i,a6,t',o,h,S,ti,le,V,F,E,n=>by
  rw [xW.eq_2];refine bq (fun R=> ?_) fun R=>ar ⟨J,⟨ti,le,by show t'.Ya.length<=_;omega⟩,by rw [E,List.drop_of_length_le W,List.map_nil,Wj];exact F⟩
  obtain ⟨a,h3a,h3b⟩:=F.has ti;rw [bz (show i<l.length by omega),bs];rw [h3a.get,bs];obtain ⟨a1,a2,a3⟩:=ti.sh _ _ h3a;have A:=K l[i] (XO _);have L:l.drop i=l[i]::l.drop (i+1):=Wn _
  have Z:o.length+1<=lf.length:=by rw [E,L,XI,WW,WP];omega
  have n:=fun p=>n p l[i] (WF _)
  generalize l[i]=x at*
  have e1:(t'.Ya++ [(⟨a6,x.XZ,x.XT,a.Yo+1⟩:VI)]).length=t'.Ya.length+1:=by rw [XI,WU]
  have M:((((t'.Ya++ [(⟨a6,x.XZ,x.XT,a.Yo+1⟩:VI)]).length:Nat):Int) - 1)=(t'.Ya.length:Int):=by omega
  refine bf (by constructor<;>omega) (bf (by unfold bC;rw [WU];omega) (bf (by rw [M];constructor<;>omega) (bf (by constructor<;>omega) ?_)));rw [M]
  have hnew:Has ⟨t'.Ya++ [(⟨a6,x.XZ,x.XT,a.Yo+1⟩:VI)],dp t'.Yn ⟨a6,x.XZ,x.XT⟩ (t'.Ya.length:Int)⟩ (t'.Ya.length:Int) ⟨a6,x.XZ,x.XT,a.Yo+1⟩:=
   ⟨by omega,by simp⟩
  have hsplit: ∀j s,Has ⟨t'.Ya++ [(⟨a6,x.XZ,x.XT,a.Yo+1⟩:VI)],dp t'.Yn ⟨a6,x.XZ,x.XT⟩ (t'.Ya.length:Int)⟩ j s->Has t' j s\/(j=(t'.Ya.length:Int)/\s=⟨a6,x.XZ,x.XT,a.Yo+1⟩):=fun j s f=>by
   by_cases e:j.toNat<t'.Ya.length
   ·exact .inl ⟨f.1,by have:=f.2;rwa [WA e] at this⟩
   have q:=f.lt
   have T:j=(t'.Ya.length:Int):=by
    have:(j.toNat:Int)<(t'.Ya++ [(⟨a6,x.XZ,x.XT,a.Yo+1⟩:VI)]).length:=by have:=q.2;simp only at this;omega
    have:=q.1;omega
   subst T;exact .inr ⟨J,f.one hnew⟩
  have C:TU t->TU ⟨t'.Ya++ [(⟨a6,x.XZ,x.XT,a.Yo+1⟩:VI)],dp t'.Yn ⟨a6,x.XZ,x.XT⟩ (t'.Ya.length:Int)⟩:=fun p=>by
   have hu':=le.tu p;have B:=n p;refine ⟨fun j s f O=> ?_,fun j s f H=> ?_⟩
   ·show lk (dp t'.Yn ⟨a6,x.XZ,x.XT⟩ (t'.Ya.length:Int)) ⟨s.Up,s.XZ,s.XT⟩=some j;rw [qt];rcases hsplit j s f with hs'|⟨rfl,rfl⟩
    ·have D:=hu'.nx j s hs' O;rw [if_neg fun e=> ?_]
     ·exact D
     first|rw [e,D] at B|rw [<-e,D] at B
     cases B
    rw [if_pos rfl]
   rcases hsplit j s f with hs'|⟨rfl,rfl⟩
   ·exact hu'.root j s hs' H
   exfalso;have:a.Yo+1=0:=H;omega
  refine Nq N t l K lf P hb m (i+1) _ ⟨_,dp t'.Yn ⟨a6,x.XZ,x.XT⟩ (t'.Ya.length:Int)⟩ (o++ [ka x]) W W ⟨?_,?_⟩ ⟨fun j s f=>(le.sub j s f).app,C⟩ (by show (t'.Ya++_).length=_;omega) (Row.snoc (s:=⟨a6,x.XZ,x.XT,a.Yo+1⟩) hnew (by show 0<a.Yo+1;omega) (F.app)) (by rw [E,L,WW,VT];rfl) (fun p y U=>by
   show lk (dp t'.Yn ⟨a6,x.XZ,x.XT⟩ (t'.Ya.length:Int)) ⟨(t'.Ya.length:Int),y.XZ,y.XT⟩=none;rw [qt,if_neg fun e=> ?_]
   ·cases e:lk t'.Yn (⟨(t'.Ya.length:Int),y.XZ,y.XT⟩:VD) with
    |none=>rfl
    |some j=>
     obtain ⟨c,d,c1, -⟩:=ti.nx _ j e;have Q:Has t' (t'.Ya.length:Int) c:=c1;have:=Q.lt.2;omega
   ·have X:a6=(t'.Ya.length:Int):=by first|exact congrArg VD.YG e|exact (congrArg VD.YG e).symm
    have:=h3a.lt.2
    omega)
  ·intro j s f;rcases hsplit j s f with hs'|⟨rfl,rfl⟩
   ·obtain ⟨b1,b2,b3⟩:=ti.sh _ _ hs';exact ⟨b1,b2,fun h=>let ⟨c1,u,c2,c3⟩:=b3 h;⟨c1,u,c2.app,c3⟩⟩
   exact ⟨by show 0<=a.Yo+1;omega,by show a.Yo+1<=1024;omega,fun _=>⟨A,a,h3a.app,by show a.Yo=a.Yo+1 - 1;omega⟩⟩
  intro k j z;change lk (dp t'.Yn ⟨a6,x.XZ,x.XT⟩ (t'.Ya.length:Int)) k=some j at z;rw [qt] at z;split at z
  ·rename_i e
   cases z;subst e;exact ⟨a,_,h3a.app,hnew,J,J,J,J⟩
  obtain ⟨c,d,c1,c2,c3⟩:=ti.nx k j z;exact ⟨c,d,c1.app,c2.app,c3⟩
theorem acE (N:Nat)(i:5000<=N)(ti:TI N t)(at_:Int)(l:List VI)(d:∀x∈l,qC N (ka x))(a:List (Vy×Int))(e:a.length+l.length<=1024)(hb:t.Ya.length+l.length<=1073741824)(h:Row t at_ a)(c:TU t-> ∀x,l[0]? =some x->lk t.Yn (⟨at_,x.XZ,x.XT⟩:VD)=none):Sat (ra N t at_ l) (oV N t (a++l.map ka) l.length):=by
 unfold ra;refine bf (by constructor<;>omega) (bq (fun f=>by omega) fun f=> ?_);exact Nq N t l d _ (by rw [XI,XK];exact e) hb N 0 at_ t a W W ti (Le.refl t) J h J c
theorem LV (N:Nat)(p:5000<=N)(ti:TI N t)(n:Nat): ∀(m:Nat) (at_:Int) (l:List VI) (a:List (Vy×Int)),l.length<m->l.length<=n->a.length+l.length<=1024->t.Ya.length+n<=1073741824->(∀x∈l,qC N (ka x))->Row t at_ a->Sat (yg N t m at_ l) (oV N t (a++l.map ka) n)
 |0,_,_,_,h,_,_,_,_,_=>by omega
 | m +1,at_,l,a,h,E,A,hb,i,o=>by
  rw [yg.eq_2]
  have u:(TU t-> ∀x,l[0]? =some x->lk t.Yn (⟨at_,x.XZ,x.XT⟩:VD)=none)->Sat (ra N t at_ l) (oV N t (a++l.map ka) n):=fun f=>(acE N p ti at_ l i a A W o f).mono fun r hr=>⟨hr.1,⟨hr.2.1.ti,hr.2.1.le,by have:=hr.2.1.num;omega⟩,hr.2.2⟩
  refine bq (fun q=> ?_) fun q=>u fun _ x D=>by
   have:=(WH.1 D).1;omega
  cases l with
  |nil=>rw [WS] at q;omega
  | cons x l=>
   rw [show ak (x::l) 0=some x from rfl,bs,bs]
   cases e:lk t.Yn (⟨at_,x.XZ,x.XT⟩:VD) with
   |none=>
    refine u fun _ y C=> ?_
    obtain rfl:x=y:=Xx C;exact e
   | some j=>
    show Sat (ae _ _) _;refine bf ⟨by decide,by show 1<=l.length+1;omega,Xm _⟩ ?_;obtain ⟨c,d,c1,c2,c3,c4,c5,c6⟩:=ti.nx _ _ e
    have H:(((x::l).drop ((1:Int).toNat)).take ((x::l).length - (1:Int).toNat))=l:=by
     show (l.take (l.length+1 - 1))=l;exact Xf W
    rw [H]
    have F:0<d.Yo:=by have:=(ti.sh _ _ c1).1;omega
    have hr:Row t j (a++ [ka x]):=by
     have:=Row.snoc c2 F (by rw [c4];exact o)
     rwa [show ka d=ka x by unfold ka;rw [c5,c6]] at this
    rw [WP] at h E A;have:=LV N p ti n m j l (a++ [ka x]) W W (by rw [XI,WU];omega) hb (fun z B=>i z (W0 _ B)) hr
    rwa [VT] at this
theorem GE (N:Nat)(f:5000<=N)(ti:TI N t)(at_:Int)(l:List VI)(c:∀x∈l,qC N (ka x))(a:List (Vy×Int))(e:a.length+l.length<=1024)(hb:t.Ya.length+1024<=1073741824)(d:Row t at_ a):Sat (uw N t at_ l) (oV N t (a++l.map ka) 1024):=
 LV N f ti 1024 N at_ l a W W e hb c d
theorem FI (N:Nat)(f:5000<=N)(h:Has t i s)(k:Vy)(a:Int):Sat (qZ N t i k a) fun r=>(r=0/\keyR N k/\gT a)\/(r≠0/\ ¬(keyR N k/\gT a)):=by
 unfold qZ;rw [h.has N,bs,nt,cf];obtain ⟨b,d, -⟩:=Fj N f k;obtain ⟨c,e,j⟩:=aah N a;rw [d,bs,e]
 cases b with
 |false=>exact ar (.inr ⟨by decide,fun h=>by have:=h.1;unfold keyR at this;rw [d] at this;cases this⟩)
 |true=>
  cases c with
  |false=>exact ar (.inr ⟨by decide,fun h=>by have:=abZ N h.2;rw [e] at this;cases this⟩)
  |true=>exact ar (.inl ⟨rfl,d,j rfl⟩)
theorem aaR (N:Nat)(e:5000<=N)(ti:TI N t)(hb:t.Ya.length+1024<=1073741824)(h:Row t i l)(k:Vy)(a:Int)(q:∀x∈l,x.1≠k)(B:l.length<1024):Sat (ur N t i k a) fun r=>(keyR N k/\gT a/\oV N t (l++ [(k,a)]) 1024 r)\/(¬(keyR N k/\gT a)/\r.2.1≠0/\r.2.2=t):=by
 obtain ⟨s,f,s2⟩:=h.has ti;unfold ur;refine (FI N e f k a).bind fun y p=> ?_
 rcases p with ⟨rfl,c,d⟩|⟨c,d⟩
 ·show Sat (Option.bind _ _) _
  refine (BQ N e ti h k).bind fun z o=> ?_
  rcases o with ⟨rfl, -⟩|⟨n,A,u,m⟩
  ·show Sat (Option.bind _ _) _;rw [GK N f,bs]
   refine bq (fun _=>by omega) fun _=> ?_
   refine (GE N e ti i [(⟨0,k,a,0⟩:VI)] (fun x j=>by rw [W8] at j;subst j;exact ⟨c,d⟩) l (by rw [WU];omega) hb h).bind fun r hr=>ar (.inl ⟨c,d,hr⟩)
  exact absurd J (q _ (W4 m))
 rw [VR c,nf,ct];exact ar (.inr ⟨d,c,J⟩)
theorem Tx (N:Nat)(j:5000<=N)(ti:TI N t)(hb:t.Ya.length+1024<=1073741824)(h:Row t i l)(L:(l.map (·.1)).Nodup)(k:Vy)(a:Int)(n:Nat)(S:Int)(m:l[n]? =some (k,S)):Sat (ub N t i k a) fun r=>(gT a/\oV N t (l.set n (k,a)) 1024 r)\/(¬gT a/\r.2.1≠0/\r.2.2=t):=by
 obtain ⟨s,E,s2⟩:=h.has ti;have K:=h.le ti;have f:=(WH.1 m).1;unfold ub;refine (FI N j E k a).bind fun y H=> ?_
 rcases H with ⟨rfl,p,o⟩|⟨p,o⟩
 ·show Sat (Option.bind _ _) _
  refine (BQ N j ti h k).bind fun z F=> ?_
  rcases F with ⟨rfl,A⟩|⟨n',A,D,u⟩
  ·exact absurd J (A _ (W4 m))
  have:n'=n:=by
   have P:(l.map (·.1))[n']? =some k:=by rw [WI,u];rfl
   have O:(l.map (·.1))[n]? =some k:=by rw [WI,m];rfl
   exact (List.getElem?_inj (by rw [XK];exact (WH.1 u).1) L).1 (P.trans O.symm)
  subst this;rw [D];show Sat (Option.bind _ _) _;refine (Cb N j ti h).bind fun r hr=> ?_
  have e:r.length=l.length:=by rw [<-hr,XK]
  rw [A,Wg];refine bf ⟨by omega,by omega⟩ ?_;refine kP W (by rw [WQ];omega) fun x C=> ?_
  refine (Kz N j ti h n' W).bind fun b B=> ?_
  have a6:ka x=(k,z.2.1):=by
   rw [show (0:Int).toNat=0 from rfl,WE,Nat.add_zero] at C
   have:(r.map ka)[n']? =some (ka x):=by rw [WI,C];rfl
   rw [hr,u] at this;exact (Xx this).symm
  have d:x.XZ=k:=congrArg Prod.fst a6
  have hm: ∀q∈List.set (List.drop n' r) ((0:Int).toNat) (⟨x.Up,(⟨x.XZ.no,x.XZ.N,x.XZ.S⟩:Vy),a,x.Yo⟩:VI),qC N (ka q):=fun q c=>by
   rcases W6 c with c|rfl
   ·exact h.ok ti _ (by rw [<-hr];exact List.mem_map_of_mem (List.mem_of_mem_drop c))
   exact ⟨by show keyR N x.XZ;rw [d];exact p,o⟩
  have R:(List.set (List.drop n' r) ((0:Int).toNat) (⟨x.Up,(⟨x.XZ.no,x.XZ.N,x.XZ.S⟩:Vy),a,x.Yo⟩:VI)).map ka=(l.drop n').set 0 (k,a):=by
   rw [show (0:Int).toNat=0 from rfl,List.map_set,List.map_drop,hr];show (l.drop n').set 0 (x.XZ,a)=_;rw [d]
  refine (GE N j ti b _ hm (l.take n') (by rw [WT,WQ,XJ];omega) hb B).bind fun q c=>ar (.inl ⟨o,?_⟩)
  rw [R] at c
  have Q:l.take n'++(l.drop n').set 0 (k,a)=l.set n' (k,a):=by
   rw [Wn f,List.set_cons_zero,List.set_eq_take_append_cons_drop,if_pos f]
  rw [Q] at c;exact c
 rw [VR p,nf,ct];exact ar (.inr ⟨fun M=>o ⟨(h.ok ti _ (W4 m)).1,M⟩,p,J⟩)
theorem Sx (N:Nat)(a:5000<=N)(ti:TI N t)(hb:t.Ya.length+1024<=1073741824)(h:Row t i l)(E:(l.map (·.1)).Nodup)(k:Vy)(n:Nat)(O:Int)(d:l[n]? =some (k,O)):Sat (qO N t i k) (oV N t (l.eraseIdx n) 1024):=by
 obtain ⟨s,u,s2⟩:=h.has ti;have D:=h.le ti;have C:=(WH.1 d).1;unfold qO;refine (FI N a u k 0).bind fun y B=> ?_
 rcases B with ⟨rfl,F,o⟩|⟨F,o⟩
 ·show Sat (Option.bind _ _) _
  refine (BQ N a ti h k).bind fun z A=> ?_
  rcases A with ⟨rfl,f⟩|⟨n',f,p,m⟩
  ·exact absurd J (f _ (W4 d))
  have:n'=n:=by
   have K:(l.map (·.1))[n']? =some k:=by rw [WI,m];rfl
   have H:(l.map (·.1))[n]? =some k:=by rw [WI,d];rfl
   exact (List.getElem?_inj (by rw [XK];exact (WH.1 m).1) E).1 (K.trans H.symm)
  subst this;rw [p,f];show Sat (Option.bind _ _) _;refine (Kz N a ti h n' W).bind fun b j=> ?_
  refine (Cb N a ti h).bind fun r hr=> ?_
  have e:r.length=l.length:=by rw [<-hr,XK]
  have L:((n':Int)+1).toNat=n'+1:=by omega
  refine bf (by constructor<;>omega) (bf ⟨by omega,by omega,Xm _⟩ ?_);rw [L];have M:((r.drop (n'+1)).take (r.length - (n'+1)))=r.drop (n'+1):=Xf (by rw [WQ];omega);rw [M];refine (GE N a ti b _ (fun q c=>h.ok ti _ (by rw [<-hr];exact List.mem_map_of_mem (List.mem_of_mem_drop c))) (l.take n') (by rw [WQ,XJ];omega) hb j).bind fun q c=>ar ?_
  rw [List.map_drop,hr, <-List.eraseIdx_eq_take_drop_succ] at c;exact c
 exact absurd ⟨(h.ok ti _ (W4 d)).1,by decide,by decide,by decide⟩ o
theorem ov {a b:Int}(e:0<=a)(d:a<=b)(c:b<=100000):IntKind.i64.wrap ((IntKind.u64.wrap (a+b)).fdiv (2 ^ 1))=(a+b) / 2:=by
 rw [IntWalk.u64_in _ ⟨by omega,by omega⟩,Int.fdiv_eq_ediv_of_nonneg _ W,show (2:Int) ^ 1=2 from rfl,IntWalk.i64_in _ ⟨by omega,by omega⟩]
section
variable (N:Nat)(e:20000<=N)(n:Nat)(o:n<=6000)
include e o
section
variable (a q b:Int)(u:0<=a)(z:a<q)(B:q<b)(D:b<=n)
include u z B D
end
end
end
section
open Go.RowKit
def jw (c:VL):Nat:=1+c.XQ.length
def ws (l:List VL):Nat:=ba jw l
theorem te (l:List VL):wt l=ws l+mS l:=by
 rw [oL];unfold ws mS;rw [<-AR];rfl
theorem vM (g:α->Nat): ∀{l:List α} {x:α},x∈l->g x<=ba g l
 |a::l,x,h=>by
  rw [ba];rcases WZ.1 h with rfl|h
  ·omega
  have:=vM g h;omega
theorem GC: ∀l:List VL,l.length<=ws l
 | []=>Xt _
 |c::l=>by
  have:=GC l;show l.length+1<=jw c+ws l;unfold jw;omega
theorem Fq (g:α->Nat)(x:α): ∀(l:List α) (i:Nat) (h:i<l.length),ba g (l.set i x)+g l[i]=ba g l+g x
 |a::l,0,_=>by simp only [List.set_cons_zero,ba,List.getElem_cons_zero];omega
 |a::l,i+1,h=>by
  have:=Fq g x l i (by simpa using h);simp only [List.set_cons_succ,ba,List.getElem_cons_succ];omega
theorem Lr (g:VL->Nat){a:Int}(d:az m a=true)(c:VL):ba g (ik m a c).XS+ba g (ik m a c).XR+g (am m a)=ba g m.XS+ba g m.XR+g c:=by
 unfold ik;rcases ip d with ⟨i,hi,rfl⟩|⟨i,hi,rfl⟩
 ·rw [VQ W,cond_true,show (2*(i:Int)+1) / 2=i by omega,jJ m i hi];have:=Fq g c m.XS i hi;show ba g (m.XS.set i c)+ba g m.XR+_=_;omega
 rw [VR W,cond_false,show (2*(i:Int)+2) / 2 - 1=i by omega,gN m i hi];have:=Fq g c m.XR i hi;show ba g m.XS+ba g (m.XR.set i c)+_=_;omega
structure Hb (k M:Nat) (g:Vz):Prop where
 hw:ws g.m_.XS+ws g.m_.XR<=k
 hm:mS g.m_.XS+mS g.m_.XR<=M
 hr:g.Yb.length<=30
theorem Hb.up (h:Hb k M g)(a:k<=k')(c:M<=M'):Hb k' M' g:=⟨Xn h.hw a,Xn h.hm c,h.hr⟩
theorem Hb.cell (h:Hb k M g)(d:c∈g.m_.XS++g.m_.XR):1+c.XQ.length<=k/\c.XP.length<=M:=by
 have e:=h.hw;have f:=h.hm;unfold ws at e;unfold mS at f;rcases WY.1 d with d|d
 ·have a:=vM jw d;have b:=vM (fun c:VL=>c.XP.length) d;unfold jw at a e;exact ⟨by omega,by omega⟩
 have a:=vM jw d;have b:=vM (fun c:VL=>c.XP.length) d;unfold jw at a e;exact ⟨by omega,by omega⟩
theorem G7 (j:k<=580)(l:M<=2200)(s:Hb k M g)(a:g.Yg=[])(w64:W64 g.m_)(r64:∀v∈g.Yb,in64 v.N)(d:(g.Yf.at_.map Prod.fst).Nodup)(n2:∀x∈g.Yf.at_.map Prod.fst, ∃i:Nat,i<g.m_.XR.length/\x=2*(i:Int)+2)(nw:∀c∈g.m_.XS++g.m_.XR,c.no≠8/\c.no≠10):HB g:=by
 have u:=s.hw;have t:=s.hm;have q:=s.hr;have p:=GC g.m_.XS;have o:=GC g.m_.XR;have n:=te g.m_.XS;have m:=te g.m_.XR
 have f:(g.Yb++g.Yg).length=g.Yb.length:=by rw [a,Wj]
 exact ⟨⟨by omega,by omega,by omega,fun c e=>by have:=s.cell e;omega,nw⟩,⟨by omega,by omega⟩,by rw [Cd];omega,by omega,w64,by rw [a,Wj];exact r64,d,n2⟩
def wT (m:Vw)(c:VL):Prop:= ∀v∈c.XQ++c.XP,in64 v.N/\(aZ v=true->az m v.N=true)
theorem Pl.refs (h:Pl g)(d:c∈g.m_.XS++g.m_.XR):wT g.m_ c:=fun v a=>⟨h.hb.w64 c d v a,fun hb=>(h.cells c d).2.1 _ (wg a hb)⟩
theorem MF (s:Hb k M g){a:Int}(d:az g.m_ a=true)(l:k+c.XQ.length<=k'+(am g.m_ a).XQ.length)(j:M+c.XP.length<=M'+(am g.m_ a).XP.length):Hb k' M' (cl g a c):=by
 obtain ⟨e,i, -, -⟩:=vP g a c;have n:=Lr jw d (ju c (am g.m_ a).XW);have m:=Lr (fun c:VL=>c.XP.length) d (ju c (am g.m_ a).XW);have f:=s.hw;have s2:=s.hm;unfold ws at f;unfold mS at s2;refine ⟨?_,?_,by rw [i];exact s.hr⟩
 ·rw [e];unfold ws;have:jw (ju c (am g.m_ a).XW)=1+c.XQ.length:=rfl;have:jw (am g.m_ a)=1+(am g.m_ a).XQ.length:=rfl;omega
 rw [e];unfold mS;have:(ju c (am g.m_ a).XW).XP.length=c.XP.length:=rfl;omega
theorem Pl.putK (D:k<=580)(E:M<=2200)(h:Pl g){a:Int}(o:az g.m_ a=true)(hr:bT c=true)(n:c.no≠8/\c.no≠10)(u:wT g.m_ c)(b:Hb k M (cl g a c)):
  Pl (cl g a c)/\(∀x,az (cl g a c).m_ x=az g.m_ x)/\(∀x,az g.m_ x=true->am (cl g a c).m_ x=if x=a then ju c (am g.m_ a).XW else am g.m_ x):=by
 obtain ⟨p,z,H,f4⟩:=vP g a c;obtain ⟨C,s2,K,B,A, -⟩:=NS (ju c (am g.m_ a).XW) o;have hage:=Tz (h.cells _ (iY o)).1;have hr':bT (ju c (am g.m_ a).XW)=true:=Su hr hage.1 hage.2
 have hhas: ∀x,az (cl g a c).m_ x=az g.m_ x:=fun x=>by rw [p];exact C x
 have hmem: ∀d∈(cl g a c).m_.XS++(cl g a c).m_.XR,d∈g.m_.XS++g.m_.XR\/d=ju c (am g.m_ a).XW:=fun d f=>by rw [p] at f;exact A d f
 have nd:((cl g a c).Yf.at_.map Prod.fst).Nodup:=by
  rw [f4];cases decide (a%2=1)
  ·exact UZ h.hb.nd _ _
  exact h.hb.nd
 have keys: ∀x∈(cl g a c).Yf.at_.map Prod.fst, ∃i:Nat,i<(cl g a c).m_.XR.length/\x=2*(i:Int)+2:=fun x l=>by
  rw [p,B];rw [f4] at l
  cases f:decide (a%2=1) with
  |true=>rw [f] at l;exact h.hb.keys x l
  | false=>
   rw [f] at l;rcases (Kj h.hb.nd _ _ x).1 l with ⟨-,l|rfl⟩|⟨-,l, -⟩
   ·exact h.hb.keys x l
   ·rcases ip o with ⟨j,t,rfl⟩|⟨j,t,rfl⟩
    ·rw [VQ W] at f;cases f
    exact ⟨j,t,J⟩
   exact h.hb.keys x l
 have q:(cl g a c).Yg=[]:=H.trans h.pend
 have w64:W64 (cl g a c).m_:=fun d f=>by
  rcases hmem d f with f|rfl
  ·exact h.hb.w64 d f
  exact fun v m=>(u v m).1
 refine ⟨⟨G7 D E b q w64 (fun v m=> ?_) nd keys (fun d f=>(hmem d f).elim (fun F=>(h.cells d F).2.2) fun e=>by rw [e];exact n),q,fun d f=> ?_,fun x l=> ?_,SR h.set h.hb.nd o c nd⟩,hhas,fun x l=>by rw [p];exact s2 x l⟩
 ·rw [z] at m;exact h.hb.r64 v (VU _ m)
 ·rcases hmem d f with f|rfl
  ·exact ⟨(h.cells d f).1,fun x l=>(hhas x).trans ((h.cells d f).2.1 x l),(h.cells d f).2.2⟩
  refine ⟨hr',fun x l=> ?_,n⟩;obtain ⟨v,m,hb,rfl⟩:=vH l;exact (hhas _).trans ((u v m).2 hb)
 rw [z] at l;exact (hhas x).trans (h.roots x l)
def kE (g:Vz)(c:VL):Vz:=⟨⟨g.m_.XS++ [c],g.m_.XR⟩,g.Yb,g.Yg,g.Yf⟩
def ll (g:Vz):Int:=2*(g.m_.XS.length:Int)+1
theorem Uk (g:Vz):az g.m_ (ll g)=false:=by
 unfold ll;rw [qo];exact VR W
theorem abf (s:Hb k M g)(c:VL)(e:k+1+c.XQ.length<=k')(d:M+c.XP.length<=M'):Hb k' M' (kE g c):=by
 have a:=s.hw;have s2:=s.hm;refine ⟨?_,?_,s.hr⟩
 ·show ws (g.m_.XS++ [c])+_<=k';unfold ws at a⊢;rw [qe];simp only [ba];have:jw c=1+c.XQ.length:=rfl;show ba jw g.m_.XS+(jw c+0)+ba jw g.m_.XR<=k';omega
 show mS (g.m_.XS++ [c])+_<=M';unfold mS at s2⊢;rw [qe];simp only [ba];show _+(c.XP.length+0)+ba _ g.m_.XR<=M';omega
theorem Pl.addK (n:k<=580)(q:M<=2200)(p:Pl g)(hr:bT c=true)(j:c.no≠8/\c.no≠10)(l:wT g.m_ c)(s:Hb k M (kE g c)):
  Pl (kE g c)/\(∀x,az g.m_ x=true->az (kE g c).m_ x=true/\am (kE g c).m_ x=am g.m_ x)/\az (kE g c).m_ (ll g)=true/\am (kE g c).m_ (ll g)=c:=by
 obtain ⟨a1,a2,u⟩:=Ny (m:=g.m_) c
 have hmem: ∀d∈(kE g c).m_.XS++(kE g c).m_.XR,d∈g.m_.XS++g.m_.XR\/d=c:=fun d a=>by
  have a:d∈(g.m_.XS++ [c])++g.m_.XR:=a;simp only [WY,WZ,List.not_mem_nil,or_false] at a⊢;rcases a with (a|a)|a
  ·exact .inl (.inl a)
  ·exact .inr a
  exact .inl (.inr a)
 have hset:di g.Yf.at_=el ⟨g.m_.XS++ [c],g.m_.XR⟩:=by rw [UU];exact p.set
 have o:W64 (kE g c).m_:=fun d a=>by
  rcases hmem d a with a|rfl
  ·exact p.hb.w64 d a
  exact fun v i=>(l v i).1
 refine ⟨⟨G7 n q s p.pend o (fun v i=>p.hb.r64 v (VU _ i)) p.hb.nd p.hb.keys (fun d a=>(hmem d a).elim (fun t=>(p.cells d t).2.2) fun e=>by rw [e];exact j),p.pend,fun d a=> ?_,fun x f=>(a1 x (p.roots x f)).1,hset⟩,a1,a2,u⟩;rcases hmem d a with a|rfl
 ·exact ⟨(p.cells d a).1,fun x f=>(a1 _ ((p.cells d a).2.1 x f)).1,(p.cells d a).2.2⟩
 refine ⟨hr,fun x f=> ?_,j⟩;obtain ⟨v,i,hb,rfl⟩:=vH f;exact (a1 _ ((l v i).2 hb)).1
def v0:VH:=⟨0,0,⟨#[]⟩⟩
def tq (w:VK)(t:VC):VK:=⟨w.Yj,w.Ye,(),w.XX,t,w.Yk,w.Yh,w.Yr,w.Ys,w.Yl,w.Ym⟩
theorem NZ:dm v0=true:=by kernel_rfl
theorem pU (h:bT c=true):0<=c.XV/\(0<=c.XU/\c.XU<=63)/\0<=c.XW/\c.XW<=1:=by
 unfold bT at h;simp only [XM,Bool.not_eq_true',XD] at h;omega
theorem Ay (f:c.no=1\/c.no=2)(B:0<=c.XV)(t:0<=c.XU/\c.XU<=63)(u:0<=c.XW/\c.XW<=1)(j:∀x∈c.XQ,dm x=true)(hm:∀x∈c.XP,dm x=true)(m:c.XQ.length<=1025){z:VH}(e:c.XQ[0]? =some z)(a:z.no=1\/z.no=7)(d:c.XP.length<=4096)(l:c.no=1->c.XP=[]):bT c=true:=by
 have A:=(WH.1 e).1
 have q:cm c.XQ 0=z:=by unfold cm;rw [List.getD_eq_getElem?_getD,e];rfl
 have o:ic c.no c.XV c.XU c.XQ=true:=by
  unfold ic sP;rw [q,VQ (p:=1<=c.XQ.length) W,VQ m];rcases f with h|h<;>rcases a with i|i<;>rw [h,i]<;>rfl
 have n:ii c.no c.XP=true:=by
  unfold ii;rcases f with h|h
  ·rw [l h,h];rfl
  rw [h,VQ (p:=(2:Int)=2) rfl,cond_true];exact VQ d
 unfold bT;rw [o,n,Wi.2 j,Wi.2 hm,VR (p:=c.no<1) W,VR (p:=11<c.no) W,VR (p:=c.XV<0) W,VR (p:=c.XU<0) W,VR (p:=63<c.XU) W,VR (p:=c.XW<0) W,VR (p:=1<c.XW) W];rfl
structure ValW (m:Vw) (x:VH):Prop where
 may:dm x=true
 i64:in64 x.N
 ref:aZ x=true->az m x.N=true
theorem tt (m:Vw):ValW m v0:=⟨NZ,by decide,fun h=>by cases h⟩
def ig (g s:VH):VL:=⟨5,0,0,0,[g,s],[]⟩
def ni (x:VH):Prop:=x.no=0\/x.no=7
theorem Si {g s:VH}(d:ValW m g)(c:ValW m s)(kg:ni g)(a:ni s):bT (ig g s)=true:=by
 have i:noneB g 7=true:=by unfold noneB;rcases kg with h|h<;>rw [h]<;>rfl
 have f:noneB s 7=true:=by unfold noneB;rcases a with h|h<;>rw [h]<;>rfl
 have e:ic 5 0 0 [g,s]=true:=by
  unfold ic;show (decide ([g,s].length=2)&&noneB g 7&&noneB s 7)=true;rw [i,f];rfl
 unfold bT ig;simp only [List.all_cons,List.all_nil];rw [d.may,c.may,e];rfl
theorem Tu (h:bT c=true)(d:c.no=5){g s:VH}(a:c.XQ=[g,s]):ni g/\ni s:=by
 unfold bT ic sP at h;rw [d,a] at h;simp only [XM] at h;obtain ⟨-, -, -,h, -⟩:=h;have h:(bif !decide (c.XV=0)|| !decide (c.XU=0) then false else (decide ([g,s].length=2)&&noneB g 7&&noneB s 7))=true:=h
 cases e:(!decide (c.XV=0)|| !decide (c.XU=0)) with
 |true=>rw [e] at h;cases h
 |false=>
  rw [e,cond_false] at h;simp only [XM,noneB,Bool.or_eq_true,XE] at h;exact ⟨h.1.2,h.2⟩
def wx (m:Vw)(x g s:VH):Prop:= ∃(a ag:Int),x=⟨9,a,⟨#[]⟩⟩/\az m a=true/\am m a=⟨5,0,0,ag,[g,s],[]⟩
def SlotP (m:Vw)(p:VN)(x:VH):Prop:=
 (aM .i64 p.XT 8=0/\p.Value=x/\p.Yc=v0/\p.Yd=v0/\x.no≠9)\/
 (aM .i64 p.XT 8≠0/\p.Value=v0/\wx m x p.Yc p.Yd)
structure Wd (N k q M:Nat) (w:VK):Prop where
 pl:Pl w.XX
 hb:Hb k M w.XX
 ti:TI N w.Ya
 tb:w.Ya.Ya.length<=q
 ep:0<=w.Yh/\w.Yh<=(q:Int)
theorem Wd.up {N q:Nat}{w:VK}(h:Wd N k q M w)(d:k<=k')(c:q<=q')(a:M<=M'):Wd N k' q' M' w:=⟨h.pl,h.hb.up d a,h.ti,Xn h.tb c,h.ep.1,by have:=h.ep.2;omega⟩
theorem Wd.sz {N q:Nat}{w:VK}(h:Wd N k q M w)(d:k<=580)(e:M<=2200): ∀c∈w.XX.m_.XS++w.XX.m_.XR,c.XQ.length<=600/\c.XP.length<=2900:=fun c a=>by have:=h.hb.cell a;omega
theorem Pl.valW (h:Pl g){a:Int}(i:az g.m_ a=true)(c:x∈(am g.m_ a).XQ++(am g.m_ a).XP):ValW g.m_ x:=by
 have d:=iY i;have f:=h.refs d x c;have e:=z7 (h.cells _ d).1;refine ⟨?_,f.1,f.2⟩;rcases WY.1 c with c|c
 ·exact Wi.1 e.1 x c
 exact Wi.1 e.2.1 x c
theorem GN {N q:Nat}{w:VK}(h:Wd N k q M w)(c:k<=580)(e:M<=2200)(a:aZ x=true)(hi:in64 x.N)(d:az w.XX.m_ x.N=true):gZ N w x=some (am w.XX.m_ x.N):=FB (h.sz c e) a hi d
def fH (p:VN):Vy×Int:=(p.XZ,p.XT)
structure ObjC (t:VC) (c:VL) (l:List (Vy×Int)):Prop where
 kind:c.no=1\/c.no=2
 proto: ∃z,c.XQ[0]? =some z/\(z.no=1\/z.no=7)
 plain:c.no=1->c.XP=[]
 row:Row t c.XV l
 num:c.XQ.length=l.length+1
 nd:(l.map (·.1)).Nodup
structure Obj (N:Nat) (i:Int) (k q:Nat) (w:VK) (c:VL) (PL:List VN):Prop where
 wd:Wd N k q c.XP.length w
 has:az w.XX.m_ i=true
 at_:am w.XX.m_ i=c
 oc:ObjC w.Ya c (PL.map fH)
 each: ∀(n:Nat) p,PL[n]? =some p-> ∃x,c.XQ[n+1]? =some x/\SlotP w.XX.m_ p x
 inj: ∀(n m:Nat) x y,n≠m->c.XQ[n+1]? =some x->c.XQ[m+1]? =some y->x.no=9->y.no=9->x.N≠y.N
theorem Obj.up {N q:Nat}{w:VK}(h:Obj N i k q w c PL)(d:k<=k')(a:q<=q'):Obj N i k' q' w c PL:=⟨h.wd.up d a (Xm _),h.has,h.at_,h.oc,h.each,h.inj⟩
theorem Obj.len {N q:Nat}{w:VK}(h:Obj N i k q w c PL):PL.length<=1024:=by
 have:=h.oc.row.le h.wd.ti
 rwa [XK] at this
theorem Obj.num {N q:Nat}{w:VK}(h:Obj N i k q w c PL):c.XQ.length=PL.length+1:=by
 have:=h.oc.num
 rwa [XK] at this
theorem Obj.right {N q:Nat}{w:VK}(h:Obj N i k q w c PL):bT c=true:=by
 have:=(h.wd.pl.cells _ (iY h.has)).1
 rwa [h.at_] at this
theorem Obj.val {N q:Nat}{w:VK}(h:Obj N i k q w c PL)(a:x∈c.XQ++c.XP):ValW w.XX.m_ x:=h.wd.pl.valW h.has (by rw [h.at_];exact a)
theorem Obj.key {N q:Nat}{w:VK}(h:Obj N i k q w c PL)(a:p∈PL):keyR N p.XZ/\gT p.XT:=h.oc.row.ok h.wd.ti _ (List.mem_map_of_mem a)
theorem Obj.nodup {N q:Nat}{w:VK}(h:Obj N i k q w c PL):(PL.map (·.XZ)).Nodup:=by
 have:=h.oc.nd;rw [List.map_map] at this;exact this
def eR (p:VN):VN:=bif decide (aM .i64 p.XT 8=0) then ⟨p.XZ,p.XT,p.Value,v0,v0⟩ else ⟨p.XZ,p.XT,v0,p.Yc,p.Yd⟩
def zeroP:VN:=⟨⟨0,0,⟨#[]⟩⟩,0,v0,v0,v0⟩
def bZ (PL:List VN)(key:Vy):VN×Bool:=match PL.find? (fun p=>decide (p.XZ=key)) with
 |some p=>(p,true)
 |none=>(zeroP,false)
theorem wk {key:Vy}(h:∀p∈PL,p.XZ≠key):bZ PL key=(zeroP,false):=by
 unfold bZ;rw [List.find?_eq_none.2 fun p a=>by simp [h p a]]
theorem wi (i:(PL.map (·.XZ)).Nodup){n:Nat}(c:PL[n]? =some p):bZ PL p.XZ=(p,true):=by
 have hm:=W4 c
 cases e:PL.find? (fun x=>decide (x.XZ=p.XZ)) with
 |none=>exact absurd (List.find?_eq_none.1 e p hm) (by simp)
 |some x=>
  have l:x.XZ=p.XZ:=by simpa using List.find?_some e
  have j:=List.mem_of_find?_eq_some e;obtain ⟨m,a⟩:=List.getElem?_of_mem j;have f:=WH.1 a;have d:=WH.1 c;have:m=n:=(List.getElem_inj (h₀:=by rw [XK];exact f.1) (h₁:=by rw [XK];exact d.1) i).1 (by rw [WN,WN,f.2,d.2,l]);subst this;have:x=p:=Xx (a.symm.trans c);subst this;unfold bZ;rw [e]
section
variable {N:Nat}(e:v.no=7)(a:v.N=i){q:Nat}(o:k<=580){w:VK}(u:c.XP.length<=2200)(h:Obj N i k q w c PL)
include e a o u h
theorem acM:gZ N w v=some c:=by
 have hi:=lZ (h.wd.pl.hb.small) h.has;rw [GN h.wd o u (x:=v) (by unfold aZ;rw [e];rfl) (by rw [a];exact hi) (by rw [a];exact h.has),a,h.at_]
theorem jn:ia N w v=some (.inr ⟨c,w,v⟩):=by
 obtain ⟨z,f,d⟩:=h.oc.proto;have j:=(WH.1 f).1
 have i:ak c.XQ 0=some z:=by unfold ak;exact f
 unfold ia;rw [VQ e,nt,cf,acM e a o u h,bs,VR (show¬(c.XQ.length:Int)=0 by omega),cf,i,bs,bs];rcases d with d|d<;>rw [d]<;>rfl
omit e a in
theorem Nh {n:Nat}(i:PL[n]? =some p):qY N ⟨c,w,v⟩ (n:Int) p.XZ p.XT=some p:=by
 have q:=(WH.1 i).1;have hnum:=h.num;have z:=h.len;obtain ⟨x,l,m⟩:=h.each n p i
 have t:ak c.XQ ((n:Int)+1)=some x:=by
  unfold ak;rw [if_neg W,show ((n:Int)+1).toNat=n+1 by omega];exact l
 unfold qY;rw [r64 W W];show (bif decide ((c.XQ.length:Int)<=(n:Int)+1) then _ else _)=_;rw [VR W,cf,r64 W W];show Option.bind (ak c.XQ ((n:Int)+1)) _=_;rw [t,bs];rcases m with ⟨f,s2,e,d, -⟩|⟨f,s2,a,ag,e,d,j⟩
 ·rw [VQ f,ct];refine congrArg some ?_;rw [<-s2,show (⟨0,0,⟨#[]⟩⟩:VH)=p.Yc from e.symm];have:p.Yc=p.Yd:=e.trans d.symm
  conv=>lhs;arg 5;rw [this]
 have hi:=lZ (h.wd.pl.hb.small) d;subst e;rw [VR f,cf];show Option.bind (gZ N w _) _=_;rw [GN h.wd o u (x:=⟨9,a,⟨#[]⟩⟩) rfl hi d,bs,j];show some (⟨p.XZ,p.XT,v0,p.Yc,p.Yd⟩:VN)=some p;rw [<-s2]
end
end
section
open Go.RowKit
set_option maxRecDepth 20000
section
variable {N:Nat}(B:20000<=N)(z:v.no=7)(a:v.N=i){q:Nat}(o:k<=580){w:VK}(u:c.XP.length<=2200)(h:Obj N i k q w c PL)
include B o u h
def acT (PL:List VN)(key:Vy)(r:VN×Int×Bool):Prop:=(r=(zeroP,0,false)/\ ∀p∈PL,p.XZ≠key)\/ ∃(n:Nat) (p:VN),r=(p,(n:Int),true)/\PL[n]? =some p/\p.XZ=key
theorem BV (key:Vy):Sat (kJ N ⟨c,w,v⟩ key) (acT PL key):=by
 unfold kJ my;rw [bs];have q:=h.len;refine (BQ N W h.wd.ti h.oc.row key).bind fun z d=> ?_
 rcases d with ⟨rfl,d⟩|⟨n,i,l,f⟩
 ·show Sat (some ((zeroP,0,false):VN×Int×Bool)) _;refine ar ?_;left;refine ⟨J,fun p a e=> ?_⟩;exact d (fH p) (List.mem_map_of_mem a) e
 rw [WI] at f;obtain ⟨p,a,e⟩:=Option.map_eq_some_iff.1 f;have j:p.XZ=key:=congrArg Prod.fst e;have A:p.XT=z.2.1:=congrArg Prod.snd e
 have t:qY N ⟨c,w,v⟩ z.1 key z.2.1=some p:=by rw [i, <-A, <-j];exact Nh o u h a
 rw [l];show Sat (Option.bind _ _) _;refine Sat.bind (P:=(· =p)) ⟨p,t,J⟩ fun y m=> ?_
 subst m;refine ar ?_;right;exact ⟨n,y,by rw [i],a,j⟩
include z a
theorem ab8 (key:Vy):zH N w v key=some (bZ PL key):=by
 unfold zH;rw [jn z a o u h,bs];show Option.bind (kJ N ⟨c,w,v⟩ key) _=_;obtain ⟨r,e,hr⟩:=BV (v:=v) B o u h key;rw [e,bs];rcases hr with ⟨rfl,hr⟩|⟨n,p,rfl,d,rfl⟩
 ·rw [wk hr]
 rw [wi h.nodup d]
omit z a in
theorem Na: ∀(m j:Nat),PL.length<m+j->j<=PL.length->yt N ((PL.map fH).map (·.1)) ((PL.map fH).map (·.2)) ⟨c,w,v⟩ w m (PL.take j) (j:Int)=some PL
 |0,j,i,f=>by have _:=B;omega
 | m+1,j,i,f=>by
  have e:=h.len;rw [yt.eq_2];rcases Xp j PL.length with a|a
  ·have d:PL[j]? =some PL[j]:=WF a
   have p:ak ((PL.map fH).map (·.1)) (j:Int)=some PL[j].XZ:=by rw [bz (by rw [XK,XK];exact a),WN,WN];rfl
   have n:ak ((PL.map fH).map (·.2)) (j:Int)=some PL[j].XT:=by rw [bz (by rw [XK,XK];exact a),WN,WN];rfl
   rw [XK,XK,bG W,ct,p,bs,n,bs,Nh (v:=v) o u h d,bs,ce (by rw [XJ,WU];omega),r64 W W]
   have l:PL.take j++([PL[j]]:List VN)=PL.take (j+1):=by rw [List.take_add_one,d];rfl
   rw [l];exact Na m (j+1) W a
  rw [XK,XK,bI W,cf,Xf W];rfl
theorem UF:rH N w v=some PL:=by
 unfold rH;have d:=h.len;rw [jn z a o u h,bs];show Option.bind (qW N w.Ya c.XV) _=_;rw [UR N W h.wd.ti h.oc.row,bs];show Option.bind (nF N w.Ya c.XV) _=_;rw [Ng N W h.wd.ti h.oc.row,bs];exact Na B o u h N 0 W W
end
structure PropW (m:Vw) (p:VN):Prop where
 v:ValW m p.Value/\p.Value.no≠9
 g:ValW m p.Yc/\ni p.Yc
 s:ValW m p.Yd/\ni p.Yd
structure FrW (w w':VK):Prop where
 roots:w'.XX.Yb=w.XX.Yb
 has: ∀a,az w.XX.m_ a=true->az w'.XX.m_ a=true
 spent:w'.Yj=w.Yj
 config:w'.Ye=w.Ye
theorem FrW.refl (w:VK):FrW w w:=⟨rfl,fun _ h=>h,rfl,rfl⟩
theorem FrW.trans {a b c:VK}(h:FrW a b)(d:FrW b c):FrW a c:=⟨d.roots.trans h.roots,fun x e=>d.has x (h.has x e),d.spent.trans h.spent,d.config.trans h.config⟩
theorem ValW.mono {m':Vw}(hm:∀a,az m a=true->az m' a=true)(h:ValW m x):ValW m' x:=⟨h.may,h.i64,fun hb=>hm _ (h.ref hb)⟩
structure Slotted (N k q M:Nat) (w:VK) (p:VN) (old:VH) (r:VH×VK):Prop where
 wd:Wd N (k+3) q M r.2
 fr:FrW w r.2
 tab:r.2.Ya=w.Ya
 val:ValW r.2.XX.m_ r.1
 slot:SlotP r.2.XX.m_ (eR p) r.1
 fresh:r.1.no=9->r.1=old\/az w.XX.m_ r.1.N=false
 rest: ∀a,az w.XX.m_ a=true->(old.no=9->old.N≠a)->am r.2.XX.m_ a=am w.XX.m_ a
 ep:r.2.Yh=w.Yh
theorem Oy {a:Int}(h:1<=a):dm ⟨9,a,⟨#[]⟩⟩=true:=by
 unfold dm iG;rw [show ((⟨9,a,⟨#[]⟩⟩:VH).S.toList==(⟨#[]⟩:ByteArray).toList)=true from beq_self_eq_true _];show (Option.getD (some (decide (1<=a))) false)=true;rw [VQ h];rfl
theorem FW (h:¬aM .i64 p.XT 8=0):eR p=⟨p.XZ,p.XT,v0,p.Yc,p.Yd⟩:=by
 unfold eR;rw [VR h];rfl
theorem Fv (h:aM .i64 p.XT 8=0):eR p=⟨p.XZ,p.XT,p.Value,v0,v0⟩:=by
 unfold eR;rw [VQ h];rfl
theorem Oq {N:Nat}(j:20000<=N){w:VK}(d:Pl w.XX)(a:aZ x=true)(f:az w.XX.m_ x.N=true)(i:c.XQ.length<=600/\c.XP.length<=2900)(hr:bT c=true):lF N w x c=some (lw w (cl w.XX x.N c)):=by
 have e:nS N x=some (aZ x):=by
  unfold nS aZ;cases decide (x.no=7)<;>rfl
 unfold lF;rw [e,bs,a,ct,adf W d.hb.small f i,hr];rfl
theorem ac4 {N:Nat}(i:20000<=N){w:VK}(a:Pl w.XX)(j:c.XQ.length<=600/\c.XP.length<=2900)(hr:bT c=true)(d:c.XW=0):mG N w c=some (⟨9,ll w.XX,⟨#[]⟩⟩,lw w (kE w.XX c)):=by
 have ec:(⟨c.no,c.XV,c.XU,0,c.XQ,c.XP⟩:VL)=c:=by rw [<-d]
 have f:=a.hb.small.young
 have e:(((w.XX.m_.XS++ [(⟨c.no,c.XV,c.XU,0,c.XQ,c.XP⟩:VL)]).length:Nat):Int)=(w.XX.m_.XS.length:Int)+1:=by simp
 unfold mG rn fJ;rw [bs,cf,Jm W W,bs,hr,nt,cf,sv N c W,bs,rF (by simp only [WP,WS];omega),e,r64 W W,r64 W W,ec,show 2*((w.XX.m_.XS.length:Int)+1) - 1=ll w.XX by unfold ll;omega,bs];rfl
theorem NR {N:Nat}(C:20000<=N){q:Nat}(E:k+3<=580)(B:M<=2200){w:VK}(h:Wd N k q M w){v':VH}(f:PropW w.XX.m_ p){old:VH}(hold:old.no≠9\/ ∃g s,wx w.XX.m_ old g s):Sat (ul N ⟨c',w,v'⟩ p old) (Slotted N k q M w p old):=by
 unfold ul;refine bq (fun m=>ar ?_) fun m=> ?_
 ·refine ⟨h.up W (Xm _) (Xm _),FrW.refl w,J,f.v.1,?_,fun e=>absurd e f.v.2,fun _ _ _=>J,J⟩;rw [Fv m];exact .inl ⟨m,J,J,J,f.v.2⟩
 have hr:bT (ig p.Yc p.Yd)=true:=Si f.g.1 f.s.1 f.g.2 f.s.2
 have t:wT w.XX.m_ (ig p.Yc p.Yd):=fun x A=>by
  have A:x=p.Yc\/x=p.Yd:=by simpa [ig] using A
  rcases A with rfl|rfl
  ·exact ⟨f.g.1.i64,f.g.1.ref⟩
  exact ⟨f.s.1.i64,f.s.1.ref⟩
 have hide:old.no≠9->Sat ((mG N w (⟨5,0,0,0,([p.Yc,p.Yd]:List VH),[]⟩:VL)).bind fun a6=>some (a6.1,a6.2)) (Slotted N k q M w p old):=fun i=>by
  have hb:Hb (k+3) M (kE w.XX (ig p.Yc p.Yd)):=abf h.hb _ (by show k+1+2<=k+3;omega) (by show M+0<=M;omega);obtain ⟨u,o,n,D⟩:=h.pl.addK E B hr ⟨by show (5:Int)≠8;decide,by show (5:Int)≠10;decide⟩ t hb;have e:=ac4 (c:=ig p.Yc p.Yd) C h.pl (by constructor<;>(show _<=_;simp [ig])) hr rfl;show Sat (Option.bind (mG N w (ig p.Yc p.Yd)) _) _;rw [e,bs];have hi:=lZ u.hb.small n;refine ar ⟨⟨u,hb,h.ti,h.tb,h.ep⟩,⟨J,fun a d=>(o a d).1,J,J⟩,J,⟨?_,hi,fun _=>n⟩,?_,fun _=> .inr (Uk _),fun a d _=>(o a d).2,J⟩
  ·show dm ⟨9,ll w.XX,⟨#[]⟩⟩=true
   have:(1:Int)<=ll w.XX:=by unfold ll;omega
   exact Oy this
  rw [FW m];exact .inr ⟨m,J,ll w.XX,0,J,n,D⟩
 by_cases z:old.no=9
 ·obtain ⟨g,s,a,ag,rfl,d,l⟩: ∃g s,wx w.XX.m_ old g s:=hold.resolve_left fun i=>i z
  have hi:=lZ h.pl.hb.small d;rw [VQ z,ct];show Sat (Option.bind (Option.bind (gZ N w ⟨9,a,⟨#[]⟩⟩) _) _) _;rw [GN h W B (x:=⟨9,a,⟨#[]⟩⟩) rfl hi d,bs,bs];show Sat (bif decide ((am w.XX.m_ a).no=5) then _ else _) _;rw [l,VQ (p:=(5:Int)=5) rfl,ct];have hb:Hb k M (cl w.XX a (ig p.Yc p.Yd)):=MF h.hb d (by rw [l];exact Xm _) (by rw [l];exact Xm _);obtain ⟨u,o,n⟩:=h.pl.putK W B d hr ⟨by show (5:Int)≠8;decide,by show (5:Int)≠10;decide⟩ t hb;have e:=Oq (x:=⟨9,a,⟨#[]⟩⟩) (c:=ig p.Yc p.Yd) C h.pl rfl d (by constructor<;>(show _<=_;simp [ig])) hr;show Sat (Option.bind (lF N w ⟨9,a,⟨#[]⟩⟩ (ig p.Yc p.Yd)) _) _;rw [e,bs];have hold':=h.pl.cells _ (iY d);refine ar ⟨⟨u,hb.up W (Xm _),h.ti,h.tb,h.ep⟩,⟨(vP _ _ _).2.1,fun b hb'=>by rw [show (lw w (cl w.XX a (ig p.Yc p.Yd))).XX.m_=(cl w.XX a (ig p.Yc p.Yd)).m_ from rfl,o];exact hb',rfl,rfl⟩,J,⟨?_,hi,fun _=>(o a).trans d⟩,?_,fun _=> .inl J,fun b hb' i=> ?_,J⟩
  ·have:(1:Int)<=a:=by
    rcases ip d with ⟨j, -,rfl⟩|⟨j, -,rfl⟩<;>omega
   exact Oy this
  ·rw [FW m];refine .inr ⟨m,J,a,ag,J,(o a).trans d,?_⟩;show am (cl w.XX a (ig p.Yc p.Yd)).m_ a=_;rw [n a d,if_pos rfl,l];rfl
  show am (cl w.XX a (ig p.Yc p.Yd)).m_ b=_;rw [n b hb',if_neg fun e=>i rfl e.symm]
 rw [VR z,cf,bs,cf];exact hide z
end
section
open Go.RowKit
set_option maxRecDepth 20000
theorem SlotP.move {m':Vw}(h:SlotP m p x)(d:∀a,x.no=9->x.N=a->az m a=true->(am m a).no=5->az m' a=true/\am m' a=am m a):SlotP m' p x:=by
 rcases h with h|⟨i,f,a,ag,rfl,e,c⟩
 ·exact .inl h
 obtain ⟨l,j⟩:=d a rfl rfl e (by rw [c]);exact .inr ⟨i,f,a,ag,J,l,j.trans c⟩
theorem SlotP.has9 (h:SlotP m p x)(d:x.no=9):(∃g s,wx m x g s)/\az m x.N=true:=by
 rcases h with ⟨-, -, -, -,h⟩|⟨-, -,a,ag,rfl,c,e⟩
 ·exact absurd d h
 exact ⟨⟨_,_,a,ag,J,c,e⟩,c⟩
theorem Obj.pair9 {N q:Nat}{w:VK}(h:Obj N i k q w c PL){n:Nat}(a:c.XQ[n+1]? =some x)(l:x.no=9):(∃g s,wx w.XX.m_ x g s)/\az w.XX.m_ x.N=true:=by
 have j:=(WH.1 a).1
 have f:n<PL.length:=by have:=h.num;omega
 obtain ⟨y,d,e⟩:=h.each n PL[n] (WF f);have:y=x:=Xx (d.symm.trans a);subst this;exact e.has9 l
structure FrO (i:Int) (w w':VK) (c c':VL):Prop where
 fr:FrW w w'
 le:Le w.Ya w'.Ya
 rest: ∀a,az w.XX.m_ a=true->a≠i->(∀(n:Nat) x,c.XQ[n+1]? =some x->x.no=9->x.N≠a)->am w'.XX.m_ a=am w.XX.m_ a
 new: ∀(n:Nat) x,c'.XQ[n+1]? =some x->x.no=9->(∃n':Nat,c.XQ[n'+1]? =some x)\/az w.XX.m_ x.N=false
theorem FrO.refl (i:Int)(w:VK)(c:VL):FrO i w w c c:=⟨FrW.refl w,Le.refl _,fun _ _ _ _=>rfl,fun n _ h _=> .inl ⟨n,h⟩⟩
structure Same (c c':VL):Prop where
 kind:c'.no=c.no
 more:c'.XP=c.XP
 flags:c'.XU=c.XU
 head:c'.XQ[0]? =c.XQ[0]?
theorem BC {N:Nat}(A:20000<=N)(t:v.no=7)(a:v.N=i){q:Nat}(u:k'<=580)(B:M'<=2200){w:VK}(hw:Wd N k q M w)(d:az w.XX.m_ i=true)(m:am w.XX.m_ i=c)(hage:c'.XW=c.XW)(l:c'.no=1\/c'.no=2)(hr:bT c'=true)(j:wT w.XX.m_ c')(D:k+c'.XQ.length<=k'+c.XQ.length)(C:M+c'.XP.length<=M'+c.XP.length):
  lF N w v c'=some (lw w (cl w.XX i c'))/\Wd N k' q M' (lw w (cl w.XX i c'))/\FrW w (lw w (cl w.XX i c'))/\(∀x,az w.XX.m_ x=true->am (cl w.XX i c').m_ x=if x=i then c' else am w.XX.m_ x):=by
 have hb:Hb k' M' (cl w.XX i c'):=MF hw.hb d (by rw [m];exact D) (by rw [m];exact C);obtain ⟨p,o,n⟩:=hw.pl.putK u B d hr (by rcases l with h|h<;>constructor<;>omega) j hb
 have ec:ju c' (am w.XX.m_ i).XW=c':=by rw [m, <-hage];rfl
 have f:c'.XQ.length<=600/\c'.XP.length<=2900:=by
  have z:az (cl w.XX i c').m_ i=true:=(o i).trans d;have:=hb.cell (iY z);rw [n i d,if_pos rfl,ec] at this;omega
 refine ⟨?_,⟨p,hb,hw.ti,hw.tb,hw.ep⟩,⟨(vP _ _ _).2.1,fun x e=>(o x).trans e,J,J⟩,fun x e=>by rw [n x e,ec]⟩;have:=Oq (x:=v) A hw.pl (by unfold aZ;rw [t];rfl) (by rw [a];exact d) f hr;rw [this,a]
def dT (c:VL):Bool:=!decide (aM .i64 c.XU 16=0)
def lc (t:Bool)(w:VK):VK:=⟨w.Yj,w.Ye,(),w.XX,w.Ya,w.Yk,w.Yh+(bif t then 1 else 0),w.Yr,w.Ys,w.Yl,w.Ym⟩
theorem F6 (w:VK):lc false w=w:=by
 show (⟨w.Yj,w.Ye,(),w.XX,w.Ya,w.Yk,w.Yh+0,w.Yr,w.Ys,w.Yl,w.Ym⟩:VK)=w;rw [Int.add_zero]
theorem Bo {N:Nat}{w:VK}(a:lF N w v c'=some w')(c:0<=w'.Yh/\w'.Yh<=2000000000)(b:Bool):jU N ⟨c',w,v⟩ b=some ⟨c',lc (b&&dT c') w',v⟩:=by
 unfold jU;have e:nD N w v c'=some w':=a;show Option.bind (nD N w v c') _=_;rw [e,bs];show Option.bind (bif b then (some (dT c')) else (some false)) _=_
 have eT:ui N w'=some (lc true w'):=by
  unfold ui;rw [ce (by constructor<;>omega)];rfl
 cases b with
 |false=>rw [cf,bs,cf,Bool.false_and,F6]
 |true=>
  rw [ct,bs,Wb]
  cases dT c' with
  |false=>rw [cf,F6]
  |true=>rw [ct,eT,bs]
def eV (PL:List VN)(p:VN):List VN:=match PL.findIdx? (fun x=>decide (x.XZ=p.XZ)) with
 |some n=>PL.set n p
 |none=>PL++ [p]
theorem Gb (h:∀x∈PL,x.XZ≠p.XZ):eV PL p=PL++ [p]:=by
 unfold eV;rw [List.findIdx?_eq_none_iff.2 fun x a=>by simp [h x a]]
theorem F2 (i:(PL.map (·.XZ)).Nodup){n:Nat}{x:VN}(d:PL[n]? =some x)(e:x.XZ=p.XZ):eV PL p=PL.set n p:=by
 have f:=WH.1 d
 cases c:PL.findIdx? (fun x=>decide (x.XZ=p.XZ)) with
 |none=>exact absurd e (by simpa using List.findIdx?_eq_none_iff.1 c x (W4 d))
 |some m=>
  obtain ⟨j,a, -⟩:=List.findIdx?_eq_some_iff_getElem.1 c
  have a:PL[m].XZ=p.XZ:=by simpa using a
  have:m=n:=(List.getElem_inj (h₀:=by rw [XK];exact j) (h₁:=by rw [XK];exact f.1) i).1 (by rw [WN,WN,a,f.2,e]);subst this;unfold eV;rw [c]
section
variable {N:Nat}(u:20000<=N)(B:v.no=7)(o:v.N=i){q:Nat}{w:VK}(h:Obj N i k q w c PL)
include u B o h
theorem N1 (hk:k+4<=580)(hM:c.XP.length<=2200)(hq':q+1<=q')(hq2:q'<=1000000000)(ht:TI N t)(hle:Le w.Ya t)(htb:t.Ya.length<=q'){old:VH}{r:VH×VK}(hr:Slotted N k q' c.XP.length (tq w t) p old r){n:Nat}(hold:old.no≠9\/c.XQ[n+1]? =some old)(sh:Int)(sl:List VH)(PL':List VN)(hrow:Row t sh (PL'.map fH))(hnd:(PL'.map (·.XZ)).Nodup)(hnum:sl.length=PL'.length+1)(hn:PL'.length<=PL.length+1)(hn2:PL'.length<=1024)(h0:sl[0]? =c.XQ[0]?)(U:sl[n+1]? =some r.1)(h2:PL'[n]? =some (eR p))(M:∀m,m≠n->sl[m+1]? =c.XQ[m+1]?)(h4:∀m,m≠n->PL'[m]? =PL[m]?)(b:Bool):
  ∃w',jU N ⟨⟨c.no,sh,c.XU,c.XW,sl,c.XP⟩,r.2,v⟩ b=some ⟨⟨c.no,sh,c.XU,c.XW,sl,c.XP⟩,w',v⟩/\Obj N i (k+4) q' w' ⟨c.no,sh,c.XU,c.XW,sl,c.XP⟩ PL'/\FrO i w w' c ⟨c.no,sh,c.XU,c.XW,sl,c.XP⟩/\w'.Yh=w.Yh+(bif b&&dT c then 1 else 0):=by
 have P:=pU h.right;have hnum0:=h.num;have hi:az r.2.XX.m_ i=true:=hr.fr.has i h.has
 have hne:old.no=9->old.N≠i:=fun l e=>by
  rcases hold with j|j
  ·exact j l
  obtain ⟨⟨g,s,a,ag,e1,L,T⟩, -⟩:=h.pair9 j l;rw [e1] at e;have e:a=i:=e;rw [e,h.at_] at T;rcases h.oc.kind with f|f<;>rw [T] at f<;>cases f
 have R:am r.2.XX.m_ i=c:=(hr.rest i h.has hne).trans h.at_;obtain ⟨z,z1,z2⟩:=h.oc.proto
 have hmem: ∀x∈sl,x∈c.XQ\/x=r.1:=fun x d=>by
  obtain ⟨m,hm⟩:=List.getElem?_of_mem d
  cases m with
  |zero=>rw [h0] at hm;exact .inl (W4 hm)
  |succ m=>
   by_cases e:m=n
   ·subst e;exact .inr (Xx (hm.symm.trans U))
   rw [M m e] at hm;exact .inl (W4 hm)
 have hval: ∀x∈sl++c.XP,ValW r.2.XX.m_ x:=fun x d=>by
  rcases WY.1 d with d|d
  ·rcases hmem x d with d|rfl
   ·exact (h.val (VU _ d)).mono hr.fr.has
   exact hr.val
  exact (h.val (VV _ d)).mono hr.fr.has
 have hR:bT (⟨c.no,sh,c.XU,c.XW,sl,c.XP⟩:VL)=true:=by
  obtain ⟨s',V, -⟩:=hrow.has ht;refine Ay h.oc.kind V.1 P.2.1 P.2.2 (fun x d=>(hval x (VU _ d)).may) (fun x d=>(hval x (VV _ d)).may) (by show sl.length<=1025;omega) (z:=z) (by show sl[0]? =some z;rw [h0];exact z1) z2 (by show c.XP.length<=4096;omega) h.oc.plain
 obtain ⟨e1,L,T,e4⟩:=BC (k':=k+4) (M':=c.XP.length) u B o W hM hr.wd hi R (c':=⟨c.no,sh,c.XU,c.XW,sl,c.XP⟩) rfl h.oc.kind hR (fun x d=>⟨(hval x d).i64,(hval x d).ref⟩) (by show k+3+sl.length<=k+4+c.XQ.length;omega) (Xm _);have A:FrW w (lw r.2 (cl r.2.XX i ⟨c.no,sh,c.XU,c.XW,sl,c.XP⟩)):=FrW.trans (b:=r.2) ⟨hr.fr.roots,hr.fr.has,hr.fr.spent,hr.fr.config⟩ T
 -- cells of pairs that are not written stay
 have hkeep: ∀a,az w.XX.m_ a=true->a≠i->(old.no=9->old.N≠a)->am (cl r.2.XX i (⟨c.no,sh,c.XU,c.XW,sl,c.XP⟩:VL)).m_ a=am w.XX.m_ a:=fun a H K j=>by
  rw [e4 a (hr.fr.has a H),if_neg K,hr.rest a H j];rfl
 have hep:r.2.Yh=w.Yh:=hr.ep;have hep0:=h.wd.ep;refine ⟨_,Bo e1 (by show 0<=r.2.Yh/\r.2.Yh<=2000000000;omega) b,⟨⟨L.pl,L.hb,?_,?_,?_⟩,A.has i h.has,?_,⟨h.oc.kind,⟨z,by show sl[0]? =some z;rw [h0];exact z1,z2⟩,h.oc.plain,?_,?_,?_⟩,fun m X hp'=> ?_,fun m m' x y Q d F l D=> ?_⟩,⟨⟨A.roots,A.has,A.spent,A.config⟩,?_,fun a H K hp=> ?_,fun m x d l=> ?_⟩,?_⟩
 ·show TI N r.2.Ya;rw [hr.tab];exact ht
 ·show r.2.Ya.Ya.length<=q';rw [hr.tab];exact htb
 ·show 0<=r.2.Yh+_/\r.2.Yh+_<=(q':Int);cases (b&&dT (⟨c.no,sh,c.XU,c.XW,sl,c.XP⟩:VL))
  ·show 0<=r.2.Yh+0/\r.2.Yh+0<=(q':Int);omega
  show 0<=r.2.Yh+1/\r.2.Yh+1<=(q':Int);omega
 ·show am (cl r.2.XX i _).m_ i=_;rw [e4 i hi,if_pos rfl]
 ·show Row r.2.Ya sh _;rw [hr.tab];exact hrow
 ·show sl.length=(PL'.map fH).length+1;rw [XK];exact hnum
 ·rw [List.map_map];exact hnd
 ·show∃x,sl[m+1]? =some x/\SlotP (cl r.2.XX i _).m_ X x;by_cases e:m=n
  ·subst e;have:X=eR p:=Xx (hp'.symm.trans h2);subst this;refine ⟨r.1,U,hr.slot.move fun a _ _ H S=>⟨T.has a H,?_⟩⟩;show am (cl r.2.XX i _).m_ a=_;rw [e4 a H,if_neg fun e=> ?_];subst e;rw [R] at S;rcases h.oc.kind with f|f<;>rw [S] at f<;>cases f
  rw [h4 m e] at hp';obtain ⟨x,d,hs⟩:=h.each m X hp';refine ⟨x,(M m e).trans d,hs.move fun a l Z H S=>⟨A.has a H,hkeep a H (fun e=> ?_) fun E O=> ?_⟩⟩
  ·subst e;rw [h.at_] at S;rcases h.oc.kind with f|f<;>rw [S] at f<;>cases f
  rcases hold with j|j
  ·exact j E
  exact h.inj n m old x (fun L=>e L.symm) j d E l (O.trans Z.symm)
 ·have d:sl[m+1]? =some x:=d;have F:sl[m'+1]? =some y:=F
  have aux: ∀(a b:Nat) (x y:VH),a=n->b≠n->sl[a+1]? =some x->sl[b+1]? =some y->x.no=9->y.no=9->x.N≠y.N:=fun a b x y ea eb d F l D e=>by
   subst ea;rw [M b eb] at F;have:r.1=x:=Xx (U.symm.trans d);subst this;have a6:=(h.pair9 F D).2;rcases hr.fresh l with C|C
   ·rcases hold with j|j
    ·rw [C] at l;exact j l
    exact h.inj a b old y (fun L=>eb L.symm) j F (by rw [<-C];exact l) D (by rw [<-C];exact e)
   have C:az w.XX.m_ r.1.N=false:=C;rw [e,a6] at C;cases C
  by_cases e:m=n
  ·exact aux m m' x y e (fun O=>Q (e.trans O.symm)) d F l D
  by_cases O:m'=n
  ·exact fun h=>aux m' m y x O e F d D l h.symm
  rw [M m e] at d;rw [M m' O] at F;exact h.inj m m' x y Q d F l D
 ·show Le w.Ya r.2.Ya;rw [hr.tab];exact hle
 ·refine hkeep a H K fun E e=> ?_
  rcases hold with j|j
  ·exact j E
  exact hp n old j E e
 ·have d:sl[m+1]? =some x:=d;by_cases e:m=n
  ·subst e;have:r.1=x:=Xx (U.symm.trans d);subst this;rcases hr.fresh l with C|C
   ·rcases hold with j|j
    ·rw [C] at l;exact absurd l j
    exact .inl ⟨m,by rw [C];exact j⟩
   exact .inr C
  rw [M m e] at d;exact .inl ⟨m,d⟩
 show r.2.Yh+(bif b&&dT c then 1 else 0)=_;rw [hep]
end
end
section
open Go.RowKit
set_option maxRecDepth 20000
theorem LO {q:List α}{n:Nat}{a:α}(h:q[n]? =some a):q.set n a=q:=by
 apply Wu;intro j;by_cases e:n=j
 ·subst e;rw [WK (WH.1 h).1,h]
 rw [WJ e]
theorem Lm (p:VN):(eR p).XZ=p.XZ/\(eR p).XT=p.XT:=by
 unfold eR;cases decide (aM .i64 p.XT 8=0)<;>exact ⟨rfl,rfl⟩
def Ep (c c':VL)(w w':VK):Prop:=w'.Yh=w.Yh+(bif !decide (c'.XV=c.XV)&&dT c then 1 else 0)
theorem Row.one {d:List (Vy×Int)}(r:Row t i l)(r':Row t i d):l=d:=by
 induction r generalizing d with
 | nil c j=>
  cases r' with
  |nil=>rfl
  |snoc a e _=>
   have:=c.one a;subst this;omega
 | snoc c j _ f=>
  cases r' with
  |nil a e=>
   have:=c.one a;subst this;omega
  |snoc a e r'=>
   have:=c.one a;subst this;rw [f r']
def qB (i:Int)(k q:Nat)(w:VK)(c:VL)(PL':List VN)(w':VK):Prop:= ∃c',Obj N i k q w' c' PL'/\Same c c'/\FrO i w w' c c'/\Ep c c' w w'
section
variable {N:Nat}(B:20000<=N)(E:v.no=7)(o:v.N=i){q:Nat}{w:VK}(h:Obj N i k q w c PL)(F:k+4<=580)(H:q+1024<=1000000000)(D:c.XP.length<=2200)
include B E o h F H D
theorem NE (hp:PropW w.XX.m_ p)(hR:keyR N p.XZ)(hA:gT p.XT)(hlen:PL.length<1024):Sat (rf N ⟨c,w,v⟩ p) fun r=>r.1=true/\qB N i (k+4) (q+1024) w c (eV PL (eR p)) r.2.w_:=by
 have hb:w.Ya.Ya.length+1024<=1073741824:=by have:=h.wd.tb;omega
 have hnum:=h.num
 have R: ∀t:VC,Le w.Ya t->TI N t->t.Ya.length<=q+1024->Wd N k (q+1024) c.XP.length (tq w t):=fun t _ h2 h3=>⟨h.wd.pl,h.wd.hb,h2,h3,h.wd.ep.1,by have:=h.wd.ep.2;show w.Yh<=_;omega⟩
 unfold rf;show Sat (Option.bind (kJ N ⟨c,w,v⟩ p.XZ) _) _;refine (BV (v:=v) B W D h p.XZ).bind fun y hy=> ?_
 rcases hy with ⟨a6,L⟩|⟨n,u,a6,V,S⟩
 ·have X:y.2.2=false:=by rw [a6]
  rw [X,nf,ct];obtain ⟨s,s1,s2⟩:=h.oc.row.has h.wd.ti;rw [XK] at s2;refine Sat.bind (P:=(· =s.Yo)) ⟨_,GK N s1,J⟩ fun z hz=> ?_
  subst hz;refine bq (fun h3=>by omega) fun h3=> ?_
  refine (aaR N W h.wd.ti hb h.oc.row p.XZ p.XT (fun x K=> ?_) (by rw [XK];omega)).bind fun r hr=> ?_
  ·obtain ⟨x',h1,rfl⟩:=W3.1 K;exact L x' h1
  rcases hr with ⟨-, -,Z,C,Q⟩|⟨r1, -, -⟩
  ·rw [Z];show Sat (Option.bind _ _) _
   have f:r.2.2.Ya.length<=q+1024:=by have:=C.num;have:=h.wd.tb;omega
   refine (NR (w:=tq w r.2.2) (k:=k) B W D (R _ C.le C.ti f) (c':=⟨c.no,r.1,c.XU,c.XW,c.XQ,c.XP⟩) (v':=v) hp (old:=⟨0,0,⟨#[]⟩⟩) (.inl (by show (0:Int)≠9;decide))).bind fun x K=> ?_
   refine bf (by unfold bC;rw [WU];show c.XQ.length+1<=_;have:=h.len;omega) ?_;unfold DG;have d:=Lm p
   obtain ⟨w',e1,M,e3,e4⟩:=N1 B E o h F D (q':=q+1024) W H C.ti C.le f K (n:=PL.length) (.inl (by show (0:Int)≠9;decide)) r.1 (c.XQ++ [x.1]) (PL++ [eR p])
    (by rw [WV];show Row r.2.2 r.1 (PL.map fH++ [((eR p).XZ,(eR p).XT)]);rw [d.1,d.2];exact Q)
    (by
     rw [WV];refine W9.2 ⟨h.nodup,by simp,fun a ha b hb' e=> ?_⟩;rw [List.map_singleton,W8,d.1] at hb';obtain ⟨u,u1,u2⟩:=W3.1 ha;exact L u u1 (by rw [u2,e,hb']))
    (by rw [XI,XI,WU,WU];omega)
    (by rw [XI,WU];omega) (by rw [XI,WU];omega)
    (by rw [WA W])
    (by rw [WB W,show PL.length+1 - c.XQ.length=0 by omega];rfl)
    (by rw [WB (Xm _),Xr];rfl)
    (fun m hm=>by
     by_cases j:m<PL.length
     ·rw [WA W]
     ·rw [WG (by rw [XI,WU];omega),WG W])
    (fun m hm=>by
     by_cases j:m<PL.length
     ·rw [WA j]
     ·rw [WG (by rw [XI,WU];omega),WG W]) true
   have O:jU N ⟨⟨c.no,r.1,c.XU,c.XW,c.XQ++ [x.1],c.XP⟩,x.2,v⟩ true=some ⟨⟨c.no,r.1,c.XU,c.XW,c.XQ++ [x.1],c.XP⟩,w',v⟩:=e1
   refine Sat.bind ⟨_,O,J⟩ fun u S=> ?_
   subst S;refine ar ⟨J,⟨c.no,r.1,c.XU,c.XW,c.XQ++ [x.1],c.XP⟩,?_,⟨J,J,J,?_⟩,e3,?_⟩
   ·rw [Gb fun a ha=>by rw [d.1];exact L a ha];exact M
   ·show (c.XQ++ [x.1])[0]? =c.XQ[0]?;rw [WA W]
   unfold Ep;rw [VR fun e:r.1=c.XV=> ?_]
   ·exact e4
   have U:=Q;rw [e] at U;have:=congrArg List.length (U.one (h.oc.row.mono C.le));rw [XI,WU] at this;omega
  exact absurd ⟨hR,hA⟩ r1
 have y1:y.1=u:=by rw [a6]
 have y2:y.2.1=(n:Int):=by rw [a6]
 have X:y.2.2=true:=by rw [a6]
 rw [X,nt,cf];have j:=(WH.1 V).1;have d:=Lm p;have hl:=h.len
 have e0:(PL.map fH)[n]? =some (p.XZ,u.XT):=by rw [WI,V, <-S];rfl
 have hset:(PL.set n (eR p)).map fH=(PL.map fH).set n (p.XZ,p.XT):=by
  rw [List.map_set];show (PL.map fH).set n ((eR p).XZ,(eR p).XT)=_;rw [d.1,d.2]
 have hj81: ∀(sh:Int) (t':VC),Grow N w.Ya t' 1024->Row t' sh ((PL.map fH).set n (p.XZ,p.XT))->(sh=c.XV↔u.XT=p.XT)->Sat (ue N y p ⟨c,w,v⟩ sh (tq w t')) fun r=>r.1=true/\qB N i (k+4) (q+1024) w c (eV PL (eR p)) r.2.w_:=by
  intro sh t' A hrow hsh
  have f:t'.Ya.length<=q+1024:=by have:=A.num;have:=h.wd.tb;omega
  unfold ue;rw [y1,y2];refine bf (by show in64 ((n:Int)+1);constructor<;>omega) (bf (by show in64 ((n:Int)+1);constructor<;>omega) (kP (by show 0<=(n:Int)+1;omega) (by show (n:Int)+1<c.XQ.length;omega) fun x K=> ?_));have K:c.XQ[((n:Int)+1).toNat]? =some x:=K;rw [show ((n:Int)+1).toNat=n+1 by omega] at K;refine (NR (w:=tq w t') (k:=k) B W D (R _ A.le A.ti f) (c':=⟨c.no,sh,c.XU,c.XW,c.XQ,c.XP⟩) (v':=v) hp (old:=x) ?_).bind fun r hr=> ?_
  ·by_cases T:x.no=9
   ·exact .inr (h.pair9 K T).1
   exact .inl T
  refine kP (by show 0<=(n:Int)+1;omega) (by show (n:Int)+1<c.XQ.length;omega) fun x' _=> ?_
  have hlen:(c.XQ.set (n+1) r.1).length=c.XQ.length:=WT ..
  obtain ⟨w',e1,M,e3,e4⟩:=N1 B E o h F D (q':=q+1024) W H A.ti A.le f hr (n:=n) (.inr K) sh (c.XQ.set (n+1) r.1) (PL.set n (eR p))
   (by rw [hset];exact hrow)
   (by
    have:(PL.set n (eR p)).map (·.XZ)=PL.map (·.XZ):=by
     rw [List.map_set];refine LO ?_;rw [WI,V,d.1, <-S];rfl
    rw [this];exact h.nodup)
   (by rw [hlen,WT];omega) (by rw [WT];omega) (by rw [WT];omega)
   (by rw [WJ W]) (WK W) (WK j)
   (fun m hm=>by rw [WJ W]) (fun m hm=>by rw [WJ W]) (!decide (u.XT=p.XT))
  have O:jU N ⟨⟨c.no,sh,c.XU,c.XW,List.set c.XQ (((n:Int)+1).toNat) (⟨r.1.no,r.1.N,r.1.S⟩:VH),c.XP⟩,r.2,v⟩ (!decide (u.XT=p.XT))=some ⟨⟨c.no,sh,c.XU,c.XW,c.XQ.set (n+1) r.1,c.XP⟩,w',v⟩:=by
   rw [show ((n:Int)+1).toNat=n+1 by omega];exact e1
  refine Sat.bind ⟨_,O,J⟩ fun z hz=> ?_
  subst hz;refine ar ⟨J,⟨c.no,sh,c.XU,c.XW,c.XQ.set (n+1) r.1,c.XP⟩,?_,⟨J,J,J,?_⟩,e3,?_⟩
  ·rw [F2 h.nodup V (by rw [d.1];exact S)];exact M
  ·show (c.XQ.set (n+1) r.1)[0]? =c.XQ[0]?;rw [WJ W]
  unfold Ep;rw [show decide ((⟨c.no,sh,c.XU,c.XW,c.XQ.set (n+1) r.1,c.XP⟩:VL).XV=c.XV)=decide (u.XT=p.XT) from decide_eq_decide.2 hsh];exact e4
 rw [y1];refine BD (fun e=> ?_) fun e=> ?_
 ·refine (Tx N W h.wd.ti hb h.oc.row h.oc.nd p.XZ p.XT n u.XT e0).bind fun r hr=> ?_
  rcases hr with ⟨-,Z,C,Q⟩|⟨r1, -, -⟩
  ·rw [Z,VQ (p:=(0:Int)=0) rfl,nt,cf];refine hj81 r.1 r.2.2 C Q ⟨fun M=> ?_,fun M=>absurd M (XF e)⟩;have U:=Q;rw [M] at U;have T:=congrArg (fun l=>l[n]?) (U.one (h.oc.row.mono C.le));simp only [WK (show n<(PL.map fH).length by rw [XK];exact j),e0] at T;exact (congrArg Prod.snd (Xx T)).symm
  exact absurd hA r1
 refine hj81 c.XV w.Ya ⟨h.wd.ti,Le.refl _,by omega⟩ ?_ ⟨fun _=>XG e,fun _=>J⟩;rw [LO (by rw [e0,XG e])];exact h.oc.row
end
end
section
open Go.RowKit
set_option maxRecDepth 20000
def dP (c:VL):Bool:=!decide (aM .i64 c.XU 1=0)
def kC (PL:List VN)(key:Vy):List VN:=PL.filter fun p=> !decide (p.XZ=key)
theorem aaS {key:Vy}(h:∀p∈PL,p.XZ≠key):kC PL key=PL:=List.filter_eq_self.2 fun p a=>by simp [h p a]
theorem Gl {key:Vy}: ∀{PL:List VN} {n:Nat} {p:VN},(PL.map (·.XZ)).Nodup->PL[n]? =some p->p.XZ=key->PL.eraseIdx n=kC PL key
 |a::PL,0,p,d,c,e=>by
  have:a=p:=Xx c;subst this;rw [WW,List.nodup_cons] at d
  have i:kC PL key=PL:=aaS fun x j f=>d.1 (W3.2 ⟨x,j,f.trans e.symm⟩)
  unfold kC at i⊢;rw [Ww,VQ e,i];rfl
 |a::PL,n+1,p,d,c,e=>by
  rw [WW,List.nodup_cons] at d;have c:PL[n]? =some p:=c
  have l:a.XZ≠key:=fun f=>d.1 (W3.2 ⟨p,W4 c,e.trans f.symm⟩)
  have:=Gl d.2 c e;unfold kC at this⊢;rw [List.eraseIdx_cons_succ,this,Ww,VR l];rfl
section
variable {N:Nat}(E:20000<=N)(D:v.no=7)(o:v.N=i){q:Nat}{w:VK}(h:Obj N i k q w c PL)
include E D o h
theorem NK (O:k<=580)(m:List VH)(hm:m.length<=2200)(A:∀x∈m,ValW w.XX.m_ x)(a6:c.no=1->m=[])(f:Int)(P:0<=f/\f<=63):
  ∃w',lF N w v ⟨c.no,c.XV,f,c.XW,c.XQ,m⟩=some w'/\Obj N i k q w' ⟨c.no,c.XV,f,c.XW,c.XQ,m⟩ PL/\FrO i w w' c ⟨c.no,c.XV,f,c.XW,c.XQ,m⟩/\w'.Yh=w.Yh:=by
 have l:=pU h.right;have hnum:=h.num;have T:=h.len;obtain ⟨z,H,F⟩:=h.oc.proto
 have hval: ∀x∈c.XQ++m,ValW w.XX.m_ x:=fun x d=>by
  rcases WY.1 d with d|d
  ·exact h.val (VU _ d)
  exact A x d
 have Q:bT (⟨c.no,c.XV,f,c.XW,c.XQ,m⟩:VL)=true:=Ay h.oc.kind l.1 P l.2.2 (fun x d=>(hval x (VU _ d)).may) (fun x d=>(hval x (VV _ d)).may) (by show c.XQ.length<=1025;omega) H F (by show m.length<=4096;omega) a6;obtain ⟨S,R,C,B⟩:=BC (k':=k) (M':=m.length) E D o O hm h.wd h.has h.at_ (c':=⟨c.no,c.XV,f,c.XW,c.XQ,m⟩) rfl h.oc.kind Q (fun x d=>⟨(hval x d).i64,(hval x d).ref⟩) (Xm _) (by show c.XP.length+m.length<=m.length+c.XP.length;omega);refine ⟨_,S,⟨R,C.has i h.has,?_,⟨h.oc.kind,⟨z,H,F⟩,a6,h.oc.row,h.oc.num,h.oc.nd⟩,fun n p M=> ?_,h.inj⟩,⟨C,Le.refl _,fun a t u _=> ?_,fun n x d _=> .inl ⟨n,d⟩⟩,J⟩
 ·show am (cl w.XX i _).m_ i=_;rw [B i h.has,if_pos rfl]
 ·obtain ⟨x,d,L⟩:=h.each n p M;refine ⟨x,d,L.move fun a _ _ t K=>⟨C.has a t,?_⟩⟩;show am (cl w.XX i _).m_ a=_;rw [B a t,if_neg fun e=> ?_];subst e;rw [h.at_] at K;rcases h.oc.kind with j|j<;>rw [K] at j<;>cases j
 show am (cl w.XX i _).m_ a=_;rw [B a t,if_neg u]
variable (F:k+4<=580)(H:q+1024<=1000000000)(B:c.XP.length<=2200)
include F H B
theorem TJ {key:Vy}(f:keyR N key){ok:Bool}(A:nX N (bZ PL key).1 (bZ PL key).2 (dP c) key d=some (p,ok))(t:ok=true->PropW w.XX.m_ p/\p.XZ=key/\gT p.XT)(hlen:PL.length<1024):
  Sat (rt N w v key d) fun r=>r.1=ok/\(ok=false->r.2=w)/\(ok=true->qB N i (k+4) (q+1024) w c (eV PL (eR p)) r.2):=by
 unfold rt;rw [jn D o W B h,bs];show Sat (Option.bind (fW N key) _) _;rw [show fW N key=some true from f,bs,nt,cf];show Sat (Option.bind (kJ N ⟨c,w,v⟩ key) _) _;refine (BV (v:=v) E W B h key).bind fun y l=> ?_
 have e:y.1=(bZ PL key).1/\y.2.2=(bZ PL key).2:=by
  rcases l with ⟨rfl,a⟩|⟨n,u,rfl,m,rfl⟩
  ·rw [wk a];exact ⟨J,J⟩
  rw [wi h.nodup m];exact ⟨J,J⟩
 have ha':nX N y.1 y.2.2 (!decide (aM .i64 c.XU 1=0)) key d=some (p,ok):=by rw [e.1,e.2];exact A
 refine Sat.bind (P:=(· =(p,ok))) ⟨_,ha',J⟩ fun z j=> ?_
 subst j
 cases ok with
 |false=>exact ar ⟨rfl,fun _=>rfl,fun h=>by cases h⟩
 |true=>
  obtain ⟨L,K,C⟩:=t rfl;show Sat (Option.bind (rf N ⟨c,w,v⟩ p) _) _;exact (NE E D o h F H B L (by rw [K];exact f) C hlen).bind fun r hr=>ar ⟨hr.1,(fun h=>by cases h),fun _=>hr.2⟩
theorem acd {key:Vy}(e:keyR N key)(f:ValW w.XX.m_ x)(l:x.no≠9){a:Int}(m:0<=a/\a<=7)(j:gT a)(hlen:PL.length<1024):
  Sat (nZ N w v key x a) fun r=>r.1=true/\qB N i (k+4) (q+1024) w c (eV PL (eR ⟨key,a,x,v0,v0⟩)) r.2:=by
 unfold nZ;rw [jn D o W B h,bs];show Sat (Option.bind (fW N key) _) _;rw [show fW N key=some true from e,bs,nt,cf,bs,VR (show¬a<0 by omega),cf,bs,VR (show¬7<a by omega),cf];have d:=tt w.XX.m_;exact (NE E D o h F H B (p:=⟨key,a,x,v0,v0⟩) ⟨⟨f,l⟩,⟨d,.inl J⟩,⟨d,.inl J⟩⟩ e j hlen).bind fun r hr=>ar hr
theorem TP (key:Vy):Sat (yK N w v key) fun r=>
  ((bZ PL key).2=false/\r=(true,w))\/((bZ PL key).2=true/\aM .i64 (bZ PL key).1.XT 4=0/\r=(false,w))\/
  ((bZ PL key).2=true/\aM .i64 (bZ PL key).1.XT 4≠0/\r.1=true/\qB N i k (q+1024) w c (kC PL key) r.2):=by
 have hb:w.Ya.Ya.length+1024<=1073741824:=by have:=h.wd.tb;omega
 have C:=pU h.right;have hnum:=h.num;have hl:=h.len;obtain ⟨z,z1,z2⟩:=h.oc.proto;unfold yK;rw [jn D o W B h,bs];show Sat (Option.bind (kJ N ⟨c,w,v⟩ key) _) _
 refine (BV (v:=v) E W B h key).bind fun y hy=> ?_
 rcases hy with ⟨a6,X⟩|⟨n,u,a6,L,T⟩
 ·have Q:y.2.2=false:=by rw [a6]
  rw [Q,nf,ct];exact ar (.inl ⟨by rw [wk X],rfl⟩)
 have y1:y.1=u:=by rw [a6]
 have y2:y.2.1=(n:Int):=by rw [a6]
 have Q:y.2.2=true:=by rw [a6]
 have hown:bZ PL key=(u,true):=by rw [<-T];exact wi h.nodup L
 rw [Q,nt,cf,y1,y2,hown];have F:=(WH.1 L).1;refine bq (fun h4=>ar (.inr (.inl ⟨J,h4,J⟩))) fun h4=> ?_
 have Z:(PL.map fH)[n]? =some (key,u.XT):=by rw [WI,L, <-T];rfl
 show Sat (Option.bind (qO N w.Ya c.XV key) _) _
 refine (Sx N W h.wd.ti hb h.oc.row h.oc.nd key n _ Z).bind fun r hr=> ?_
 obtain ⟨r3,A,K⟩:=hr;rw [r3,VQ (p:=(0:Int)=0) rfl,nt,cf];refine bf (by constructor<;>omega) (bf (by constructor<;>omega) ?_)
 have e3:c.XQ.take ((n:Int)+1).toNat++c.XQ.drop ((n:Int)+2).toNat=c.XQ.eraseIdx (n+1):=by
  rw [List.eraseIdx_eq_take_drop_succ];congr 1
 have e4:yP N c.XQ ((n:Int)+1) ((n:Int)+2)=some (c.XQ.eraseIdx (n+1)):=by
  unfold yP;rw [ce W,e3]
 refine Sat.bind (P:=(· =c.XQ.eraseIdx (n+1))) ⟨_,e4,J⟩ fun s hs=> ?_
 subst hs;have hlen:(c.XQ.eraseIdx (n+1)).length=c.XQ.length - 1:=List.length_eraseIdx_of_lt W;have hlen2:(PL.eraseIdx n).length=PL.length - 1:=List.length_eraseIdx_of_lt F
 have hmap:(PL.eraseIdx n).map fH=(PL.map fH).eraseIdx n:=by
  rw [List.eraseIdx_eq_take_drop_succ,WV,List.map_take,List.map_drop, <-List.eraseIdx_eq_take_drop_succ]
 rw [<-hmap] at K
 have hm: ∀x∈c.XQ.eraseIdx (n+1)++c.XP,ValW w.XX.m_ x:=fun x d=>by
  rcases WY.1 d with d|d
  ·exact h.val (VU _ (List.mem_of_mem_eraseIdx d))
  exact h.val (VV _ d)
 have l:(c.XQ.eraseIdx (n+1))[0]? =c.XQ[0]? :=List.getElem?_eraseIdx_of_lt W
 have hS: ∀m:Nat,(c.XQ.eraseIdx (n+1))[m+1]? =c.XQ[(if m<n then m else m+1)+1]? :=fun m=>by
  rw [List.getElem?_eraseIdx];by_cases e:m<n
  ·rw [if_pos W,if_pos e]
  rw [if_neg W,if_neg e]
 obtain ⟨s',R, -⟩:=K.has A.ti;have hR:bT (⟨c.no,r.1,c.XU,c.XW,c.XQ.eraseIdx (n+1),c.XP⟩:VL)=true:=Ay h.oc.kind R.1 C.2.1 C.2.2 (fun x d=>(hm x (VU _ d)).may) (fun x d=>(hm x (VV _ d)).may) (by show (c.XQ.eraseIdx (n+1)).length<=1025;omega) (z:=z) (l.trans z1) z2 (by show c.XP.length<=4096;omega) h.oc.plain
 have U:r.2.2.Ya.length<=q+1024:=by have:=A.num;have:=h.wd.tb;omega
 have hep0:=h.wd.ep;have S:Wd N k (q+1024) c.XP.length (tq w r.2.2):=⟨h.wd.pl,h.wd.hb,A.ti,U,hep0.1,by show w.Yh<=_;omega⟩;obtain ⟨e5,O,t,H⟩:=BC (k':=k) (M':=c.XP.length) E D o W B S h.has h.at_ (c':=⟨c.no,r.1,c.XU,c.XW,c.XQ.eraseIdx (n+1),c.XP⟩) rfl h.oc.kind hR (fun x d=>⟨(hm x d).i64,(hm x d).ref⟩) (by show k+(c.XQ.eraseIdx (n+1)).length<=k+c.XQ.length;omega) (Xm _)
 have H: ∀x,az w.XX.m_ x=true->am (cl w.XX i (⟨c.no,r.1,c.XU,c.XW,c.XQ.eraseIdx (n+1),c.XP⟩:VL)).m_ x=if x=i then ⟨c.no,r.1,c.XU,c.XW,c.XQ.eraseIdx (n+1),c.XP⟩ else am w.XX.m_ x:=H
 have e9:=Bo (c':=⟨c.no,r.1,c.XU,c.XW,c.XQ.eraseIdx (n+1),c.XP⟩) e5 (by show 0<=w.Yh/\w.Yh<=2000000000;omega) true
 refine Sat.bind ⟨_,e9,J⟩ fun u' hu'=> ?_
 subst hu';refine ar (.inr (.inr ⟨J,h4,J,⟨c.no,r.1,c.XU,c.XW,c.XQ.eraseIdx (n+1),c.XP⟩,?_,⟨J,J,J,l⟩,?_,?_⟩))
 ·rw [<-Gl h.nodup L T];refine ⟨⟨O.pl,O.hb,O.ti,O.tb,?_⟩,t.has i h.has,?_,⟨h.oc.kind,⟨z,l.trans z1,z2⟩,h.oc.plain,K,?_,?_⟩,fun m p hp=> ?_,fun m1 m2 x y f h1 h2=> ?_⟩
  ·show 0<=w.Yh+_/\w.Yh+_<=((q+1024:Nat):Int);cases (true&&dT (⟨c.no,r.1,c.XU,c.XW,c.XQ.eraseIdx (n+1),c.XP⟩:VL))
   ·show 0<=w.Yh+0/\w.Yh+0<=((q+1024:Nat):Int);omega
   show 0<=w.Yh+1/\w.Yh+1<=((q+1024:Nat):Int);omega
  ·show am (cl w.XX i _).m_ i=_;rw [H i h.has,if_pos rfl]
  ·show (c.XQ.eraseIdx (n+1)).length=_;rw [XK];omega
  ·rw [hmap,List.eraseIdx_eq_take_drop_succ,WV,List.map_take,List.map_drop, <-List.eraseIdx_eq_take_drop_succ];exact List.Nodup.sublist (List.eraseIdx_sublist ..) h.oc.nd
  ·have hP:(PL.eraseIdx n)[m]? =PL[if m<n then m else m+1]? :=by
    rw [List.getElem?_eraseIdx];split<;>rfl
   rw [hP] at hp;obtain ⟨x,d,V⟩:=h.each _ p hp;refine ⟨x,(hS m).trans d,V.move fun a _ _ M h5=>⟨t.has a M,?_⟩⟩;show am (cl w.XX i _).m_ a=_;rw [H a M,if_neg fun e=> ?_];subst e;rw [h.at_] at h5;rcases h.oc.kind with j|j<;>rw [h5] at j<;>cases j
  rw [hS] at h1 h2;refine h.inj _ _ x y (fun e=>f ?_) h1 h2;split at e<;>split at e<;>omega
 ·refine ⟨⟨t.roots,t.has,t.spent,t.config⟩,A.le,fun a M f _=> ?_,fun m x d _=> .inl ⟨_,(hS m).symm.trans d⟩⟩;show am (cl w.XX i _).m_ a=_;rw [H a M,if_neg f]
 unfold Ep;rw [VR fun e:r.1=c.XV=> ?_]
 ·rfl
 have h8:=K;rw [e] at h8;have h9:=congrArg List.length (h8.one (h.oc.row.mono A.le));rw [hmap] at h9;have h10:((PL.map fH).eraseIdx n).length=(PL.map fH).length - 1:=List.length_eraseIdx_of_lt (by rw [XK];exact F);rw [XK] at h9 h10;omega
end
end
section
open Go.RowKit
set_option maxRecDepth 20000
def Sep (c d:VL):Prop:= ∀(n m:Nat) x y,c.XQ[n+1]? =some x->d.XQ[m+1]? =some y->x.no=9->y.no=9->x.N≠y.N
theorem Sep.symm {d:VL}(h:Sep c d):Sep d c:=fun n m x y f a kx ky e=>h m n y x a f ky kx e.symm
theorem ObjC.not5 (h:ObjC t c l):c.no≠5:=by
 rcases h.kind with h|h<;>omega
theorem Obj.pair_ne {N q:Nat}{w:VK}(h:Obj N i k q w c PL){n:Nat}(f:c.XQ[n+1]? =some x)(l:x.no=9){j:Int}(d:(am w.XX.m_ j).no≠5):x.N≠j:=fun e=>by
 obtain ⟨⟨g,s,a,ag,rfl, -,m⟩, -⟩:=h.pair9 f l;have e:a=j:=e;rw [<-e,m] at d;exact d J
theorem Obj.keep {N:Nat}{j:Int}{q:Nat}{w:VK}{d:VL}{QL:List VN}(h:Obj N i k q w c PL)(l:Obj N j k q w d QL)(z:i≠j)(sep:Sep c d)(L:Obj N i k' q' w' c' PL')(H:d.XP.length=c'.XP.length)(f:FrO i w w' c c'):Obj N j k' q' w' d QL/\Sep c' d:=by
 have K:(am w.XX.m_ j).no≠5:=by rw [l.at_];exact l.oc.not5
 have A:am w'.XX.m_ j=d:=by
  rw [f.rest j l.has z.symm fun n x o B=>h.pair_ne o B K];exact l.at_
 refine ⟨⟨by rw [H];exact L.wd,f.fr.has j l.has,A,⟨l.oc.kind,l.oc.proto,l.oc.plain,l.oc.row.mono f.le,l.oc.num,l.oc.nd⟩,fun n p E=> ?_,l.inj⟩,fun n m x y o t kx ky=> ?_⟩
 ·obtain ⟨x,o,D⟩:=l.each n p E;refine ⟨x,o,D.move fun a B u C a6=>⟨f.fr.has a C,f.rest a C (fun e=> ?_) fun m y t a8 e=>sep m n y x t o a8 B (e.trans u.symm)⟩⟩;rw [e,h.at_] at a6;exact h.oc.not5 a6
 rcases f.new n x o kx with ⟨n',hn'⟩|F
 ·exact sep n' m x y hn' t kx ky
 intro e;have:=(l.pair9 t ky).2;rw [<-e,F] at this;cases this
def eJ (f:Nat->α)(j:Nat)(x:α):Nat->α:=fun m=>if m=j then x else f m
theorem jG (f:Nat->α)(j:Nat)(x:α):eJ f j x j=x:=if_pos rfl
theorem jf (f:Nat->α){m:Nat}(x:α)(h:m≠j):eJ f j x m=f m:=if_neg h
theorem Ck (f:Nat->α)(j:Nat):eJ f j (f j)=f:=by
 funext m;unfold eJ;split
 ·rename_i h;rw [h]
 rfl
structure Objs (N n k q:Nat) (w:VK) (A:Nat->Int) (C:Nat->VL) (P:Nat->List VN):Prop where
 ob: ∀j,j<n->Obj N (A j) k q w (C j) (P j)
 k1: ∀j,j<n->(C j).no=1
 sep: ∀i j,i<n->j<n->i≠j->A i≠A j/\Sep (C i) (C j)
section
variable {N n q:Nat}{w:VK}(h:Objs N n k q w A C P)
include h
theorem Objs.up (d:k<=k')(c:q<=q'):Objs N n k' q' w A C P:=⟨fun j a=>(h.ob j a).up d c,h.k1,h.sep⟩
theorem Objs.more (a:j<n):(C j).XP=[]:=(h.ob j a).oc.plain (h.k1 j a)
theorem Objs.upd (l:j<n)(o:Obj N (A j) k' q' w' c' PL')(q:c'.no=(C j).no)(f:FrO (A j) w w' (C j) c'):Objs N n k' q' w' A (eJ C j c') (eJ P j PL'):=by
 have d:c'.no=1:=q.trans (h.k1 j l);have hm':c'.XP=[]:=o.oc.plain d
 have key: ∀m,m<n->m≠j->Obj N (A m) k' q' w' (C m) (P m)/\Sep c' (C m):=fun m hm i=>(h.ob j l).keep (h.ob m hm) (h.sep j m l hm i.symm).1 (h.sep j m l hm i.symm).2 o (by rw [h.more hm,hm']) f
 refine ⟨fun m hm=> ?_,fun m hm=> ?_,fun a b p hb c=>⟨(h.sep a b p hb c).1,?_⟩⟩
 ·by_cases e:m=j
  ·rw [e,jG,jG];exact o
  rw [jf _ _ e,jf _ _ e];exact (key m hm e).1
 ·by_cases e:m=j
  ·rw [e,jG];exact d
  rw [jf _ _ e];exact h.k1 m hm
 by_cases ea:a=j
 ·have eb:b≠j:=fun e=>c (ea.trans e.symm)
  rw [ea,jG,jf _ _ eb];exact (key b hb eb).2
 rw [jf _ _ ea];by_cases eb:b=j
 ·rw [eb,jG];exact (key a p ea).2.symm
 rw [jf _ _ eb];exact (h.sep a b p hb c).2
end
end
section
open Go.RowKit
set_option maxRecDepth 20000
theorem Gz (h:aZ x=false):bd ρ f x=x:=by
 unfold bd;rw [h];rfl
theorem Az (ρ:Int->Int)(f:List Int)(x:VH):(bd ρ f x).no=x.no:=by
 unfold bd;cases aZ x&&decide (x.N∈f)<;>rfl
theorem Gs (ρ:Int->Int)(f:List Int):bd ρ f v0=v0:=Gz rfl
def oT (ρ:Int->Int)(f:List Int)(p:VN):VN:=⟨p.XZ,p.XT,bd ρ f p.Value,bd ρ f p.Yc,bd ρ f p.Yd⟩
theorem Gt (ρ:Int->Int)(f:List Int)(PL:List VN):(PL.map (oT ρ f)).map fH=PL.map fH:=by
 rw [List.map_map];rfl
theorem Mv.obj {N q:Nat}{w:VK}(h:Obj N i k q w c PL)(hm:c.XP=[])(m:Mv w.XX g' ρ f)(hi:i∈f):
  (∃age,am g'.m_ (ρ i)=⟨c.no,c.XV,c.XU,age,c.XQ.map (bd ρ f),[]⟩)/\Obj N (ρ i) k q (lw w g') (am g'.m_ (ρ i)) (PL.map (oT ρ f)):=by
 obtain ⟨K,age,C⟩:=m.at_ i hi;obtain ⟨in1, -⟩:=m.cin i hi;rw [h.at_] at in1 C;have o:=m.pl h.wd.pl
 have d:am g'.m_ (ρ i)=⟨c.no,c.XV,c.XU,age,c.XQ.map (bd ρ f),[]⟩:=by
  rw [C];show (⟨c.no,c.XV,c.XU,age,c.XQ.map (bd ρ f),c.XP.map (bd ρ f)⟩:VL)=_;rw [hm];rfl
 have hb:Hb k 0 g':=by
  have a1:=h.wd.hb.hw;have a2:=h.wd.hb.hm;have A:=h.wd.hb.hr;rw [hm] at a2;have a2:mS w.XX.m_.XS+mS w.XX.m_.XR<=0:=a2;have R:=te w.XX.m_.XS;have Q:=te w.XX.m_.XR;have P:=te g'.m_.XS;have O:=te g'.m_.XR;have b1:=m.sum;have b2:=m.wts;refine ⟨by omega,by omega,?_⟩;rw [m.roots,XK];exact A
 refine ⟨⟨age,d⟩,?_⟩;rw [d];refine ⟨⟨o,hb,h.wd.ti,h.wd.tb,h.wd.ep⟩,K,d,⟨h.oc.kind,?_,fun _=>J,?_,?_,?_⟩,?_,?_⟩
 ·obtain ⟨z,H,F⟩:=h.oc.proto;exact ⟨bd ρ f z,by rw [WI,H];rfl,by rw [Az];exact F⟩
 ·rw [Gt];exact h.oc.row
 ·rw [Gt,XK];exact h.oc.num
 ·rw [Gt];exact h.oc.nd
 ·intro n M hp';rw [WI] at hp';obtain ⟨p,L,rfl⟩:=Option.map_eq_some_iff.1 hp';obtain ⟨x,x1,x2⟩:=h.each n p L;refine ⟨bd ρ f x,by rw [WI,x1];rfl,?_⟩;rcases x2 with ⟨a1,a2,A,a4,u⟩|⟨a1,a2,a,ag,rfl,a4,u⟩
  ·refine .inl ⟨a1,congrArg (bd ρ f) a2,?_,?_,by rw [Az];exact u⟩
   ·show bd ρ f p.Yc=v0;rw [A,Gs]
   show bd ρ f p.Yd=v0;rw [a4,Gs]
  have D:a∈f:=in1 _ (W4 x1) rfl;obtain ⟨b1,age2,b2⟩:=m.at_ a D;refine .inr ⟨a1,?_,ρ a,age2,jF J D,b1,?_⟩
  ·show bd ρ f p.Value=v0;rw [a2,Gs]
  refine b2.trans ?_;show oO (cU ρ f (am w.XX.m_ a)) age2=_;rw [u];rfl
 intro n n2 x y t l j kx ky;have l:(c.XQ.map (bd ρ f))[n+1]? =some x:=l;have j:(c.XQ.map (bd ρ f))[n2+1]? =some y:=j;rw [WI] at l j;obtain ⟨x0,a6,rfl⟩:=Option.map_eq_some_iff.1 l;obtain ⟨B,a8,rfl⟩:=Option.map_eq_some_iff.1 j;rw [Az] at kx ky
 have bx:aZ x0=true:=by unfold aZ;rw [kx];rfl
 have by_:aZ B=true:=by unfold aZ;rw [ky];rfl
 have fx:=in1 _ (W4 a6) bx;have E:=in1 _ (W4 a8) by_;rw [jF bx fx,jF by_ E];intro e;exact h.inj n n2 x0 B t a6 a8 kx ky (m.inj _ fx _ E e)
theorem Objs.mv {N n q:Nat}{w:VK}(h:Objs N n k q w A C P)(m:Mv w.XX g' ρ f)(l:∀j,j<n->A j∈f):
  Objs N n k q (lw w g') (fun j=>ρ (A j)) (fun j=>am g'.m_ (ρ (A j))) (fun j=>(P j).map (oT ρ f))/\ ∀j,j<n-> ∃age,am g'.m_ (ρ (A j))=⟨(C j).no,(C j).XV,(C j).XU,age,(C j).XQ.map (bd ρ f),[]⟩:=by
 have key: ∀j,j<n->_:=fun j c=>Mv.obj (h.ob j c) (h.more c) m (l j c)
 refine ⟨⟨fun j c=>(key j c).2,fun j c=> ?_,fun a b d hb i=>⟨fun e=> ?_,?_⟩⟩,fun j c=>(key j c).1⟩
 ·obtain ⟨⟨age,e⟩, -⟩:=key j c;show (am g'.m_ (ρ (A j))).no=1;rw [e];exact h.k1 j c
 ·exact (h.sep a b d hb i).1 (m.inj _ (l a d) _ (l b hb) e)
 obtain ⟨⟨age,ea⟩, -⟩:=key a d;obtain ⟨⟨age2,eb⟩, -⟩:=key b hb;show Sep (am g'.m_ (ρ (A a))) (am g'.m_ (ρ (A b)));rw [ea,eb];intro u n2 x y p o kx ky;have p:((C a).XQ.map (bd ρ f))[u+1]? =some x:=p;have o:((C b).XQ.map (bd ρ f))[n2+1]? =some y:=o;rw [WI] at p o;obtain ⟨x0,a6,rfl⟩:=Option.map_eq_some_iff.1 p;obtain ⟨t,a8,rfl⟩:=Option.map_eq_some_iff.1 o;rw [Az] at kx ky
 have bx:aZ x0=true:=by unfold aZ;rw [kx];rfl
 have by_:aZ t=true:=by unfold aZ;rw [ky];rfl
 have ina:=(m.cin (A a) (l a d)).1;rw [(h.ob a d).at_] at ina;have inb:=(m.cin (A b) (l b hb)).1;rw [(h.ob b hb).at_] at inb;have fx:=ina _ (W4 a6) bx;have z:=inb _ (W4 a8) by_;rw [jF bx fx,jF by_ z];intro e;exact (h.sep a b d hb i).2 u n2 x0 t a6 a8 kx ky (m.inj _ fx _ z e)
set_option maxRecDepth 20000
def KBox (w:VK):Prop:= ∃x,w.XX.Yb[19]? =some x/\aZ x=true/\(am w.XX.m_ x.N).XP=[]/\(am w.XX.m_ x.N).no≠1/\(am w.XX.m_ x.N).no≠2/\(am w.XX.m_ x.N).no≠5
theorem Pl.root_has (pl:Pl g)(h:g.Yb[j]? =some x)(hb:aZ x=true):in64 x.N/\az g.m_ x.N=true:=⟨pl.hb.r64 _ (VU _ (W4 h)),pl.roots _ (sj.2 ⟨x,W4 h,hb,rfl⟩)⟩
theorem KBox.keep {N q:Nat}{w:VK}(h:Obj N i k q w c PL)(f:FrO i w w' c c')(a:KBox w):KBox w':=by
 obtain ⟨x,o,m,z,j,d,l⟩:=a;have t:=(h.wd.pl.root_has o m).2
 have e:am w'.XX.m_ x.N=am w.XX.m_ x.N:=f.rest _ t (fun e=>by
  rw [e,h.at_] at j d;rcases h.oc.kind with a|a
  ·exact j a
  ·exact d a) fun n y p u=>h.pair_ne p u l
 exact ⟨x,by rw [f.fr.roots];exact o,m,by rw [e];exact z,by rw [e];exact j,by rw [e];exact d,by rw [e];exact l⟩
theorem KBox.mv {w:VK}(m:Mv w.XX w'.XX ρ f)(j:KBox w):KBox w':=by
 obtain ⟨x,i,a,p,o,n,l⟩:=j;have e:x.N∈f:=m.rin x (W4 i) a;obtain ⟨q,age,d⟩:=m.at_ _ e;have c:(bd ρ f x)=⟨x.no,ρ x.N,x.S⟩:=jF a e;refine ⟨bd ρ f x,by rw [m.roots,WI,i];rfl,by rw [c];exact a,?_,?_,?_,?_⟩
 ·rw [c,d];show (am w.XX.m_ x.N).XP.map (bd ρ f)=[];rw [p];rfl
 all_goals rw [c,d]
 ·exact o
 ·exact n
 exact l
section
variable {N:Nat}(a:6500<N){w:VK}(pl:Pl w.XX)(hr:w.XX.Yb.length<=600)(n:KBox w)
include a pl hr n
theorem QV: ∃g' ρ f,xv N w=some (lw w g')/\Mv w.XX g' ρ f:=by
 obtain ⟨x,i,hb,hm, -⟩:=n;obtain ⟨x1,x2⟩:=pl.root_has i hb;obtain ⟨g',ρ,f,e,m⟩:=U8 a pl;obtain ⟨c,rfl⟩: ∃c,N=c+1:=⟨N - 1,by omega⟩;refine ⟨g',ρ,f,?_,m⟩;have d:jx (c+1) w.XX 19=some x:=Gg (c+1) i;have j:gZ (c+1) w x=some (am w.XX.m_ x.N):=FB pl.hb.small.cells hb x1 x2;unfold xv;rw [Kv (c+1) hr,bs,d,bs,j,bs,qJ.eq_2,hm];rw [VR (p:=(0:Int)<((([]:List VH).length:Nat):Int)) (by simp),cf];unfold Dg;have l:mH (c+1) w.XX=some (0,g'):=e
 have hlen:w.XX.Yb.length=g'.Yb.length:=by rw [m.roots,XK]
 rw [l,bs];show (nL (c+1) g' (w.XX.Yb.length:Int)).bind _=_;rw [hlen,LA,bs];rfl
theorem QK: ∃g' ρ f,xw N w=some (lw w g')/\Mv w.XX g' ρ f:=by
 obtain ⟨x,i,hb,hm, -⟩:=n;obtain ⟨x1,x2⟩:=pl.root_has i hb;obtain ⟨g',ρ,f,e,m⟩:=U3 a pl;obtain ⟨c,rfl⟩: ∃c,N=c+1:=⟨N - 1,by omega⟩;refine ⟨g',ρ,f,?_,m⟩;have d:jx (c+1) w.XX 19=some x:=Gg (c+1) i;have j:gZ (c+1) w x=some (am w.XX.m_ x.N):=FB pl.hb.small.cells hb x1 x2;unfold xw;rw [Kv (c+1) hr,bs,d,bs,j,bs,qI.eq_2,hm];rw [VR (p:=(0:Int)<((([]:List VH).length:Nat):Int)) (by simp),cf];unfold Df;have l:mJ (c+1) w.XX=some (0,g'):=e
 have hlen:w.XX.Yb.length=g'.Yb.length:=by rw [m.roots,XK]
 rw [l,bs];show (nL (c+1) g' (w.XX.Yb.length:Int)).bind _=_;rw [hlen,LA,bs];rfl
theorem abm (i:0<=w.Yj.Yw)(d:w.Yj.Yw<w.Ye.Yy)(c:w.Ye.Yy<=2000):
  ∃w',rb N w=some (true,w')/\w'.Yj.Yw=w.Yj.Yw+1/\w'.Ye=w.Ye/\w'.Ya=w.Ya/\w'.Yh=w.Yh/\(w'.XX=w.XX\/ ∃ρ f,Mv w.XX w'.XX ρ f):=by
 unfold rb;rw [VR (p:=w.Ye.Yy<=w.Yj.Yw) W,cf,r64 W W];obtain ⟨b,hb⟩:=Lv N w.Ye.YB (⟨(⟨w.Yj.Yw+1,w.Yj.Yx,w.Yj.Yz⟩:VJ),w.Ye,(),w.XX,w.Ya,w.Yk,w.Yh,w.Yr,w.Ys,w.Yl,w.Ym⟩:VK);obtain ⟨b2,a6⟩:=Lv N w.Ye.XS (⟨(⟨w.Yj.Yw+1,w.Yj.Yx,w.Yj.Yz⟩:VJ),w.Ye,(),w.XX,w.Ya,w.Yk,w.Yh,w.Yr,w.Ys,w.Yl,w.Ym⟩:VK);rw [hb,bs]
 cases b with
 |true=>
  obtain ⟨g',ρ,f,e,m⟩:=QV a (w:=(⟨(⟨w.Yj.Yw+1,w.Yj.Yx,w.Yj.Yz⟩:VJ),w.Ye,(),w.XX,w.Ya,w.Yk,w.Yh,w.Yr,w.Ys,w.Yl,w.Ym⟩:VK)) pl hr n;rw [ct,e,bs];exact ⟨_,J,J,J,J,J,.inr ⟨ρ,f,m⟩⟩
 | false=>
  rw [cf,a6,bs]
  cases b2 with
  |true=>
   obtain ⟨g',ρ,f,e,m⟩:=QK a (w:=(⟨(⟨w.Yj.Yw+1,w.Yj.Yx,w.Yj.Yz⟩:VJ),w.Ye,(),w.XX,w.Ya,w.Yk,w.Yh,w.Yr,w.Ys,w.Yl,w.Ym⟩:VK)) pl hr n;rw [ct,e,bs];exact ⟨_,J,J,J,J,J,.inr ⟨ρ,f,m⟩⟩
  |false=>
   rw [cf];exact ⟨_,J,J,J,J,J,.inl J⟩
end
theorem Wd.cg {N q:Nat}{w:VK}(h:Wd N k q M w)(c:w'.XX=w.XX)(a:w'.Ya=w.Ya)(d:w'.Yh=w.Yh):Wd N k q M w':=⟨by rw [c];exact h.pl,by rw [c];exact h.hb,by rw [a];exact h.ti,by rw [a];exact h.tb,by rw [d];exact h.ep⟩
theorem Obj.cg {N q:Nat}{w:VK}(h:Obj N i k q w c PL)(a:w'.XX=w.XX)(d:w'.Ya=w.Ya)(e:w'.Yh=w.Yh):Obj N i k q w' c PL:=⟨h.wd.cg a d e,by rw [a];exact h.has,by rw [a];exact h.at_,by rw [d];exact h.oc,by rw [a];exact h.each,h.inj⟩
theorem Objs.cg {N n q:Nat}{w:VK}(h:Objs N n k q w A C P)(e:w'.XX=w.XX)(d:w'.Ya=w.Ya)(c:w'.Yh=w.Yh):Objs N n k q w' A C P:=⟨fun j a=>(h.ob j a).cg e d c,h.k1,h.sep⟩
end
section
open Go.RowKit
set_option maxRecDepth 20000
theorem abp (N:Nat){x:Int}(i:0<=x)(f:x<=255):Ad N x 10=some (bif decide (48<=x)&&decide (x<=57) then x - 48 else -1):=by
 have hw:IntKind.i64.wrap x=x:=IntWalk.i64_in _ ⟨by omega,by omega⟩
 have a6: ∀p:Int,uS N 10 p=some (bif decide (10<=p) then -1 else p):=fun p=>by
  unfold uS;cases decide (10<=p)<;>rfl
 have d: ∀p:Int,p<=15->va N x 10 p=some (bif decide (65<=x)&&decide (x<=70) then -1 else bif decide (10<=p) then -1 else p):=fun p c=>by
  unfold va;rw [hw];by_cases a:65<=x
  ·by_cases b:x<=70
   ·rw [VQ a,VQ b,ct,bs,ct,r64 W W,r64 W W,a6,VQ (show 10<=x - 65+10 by omega)];rfl
   rw [VQ a,VR b,ct,bs,cf,a6];rfl
  rw [VR a,cf,bs,cf,a6];rfl
 have e: ∀p:Int,p<=15->vb N x 10 p=some (bif decide (97<=x)&&decide (x<=102) then -1 else bif decide (65<=x)&&decide (x<=70) then -1 else bif decide (10<=p) then -1 else p):=fun p c=>by
  unfold vb;rw [hw];by_cases a:97<=x
  ·by_cases b:x<=102
   ·rw [VQ a,VQ b,ct,bs,ct,r64 W W,r64 W W,d _ W,VQ (show 10<=x - 97+10 by omega),VR (show¬x<=70 by omega),Bool.and_false,cf];rfl
   rw [VQ a,VR b,ct,bs,cf,d _ c];rfl
  rw [VR a,cf,bs,cf,d _ c];rfl
 unfold Ad;rw [hw];by_cases a:48<=x
 ·by_cases b:x<=57
  ·rw [VQ a,VQ b,ct,bs,ct,r64 W W,e _ W,VR (show¬97<=x by omega),VR (show¬65<=x by omega),VR (show¬10<=x - 48 by omega)];rfl
  rw [VQ a,VR b,ct,bs,cf,e _ W];show some (bif decide (97<=x)&&decide (x<=102) then (-1:Int) else bif decide (65<=x)&&decide (x<=70) then -1 else -1)=some (-1);cases decide (97<=x)&&decide (x<=102)<;>cases decide (65<=x)&&decide (x<=70)<;>rfl
 rw [VR a,cf,bs,cf,e _ W];show some (bif decide (97<=x)&&decide (x<=102) then (-1:Int) else bif decide (65<=x)&&decide (x<=70) then -1 else -1)=some (-1);cases decide (97<=x)&&decide (x<=102)<;>cases decide (65<=x)&&decide (x<=70)<;>rfl
def NF (y:Int×Bool):Option (Int×Bool):=(bif !y.2 then (some true) else (some (decide (4294967294<y.1)))).bind fun a=>bif a then (some (0,false)) else (some (y.1,true))
theorem Nf (N:Nat)(s:ByteArray)(f:s.size<=10)(c:(s.toList==(⟨#[]⟩:ByteArray).toList)=false): ∀(m i:Nat) (p:Int),s.size<m+i->i<=s.size->0<=p->p+1<=(10:Int) ^ i->(pH N s 10 m p (i:Int)).bind NF=rS N s m p (i:Int)
 |0,i,p,h,l,_,_=>by omega
 | m + 1,i,p,h,l,j,o=>by
  have d:(10:Int) ^ i<=10 ^ 10:=by
   have:(10:Nat) ^ i<=10 ^ 10:=Nat.pow_le_pow_right W W
   exact_mod_cast this
  rw [show (10:Int) ^ 10=10000000000 from rfl] at d
  have hb:p<=10000000000:=by omega
  rw [pH.eq_2,rS.eq_2];by_cases hi:i<s.size
  ·obtain ⟨x,e,a6,a8⟩:=vY (b:=s) (i:=(i:Int)) W W;rw [bG W,ct,ct,e,bs,bs,abp N a6 a8,bs];by_cases a:48<=x
   ·by_cases b:x<=57
    ·have ew:IntKind.i64.wrap (IntKind.u8.wrap (x - 48))=x - 48:=by
      have n:IntKind.u8.wrap (x - 48)=x - 48:=by
       show (x - 48)%256=x - 48;omega
      rw [n];exact IntWalk.i64_in _ ⟨by omega,by omega⟩
     rw [VQ a,VQ b,Bool.and_self,ct,VR (show¬x - 48<0 by omega),cf,VQ j,ct,r64 W W,r64 W W];unfold zq zI;rw [VR (show¬9007199254740992<p*10+(x - 48) by omega),cf,r64 W W,VR (show¬x<48 by omega),cf,bs,bs,VR (show¬57<x by omega),cf,r64 W W,bs,ew,r64 W W,r64 W W,show p*10+(x - 48)=10*p+(x - 48) by omega];exact Nf N s f c m (i+1) _ W W W (by rw [Int.pow_succ];omega)
    rw [VQ a,VR b,Bool.and_false,cond_false,VQ (show (-1:Int)<0 by omega),ct,VR (show¬x<48 by omega),cf,bs,bs,VQ (show 57<x by omega),bs,ct];rfl
   rw [VR a,Bool.false_and,cond_false,VQ (show (-1:Int)<0 by omega),ct,VQ (show x<48 by omega),ct,bs,bs,ct];rfl
  rw [bI W,cf,cf];unfold ED zN;rw [c,bs];unfold NF;rw [show (!((p,!false):Int×Bool).2)=false from rfl,cf,bs]
theorem aaI (N:Nat)(f:20000<=N)(s:ByteArray):Aa N s=rW N s:=by
 unfold Aa rW
 cases e:(s.toList==(⟨#[]⟩:ByteArray).toList) with
 |true=>rfl
 |false=>
  rw [cf,bs];by_cases h:10<(s.size:Int)
  ·rw [VQ h];rfl
  rw [VR h,cf];have:=Nf N s W e N 0 0 W W W (by decide);have c:((EY N s 10).bind fun a=>(bif !a.2 then (some true) else (some (decide (4294967294<a.1)))).bind fun d=>bif d then (some (0,false)) else (some (a.1,true)))=rS N s N 0 0:=this;rw [c,bs,cf]
theorem MZ (N:Nat)(c:20000<=N)(k:Vy):og N k=fW N k:=by
 unfold og fW;rw [aaI N c];obtain ⟨y,a, -⟩:=LM N W k.S;rw [a,bs,bs];cases decide (k.no=0)<;>cases decide (k.no=1)<;>cases decide (k.no=2)<;>cases (k.S.toList==(⟨#[]⟩:ByteArray).toList)<;>cases decide (0<=k.N)<;>cases decide (k.N<=4294967294)<;>cases decide (k.N=0)<;>cases y.2<;>cases decide ((k.S.size:Int)<=65536)<;>cases decide (1<=k.N)<;>rfl
set_option maxRecDepth 20000
def sB (n b:Int):Bool:=decide ((n.tdiv b).tmod 2=1)
theorem wQ (N:Nat){a:Int}(c:0<=a)(d:a<=63){b:Int}(hb:1<=b):dW N a b=some (sB a b):=by
 unfold dW;refine ce ⟨by omega,?_⟩;rw [We c];have:=Int.ediv_nonneg c (show 0<=b by omega);have:=Int.ediv_le_self b c;constructor<;>omega
theorem qw {b:Bool}{x y:α}:(bif b then some x else some y)=some (bif b then x else y):=by cases b<;>rfl
theorem abv: ∀n:_root_.Fin 64,eZ .i64 (n.val:Int) 63=0/\(!decide (aM .i64 (n.val:Int) 3=0))=(sB (n.val:Int) 1||sB (n.val:Int) 2)/\(!decide (aM .i64 (n.val:Int) 12=0))=(sB (n.val:Int) 4||sB (n.val:Int) 8)/\(!decide (aM .i64 (n.val:Int) 1=0))=sB (n.val:Int) 1/\(!decide (aM .i64 (n.val:Int) 2=0))=sB (n.val:Int) 2/\(!decide (aM .i64 (n.val:Int) 4=0))=sB (n.val:Int) 4/\(!decide (aM .i64 (n.val:Int) 8=0))=sB (n.val:Int) 8/\(!decide (aM .i64 (n.val:Int) 16=0))=sB (n.val:Int) 16/\(!decide (aM .i64 (n.val:Int) 32=0))=sB (n.val:Int) 32:=by decide+kernel
structure Six (n:Int):Prop where
 z:eZ .i64 n 63=0
 b3:(!decide (aM .i64 n 3=0))=(sB n 1||sB n 2)
 b12:(!decide (aM .i64 n 12=0))=(sB n 4||sB n 8)
 b1:(!decide (aM .i64 n 1=0))=sB n 1
 b2:(!decide (aM .i64 n 2=0))=sB n 2
 b4:(!decide (aM .i64 n 4=0))=sB n 4
 b8:(!decide (aM .i64 n 8=0))=sB n 8
 b16:(!decide (aM .i64 n 16=0))=sB n 16
 b32:(!decide (aM .i64 n 32=0))=sB n 32
theorem six {n:Int}(c:0<=n)(p:n<=63):Six n:=by
 have a:=abv ⟨n.toNat,by omega⟩;simp only [Wh c] at a;obtain ⟨o,m,l,f4,j,i,f,e,d⟩:=a;exact ⟨o,m,l,f4,j,i,f,e,d⟩
def o6 (x y z:Bool):Int:=
 let p:=bif x then dD .i64 0 1 else 0
 let q:=bif y then dD .i64 p 2 else p
 bif z then dD .i64 q 4 else q
section
variable (N:Nat)
theorem Co (h:Six d.Has):eC N d 1=some (sB d.Has 1)/\eC N d 2=some (sB d.Has 2)/\eC N d 4=some (sB d.Has 4)/\eC N d 8=some (sB d.Has 8)/\eC N d 16=some (sB d.Has 16)/\eC N d 32=some (sB d.Has 32)/\eC N d 3=some (sB d.Has 1||sB d.Has 2)/\eC N d 12=some (sB d.Has 4||sB d.Has 8):=by
 unfold eC;rw [h.b1,h.b2,h.b4,h.b8,h.b16,h.b32,h.b3,h.b12];exact ⟨J,J,J,J,J,J,J,J⟩
theorem ade (h:Six d.Has):zC N d=some (o6 (sB d.Has 2) (sB d.Has 16) (sB d.Has 32)):=by
 obtain ⟨-,s2, -, -,a6,a8, -, -⟩:=Co N h;unfold zC zt zp yV o6;rw [s2,bs,a6,bs,bs,a8,bs,bs,bs,bs];cases sB d.Has 2<;>cases sB d.Has 16<;>cases sB d.Has 32<;>rfl
theorem ac3 (c:0<=d.Has)(a:d.Has<=63){b:Int}(hb:1<=b):dC N d b=some (sB d.Has b):=by
 unfold dC;rw [wQ N c a hb,bs]
end
theorem Ox {x y:Bool}:(bif x then y else false)=(x&&y):=by cases x<;>rfl
theorem Ha {x y:Bool}:(bif x then true else y)=(x||y):=by cases x<;>rfl
end
section
open Go.RowKit
set_option maxRecDepth 20000
structure R25 (d:VE):Prop where
 h:0<=d.Has/\d.Has<=63
 a:0<=d.XT/\d.XT<=7
 da:((sB d.Has 1||sB d.Has 2)&&(sB d.Has 4||sB d.Has 8))=false
 a1:(sB d.XT 1&& !sB d.Has 2)=false
 a2:(sB d.XT 2&& !sB d.Has 16)=false
 a4:(sB d.XT 4&& !sB d.Has 32)=false
 v:sB d.Has 1=false->d.Value=v0
 vk:0<=d.Value.no/\d.Value.no<=7
 g:(sB d.Has 4=false->d.Yc=v0)/\(sB d.Has 4=true->d.Yc.no=0\/d.Yc.no=7)
 s:(sB d.Has 8=false->d.Yd=v0)/\(sB d.Has 8=true->d.Yd.no=0\/d.Yd.no=7)
theorem NL (N:Nat)(x:VH)(b:Bool):Sat (vz N x b) fun r=>r=true->(b=false->x=v0)/\(b=true->x.no=0\/x.no=7):=by
 unfold vz
 cases b with
 |false=>exact ar fun h=>⟨(fun _=>XG h),fun h=>(by cases h)⟩
 |true=>
  rw [nt,cf];refine dz (P:=fun r=>r=true->x.no=0\/x.no=7) (fun e=>ar fun _=> .inl (XG e)) (fun _=>ar fun h=> .inr (XG h)) fun r hr=>ar fun h=>⟨(fun h=>by cases h),fun _=>hr h⟩
theorem abL (N:Nat)(d:VE):Sat (Ab N d) fun b=>b=true->R25 d:=by
 unfold Ab;refine dz (P:=fun b=>b=false->0<=d.Has/\d.Has<=63) (fun _=>ar fun h=>by cases h) (fun e=>ar fun h=>by have:=XF e;have:=XF h;omega) fun b2 E=> ?_
 refine dz (P:=fun b=>b=false->(0<=d.Has/\d.Has<=63)/\0<=d.XT) (fun _=>ar fun h=>by cases h) (fun e=>ar fun h=>⟨E e,by have:=XF h;omega⟩) fun b3 q=> ?_
 refine dz (P:=fun b=>b=false->(0<=d.Has/\d.Has<=63)/\0<=d.XT/\d.XT<=7) (fun _=>ar fun h=>by cases h) (fun e=>ar fun h=>⟨(q e).1,(q e).2,by have:=XF h;omega⟩) fun b4 D=> ?_
 cases b4 with
 |true=>
  rw [ct,bs,ct];exact ar fun h=>by cases h
 | false=>
  obtain ⟨⟨u,t⟩,z,a1⟩:=D rfl
  have a: ∀b:Int,1<=b->dC N d b=some (sB d.Has b):=fun b hb=>by
   unfold dC;rw [wQ N u t hb,bs]
  have l:mU N d=some (sB d.Has 1||sB d.Has 2):=by
   unfold mU;rw [a 1 W,bs,a 2 W,bs];cases sB d.Has 1<;>rfl
  have m:lG N d=some (sB d.Has 4||sB d.Has 8):=by
   unfold lG;rw [a 4 W,bs,a 8 W,bs];cases sB d.Has 4<;>rfl
  have c: ∀b:Int,1<=b->dW N d.XT b=some (sB d.XT b):=fun b hb=>wQ N z W hb
  rw [cf,l,bs,m,bs,c 1 W,bs,a 2 W,bs,c 2 W,bs,a 16 W,bs,c 4 W,bs,a 32 W,bs,a 1 W,bs,a 4 W,bs,a 8 W,bs]
  cases i:((sB d.Has 1||sB d.Has 2)&&(sB d.Has 4||sB d.Has 8)) with
  |true=>
   rw [XM] at i;rw [i.1,i.2];exact ar fun h=>by cases h
  | false=>
   have p:(bif (sB d.Has 1||sB d.Has 2) then (some (sB d.Has 4||sB d.Has 8)) else (some false):Option Bool)=some false:=by
    rw [<-i];cases (sB d.Has 1||sB d.Has 2)<;>rfl
   rw [p,bs,bs,cf]
   have j: ∀x y:Bool,(bif x then (some (!y)) else (some false):Option Bool)=some (x&& !y):=fun x y=>by cases x<;>rfl
   rw [j,bs,j,bs,j,bs]
   cases K:(sB d.XT 1&& !sB d.Has 2) with
   |true=>exact ar fun h=>by cases h
   | false=>
    rw [cf,bs]
    cases H:(sB d.XT 2&& !sB d.Has 16) with
    |true=>exact ar fun h=>by cases h
    | false=>
     rw [cf,bs]
     cases F:(sB d.XT 4&& !sB d.Has 32) with
     |true=>exact ar fun h=>by cases h
     |false=>
      rw [cf];refine dz (P:=fun b=>b=false->sB d.Has 1=false->d.Value=v0) (fun e=>ar fun h _=>by rw [Bool.not_eq_false'] at h;exact XG h) (fun e=>ar fun _ h=>by rw [h] at e;cases e) fun R o=> ?_
      refine dz (P:=fun b=>b=false->(sB d.Has 1=false->d.Value=v0)/\0<=d.Value.no) (fun _=>ar fun h=>by cases h) (fun e=>ar fun h=>⟨o e,by have:=XF h;omega⟩) fun Q f=> ?_
      refine dz (P:=fun b=>b=false->(sB d.Has 1=false->d.Value=v0)/\0<=d.Value.no/\d.Value.no<=7) (fun _=>ar fun h=>by cases h) (fun e=>ar fun h=>⟨(f e).1,(f e).2,by have:=XF h;omega⟩) fun O n=>gn (fun _=>ar fun h=>by cases h) fun e=> ?_
      obtain ⟨B,A⟩:=n e;refine (NL N d.Yc _).bind fun M C=> ?_
      refine dz (P:=fun b=>b=true->R25 d) (fun a6=>(NL N d.Yd _).bind fun L a8=>ar fun h=>⟨⟨u,t⟩,⟨z,a1⟩,i,K,H,F,B,A,C a6,a8 h⟩) (fun _=>ar fun h=>by cases h) fun b hb=>ar hb
structure Nrm (p:VN):Prop where
 d:aM .i64 p.XT 8=0->p.Yc=v0/\p.Yd=v0
 a:aM .i64 p.XT 8≠0->p.Value=v0
theorem abg (N:Nat)(a b:VH):rY N a b=nW N a b:=by
 unfold rY nW
 have:decide (a=b)=(decide (a.no=b.no)&&decide (a.N=b.N)&&(a.S.toList==b.S.toList)):=by
  by_cases e:a=b
  ·rw [e];simp
  rw [VR e];by_cases d:a.no=b.no
  ·by_cases c:a.N=b.N
   ·rw [VQ d,VQ c]
    cases i:(a.S.toList==b.S.toList) with
    |false=>rfl
    |true=>
     refine absurd ?_ e;have f:a.S=b.S:=sF.1 (eq_of_beq i);obtain ⟨x,y,z⟩:=a;obtain ⟨m,l,j⟩:=b;simp only at d c f;subst d c f;rfl
   rw [VR c];simp
  rw [VR d];simp
 rw [this];cases decide (a.no=b.no)<;>cases decide (a.N=b.N)<;>cases (a.S.toList==b.S.toList)<;>rfl
def eG (a b:Int)(s:Bool)(m:Int):Int:=bif bif s then sB a m else sB b m then m else 0
theorem U7: ∀a:_root_.Fin 8, ∀b:_root_.Fin 16, ∀s2 a6 a8:Bool,
  dD .i64 (eZ .i64 (dD .i64 (dD .i64 0 (aM .i64 (b.val:Int) 6)) 8) (o6 false a6 a8)) (aM .i64 (a.val:Int) (o6 false a6 a8))=(eG a.val b.val a6 2+eG a.val b.val a8 4)+8/\
  dD .i64 (eZ .i64 (dD .i64 (aM .i64 (b.val:Int) 1) (aM .i64 (b.val:Int) 6)) (o6 s2 a6 a8)) (aM .i64 (a.val:Int) (o6 s2 a6 a8))=(eG a.val b.val a6 2+eG a.val b.val a8 4)+eG a.val b.val s2 1/\
  dD .i64 (eZ .i64 (dD .i64 0 (aM .i64 (b.val:Int) 6)) (o6 s2 a6 a8)) (aM .i64 (a.val:Int) (o6 s2 a6 a8))=(eG a.val b.val a6 2+eG a.val b.val a8 4)+(bif s2&&sB a.val 1 then 1 else 0):=by decide+kernel
theorem abt: ∀a:_root_.Fin 8, ∀b:_root_.Fin 16,(!decide (aM .i64 (BP .i64 (a.val:Int) (b.val:Int)) 2=0))=!(sB (a.val:Int) 2==sB (b.val:Int) 2):=by decide+kernel
structure Bits (N:Nat) (d:VE) (b:Int):Prop where
 r:R25 d
 six:Six d.Has
 says: ∀x:Int,1<=x->dC N d x=some (sB d.Has x)
 data:mU N d=some (sB d.Has 1||sB d.Has 2)
 acc:lG N d=some (sB d.Has 4||sB d.Has 8)
 da: ∀x:Int,1<=x->dW N d.XT x=some (sB d.XT x)
 pb: ∀x:Int,1<=x->dW N b x=some (sB b x)
 a:Six d.XT
 b:Six b
theorem wn (N:Nat)(h:R25 d){b:Int}(hb:0<=b/\b<=15):Bits N d b:=by
 have c: ∀x:Int,1<=x->dC N d x=some (sB d.Has x):=fun x a=>ac3 N h.h.1 h.h.2 a
 refine ⟨h,six h.h.1 h.h.2,c,?_,?_,fun x a=>wQ N h.a.1 (by have:=h.a;omega) a,fun x a=>wQ N hb.1 W a,six h.a.1 (by have:=h.a;omega),six hb.1 W⟩
 ·unfold mU;rw [c 1 W,bs,c 2 W,bs,qw,bs,Ha]
 unfold lG;rw [c 4 W,bs,c 8 W,bs,qw,bs,Ha]
def dq (k:Vy)(p:VN)(d:VE):VN:=
 let a:=sB p.XT 8
 let tw:=(sB d.Has 4||sB d.Has 8)||(a&& !(sB d.Has 1||sB d.Has 2))
 ⟨k,(eG d.XT p.XT (sB d.Has 16) 2+eG d.XT p.XT (sB d.Has 32) 4)+(bif tw then 8 else bif a then (bif sB d.Has 2&&sB d.XT 1 then 1 else 0) else eG d.XT p.XT (sB d.Has 2) 1),
  bif sB d.Has 1 then d.Value else bif !tw&& !a then p.Value else v0,
  bif sB d.Has 4 then d.Yc else bif tw&&a then p.Yc else v0,
  bif sB d.Has 8 then d.Yd else bif tw&&a then p.Yd else v0⟩
theorem Mc (N:Nat)(k:Vy)(hb:0<=p.XT/\p.XT<=15)(h:Bits N d p.XT):uX N p k d=some (dq k p d):=by
 obtain ⟨l,s2,i,f,a8,q,j,a6⟩:=Co N h.six;have hask:=ade N h.six;have e:=U7 ⟨d.XT.toNat,by have:=h.r.a;omega⟩ ⟨p.XT.toNat,by omega⟩ (sB d.Has 2) (sB d.Has 16) (sB d.Has 32);simp only [Wh h.r.a.1,Wh hb.1] at e;obtain ⟨o,n,m⟩:=e;have c:=h.r.da;unfold uX yH yz yG yC yQ yA;simp only [l,i,f,j,a6,hask,bs,h.b.b8,qw];unfold dq;simp only;generalize sB d.Has 1=x1 at*;generalize sB d.Has 2=x2 at*;generalize sB d.Has 4=x4 at*;generalize sB d.Has 8=x8 at*;generalize sB p.XT 8=y at*
 cases x1<;>cases x2<;>cases x4<;>cases x8<;>cases y<;>first
  |exact absurd c (by decide)
  |exact congrArg some (congrArg (fun a=>(⟨k,a,_,_,_⟩:VN)) o)
  |exact congrArg some (congrArg (fun a=>(⟨k,a,_,_,_⟩:VN)) n)
  |exact congrArg some (congrArg (fun a=>(⟨k,a,_,_,_⟩:VN)) m)
theorem BZ {n b:Int}(h:(!decide (aM .i64 n b=0))=sB n b):decide (aM .i64 n b=0)=!sB n b:=by rw [<-h,Bool.not_not]
theorem ab5 (N:Nat)(hb:0<=p.XT/\p.XT<=15)(h:Bits N d p.XT):Aw N p d=mR N p d:=by
 obtain ⟨i,s2,e,c,a6,a8,f,l⟩:=Co N h.six;have a:=abt ⟨d.XT.toNat,by have:=h.r.a;omega⟩ ⟨p.XT.toNat,by omega⟩;simp only [Wh h.r.a.1,Wh hb.1] at a;unfold Aw mR;simp only [abg,nW,h.says 1 W,h.says 2 W,h.says 4 W,h.says 8 W,h.says 16 W,h.says 32 W,h.da 4 W,h.da 2 W,h.da 1 W,h.pb 2 W,h.pb 8 W,h.pb 1 W,h.data,h.acc,i,s2,e,c,a6,a8,f,l,bs,qw,h.a.b4,a,h.b.b8,BZ h.b.b1,h.a.b1,Ox,Ha];generalize (sB d.Has 32&&sB d.XT 4)=A;generalize (sB d.Has 16&& !(sB d.XT 2==sB p.XT 2))=B;generalize sB p.XT 8=y;generalize decide (d.Yc=p.Yc)=g;generalize decide (d.Yd=p.Yd)=s;generalize decide (d.Value=p.Value)=v;generalize sB d.Has 1=x1;generalize sB d.Has 2=x2;generalize sB d.Has 4=x4;generalize sB d.Has 8=x8;generalize sB p.XT 1=j;generalize sB d.XT 1=a1
 cases A<;>cases B<;>first|rfl|skip
 cases y
 ·cases x4<;>cases x8<;>first|rfl|skip
  cases j<;>cases x2<;>cases a1<;>cases x1<;>rfl
 rfl
theorem Gy (N:Nat){b:Int}(h:Bits N d b)(part m:Int)(c:1<=part)(hm:1<=m)(a:Bool):mW N d part m a=some (bif bif sB d.Has part then sB d.XT m else a then m else 0):=by
 unfold mW Ag;rw [h.says part c,bs,h.da m hm,bs];cases sB d.Has part<;>cases sB d.XT m<;>cases a<;>rfl
theorem Nx (a b:Int)(s:Bool){m:Int}(hm:0<=m):0<=eG a b s m/\eG a b s m<=m:=by
 unfold eG;cases (bif s then sB a m else sB b m)<;>constructor<;>simp<;>omega
theorem sB0 (m:Int):sB 0 m=false:=by
 unfold sB;rw [Int.zero_tdiv];rfl
theorem ab7 (N:Nat)(k:Vy)(h:Bits N d 0):An N d k=some (dq k zeroP d):=by
 have a:=h.r.da;have t:=h.r.v;have z:=h.r.g.1;have u:=h.r.s.1
 have q:in64 ((0:Int)+2):=by decide
 have p:in64 ((0:Int)+2+4):=by decide
 have o:in64 ((0:Int)+4):=by decide
 have n:in64 ((0:Int)+2+4+8):=by decide
 have m:in64 ((0:Int)+2+8):=by decide
 have l:in64 ((0:Int)+4+8):=by decide
 have j:in64 ((0:Int)+8):=by decide
 have i:in64 ((0:Int)+2+4+1):=by decide
 have f:in64 ((0:Int)+2+1):=by decide
 have e:in64 ((0:Int)+4+1):=by decide
 have c:in64 ((0:Int)+1):=by decide
 unfold An Ae zJ zS;simp only [h.says 16 W,h.says 32 W,h.says 2 W,h.acc,h.da 2 W,h.da 4 W,h.da 1 W,bs,qw,Ox,ce q,ce p,ce o,ce n,ce m,ce l,ce j,ce i,ce f,ce e,ce c];unfold dq eG;simp only [show zeroP.XT=0 from rfl,show zeroP.Value=v0 from rfl,show zeroP.Yc=v0 from rfl,show zeroP.Yd=v0 from rfl,sB0];generalize sB d.Has 16=a6;generalize sB d.Has 32=a8;generalize sB d.XT 2=a2;generalize sB d.XT 4=a4;generalize sB d.XT 1=a1;generalize sB d.Has 1=x1 at*;generalize sB d.Has 2=x2 at*;generalize sB d.Has 4=x4 at*;generalize sB d.Has 8=x8 at*
 cases x1<;>cases x2<;>cases x4<;>cases x8<;>first
  |exact absurd a (by decide)
  |(cases a6<;>cases a2<;>cases a8<;>cases a4<;>cases a1<;>simp_all<;>first|rfl|exact ⟨rfl,rfl⟩|exact ⟨rfl,rfl,rfl⟩)
theorem Mr (N:Nat)(k:Vy)(hb:0<=p.XT/\p.XT<=15)(h:R25 d)(has ext:Bool):nX N p has ext k d=bif !has then (bif !ext then some (zeroP,false) else some (dq k zeroP d,true)) else (bif !sB p.XT 4 then mR N p d else some false).bind fun b=>some (bif b then (zeroP,false) else (dq k p d,true)):=by
 have a:=wn N h hb;have i:=wn N h (b:=0) ⟨Int.le_refl _,by omega⟩;have f:=Mc N k hb a
 have c:Af N d k=some (dq k zeroP d):=by
  unfold Af;have:=Mc N k (p:=zeroP) ⟨Int.le_refl _,by show (0:Int)<=15;omega⟩ i;rw [show (⟨(⟨0,0,⟨#[]⟩⟩:Vy),0,(⟨0,0,⟨#[]⟩⟩:VH),(⟨0,0,⟨#[]⟩⟩:VH),(⟨0,0,⟨#[]⟩⟩:VH)⟩:VN)=zeroP from rfl,this,bs]
 unfold nX;rw [c,f,BZ a.b.b4]
 cases has with
 |false=>cases ext<;>rfl
 | true=>
  rw [nt,cf,cf]
  cases sB p.XT 4 with
  |true=>rfl
  |false=>
   rw [nf,ct,ct]
   cases e:mR N p d with
   |none=>rfl
   |some b=>cases b<;>rfl
theorem Nb (N:Nat)(k:Vy)(hb:0<=p.XT/\p.XT<=15)(i:Nrm p)(h:R25 d)(has ext:Bool):sc N p has ext k d=nX N p has ext k d:=by
 rw [Mr N k hb h];have a:=wn N h hb;have E:=wn N h (b:=0) ⟨Int.le_refl _,by omega⟩;unfold sc;rw [ab7 N k E,a.pb 4 W,ab5 N hb a]
 cases has with
 |false=>cases ext<;>rfl
 | true=>
  rw [nt,cf,cf,bs];have hv:=Nx d.XT p.XT (sB d.Has 16) (m:=2) W;have hl:=Nx d.XT p.XT (sB d.Has 32) (m:=4) W
  have hr: ∀f:Bool,(bif f then (some ((⟨(⟨0,0,⟨#[]⟩⟩:Vy),0,(⟨0,0,⟨#[]⟩⟩:VH),(⟨0,0,⟨#[]⟩⟩:VH),(⟨0,0,⟨#[]⟩⟩:VH)⟩:VN),false)) else ((dW N p.XT 2).bind fun b6=>(mW N d 16 2 b6).bind fun a6=>(some (sB p.XT 4)).bind fun b7=>(mW N d 32 4 b7).bind fun a8=>ae (in64 (a6+a8)) ((dW N p.XT 8).bind fun c=>(lG N d).bind fun Z=>(bif Z then (some true) else ((bif c then ((mU N d).bind fun X=>some (!X)) else (some false)).bind fun U=>some U)).bind fun T=>bif T then (ae (in64 ((a6+a8)+8)) ((dC N d 4).bind fun S=>(oq N S d.Yc c p.Yc).bind fun R=>(dC N d 8).bind fun Q=>(oq N Q d.Yd c p.Yd).bind fun P=>some ((⟨k,(a6+a8)+8,(⟨0,0,⟨#[]⟩⟩:VH),R,P⟩:VN),true))) else ((bif !c then ((dW N p.XT 1).bind fun O=>some O) else (some false)).bind fun M=>(mW N d 2 1 M).bind fun l=>ae (in64 ((a6+a8)+l)) ((dC N d 1).bind fun L=>(oq N L d.Value (!c) p.Value).bind fun K=>some ((⟨k,(a6+a8)+l,K,(⟨0,0,⟨#[]⟩⟩:VH),(⟨0,0,⟨#[]⟩⟩:VH)⟩:VN),true))))))=some (bif f then (zeroP,false) else (dq k p d,true)):=fun f=>by
   cases f with
   |true=>rfl
   | false=>
    have D:=h.da;have u:=h.v;have C:=h.g.1;have z:=h.s.1
    have B:sB p.XT 8=false->p.Yc=v0/\p.Yd=v0:=fun e=>i.d (XG (by rw [BZ a.b.b8,e];rfl))
    have A:sB p.XT 8=true->p.Value=v0:=fun e=>i.a (XF (by rw [BZ a.b.b8,e];rfl))
    have H:(bif bif sB d.Has 16 then sB d.XT 2 else sB p.XT 2 then (2:Int) else 0)=eG d.XT p.XT (sB d.Has 16) 2:=rfl;have F:(bif bif sB d.Has 32 then sB d.XT 4 else sB p.XT 4 then (4:Int) else 0)=eG d.XT p.XT (sB d.Has 32) 4:=rfl
    have t:in64 (eG d.XT p.XT (sB d.Has 16) 2+eG d.XT p.XT (sB d.Has 32) 4):=by unfold in64;omega
    have q:in64 (eG d.XT p.XT (sB d.Has 16) 2+eG d.XT p.XT (sB d.Has 32) 4+8):=by unfold in64;omega
    have o: ∀b:Bool,in64 (eG d.XT p.XT (sB d.Has 16) 2+eG d.XT p.XT (sB d.Has 32) 4+(bif b then 1 else 0)):=fun b=>by unfold in64;cases b<;>simp<;>omega
    unfold oq;simp only [cf,a.pb 2 W,a.pb 8 W,a.pb 1 W,Gy N a 16 2 W W,Gy N a 32 4 W W,Gy N a 2 1 W W,a.acc,a.data,a.says 4 W,a.says 8 W,a.says 1 W,bs,qw,H,F,ce t,ce q,ce (o _)];refine congrArg some ?_;unfold dq;simp only;have ev:eG d.XT p.XT (sB d.Has 2) 1=bif bif sB d.Has 2 then sB d.XT 1 else sB p.XT 1 then 1 else 0:=rfl;rw [ev];generalize eG d.XT p.XT (sB d.Has 16) 2=V;generalize eG d.XT p.XT (sB d.Has 32) 4=hE;generalize sB d.XT 1=a1;generalize sB p.XT 1=n;generalize sB d.Has 1=x1 at*;generalize sB d.Has 2=x2 at*;generalize sB d.Has 4=x4 at*;generalize sB d.Has 8=x8 at*;generalize sB p.XT 8=y at*
    cases x1<;>cases x2<;>cases x4<;>cases x8<;>first
     |exact absurd D (by decide)
     |(cases y<;>cases a1<;>cases n<;>simp_all<;>first|rfl|exact ⟨rfl,rfl⟩|exact ⟨rfl,rfl,rfl⟩)
  cases j:sB p.XT 4 with
  |true=>rw [j] at hr;exact hr false
  |false=>
   rw [j] at hr;rw [nf,ct,ct]
   cases e:mR N p d with
   |none=>rfl
   |some b=>exact hr b
set_option maxRecDepth 20000
def td (vis loose acc w:Bool):Int:=((bif vis then 2 else 0)+(bif loose then 4 else 0))+(bif acc then 8 else bif w then 1 else 0)
theorem Lw: ∀vis loose acc w:Bool,(0<=td vis loose acc w/\td vis loose acc w<=15/\aM .i64 (td vis loose acc w) 9≠9)/\(aM .i64 (td vis loose acc w) 8=0↔acc=false):=by decide+kernel
def mg (p:VN)(d:VE):Bool:=(sB d.Has 4||sB d.Has 8)||(sB p.XT 8&& !(sB d.Has 1||sB d.Has 2))
theorem LX (k:Vy)(p:VN)(d:VE): ∃vis loose w,(dq k p d).XT=td vis loose (mg p d) w:=by
 unfold dq eG td mg;simp only;cases (sB d.Has 4||sB d.Has 8)||(sB p.XT 8&& !(sB d.Has 1||sB d.Has 2))
 ·refine ⟨bif sB d.Has 16 then sB d.XT 2 else sB p.XT 2,bif sB d.Has 32 then sB d.XT 4 else sB p.XT 4,bif sB p.XT 8 then sB d.Has 2&&sB d.XT 1 else bif sB d.Has 2 then sB d.XT 1 else sB p.XT 1,?_⟩;cases sB p.XT 8<;>rfl
 exact ⟨bif sB d.Has 16 then sB d.XT 2 else sB p.XT 2,bif sB d.Has 32 then sB d.XT 4 else sB p.XT 4,false,J⟩
theorem aa5 (k:Vy)(p:VN)(d:VE):gT (dq k p d).XT:=by
 obtain ⟨vis,loose,w,a⟩:=LX k p d;rw [a];exact (Lw vis loose _ w).1
theorem MQ (k:Vy)(p:VN)(d:VE):aM .i64 (dq k p d).XT 8=0↔mg p d=false:=by
 obtain ⟨vis,loose,w,a⟩:=LX k p d;rw [a];exact (Lw vis loose _ w).2
theorem tv {Q:α->Prop}{b c:Bool}{x y z:α}(e:b=true->Q x)(d:c=true->Q y)(a:Q z):Q (bif b then x else bif c then y else z):=by
 cases b with
 |true=>exact e rfl
 |false=>
  cases c with
  |true=>exact d rfl
  |false=>exact a
theorem oP (m:Vw):ValW m v0/\ni v0:=⟨tt m,.inl rfl⟩
theorem acV {k:Vy}(c:R25 d)(a:PropW m p)(dv:ValW m d.Value)(dg:ValW m d.Yc)(ds:ValW m d.Yd):PropW m (dq k p d):=by
 have e:d.Value.no≠9:=by have:=c.vk;omega
 refine ⟨tv (Q:=fun x=>ValW m x/\x.no≠9) (fun _=>⟨dv,e⟩) (fun _=>a.v) ⟨tt m,by decide⟩,tv (Q:=fun x=>ValW m x/\ni x) (fun h=>⟨dg,c.g.2 h⟩) (fun _=>a.g) (oP m),tv (Q:=fun x=>ValW m x/\ni x) (fun h=>⟨ds,c.s.2 h⟩) (fun _=>a.s) (oP m)⟩
theorem abr {k:Vy}(j:R25 d):Nrm (dq k p d):=by
 refine ⟨fun e=> ?_,fun e=> ?_⟩
 ·have a:=(MQ k p d).1 e
  have f:sB d.Has 4=false/\sB d.Has 8=false:=by
   unfold mg at a;rw [Bool.or_eq_false_iff,Bool.or_eq_false_iff] at a;exact a.1
  constructor
  ·show (bif sB d.Has 4 then d.Yc else bif mg p d&&sB p.XT 8 then p.Yc else v0)=v0;rw [f.1,a];rfl
  show (bif sB d.Has 8 then d.Yd else bif mg p d&&sB p.XT 8 then p.Yd else v0)=v0;rw [f.2,a];rfl
 have a:mg p d=true:=by
  cases h:mg p d with
  |true=>rfl
  |false=>exact absurd ((MQ k p d).2 h) e
 have l:sB d.Has 1=false:=by
  cases m:sB d.Has 1 with
  |false=>rfl
  |true=>
   have c:=j.da;unfold mg at a;rw [m] at a c
   cases i:(sB d.Has 4||sB d.Has 8) with
   |true=>rw [i] at c;cases c
   |false=>rw [i] at a;simp at a
 show (bif sB d.Has 1 then d.Value else bif !mg p d&& !sB p.XT 8 then p.Value else v0)=v0;rw [a,l];rfl
theorem Nrm.norm (h:Nrm p):eR p=p:=by
 by_cases e:aM .i64 p.XT 8=0
 ·rw [Fv e, <-(h.d e).1];have:=(h.d e).1.trans (h.d e).2.symm
  conv=>lhs;arg 5;rw [this]
 rw [FW e, <-h.a e]
def mf (p:VN)(d:VE)(eg a ev:Bool):Bool:=
 ((sB d.Has 32&& !decide (aM .i64 d.XT 4=0))||(sB d.Has 16&& !decide (aM .i64 (BP .i64 d.XT p.XT) 2=0)))||
 bif !decide (aM .i64 p.XT 8=0) then ((sB d.Has 1||sB d.Has 2)||(sB d.Has 4&& !eg))||(sB d.Has 8&& !a) else
 (sB d.Has 4||sB d.Has 8)||(decide (aM .i64 p.XT 1=0)&&((sB d.Has 2&& !decide (aM .i64 d.XT 1=0))||(sB d.Has 1&& !ev)))
theorem acZ (b x:Bool):(bif b then true else x)=(b||x):=by cases b<;>rfl
theorem acS (b x:Bool):(bif b then x else false)=(b&&x):=by cases b<;>rfl
theorem acw (N:Nat)(h:Bits N d p.XT):mR N p d=some (mf p d (decide (d.Yc=p.Yc)) (decide (d.Yd=p.Yd)) (decide (d.Value=p.Value))):=by
 obtain ⟨f,s2,c,a,a6,a8,e,i⟩:=Co N h.six;unfold mR mf;simp only [nW,f,s2,c,a,a6,a8,e,i,bs,qw,acZ,acS]
def dh (p:VN)(has ext:Bool)(k:Vy)(d:VE):VN×Bool:=
 bif !has then (bif !ext then (zeroP,false) else (dq k zeroP d,true)) else
 bif !sB p.XT 4&&mf p d (decide (d.Yc=p.Yc)) (decide (d.Yd=p.Yd)) (decide (d.Value=p.Value)) then (zeroP,false) else (dq k p d,true)
theorem Gh (N:Nat)(k:Vy)(hb:0<=p.XT/\p.XT<=15)(h:R25 d)(has ext:Bool):nX N p has ext k d=some (dh p has ext k d):=by
 rw [Mr N k hb h,acw N (wn N h hb)];unfold dh;cases has<;>cases ext<;>cases sB p.XT 4<;>rfl
theorem Ts {has ext:Bool}{k:Vy}(h:(dh p has ext k d).2=true)(c:R25 d)(a:PropW m p)(dv:ValW m d.Value)(dg:ValW m d.Yc)(ds:ValW m d.Yd):PropW m (dh p has ext k d).1/\(dh p has ext k d).1.XZ=k/\gT (dh p has ext k d).1.XT/\Nrm (dh p has ext k d).1:=by
 have f:PropW m zeroP:=⟨⟨tt m,by decide⟩,oP m,oP m⟩
 have key: ∀p,PropW m p->PropW m (dq k p d)/\(dq k p d).XZ=k/\gT (dq k p d).XT/\Nrm (dq k p d):=fun p a=>⟨acV c a dv dg ds,rfl,aa5 k p d,abr c⟩
 unfold dh at h⊢
 cases has with
 |false=>
  cases ext with
  |false=>cases h
  |true=>exact key _ f
 |true=>
  cases e:(!sB p.XT 4&&mf p d (decide (d.Yc=p.Yc)) (decide (d.Yd=p.Yd)) (decide (d.Value=p.Value))) with
  |true=>rw [e] at h;cases h
  |false=>exact key p a
theorem Obj.propW {N q:Nat}{w:VK}(h:Obj N i k q w c PL)(u:p∈PL):PropW w.XX.m_ p/\Nrm p:=by
 obtain ⟨n,z⟩:=List.getElem?_of_mem u;obtain ⟨x,m,t⟩:=h.each n p z;have o:=h.val (VU _ (W4 m));rcases t with ⟨a1,a2,j,a4,f⟩|⟨a1,a2,a,ag,rfl,a4,f⟩
 ·refine ⟨⟨⟨by rw [a2];exact o,by rw [a2];exact f⟩,by rw [j];exact oP _,by rw [a4];exact oP _⟩,⟨fun _=>⟨j,a4⟩,fun e=>absurd a1 e⟩⟩
 have hr:=(h.wd.pl.cells _ (iY a4)).1
 have d: ∀y∈[p.Yc,p.Yd],ValW w.XX.m_ y:=fun y l=>h.wd.pl.valW a4 (by rw [f];exact VU _ l)
 rw [f] at hr;obtain ⟨k1,k2⟩:=Tu hr rfl rfl;exact ⟨⟨by rw [a2];exact ⟨tt _,by decide⟩,⟨d _ (by simp),k1⟩,⟨d _ (by simp),k2⟩⟩,⟨fun e=>absurd e a1,fun _=>a2⟩⟩
theorem NX (m:Vw):PropW m zeroP/\Nrm zeroP:=⟨⟨⟨tt m,by decide⟩,oP m,oP m⟩,⟨fun _=>⟨rfl,rfl⟩,fun _=>rfl⟩⟩
theorem abi {N q:Nat}{w:VK}(h:Obj N i k q w c PL)(key:Vy):PropW w.XX.m_ (bZ PL key).1/\Nrm (bZ PL key).1/\0<=(bZ PL key).1.XT/\(bZ PL key).1.XT<=15:=by
 unfold bZ
 cases e:PL.find? (fun p=>decide (p.XZ=key)) with
 |none=>exact ⟨(NX _).1,(NX w.XX.m_).2,by decide,by decide⟩
 |some p=>
  have a:=List.mem_of_find?_eq_some e;have:=(h.key a).2;exact ⟨(h.propW a).1,(h.propW a).2,this.1,this.2.1⟩
set_option maxRecDepth 20000
theorem Ci (f:List Int)(v:VH):bd (fun x=>x) f v=v:=by
 unfold bd;cases aZ v&&decide (v.N∈f)<;>rfl
theorem abJ (f:List Int)(p:VN):oT (fun x=>x) f p=p:=by
 unfold oT;rw [Ci,Ci,Ci]
def wo (A:Nat->Int)(n:Nat):List VH:=(List.range n).map fun j=>(⟨7,A j,⟨#[]⟩⟩:VH)
theorem SH (A:Nat->Int){n:Nat}(h:j<n):(wo A n)[j]? =some ⟨7,A j,⟨#[]⟩⟩:=by
 unfold wo;rw [WI,List.getElem?_range h];rfl
structure St (N n b:Nat) (w:VK) (A:Nat->Int) (C:Nat->VL) (P:Nat->List VN):Prop where
 ob:Objs N n (80+4*b) (1+1024*b) w A C P
 len: ∀j,j<n->(P j).length<=b
 rts: ∃R,R.length=20/\w.XX.Yb=R++wo A n
 box:KBox w
 tu:TU w.Ya
 cfg:w.Ye.Yy=1000
 stp:0<=w.Yj.Yw/\w.Yj.Yw<=(b:Int)
section
variable {N n b:Nat}{w:VK}(h:St N n b w A C P)
include h
theorem St.root (a:j<n):w.XX.Yb[20+j]? =some ⟨7,A j,⟨#[]⟩⟩:=by
 obtain ⟨R,d,c⟩:=h.rts;rw [c,WB W,d,Nat.add_sub_cancel_left];exact SH A a
theorem St.at_ (a:j<n):jW N w (20+(j:Int))=some ⟨7,A j,⟨#[]⟩⟩:=by
 unfold jW;have:=Gg N (h.root a);rw [show ((20+j:Nat):Int)=20+(j:Int) by omega] at this;rw [this,bs]
theorem St.stay:St N n (b+1) w A C P:=⟨h.ob.up W W,fun j a=>by have:=h.len j a;omega,h.rts,h.box,h.tu,h.cfg,h.stp.1,by have:=h.stp.2;omega⟩
theorem St.op (a:j<n)(o:Obj N (A j) (80+4*(b+1)) (1+1024*(b+1)) w' c' PL')(d:c'.no=(C j).no)(f:FrO (A j) w w' (C j) c')(c:PL'.length<=b+1):St N n (b+1) w' A (eJ C j c') (eJ P j PL'):=by
 refine ⟨h.ob.upd a o d f,fun m hm=> ?_,?_,h.box.keep (h.ob.ob j a) f,f.le.tu h.tu,by rw [f.fr.config];exact h.cfg,by rw [f.fr.spent];exact h.stp.1,by rw [f.fr.spent];have:=h.stp.2;omega⟩
 ·by_cases e:m=j
  ·rw [e,jG];exact c
  rw [jf _ _ e];have:=h.len m hm;omega
 obtain ⟨R,l,i⟩:=h.rts;exact ⟨R,l,by rw [f.fr.roots];exact i⟩
theorem St.tick (Q:20000<=N)(hb:b<=120)(F:0<n): ∃w' ρ f z,rb N w=some (true,w')/\w'.Yh=w.Yh/\St N n (b+1) w' (fun j=>ρ (A j)) z (fun j=>(P j).map (oT ρ f))/\(∀j,j<n->A j∈f)/\(∀x∈f, ∀y∈f,ρ x=ρ y->x=y)/\ ∀j,j<n-> ∃age,z j=⟨(C j).no,(C j).XV,(C j).XU,age,(C j).XQ.map (bd ρ f),[]⟩:=by
 have wd:=(h.ob.ob 0 F).wd;have q:=h.stp.1;have E:=h.stp.2;have o:=h.cfg;obtain ⟨w',e,O,u,l,i,c⟩:=abm (N:=N) W wd.pl (by have:=wd.hb.hr;omega) h.box q (by rw [o];omega) (by rw [o];omega);have d:Objs N n (80+4*(b+1)) (1+1024*(b+1)) w A C P:=h.ob.up W W;rcases c with c|⟨ρ,f,m⟩
 ·refine ⟨w',fun x=>x,(List.range n).map A,C,e,i,?_,fun j a=>W3.2 ⟨j,W7.2 a,J⟩,fun x _ y _ e=>e,fun j a=>⟨(C j).XW,?_⟩⟩
  ·have ep:(fun j=>(P j).map (oT (fun x=>x) ((List.range n).map A)))=P:=by
    funext j;exact (List.map_congr_left fun p _=>abJ _ p).trans (List.map_id' _)
   rw [ep];refine ⟨d.cg c l i,fun j a=>by have:=h.len j a;omega,?_,?_,by rw [l];exact h.tu,by rw [u];exact o,by omega,by omega⟩
   ·rw [c];exact h.rts
   unfold KBox;rw [c];exact h.box
  have M:(C j).XQ.map (bd (fun x=>x) ((List.range n).map A))=(C j).XQ:=(List.map_congr_left fun v _=>Ci _ v).trans (List.map_id' _);have L:=h.ob.more a;rw [M, <-L]
 have t: ∀j,j<n->A j∈f:=fun j a=>m.rin _ (W4 (h.root a)) rfl
 obtain ⟨D,B⟩:=d.mv m t;refine ⟨w',ρ,f,fun j=>am w'.XX.m_ (ρ (A j)),e,i,⟨D.cg J l i,fun j a=> ?_,?_,h.box.mv m,by rw [l];exact h.tu,by rw [u];exact o,by omega,by omega⟩,t,m.inj,B⟩
 ·rw [XK];have:=h.len j a;omega
 obtain ⟨R,K,H⟩:=h.rts;refine ⟨R.map (bd ρ f),by rw [XK];exact K,?_⟩;rw [m.roots,H,WV]
 congr 1
 unfold wo;rw [List.map_map];refine List.map_congr_left fun j a=> ?_
 exact jF J (t j (W7.1 a))
end
end
section
open Go.RowKit
set_option maxRecDepth 20000
structure VOk (n:Nat) (v:VH):Prop where
 may:v.no≠7->dm v=true
 kd:0<=v.no/\v.no<=7
 i64:in64 v.N
 ref:v.no=7->v.S=⟨#[]⟩/\0<=v.N/\v.N<n
theorem oS (n:Nat):VOk n v0:=⟨fun _=>NZ,by decide,by decide,fun h=>by cases h⟩
def bm (A:Nat->Int)(v:VH):VH:=bif decide (v.no=7) then ⟨7,A v.N.toNat,⟨#[]⟩⟩ else v
theorem kT (h:v.no≠7):bm A v=v:=by
 unfold bm;rw [VR h];rfl
theorem kU (h:v.no=7):bm A v=⟨7,A v.N.toNat,⟨#[]⟩⟩:=by
 unfold bm;rw [VQ h];rfl
theorem qu (A:Nat->Int):bm A v0=v0:=kT (by decide)
theorem wE (A:Nat->Int)(v:VH):(bm A v).no=v.no:=by
 by_cases h:v.no=7
 ·rw [kU h,h]
 rw [kT h]
theorem aa9 {n:Nat}(m:∀i j,i<n->j<n->A i=A j->i=j){a b:VH}(l:VOk n a)(hb:VOk n b)(e:bm A a=bm A b):a=b:=by
 have ek:a.no=b.no:=by rw [<-wE A a,e,wE]
 by_cases h:a.no=7
 ·have c:=ek▸h;rw [kU h,kU c] at e;obtain ⟨f,p,n2⟩:=l.ref h;obtain ⟨s2,t,q⟩:=hb.ref c;have:=m _ _ W W (congrArg VH.N e);obtain ⟨k,x,s⟩:=a;obtain ⟨k',d,o⟩:=b;simp only at*;subst ek f s2
  have:x=d:=by omega
  rw [this]
 have c:b.no≠7:=ek▸h
 rwa [kT h,kT c] at e
theorem Gf {n:Nat}(d:∀i j,i<n->j<n->A i=A j->i=j){a b:VH}(c:VOk n a)(hb:VOk n b):decide (bm A a=bm A b)=decide (a=b):=decide_eq_decide.2 ⟨aa9 d c hb,fun e=>by rw [e]⟩
def dl (f:VH->VH)(p:VN):VN:=⟨p.XZ,p.XT,f p.Value,f p.Yc,f p.Yd⟩
def gg (f:VH->VH)(d:VE):VE:=⟨d.Has,d.XT,f d.Value,f d.Yc,f d.Yd⟩
theorem sL {β:Type}(f:α->β)(b:Bool)(x y:α):f (bif b then x else y)=bif b then f x else f y:=by cases b<;>rfl
theorem MI {f:VH->VH}(a:f v0=v0)(k:Vy)(p:VN)(d:VE):dq k (dl f p) (gg f d)=dl f (dq k p d):=by
 have i:(dq k (dl f p) (gg f d)).Value=f (dq k p d).Value:=by
  show (bif sB d.Has 1 then f d.Value else bif _ then f p.Value else v0)=f (bif sB d.Has 1 then d.Value else bif _ then p.Value else v0);rw [sL f,sL f,a];rfl
 have e:(dq k (dl f p) (gg f d)).Yc=f (dq k p d).Yc:=by
  show (bif sB d.Has 4 then f d.Yc else bif _ then f p.Yc else v0)=f (bif sB d.Has 4 then d.Yc else bif _ then p.Yc else v0);rw [sL f,sL f,a];rfl
 have c:(dq k (dl f p) (gg f d)).Yd=f (dq k p d).Yd:=by
  show (bif sB d.Has 8 then f d.Yd else bif _ then f p.Yd else v0)=f (bif sB d.Has 8 then d.Yd else bif _ then p.Yd else v0);rw [sL f,sL f,a];rfl
 show (⟨k,(dq k (dl f p) (gg f d)).XT,(dq k (dl f p) (gg f d)).Value,(dq k (dl f p) (gg f d)).Yc,(dq k (dl f p) (gg f d)).Yd⟩:VN)=_;rw [i,e,c];rfl
theorem R25.map {f:VH->VH}(c:f v0=v0)(a:∀v,(f v).no=v.no)(h:R25 d):R25 (gg f d):=⟨h.h,h.a,h.da,h.a1,h.a2,h.a4,fun e=>by show f d.Value=v0;rw [h.v e,c],by show 0<=(f d.Value).no/\(f d.Value).no<=7;rw [a];exact h.vk,⟨fun e=>by show f d.Yc=v0;rw [h.g.1 e,c],fun e=>by show (f d.Yc).no=0\/(f d.Yc).no=7;rw [a];exact h.g.2 e⟩,⟨fun e=>by show f d.Yd=v0;rw [h.s.1 e,c],fun e=>by show (f d.Yd).no=0\/(f d.Yd).no=7;rw [a];exact h.s.2 e⟩⟩
def iN (n:Nat)(p:VN):Prop:=VOk n p.Value/\VOk n p.Yc/\VOk n p.Yd
def xb (n:Nat)(d:VE):Prop:=VOk n d.Value/\VOk n d.Yc/\VOk n d.Yd
theorem wB (n:Nat):iN n zeroP:=⟨oS n,oS n,oS n⟩
theorem Sh {n:Nat}(e:∀i j,i<n->j<n->A i=A j->i=j)(a:iN n p)(c:xb n d)(has ext:Bool)(k:Vy):dh (dl (bm A) p) has ext k (gg (bm A) d)=(dl (bm A) (dh p has ext k d).1,(dh p has ext k d).2):=by
 have ez:dl (bm A) zeroP=zeroP:=by
  show (⟨zeroP.XZ,zeroP.XT,bm A v0,bm A v0,bm A v0⟩:VN)=zeroP;rw [qu];rfl
 have l:=MI (qu A) k p d;have f:=MI (qu A) k zeroP d;rw [ez] at f
 have eb:mf (dl (bm A) p) (gg (bm A) d) (decide (bm A d.Yc=bm A p.Yc)) (decide (bm A d.Yd=bm A p.Yd)) (decide (bm A d.Value=bm A p.Value))=mf p d (decide (d.Yc=p.Yc)) (decide (d.Yd=p.Yd)) (decide (d.Value=p.Value)):=by
  rw [Gf e c.2.1 a.2.1,Gf e c.2.2 a.2.2,Gf e c.1 a.1];rfl
 unfold dh;show (bif !has then (bif !ext then (zeroP,false) else (dq k zeroP (gg (bm A) d),true)) else bif !sB p.XT 4&&mf (dl (bm A) p) (gg (bm A) d) (decide (bm A d.Yc=bm A p.Yc)) (decide (bm A d.Yd=bm A p.Yd)) (decide (bm A d.Value=bm A p.Value)) then (zeroP,false) else (dq k (dl (bm A) p) (gg (bm A) d),true))=_;rw [eb,l,f]
 cases has with
 |false=>cases ext<;>first|rfl|(show (zeroP,false)=(dl (bm A) zeroP,false);rw [ez])
 |true=>
  cases (!sB p.XT 4&&mf p d (decide (d.Yc=p.Yc)) (decide (d.Yd=p.Yd)) (decide (d.Value=p.Value)))
  ·rfl
  show (zeroP,false)=(dl (bm A) zeroP,false);rw [ez]
theorem SK {n:Nat}(a:iN n p)(c:xb n d)(has ext:Bool)(k:Vy):iN n (dh p has ext k d).1:=by
 have key: ∀p,iN n p->iN n (dq k p d):=fun p a=>⟨tv (fun _=>c.1) (fun _=>a.1) (oS n),tv (fun _=>c.2.1) (fun _=>a.2.1) (oS n),tv (fun _=>c.2.2) (fun _=>a.2.2) (oS n)⟩
 unfold dh
 cases has with
 |false=>
  cases ext with
  |false=>exact wB n
  |true=>exact key _ (wB n)
 |true=>
  cases (!sB p.XT 4&&mf p d (decide (d.Yc=p.Yc)) (decide (d.Yd=p.Yd)) (decide (d.Value=p.Value))) with
  |true=>exact wB n
  |false=>exact key p a
set_option maxRecDepth 20000
theorem Fy {s:ByteArray}(h:(s.toList==(⟨#[]⟩:ByteArray).toList)=true):s=⟨#[]⟩:=sF.1 (eq_of_beq h)
theorem Gj (l:0<=v.no/\v.no<=4)(f:v.no≠2)(a:v.S=⟨#[]⟩)(d:v.no=3-> -9007199254740992<=v.N/\v.N<=9007199254740992)(c:v.no≠3->v.N=0):dm v=true:=by
 obtain ⟨k,n,s⟩:=v;simp only at*;subst a;unfold dm iG;simp only;rw [VR (show¬k<0 by omega),cf,bs,VR (show¬9<k by omega),cf,VR (show¬k=5 by omega),cf,beq_self_eq_true,nt,cf,VR f,cf];by_cases e:k=3
 ·obtain ⟨j,i⟩:=d e;rw [VQ e,ct,VQ j,ct,VQ i];rfl
 rw [VR e,cf,VR (show¬k=6 by omega),cf,VR (show¬k=7 by omega),bs,cf,VR (show¬k=9 by omega),bs,cf,VQ (c e)];rfl
theorem Te (d:v.no=5)(c:v.N=0)(a:(v.S.size:Int)<=65536):dm v=true:=by
 obtain ⟨k,n,s⟩:=v;have d:k=5:=d;have c:n=0:=c;have a:(s.size:Int)<=65536:=a;subst d c;show Option.getD (some (decide ((s.size:Int)<=65536))) false=true;rw [VQ a];rfl
theorem AP (N:Nat){n:Nat}(a:n<=10)(v:VH):Sat (pN N v (n:Int)) fun b=>b=true->VOk n v:=by
 have small:0<=v.no/\v.no<=4->v.no≠2->v.no≠3->Sat (od N (n:Int) v true) fun b=>b=true->VOk n v:=fun c q f=>by
  unfold od;rw [ct];refine dz (P:=fun b=>b=true->VOk n v) (fun e=>ar fun h=> ?_) (fun _=>ar fun h=>by cases h) fun b hb=>ar hb
  have a:=XG e;exact ⟨fun _=>Gj c q (Fy h) (fun h=>absurd h f) fun _=>a,by omega,by rw [a];decide,fun h=>by omega⟩
 have rest:v.no≠0->v.no≠1->v.no≠4->Sat (od N (n:Int) v false) fun b=>b=true->VOk n v:=fun c i d=>by
  unfold od;rw [cf];refine bq (fun f=> ?_) fun f=>bq (fun o=> ?_) fun o=>bq (fun p=> ?_) fun _=>ar fun h=>by cases h
  ·refine dz (P:=fun b=>b=true->v.S=⟨#[]⟩/\ -9007199254740992<=v.N) (fun e=>ar fun h=>⟨Fy e,XG h⟩) (fun _=>ar fun h=>by cases h) fun b hb=> ?_
   refine dz (P:=fun b=>b=true->VOk n v) (fun e=>ar fun h=> ?_) (fun _=>ar fun h=>by cases h) fun b hb=>ar hb
   obtain ⟨m,l⟩:=hb e;have j:=XG h;exact ⟨fun _=>Gj W W m (fun _=>⟨l,j⟩) fun h=>absurd f h,by omega,by constructor<;>omega,fun h=>by omega⟩
  ·refine dz (P:=fun b=>b=true->VOk n v) (fun e=>ar fun h=> ?_) (fun _=>ar fun h=>by cases h) fun b hb=>ar hb
   have a:=XG e;exact ⟨fun _=>Te o a (XG h),by omega,by rw [a];decide,fun h=>by omega⟩
  refine dz (P:=fun b=>b=true->v.S=⟨#[]⟩/\0<=v.N) (fun e=>ar fun h=>⟨Fy e,XG h⟩) (fun _=>ar fun h=>by cases h) fun b hb=> ?_
  refine dz (P:=fun b=>b=true->v.S=⟨#[]⟩/\0<=v.N/\v.N<(n:Int)) (fun e=>ar fun h=>⟨(hb e).1,(hb e).2,XG h⟩) (fun _=>ar fun h=>by cases h) fun b hb=>ar fun h=> ?_
  obtain ⟨m,l,j⟩:=hb h;exact ⟨fun h=>absurd p h,by omega,by constructor<;>omega,fun _=>⟨m,l,j⟩⟩
 unfold pN;refine bq (fun c=> ?_) fun c=>bq (fun i=> ?_) fun i=> ?_
 ·rw [VQ c];exact small W W W
 ·rw [VQ i];exact small W W W
 by_cases d:v.no=4
 ·rw [VQ d];exact small W W W
 rw [VR d];exact rest c i d
set_option maxRecDepth 20000
theorem Tt: ∀n:_root_.Fin 64,(0<=eZ .i64 (n.val:Int) 1/\eZ .i64 (n.val:Int) 1<=63)/\aM .i64 (eZ .i64 (n.val:Int) 1) 1=0/\aM .i64 (eZ .i64 (n.val:Int) 1) 16=aM .i64 (n.val:Int) 16:=by decide+kernel
theorem Kg {f:Int}(h:0<=f/\f<=63):(0<=eZ .i64 f 1/\eZ .i64 f 1<=63)/\aM .i64 (eZ .i64 f 1) 1=0/\aM .i64 (eZ .i64 f 1) 16=aM .i64 f 16:=by
 have:=Tt ⟨f.toNat,by omega⟩;simp only [Wh h.1] at this;exact this
def wN (c:VL):VL:=⟨c.no,c.XV,eZ .i64 c.XU 1,c.XW,c.XQ,c.XP⟩
theorem aao {N:Nat}(p:20000<=N)(e:v.no=7)(a:v.N=i){q:Nat}(f:k<=580)(A:q<=1000000000){w:VK}(j:c.XP.length<=2200)(h:Obj N i k q w c PL): ∃w',uM N w v=some w'/\Obj N i k q w' (wN c) PL/\FrO i w w' c (wN c)/\w'.Yh=w.Yh:=by
 have d:=pU h.right;have n:=h.wd.ep;obtain ⟨w',z,u,t,l⟩:=NK p e a h f c.XP j (fun x m=>h.val (VV _ m)) h.oc.plain (eZ .i64 c.XU 1) (Kg d.2.1).1;refine ⟨w',?_,u,t,l⟩;unfold uM;rw [jn e a f j h,bs];show Option.bind (jU N ⟨wN c,w,v⟩ false) _=_
 have o:0<=w'.Yh/\w'.Yh<=2000000000:=by rw [l];omega
 rw [Bo (c':=wN c) z o false,bs,Bool.false_and,F6]
def fI (k:Vy):Bool:=(fW N k).getD false
theorem BY {N:Nat}(a:5000<=N)(k:Vy):fW N k=some (fI N k):=by
 obtain ⟨b,h, -⟩:=Fj N a k;unfold fI;rw [h];rfl
theorem N6 {N:Nat}(a:5000<=N){k:Vy}(h:fI N k=true):keyR N k:=by
 unfold keyR;rw [BY a,h]
def fT (PL:List VN)(ext:Bool)(kind:Int)(key:Vy)(d:VE)(x:VH)(a:Int):Bool×List VN×Bool:=
 bif decide (kind=0) then (bif fI N key then ((dh (bZ PL key).1 (bZ PL key).2 ext key d).2,bif (dh (bZ PL key).1 (bZ PL key).2 ext key d).2 then eV PL (dh (bZ PL key).1 (bZ PL key).2 ext key d).1 else PL,ext) else (false,PL,ext)) else
 bif decide (kind=1) then (bif (bZ PL key).2 then (bif decide (aM .i64 (bZ PL key).1.XT 4=0) then (false,PL,ext) else (true,kC PL key,ext)) else (true,PL,ext)) else
 bif decide (kind=3) then (false,PL,false) else
 bif decide (kind=4) then (bif fI N key&&(decide (0<=a)&&decide (a<=7)) then (true,eV PL ⟨key,a,x,v0,v0⟩,ext) else (false,PL,ext)) else (false,PL,ext)
structure OpOk (n:Nat) (x:Vx):Prop where
 o:0<=x.O/\x.O<n
 p: -1<=x.P/\x.P<n
 d:R25 x.D
 v:VOk n x.V
 dv:VOk n x.D.Value
 dg:VOk n x.D.Yc
 ds:VOk n x.D.Yd
theorem KU (PL:List VN)(p:VN):(eV PL p).length<=PL.length+1:=by
 unfold eV;split
 ·rw [WT];omega
 rw [XI,WU];omega
theorem acb: ∀n:_root_.Fin 8,aM .i64 (n.val:Int) 9≠9/\aM .i64 (n.val:Int) 8=0:=by decide+kernel
theorem a7 {a:Int}(h:0<=a/\a<=7):gT a/\aM .i64 a 8=0:=by
 have:=acb ⟨a.toNat,by omega⟩;simp only [Wh h.1] at this;exact ⟨⟨h.1,by omega,this.1⟩,this.2⟩
theorem Ep.same (w:VK):Ep c c w w:=by
 unfold Ep;rw [VQ rfl,Bool.not_true,Bool.false_and,cond_false,Int.add_zero]
section
variable {N n b:Nat}(u:20000<=N)(q:n<=10)(hb:b<=120){w:VK}(h:St N n b w A C P)
include h
theorem St.to_ (q:n<=10)(c:VOk n v):qd N w 20 v=some (bm A v):=by
 unfold qd;by_cases a:v.no=7
 ·obtain ⟨-,d,e⟩:=c.ref a;have:=h.at_ (j:=v.N.toNat) W;rw [Wh d] at this;rw [VQ a,ct,ce (by constructor<;>omega),this,bs,kU a]
 rw [VR a,cf,kT a]
theorem St.valW (c:VOk n v)(q:0<n):ValW w.XX.m_ (bm A v):=by
 by_cases a:v.no=7
 ·obtain ⟨-,i,f⟩:=c.ref a;have d:=h.ob.ob v.N.toNat W;rw [kU a];refine ⟨?_,lZ d.wd.pl.hb.small d.has,fun _=>d.has⟩
  have:(1:Int)<=A v.N.toNat:=by
   rcases ip d.has with ⟨j, -,e⟩|⟨j, -,e⟩<;>omega
  unfold dm iG;rw [show ((⟨7,A v.N.toNat,⟨#[]⟩⟩:VH).S.toList==(⟨#[]⟩:ByteArray).toList)=true from beq_self_eq_true _];show Option.getD (some (decide (1<=A v.N.toNat))) false=true;rw [VQ this];rfl
 rw [kT a];refine ⟨c.may a,c.i64,fun hb=> ?_⟩;have:=c.kd;unfold aZ at hb;rw [VR a] at hb;have:v.no=9:=XG hb;omega
include u q hb
theorem adj {x:Vx}(d:OpOk n x)(h2:x.no≠2)(h5:x.no≠5)(hj:x.O=(j:Int)):
  Sat (lR N w 20 x) fun r=>r.1=(fT N (P j) (dP (C j)) x.no x.K (gg (bm A) x.D) (bm A x.V) x.XT).1/\ ∃c',St N n (b+1) r.2 A (eJ C j c') (eJ P j (fT N (P j) (dP (C j)) x.no x.K (gg (bm A) x.D) (bm A x.V) x.XT).2.1)/\dP c'=(fT N (P j) (dP (C j)) x.no x.K (gg (bm A) x.D) (bm A x.V) x.XT).2.2/\dT c'=dT (C j)/\c'.XQ[0]? =(C j).XQ[0]? /\Ep (C j) c' w r.2:=by
 have ho:=d.o
 have c:j<n:=by omega
 have ob:=h.ob.ob j c;have hm:=h.ob.more c
 have B:(C j).XP.length<=2200:=by rw [hm];exact Xt _
 have hlen:=h.len j c
 have stay: ∀(a:Bool),(a,w).1=a/\ ∃c',St N n (b+1) (a,w).2 A (eJ C j c') (eJ P j (P j))/\dP c'=dP (C j)/\dT c'=dT (C j)/\c'.XQ[0]? =(C j).XQ[0]? /\Ep (C j) c' w (a,w).2:=fun a=>⟨rfl,C j,by rw [Ck,Ck];exact h.stay,rfl,rfl,rfl,Ep.same w⟩
 have aft: ∀(a:Bool) (w':VK) (PL':List VN),qB N (A j) (80+4*b+4) (1+1024*b+1024) w (C j) PL' w'->PL'.length<=b+1->(a,w').1=a/\ ∃c',St N n (b+1) (a,w').2 A (eJ C j c') (eJ P j PL')/\dP c'=dP (C j)/\dT c'=dT (C j)/\c'.XQ[0]? =(C j).XQ[0]? /\Ep (C j) c' w (a,w').2:=fun a w' PL' ⟨c',o,s,f,e⟩ hl=>⟨rfl,c',h.op c o s.kind f hl,by unfold dP;rw [s.flags],by unfold dT;rw [s.flags],s.head,e⟩
 have O:jW N w (20+x.O)=some ⟨7,A j,⟨#[]⟩⟩:=by rw [hj];exact h.at_ c
 unfold lR;rw [ce (by constructor<;>omega),O,bs,h.to_ q d.dv,bs,h.to_ q d.dg,bs,h.to_ q d.ds,bs];unfold fT;refine bq (fun e=> ?_) fun e=>bq (fun F=> ?_) fun F=>bq (fun e2=>absurd e2 h2) fun _=>bq (fun L=> ?_) fun L=>bq (fun S=> ?_) fun S=>bq (fun e5=>absurd e5 h5) fun _=> ?_
 ·rw [VQ e,cond_true]
  cases l:fI N x.K with
  |false=>
   unfold rt;rw [jn (v:=⟨7,A j,⟨#[]⟩⟩) rfl rfl W B ob,bs];show Sat (Option.bind (Option.bind (fW N x.K) _) _) _;rw [BY W,l,bs,nf,ct,bs];exact ar (stay false)
  | true=>
   rw [cond_true];obtain ⟨o1,o2,Z,X⟩:=abi ob x.K;have T:R25 (gg (bm A) x.D):=d.d.map (qu A) (wE A);have D:=Gh N x.K ⟨Z,X⟩ T (bZ (P j) x.K).2 (dP (C j))
   have i:=fun e=>Ts (has:=(bZ (P j) x.K).2) (ext:=dP (C j)) (k:=x.K) e T o1 (h.valW d.dv W) (h.valW d.dg W) (h.valW d.ds W)
   generalize dh (bZ (P j) x.K).1 (bZ (P j) x.K).2 (dP (C j)) x.K (gg (bm A) x.D)=z at D i
   refine Sat.bind (P:=fun r=>r.1=z.2/\(z.2=false->r.2=w)/\(z.2=true->qB N (A j) (80+4*b+4) (1+1024*b+1024) w (C j) (eV (P j) (eR z.1)) r.2)) (TJ u J J ob W W B (N6 W l) (p:=z.1) (ok:=z.2) D (fun e=>⟨(i e).1,(i e).2.1,(i e).2.2.1⟩) W) fun r hr=> ?_
   obtain ⟨r1,K,H⟩:=hr
   cases ez:z.2 with
   |false=>
    rw [r1,ez,K ez,cond_false];exact ar (stay false)
   |true=>
    rw [r1,ez,cond_true];have H:=H ez;rw [(i ez).2.2.2.norm] at H;exact ar (aft true r.2 _ H (by have:=KU (P j) z.1;show (eV (P j) z.1).length<=b+1;omega))
 ·rw [VR e,cond_false,VQ F,cond_true];refine (TP u (v:=⟨7,A j,⟨#[]⟩⟩) J J ob W W B x.K).bind fun r hr=> ?_
  rcases hr with ⟨m,rfl⟩|⟨m,E,rfl⟩|⟨m,E,R,Q⟩
  ·rw [m,cond_false];exact ar (stay true)
  ·rw [m,cond_true,VQ E,cond_true];exact ar (stay false)
  rw [m,cond_true,VR E,cond_false,R];obtain ⟨c',o,s,f,ep⟩:=Q;refine ar (aft true r.2 _ ⟨c',o.up W (Xm _),s,f,ep⟩ ?_);have:(kC (P j) x.K).length<=(P j).length:=WR ..;show (kC (P j) x.K).length<=b+1;omega
 ·rw [VR e,cond_false,VR F,cond_false,VQ L,cond_true];obtain ⟨w',m,E,R,Q⟩:=aao u (v:=⟨7,A j,⟨#[]⟩⟩) rfl rfl W W B ob;have M:=pU ob.right;obtain ⟨-,f1,f2⟩:=Kg M.2.1;rw [m,bs];unfold pT;refine ar ⟨J,wN (C j),h.op c (E.up W W) J R (by show (P j).length<=b+1;omega),?_,?_,J,?_⟩
  ·unfold dP;show (!decide (aM .i64 (eZ .i64 (C j).XU 1) 1=0))=false;rw [f1];rfl
  ·unfold dT;show (!decide (aM .i64 (eZ .i64 (C j).XU 1) 16=0))=_;rw [f2]
  unfold Ep;show w'.Yh=w.Yh+(bif !decide ((C j).XV=(C j).XV)&&dT (C j) then 1 else 0);rw [VQ rfl,Bool.not_true,Bool.false_and,cond_false,Int.add_zero];exact Q
 ·rw [VR e,cond_false,VR F,cond_false,VR L,cond_false,VQ S,cond_true,h.to_ q d.v,bs];by_cases U:fI N x.K=true/\0<=x.XT/\x.XT<=7
  ·obtain ⟨l,a1,a2⟩:=U;rw [l,VQ a1,VQ a2,Bool.and_true,Bool.and_true,cond_true];obtain ⟨b1,b2⟩:=a7 ⟨a1,a2⟩
   have h9:(bm A x.V).no≠9:=by rw [wE];have:=d.v.kd;omega
   refine (acd u (v:=⟨7,A j,⟨#[]⟩⟩) J J ob W W B (N6 W l) (h.valW d.v W) h9 ⟨a1,a2⟩ b1 W).bind fun r hr=> ?_
   obtain ⟨r1,K⟩:=hr;rw [Fv (p:=⟨x.K,x.XT,bm A x.V,v0,v0⟩) b2] at K;rw [r1];exact ar (aft true r.2 _ K (by have:=KU (P j) ⟨x.K,x.XT,bm A x.V,v0,v0⟩;show (eV (P j) ⟨x.K,x.XT,bm A x.V,v0,v0⟩).length<=b+1;omega))
  have t:(fI N x.K&&(decide (0<=x.XT)&&decide (x.XT<=7)))=false:=by
   rw [Bool.eq_false_iff];intro t;rw [XM,XM,XE,XE] at t;exact U t
  rw [t,cond_false]
  have:nZ N w ⟨7,A j,⟨#[]⟩⟩ x.K (bm A x.V) x.XT=some (false,w):=by
   unfold nZ;rw [jn (v:=⟨7,A j,⟨#[]⟩⟩) rfl rfl W B ob,bs];show Option.bind (fW N x.K) _=_;rw [BY W,bs]
   cases l:fI N x.K with
   |false=>rfl
   | true=>
    rw [l,Wb] at t;rw [nt,cf,bs];by_cases V:x.XT<0
    ·rw [VQ V];rfl
    rw [VR V,cf,bs]
    have:7<x.XT:=by
     rw [VQ (show 0<=x.XT by omega),Wb,XD] at t;omega
    rw [VQ this];rfl
  rw [this,bs];exact ar (stay false)
 rw [VR e,cond_false,VR F,cond_false,VR L,cond_false,VR S,cond_false];unfold pT;exact ar (stay false)
end
end
section
open Go.RowKit
set_option maxRecDepth 20000
def nullV:VH:=⟨1,0,⟨#[]⟩⟩
def OI:VK:=match sf 64 with
 |some (.inr w)=>w
 |_=>default
theorem acC (K:Nat):sf (K+64)=some (.inr OI):=by kernel_rfl
def acP (w:VK):VK:=match pI 64 w nullV 1 with
 |some (v,_,w')=>(match uo 64 w' v with
  |some (_,a)=>a
  |none=>default)
 |none=>default
def tp (w:VK):VH×VK:=match pI 64 w nullV 1 with
 |some (v,_,w')=>(v,w')
 |none=>default
def wS:Nat->VK
 |0=>OI
 |j+1=>acP (wS j)
theorem acl (K:Nat): ∀j:Nat,j<4->pI (K+64) (wS j) nullV 1=some ((tp (wS j)).1,true,(tp (wS j)).2)/\uo (K+64) (tp (wS j)).2 (tp (wS j)).1=some ((20:Int)+(j:Int),wS (j+1))
 |0,_=>⟨by kernel_rfl,by kernel_rfl⟩
 |1,_=>⟨by kernel_rfl,by kernel_rfl⟩
 |2,_=>⟨by kernel_rfl,by kernel_rfl⟩
 |3,_=>⟨by kernel_rfl,by kernel_rfl⟩
theorem aa4 (K:Nat):mE (K+64) (wS 0)=some 20:=by kernel_rfl
def wL (v:VH):Bool:=decide (-9223372036854775808<=v.N)&&decide (v.N<=9223372036854775807)
theorem NU (h:wL v=true):in64 v.N:=by
 unfold wL at h;rw [XM,XE,XE] at h;exact h
def N2 (g:Vz)(c:VL):Bool:=bT c&&((bH c).all (az g.m_)&&(!decide (c.no=8)&&(!decide (c.no=10)&&(c.XQ++c.XP).all wL)))
def GS (g:Vz):Bool:=decide (ws g.m_.XS+ws g.m_.XR<=80)&&(decide (mS g.m_.XS+mS g.m_.XR<=0)&&(decide (g.Yb.length<=30)&&(g.Yg.isEmpty&&(decide (g.Yf.at_.map Prod.fst=el g.m_)&&((g.m_.XS++g.m_.XR).all (N2 g)&&(g.Yb.all wL&&(cc g.Yb).all (az g.m_)))))))
theorem aam (h:GS g=true):Pl g/\Hb 80 0 g:=by
 unfold GS at h;simp only [XM,XE,Wi,List.isEmpty_iff] at h;obtain ⟨p,o,n,f,e,m,l,j⟩:=h
 have a: ∀c∈g.m_.XS++g.m_.XR,bT c=true/\(∀x∈bH c,az g.m_ x=true)/\c.no≠8/\c.no≠10/\ ∀v∈c.XQ++c.XP,wL v=true:=fun c a=>by
  have:=m c a;unfold N2 at this;simpa only [XM,XE,Wi,Bool.not_eq_true',XD] using this
 obtain ⟨i,n2⟩:=Lz e;have hb:Hb 80 0 g:=⟨p,o,n⟩;exact ⟨⟨G7 W W hb f (fun c h v d=>NU ((a c h).2.2.2.2 v d)) (fun v d=>NU (l v d)) i n2 (fun c h=>⟨(a c h).2.2.1,(a c h).2.2.2.1⟩),f,fun c h=>⟨(a c h).1,(a c h).2.1,(a c h).2.2.1,(a c h).2.2.2.1⟩,j,Oi e⟩,hb⟩
def tbN:VC:=⟨[(⟨-1,⟨0,0,⟨#[]⟩⟩,0,0⟩:VI)],[]⟩
theorem F3 (h:Has tbN i s):i=0/\s=⟨-1,⟨0,0,⟨#[]⟩⟩,0,0⟩:=by
 have c:=h.lt
 have a:i=0:=by
  have:((tbN.Ya.length:Nat):Int)=1:=rfl;omega
 subst a;exact ⟨J,(Xx h.2).symm⟩
theorem aco (N:Nat):TI N tbN:=by
 refine ⟨fun i s h=> ?_,fun k j h=>by cases h⟩;obtain ⟨-,rfl⟩:=F3 h;exact ⟨Int.le_refl _,by show (0:Int)<=1024;omega,fun h=>absurd h (by show¬(0:Int)<0;omega)⟩
theorem acn:TU tbN:=by
 refine ⟨fun i s h a=> ?_,fun i s h _=>(F3 h).1⟩;obtain ⟨-,rfl⟩:=F3 h;exact absurd a (by show¬(0:Int)<0;omega)
def lg (w:VK)(j:Nat):Int:=(cm w.XX.Yb (20+j)).N
def iM (w:VK)(j:Nat):VL:=am w.XX.m_ (lg w j)
def On (w:VK)(j:Nat):Bool:=az w.XX.m_ (lg w j)&&(decide ((iM w j).no=1)&&(decide ((iM w j).XV=0)&&(decide ((iM w j).XQ=[nullV])&&decide ((iM w j).XP=[]))))
def Ov (w:VK):Bool:=match w.XX.Yb[19]? with
 |some x=>aZ x&&(decide ((am w.XX.m_ x.N).XP=[])&&(!decide ((am w.XX.m_ x.N).no=1)&&(!decide ((am w.XX.m_ x.N).no=2)&& !decide ((am w.XX.m_ x.N).no=5))))
 |none=>false
def OG (n:Nat)(w:VK):Bool:=GS w.XX&&(decide (w.Ya=tbN)&&(decide (w.Yh=0)&&(decide (w.Ye.Yy=1000)&&(decide (w.Yj.Yw=0)&&(Ov w&&(decide (w.XX.Yb.drop 20=wo (lg w) n)&&(decide (20<=w.XX.Yb.length)&&(decide (((List.range n).map (lg w)).Nodup)&&(List.range n).all (On w)))))))))
theorem wA (N n:Nat){w:VK}(h:OG n w=true):St N n 0 w (lg w) (iM w) fun _=> []:=by
 unfold OG at h;simp only [XM,XE,Wi,W7] at h;obtain ⟨H,l,P,F,O,d,E,M,D,q⟩:=h;obtain ⟨pl,hb⟩:=aam H
 have ob: ∀j,j<n->az w.XX.m_ (lg w j)=true/\(iM w j).no=1/\(iM w j).XV=0/\(iM w j).XQ=[nullV]/\(iM w j).XP=[]:=fun j c=>by
  have:=q j c;unfold On at this;simpa only [XM,XE] using this
 have none1: ∀j,j<n-> ∀(m:Nat) x,(iM w j).XQ[m+1]? =some x->False:=fun j c m x f=>by
  rw [(ob j c).2.2.2.1] at f;cases f
 refine ⟨⟨fun j c=> ?_,fun j c=>(ob j c).2.1,fun i j hi c o=>⟨fun e=> ?_,fun a b x y f=>(none1 i hi a x f).elim⟩⟩,fun j c=>Xm _,⟨w.XX.Yb.take 20,by rw [XJ];omega,by rw [<-E,Xe]⟩,?_,by rw [l];exact acn,F,by omega,by omega⟩
 ·obtain ⟨B,A,z,u,t⟩:=ob j c;refine ⟨⟨pl,by rw [t];exact hb,by rw [l];exact aco N,by rw [l];exact Xm _,by omega,by omega⟩,B,J,⟨.inl A,⟨nullV,by rw [u];rfl,.inl rfl⟩,fun _=>t,?_,by rw [u];rfl,List.nodup_nil⟩,fun m p C=>(by cases C),fun a b x y _ f=>(none1 j c a x f).elim⟩;rw [l,z];exact Row.nil (s:=⟨-1,⟨0,0,⟨#[]⟩⟩,0,0⟩) ⟨Int.le_refl _,J⟩ J
 ·have L:((List.range n).map (lg w))[i]? =some (lg w i):=by rw [WI,List.getElem?_range hi];rfl
  have K:((List.range n).map (lg w))[j]? =some (lg w i):=by rw [WI,List.getElem?_range c,e];rfl
  exact o ((List.getElem?_inj (by rw [XK,List.length_range];exact hi) D).1 (L.trans K.symm))
 unfold Ov at d;split at d
 ·rename_i x f
  simp only [XM,XE,Bool.not_eq_true',XD] at d;exact ⟨x,f,d.1,d.2.1,d.2.2.1,d.2.2.2.1,d.2.2.2.2⟩
 cases d
theorem acR (N:Nat): ∀n:Nat,n<=4->St N n 0 (wS n) (lg (wS n)) (iM (wS n)) fun _=> []
 |0,_=>wA N 0 I
 |1,_=>wA N 1 I
 |2,_=>wA N 2 I
 |3,_=>wA N 3 I
 |4,_=>wA N 4 I
theorem aai (K:Nat):vh (K+200)=some true:=by kernel_rfl
theorem Ni {N:Nat}(a:20000<=N):vh N=some true:=by
 obtain ⟨K,rfl⟩: ∃K,N=K+200:=⟨N - 200,by omega⟩;exact aai K
set_option maxRecDepth 20000
theorem wO {b:Bool}(h:(!b)=false):b=true:=by cases b<;>first|rfl|cases h
structure OpSz (x:Vx):Prop where
 k:x.K.S.size<=140737488355328
 v:x.V.S.size<=140737488355328
 d:x.D.Value.S.size<=140737488355328
theorem Ld {N n:Nat}(i:n<=10)(d:List Vx)(S:d.length<=40)(o:∀x∈d,OpSz x): ∀(m j:Nat) (s:Int),40<m+j->j<=40->0<=s->s<=70000->(∀(c:Nat) x,c<j->d[c]? =some x->OpOk n x)->Sat (At N (n:Int) d m s (j:Int)) fun r=>r≠0->r=1/\ ∀x∈d,OpOk n x
 |0,j,s,h,T,_,_,_=>by omega
 | m +1,j,s,h,T,h3,h4,p=>by
  rw [At.eq_2];refine bq (fun q=> ?_) fun q=> ?_
  ·refine kP W q fun x f=> ?_
   rw [Wg] at f;have z:=o x (W4 f);have Z:=z.k;have X:=z.v;have V:=z.d;refine bf (by constructor<;>omega) (bf (by constructor<;>omega) (bf (by constructor<;>omega) (bq (fun _=>ar fun h=>absurd J h) fun h9=> ?_)));refine dz (P:=fun b=>b=false->0<=x.O/\x.O<n) (fun _=>ar fun h=>by cases h) (fun e=>ar fun h=>by have:=XF e;have:=XF h;omega) fun b1 R=> ?_
   refine dz (P:=fun b=>b=false->(0<=x.O/\x.O<n)/\ -1<=x.P) (fun _=>ar fun h=>by cases h) (fun e=>ar fun h=>⟨R e,by have:=XF h;omega⟩) fun b2 Q=> ?_
   refine dz (P:=fun b=>b=false->((0<=x.O/\x.O<n)/\ -1<=x.P)/\x.P<n) (fun _=>ar fun h=>by cases h) (fun e=>ar fun h=>⟨Q e,by have:=XF h;omega⟩) fun b3 O=> ?_
   refine dz (P:=fun b=>b=false->(((0<=x.O/\x.O<n)/\ -1<=x.P)/\x.P<n)/\R25 x.D) (fun _=>ar fun h=>by cases h) (fun e=>(abL N x.D).bind fun y a=>ar fun h=>⟨O e,a (wO h)⟩) fun b4 M=> ?_
   refine dz (P:=fun b=>b=false->((((0<=x.O/\x.O<n)/\ -1<=x.P)/\x.P<n)/\R25 x.D)/\VOk n x.V) (fun _=>ar fun h=>by cases h) (fun e=>(AP N i x.V).bind fun y a=>ar fun h=>⟨M e,a (wO h)⟩) fun b5 L=> ?_
   refine dz (P:=fun b=>b=false->(((((0<=x.O/\x.O<n)/\ -1<=x.P)/\x.P<n)/\R25 x.D)/\VOk n x.V)/\VOk n x.D.Value) (fun _=>ar fun h=>by cases h) (fun e=>(AP N i x.D.Value).bind fun y a=>ar fun h=>⟨L e,a (wO h)⟩) fun b6 K=> ?_
   refine dz (P:=fun b=>b=false->((((((0<=x.O/\x.O<n)/\ -1<=x.P)/\x.P<n)/\R25 x.D)/\VOk n x.V)/\VOk n x.D.Value)/\VOk n x.D.Yc) (fun _=>ar fun h=>by cases h) (fun e=>(AP N i x.D.Yc).bind fun y a=>ar fun h=>⟨K e,a (wO h)⟩) fun b7 H=> ?_
   refine dz (P:=fun b=>b=false->OpOk n x) (fun _=>ar fun h=>by cases h) (fun e=>(AP N i x.D.Yd).bind fun y a=>ar fun h=> ?_) fun b8 F=>gn (fun _=>ar fun h=>absurd J h) fun U=> ?_
   ·obtain ⟨⟨⟨⟨⟨⟨E,D⟩,C⟩,B⟩,A⟩,u⟩,t⟩:=H e;exact ⟨E,⟨D,C⟩,B,A,u,t,a (wO h)⟩
   refine bf (by constructor<;>omega) ?_
   have:=Ld (N:=N) i d S o m (j+1) (s+(((x.K.S.size:Int)+(x.V.S.size:Int))+(x.D.Value.S.size:Int))) W W W W fun c y l a=>by
    by_cases e:c=j
    ·subst e;rw [f] at a;cases a;exact F U
    exact p c y W a
   exact this
  unfold Fe;refine ar fun _=>⟨J,fun x f=> ?_⟩
  obtain ⟨c,l⟩:=List.getElem?_of_mem f;have:=(WH.1 l).1;exact p c x W l
theorem ac0 {N n:Nat}(j:20000<=N)(e:n<=10)(a:List Vx)(d:∀x∈a,OpSz x):Sat (vI N a (n:Int)) fun r=>r≠0->r=1/\a.length<=40/\ ∀x∈a,OpOk n x:=by
 unfold vI;refine bq (fun _=>ar fun h=>absurd J h) fun h=> ?_
 exact (Ld (N:=N) e a W d N 0 0 W W W W fun f x i=>by omega).mono fun r hr c=>⟨(hr c).1,by omega,(hr c).2⟩
theorem acv {N:Nat}(d:v.no=7)(a:v.N=i){q:Nat}(e:k<=580){w:VK}(f:c.XP.length<=2200)(h:Obj N i k q w c PL):vc N w v=some (dP c):=by
 unfold vc;rw [jn d a e f h,bs];rfl
end
