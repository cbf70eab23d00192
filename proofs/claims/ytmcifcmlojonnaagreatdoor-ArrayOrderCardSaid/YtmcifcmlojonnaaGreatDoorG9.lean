/- Merged texts: part 9. No conditions of their own. -/
import Derived.Test.YtmcifcmlojonnaaGreatDoorG8
import Derived.Test.YtmcifcmlojonnaaGreatDoorG7
import Derived.KernelRfl
namespace Go.Proofs.YtmcifcmlojonnaaGreatDoor
variable (N:Nat){i:Int}{l:List (WP×Int)}{PL:List WJ}{E:List WK}{M M' k' q':Nat}{α:Type}{t:WG}{c c':WI}{p:WJ}{old v x:WK}{g:WN}{m:WO}{key:WP}{s:WQ}{dd:WU}
section
open Go.RowKit
def xJ (m:WO)(a:Int)(c:WI):WO:=bif decide (a%2=1) then ⟨m.Zh.set (a / 2).toNat c,m.Zj⟩ else ⟨m.Zh,m.Zj.set (a / 2 - 1).toNat c⟩
theorem P3 {a:Int}(c:WI)(h:aW m a=true):(∀x,aW (xJ m a c) x=aW m x)/\(∀x,aW m x=true->co (xJ m a c) x=if x=a then c else co m x)/\(xJ m a c).Zh.length=m.Zh.length/\(xJ m a c).Zj.length=m.Zj.length/\(∀d∈(xJ m a c).Zh++(xJ m a c).Zj,d∈m.Zh++m.Zj\/d=c)/\mS (xJ m a c).Zh+mS (xJ m a c).Zj<=mS m.Zh+mS m.Zj+c.Zb.length:=by
 have hhas: ∀m':WO,m'.Zh.length=m.Zh.length->m'.Zj.length=m.Zj.length-> ∀x,aW m' x=aW m x:=fun m' h1 h2 x=>by
  rw [Bool.eq_iff_iff];constructor
  ·intro hx;rcases jd hx with ⟨i,hi,rfl⟩|⟨i,hi,rfl⟩
   ·rw [Dd];exact WX I
   rw [yv];exact WX I
  intro hx;rcases jd hx with ⟨i,hi,rfl⟩|⟨i,hi,rfl⟩
  ·rw [Dd];exact WX I
  rw [yv];exact WX I
 rcases jd h with ⟨j,hj,rfl⟩|⟨j,hj,rfl⟩
 ·have e:xJ m (2*(j:Int)+1) c=⟨m.Zh.set j c,m.Zj⟩:=by
   unfold xJ;rw [WX I,cond_true,show ((2*(j:Int)+1) / 2).toNat=j by omega]
  rw [e];refine ⟨hhas _ (XZ ..) J,fun x hx=> ?_,XZ ..,J,fun d hd=> ?_,?_⟩
  ·rcases jd hx with ⟨i,hi,rfl⟩|⟨i,hi,rfl⟩
   ·rw [yL ⟨m.Zh.set j c,m.Zj⟩ i (by simpa using hi),yL m i hi];simp only [List.getElem_set];by_cases hij:j=i
    ·rw [if_pos hij,if_pos I]
    rw [if_neg hij,if_neg I]
   rw [xg ⟨m.Zh.set j c,m.Zj⟩ i hi,xg m i hi,if_neg I]
  ·rcases X6.1 hd with hd|hd
   ·rcases Ye hd with hd|hd
    ·exact .inl (W2 _ hd)
    exact .inr hd
   exact .inl (W3 _ hd)
  have:=EH (fun c:WI=>c.Zb.length) c m.Zh j;unfold mS;simp only at this⊢;omega
 have e:xJ m (2*(j:Int)+2) c=⟨m.Zh,m.Zj.set j c⟩:=by
  unfold xJ;rw [WY I,cond_false,show ((2*(j:Int)+2) / 2 - 1).toNat=j by omega]
 rw [e];refine ⟨hhas _ J (XZ ..),fun x hx=> ?_,J,XZ ..,fun d hd=> ?_,?_⟩
 ·rcases jd hx with ⟨i,hi,rfl⟩|⟨i,hi,rfl⟩
  ·rw [yL ⟨m.Zh,m.Zj.set j c⟩ i hi,yL m i hi,if_neg I]
  rw [xg ⟨m.Zh,m.Zj.set j c⟩ i (by simpa using hi),xg m i hi];simp only [List.getElem_set];by_cases hij:j=i
  ·rw [if_pos hij,if_pos I]
  rw [if_neg hij,if_neg I]
 ·rcases X6.1 hd with hd|hd
  ·exact .inl (W2 _ hd)
  rcases Ye hd with hd|hd
  ·exact .inl (W3 _ hd)
  exact .inr hd
 have:=EH (fun c:WI=>c.Zb.length) c m.Zj j;unfold mS;simp only at this⊢;omega
theorem yl (g:WN)(a:Int)(c:WI):(iv g a c).m_=xJ g.m_ a (BE c (co g.m_ a).Zf)/\(iv g a c).Zt=g.Zt/\(iv g a c).Zv=g.Zv/\(iv g a c).Zw.at_=bif decide (a%2=1) then g.Zw.at_ else BO g.Zw.at_ a c:=by
 unfold iv xJ;cases decide (a%2=1)<;>exact ⟨rfl,rfl,rfl,rfl⟩
theorem KB (h:bQ c=true){a:Int}(h0:0<=a)(h1:a<=1):bQ (BE c a)=true:=by
 unfold bQ at h⊢;simp only [Y0,Bool.not_eq_true',YR] at h⊢;obtain ⟨⟨⟨⟨⟨⟨⟨p1,p2⟩,p3⟩,p4⟩,p5⟩, -⟩, -⟩,h⟩:=h;exact ⟨⟨⟨⟨⟨⟨⟨p1,p2⟩,p3⟩,p4⟩,p5⟩,by show¬a<0;omega⟩,by show¬1<a;omega⟩,h⟩
theorem Ni (h:bQ c=true):0<=c.Zf/\c.Zf<=1:=by
 unfold bQ at h;simp only [Y0,Bool.not_eq_true',YR] at h;omega
theorem Vf {N:Nat}(hN:6500<N)(hs:Small g.m_ (g.Zt++g.Zv)){a:Int}(hh:aW g.m_ a=true)(h1:c.Zc.length<=600/\c.Zb.length<=2900):
  ml N g a c=some (bif !bQ c then (51,g) else (0,iv g a c)):=by
 have hy:=hs.young;have ho:=hs.old;unfold ml aL;rw [bs,cf,Ss N g (wM hs hh),bs,yE hN I,bs,hh]
 cases bQ c with
 |false=>rfl
 | true=>
  rw [nt,cf,cf];unfold ip;rcases jd hh with ⟨i,hi,rfl⟩|⟨i,hi,rfl⟩
  ·have e1:(2*(i:Int)+1).tmod 2=1:=by rw [uD I];omega
   have e2:(2*(i:Int)+1).tdiv 2=i:=by rw [Xk I];omega
   have e3:(2*(i:Int)+1) / 2=i:=by omega
   have e4:(2*(i:Int)+1)%2=1:=by omega
   unfold iv;rw [e1,e2,e3,e4,WX (p:=(1:Int)=1) rfl,WY (p:=(1:Int)=0) I,ct,ct,r64 I I,aK hi,bs,bs]
   dsimp only [Ef]
   rw [aK hi,bs,pJ N c I,bs,cf,yL g.m_ i hi];unfold mR;rw [List.set_set];rfl
  have e1:(2*(i:Int)+2).tmod 2=0:=by rw [uD I];omega
  have e2:(2*(i:Int)+2).tdiv 2=(i:Int)+1:=by rw [Xk I];omega
  have e3:(2*(i:Int)+2) / 2 - 1=i:=by omega
  have e4:(2*(i:Int)+2)%2=0:=by omega
  have e5:(i:Int)+1 - 1=i:=by omega
  obtain ⟨b,hb⟩:=NA hN (c:=c) I g.Zw.at_ i;have hb':cQ N g.Zw (2*(i:Int)+2) c=some (b,⟨BO g.Zw.at_ (2*(i:Int)+2) c⟩):=hb;unfold iv;rw [hb',e1,e2,e3,e4,e5,WY (p:=(0:Int)=1) I,WX (p:=(0:Int)=0) rfl,cf,cf,r64 I I,r64 I I,aK hi,bs,bs]
  dsimp only [Ef]
  rw [aK hi,bs,pJ N c I,bs,ct,bs,xg g.m_ i hi];unfold mQ;rw [List.set_set];rfl
theorem Np (hs:FH g.Zw.at_=nY g.m_)(hnd:(g.Zw.at_.map Prod.fst).Nodup){a:Int}(ha:aW g.m_ a=true)(c:WI)(nd:((iv g a c).Zw.at_.map Prod.fst).Nodup):FH (iv g a c).Zw.at_=nY (iv g a c).m_:=by
 obtain ⟨f1, -, -,f4⟩:=yl g a c;obtain ⟨s1,s2,s3,s4, -, -⟩:=P3 (BE c (co g.m_ a).Zf) ha;have e:FH (iv g a c).Zw.at_=kA ((iv g a c).Zw.at_.map Prod.fst):=rfl;rw [e]
 refine EN nd (BZ _) fun x=> ?_
 have hkv: ∀x,x∈g.Zw.at_.map Prod.fst↔x∈nY g.m_:=fun x=>by rw [<-hs];exact (vD _ x).symm
 have hold: ∀i,i<g.m_.Zj.length->uS (iv g a c).m_ i=if 2*(i:Int)+2=a then (fU c).any yB else uS g.m_ i:=fun i hi=>by
  unfold uS;rw [f1,s2 _ (by rw [yv];exact WX hi)];split<;>rfl
 rw [vV,f1,s4,f4, <-f1];rcases jd ha with ⟨j,hj,rfl⟩|⟨j,hj,rfl⟩
 ·rw [WX I,cond_true,hkv,vV];refine ⟨fun ⟨i,h1,h2,h3⟩=>⟨i,h1,by rw [hold i h1,if_neg I];exact h2,h3⟩,fun ⟨i,h1,h2,h3⟩=>⟨i,h1,by rw [hold i h1,if_neg I] at h2;exact h2,h3⟩⟩
 rw [WY I,cond_false,Hc hnd,hkv,vV];constructor
 ·rintro (⟨h1,⟨i,q1,q2,rfl⟩|rfl⟩|⟨h1,⟨i,q1,q2,rfl⟩,hne⟩)
  ·refine ⟨i,q1,?_,J⟩;rw [hold i q1];split
   ·exact h1
   exact q2
  ·exact ⟨j,hj,by rw [hold j hj,if_pos rfl];exact h1,rfl⟩
  exact ⟨i,q1,by rw [hold i q1,if_neg hne];exact q2,rfl⟩
 rintro ⟨i,q1,q2,rfl⟩;rw [hold i q1] at q2;by_cases hij:2*(i:Int)+2=2*(j:Int)+2
 ·rw [if_pos hij] at q2;exact .inl ⟨q2,.inr hij⟩
 rw [if_neg hij] at q2
 cases hb:(fU c).any yB with
 |true=>exact .inl ⟨rfl,.inl ⟨i,q1,q2,rfl⟩⟩
 |false=>exact .inr ⟨rfl,⟨i,q1,q2,rfl⟩,hij⟩
theorem P5 (c:WI):(∀x,aW m x=true->aW ⟨m.Zh++ [c],m.Zj⟩ x=true/\co ⟨m.Zh++ [c],m.Zj⟩ x=co m x)/\aW ⟨m.Zh++ [c],m.Zj⟩ (2*(m.Zh.length:Int)+1)=true/\co ⟨m.Zh++ [c],m.Zj⟩ (2*(m.Zh.length:Int)+1)=c:=by
 refine ⟨fun x hx=> ?_,?_,?_⟩
 ·rcases jd hx with ⟨i,hi,rfl⟩|⟨i,hi,rfl⟩
  ·have h2:i<(m.Zh++ [c]).length:=by simp;omega
   exact ⟨by rw [Dd];exact WX h2,by rw [yL ⟨m.Zh++ [c],m.Zj⟩ i h2,yL m i hi];exact List.getElem_append_left hi⟩
  exact ⟨by rw [yv];exact WX hi,by rw [xg ⟨m.Zh++ [c],m.Zj⟩ i hi,xg m i hi]⟩
 ·rw [Dd];exact WX (by simp)
 rw [yL ⟨m.Zh++ [c],m.Zj⟩ m.Zh.length (by simp)];simp
theorem Pg (c:WI):nY ⟨m.Zh++ [c],m.Zj⟩=nY m:=by
 unfold nY;show List.map _ ((List.range m.Zj.length).filter _)=_
 congr 1
 refine List.filter_congr fun i hi=> ?_
 unfold uS;rw [((P5 c).1 (2*(i:Int)+2) (by rw [yv];exact WX (Yf.1 hi))).2]
theorem To {N:Nat}(hs:∀c∈g.m_.Zh++g.m_.Zj,c.Zc.length<=600/\c.Zb.length<=2900){a:Int}(ha:in64 a)(hh:aW g.m_ a=true):nq N g a=some (co g.m_ a,true):=by
 unfold nq;rw [Ss N g ha,bs,hh];have hc:=hs _ (o9 hh);have hi64:in64 a:=ha;unfold ip;rcases jd hh with ⟨i,hi,rfl⟩|⟨i,hi,rfl⟩
 ·have e1:(2*(i:Int)+1).tmod 2=1:=by rw [uD I];omega
  have e2:(2*(i:Int)+1).tdiv 2=i:=by rw [Xk I];omega
  rw [yL g.m_ i hi] at hc⊢;unfold in64 at hi64;rw [nt,cf,e1,e2,WX (p:=(1:Int)=1) rfl,ct,r64 I I,aK hi,bs,bs]
  dsimp only [Ef]
  rw [aK hi,bs,pJ N _ I,bs]
 have e1:(2*(i:Int)+2).tmod 2=0:=by rw [uD I];omega
 have e2:(2*(i:Int)+2).tdiv 2=(i:Int)+1:=by rw [Xk I];omega
 have e5:(i:Int)+1 - 1=i:=by omega
 rw [xg g.m_ i hi] at hc⊢;unfold in64 at hi64;rw [nt,cf,e1,e2,e5,WY (p:=(0:Int)=1) I,cf,r64 I I,r64 I I,aK hi,bs,bs]
 dsimp only [Ef]
 rw [aK hi,bs,pJ N _ I,bs]
theorem N8 {N:Nat}{w:WH}(hs:∀c∈w.Zo.m_.Zh++w.Zo.m_.Zj,c.Zc.length<=600/\c.Zb.length<=2900)(hv:bL v=true)(ha:in64 v.N)(hh:aW w.Zo.m_ v.N=true):bR N w v=some (co w.Zo.m_ v.N):=by
 have e:iS N v=some (bL v):=by
  unfold iS bL;cases decide (v.Za=7)<;>rfl
 unfold bR;rw [e,bs,hv,nt,cf,To hs ha hh,bs];rfl
theorem LI (N:Nat){j:Nat}(h:g.Zt[j]? =some v):dh N g (j:Int)=some v:=by
 obtain ⟨hj,e⟩:=XN.1 h;rw [Ng];unfold GX;rw [WX (p:=(0:Int)<=(j:Int)) I,WX (p:=(j:Int)<(g.Zt.length:Int)) I,Xm,List.getD_eq_getElem?_getD,h];rfl
def H4 (w:WH)(g:WN):WH:=⟨w.ZB,w.Zu,(),g,w.Zp,w.Zy,w.ZE,w.ZF,w.ZG,w.Zz,w.ZA⟩
theorem NH (N:Nat){w:WH}(h:w.Zo.Zt.length<=600):dz N w=some (w.Zo.Zt.length:Int):=by
 unfold dz;rw [JF N _ h,bs]
theorem cl {ρ σ:Type}{b:Bool}{x y:Option σ}{f:σ->Option ρ}{P:σ->Prop}{R:ρ->Prop}(h1:b=true->Sat x P)(h2:b=false->Sat y P)(k:∀z,P z->Sat (f z) R):Sat ((bif b then x else y).bind f) R:=Sat.bind (dx h1 h2) k
def Tn (k:WP):Prop:=k.Za=0->0<=k.N/\k.N<=4294967294
def zJ (a:Int):Prop:=0<=a/\a<=15/\ai .i64 a 9≠9
theorem OC (N:Nat)(a:Int):Sat (pp N a) fun b=>b=true->zJ a:=by
 unfold pp
 refine Sat.bind (P:=fun b=>b=true->0<=a/\a<=15) (az (fun h=>ac fun h1=>⟨h,YU h1⟩) fun h=>ac fun h=>by cases h) fun b hb=> ?_
 refine cl (P:=fun c=>c=true->zJ a) (fun e=>ac fun h=>⟨(hb e).1,(hb e).2,fun h1=> ?_⟩) (fun _=>ac fun h=>by cases h) fun c hc=>ac hc
 rw [WX h1] at h;cases h
theorem Ce {b:ByteArray}(h0:0<=i)(h1:i<(b.size:Int)):Sat (FQ b i) fun x=>0<=x/\x<=255:=by
 have h2:i.toNat<b.size:=by omega
 unfold FQ;rw [if_pos h0,getElem?_pos b i.toNat h2];exact ⟨((b[i.toNat]).toNat:Int),J,by omega,by have:=(b[i.toNat]).toNat_lt;omega⟩
theorem Ud (x:Int):0<=IntKind.u8.wrap x/\IntKind.u8.wrap x<=255:=by
 have:IntKind.u8.wrap x=x%256:=by rfl
 omega
theorem FL (N:Nat)(s:ByteArray)(hs:s.size<=10): ∀(m i:Nat) (p:Int),s.size<m+i->i<=s.size->0<=p->p+29<=29*(10:Int) ^ i->Sat (nO N s m p (i:Int)) fun _=>True
 |0,i,p,h,h1,_,_=>by omega
 | m+1,i,p,h,h1,h2,h3=>by
  rw [nO.eq_2]
  have h10:(10:Int) ^ i<=10 ^ 10:=by
   have:(10:Nat) ^ i<=10 ^ 10:=Nat.pow_le_pow_right I I
   exact_mod_cast this
  rw [show (10:Int) ^ 10=10000000000 from rfl] at h10
  refine az (fun h7=> ?_) fun h7=> ?_
  ·refine (Ce I h7).bind fun x hx=> ?_
   refine cl (P:=fun _=>True) (fun _=>ac trivial) (fun _=>(Ce I h7).bind fun y _=>ac trivial) fun c _=> ?_
   refine dx (fun _=>ac trivial) fun _=> ?_
   refine av (by constructor<;>omega) ((Ce I h7).bind fun y hy=> ?_);have h8:=Ud (y - 48);rw [show IntKind.i64.wrap (IntKind.u8.wrap (y - 48))=IntKind.u8.wrap (y - 48) from IntWalk.i64_in _ ⟨by omega,by omega⟩];generalize IntKind.u8.wrap (y - 48)=d at h8;refine av (by constructor<;>omega) (av (by constructor<;>omega) ?_);exact FL N s hs m (i+1) _ I I I (by rw [Int.pow_succ];omega)
  unfold sW
  exact az (fun _=>ac trivial) fun _=>ac trivial
theorem JE (N:Nat)(hN:5000<=N)(s:ByteArray):Sat (iX N s) fun _=>True:=by
 unfold iX;by_cases h10:s.size<=10
 ·cases e:(s.toList==(⟨#[]⟩:ByteArray).toList) with
  |true=>exact ac trivial
  | false=>
   have hs:0<s.size:=by
    rcases Yy s.size with h|h
    ·exfalso
     have:s=⟨#[]⟩:=by
      obtain ⟨d⟩:=s;have:d= #[]:=Array.eq_empty_of_size_eq_zero h;rw [this]
     rw [this] at e;rw [beq_self_eq_true] at e;cases e
    exact h
   show Sat (Option.bind (some (decide (10<(s.size:Int)))) _) _;rw [bs,WY I];show Sat (Option.bind ((FQ s 0).bind _) _) _
   refine Sat.bind (P:=fun _=>True) ((Ce I I).bind fun x _=>cl (P:=fun _=>True) (fun _=>ac trivial) (fun _=>ac trivial) fun _ _=>ac trivial) fun b _=> ?_
   exact dx (fun _=>ac trivial) fun _=>FL N s h10 N 0 0 I I I (by decide)
 have:(bif s.toList==(⟨#[]⟩:ByteArray).toList then (some true) else (some (decide (10<(s.size:Int)))))=some true:=by
  cases s.toList==(⟨#[]⟩:ByteArray).toList with
  |true=>rfl
  |false=>show some _=_;rw [WX I]
 rw [this];exact ac trivial
theorem Da (N:Nat)(hN:5000<=N)(k:WP):Sat (aZ N k) fun b=>b=true->Tn k:=by
 unfold aZ
 refine az (fun h=> ?_) fun h=> ?_
 ·refine cl (P:=fun b=>b=true->0<=k.N) (fun _=>ac fun h=>YU h) (fun _=>ac fun h=>by cases h) fun b hb=> ?_
  refine cl (P:=fun c=>c=true->Tn k) (fun e=>ac fun h _=>⟨hb e,YU h⟩) (fun _=>ac fun h=>by cases h) fun c hc=>ac hc
 refine Sat.mono (R:=fun _=>True) ?_ fun _ _ _ h'=>absurd h' h
 refine az (fun _=> ?_) fun _=> ?_
 ·refine (JE N hN k.S).bind fun y _=> ?_
  refine cl (P:=fun _=>True) (fun _=>ac trivial) (fun _=>ac trivial) fun b _=> ?_
  exact cl (P:=fun _=>True) (fun _=>ac trivial) (fun _=>ac trivial) fun b _=>ac trivial
 refine az (fun _=> ?_) fun _=>ac trivial
 exact cl (P:=fun _=>True) (fun _=>ac trivial) (fun _=>ac trivial) fun b _=>ac trivial
theorem Q0 (N:Nat){a:Int}(h:zJ a):pp N a=some true:=by
 unfold pp;rw [WX h.1,ct,bs,WX h.2.1,ct,WY h.2.2];rfl
def keyR (k:WP):Prop:=aZ N k=some true
theorem keyR.b {N:Nat}(hN:5000<=N){k:WP}(h:keyR N k):Tn k:=by
 obtain ⟨b,h1,h2⟩:=Da N hN k;rw [h] at h1;cases h1;exact h2 J
def SY (x:WP×Int):Prop:=keyR N x.1/\zJ x.2
def ka (s:WQ):WP×Int:=(s.Zg,s.Zd)
def Has (t:WG)(i:Int)(s:WQ):Prop:=0<=i/\t.Zp[i.toNat]? =some s
theorem Has.lt (h:Has t i s):0<=i/\i<t.Zp.length:=by
 have:=(XN.1 h.2).1;exact ⟨h.1,by have:=h.1;omega⟩
theorem Has.get (h:Has t i s):au t.Zp i=some s:=by
 unfold au;rw [if_neg (by have:=h.1;omega)];exact h.2
theorem Has.one {s':WQ}(h:Has t i s)(h':Has t i s'):s=s':=YL (h.2.symm.trans h'.2)
def Le (t t':WG):Prop:= ∀i s,Has t i s->Has t' i s
theorem Le.refl (t:WG):Le t t:=fun _ _ h=>h
theorem Le.trans {a b c:WG}(h:Le a b)(h':Le b c):Le a c:=fun i s x=>h' i s (h i s x)
structure TI (N:Nat) (t:WG):Prop where
 sh: ∀i s,Has t i s->0<=s.ZC/\s.ZC<=1024/\(0<s.ZC->SY N (ka s)/\ ∃u,Has t s.Up u/\u.ZC=s.ZC - 1)
 nx: ∀k j,lk t.ZD k=some j-> ∃a b,Has t k.ZT a/\Has t j b/\b.ZC=a.ZC+1/\b.Up=k.ZT/\b.Zg=k.ZQ/\b.Zd=k.ZU
inductive Row (t:WG):Int->List (WP×Int)->Prop
 |nil {i:Int} {s:WQ}:Has t i s->s.ZC=0->Row t i []
 |snoc {i:Int} {s:WQ} {l:List (WP×Int)}:Has t i s->0<s.ZC->Row t s.Up l->Row t i (l++ [ka s])
theorem Row.mono {t':WG}(h:Le t t')(r:Row t i l):Row t' i l:=by
 induction r with
 |nil h1 h2=>exact .nil (h _ _ h1) h2
 |snoc h1 h2 _ ih=>exact .snoc (h _ _ h1) h2 ih
theorem Row.has {N:Nat}(ti:TI N t)(r:Row t i l): ∃s,Has t i s/\s.ZC=l.length:=by
 induction r with
 |nil h1 h2=>exact ⟨_,h1,h2⟩
 |snoc h1 h2 _ ih=>
  obtain ⟨u,u1,u2⟩:=ih;obtain ⟨-, -,a3⟩:=ti.sh _ _ h1;obtain ⟨-,u',b1,b2⟩:=a3 h2;have:=u1.one b1;subst this;exact ⟨_,h1,by rw [YW,X0];omega⟩
theorem Row.le {N:Nat}(ti:TI N t)(r:Row t i l):l.length<=1024:=by
 obtain ⟨s,s1,s2⟩:=r.has ti;have:=(ti.sh _ _ s1).2.1;omega
theorem Row.ok {N:Nat}(ti:TI N t)(r:Row t i l): ∀x∈l,SY N x:=by
 induction r with
 |nil h1 h2=>simp
 |snoc h1 h2 _ ih=>
  intro x hx;rcases X6.1 hx with hx|hx
  ·exact ih x hx
  rw [Yg] at hx;subst hx;exact ((ti.sh _ _ h1).2.2 h2).1
theorem Tp (N:Nat)(t:WG)(i:Int):ft N t i=some (decide (0<=i)&&decide (i<(t.Zp.length:Int))):=by
 unfold ft;cases decide (0<=i)<;>rfl
theorem Has.has (N:Nat)(h:Has t i s):ft N t i=some true:=by
 rw [Tp,WX h.lt.1,WX h.lt.2];rfl
theorem UI (N:Nat)(h:Has t i s):nB N t i=some (s,true):=by
 unfold nB;rw [h.has N,bs,nt,cf,h.get,bs]
theorem KT (N:Nat)(h:Has t i s):fu N t i=some s.ZC:=by
 unfold fu;rw [UI N h,bs]
theorem Jf (N:Nat)(ti:TI N t)(lf:List (WP×Int))(hL:lf.length<=1024): ∀(m:Nat) (a7:Int) (a6:List WQ) (l0 rest:List (WP×Int)),l0.length<m->lf=l0++rest->a6.length=lf.length->Row t a7 l0->
  (a6.drop l0.length).map ka=rest->Sat (kE N t m a7 a6 ((l0.length:Int) - 1)) fun l=>l.map ka=lf
 |0,_,_,l0,_,h,_,_,_,_=>by omega
 | m+1,a7,a6,l0,rest,h,h1,h2,h3,h4=>by
  rw [kE.eq_2]
  cases h3 with
  |nil h5 h6=>
   rw [WY (by rw [XY];omega),cf];exact ac (by rw [h1, <-h4];rfl)
  | @snoc _ s l h5 h6 h7=>
   have e1:((((l++ [ka s]).length:Nat):Int) - 1)=(l.length:Int):=by rw [YW,X0];omega
   have e2:lf.length=l.length+1+rest.length:=by rw [h1,YW,YW,X0]
   rw [e1,WX I,ct,h5.get,bs]
   refine pU I I fun a8 _=> ?_
   refine pU I (by rw [XZ];omega) fun b0 h8=> ?_
   rw [Xm,XQ I] at h8;cases h8;refine av (by constructor<;>omega) ?_;refine Jf N ti lf hL m _ _ l (ka s::rest) (by rw [YW,X0] at h;omega) (by rw [h1,W0];rfl) (by rw [XZ];exact h2) h7 ?_;rw [Xm,List.drop_set,if_neg I,YF,Xt (show l.length<a6.length by omega)];rw [YW,X0] at h4;rw [List.set_cons_zero,X4,h4]
theorem H8 (N:Nat)(hN:5000<=N)(ti:TI N t)(h:Row t i l):Sat (fq N t i) fun r=>r.map ka=l:=by
 obtain ⟨s,s1,s2⟩:=h.has ti;have:=h.le ti;unfold fq;rw [KT N s1,bs,s2];refine av (by constructor<;>omega) (av (by rw [List.length_replicate];constructor<;>omega) ?_);rw [List.length_replicate,Xm];refine Jf N ti l this N i _ l [] I (by simp) (by simp) h (by simp)
theorem Hj (N:Nat)(y:List WQ)(hy:y.length<=1024): ∀(m i:Nat) (p:List WP),y.length<m+i->i<=y.length->p=(y.take i).map (·.Zg)->Sat (kG N y m p (i:Int)) fun l=>l=y.map (·.Zg)
 |0,i,p,h,h1,_=>by omega
 | m+1,i,p,h,h1,h2=>by
  rw [kG.eq_2]
  have hp:p.length<=i:=by rw [h2,YY,YX];omega
  refine az (fun h7=> ?_) fun h7=> ?_
  ·refine pU I h7 fun x hx=> ?_
   refine av (by unfold bu;rw [X0];omega) (av (by constructor<;>omega) ?_);refine Hj N y hy m (i+1) _ I I ?_;rw [Xm] at hx;rw [h2,List.take_add_one,hx,X3];rfl
  exact ac (by rw [h2,Yq I])
theorem Ra (N:Nat)(hN:5000<=N)(ti:TI N t)(h:Row t i l):gn N t i=some (l.map (·.1)):=by
 have:=h.le ti;refine Sat.eq ?_;unfold gn
 refine (H8 N hN ti h).bind fun r hr=> ?_
 have e:r.length=l.length:=by rw [<-hr,YY]
 exact (Hj N r I N 0 [] I I J).mono fun x hx=>by rw [hx, <-hr,List.map_map];rfl
theorem Gf (N:Nat)(y:List WQ)(hy:y.length<=1024): ∀(m i:Nat) (p:List Int),y.length<m+i->i<=y.length->p=(y.take i).map (·.Zd)->Sat (jW N y m p (i:Int)) fun l=>l=y.map (·.Zd)
 |0,i,p,h,h1,_=>by omega
 | m+1,i,p,h,h1,h2=>by
  rw [jW.eq_2]
  have hp:p.length<=i:=by rw [h2,YY,YX];omega
  refine az (fun h7=> ?_) fun h7=> ?_
  ·refine pU I h7 fun x hx=> ?_
   refine av (by unfold bu;rw [X0];omega) (av (by constructor<;>omega) ?_);refine Gf N y hy m (i+1) _ I I ?_;rw [Xm] at hx;rw [h2,List.take_add_one,hx,X3];rfl
  exact ac (by rw [h2,Yq I])
theorem P1 (N:Nat)(hN:5000<=N)(ti:TI N t)(h:Row t i l):fL N t i=some (l.map (·.2)):=by
 have:=h.le ti;refine Sat.eq ?_;unfold fL
 refine (H8 N hN ti h).bind fun r hr=> ?_
 have e:r.length=l.length:=by rw [<-hr,YY]
 exact (Gf N r I N 0 [] I I J).mono fun x hx=>by rw [hx, <-hr,List.map_map];rfl
def SH (l:List (WP×Int))(k:WP)(r:Int×Int×Bool):Prop:=(r=(0,0,false)/\ ∀x∈l,x.1≠k)\/ ∃n:Nat,r.1=n/\r.2.2=true/\l[n]? =some (k,r.2.1)
theorem Ht (N:Nat)(ti:TI N t)(k:WP): ∀(m:Nat) (i:Int) (s:WQ) (l:List (WP×Int)),l.length<m->Has t i s->Row t i l->Sat (jV N t k m s.Up s.Zg.Za s.Zg.N s.Zg.S s.Zd s.ZC) (SH l k)
 |0,i,s,l,h,h1,h2=>by omega
 | m+1,i,s,l,h,h1,h2=>by
  rw [jV.eq_2];have hle:=h2.le ti
  cases h2 with
  |nil h5 h6=>
   have:=h1.one h5;subst this;rw [WY I,cf];exact ac (.inl ⟨J,by simp⟩)
  | @snoc _ s' l h5 h6 h7=>
   have:=h1.one h5;subst this;rw [YW,X0] at h hle;obtain ⟨u,u1,u2⟩:=h7.has ti;obtain ⟨a1,a2,a3⟩:=ti.sh _ _ h1;obtain ⟨b1,u',b2,b3⟩:=a3 h6;have:=u1.one b2;subst this;rw [WX h6,ct]
   refine az (fun e=>av (by constructor<;>omega) (ac (.inr ⟨l.length,by show s.ZC - 1=_;omega,rfl,?_⟩))) fun e=> ?_
   ·rw [XH (YA _),YF];show some (ka s)=_;rw [show k=s.Zg from e.symm];rfl
   rw [u1.get,bs]
   refine (Ht N ti k m _ u l I u1 h7).mono fun r hr=> ?_
   rcases hr with ⟨r1,r2⟩|⟨n,r1,r2,r3⟩
   ·refine .inl ⟨r1,fun x hx=> ?_⟩;rcases X6.1 hx with hx|hx
    ·exact r2 x hx
    rw [Yg] at hx;subst hx;exact e
   exact .inr ⟨n,r1,r2,by rw [XG (XN.1 r3).1];exact r3⟩
theorem Ew (N:Nat)(hN:5000<=N)(ti:TI N t)(h:Row t i l)(k:WP):Sat (dw N t i k) (SH l k):=by
 obtain ⟨s,s1,s2⟩:=h.has ti;have:=h.le ti;unfold dw;rw [s1.has N,bs,nt,cf,s1.get,bs];exact Ht N ti k N i s l I s1 h
theorem DW (N:Nat)(ti:TI N t)(n:Nat): ∀(m:Nat) (i:Int) (l:List (WP×Int)),l.length<m->Row t i l->n<=l.length->Sat (jy N (n:Int) t m i) fun r=>Row t r (l.take n)
 |0,i,l,h,h1,h2=>by omega
 | m+1,i,l,h,h1,h2=>by
  obtain ⟨s,s1,s2⟩:=h1.has ti;rw [jy.eq_2,s1.get,bs]
  refine az (fun h7=> ?_) fun h7=>ac (by rw [Yq I];exact h1)
  rw [bs]
  cases h1 with
  |nil h5 h6=>rw [XY] at s2;omega
  | @snoc _ s' l h5 h6 h8=>
   have:=s1.one h5;subst this;rw [YW,X0] at h s2 h2;rw [List.take_append_of_le_length I];exact DW N ti n m _ l I h8 I
theorem HL (N:Nat)(hN:5000<=N)(ti:TI N t)(h:Row t i l)(n:Nat)(h2:n<=l.length):Sat (gT N t i (n:Int)) fun r=>Row t r (l.take n):=by
 have:=h.le ti;unfold gT;exact DW N ti n N i l I h h2
structure Grow (N:Nat) (t t':WG) (n:Nat):Prop where
 ti:TI N t'
 le:Le t t'
 num:t'.Zp.length<=t.Zp.length+n
def Ka (t:WG)(l:List (WP×Int))(n:Nat)(r:Int×Int×WG):Prop:=r.2.1=0/\Grow N t r.2.2 n/\Row r.2.2 r.1 l
theorem Has.app {x:WQ}{n:List (WM×Int)}(h:Has t i s):Has ⟨t.Zp++ [x],n⟩ i s:=
 ⟨h.1,by rw [XG (XN.1 h.2).1];exact h.2⟩
theorem Ma (N:Nat)(t:WG)(l:List WQ)(hl:∀x∈l,SY N (ka x))(lf:List (WP×Int))(hT:lf.length<=1024)(hb:t.Zp.length+l.length<=1073741824): ∀(m i:Nat) (a6:Int) (t':WG) (l0:List (WP×Int)),l.length<m+i->i<=l.length->TI N t'->Le t t'->t'.Zp.length=t.Zp.length+i->Row t' a6 l0->lf=l0++(l.drop i).map ka->Sat (kF N l m a6 (i:Int) t'.Zp t'.ZD) (Ka N t lf l.length)
 |0,i,_,_,_,h,h1,_,_,_,_,_=>by omega
 | m+1,i,a6,t',l0,h,h1,ti,le,h2,h3,h4=>by
  rw [kF.eq_2]
  refine az (fun h7=> ?_) fun h7=>ac ⟨J,⟨ti,le,by show t'.Zp.length<=_;omega⟩,by rw [h4,Xv I,List.map_nil,Xp];exact h3⟩
  obtain ⟨a,h3a,h3b⟩:=h3.has ti;rw [aK (show i<l.length by omega),bs];rw [h3a.get,bs];obtain ⟨a1,a2,a3⟩:=ti.sh _ _ h3a;have hox:=hl l[i] (Y4 _);have e4:l.drop i=l[i]::l.drop (i+1):=Xt _
  have e5:l0.length+1<=lf.length:=by rw [h4,e4,YW,X4,XV];omega
  generalize l[i]=x at*
  have e1:(t'.Zp++ [(⟨a6,x.Zg,x.Zd,a.ZC+1⟩:WQ)]).length=t'.Zp.length+1:=by rw [YW,X0]
  have e2:((((t'.Zp++ [(⟨a6,x.Zg,x.Zd,a.ZC+1⟩:WQ)]).length:Nat):Int) - 1)=(t'.Zp.length:Int):=by omega
  refine av (by constructor<;>omega) (av (by unfold bu;rw [X0];omega) (av (by rw [e2];constructor<;>omega) (av (by constructor<;>omega) ?_)));rw [e2]
  have hnew:Has ⟨t'.Zp++ [(⟨a6,x.Zg,x.Zd,a.ZC+1⟩:WQ)],AZ t'.ZD ⟨a6,x.Zg,x.Zd⟩ (t'.Zp.length:Int)⟩ (t'.Zp.length:Int) ⟨a6,x.Zg,x.Zd,a.ZC+1⟩:=
   ⟨by omega,by simp⟩
  refine Ma N t l hl lf hT hb m (i+1) _ ⟨_,AZ t'.ZD ⟨a6,x.Zg,x.Zd⟩ (t'.Zp.length:Int)⟩ (l0++ [ka x]) I I ⟨?_,?_⟩ (fun j s hs=>(le j s hs).app) (by show (t'.Zp++_).length=_;omega) (Row.snoc (s:=⟨a6,x.Zg,x.Zd,a.ZC+1⟩) hnew (by show 0<a.ZC+1;omega) (h3.mono fun j s hs=>hs.app)) (by rw [h4,e4,X4,W0];rfl)
  ·intro j s hs;by_cases e:j.toNat<t'.Zp.length
   ·have hs':Has t' j s:=⟨hs.1,by have:=hs.2;rwa [XG e] at this⟩;obtain ⟨b1,b2,b3⟩:=ti.sh _ _ hs';exact ⟨b1,b2,fun h=>let ⟨c1,u,c2,c3⟩:=b3 h;⟨c1,u,c2.app,c3⟩⟩
   have hlt:=hs.lt
   have e3:j=(t'.Zp.length:Int):=by
    have:(j.toNat:Int)<(t'.Zp++ [(⟨a6,x.Zg,x.Zd,a.ZC+1⟩:WQ)]).length:=by have:=hlt.2;simp only at this;omega
    have:=hlt.1;omega
   subst e3;have:=hs.one hnew;subst this;exact ⟨by show 0<=a.ZC+1;omega,by show a.ZC+1<=1024;omega,fun _=>⟨hox,a,h3a.app,by show a.ZC=a.ZC+1 - 1;omega⟩⟩
  intro k j hk;change lk (AZ t'.ZD ⟨a6,x.Zg,x.Zd⟩ (t'.Zp.length:Int)) k=some j at hk;rw [Pc] at hk;split at hk
  ·rename_i e
   cases hk;subst e;exact ⟨a,_,h3a.app,hnew,J,J,J,J⟩
  obtain ⟨c,d,c1,c2,c3⟩:=ti.nx k j hk;exact ⟨c,d,c1.app,c2.app,c3⟩
theorem Tj (N:Nat)(hN:5000<=N)(ti:TI N t)(at_:Int)(l:List WQ)(hl:∀x∈l,SY N (ka x))(l0:List (WP×Int))(hT:l0.length+l.length<=1024)(hb:t.Zp.length+l.length<=1073741824)(h:Row t at_ l0):Sat (gm N t at_ l) (Ka N t (l0++l.map ka) l.length):=by
 unfold gm;refine av (by constructor<;>omega) (az (fun h7=>by omega) fun h7=> ?_);exact Ma N t l hl _ (by rw [YW,YY];exact hT) hb N 0 at_ t l0 I I ti (Le.refl t) J h J
theorem JA (N:Nat)(hN:5000<=N)(ti:TI N t)(n:Nat): ∀(m:Nat) (at_:Int) (l:List WQ) (l0:List (WP×Int)),l.length<m->l.length<=n->l0.length+l.length<=1024->t.Zp.length+n<=1073741824->(∀x∈l,SY N (ka x))->Row t at_ l0->Sat (lG N t m at_ l) (Ka N t (l0++l.map ka) n)
 |0,_,_,_,h,_,_,_,_,_=>by omega
 | m +1,at_,l,l0,h,hn,h0,hb,hl,ha=>by
  rw [lG.eq_2]
  have h5:Sat (gm N t at_ l) (Ka N t (l0++l.map ka) n):=(Tj N hN ti at_ l hl l0 h0 I ha).mono fun r hr=>⟨hr.1,⟨hr.2.1.ti,hr.2.1.le,by have:=hr.2.1.num;omega⟩,hr.2.2⟩
  refine az (fun h7=> ?_) fun h7=>h5
  cases l with
  |nil=>rw [XY] at h7;omega
  | cons x l=>
   rw [show au (x::l) 0=some x from rfl,bs,bs]
   cases e:lk t.ZD (⟨at_,x.Zg,x.Zd⟩:WM) with
   |none=>exact h5
   | some j=>
    show Sat (aG _ _) _;refine av ⟨by decide,by show 1<=l.length+1;omega,YA _⟩ ?_;obtain ⟨c,d,c1,c2,c3,c4,c5,c6⟩:=ti.nx _ _ e
    have e5:(((x::l).drop ((1:Int).toNat)).take ((x::l).length - (1:Int).toNat))=l:=by
     show (l.take (l.length+1 - 1))=l;exact Yq I
    rw [e5]
    have hd:0<d.ZC:=by have:=(ti.sh _ _ c1).1;omega
    have hr:Row t j (l0++ [ka x]):=by
     have:=Row.snoc c2 hd (by rw [c4];exact ha)
     rwa [show ka d=ka x by unfold ka;rw [c5,c6]] at this
    rw [XV] at h hn h0;have:=JA N hN ti n m j l (l0++ [ka x]) I I (by rw [YW,X0];omega) hb (fun z hz=>hl z (X8 _ hz)) hr
    rwa [W0] at this
theorem KU (N:Nat)(hN:5000<=N)(ti:TI N t)(at_:Int)(l:List WQ)(hl:∀x∈l,SY N (ka x))(l0:List (WP×Int))(hT:l0.length+l.length<=1024)(hb:t.Zp.length+1024<=1073741824)(ha:Row t at_ l0):Sat (jU N t at_ l) (Ka N t (l0++l.map ka) 1024):=
 JA N hN ti 1024 N at_ l l0 I I hT hb hl ha
theorem Gh (N:Nat)(hN:5000<=N)(h:Has t i s)(k:WP)(a:Int):Sat (fK N t i k a) fun r=>(r=0/\keyR N k/\zJ a)\/(r≠0/\ ¬(keyR N k/\zJ a)):=by
 unfold fK;rw [h.has N,bs,nt,cf];obtain ⟨b,h1, -⟩:=Da N hN k;obtain ⟨c,h2,h3⟩:=OC N a;rw [h1,bs,h2]
 cases b with
 |false=>exact ac (.inr ⟨by decide,fun h=>by have:=h.1;unfold keyR at this;rw [h1] at this;cases this⟩)
 |true=>
  cases c with
  |false=>exact ac (.inr ⟨by decide,fun h=>by have:=Q0 N h.2;rw [h2] at this;cases this⟩)
  |true=>exact ac (.inl ⟨rfl,h1,h3 rfl⟩)
theorem QW (N:Nat)(hN:5000<=N)(ti:TI N t)(hb:t.Zp.length+1024<=1073741824)(h:Row t i l)(k:WP)(a:Int)(hk:∀x∈l,x.1≠k)(hl:l.length<1024):Sat (jl N t i k a) fun r=>(keyR N k/\zJ a/\Ka N t (l++ [(k,a)]) 1024 r)\/(¬(keyR N k/\zJ a)/\r.2.1≠0/\r.2.2=t):=by
 obtain ⟨s,s1,s2⟩:=h.has ti;unfold jl
 refine (Gh N hN s1 k a).bind fun y hy=> ?_
 rcases hy with ⟨rfl,h1,h2⟩|⟨h1,h2⟩
 ·show Sat (Option.bind _ _) _
  refine (Ew N hN ti h k).bind fun z hz=> ?_
  rcases hz with ⟨rfl, -⟩|⟨n,z1,z2,z3⟩
  ·show Sat (Option.bind _ _) _;rw [KT N s1,bs]
   refine az (fun _=>by omega) fun _=> ?_
   refine (KU N hN ti i [(⟨0,k,a,0⟩:WQ)] (fun x hx=>by rw [Yg] at hx;subst hx;exact ⟨h1,h2⟩) l (by rw [X0];omega) hb h).bind fun r hr=>ac (.inl ⟨h1,h2,hr⟩)
  exact absurd J (hk _ (Yc z3))
 rw [WY h1,nf,ct];exact ac (.inr ⟨h2,h1,J⟩)
theorem N7 (N:Nat)(hN:5000<=N)(ti:TI N t)(hb:t.Zp.length+1024<=1073741824)(h:Row t i l)(hd:(l.map (·.1)).Nodup)(k:WP)(a:Int)(n:Nat)(a0:Int)(hn:l[n]? =some (k,a0)):Sat (gX N t i k a) fun r=>(zJ a/\Ka N t (l.set n (k,a)) 1024 r)\/(¬zJ a/\r.2.1≠0/\r.2.2=t):=by
 obtain ⟨s,s1,s2⟩:=h.has ti;have hle:=h.le ti;have hlt:=(XN.1 hn).1;unfold gX
 refine (Gh N hN s1 k a).bind fun y hy=> ?_
 rcases hy with ⟨rfl,h1,h2⟩|⟨h1,h2⟩
 ·show Sat (Option.bind _ _) _
  refine (Ew N hN ti h k).bind fun z hz=> ?_
  rcases hz with ⟨rfl,z1⟩|⟨n',z1,z2,z3⟩
  ·exact absurd J (z1 _ (Yc hn))
  have:n'=n:=by
   have g1:(l.map (·.1))[n']? =some k:=by rw [XO,z3];rfl
   have g2:(l.map (·.1))[n]? =some k:=by rw [XO,hn];rfl
   exact (List.getElem?_inj (by rw [YY];exact (XN.1 z3).1) hd).1 (g1.trans g2.symm)
  subst this;rw [z2];show Sat (Option.bind _ _) _
  refine (H8 N hN ti h).bind fun r hr=> ?_
  have e:r.length=l.length:=by rw [<-hr,YY]
  rw [z1,Xm];refine av ⟨by omega,by omega⟩ ?_
  refine pU I (by rw [XW];omega) fun x hx=> ?_
  refine (HL N hN ti h n' I).bind fun b hbf=> ?_
  have a6:ka x=(k,z.2.1):=by
   rw [show (0:Int).toNat=0 from rfl,XK,Nat.add_zero] at hx
   have:(r.map ka)[n']? =some (ka x):=by rw [XO,hx];rfl
   rw [hr,z3] at this;exact (YL this).symm
  have hxk:x.Zg=k:=congrArg Prod.fst a6
  have hm: ∀q∈List.set (List.drop n' r) ((0:Int).toNat) (⟨x.Up,(⟨x.Zg.Za,x.Zg.N,x.Zg.S⟩:WP),a,x.ZC⟩:WQ),SY N (ka q):=fun q hq=>by
   rcases Ye hq with hq|rfl
   ·exact h.ok ti _ (by rw [<-hr];exact List.mem_map_of_mem (List.mem_of_mem_drop hq))
   exact ⟨by show keyR N x.Zg;rw [hxk];exact h1,h2⟩
  have e6:(List.set (List.drop n' r) ((0:Int).toNat) (⟨x.Up,(⟨x.Zg.Za,x.Zg.N,x.Zg.S⟩:WP),a,x.ZC⟩:WQ)).map ka=(l.drop n').set 0 (k,a):=by
   rw [show (0:Int).toNat=0 from rfl,List.map_set,List.map_drop,hr];show (l.drop n').set 0 (x.Zg,a)=_;rw [hxk]
  refine (KU N hN ti b _ hm (l.take n') (by rw [XZ,XW,YX];omega) hb hbf).bind fun q hq=>ac (.inl ⟨h2,?_⟩)
  rw [e6] at hq
  have e7:l.take n'++(l.drop n').set 0 (k,a)=l.set n' (k,a):=by
   rw [Xt hlt,List.set_cons_zero,List.set_eq_take_append_cons_drop,if_pos hlt]
  rw [e7] at hq;exact hq
 rw [WY h1,nf,ct];exact ac (.inr ⟨fun h3=>h2 ⟨(h.ok ti _ (Yc hn)).1,h3⟩,h1,J⟩)
theorem Kf (N:Nat)(hN:5000<=N)(ti:TI N t)(hb:t.Zp.length+1024<=1073741824)(h:Row t i l)(hd:(l.map (·.1)).Nodup)(k:WP)(n:Nat)(a0:Int)(hn:l[n]? =some (k,a0)):Sat (ej N t i k) (Ka N t (l.eraseIdx n) 1024):=by
 obtain ⟨s,s1,s2⟩:=h.has ti;have hle:=h.le ti;have hlt:=(XN.1 hn).1;unfold ej
 refine (Gh N hN s1 k 0).bind fun y hy=> ?_
 rcases hy with ⟨rfl,h1,h2⟩|⟨h1,h2⟩
 ·show Sat (Option.bind _ _) _
  refine (Ew N hN ti h k).bind fun z hz=> ?_
  rcases hz with ⟨rfl,z1⟩|⟨n',z1,z2,z3⟩
  ·exact absurd J (z1 _ (Yc hn))
  have:n'=n:=by
   have g1:(l.map (·.1))[n']? =some k:=by rw [XO,z3];rfl
   have g2:(l.map (·.1))[n]? =some k:=by rw [XO,hn];rfl
   exact (List.getElem?_inj (by rw [YY];exact (XN.1 z3).1) hd).1 (g1.trans g2.symm)
  subst this;rw [z2,z1];show Sat (Option.bind _ _) _
  refine (HL N hN ti h n' I).bind fun b hbf=> ?_
  refine (H8 N hN ti h).bind fun r hr=> ?_
  have e:r.length=l.length:=by rw [<-hr,YY]
  have e8:((n':Int)+1).toNat=n'+1:=by omega
  refine av (by constructor<;>omega) (av ⟨by omega,by omega,YA _⟩ ?_);rw [e8];have e6:((r.drop (n'+1)).take (r.length - (n'+1)))=r.drop (n'+1):=Yq (by rw [XW];omega);rw [e6]
  refine (KU N hN ti b _ (fun q hq=>h.ok ti _ (by rw [<-hr];exact List.mem_map_of_mem (List.mem_of_mem_drop hq))) (l.take n') (by rw [XW,YX];omega) hb hbf).bind fun q hq=>ac ?_
  rw [List.map_drop,hr, <-List.eraseIdx_eq_take_drop_succ] at hq;exact hq
 exact absurd ⟨(h.ok ti _ (Yc hn)).1,by decide,by decide,by decide⟩ h2
theorem po {a b:Int}(h0:0<=a)(h1:a<=b)(h2:b<=100000):IntKind.i64.wrap ((IntKind.u64.wrap (a+b)).fdiv (2 ^ 1))=(a+b) / 2:=by
 rw [IntWalk.u64_in _ ⟨by omega,by omega⟩,Int.fdiv_eq_ediv_of_nonneg _ I,show (2:Int) ^ 1=2 from rfl,IntWalk.i64_in _ ⟨by omega,by omega⟩]
section
variable (N:Nat)(hN:20000<=N)(n:Nat)(hn:n<=6000)
include hN hn
section
variable (a q b:Int)(h0:0<=a)(h1:a<q)(h2:q<b)(h3:b<=n)
include h0 h1 h2 h3
end
end
end
section
open Go.RowKit
def Lz (c:WI):Nat:=1+c.Zc.length
def ws (l:List WI):Nat:=cJ Lz l
theorem GO (l:List WI):wt l=ws l+mS l:=by
 rw [HS];unfold ws mS;rw [<-Bc];rfl
theorem tI (g:α->Nat): ∀{l:List α} {x:α},x∈l->g x<=cJ g l
 |a::l,x,h=>by
  rw [cJ];rcases X7.1 h with rfl|h
  ·omega
  have:=tI g h;omega
theorem Ke: ∀l:List WI,l.length<=ws l
 | []=>YH _
 |c::l=>by
  have:=Ke l;show l.length+1<=Lz c+ws l;unfold Lz;omega
theorem CN (g:α->Nat)(x:α): ∀(l:List α) (i:Nat) (h:i<l.length),cJ g (l.set i x)+g l[i]=cJ g l+g x
 |a::l,0,_=>by simp only [List.set_cons_zero,cJ,List.getElem_cons_zero];omega
 |a::l,i+1,h=>by
  have:=CN g x l i (by simpa using h);simp only [List.set_cons_succ,cJ,List.getElem_cons_succ];omega
theorem Jc (g:WI->Nat){a:Int}(ha:aW m a=true)(c:WI):cJ g (xJ m a c).Zh+cJ g (xJ m a c).Zj+g (co m a)=cJ g m.Zh+cJ g m.Zj+g c:=by
 unfold xJ;rcases jd ha with ⟨i,hi,rfl⟩|⟨i,hi,rfl⟩
 ·rw [WX I,cond_true,show (2*(i:Int)+1) / 2=i by omega,yL m i hi];have:=CN g c m.Zh i hi;show cJ g (m.Zh.set i c)+cJ g m.Zj+_=_;omega
 rw [WY I,cond_false,show (2*(i:Int)+2) / 2 - 1=i by omega,xg m i hi];have:=CN g c m.Zj i hi;show cJ g m.Zh+cJ g (m.Zj.set i c)+_=_;omega
structure Hb (k M:Nat) (g:WN):Prop where
 hw:ws g.m_.Zh+ws g.m_.Zj<=k
 hm:mS g.m_.Zh+mS g.m_.Zj<=M
 hr:g.Zt.length<=30
theorem Hb.up {k:Nat}(h:Hb k M g)(hk:k<=k')(hM:M<=M'):Hb k' M' g:=⟨YB h.hw hk,YB h.hm hM,h.hr⟩
theorem Hb.cell {k:Nat}(h:Hb k M g)(hc:c∈g.m_.Zh++g.m_.Zj):1+c.Zc.length<=k/\c.Zb.length<=M:=by
 have h1:=h.hw;have h2:=h.hm;unfold ws at h1;unfold mS at h2;rcases X6.1 hc with hc|hc
 ·have a:=tI Lz hc;have b:=tI (fun c:WI=>c.Zb.length) hc;unfold Lz at a h1;exact ⟨by omega,by omega⟩
 have a:=tI Lz hc;have b:=tI (fun c:WI=>c.Zb.length) hc;unfold Lz at a h1;exact ⟨by omega,by omega⟩
theorem Rg {k:Nat}(hk:k<=580)(hM:M<=2200)(s:Hb k M g)(hp:g.Zv=[])(w64:W64 g.m_)(r64:∀v∈g.Zt,in64 v.N)(n1:(g.Zw.at_.map Prod.fst).Nodup)(n2:∀x∈g.Zw.at_.map Prod.fst, ∃i:Nat,i<g.m_.Zj.length/\x=2*(i:Int)+2):HB g:=by
 have h1:=s.hw;have h2:=s.hm;have h3:=s.hr;have h4:=Ke g.m_.Zh;have h5:=Ke g.m_.Zj;have h6:=GO g.m_.Zh;have h7:=GO g.m_.Zj
 have hl:(g.Zt++g.Zv).length=g.Zt.length:=by rw [hp,Xp]
 exact ⟨⟨by omega,by omega,by omega,fun c hc=>by have:=s.cell hc;omega⟩,⟨by omega,by omega⟩,by rw [Im];omega,by omega,w64,by rw [hp,Xp];exact r64,n1,n2⟩
def Oi (m:WO)(c:WI):Prop:= ∀v∈c.Zc++c.Zb,in64 v.N/\(bL v=true->aW m v.N=true)
theorem Pl.refs (h:Pl g)(hc:c∈g.m_.Zh++g.m_.Zj):Oi g.m_ c:=fun v hv=>⟨h.hb.w64 c hc v hv,fun hb=>(h.cells c hc).2.1 _ (MM hv hb)⟩
theorem LR {k:Nat}(s:Hb k M g){a:Int}(ha:aW g.m_ a=true)(h1:k+c.Zc.length<=k'+(co g.m_ a).Zc.length)(h2:M+c.Zb.length<=M'+(co g.m_ a).Zb.length):Hb k' M' (iv g a c):=by
 obtain ⟨f1,f2, -, -⟩:=yl g a c;have e1:=Jc Lz ha (BE c (co g.m_ a).Zf);have e2:=Jc (fun c:WI=>c.Zb.length) ha (BE c (co g.m_ a).Zf);have s1:=s.hw;have s2:=s.hm;unfold ws at s1;unfold mS at s2;refine ⟨?_,?_,by rw [f2];exact s.hr⟩
 ·rw [f1];unfold ws;have:Lz (BE c (co g.m_ a).Zf)=1+c.Zc.length:=rfl;have:Lz (co g.m_ a)=1+(co g.m_ a).Zc.length:=rfl;omega
 rw [f1];unfold mS;have:(BE c (co g.m_ a).Zf).Zb.length=c.Zb.length:=rfl;omega
theorem Pl.putK {k:Nat}(hk:k<=580)(hM:M<=2200)(h:Pl g){a:Int}(ha:aW g.m_ a=true)(hr:bQ c=true)(hkd:c.Za≠8/\c.Za≠10)(hc:Oi g.m_ c)(b:Hb k M (iv g a c)):
  Pl (iv g a c)/\(∀x,aW (iv g a c).m_ x=aW g.m_ x)/\(∀x,aW g.m_ x=true->co (iv g a c).m_ x=if x=a then BE c (co g.m_ a).Zf else co g.m_ x):=by
 obtain ⟨f1,f2,f3,f4⟩:=yl g a c;obtain ⟨s1,s2,s3,s4,s5, -⟩:=P3 (BE c (co g.m_ a).Zf) ha;have hage:=Ni (h.cells _ (o9 ha)).1;have hr':bQ (BE c (co g.m_ a).Zf)=true:=KB hr hage.1 hage.2
 have hhas: ∀x,aW (iv g a c).m_ x=aW g.m_ x:=fun x=>by rw [f1];exact s1 x
 have hmem: ∀d∈(iv g a c).m_.Zh++(iv g a c).m_.Zj,d∈g.m_.Zh++g.m_.Zj\/d=BE c (co g.m_ a).Zf:=fun d hd=>by rw [f1] at hd;exact s5 d hd
 have nd:((iv g a c).Zw.at_.map Prod.fst).Nodup:=by
  rw [f4];cases decide (a%2=1)
  ·exact O1 h.hb.nd _ _
  exact h.hb.nd
 have keys: ∀x∈(iv g a c).Zw.at_.map Prod.fst, ∃i:Nat,i<(iv g a c).m_.Zj.length/\x=2*(i:Int)+2:=fun x hx=>by
  rw [f1,s4];rw [f4] at hx
  cases hd:decide (a%2=1) with
  |true=>rw [hd] at hx;exact h.hb.keys x hx
  | false=>
   rw [hd] at hx;rcases (Hc h.hb.nd _ _ x).1 hx with ⟨-,hx|rfl⟩|⟨-,hx, -⟩
   ·exact h.hb.keys x hx
   ·rcases jd ha with ⟨j,hj,rfl⟩|⟨j,hj,rfl⟩
    ·rw [WX I] at hd;cases hd
    exact ⟨j,hj,J⟩
   exact h.hb.keys x hx
 have hp:(iv g a c).Zv=[]:=f3.trans h.pend
 have w64:W64 (iv g a c).m_:=fun d hd=>by
  rcases hmem d hd with hd|rfl
  ·exact h.hb.w64 d hd
  exact fun v hv=>(hc v hv).1
 refine ⟨⟨Rg hk hM b hp w64 (fun v hv=> ?_) nd keys,hp,fun d hd=> ?_,fun x hx=> ?_,Np h.set h.hb.nd ha c nd⟩,hhas,fun x hx=>by rw [f1];exact s2 x hx⟩
 ·rw [f2] at hv;exact h.hb.r64 v (W2 _ hv)
 ·rcases hmem d hd with hd|rfl
  ·exact ⟨(h.cells d hd).1,fun x hx=>(hhas x).trans ((h.cells d hd).2.1 x hx),(h.cells d hd).2.2⟩
  refine ⟨hr',fun x hx=> ?_,hkd⟩;obtain ⟨v,hv,hb,rfl⟩:=Dq hx;exact (hhas _).trans ((hc v hv).2 hb)
 rw [f2] at hx;exact (hhas x).trans (h.roots x hx)
def xx (g:WN)(c:WI):WN:=⟨⟨g.m_.Zh++ [c],g.m_.Zj⟩,g.Zt,g.Zv,g.Zw⟩
def nX (g:WN):Int:=2*(g.m_.Zh.length:Int)+1
theorem NB (g:WN):aW g.m_ (nX g)=false:=by
 unfold nX;rw [Dd];exact WY I
theorem MN {k:Nat}(s:Hb k M g)(c:WI)(h1:k+1+c.Zc.length<=k')(h2:M+c.Zb.length<=M'):Hb k' M' (xx g c):=by
 have s1:=s.hw;have s2:=s.hm;refine ⟨?_,?_,s.hr⟩
 ·show ws (g.m_.Zh++ [c])+_<=k';unfold ws at s1⊢;rw [Bb];simp only [cJ];have:Lz c=1+c.Zc.length:=rfl;show cJ Lz g.m_.Zh+(Lz c+0)+cJ Lz g.m_.Zj<=k';omega
 show mS (g.m_.Zh++ [c])+_<=M';unfold mS at s2⊢;rw [Bb];simp only [cJ];show _+(c.Zb.length+0)+cJ _ g.m_.Zj<=M';omega
theorem Pl.addK {k:Nat}(hk:k<=580)(hM:M<=2200)(p:Pl g)(hr:bQ c=true)(hkd:c.Za≠8/\c.Za≠10)(hc:Oi g.m_ c)(s:Hb k M (xx g c)):
  Pl (xx g c)/\(∀x,aW g.m_ x=true->aW (xx g c).m_ x=true/\co (xx g c).m_ x=co g.m_ x)/\aW (xx g c).m_ (nX g)=true/\co (xx g c).m_ (nX g)=c:=by
 obtain ⟨a1,a2,a3⟩:=P5 (m:=g.m_) c
 have hmem: ∀d∈(xx g c).m_.Zh++(xx g c).m_.Zj,d∈g.m_.Zh++g.m_.Zj\/d=c:=fun d hd=>by
  have hd:d∈(g.m_.Zh++ [c])++g.m_.Zj:=hd;simp only [X6,X7,List.not_mem_nil,or_false] at hd⊢;rcases hd with (hd|hd)|hd
  ·exact .inl (.inl hd)
  ·exact .inr hd
  exact .inl (.inr hd)
 have hset:FH g.Zw.at_=nY ⟨g.m_.Zh++ [c],g.m_.Zj⟩:=by rw [Pg];exact p.set
 have hW:W64 (xx g c).m_:=fun d hd=>by
  rcases hmem d hd with hd|rfl
  ·exact p.hb.w64 d hd
  exact fun v hv=>(hc v hv).1
 refine ⟨⟨Rg hk hM s p.pend hW (fun v hv=>p.hb.r64 v (W2 _ hv)) p.hb.nd p.hb.keys,p.pend,fun d hd=> ?_,fun x hx=>(a1 x (p.roots x hx)).1,hset⟩,a1,a2,a3⟩;rcases hmem d hd with hd|rfl
 ·exact ⟨(p.cells d hd).1,fun x hx=>(a1 _ ((p.cells d hd).2.1 x hx)).1,(p.cells d hd).2.2⟩
 refine ⟨hr,fun x hx=> ?_,hkd⟩;obtain ⟨v,hv,hb,rfl⟩:=Dq hx;exact (a1 _ ((hc v hv).2 hb)).1
def v0:WK:=⟨0,0,⟨#[]⟩⟩
def Kj (w:WH)(t:WG):WH:=⟨w.ZB,w.Zu,(),w.Zo,t,w.Zy,w.ZE,w.ZF,w.ZG,w.Zz,w.ZA⟩
theorem Sr:kV v0=true:=by kernel_rfl
theorem lH (h:bQ c=true):0<=c.Zi/\(0<=c.Ze/\c.Ze<=63)/\0<=c.Zf/\c.Zf<=1:=by
 unfold bQ at h;simp only [Y0,Bool.not_eq_true',YR] at h;omega
theorem zb (hk:c.Za=1\/c.Za=2)(h0:0<=c.Zi)(hf:0<=c.Ze/\c.Ze<=63)(ha:0<=c.Zf/\c.Zf<=1)(hs:∀x∈c.Zc,kV x=true)(hm:∀x∈c.Zb,kV x=true)(hn:c.Zc.length<=1025){z:WK}(hz:c.Zc[0]? =some z)(hz1:z.Za=1\/z.Za=7)(hml:c.Zb.length<=4096)(hp:c.Za=1->c.Zb=[]):bQ c=true:=by
 have h1:=(XN.1 hz).1
 have e0:rG c.Zc 0=z:=by unfold rG;rw [List.getD_eq_getElem?_getD,hz];rfl
 have e1:od c.Za c.Zi c.Ze c.Zc=true:=by
  unfold od Fg;rw [e0,WX (p:=1<=c.Zc.length) I,WX hn];rcases hk with h|h<;>rcases hz1 with h2|h2<;>rw [h,h2]<;>rfl
 have e2:rU c.Za c.Zb=true:=by
  unfold rU;rcases hk with h|h
  ·rw [hp h,h];rfl
  rw [h,WX (p:=(2:Int)=2) rfl,cond_true];exact WX hml
 unfold bQ;rw [e1,e2,Xo.2 hs,Xo.2 hm,WY (p:=c.Za<1) I,WY (p:=11<c.Za) I,WY (p:=c.Zi<0) I,WY (p:=c.Ze<0) I,WY (p:=63<c.Ze) I,WY (p:=c.Zf<0) I,WY (p:=1<c.Zf) I];rfl
structure ValW (m:WO) (x:WK):Prop where
 may:kV x=true
 i64:in64 x.N
 ref:bL x=true->aW m x.N=true
theorem Qt (m:WO):ValW m v0:=⟨Sr,by decide,fun h=>by cases h⟩
def rQ (g s:WK):WI:=⟨5,0,0,0,[g,s],[]⟩
def Mh (x:WK):Prop:=x.Za=0\/x.Za=7
theorem KD {g s:WK}(hg:ValW m g)(hs:ValW m s)(kg:Mh g)(ks:Mh s):bQ (rQ g s)=true:=by
 have e1:noneB g 7=true:=by unfold noneB;rcases kg with h|h<;>rw [h]<;>rfl
 have e2:noneB s 7=true:=by unfold noneB;rcases ks with h|h<;>rw [h]<;>rfl
 have e3:od 5 0 0 [g,s]=true:=by
  unfold od;show (decide ([g,s].length=2)&&noneB g 7&&noneB s 7)=true;rw [e1,e2];rfl
 unfold bQ rQ;simp only [List.all_cons,List.all_nil];rw [hg.may,hs.may,e3];rfl
def Gi (m:WO)(x g s:WK):Prop:= ∃(a ag:Int),x=⟨9,a,⟨#[]⟩⟩/\aW m a=true/\co m a=⟨5,0,0,ag,[g,s],[]⟩
def SlotP (m:WO)(p:WJ)(x:WK):Prop:=
 (ai .i64 p.Zd 8=0/\p.Value=x/\p.Zq=v0/\p.Zr=v0/\x.Za≠9)\/
 (ai .i64 p.Zd 8≠0/\p.Value=v0/\Gi m x p.Zq p.Zr)
structure Wd (N k q M:Nat) (w:WH):Prop where
 pl:Pl w.Zo
 hb:Hb k M w.Zo
 ti:TI N w.Zp
 tb:w.Zp.Zp.length<=q
theorem Wd.up {N k q:Nat}{w:WH}(h:Wd N k q M w)(h1:k<=k')(h2:q<=q')(h3:M<=M'):Wd N k' q' M' w:=⟨h.pl,h.hb.up h1 h3,h.ti,YB h.tb h2⟩
theorem Wd.sz {N k q:Nat}{w:WH}(h:Wd N k q M w)(hk:k<=580)(hM:M<=2200): ∀c∈w.Zo.m_.Zh++w.Zo.m_.Zj,c.Zc.length<=600/\c.Zb.length<=2900:=fun c hc=>by have:=h.hb.cell hc;omega
theorem Pl.valW (h:Pl g){a:Int}(ha:aW g.m_ a=true)(hx:x∈(co g.m_ a).Zc++(co g.m_ a).Zb):ValW g.m_ x:=by
 have hc:=o9 ha;have h1:=h.refs hc x hx;have h2:=uF (h.cells _ hc).1;refine ⟨?_,h1.1,h1.2⟩;rcases X6.1 hx with hx|hx
 ·exact Xo.1 h2.1 x hx
 exact Xo.1 h2.2.1 x hx
theorem Oq {N k q:Nat}{w:WH}(h:Wd N k q M w)(hk:k<=580)(hM:M<=2200)(hx:bL x=true)(hi:in64 x.N)(ha:aW w.Zo.m_ x.N=true):bR N w x=some (co w.Zo.m_ x.N):=N8 (h.sz hk hM) hx hi ha
def JD (p:WJ):WP×Int:=(p.Zg,p.Zd)
structure ObjC (t:WG) (c:WI) (l:List (WP×Int)):Prop where
 kind:c.Za=1\/c.Za=2
 proto: ∃z,c.Zc[0]? =some z/\(z.Za=1\/z.Za=7)
 plain:c.Za=1->c.Zb=[]
 row:Row t c.Zi l
 num:c.Zc.length=l.length+1
 nd:(l.map (·.1)).Nodup
 noP:ai .i64 c.Ze 16=0
structure Obj (N:Nat) (i:Int) (k q:Nat) (w:WH) (c:WI) (PL:List WJ):Prop where
 wd:Wd N k q c.Zb.length w
 has:aW w.Zo.m_ i=true
 at_:co w.Zo.m_ i=c
 oc:ObjC w.Zp c (PL.map JD)
 each: ∀(n:Nat) p,PL[n]? =some p-> ∃x,c.Zc[n+1]? =some x/\SlotP w.Zo.m_ p x
 inj: ∀(n m:Nat) x y,n≠m->c.Zc[n+1]? =some x->c.Zc[m+1]? =some y->x.Za=9->y.Za=9->x.N≠y.N
theorem Obj.up {N k q:Nat}{w:WH}(h:Obj N i k q w c PL)(h1:k<=k')(h2:q<=q'):Obj N i k' q' w c PL:=⟨h.wd.up h1 h2 (YA _),h.has,h.at_,h.oc,h.each,h.inj⟩
theorem Obj.len {N k q:Nat}{w:WH}(h:Obj N i k q w c PL):PL.length<=1024:=by
 have:=h.oc.row.le h.wd.ti
 rwa [YY] at this
theorem Obj.num {N k q:Nat}{w:WH}(h:Obj N i k q w c PL):c.Zc.length=PL.length+1:=by
 have:=h.oc.num
 rwa [YY] at this
theorem Obj.right {N k q:Nat}{w:WH}(h:Obj N i k q w c PL):bQ c=true:=by
 have:=(h.wd.pl.cells _ (o9 h.has)).1
 rwa [h.at_] at this
theorem Obj.val {N k q:Nat}{w:WH}(h:Obj N i k q w c PL)(hx:x∈c.Zc++c.Zb):ValW w.Zo.m_ x:=h.wd.pl.valW h.has (by rw [h.at_];exact hx)
theorem Obj.nodup {N k q:Nat}{w:WH}(h:Obj N i k q w c PL):(PL.map (·.Zg)).Nodup:=by
 have:=h.oc.nd;rw [List.map_map] at this;exact this
def mN (p:WJ):WJ:=bif decide (ai .i64 p.Zd 8=0) then ⟨p.Zg,p.Zd,p.Value,v0,v0⟩ else ⟨p.Zg,p.Zd,v0,p.Zq,p.Zr⟩
def zeroP:WJ:=⟨⟨0,0,⟨#[]⟩⟩,0,v0,v0,v0⟩
def mW (PL:List WJ)(key:WP):WJ×Bool:=match PL.find? (fun p=>decide (p.Zg=key)) with
 |some p=>(p,true)
 |none=>(zeroP,false)
theorem BI (h:∀p∈PL,p.Zg≠key):mW PL key=(zeroP,false):=by
 unfold mW;rw [List.find?_eq_none.2 fun p hp=>by simp [h p hp]]
theorem rA (hn:(PL.map (·.Zg)).Nodup){n:Nat}(hp:PL[n]? =some p):mW PL p.Zg=(p,true):=by
 have hm:=Yc hp
 cases e:PL.find? (fun x=>decide (x.Zg=p.Zg)) with
 |none=>exact absurd (List.find?_eq_none.1 e p hm) (by simp)
 |some x=>
  have h1:x.Zg=p.Zg:=by simpa using List.find?_some e
  have h2:=List.mem_of_find?_eq_some e;obtain ⟨m,hmm⟩:=List.getElem?_of_mem h2;have h3:=XN.1 hmm;have h4:=XN.1 hp;have:m=n:=(List.getElem_inj (h₀:=by rw [YY];exact h3.1) (h₁:=by rw [YY];exact h4.1) hn).1 (by rw [XT,XT,h3.2,h4.2,h1]);subst this;have:x=p:=YL (hmm.symm.trans hp);subst this;unfold mW;rw [e]
section
variable {N:Nat}(hv:v.Za=7)(hvN:v.N=i){k q:Nat}(hk:k<=580){w:WH}(hM:c.Zb.length<=2200)(h:Obj N i k q w c PL)
include hv hvN hk hM h
theorem Sq:bR N w v=some c:=by
 have hi:=wM (h.wd.pl.hb.small) h.has;rw [Oq h.wd hk hM (x:=v) (by unfold bL;rw [hv];rfl) (by rw [hvN];exact hi) (by rw [hvN];exact h.has),hvN,h.at_]
theorem G9:gL N w v=some (.inr ⟨c,w,v⟩):=by
 obtain ⟨z,z1,z2⟩:=h.oc.proto;have hl:=(XN.1 z1).1
 have hg:au c.Zc 0=some z:=by unfold au;exact z1
 unfold gL;rw [WX hv,nt,cf,Sq hv hvN hk hM h,bs,WY (show¬(c.Zc.length:Int)=0 by omega),cf,hg,bs,bs];rcases z2 with z2|z2<;>rw [z2]<;>rfl
theorem SD:cD N w v=some (c,decide (c.Za=2)):=by
 unfold cD;rw [WX hv,nt,cf,Sq hv hvN hk hM h,bs]
omit hv hvN in
theorem LE {n:Nat}(hn:PL[n]? =some p):fN N ⟨c,w,v⟩ (n:Int) p.Zg p.Zd=some p:=by
 have hlt:=(XN.1 hn).1;have hnum:=h.num;have hl:=h.len;obtain ⟨x,hx,hs⟩:=h.each n p hn
 have hg:au c.Zc ((n:Int)+1)=some x:=by
  unfold au;rw [if_neg I,show ((n:Int)+1).toNat=n+1 by omega];exact hx
 unfold fN;rw [r64 I I];show (bif decide ((c.Zc.length:Int)<=(n:Int)+1) then _ else _)=_;rw [WY I,cf,r64 I I];show Option.bind (au c.Zc ((n:Int)+1)) _=_;rw [hg,bs];rcases hs with ⟨s1,s2,s3,s4, -⟩|⟨s1,s2,a,ag,s3,s4,s5⟩
 ·rw [WX s1,ct];refine congrArg some ?_;rw [<-s2,show (⟨0,0,⟨#[]⟩⟩:WK)=p.Zq from s3.symm];have:p.Zq=p.Zr:=s3.trans s4.symm
  conv=>lhs;arg 5;rw [this]
 have hi:=wM (h.wd.pl.hb.small) s4;subst s3;rw [WY s1,cf];show Option.bind (bR N w _) _=_;rw [Oq h.wd hk hM (x:=⟨9,a,⟨#[]⟩⟩) rfl hi s4,bs,s5];show some (⟨p.Zg,p.Zd,v0,p.Zq,p.Zr⟩:WJ)=some p;rw [<-s2]
end
end
section
open Go.RowKit
set_option maxRecDepth 20000
section
variable {N:Nat}(hN:20000<=N)(hv:v.Za=7)(hvN:v.N=i){k q:Nat}(hk:k<=580){w:WH}(hM:c.Zb.length<=2200)(h:Obj N i k q w c PL)
include hN hk hM h
def UK (PL:List WJ)(key:WP)(r:WJ×Int×Bool):Prop:=(r=(zeroP,0,false)/\ ∀p∈PL,p.Zg≠key)\/ ∃(n:Nat) (p:WJ),r=(p,(n:Int),true)/\PL[n]? =some p/\p.Zg=key
theorem HX (key:WP):Sat (cc N ⟨c,w,v⟩ key) (UK PL key):=by
 unfold cc cV;rw [bs];have hle:=h.len
 refine (Ew N I h.wd.ti h.oc.row key).bind fun z hz=> ?_
 rcases hz with ⟨rfl,hz⟩|⟨n,z1,z2,z3⟩
 ·show Sat (some ((zeroP,0,false):WJ×Int×Bool)) _;refine ac ?_;left;refine ⟨J,fun p hp e=> ?_⟩;exact hz (JD p) (List.mem_map_of_mem hp) e
 rw [XO] at z3;obtain ⟨p,hp,e⟩:=Option.map_eq_some_iff.1 z3;have e1:p.Zg=key:=congrArg Prod.fst e;have e2:p.Zd=z.2.1:=congrArg Prod.snd e
 have e3:fN N ⟨c,w,v⟩ z.1 key z.2.1=some p:=by rw [z1, <-e2, <-e1];exact LE hk hM h hp
 rw [z2];show Sat (Option.bind _ _) _
 refine Sat.bind (P:=(· =p)) ⟨p,e3,J⟩ fun y hy=> ?_
 subst hy;refine ac ?_;right;exact ⟨n,y,by rw [z1],hp,e1⟩
include hv hvN
theorem OZ (key:WP):qg N w v key=some (mW PL key):=by
 unfold qg;rw [G9 hv hvN hk hM h,bs];show Option.bind (cc N ⟨c,w,v⟩ key) _=_;obtain ⟨r,e,hr⟩:=HX (v:=v) hN hk hM h key;rw [e,bs];rcases hr with ⟨rfl,hr⟩|⟨n,p,rfl,hp,rfl⟩
 ·rw [BI hr]
 rw [rA h.nodup hp]
omit hv hvN in
theorem LS: ∀(m j:Nat),PL.length<m+j->j<=PL.length->nL N ((PL.map JD).map (·.1)) ((PL.map JD).map (·.2)) ⟨c,w,v⟩ w m (PL.take j) (j:Int)=some PL
 |0,j,h1,h2=>by have _:=hN;omega
 | m+1,j,h1,h2=>by
  have hle:=h.len;rw [nL.eq_2];rcases YD j PL.length with hj|hj
  ·have e0:PL[j]? =some PL[j]:=XL hj
   have e1:au ((PL.map JD).map (·.1)) (j:Int)=some PL[j].Zg:=by rw [aK (by rw [YY,YY];exact hj),XT,XT];rfl
   have e2:au ((PL.map JD).map (·.2)) (j:Int)=some PL[j].Zd:=by rw [aK (by rw [YY,YY];exact hj),XT,XT];rfl
   rw [YY,YY,fO I,ct,e1,bs,e2,bs,LE (v:=v) hk hM h e0,bs,cF (by rw [YX,X0];omega),r64 I I]
   have e3:PL.take j++([PL[j]]:List WJ)=PL.take (j+1):=by rw [List.take_add_one,e0];rfl
   rw [e3];exact LS m (j+1) I hj
  rw [YY,YY,fD I,cf,Yq I];rfl
theorem BL:jn N w v=some PL:=by
 unfold jn;have hle:=h.len;rw [G9 hv hvN hk hM h,bs];show Option.bind (fL N w.Zp c.Zi) _=_;rw [P1 N I h.wd.ti h.oc.row,bs];show Option.bind (gn N w.Zp c.Zi) _=_;rw [Ra N I h.wd.ti h.oc.row,bs];exact LS hN hk hM h N 0 I I
end
structure PropW (m:WO) (p:WJ):Prop where
 v:ValW m p.Value/\p.Value.Za≠9
 g:ValW m p.Zq/\Mh p.Zq
 s:ValW m p.Zr/\Mh p.Zr
structure FrW (w w':WH):Prop where
 roots:w'.Zo.Zt=w.Zo.Zt
 has: ∀a,aW w.Zo.m_ a=true->aW w'.Zo.m_ a=true
 spent:w'.ZB=w.ZB
 config:w'.Zu=w.Zu
 epoch:w'.ZE=w.ZE
theorem FrW.refl (w:WH):FrW w w:=⟨rfl,fun _ h=>h,rfl,rfl,rfl⟩
theorem FrW.trans {a b c:WH}(h:FrW a b)(h':FrW b c):FrW a c:=⟨h'.roots.trans h.roots,fun x hx=>h'.has x (h.has x hx),h'.spent.trans h.spent,h'.config.trans h.config,h'.epoch.trans h.epoch⟩
theorem ValW.mono {m':WO}(hm:∀a,aW m a=true->aW m' a=true)(h:ValW m x):ValW m' x:=⟨h.may,h.i64,fun hb=>hm _ (h.ref hb)⟩
structure Slotted (N k q M:Nat) (w:WH) (p:WJ) (old:WK) (r:WK×WH):Prop where
 wd:Wd N (k+3) q M r.2
 fr:FrW w r.2
 tab:r.2.Zp=w.Zp
 val:ValW r.2.Zo.m_ r.1
 slot:SlotP r.2.Zo.m_ (mN p) r.1
 fresh:r.1.Za=9->r.1=old\/aW w.Zo.m_ r.1.N=false
 rest: ∀a,aW w.Zo.m_ a=true->(old.Za=9->old.N≠a)->co r.2.Zo.m_ a=co w.Zo.m_ a
theorem Uv {a:Int}(h:1<=a):kV ⟨9,a,⟨#[]⟩⟩=true:=by
 unfold kV dL;rw [show ((⟨9,a,⟨#[]⟩⟩:WK).S.toList==(⟨#[]⟩:ByteArray).toList)=true from beq_self_eq_true _];show (Option.getD (some (decide (1<=a))) false)=true;rw [WX h];rfl
theorem Fu (h:¬ai .i64 p.Zd 8=0):mN p=⟨p.Zg,p.Zd,v0,p.Zq,p.Zr⟩:=by
 unfold mN;rw [WY h];rfl
theorem C3 (h:ai .i64 p.Zd 8=0):mN p=⟨p.Zg,p.Zd,p.Value,v0,v0⟩:=by
 unfold mN;rw [WX h];rfl
theorem TZ {N:Nat}(hN:20000<=N){w:WH}(hp:Pl w.Zo)(hx:bL x=true)(ha:aW w.Zo.m_ x.N=true)(h1:c.Zc.length<=600/\c.Zb.length<=2900)(hr:bQ c=true):ay N w x c=some (H4 w (iv w.Zo x.N c)):=by
 have e:iS N x=some (bL x):=by
  unfold iS bL;cases decide (x.Za=7)<;>rfl
 unfold ay;rw [e,bs,hx,ct,Vf I hp.hb.small ha h1,hr];rfl
theorem Ua {N:Nat}(hN:20000<=N){w:WH}(hp:Pl w.Zo)(h1:c.Zc.length<=600/\c.Zb.length<=2900)(hr:bQ c=true)(h0:c.Zf=0):cW N w c=some (⟨9,nX w.Zo,⟨#[]⟩⟩,H4 w (xx w.Zo c)):=by
 have ec:(⟨c.Za,c.Zi,c.Ze,0,c.Zc,c.Zb⟩:WI)=c:=by rw [<-h0]
 have hl:=hp.hb.small.young
 have e:(((w.Zo.m_.Zh++ [(⟨c.Za,c.Zi,c.Ze,0,c.Zc,c.Zb⟩:WI)]).length:Nat):Int)=(w.Zo.m_.Zh.length:Int)+1:=by simp
 unfold cW eV aL;rw [bs,cf,yE I I,bs,hr,nt,cf,pJ N c I,bs,rF (by simp only [XV,XY];omega),e,r64 I I,r64 I I,ec,show 2*((w.Zo.m_.Zh.length:Int)+1) - 1=nX w.Zo by unfold nX;omega,bs];rfl
theorem OB {N:Nat}(hN:20000<=N){k q:Nat}(hk:k+3<=580)(hM:M<=2200){w:WH}(h:Wd N k q M w){v':WK}(hp:PropW w.Zo.m_ p)(hold:old.Za≠9\/ ∃g s,Gi w.Zo.m_ old g s):Sat (iC N ⟨c',w,v'⟩ p old) (Slotted N k q M w p old):=by
 unfold iC
 refine az (fun h8=>ac ?_) fun h8=> ?_
 ·refine ⟨h.up I (YA _) (YA _),FrW.refl w,J,hp.v.1,?_,fun e=>absurd e hp.v.2,fun _ _ _=>J⟩;rw [C3 h8];exact .inl ⟨h8,J,J,J,hp.v.2⟩
 have hr:bQ (rQ p.Zq p.Zr)=true:=KD hp.g.1 hp.s.1 hp.g.2 hp.s.2
 have hrf:Oi w.Zo.m_ (rQ p.Zq p.Zr):=fun x hx=>by
  have hx:x=p.Zq\/x=p.Zr:=by simpa [rQ] using hx
  rcases hx with rfl|rfl
  ·exact ⟨hp.g.1.i64,hp.g.1.ref⟩
  exact ⟨hp.s.1.i64,hp.s.1.ref⟩
 have hide:old.Za≠9->Sat ((cW N w (⟨5,0,0,0,([p.Zq,p.Zr]:List WK),[]⟩:WI)).bind fun a6=>some (a6.1,a6.2)) (Slotted N k q M w p old):=fun hne=>by
  have hb:Hb (k+3) M (xx w.Zo (rQ p.Zq p.Zr)):=MN h.hb _ (by show k+1+2<=k+3;omega) (by show M+0<=M;omega);obtain ⟨p1,p2,p3,p4⟩:=h.pl.addK hk hM hr ⟨by show (5:Int)≠8;decide,by show (5:Int)≠10;decide⟩ hrf hb;have e:=Ua (c:=rQ p.Zq p.Zr) hN h.pl (by constructor<;>(show _<=_;simp [rQ])) hr rfl;show Sat (Option.bind (cW N w (rQ p.Zq p.Zr)) _) _;rw [e,bs];have hi:=wM p1.hb.small p3;refine ac ⟨⟨p1,hb,h.ti,h.tb⟩,⟨J,fun a ha=>(p2 a ha).1,J,J,J⟩,J,⟨?_,hi,fun _=>p3⟩,?_,fun _=> .inr (NB _),fun a ha _=>(p2 a ha).2⟩
  ·show kV ⟨9,nX w.Zo,⟨#[]⟩⟩=true
   have:(1:Int)<=nX w.Zo:=by unfold nX;omega
   exact Uv this
  rw [Fu h8];exact .inr ⟨h8,J,nX w.Zo,0,J,p3,p4⟩
 by_cases h9:old.Za=9
 ·obtain ⟨g,s,a,ag,rfl,ha,hat⟩: ∃g s,Gi w.Zo.m_ old g s:=hold.resolve_left fun hne=>hne h9
  have hi:=wM h.pl.hb.small ha;rw [WX h9,ct];show Sat (Option.bind (Option.bind (bR N w ⟨9,a,⟨#[]⟩⟩) _) _) _;rw [Oq h I hM (x:=⟨9,a,⟨#[]⟩⟩) rfl hi ha,bs,bs];show Sat (bif decide ((co w.Zo.m_ a).Za=5) then _ else _) _;rw [hat,WX (p:=(5:Int)=5) rfl,ct];have hb:Hb k M (iv w.Zo a (rQ p.Zq p.Zr)):=LR h.hb ha (by rw [hat];exact YA _) (by rw [hat];exact YA _);obtain ⟨p1,p2,p3⟩:=h.pl.putK I hM ha hr ⟨by show (5:Int)≠8;decide,by show (5:Int)≠10;decide⟩ hrf hb;have e:=TZ (x:=⟨9,a,⟨#[]⟩⟩) (c:=rQ p.Zq p.Zr) hN h.pl rfl ha (by constructor<;>(show _<=_;simp [rQ])) hr;show Sat (Option.bind (ay N w ⟨9,a,⟨#[]⟩⟩ (rQ p.Zq p.Zr)) _) _;rw [e,bs];have hold':=h.pl.cells _ (o9 ha);refine ac ⟨⟨p1,hb.up I (YA _),h.ti,h.tb⟩,⟨(yl _ _ _).2.1,fun b hb'=>by rw [show (H4 w (iv w.Zo a (rQ p.Zq p.Zr))).Zo.m_=(iv w.Zo a (rQ p.Zq p.Zr)).m_ from rfl,p2];exact hb',rfl,rfl,rfl⟩,J,⟨?_,hi,fun _=>(p2 a).trans ha⟩,?_,fun _=> .inl J,fun b hb' hne=> ?_⟩
  ·have:(1:Int)<=a:=by
    rcases jd ha with ⟨j, -,rfl⟩|⟨j, -,rfl⟩<;>omega
   exact Uv this
  ·rw [Fu h8];refine .inr ⟨h8,J,a,ag,J,(p2 a).trans ha,?_⟩;show co (iv w.Zo a (rQ p.Zq p.Zr)).m_ a=_;rw [p3 a ha,if_pos rfl,hat];rfl
  show co (iv w.Zo a (rQ p.Zq p.Zr)).m_ b=_;rw [p3 b hb',if_neg fun e=>hne rfl e.symm]
 rw [WY h9,cf,bs,cf];exact hide h9
end
section
open Go.RowKit
set_option maxRecDepth 20000
theorem SlotP.move {m':WO}(h:SlotP m p x)(hh:∀a,x.Za=9->x.N=a->aW m a=true->(co m a).Za=5->aW m' a=true/\co m' a=co m a):SlotP m' p x:=by
 rcases h with h|⟨h1,h2,a,ag,rfl,h4,h5⟩
 ·exact .inl h
 obtain ⟨g1,g2⟩:=hh a rfl rfl h4 (by rw [h5]);exact .inr ⟨h1,h2,a,ag,J,g1,g2.trans h5⟩
theorem SlotP.has9 (h:SlotP m p x)(h9:x.Za=9):(∃g s,Gi m x g s)/\aW m x.N=true:=by
 rcases h with ⟨-, -, -, -,h⟩|⟨-, -,a,ag,rfl,h4,h5⟩
 ·exact absurd h9 h
 exact ⟨⟨_,_,a,ag,J,h4,h5⟩,h4⟩
theorem Obj.pair9 {N k q:Nat}{w:WH}(h:Obj N i k q w c PL){n:Nat}(hx:c.Zc[n+1]? =some x)(h9:x.Za=9):(∃g s,Gi w.Zo.m_ x g s)/\aW w.Zo.m_ x.N=true:=by
 have hlt:=(XN.1 hx).1
 have hn:n<PL.length:=by have:=h.num;omega
 obtain ⟨y,hy,hs⟩:=h.each n PL[n] (XL hn);have:y=x:=YL (hy.symm.trans hx);subst this;exact hs.has9 h9
structure FrO (i:Int) (w w':WH) (c c':WI):Prop where
 fr:FrW w w'
 le:Le w.Zp w'.Zp
 rest: ∀a,aW w.Zo.m_ a=true->a≠i->(∀(n:Nat) x,c.Zc[n+1]? =some x->x.Za=9->x.N≠a)->co w'.Zo.m_ a=co w.Zo.m_ a
 new: ∀(n:Nat) x,c'.Zc[n+1]? =some x->x.Za=9->(∃n':Nat,c.Zc[n'+1]? =some x)\/aW w.Zo.m_ x.N=false
theorem FrO.trans {w w' w'':WH}{c'':WI}(h:FrO i w w' c c')(h':FrO i w' w'' c' c''):FrO i w w'' c c'':=by
 refine ⟨h.fr.trans h'.fr,h.le.trans h'.le,fun a ha hne hp=> ?_,fun n x hx h9=> ?_⟩
 ·rw [h'.rest a (h.fr.has a ha) hne fun n x hx h9 e=> ?_,h.rest a ha hne hp];rcases h.new n x hx h9 with ⟨n',hn'⟩|hn
  ·exact hp n' x hn' h9 e
  rw [e,ha] at hn;cases hn
 rcases h'.new n x hx h9 with ⟨n',hn'⟩|hn
 ·exact h.new n' x hn' h9
 right
 cases e:aW w.Zo.m_ x.N with
 |false=>rfl
 |true=>rw [h.fr.has _ e] at hn;cases hn
structure Same (c c':WI):Prop where
 kind:c'.Za=c.Za
 more:c'.Zb=c.Zb
 flags:c'.Ze=c.Ze
 head:c'.Zc[0]? =c.Zc[0]?
theorem Same.refl (c:WI):Same c c:=⟨rfl,rfl,rfl,rfl⟩
theorem Same.trans {a b:WI}(h:Same a b)(h':Same b c):Same a c:=⟨h'.kind.trans h.kind,h'.more.trans h.more,h'.flags.trans h.flags,h'.head.trans h.head⟩
theorem H0 {N:Nat}(hN:20000<=N)(hv:v.Za=7)(hvN:v.N=i){k q:Nat}(hk:k'<=580)(hM:M'<=2200){w:WH}(hw:Wd N k q M w)(ha:aW w.Zo.m_ i=true)(hc:co w.Zo.m_ i=c)(hage:c'.Zf=c.Zf)(hkd:c'.Za=1\/c'.Za=2)(hr:bQ c'=true)(hrf:Oi w.Zo.m_ c')(h1:k+c'.Zc.length<=k'+c.Zc.length)(h2:M+c'.Zb.length<=M'+c.Zb.length):
  ay N w v c'=some (H4 w (iv w.Zo i c'))/\Wd N k' q M' (H4 w (iv w.Zo i c'))/\FrW w (H4 w (iv w.Zo i c'))/\(∀x,aW w.Zo.m_ x=true->co (iv w.Zo i c').m_ x=if x=i then c' else co w.Zo.m_ x):=by
 have hb:Hb k' M' (iv w.Zo i c'):=LR hw.hb ha (by rw [hc];exact h1) (by rw [hc];exact h2);obtain ⟨p1,p2,p3⟩:=hw.pl.putK hk hM ha hr (by rcases hkd with h|h<;>constructor<;>omega) hrf hb
 have ec:BE c' (co w.Zo.m_ i).Zf=c':=by rw [hc, <-hage];rfl
 have hsz:c'.Zc.length<=600/\c'.Zb.length<=2900:=by
  have hh:aW (iv w.Zo i c').m_ i=true:=(p2 i).trans ha;have:=hb.cell (o9 hh);rw [p3 i ha,if_pos rfl,ec] at this;omega
 refine ⟨?_,⟨p1,hb,hw.ti,hw.tb⟩,⟨(yl _ _ _).2.1,fun x hx=>(p2 x).trans hx,J,J,J⟩,fun x hx=>by rw [p3 x hx,ec]⟩;have:=TZ (x:=v) hN hw.pl (by unfold bL;rw [hv];rfl) (by rw [hvN];exact ha) hsz hr;rw [this,hvN]
theorem II {N:Nat}{w w':WH}(hp:ay N w v c'=some w')(hf:ai .i64 c'.Ze 16=0)(b:Bool):bK N ⟨c',w,v⟩ b=some ⟨c',w',v⟩:=by
 unfold bK;have e:iz N w v c'=some w':=hp;show Option.bind (iz N w v c') _=_;rw [e,bs]
 have e:(!decide (ai .i64 (⟨c',w,v⟩:WD).Zn.Ze 16=0))=false:=by
  show (!decide (ai .i64 c'.Ze 16=0))=false;rw [WX hf];rfl
 rw [e];cases b<;>rfl
def uz (PL:List WJ)(p:WJ):List WJ:=match PL.findIdx? (fun x=>decide (x.Zg=p.Zg)) with
 |some n=>PL.set n p
 |none=>PL++ [p]
theorem Em (h:∀x∈PL,x.Zg≠p.Zg):uz PL p=PL++ [p]:=by
 unfold uz;rw [List.findIdx?_eq_none_iff.2 fun x hx=>by simp [h x hx]]
theorem zg (hn:(PL.map (·.Zg)).Nodup){n:Nat}{x:WJ}(hp:PL[n]? =some x)(e:x.Zg=p.Zg):uz PL p=PL.set n p:=by
 have h4:=XN.1 hp
 cases e1:PL.findIdx? (fun x=>decide (x.Zg=p.Zg)) with
 |none=>exact absurd e (by simpa using List.findIdx?_eq_none_iff.1 e1 x (Yc hp))
 |some m=>
  obtain ⟨h1,h2, -⟩:=List.findIdx?_eq_some_iff_getElem.1 e1
  have h2:PL[m].Zg=p.Zg:=by simpa using h2
  have:m=n:=(List.getElem_inj (h₀:=by rw [YY];exact h1) (h₁:=by rw [YY];exact h4.1) hn).1 (by rw [XT,XT,h2,h4.2,e]);subst this;unfold uz;rw [e1]
section
variable {N:Nat}(hN:20000<=N)(hv:v.Za=7)(hvN:v.N=i){k q:Nat}{w:WH}(h:Obj N i k q w c PL)
include hN hv hvN h
theorem SC (hk:k+4<=580)(hM:c.Zb.length<=2200)(ht:TI N t)(hle:Le w.Zp t)(htb:t.Zp.length<=q'){r:WK×WH}(hr:Slotted N k q' c.Zb.length (Kj w t) p old r){n:Nat}(hold:old.Za≠9\/c.Zc[n+1]? =some old)(sh:Int)(sl:List WK)(PL':List WJ)(hrow:Row t sh (PL'.map JD))(hnd:(PL'.map (·.Zg)).Nodup)(hnum:sl.length=PL'.length+1)(hn:PL'.length<=PL.length+1)(hn2:PL'.length<=1024)(h0:sl[0]? =c.Zc[0]?)(h1:sl[n+1]? =some r.1)(h2:PL'[n]? =some (mN p))(h3:∀m,m≠n->sl[m+1]? =c.Zc[m+1]?)(h4:∀m,m≠n->PL'[m]? =PL[m]?)(b:Bool):
  ∃w',bK N ⟨⟨c.Za,sh,c.Ze,c.Zf,sl,c.Zb⟩,r.2,v⟩ b=some ⟨⟨c.Za,sh,c.Ze,c.Zf,sl,c.Zb⟩,w',v⟩/\Obj N i (k+4) q' w' ⟨c.Za,sh,c.Ze,c.Zf,sl,c.Zb⟩ PL'/\FrO i w w' c ⟨c.Za,sh,c.Ze,c.Zf,sl,c.Zb⟩:=by
 have hrc:=lH h.right;have hnum0:=h.num;have hi:aW r.2.Zo.m_ i=true:=hr.fr.has i h.has
 have hne:old.Za=9->old.N≠i:=fun h9 e=>by
  rcases hold with ho|ho
  ·exact ho h9
  obtain ⟨⟨g,s,a,ag,e1,e2,e3⟩, -⟩:=h.pair9 ho h9;rw [e1] at e;have e:a=i:=e;rw [e,h.at_] at e3;rcases h.oc.kind with hkd|hkd<;>rw [e3] at hkd<;>cases hkd
 have hat:co r.2.Zo.m_ i=c:=(hr.rest i h.has hne).trans h.at_;obtain ⟨z,z1,z2⟩:=h.oc.proto
 have hmem: ∀x∈sl,x∈c.Zc\/x=r.1:=fun x hx=>by
  obtain ⟨m,hm⟩:=List.getElem?_of_mem hx
  cases m with
  |zero=>rw [h0] at hm;exact .inl (Yc hm)
  |succ m=>
   by_cases e:m=n
   ·subst e;exact .inr (YL (hm.symm.trans h1))
   rw [h3 m e] at hm;exact .inl (Yc hm)
 have hval: ∀x∈sl++c.Zb,ValW r.2.Zo.m_ x:=fun x hx=>by
  rcases X6.1 hx with hx|hx
  ·rcases hmem x hx with hx|rfl
   ·exact (h.val (W2 _ hx)).mono hr.fr.has
   exact hr.val
  exact (h.val (W3 _ hx)).mono hr.fr.has
 have hR:bQ (⟨c.Za,sh,c.Ze,c.Zf,sl,c.Zb⟩:WI)=true:=by
  obtain ⟨s',s1', -⟩:=hrow.has ht;refine zb h.oc.kind s1'.1 hrc.2.1 hrc.2.2 (fun x hx=>(hval x (W2 _ hx)).may) (fun x hx=>(hval x (W3 _ hx)).may) (by show sl.length<=1025;omega) (z:=z) (by show sl[0]? =some z;rw [h0];exact z1) z2 (by show c.Zb.length<=4096;omega) h.oc.plain
 obtain ⟨e1,e2,e3,e4⟩:=H0 (k':=k+4) (M':=c.Zb.length) hN hv hvN I hM hr.wd hi hat (c':=⟨c.Za,sh,c.Ze,c.Zf,sl,c.Zb⟩) rfl h.oc.kind hR (fun x hx=>⟨(hval x hx).i64,(hval x hx).ref⟩) (by show k+3+sl.length<=k+4+c.Zc.length;omega) (YA _);have hfr:FrW w (H4 r.2 (iv r.2.Zo i ⟨c.Za,sh,c.Ze,c.Zf,sl,c.Zb⟩)):=FrW.trans (b:=r.2) ⟨hr.fr.roots,hr.fr.has,hr.fr.spent,hr.fr.config,hr.fr.epoch⟩ e3
 -- cells of pairs that are not written stay
 have hkeep: ∀a,aW w.Zo.m_ a=true->a≠i->(old.Za=9->old.N≠a)->co (iv r.2.Zo i (⟨c.Za,sh,c.Ze,c.Zf,sl,c.Zb⟩:WI)).m_ a=co w.Zo.m_ a:=fun a ha hni ho=>by
  rw [e4 a (hr.fr.has a ha),if_neg hni,hr.rest a ha ho];rfl
 refine ⟨_,II e1 h.oc.noP b,⟨⟨e2.pl,e2.hb,?_,?_⟩,hfr.has i h.has,?_,⟨h.oc.kind,⟨z,by show sl[0]? =some z;rw [h0];exact z1,z2⟩,h.oc.plain,?_,?_,?_,h.oc.noP⟩,fun m p' hp'=> ?_,fun m m' x y hmm hx hy h9 h9'=> ?_⟩,⟨hfr,?_,fun a ha hni hp=> ?_,fun m x hx h9=> ?_⟩⟩
 ·show TI N r.2.Zp;rw [hr.tab];exact ht
 ·show r.2.Zp.Zp.length<=q';rw [hr.tab];exact htb
 ·show co (iv r.2.Zo i _).m_ i=_;rw [e4 i hi,if_pos rfl]
 ·show Row r.2.Zp sh _;rw [hr.tab];exact hrow
 ·show sl.length=(PL'.map JD).length+1;rw [YY];exact hnum
 ·rw [List.map_map];exact hnd
 ·show∃x,sl[m+1]? =some x/\SlotP (iv r.2.Zo i _).m_ p' x;by_cases e:m=n
  ·subst e;have:p'=mN p:=YL (hp'.symm.trans h2);subst this;refine ⟨r.1,h1,hr.slot.move fun a _ _ ha h5=>⟨e3.has a ha,?_⟩⟩;show co (iv r.2.Zo i _).m_ a=_;rw [e4 a ha,if_neg fun e=> ?_];subst e;rw [hat] at h5;rcases h.oc.kind with hkd|hkd<;>rw [h5] at hkd<;>cases hkd
  rw [h4 m e] at hp';obtain ⟨x,hx,hs⟩:=h.each m p' hp';refine ⟨x,(h3 m e).trans hx,hs.move fun a h9 hxa ha h5=>⟨hfr.has a ha,hkeep a ha (fun e=> ?_) fun ho9 e'=> ?_⟩⟩
  ·subst e;rw [h.at_] at h5;rcases h.oc.kind with hkd|hkd<;>rw [h5] at hkd<;>cases hkd
  rcases hold with ho|ho
  ·exact ho ho9
  exact h.inj n m old x (fun e2=>e e2.symm) ho hx ho9 h9 (e'.trans hxa.symm)
 ·have hx:sl[m+1]? =some x:=hx;have hy:sl[m'+1]? =some y:=hy
  have aux: ∀(a b:Nat) (x y:WK),a=n->b≠n->sl[a+1]? =some x->sl[b+1]? =some y->x.Za=9->y.Za=9->x.N≠y.N:=fun a b x y ea eb hx hy h9 h9' e=>by
   subst ea;rw [h3 b eb] at hy;have:r.1=x:=YL (h1.symm.trans hx);subst this;have a6:=(h.pair9 hy h9').2;rcases hr.fresh h9 with hf|hf
   ·rcases hold with ho|ho
    ·rw [hf] at h9;exact ho h9
    exact h.inj a b old y (fun e2=>eb e2.symm) ho hy (by rw [<-hf];exact h9) h9' (by rw [<-hf];exact e)
   have hf:aW w.Zo.m_ r.1.N=false:=hf;rw [e,a6] at hf;cases hf
  by_cases e:m=n
  ·exact aux m m' x y e (fun e'=>hmm (e.trans e'.symm)) hx hy h9 h9'
  by_cases e':m'=n
  ·exact fun h=>aux m' m y x e' e hy hx h9' h9 h.symm
  rw [h3 m e] at hx;rw [h3 m' e'] at hy;exact h.inj m m' x y hmm hx hy h9 h9'
 ·show Le w.Zp r.2.Zp;rw [hr.tab];exact hle
 ·refine hkeep a ha hni fun ho9 e=> ?_
  rcases hold with ho|ho
  ·exact ho ho9
  exact hp n old ho ho9 e
 have hx:sl[m+1]? =some x:=hx;by_cases e:m=n
 ·subst e;have:r.1=x:=YL (h1.symm.trans hx);subst this;rcases hr.fresh h9 with hf|hf
  ·rcases hold with ho|ho
   ·rw [hf] at h9;exact absurd h9 ho
   exact .inl ⟨m,by rw [hf];exact ho⟩
  exact .inr hf
 rw [h3 m e] at hx;exact .inl ⟨m,hx⟩
end
end
section
open Go.RowKit
set_option maxRecDepth 20000
theorem Bg {q:List α}{n:Nat}{a:α}(h:q[n]? =some a):q.set n a=q:=by
 apply Xz;intro j;by_cases e:n=j
 ·subst e;rw [XQ (XN.1 h).1,h]
 rw [XP e]
theorem Ju (p:WJ):(mN p).Zg=p.Zg/\(mN p).Zd=p.Zd:=by
 unfold mN;cases decide (ai .i64 p.Zd 8=0)<;>exact ⟨rfl,rfl⟩
def TW (i:Int)(k q:Nat)(w:WH)(c:WI)(PL':List WJ)(w':WH):Prop:= ∃c',Obj N i k q w' c' PL'/\Same c c'/\FrO i w w' c c'
theorem Ff {N k q:Nat}{w:WH}(h:Obj N i k q w c PL)(p:WJ):(uz PL p).length<=PL.length+1:=by
 unfold uz;split
 ·rw [XZ];omega
 rw [YW,X0];omega
section
variable {N:Nat}(hN:20000<=N)(hv:v.Za=7)(hvN:v.N=i){k q:Nat}{w:WH}(h:Obj N i k q w c PL)(hk:k+4<=580)(hq:q+1024<=1000000000)(hM:c.Zb.length<=2200)
include hN hv hvN h hk hq hM
theorem Ow (hp:PropW w.Zo.m_ p)(hR:keyR N p.Zg)(hA:zJ p.Zd)(hlen:PL.length<1024):Sat (gu N ⟨c,w,v⟩ p) fun r=>r.1=true/\TW N i (k+4) (q+1024) w c (uz PL (mN p)) r.2.w_:=by
 have hb:w.Zp.Zp.length+1024<=1073741824:=by have:=h.wd.tb;omega
 have hnum:=h.num
 have hwd: ∀t:WG,Le w.Zp t->TI N t->t.Zp.length<=q+1024->Wd N k (q+1024) c.Zb.length (Kj w t):=fun t _ h2 h3=>⟨h.wd.pl,h.wd.hb,h2,h3⟩
 unfold gu;show Sat (Option.bind (cc N ⟨c,w,v⟩ p.Zg) _) _
 refine (HX (v:=v) hN I hM h p.Zg).bind fun y hy=> ?_
 rcases hy with ⟨a6,hno⟩|⟨n,u,a6,hn,hu⟩
 ·have y3:y.2.2=false:=by rw [a6]
  rw [y3,nf,ct];obtain ⟨s,s1,s2⟩:=h.oc.row.has h.wd.ti;rw [YY] at s2
  refine Sat.bind (P:=(· =s.ZC)) ⟨_,KT N s1,J⟩ fun z hz=> ?_
  subst hz
  refine az (fun h3=>by omega) fun h3=> ?_
  refine (QW N I h.wd.ti hb h.oc.row p.Zg p.Zd (fun x hx=> ?_) (by rw [YY];omega)).bind fun r hr=> ?_
  ·obtain ⟨x',h1,rfl⟩:=Yb.1 hx;exact hno x' h1
  rcases hr with ⟨-, -,r3,r4,r5⟩|⟨r1, -, -⟩
  ·rw [r3];show Sat (Option.bind _ _) _
   have htb:r.2.2.Zp.length<=q+1024:=by have:=r4.num;have:=h.wd.tb;omega
   refine (OB (w:=Kj w r.2.2) (k:=k) hN I hM (hwd _ r4.le r4.ti htb) (c':=⟨c.Za,r.1,c.Ze,c.Zf,c.Zc,c.Zb⟩) (v':=v) hp (old:=⟨0,0,⟨#[]⟩⟩) (.inl (by show (0:Int)≠9;decide))).bind fun x hx=> ?_
   refine av (by unfold bu;rw [X0];show c.Zc.length+1<=_;have:=h.len;omega) ?_;unfold nk;have hnk:=Ju p
   obtain ⟨w',e1,e2,e3⟩:=SC hN hv hvN h hk hM r4.ti r4.le htb hx (n:=PL.length) (.inl (by show (0:Int)≠9;decide)) r.1 (c.Zc++ [x.1]) (PL++ [mN p])
    (by rw [X3];show Row r.2.2 r.1 (PL.map JD++ [((mN p).Zg,(mN p).Zd)]);rw [hnk.1,hnk.2];exact r5)
    (by
     rw [X3];refine Yh.2 ⟨h.nodup,by simp,fun a ha b hb' e=> ?_⟩;rw [List.map_singleton,Yg,hnk.1] at hb';obtain ⟨u,u1,u2⟩:=Yb.1 ha
     exact hno u u1 (by rw [u2,e,hb']))
    (by rw [YW,YW,X0,X0];omega)
    (by rw [YW,X0];omega) (by rw [YW,X0];omega)
    (by rw [XG I])
    (by rw [XH I,show PL.length+1 - c.Zc.length=0 by omega];rfl)
    (by rw [XH (YA _),YF];rfl)
    (fun m hm=>by
     by_cases hlt:m<PL.length
     ·rw [XG I]
     ·rw [XM (by rw [YW,X0];omega),XM I])
    (fun m hm=>by
     by_cases hlt:m<PL.length
     ·rw [XG hlt]
     ·rw [XM (by rw [YW,X0];omega),XM I]) true
   have e1':bK N ⟨⟨c.Za,r.1,c.Ze,c.Zf,c.Zc++ [x.1],c.Zb⟩,x.2,v⟩ true=some ⟨⟨c.Za,r.1,c.Ze,c.Zf,c.Zc++ [x.1],c.Zb⟩,w',v⟩:=e1
   refine Sat.bind ⟨_,e1',J⟩ fun u hu=> ?_
   subst hu;refine ac ⟨J,⟨c.Za,r.1,c.Ze,c.Zf,c.Zc++ [x.1],c.Zb⟩,?_,⟨J,J,J,?_⟩,e3⟩
   ·rw [Em fun a ha=>by rw [hnk.1];exact hno a ha];exact e2
   show (c.Zc++ [x.1])[0]? =c.Zc[0]?;rw [XG I]
  exact absurd ⟨hR,hA⟩ r1
 have y1:y.1=u:=by rw [a6]
 have y2:y.2.1=(n:Int):=by rw [a6]
 have y3:y.2.2=true:=by rw [a6]
 rw [y3,nt,cf];have hlt:=(XN.1 hn).1;have hnk:=Ju p;have hl:=h.len
 have e0:(PL.map JD)[n]? =some (p.Zg,u.Zd):=by rw [XO,hn, <-hu];rfl
 have hset:(PL.set n (mN p)).map JD=(PL.map JD).set n (p.Zg,p.Zd):=by
  rw [List.map_set];show (PL.map JD).set n ((mN p).Zg,(mN p).Zd)=_;rw [hnk.1,hnk.2]
 have hj81: ∀(sh:Int) (t':WG),Grow N w.Zp t' 1024->Row t' sh ((PL.map JD).set n (p.Zg,p.Zd))->Sat (ib N y p ⟨c,w,v⟩ sh (Kj w t')) fun r=>r.1=true/\TW N i (k+4) (q+1024) w c (uz PL (mN p)) r.2.w_:=by
  intro sh t' hgr hrow
  have htb:t'.Zp.length<=q+1024:=by have:=hgr.num;have:=h.wd.tb;omega
  unfold ib;rw [y1,y2];refine av (by show in64 ((n:Int)+1);constructor<;>omega) (av (by show in64 ((n:Int)+1);constructor<;>omega) (pU (by show 0<=(n:Int)+1;omega) (by show (n:Int)+1<c.Zc.length;omega) fun x hx=> ?_));have hx:c.Zc[((n:Int)+1).toNat]? =some x:=hx;rw [show ((n:Int)+1).toNat=n+1 by omega] at hx
  refine (OB (w:=Kj w t') (k:=k) hN I hM (hwd _ hgr.le hgr.ti htb) (c':=⟨c.Za,sh,c.Ze,c.Zf,c.Zc,c.Zb⟩) (v':=v) hp (old:=x) ?_).bind fun r hr=> ?_
  ·by_cases h9:x.Za=9
   ·exact .inr (h.pair9 hx h9).1
   exact .inl h9
  refine pU (by show 0<=(n:Int)+1;omega) (by show (n:Int)+1<c.Zc.length;omega) fun x' _=> ?_
  have hlen:(c.Zc.set (n+1) r.1).length=c.Zc.length:=XZ ..
  obtain ⟨w',e1,e2,e3⟩:=SC hN hv hvN h hk hM hgr.ti hgr.le htb hr (n:=n) (.inr hx) sh (c.Zc.set (n+1) r.1) (PL.set n (mN p))
   (by rw [hset];exact hrow)
   (by
    have:(PL.set n (mN p)).map (·.Zg)=PL.map (·.Zg):=by
     rw [List.map_set];refine Bg ?_;rw [XO,hn,hnk.1, <-hu];rfl
    rw [this];exact h.nodup)
   (by rw [hlen,XZ];omega) (by rw [XZ];omega) (by rw [XZ];omega)
   (by rw [XP I]) (XQ I) (XQ hlt)
   (fun m hm=>by rw [XP I]) (fun m hm=>by rw [XP I]) (!decide (u.Zd=p.Zd))
  have e1':bK N ⟨⟨c.Za,sh,c.Ze,c.Zf,List.set c.Zc (((n:Int)+1).toNat) (⟨r.1.Za,r.1.N,r.1.S⟩:WK),c.Zb⟩,r.2,v⟩ (!decide (u.Zd=p.Zd))=some ⟨⟨c.Za,sh,c.Ze,c.Zf,c.Zc.set (n+1) r.1,c.Zb⟩,w',v⟩:=by
   rw [show ((n:Int)+1).toNat=n+1 by omega];exact e1
  refine Sat.bind ⟨_,e1',J⟩ fun z hz=> ?_
  subst hz;refine ac ⟨J,⟨c.Za,sh,c.Ze,c.Zf,c.Zc.set (n+1) r.1,c.Zb⟩,?_,⟨J,J,J,?_⟩,e3⟩
  ·rw [zg h.nodup hn (by rw [hnk.1];exact hu)];exact e2
  show (c.Zc.set (n+1) r.1)[0]? =c.Zc[0]?;rw [XP I]
 rw [y1]
 refine Ei (fun e=> ?_) fun e=> ?_
 ·refine (N7 N I h.wd.ti hb h.oc.row h.oc.nd p.Zg p.Zd n u.Zd e0).bind fun r hr=> ?_
  rcases hr with ⟨-,r3,r4,r5⟩|⟨r1, -, -⟩
  ·rw [r3,WX (p:=(0:Int)=0) rfl,nt,cf];exact hj81 r.1 r.2.2 r4 r5
  exact absurd hA r1
 refine hj81 c.Zi w.Zp ⟨h.wd.ti,Le.refl _,by omega⟩ ?_;rw [Bg (by rw [e0,YU e])];exact h.oc.row
end
end
section
open Go.RowKit
set_option maxRecDepth 20000
def IB (c:WI):Bool:=!decide (ai .i64 c.Ze 1=0)
def pM (PL:List WJ)(key:WP):List WJ:=PL.filter fun p=> !decide (p.Zg=key)
theorem MB (h:∀p∈PL,p.Zg≠key):pM PL key=PL:=XC.2 fun p hp=>by simp [h p hp]
theorem MD: ∀{PL:List WJ} {n:Nat} {p:WJ},(PL.map (·.Zg)).Nodup->PL[n]? =some p->p.Zg=key->PL.eraseIdx n=pM PL key
 |a::PL,0,p,hn,hp,e=>by
  have:a=p:=YL hp;subst this;rw [X4,Yi] at hn
  have h2:pM PL key=PL:=MB fun x hx e'=>hn.1 (Yb.2 ⟨x,hx,e'.trans e.symm⟩)
  unfold pM at h2⊢;rw [XB,WX e,h2];rfl
 |a::PL,n+1,p,hn,hp,e=>by
  rw [X4,Yi] at hn;have hp:PL[n]? =some p:=hp
  have ha:a.Zg≠key:=fun e'=>hn.1 (Yb.2 ⟨p,Yc hp,e.trans e'.symm⟩)
  have:=MD hn.2 hp e;unfold pM at this⊢;rw [List.eraseIdx_cons_succ,this,XB,WY ha];rfl
section
variable {N:Nat}(hN:20000<=N)(hv:v.Za=7)(hvN:v.N=i){k q:Nat}{w:WH}(h:Obj N i k q w c PL)
include hN hv hvN h
theorem Kt (hk:k<=580)(m:List WK)(hm:m.length<=2200)(hmv:∀x∈m,ValW w.Zo.m_ x)(a6:c.Za=1->m=[])(f:Int)(hf:0<=f/\f<=63)(a7:ai .i64 f 16=0):
  ∃w',ay N w v ⟨c.Za,c.Zi,f,c.Zf,c.Zc,m⟩=some w'/\Obj N i k q w' ⟨c.Za,c.Zi,f,c.Zf,c.Zc,m⟩ PL/\FrO i w w' c ⟨c.Za,c.Zi,f,c.Zf,c.Zc,m⟩:=by
 have hrc:=lH h.right;have hnum:=h.num;have hl:=h.len;obtain ⟨z,z1,z2⟩:=h.oc.proto
 have hval: ∀x∈c.Zc++m,ValW w.Zo.m_ x:=fun x hx=>by
  rcases X6.1 hx with hx|hx
  ·exact h.val (W2 _ hx)
  exact hmv x hx
 have hR:bQ (⟨c.Za,c.Zi,f,c.Zf,c.Zc,m⟩:WI)=true:=zb h.oc.kind hrc.1 hf hrc.2.2 (fun x hx=>(hval x (W2 _ hx)).may) (fun x hx=>(hval x (W3 _ hx)).may) (by show c.Zc.length<=1025;omega) z1 z2 (by show m.length<=4096;omega) a6;obtain ⟨e1,e2,e3,e4⟩:=H0 (k':=k) (M':=m.length) hN hv hvN hk hm h.wd h.has h.at_ (c':=⟨c.Za,c.Zi,f,c.Zf,c.Zc,m⟩) rfl h.oc.kind hR (fun x hx=>⟨(hval x hx).i64,(hval x hx).ref⟩) (YA _) (by show c.Zb.length+m.length<=m.length+c.Zb.length;omega);refine ⟨_,e1,⟨e2,e3.has i h.has,?_,⟨h.oc.kind,⟨z,z1,z2⟩,a6,h.oc.row,h.oc.num,h.oc.nd,a7⟩,fun n p hp=> ?_,h.inj⟩,⟨e3,Le.refl _,fun a ha hne _=> ?_,fun n x hx _=> .inl ⟨n,hx⟩⟩⟩
 ·show co (iv w.Zo i _).m_ i=_;rw [e4 i h.has,if_pos rfl]
 ·obtain ⟨x,hx,hs⟩:=h.each n p hp;refine ⟨x,hx,hs.move fun a _ _ ha h5=>⟨e3.has a ha,?_⟩⟩;show co (iv w.Zo i _).m_ a=_;rw [e4 a ha,if_neg fun e=> ?_];subst e;rw [h.at_] at h5;rcases h.oc.kind with hkd|hkd<;>rw [h5] at hkd<;>cases hkd
 show co (iv w.Zo i _).m_ a=_;rw [e4 a ha,if_neg hne]
variable (hk:k+4<=580)(hq:q+1024<=1000000000)(hM:c.Zb.length<=2200)
include hk hq hM
theorem Ha (hR:keyR N key){d:WU}{ok:Bool}(ha:dq N (mW PL key).1 (mW PL key).2 (IB c) key d=some (p,ok))(hg:ok=true->PropW w.Zo.m_ p/\p.Zg=key/\zJ p.Zd)(hlen:PL.length<1024):
  Sat (jP N w v key d) fun r=>r.1=ok/\(ok=false->r.2=w)/\(ok=true->TW N i (k+4) (q+1024) w c (uz PL (mN p)) r.2):=by
 unfold jP;rw [G9 hv hvN I hM h,bs];show Sat (Option.bind (aZ N key) _) _;rw [show aZ N key=some true from hR,bs,nt,cf];show Sat (Option.bind (cc N ⟨c,w,v⟩ key) _) _
 refine (HX (v:=v) hN I hM h key).bind fun y hy=> ?_
 have e:y.1=(mW PL key).1/\y.2.2=(mW PL key).2:=by
  rcases hy with ⟨rfl,hno⟩|⟨n,u,rfl,hn,rfl⟩
  ·rw [BI hno];exact ⟨J,J⟩
  rw [rA h.nodup hn];exact ⟨J,J⟩
 have ha':dq N y.1 y.2.2 (!decide (ai .i64 c.Ze 1=0)) key d=some (p,ok):=by rw [e.1,e.2];exact ha
 refine Sat.bind (P:=(· =(p,ok))) ⟨_,ha',J⟩ fun z hz=> ?_
 subst hz
 cases ok with
 |false=>exact ac ⟨rfl,fun _=>rfl,fun h=>by cases h⟩
 |true=>
  obtain ⟨g1,g2,g3⟩:=hg rfl;show Sat (Option.bind (gu N ⟨c,w,v⟩ p) _) _
  exact (Ow hN hv hvN h hk hq hM g1 (by rw [g2];exact hR) g3 hlen).bind fun r hr=>ac ⟨hr.1,(fun h=>by cases h),fun _=>hr.2⟩
theorem SR (hR:keyR N key)(hx:ValW w.Zo.m_ x)(h9:x.Za≠9){a:Int}(ha:0<=a/\a<=7)(hA:zJ a)(hlen:PL.length<1024):
  Sat (sT N w v key x a) fun r=>r.1=true/\TW N i (k+4) (q+1024) w c (uz PL (mN ⟨key,a,x,v0,v0⟩)) r.2:=by
 unfold sT;rw [G9 hv hvN I hM h,bs];show Sat (Option.bind (aZ N key) _) _;rw [show aZ N key=some true from hR,bs,nt,cf,bs,WY (show¬a<0 by omega),cf,bs,WY (show¬7<a by omega),cf];have hz:=Qt w.Zo.m_
 exact (Ow hN hv hvN h hk hq hM (p:=⟨key,a,x,v0,v0⟩) ⟨⟨hx,h9⟩,⟨hz,.inl J⟩,⟨hz,.inl J⟩⟩ hR hA hlen).bind fun r hr=>ac hr
theorem C0 (key:WP):Sat (fR N w v key) fun r=>
  ((mW PL key).2=false/\r=(true,w))\/((mW PL key).2=true/\ai .i64 (mW PL key).1.Zd 4=0/\r=(false,w))\/
  ((mW PL key).2=true/\ai .i64 (mW PL key).1.Zd 4≠0/\r.1=true/\TW N i k (q+1024) w c (pM PL key) r.2):=by
 have hb:w.Zp.Zp.length+1024<=1073741824:=by have:=h.wd.tb;omega
 have hrc:=lH h.right;have hnum:=h.num;have hl:=h.len;obtain ⟨z,z1,z2⟩:=h.oc.proto;unfold fR;rw [G9 hv hvN I hM h,bs];show Sat (Option.bind (cc N ⟨c,w,v⟩ key) _) _
 refine (HX (v:=v) hN I hM h key).bind fun y hy=> ?_
 rcases hy with ⟨a6,hno⟩|⟨n,u,a6,hn,hu⟩
 ·have y3:y.2.2=false:=by rw [a6]
  rw [y3,nf,ct];exact ac (.inl ⟨by rw [BI hno],rfl⟩)
 have y1:y.1=u:=by rw [a6]
 have y2:y.2.1=(n:Int):=by rw [a6]
 have y3:y.2.2=true:=by rw [a6]
 have hown:mW PL key=(u,true):=by rw [<-hu];exact rA h.nodup hn
 rw [y3,nt,cf,y1,y2,hown];have hlt:=(XN.1 hn).1
 refine az (fun h4=>ac (.inr (.inl ⟨J,h4,J⟩))) fun h4=> ?_
 have hnl:(PL.map JD)[n]? =some (key,u.Zd):=by rw [XO,hn, <-hu];rfl
 show Sat (Option.bind (ej N w.Zp c.Zi key) _) _
 refine (Kf N I h.wd.ti hb h.oc.row h.oc.nd key n _ hnl).bind fun r hr=> ?_
 obtain ⟨r3,r4,r5⟩:=hr;rw [r3,WX (p:=(0:Int)=0) rfl,nt,cf];refine av (by constructor<;>omega) (av (by constructor<;>omega) ?_)
 have e3:c.Zc.take ((n:Int)+1).toNat++c.Zc.drop ((n:Int)+2).toNat=c.Zc.eraseIdx (n+1):=by
  rw [List.eraseIdx_eq_take_drop_succ];congr 1
 have e4:oP N c.Zc ((n:Int)+1) ((n:Int)+2)=some (c.Zc.eraseIdx (n+1)):=by
  unfold oP;rw [cF I,e3]
 refine Sat.bind (P:=(· =c.Zc.eraseIdx (n+1))) ⟨_,e4,J⟩ fun s hs=> ?_
 subst hs;have hlen:(c.Zc.eraseIdx (n+1)).length=c.Zc.length - 1:=List.length_eraseIdx_of_lt I;have hlen2:(PL.eraseIdx n).length=PL.length - 1:=List.length_eraseIdx_of_lt hlt
 have hmap:(PL.eraseIdx n).map JD=(PL.map JD).eraseIdx n:=by
  rw [List.eraseIdx_eq_take_drop_succ,X3,List.map_take,List.map_drop, <-List.eraseIdx_eq_take_drop_succ]
 rw [<-hmap] at r5
 have hm: ∀x∈c.Zc.eraseIdx (n+1)++c.Zb,ValW w.Zo.m_ x:=fun x hx=>by
  rcases X6.1 hx with hx|hx
  ·exact h.val (W2 _ (List.mem_of_mem_eraseIdx hx))
  exact h.val (W3 _ hx)
 have h00:(c.Zc.eraseIdx (n+1))[0]? =c.Zc[0]? :=List.getElem?_eraseIdx_of_lt I
 have hS: ∀m:Nat,(c.Zc.eraseIdx (n+1))[m+1]? =c.Zc[(if m<n then m else m+1)+1]? :=fun m=>by
  rw [List.getElem?_eraseIdx];by_cases e:m<n
  ·rw [if_pos I,if_pos e]
  rw [if_neg I,if_neg e]
 obtain ⟨s',s1', -⟩:=r5.has r4.ti;have hR:bQ (⟨c.Za,r.1,c.Ze,c.Zf,c.Zc.eraseIdx (n+1),c.Zb⟩:WI)=true:=zb h.oc.kind s1'.1 hrc.2.1 hrc.2.2 (fun x hx=>(hm x (W2 _ hx)).may) (fun x hx=>(hm x (W3 _ hx)).may) (by show (c.Zc.eraseIdx (n+1)).length<=1025;omega) (z:=z) (h00.trans z1) z2 (by show c.Zb.length<=4096;omega) h.oc.plain
 have htb:r.2.2.Zp.length<=q+1024:=by have:=r4.num;have:=h.wd.tb;omega
 have hwd:Wd N k (q+1024) c.Zb.length (Kj w r.2.2):=⟨h.wd.pl,h.wd.hb,r4.ti,htb⟩;obtain ⟨e5,e6,e7,e8⟩:=H0 (k':=k) (M':=c.Zb.length) hN hv hvN I hM hwd h.has h.at_ (c':=⟨c.Za,r.1,c.Ze,c.Zf,c.Zc.eraseIdx (n+1),c.Zb⟩) rfl h.oc.kind hR (fun x hx=>⟨(hm x hx).i64,(hm x hx).ref⟩) (by show k+(c.Zc.eraseIdx (n+1)).length<=k+c.Zc.length;omega) (YA _)
 have e8: ∀x,aW w.Zo.m_ x=true->co (iv w.Zo i (⟨c.Za,r.1,c.Ze,c.Zf,c.Zc.eraseIdx (n+1),c.Zb⟩:WI)).m_ x=if x=i then ⟨c.Za,r.1,c.Ze,c.Zf,c.Zc.eraseIdx (n+1),c.Zb⟩ else co w.Zo.m_ x:=e8
 have e9:=II (c':=⟨c.Za,r.1,c.Ze,c.Zf,c.Zc.eraseIdx (n+1),c.Zb⟩) e5 h.oc.noP true
 refine Sat.bind ⟨_,e9,J⟩ fun u' hu'=> ?_
 subst hu';refine ac (.inr (.inr ⟨J,h4,J,⟨c.Za,r.1,c.Ze,c.Zf,c.Zc.eraseIdx (n+1),c.Zb⟩,?_,⟨J,J,J,h00⟩,?_⟩))
 ·rw [<-MD h.nodup hn hu];refine ⟨e6,e7.has i h.has,?_,⟨h.oc.kind,⟨z,h00.trans z1,z2⟩,h.oc.plain,r5,?_,?_,h.oc.noP⟩,fun m p hp=> ?_,fun m1 m2 x y hne h1 h2=> ?_⟩
  ·show co (iv w.Zo i _).m_ i=_;rw [e8 i h.has,if_pos rfl]
  ·show (c.Zc.eraseIdx (n+1)).length=_;rw [YY];omega
  ·rw [hmap,List.eraseIdx_eq_take_drop_succ,X3,List.map_take,List.map_drop, <-List.eraseIdx_eq_take_drop_succ];exact List.Nodup.sublist (List.eraseIdx_sublist ..) h.oc.nd
  ·have hP:(PL.eraseIdx n)[m]? =PL[if m<n then m else m+1]? :=by
    rw [List.getElem?_eraseIdx];split<;>rfl
   rw [hP] at hp;obtain ⟨x,hx,hsl⟩:=h.each _ p hp;refine ⟨x,(hS m).trans hx,hsl.move fun a _ _ ha h5=>⟨e7.has a ha,?_⟩⟩;show co (iv w.Zo i _).m_ a=_;rw [e8 a ha,if_neg fun e=> ?_];subst e;rw [h.at_] at h5;rcases h.oc.kind with hkd|hkd<;>rw [h5] at hkd<;>cases hkd
  rw [hS] at h1 h2;refine h.inj _ _ x y (fun e=>hne ?_) h1 h2;split at e<;>split at e<;>omega
 refine ⟨FrW.trans (b:=Kj w r.2.2) ⟨J,fun _ h=>h,J,J,J⟩ e7,r4.le,fun a ha hne _=> ?_,fun m x hx _=> .inl ⟨_,(hS m).symm.trans hx⟩⟩;show co (iv w.Zo i _).m_ a=_;rw [e8 a ha,if_neg hne]
end
end
section
open Go.RowKit
set_option maxRecDepth 20000
def cB:WK:=⟨8,0,⟨#[]⟩⟩
def lenK:WP:=⟨1,0,(⟨#[108,101,110,103,116,104]⟩:ByteArray)⟩
def jI (n:Int):WP:=⟨0,n,⟨#[]⟩⟩
def vS (d:WL):WJ:=⟨lenK,bif d.Zs then 0 else 1,⟨3,(d.Zk.length:Int),⟨#[]⟩⟩,v0,v0⟩
def sE (E:List WK)(k:WP):Option WK:=bif decide (k=jI k.N)&&decide (0<=k.N) then (match E[k.N.toNat]? with
 |some x=>bif decide (x=cB) then none else some x
 |none=>none) else none
def nJ (d:WL)(k:WP):WJ×Bool:=bif decide (k=lenK) then (vS d,true) else match sE d.Zk k with
 |some x=>(⟨k,7,x,v0,v0⟩,true)
 |none=>mW d.Zm k
def dE (E:List WK)(n:Int):List WK:=E++List.replicate (n.toNat - E.length) cB
def qG (s:Int)(p:WJ):Int:=bif decide (p.Zg.Za=0)&&decide (ai .i64 p.Zd 4=0) then max s (p.Zg.N+1) else s
def oz (PL:List WJ)(n:Int):Int:=PL.foldl qG n
def iP (s:Int)(p:WJ):Bool:=!(decide (p.Zg.Za=0)&&decide (s<=p.Zg.N))
def Lk (d:WL)(n:Int):WL:=⟨d.Ext,d.Zs,d.Zk.take (oz d.Zm n).toNat,d.Zm.filter (iP (oz d.Zm n))⟩
structure Wf (d:WL):Prop where
 idx: ∀p∈d.Zm,p.Zg.Za=0->p.Zg=jI p.Zg.N/\0<=p.Zg.N/\d.Zk[p.Zg.N.toNat]? =some cB
 len: ∀p∈d.Zm,p.Zg≠lenK
 nd:(d.Zm.map (·.Zg)).Nodup
 hole: ∀x∈d.Zk,x.Za=8->x=cB
theorem yy {k:WP}:(∃(n:Nat) (p:WJ),PL[n]? =some p/\p.Zg=k/\ ∀m,m<n-> ∀r,PL[m]? =some r->r.Zg≠k)\/ ∀p∈PL,p.Zg≠k:=by
 induction PL with
 |nil=>right;intro p hp;cases hp
 | cons a PL ih=>
  by_cases e:a.Zg=k
  ·left;exact ⟨0,a,J,e,fun m hm=>by omega⟩
  rcases ih with ⟨n,p,h1,h2,h3⟩|h
  ·left;refine ⟨n+1,p,h1,h2,fun m hm r hr=> ?_⟩
   cases m with
   |zero=>obtain rfl:a=r:=YL hr;exact e
   |succ m=>exact h3 m I r hr
  right;intro p hp;rcases X7.1 hp with rfl|hp
  ·exact e
  exact h p hp
section
variable {N:Nat}(hN:20000<=N){d:WL}(hE:d.Zk.length<=5000)(hP:d.Zm.length<=1024)
include hN hP
theorem Fk {k:WP}{n:Nat}(h1:d.Zm[n]? =some p)(h2:p.Zg=k)(h3:∀m,m<n-> ∀r,d.Zm[m]? =some r->r.Zg≠k):ln N d k=some (n:Int):=by
 have hlt:=(XN.1 h1).1
 have key: ∀m i:Nat,n<m+i->i<=n->pZ N d k m (i:Int)=some (n:Int):=by
  intro m
  induction m with
  |zero=>intro i a b;omega
  | succ m ih=>
   intro i a b;rw [pZ.eq_2,fO I,ct,aK (by omega:i<d.Zm.length),bs];by_cases e:i=n
   ·subst e;rw [(XN.1 h1).2,WX h2,ct]
   rw [WY (h3 i I _ (XL I)),cf,r64 I I];exact ih (i+1) I I
 exact key N 0 I I
theorem Fj {k:WP}(h:∀p∈d.Zm,p.Zg≠k):ln N d k=some (-1):=by
 have key: ∀m i:Nat,d.Zm.length<m+i->i<=d.Zm.length->pZ N d k m (i:Int)=some (-1):=by
  intro m
  induction m with
  |zero=>intro i a b;omega
  | succ m ih=>
   intro i a b;rw [pZ.eq_2];by_cases e:i<d.Zm.length
   ·rw [fO I,ct,aK e,bs,WY (h _ (Y4 e)),cf,r64 I I];exact ih (i+1) I I
   rw [fD I,cf];rfl
 exact key N 0 I I
theorem OS {k:WP}{n:Nat}(hnd:(d.Zm.map (·.Zg)).Nodup)(h1:d.Zm[n]? =some p)(h2:p.Zg=k):mW d.Zm k=(p,true):=by
 have _:=hN
 have _:=hP
 rw [<-h2];exact rA hnd h1
include hE
theorem Ia (hw:Wf d)(k:WP):nG N d k=some (nJ d k):=by
 have _:=hE
 have hrest:((ln N d k).bind fun a6=>bif decide (a6<0) then (some ((⟨(⟨0,0,⟨#[]⟩⟩:WP),0,(⟨0,0,⟨#[]⟩⟩:WK),(⟨0,0,⟨#[]⟩⟩:WK),(⟨0,0,⟨#[]⟩⟩:WK)⟩:WJ),false)) else ((au d.Zm a6).bind fun a7=>some (a7,true)))=some (mW d.Zm k):=by
  rcases yy (PL:=d.Zm) (k:=k) with ⟨n,p,h1,h2,h3⟩|h
  ·have hlt:=(XN.1 h1);rw [Fk hN hP h1 h2 h3,bs,fD I,cf,aK hlt.1,bs,hlt.2,OS hN hP hw.nd h1 h2]
  rw [Fj hN hP h,bs,BI h];rfl
 have e0:bN N=some lenK:=rfl;unfold nG;rw [e0,bs];unfold nJ;by_cases hl:k=lenK
 ·rw [WX hl,ct,ct];unfold ww vS;cases d.Zs<;>rw [hl]<;>rfl
 rw [WY hl,cf,cf,hrest];unfold sE;by_cases h0:k.Za=0
 ·rw [WX h0,ct,bs];by_cases hS:k=jI k.N
  ·have hS':(k.S.toList==(⟨#[]⟩:ByteArray).toList)=true:=by rw [hS];exact beq_self_eq_true _
   rw [hS',ct,bs,WX hS];by_cases hn:0<=k.N
   ·rw [WX hn,ct,bs,Xg,cond_true];by_cases hlt:k.N<(d.Zk.length:Int)
    ·have hlt':k.N.toNat<d.Zk.length:=by omega
     have hg:au d.Zk k.N=some d.Zk[k.N.toNat]:=by
      have:=aK hlt'
      rwa [show ((k.N.toNat:Nat):Int)=k.N by omega] at this
     rw [WX hlt,ct,hg,bs,bs,XL hlt'];by_cases h8:d.Zk[k.N.toNat].Za=8
     ·have e:=hw.hole _ (Y4 hlt') h8;rw [WX h8,e];rfl
     have e:d.Zk[k.N.toNat]≠cB:=fun e=>h8 (by rw [e];rfl)
     rw [WY h8,nf,ct,bs];simp only [WY e,cond_false];rfl
    rw [WY hlt,cf,bs,cf,XM I]
   rw [WY hn,cf,bs,cf,bs,cf,Xd,cond_false]
  have hS':(k.S.toList==(⟨#[]⟩:ByteArray).toList)=false:=by
   cases e:(k.S.toList==(⟨#[]⟩:ByteArray).toList) with
   |false=>rfl
   |true=>
    refine absurd ?_ hS;have:k.S=⟨#[]⟩:=qw.1 (eq_of_beq e);obtain ⟨a,b,s⟩:=k;simp only at this h0;subst this h0;rfl
  rw [hS',cf,bs,cf,bs,cf,WY hS,Xe,cond_false];rfl
 rw [WY h0,cf,bs,cf,bs,cf,bs,cf,WY (fun e=>h0 (by rw [e];rfl)),Xe,cond_false];rfl
end
section
variable {N:Nat}(hN:20000<=N){d:WL}(hE:d.Zk.length<=5000)(hP:d.Zm.length<=1024)
include hN hP
theorem LO (hnd:(d.Zm.map (·.Zg)).Nodup)(p:WJ):ng N d p=some ⟨d.Ext,d.Zs,d.Zk,uz d.Zm p⟩:=by
 unfold ng;rcases yy (PL:=d.Zm) (k:=p.Zg) with ⟨n,u,h1,h2,h3⟩|h
 ·have hlt:=(XN.1 h1);rw [Fk hN hP h1 h2 h3,bs,cF (by simp only [XY];omega),fD I,cf,Y3,aK hlt.1,bs,Xm,zg hnd h1 h2];rfl
 rw [Fj hN hP h,bs,cF (by simp only [XY];omega)];show (aG _ _)=_;rw [Y3,cF (by simp only [XV,XY];omega),Em h];rfl
theorem tV (k:WP):er N d k=some ⟨d.Ext,d.Zs,d.Zk,pM d.Zm k⟩:=by
 have key: ∀(m i:Nat) (p:List WJ),d.Zm.length<m+i->i<=d.Zm.length->p.length<=i->kT N d k m p (i:Int)=some ⟨d.Ext,d.Zs,d.Zk,p++pM (d.Zm.drop i) k⟩:=by
  intro m
  induction m with
  |zero=>intro i p a b;omega
  | succ m ih=>
   intro i p a b hp;rw [kT.eq_2];by_cases e:i<d.Zm.length
   ·have hdrop:d.Zm.drop i=d.Zm[i]::d.Zm.drop (i+1):=Xt e;rw [fO I,ct,aK e,bs];unfold oS;by_cases hk:d.Zm[i].Zg=k
    ·rw [WX hk,nt,cf,r64 I I];refine (ih (i+1) p I I I).trans ?_;rw [hdrop];unfold pM;rw [XB,WX hk];rfl
    rw [WY hk,nf,ct,bs,cF (by rw [X0];omega),r64 I I];refine (ih (i+1) (p++ [d.Zm[i]]) I I (by rw [YW,X0];omega)).trans ?_;rw [hdrop];unfold pM;rw [XB,WY hk,W0];rfl
   rw [fD I,cf,Xv I];unfold t6 pM;rw [List.filter_nil,Xp]
 exact key N 0 [] I I (YA _)
omit hP in
include hE in
theorem Ib (n:Int)(hn:n<=5000):nh N d n=some ⟨d.Ext,d.Zs,dE d.Zk n,d.Zm⟩:=by
 have key: ∀(m:Nat) (p:List WK),5001<m+p.length->p.length<=5000->sK N n d m p=some ⟨d.Ext,d.Zs,dE p n,d.Zm⟩:=by
  intro m
  induction m with
  |zero=>intro p a b;omega
  | succ m ih=>
   intro p a b;have e0:iu N=some cB:=rfl;rw [sK.eq_2];by_cases e:(p.length:Int)<n
   ·rw [WX e,ct,e0,bs,rF (by rw [X0];omega),ih (p++ [cB]) (by rw [YW,X0];omega) (by rw [YW,X0];omega)];unfold dE;rw [W0,show n.toNat - p.length=(n.toNat - (p++ [cB]).length)+1 by rw [YW,X0];omega];rfl
   rw [WY e,cf];unfold xZ dE;rw [show n.toNat - p.length=0 by omega,List.replicate_zero,Xp]
 unfold nh;rw [rF (by simp only [XY];omega),Y3];exact key N d.Zk I hE
end
theorem C9 (E:List WK)(n:Int):(dE E n).length=max E.length n.toNat:=by
 unfold dE;rw [YW,List.length_replicate];omega
theorem C7 {n:Int}{i:Nat}(h:E[i]? =some x):(dE E n)[i]? =some x:=by
 unfold dE;rw [XG (XN.1 h).1];exact h
theorem C8 {n:Int}(h:x∈dE E n):x∈E\/x=cB:=by
 unfold dE at h;rcases X6.1 h with h|h
 ·exact .inl h
 exact .inr (List.eq_of_mem_replicate h)
theorem FD {n:Int}(h:n<=E.length):dE E n=E:=by
 unfold dE;rw [show n.toNat - E.length=0 by omega,List.replicate_zero,Xp]
end
section
open Go.RowKit
set_option maxRecDepth 20000
def FS (p:WJ):Prop:=p.Zg.Za=0/\ai .i64 p.Zd 4=0
theorem Ak {s:Int}(h:FS p):qG s p=max s (p.Zg.N+1):=by
 unfold qG;rw [WX h.1,WX h.2];rfl
theorem EK {s:Int}(h:¬FS p):qG s p=s:=by
 unfold qG;by_cases h0:p.Zg.Za=0
 ·rw [WY (p:=ai .i64 p.Zd 4=0) (fun e=>h ⟨h0,e⟩),Xd,cond_false]
 rw [WY h0,Xe,cond_false]
theorem Be: ∀(PL:List WJ) (n:Int),n<=oz PL n
 | [],n=>Xi _
 |p::PL,n=>by
  have h:=Be PL (qG n p);show n<=PL.foldl qG (qG n p);refine Int.le_trans ?_ h;by_cases hf:FS p
  ·rw [Ak hf];omega
  rw [EK hf];omega
theorem Bd: ∀(PL:List WJ) (n s:Int),n<=s->(∀p∈PL,FS p->p.Zg.N+1<=s)->oz PL n<=s
 | [],n,s,h,_=>h
 |p::PL,n,s,h,hp=>by
  refine Bd PL (qG n p) s ?_ fun x hx=>hp x (X8 _ hx)
  by_cases hf:FS p
  ·rw [Ak hf];have:=hp p (X9 ..) hf;omega
  rw [EK hf];exact h
theorem EJ: ∀(PL:List WJ) (n:Int) {p:WJ},p∈PL->FS p->p.Zg.N+1<=oz PL n
 | x::PL,n,p,hp,hf=>by
  rcases X7.1 hp with rfl|hp
  ·show p.Zg.N+1<=PL.foldl qG (qG n p);refine Int.le_trans ?_ (Be PL (qG n p));rw [Ak hf];omega
  exact EJ PL (qG n x) hp hf
theorem I9 {k:WP}: ∀(PL:List WJ) (n:Int),(∀p∈PL,p.Zg=k-> ¬FS p)->oz (pM PL k) n=oz PL n
 | [],_,_=>rfl
 | p::PL,n,h=>by
  have ih:=I9 PL (qG n p) fun x hx=>h x (X8 _ hx)
  unfold pM at ih⊢;rw [XB];by_cases hk:p.Zg=k
  ·rw [WX hk];show oz (PL.filter _) n=PL.foldl qG (qG n p);have h2:=EK (s:=n) (h p (X9 ..) hk);rw [h2] at ih⊢;exact ih
  rw [WY hk];exact ih
theorem qv {k:WP}:p∈pM PL k↔p∈PL/\p.Zg≠k:=by
 unfold pM;rw [Ya];simp
theorem IG (h:(PL.map (·.Zg)).Nodup)(k:WP):((pM PL k).map (·.Zg)).Nodup:=List.Nodup.sublist (List.Sublist.map _ List.filter_sublist) h
theorem zh (hn:(PL.map (·.Zg)).Nodup)(k:WP):(∃p∈PL,p.Zg=k/\mW PL k=(p,true))\/((∀p∈PL,p.Zg≠k)/\mW PL k=(zeroP,false)):=by
 rcases yy (PL:=PL) (k:=k) with ⟨n,p,h1,h2, -⟩|h
 ·exact .inl ⟨p,Yc h1,h2,by rw [<-h2];exact rA hn h1⟩
 exact .inr ⟨h,BI h⟩
theorem QZ (hn:(PL.map (·.Zg)).Nodup){r:WJ}(hp:p∈PL)(hr:r∈PL)(e:p.Zg=r.Zg):p=r:=by
 obtain ⟨n,hn'⟩:=List.getElem?_of_mem hp;obtain ⟨m,hm'⟩:=List.getElem?_of_mem hr;have h1:=rA hn hn';have h2:=rA hn hm';rw [e] at h1;exact congrArg Prod.fst (h1.symm.trans h2)
theorem PG {i:Nat}(h:E[i]? =some x):sE E (jI i)=bif decide (x=cB) then none else some x:=by
 unfold sE;rw [WX (show jI (i:Int)=jI (jI (i:Int)).N from rfl),WX (show 0<=(jI (i:Int)).N by show (0:Int)<=(i:Int);omega)];show (match E[((i:Int)).toNat]? with|some x=>bif decide (x=cB) then none else some x|none=>none)=_;rw [Xm,h]
theorem Re (n:Int):jI n≠lenK:=fun e=>by cases congrArg WP.Za e
section
variable {N:Nat}(hN:20000<=N)(n:Nat)
include hN
theorem Sz (e f:Bool): ∀(m:Nat) (E:List WK) (PL:List WJ),E.length<n+m->n<=E.length->E.length<=5000->PL.length<=1024->Wf ⟨e,f,E,PL⟩->pz N (n:Int) m e f E PL=some (Lk ⟨e,f,E,PL⟩ n,decide (oz PL n=n))
 |0,E,PL,h0,h1,_,_,_=>by omega
 | m + 1,E,PL,h0,h1,h2,h3,hw=>by
  rw [pz.eq_2];by_cases hlt:n<E.length
  ·obtain ⟨L,hL⟩: ∃L:Nat,E.length=L+1:=⟨E.length - 1,by omega⟩
   have hk:(⟨0,(E.length:Int) - 1,⟨#[]⟩⟩:WP)=jI (L:Int):=by rw [hL];show (⟨0,_,_⟩:WP)=⟨0,_,_⟩;congr 1;omega
   have eL:((E.length:Int) - 1)=(L:Int):=by omega
   have hx:E[L]? =some E[L]:=XL I;have hown:=Ia hN (d:=⟨e,f,E,PL⟩) h2 h3 hw (jI (L:Int));have hwo:=tV hN (d:=⟨e,f,E,PL⟩) h3 (jI (L:Int));rw [fO I,ct,r64 I I,hk,hown,bs]
   have hA:nJ ⟨e,f,E,PL⟩ (jI (L:Int))=match (bif decide (E[L]=cB) then none else some E[L]) with
     |some x=>(⟨jI (L:Int),7,x,v0,v0⟩,true)
     |none=>mW PL (jI (L:Int)):=by
    unfold nJ;rw [WY (Re _),cond_false];show (match sE E (jI (L:Int)) with|some x=>_|none=>_)=_;rw [PG hx]
   -- going on below
   have go:(∀p∈PL,p.Zg=jI (L:Int)-> ¬FS p)->((er N (⟨e,f,E,PL⟩:WL) (jI (L:Int))).bind fun a6=>aG ((0:Int)<=(E.length:Int) - 1/\0<=((E.length:Int) - 1).toNat/\((E.length:Int) - 1).toNat<=a6.Zk.length) ((pz N n m) a6.Ext a6.Zs ((a6.Zk.drop 0).take (((E.length:Int) - 1).toNat - 0)) a6.Zm))=some (Lk ⟨e,f,E,PL⟩ n,decide (oz PL n=n)):=fun hnf=>by
    have hidx: ∀p∈PL,FS p->p.Zg.N+1<=(L:Int):=fun p hp hf=>by
     obtain ⟨g1,g2,g3⟩:=hw.idx p hp hf.1;have g4:=(XN.1 g3).1;have g4:p.Zg.N.toNat<E.length:=g4;rcases Int.lt_or_le p.Zg.N (L:Int) with h|h
     ·omega
     exact absurd hf (hnf p hp (g1.trans (congrArg jI I)))
    have hs1:=I9 (k:=jI (L:Int)) PL n hnf;have hs2:=Bd PL n (L:Int) I hidx;have hs3:=Be PL n;rw [hwo,bs,eL,Xm,cF (by refine ⟨by omega,by omega,?_⟩;show L<=E.length;omega)];show pz N n m e f ((E.drop 0).take (L - 0)) (pM PL (jI (L:Int)))=_;rw [Xx,Nat.sub_zero]
    have hlen:(E.take L).length=L:=by rw [YX];omega
    have hcl:(pM PL (jI (L:Int))).length<=PL.length:=XX ..;rw [Sz e f m (E.take L) (pM PL (jI (L:Int))) I I I I ⟨fun p hp h0=> ?_,fun p hp=>hw.len p (qv.1 hp).1,IG hw.nd _,fun x hx=>hw.hole x (Yd hx)⟩,hs1]
    ·unfold Lk;simp only [hs1];rw [List.take_take,Nat.min_eq_left I]
     have e2:(pM PL (jI (L:Int))).filter (iP (oz PL n))=PL.filter (iP (oz PL n)):=by
      unfold pM;rw [List.filter_filter]
      refine List.filter_congr fun p hp=> ?_
      by_cases hk:p.Zg=jI (L:Int)
      ·have:iP (oz PL n) p=false:=by
        unfold iP;rw [hk,WX (show (jI (L:Int)).Za=0 from rfl),WX (show oz PL n<=(jI (L:Int)).N from hs2)];rfl
       rw [this];rfl
      rw [WY hk];simp
     rw [e2]
    obtain ⟨hp1,hp2⟩:=qv.1 hp;obtain ⟨g1,g2,g3⟩:=hw.idx p hp1 h0;have g3:E[p.Zg.N.toNat]? =some cB:=g3;have g4:=(XN.1 g3).1
    have:p.Zg.N≠(L:Int):=fun e'=>hp2 (g1.trans (congrArg jI e'))
    refine ⟨g1,g2,?_⟩;show (E.take L)[p.Zg.N.toNat]? =some cB;rw [List.getElem?_take_of_lt I];exact g3
   rw [hA];by_cases hh:E[L]=cB
   ·rw [WX hh,cond_true];show (Option.bind (bif (mW PL (jI (L:Int))).2 then some (decide (ai .i64 (mW PL (jI (L:Int))).1.Zd 4=0)) else some false) _)=_;rcases zh hw.nd (jI (L:Int)) with ⟨p,hp,hpk,ho⟩|⟨hno,ho⟩
    ·rw [ho,ct,bs];by_cases h4:ai .i64 p.Zd 4=0
     ·rw [WX h4,ct];have hf:FS p:=⟨by rw [hpk];rfl,h4⟩
      have s1:oz PL n=(L:Int)+1:=by
       have a:=EJ PL n hp hf;rw [hpk] at a
       have b:=Bd PL n ((L:Int)+1) I fun r hr hf'=>by
        obtain ⟨g1,g2,g3⟩:=hw.idx r hr hf'.1;have g4:=(XN.1 g3).1;have g4:r.Zg.N.toNat<E.length:=g4;omega
       exact Int.le_antisymm b a
      unfold Lk;rw [s1,WY I,show ((L:Int)+1).toNat=E.length by omega];simp only
      rw [YZ,XC.2 fun r hr=>by
       unfold iP;by_cases h0:r.Zg.Za=0
       ·obtain ⟨g1,g2,g3⟩:=hw.idx r hr h0;have g4:=(XN.1 g3).1;have g4:r.Zg.N.toNat<E.length:=g4;rw [WY (p:=(L:Int)+1<=r.Zg.N) I,Xd];rfl
       ·rw [WY h0];rfl]
     rw [WY h4,cf]
     exact go fun r hr hk' hf=>h4 (by rw [QZ hw.nd hp hr (hpk.trans hk'.symm)];exact hf.2)
    rw [ho,cf,bs,cf]
    exact go fun r hr hk' _=>hno r hr hk'
   rw [WY hh,cond_false];show (Option.bind (some (decide (ai .i64 7 4=0))) _)=_;rw [bs,WY (by decide),cf]
   refine go fun r hr hk' _=>hh ?_
   obtain ⟨g1,g2,g3⟩:=hw.idx r hr (by rw [hk'];rfl);rw [hk'] at g3;have g3:E[((L:Int)).toNat]? =some cB:=g3;rw [Xm,hx] at g3;exact YL g3
  have hEn:E.length=n:=by omega
  have hid: ∀p∈PL,p.Zg.Za=0->p.Zg.N+1<=(n:Int):=fun p hp h0=>by
   obtain ⟨g1,g2,g3⟩:=hw.idx p hp h0;have g4:=(XN.1 g3).1;have g4:p.Zg.N.toNat<E.length:=g4;omega
  have s1:oz PL n=n:=Int.le_antisymm (Bd PL n n (Xi _) fun p hp hf=>hid p hp hf.1) (Be PL n);rw [fD I,cf];unfold Ax Lk;rw [s1,WX rfl];simp only
  rw [Xm, <-hEn,YZ,XC.2 fun r hr=>by
   unfold iP;by_cases h0:r.Zg.Za=0
   ·have:=hid r hr h0;rw [WY (p:=((E.length:Nat):Int)<=r.Zg.N) I,Xd];rfl
   ·rw [WY h0];rfl]
end
def Eg (d:WL)(n:Int):WL×Bool:=bif decide (n<0)||decide (4096<n)||(d.Zs&& !decide (n=(d.Zk.length:Int))) then (d,false) else
 (Lk ⟨d.Ext,d.Zs,dE d.Zk n,d.Zm⟩ n,decide (oz d.Zm n=n))
theorem Wf.long {d:WL}(h:Wf d)(n:Int):Wf ⟨d.Ext,d.Zs,dE d.Zk n,d.Zm⟩:=⟨fun p hp h0=>⟨(h.idx p hp h0).1,(h.idx p hp h0).2.1,C7 (h.idx p hp h0).2.2⟩,h.len,h.nd,fun x hx h8=>by
 rcases C8 hx with hx|rfl
 ·exact h.hole x hx h8
 ·rfl⟩
theorem GZ {N:Nat}(hN:20000<=N){d:WL}(hE:d.Zk.length<=5000)(hP:d.Zm.length<=1024)(hw:Wf d)(n:Int):lP N d n=some (Eg d n):=by
 unfold lP Eg;by_cases h0:n<0
 ·rw [WX h0];rfl
 by_cases h1:4096<n
 ·rw [WX h1,WY h0];rfl
 rw [WY h0,WY h1,cf,bs,cf,Bool.false_or,Bool.false_or]
 have e:((bif d.Zs then (some (!decide (n=(d.Zk.length:Int)))) else (some false)).bind fun b7=>some b7)=some (d.Zs&& !decide (n=(d.Zk.length:Int))):=by
  cases d.Zs<;>rfl
 rw [e,bs]
 cases hb:(d.Zs&& !decide (n=(d.Zk.length:Int))) with
 |true=>rfl
 |false=>
  rw [cf,cond_false,Ib hN hE n I,bs];obtain ⟨m,rfl⟩: ∃m:Nat,n=m:=⟨n.toNat,by omega⟩;have hl:=C9 d.Zk (m:Int);rw [Xm] at hl;unfold CU;have:=Sz hN m d.Ext d.Zs N (dE d.Zk m) d.Zm I I I hP (hw.long m);rw [this,bs]
end
section
open Go.RowKit
set_option maxRecDepth 20000
theorem Qs (N:Nat){x:Int}(h0:0<=x)(h1:x<=255):uQ N x 10=some (bif decide (48<=x)&&decide (x<=57) then x - 48 else -1):=by
 have hw:IntKind.i64.wrap x=x:=IntWalk.i64_in _ ⟨by omega,by omega⟩
 have a6: ∀p:Int,oI N 10 p=some (bif decide (10<=p) then -1 else p):=fun p=>by
  unfold oI;cases decide (10<=p)<;>rfl
 have e6: ∀p:Int,p<=15->qd N x 10 p=some (bif decide (65<=x)&&decide (x<=70) then -1 else bif decide (10<=p) then -1 else p):=fun p hp=>by
  unfold qd;rw [hw];by_cases a:65<=x
  ·by_cases b:x<=70
   ·rw [WX a,WX b,ct,bs,ct,r64 I I,r64 I I,a6,WX (show 10<=x - 65+10 by omega)];rfl
   rw [WX a,WY b,ct,bs,cf,a6];rfl
  rw [WY a,cf,bs,cf,a6];rfl
 have e1: ∀p:Int,p<=15->qe N x 10 p=some (bif decide (97<=x)&&decide (x<=102) then -1 else bif decide (65<=x)&&decide (x<=70) then -1 else bif decide (10<=p) then -1 else p):=fun p hp=>by
  unfold qe;rw [hw];by_cases a:97<=x
  ·by_cases b:x<=102
   ·rw [WX a,WX b,ct,bs,ct,r64 I I,r64 I I,e6 _ I,WX (show 10<=x - 97+10 by omega),WY (show¬x<=70 by omega),Xd,cf];rfl
   rw [WX a,WY b,ct,bs,cf,e6 _ hp];rfl
  rw [WY a,cf,bs,cf,e6 _ hp];rfl
 unfold uQ;rw [hw];by_cases a:48<=x
 ·by_cases b:x<=57
  ·rw [WX a,WX b,ct,bs,ct,r64 I I,e1 _ I,WY (show¬97<=x by omega),WY (show¬65<=x by omega),WY (show¬10<=x - 48 by omega)];rfl
  rw [WX a,WY b,ct,bs,cf,e1 _ I];show some (bif decide (97<=x)&&decide (x<=102) then (-1:Int) else bif decide (65<=x)&&decide (x<=70) then -1 else -1)=some (-1);cases decide (97<=x)&&decide (x<=102)<;>cases decide (65<=x)&&decide (x<=70)<;>rfl
 rw [WY a,cf,bs,cf,e1 _ I];show some (bif decide (97<=x)&&decide (x<=102) then (-1:Int) else bif decide (65<=x)&&decide (x<=70) then -1 else -1)=some (-1);cases decide (97<=x)&&decide (x<=102)<;>cases decide (65<=x)&&decide (x<=70)<;>rfl
def OP (y:Int×Bool):Option (Int×Bool):=(bif !y.2 then (some true) else (some (decide (4294967294<y.1)))).bind fun b7=>bif b7 then (some (0,false)) else (some (y.1,true))
theorem ME (N:Nat)(s:ByteArray)(hs:s.size<=10)(hne:(s.toList==(⟨#[]⟩:ByteArray).toList)=false): ∀(m i:Nat) (p:Int),s.size<m+i->i<=s.size->0<=p->p+1<=(10:Int) ^ i->(lT N s 10 m p (i:Int)).bind OP=nO N s m p (i:Int)
 |0,i,p,h,h1,_,_=>by omega
 | m + 1,i,p,h,h1,h2,h3=>by
  have h10:(10:Int) ^ i<=10 ^ 10:=by
   have:(10:Nat) ^ i<=10 ^ 10:=Nat.pow_le_pow_right I I
   exact_mod_cast this
  rw [show (10:Int) ^ 10=10000000000 from rfl] at h10
  have hb:p<=10000000000:=by omega
  rw [lT.eq_2,nO.eq_2];by_cases hi:i<s.size
  ·obtain ⟨x,hx,a6,a7⟩:=Ce (b:=s) (i:=(i:Int)) I I;rw [fO I,ct,ct,hx,bs,bs,Qs N a6 a7,bs];by_cases a:48<=x
   ·by_cases b:x<=57
    ·have ew:IntKind.i64.wrap (IntKind.u8.wrap (x - 48))=x - 48:=by
      have e1:IntKind.u8.wrap (x - 48)=x - 48:=by
       show (x - 48)%256=x - 48;omega
      rw [e1];exact IntWalk.i64_in _ ⟨by omega,by omega⟩
     rw [WX a,WX b,Bool.and_self,ct,WY (show¬x - 48<0 by omega),cf,WX h2,ct,r64 I I,r64 I I];unfold rz sS;rw [WY (show¬9007199254740992<p*10+(x - 48) by omega),cf,r64 I I,WY (show¬x<48 by omega),cf,bs,bs,WY (show¬57<x by omega),cf,r64 I I,bs,ew,r64 I I,r64 I I,show p*10+(x - 48)=10*p+(x - 48) by omega];exact ME N s hs hne m (i+1) _ I I I (by rw [Int.pow_succ];omega)
    rw [WX a,WY b,Xd,cond_false,WX (show (-1:Int)<0 by omega),ct,WY (show¬x<48 by omega),cf,bs,bs,WX (show 57<x by omega),bs,ct];rfl
   rw [WY a,Xe,cond_false,WX (show (-1:Int)<0 by omega),ct,WX (show x<48 by omega),ct,bs,bs,ct];rfl
  rw [fD I,cf,cf];unfold wF sW;rw [hne,bs];unfold OP;rw [show (!((p,!false):Int×Bool).2)=false from rfl,cf,bs]
theorem Rc (N:Nat)(hN:20000<=N)(s:ByteArray):uN N s=iX N s:=by
 unfold uN iX
 cases e:(s.toList==(⟨#[]⟩:ByteArray).toList) with
 |true=>rfl
 |false=>
  rw [cf,bs];by_cases h:10<(s.size:Int)
  ·rw [WX h];rfl
  rw [WY h,cf];have:=ME N s I e N 0 0 I I I (by decide);have e2:((yj N s 10).bind fun y6=>(bif !y6.2 then (some true) else (some (decide (4294967294<y6.1)))).bind fun b7=>bif b7 then (some (0,false)) else (some (y6.1,true)))=nO N s N 0 0:=this;rw [e2,bs,cf]
theorem Ej (N:Nat)(hN:20000<=N)(k:WP):pC N k=aZ N k:=by
 unfold pC aZ;rw [Rc N hN];obtain ⟨y,hy, -⟩:=JE N I k.S;rw [hy,bs,bs];cases decide (k.Za=0)<;>cases decide (k.Za=1)<;>cases decide (k.Za=2)<;>cases (k.S.toList==(⟨#[]⟩:ByteArray).toList)<;>cases decide (0<=k.N)<;>cases decide (k.N<=4294967294)<;>cases decide (k.N=0)<;>cases y.2<;>cases decide ((k.S.size:Int)<=65536)<;>cases decide (1<=k.N)<;>rfl
theorem Pf {N:Nat}{k:WP}(h:keyR N k)(h0:k.Za=0):k=jI k.N:=by
 unfold keyR aZ at h;rw [WX h0,ct] at h
 have hs:k.S=⟨#[]⟩:=by
  cases e:(k.S.toList==(⟨#[]⟩:ByteArray).toList) with
  |true=>exact qw.1 (eq_of_beq e)
  |false=>rw [e] at h;cases h
 obtain ⟨a,b,s⟩:=k;simp only at h0 hs;subst h0 hs;rfl
set_option maxRecDepth 20000
theorem CD {a m:Int}{n:Nat}(ha:in64 a)(hm:0<=m)(hmn:m<2 ^ n)(hn:n<=10)(h:be .i64 a m=0):0<=a/\a<2 ^ n:=by
 unfold in64 at ha;have hp:(2:Nat) ^ n<=2 ^ 10:=Nat.pow_le_pow_right I hn
 have hpi:((2:Nat) ^ n:Nat)=((2:Int) ^ n):=by simp
 have hp2:(2:Int) ^ n<=1024:=by rw [<-hpi];exact_mod_cast hp
 have hx:(BitVec.ofInt 64 a&&& ~~~BitVec.ofInt 64 m)=0#64:=by
  apply BitVec.eq_of_toNat_eq;have h':IntKind.i64.wrap ((BitVec.ofInt 64 a&&& ~~~BitVec.ofInt 64 m).toNat:Int)=0:=h;have hlt:=(BitVec.ofInt 64 a&&& ~~~BitVec.ofInt 64 m).isLt;generalize (BitVec.ofInt 64 a&&& ~~~BitVec.ofInt 64 m).toNat=y at h' hlt;rw [IntKind.wrap_i64] at h'
  have hy:y=0:=by omega
  rw [hy];rfl
 have hmt:(BitVec.ofInt 64 m).toNat=m.toNat:=by
  rw [BitVec.toNat_ofInt];have:m%((2 ^ 64:Nat):Int)=m:=Int.emod_eq_of_lt hm (by rw [show ((2 ^ 64:Nat):Int)=18446744073709551616 by decide];omega);rw [this]
 have hlt:(BitVec.ofInt 64 a).toNat<2 ^ n:=by
  refine Nat.lt_pow_two_of_testBit _ fun i hi=> ?_
  have e:=congrArg (fun b=>b.getLsbD i) hx;simp only [BitVec.getLsbD_and,BitVec.getLsbD_not,BitVec.getLsbD_zero] at e
  have hmi:(BitVec.ofInt 64 m).getLsbD i=false:=by
   show (BitVec.ofInt 64 m).toNat.testBit i=false;rw [hmt];refine Nat.testBit_lt_two_pow ?_
   have h1:m.toNat<2 ^ n:=by
    have:(m.toNat:Int)<((2 ^ n:Nat):Int):=by rw [hpi];omega
    exact_mod_cast this
   exact YC h1 (Nat.pow_le_pow_right I hi)
  rw [hmi] at e;show (BitVec.ofInt 64 a).getLsbD i=false;by_cases h64:i<64
  ·rw [WX h64] at e;simpa only [Bool.not_false,Bool.and_true,Xg] using e
  exact BitVec.getLsbD_of_ge _ _ I
 rw [BitVec.toNat_ofInt] at hlt;rw [show ((2 ^ 64:Nat):Int)=18446744073709551616 by decide] at hlt;have h3:(((a%18446744073709551616).toNat:Nat):Int)<((2 ^ n:Nat):Int):=Int.ofNat_lt.2 hlt;rw [hpi] at h3;omega
def sB (n b:Int):Bool:=decide ((n.tdiv b).tmod 2=1)
theorem Ob (N:Nat){a:Int}(h0:0<=a)(h1:a<=63){b:Int}(hb:1<=b):bO N a b=some (sB a b):=by
 unfold bO;refine cF ⟨by omega,?_⟩;rw [Xk h0];have:=Int.ediv_nonneg h0 (show 0<=b by omega);have:=Int.ediv_le_self b h0;constructor<;>omega
theorem Eb {b:Bool}{x y:α}:(bif b then some x else some y)=some (bif b then x else y):=by cases b<;>rfl
theorem Rh: ∀n:_root_.Fin 64,be .i64 (n.val:Int) 63=0/\(!decide (ai .i64 (n.val:Int) 3=0))=(sB (n.val:Int) 1||sB (n.val:Int) 2)/\(!decide (ai .i64 (n.val:Int) 12=0))=(sB (n.val:Int) 4||sB (n.val:Int) 8)/\(!decide (ai .i64 (n.val:Int) 1=0))=sB (n.val:Int) 1/\(!decide (ai .i64 (n.val:Int) 2=0))=sB (n.val:Int) 2/\(!decide (ai .i64 (n.val:Int) 4=0))=sB (n.val:Int) 4/\(!decide (ai .i64 (n.val:Int) 8=0))=sB (n.val:Int) 8/\(!decide (ai .i64 (n.val:Int) 16=0))=sB (n.val:Int) 16/\(!decide (ai .i64 (n.val:Int) 32=0))=sB (n.val:Int) 32:=by decide+kernel
structure Six (n:Int):Prop where
 z:be .i64 n 63=0
 b3:(!decide (ai .i64 n 3=0))=(sB n 1||sB n 2)
 b12:(!decide (ai .i64 n 12=0))=(sB n 4||sB n 8)
 b1:(!decide (ai .i64 n 1=0))=sB n 1
 b2:(!decide (ai .i64 n 2=0))=sB n 2
 b4:(!decide (ai .i64 n 4=0))=sB n 4
 b8:(!decide (ai .i64 n 8=0))=sB n 8
 b16:(!decide (ai .i64 n 16=0))=sB n 16
 b32:(!decide (ai .i64 n 32=0))=sB n 32
theorem six {n:Int}(h0:0<=n)(h1:n<=63):Six n:=by
 have hf:=Rh ⟨n.toNat,by omega⟩;simp only [Xn h0] at hf;obtain ⟨f1,f2,f3,f4,f5,f6,f7,f8,f9⟩:=hf;exact ⟨f1,f2,f3,f4,f5,f6,f7,f8,f9⟩
def Ec (x y z:Bool):Int:=
 let p:=bif x then cP .i64 0 1 else 0
 let q:=bif y then cP .i64 p 2 else p
 bif z then cP .i64 q 4 else q
theorem R4: ∀a:_root_.Fin 8, ∀x y z:Bool,(!decide (be .i64 (a.val:Int) (Ec x y z)=0))=((sB (a.val:Int) 1&& !x)||(sB (a.val:Int) 2&& !y)||(sB (a.val:Int) 4&& !z)):=by decide+kernel
theorem TE: ∀x y z:Bool,0<=Ec x y z/\Ec x y z<2 ^ 3:=by decide+kernel
section
variable (N:Nat){d:WU}
theorem HE {d:WU}(h:Six d.Has):aP N d 1=some (sB d.Has 1)/\aP N d 2=some (sB d.Has 2)/\aP N d 4=some (sB d.Has 4)/\aP N d 8=some (sB d.Has 8)/\aP N d 16=some (sB d.Has 16)/\aP N d 32=some (sB d.Has 32)/\aP N d 3=some (sB d.Has 1||sB d.Has 2)/\aP N d 12=some (sB d.Has 4||sB d.Has 8):=by
 unfold aP;rw [h.b1,h.b2,h.b4,h.b8,h.b16,h.b32,h.b3,h.b12];exact ⟨J,J,J,J,J,J,J,J⟩
theorem UD {d:WU}(h:Six d.Has):qt N d=some (Ec (sB d.Has 2) (sB d.Has 16) (sB d.Has 32)):=by
 obtain ⟨-,s2, -, -,a6,a7, -, -⟩:=HE N h;unfold qt rE rD qr Ec;rw [s2,bs,a6,bs,bs,a7,bs,bs,bs,bs];cases sB d.Has 2<;>cases sB d.Has 16<;>cases sB d.Has 32<;>rfl
theorem ES {d:WU}(h0:0<=d.Has)(h1:d.Has<=63){b:Int}(hb:1<=b):aY N d b=some (sB d.Has b):=by
 unfold aY;rw [Ob N h0 h1 hb,bs]
end
theorem LL (N:Nat){d:WU}(h:¬((0<=d.Has/\d.Has<=63)/\0<=d.Zd/\d.Zd<=7)):d7 N d=some false:=by
 unfold d7
 have: ∀(x y z u:Bool) (k:Bool->Option Bool),((x||y)||z)||u=true->(((bif x then (some true) else (some y)).bind fun b2=>(bif b2 then (some true) else (some z)).bind fun b3=>(bif b3 then (some true) else (some u)).bind k):Option Bool)=k true:=fun x y z u k h=>by
  cases x<;>cases y<;>cases z<;>cases u<;>first|rfl|cases h
 rw [this _ _ _ _ _ (by
  simp only [Bool.or_eq_true,YS]
  omega)]
 rfl
theorem P0 {x y:Bool}:(bif x then y else false)=(x&&y):=by cases x<;>rfl
theorem R2 {x y:Bool}:(bif x then true else y)=(x||y):=by cases x<;>rfl
theorem Vy {x y:Bool}:(bif x then false else y)=(!x&&y):=by cases x<;>rfl
theorem UA: ∀e1 e2 x1 vz k0 k7 x4 gz gh x8 sz sh:Bool,(gz=true->gh=true)->(sz=true->sh=true)->(!e1&&(!e2&&(!(!x1&& !vz||k0||k7)&&((bif !x4 then gz else gh)&&(bif !x8 then sz else sh)))))=(!(e1||e2)&&(!((k0||k7|| !gh)|| !sh)&&(((x1||vz)&&(x4||gz))&&(x8||sz)))):=by decide+kernel
theorem Kr (N:Nat){d:WU}(hi:in64 d.Has)(ha:in64 d.Zd):d7 N d=fG N d:=by
 by_cases hH:0<=d.Has/\d.Has<=63
 ·have h6:=six hH.1 hH.2;obtain ⟨s1,s2,s4,s8,a7,a8,s3,a6⟩:=HE N h6;have hask:=UD N h6;by_cases hA:0<=d.Zd/\d.Zd<=7
  ·have hat: ∀b:Int,1<=b->bO N d.Zd b=some (sB d.Zd b):=fun b hb=>Ob N hA.1 I hb
   have hf:=R4 ⟨d.Zd.toNat,by omega⟩ (sB d.Has 2) (sB d.Has 16) (sB d.Has 32);simp only [Xn hA.1] at hf
   have hg:d.Zq=v0->(bif decide (d.Zq.Za=0) then true else decide (d.Zq.Za=7))=true:=fun e=>by rw [e];rfl
   have hs:d.Zr=v0->(bif decide (d.Zr.Za=0) then true else decide (d.Zr.Za=7))=true:=fun e=>by rw [e];rfl
   unfold d7 fG ku dB qU uY;simp only [ES N hH.1 hH.2 (show (1:Int)<=1 by omega),ES N hH.1 hH.2 (show (1:Int)<=2 by omega),ES N hH.1 hH.2 (show (1:Int)<=4 by omega),ES N hH.1 hH.2 (show (1:Int)<=8 by omega),ES N hH.1 hH.2 (show (1:Int)<=16 by omega),ES N hH.1 hH.2 (show (1:Int)<=32 by omega),hat 1 I,hat 2 I,hat 4 I,s1,s2,s4,s8,a7,a8,s3,a6,hask,bs,Eb,hf];rw [WX h6.z,WY (show¬d.Has<0 by omega),WY (show¬63<d.Has by omega),WY (show¬d.Zd<0 by omega),WY (show¬7<d.Zd by omega)];change _=v0->_ at hg;change _=v0->_ at hs
   have hgz:decide (d.Zq=(⟨0,0,⟨#[]⟩⟩:WK))=true->(bif decide (d.Zq.Za=0) then true else decide (d.Zq.Za=7))=true:=fun e=>hg (YU e)
   have hsz:decide (d.Zr=(⟨0,0,⟨#[]⟩⟩:WK))=true->(bif decide (d.Zr.Za=0) then true else decide (d.Zr.Za=7))=true:=fun e=>hs (YU e)
   generalize (bif decide (d.Zq.Za=0) then true else decide (d.Zq.Za=7))=gh at hgz⊢;generalize (bif decide (d.Zr.Za=0) then true else decide (d.Zr.Za=7))=sh at hsz⊢;generalize decide (d.Zq=(⟨0,0,⟨#[]⟩⟩:WK))=gz at hgz⊢;generalize decide (d.Zr=(⟨0,0,⟨#[]⟩⟩:WK))=sz at hsz⊢;generalize decide (d.Value=(⟨0,0,⟨#[]⟩⟩:WK))=vz;generalize decide (d.Value.Za<0)=k0;generalize decide (7<d.Value.Za)=k7;simp only [P0,R2,Vy,Bool.not_true,Bool.false_or];generalize ((sB d.Has 1||sB d.Has 2)&&(sB d.Has 4||sB d.Has 8))=e1;generalize (sB d.Zd 1&& !sB d.Has 2||sB d.Zd 2&& !sB d.Has 16||sB d.Zd 4&& !sB d.Has 32)=e2;generalize sB d.Has 1=x1;generalize sB d.Has 4=x4;generalize sB d.Has 8=x8;exact congrArg some (UA e1 e2 x1 vz k0 k7 x4 gz gh x8 sz sh hgz hsz)
  rw [LL N fun h=>hA h.2]
  have hb:be .i64 d.Zd (Ec (sB d.Has 2) (sB d.Has 16) (sB d.Has 32))≠0:=fun e=>by
   obtain ⟨q1,q2⟩:=TE (sB d.Has 2) (sB d.Has 16) (sB d.Has 32);have:=CD (n:=3) ha q1 q2 I e;omega
  unfold fG;rw [hask,bs,WY hb]
  have: ∀b2:Option Bool,(∃b,b2=some b)-> ∀k:Bool->Option Bool,k true=some false->(b2.bind fun b2=>(bif b2 then (some true) else (some (!false))).bind k)=some false:=fun b2 ⟨b,e⟩ k hk=>by
   rw [e,bs];cases b<;>exact hk
  refine (this _ ?_ _ J).symm;rw [s3,bs,a6,bs];cases decide (be .i64 d.Has 63=0)<;>cases (sB d.Has 1||sB d.Has 2)<;>exact ⟨_,rfl⟩
 rw [LL N fun h=>hH h.1]
 have hb:be .i64 d.Has 63≠0:=fun e=>by
  have:=CD (n:=6) hi I (by decide) I e;omega
 unfold fG;rw [WY hb];rfl
end
section
open Go.RowKit
set_option maxRecDepth 20000
structure R25 (d:WU):Prop where
 h:0<=d.Has/\d.Has<=63
 a:0<=d.Zd/\d.Zd<=7
 da:((sB d.Has 1||sB d.Has 2)&&(sB d.Has 4||sB d.Has 8))=false
 a1:(sB d.Zd 1&& !sB d.Has 2)=false
 a2:(sB d.Zd 2&& !sB d.Has 16)=false
 a4:(sB d.Zd 4&& !sB d.Has 32)=false
 v:sB d.Has 1=false->d.Value=v0
 vk:0<=d.Value.Za/\d.Value.Za<=7
 g:(sB d.Has 4=false->d.Zq=v0)/\(sB d.Has 4=true->d.Zq.Za=0\/d.Zq.Za=7)
 s:(sB d.Has 8=false->d.Zr=v0)/\(sB d.Has 8=true->d.Zr.Za=0\/d.Zr.Za=7)
theorem Pm (N:Nat)(x:WK)(b:Bool):Sat (qU N x b) fun r=>r=true->(b=false->x=v0)/\(b=true->x.Za=0\/x.Za=7):=by
 unfold qU
 cases b with
 |false=>exact ac fun h=>⟨(fun _=>YU h),fun h=>(by cases h)⟩
 |true=>
  rw [nt,cf]
  refine cl (P:=fun r=>r=true->x.Za=0\/x.Za=7) (fun e=>ac fun _=> .inl (YU e)) (fun _=>ac fun h=> .inr (YU h)) fun r hr=>ac fun h=>⟨(fun h=>by cases h),fun _=>hr h⟩
theorem QC (N:Nat)(d:WU):Sat (d7 N d) fun b=>b=true->R25 d:=by
 unfold d7
 refine cl (P:=fun b=>b=false->0<=d.Has/\d.Has<=63) (fun _=>ac fun h=>by cases h) (fun e=>ac fun h=>by have:=YT e;have:=YT h;omega) fun b2 h2=> ?_
 refine cl (P:=fun b=>b=false->(0<=d.Has/\d.Has<=63)/\0<=d.Zd) (fun _=>ac fun h=>by cases h) (fun e=>ac fun h=>⟨h2 e,by have:=YT h;omega⟩) fun b3 h3=> ?_
 refine cl (P:=fun b=>b=false->(0<=d.Has/\d.Has<=63)/\0<=d.Zd/\d.Zd<=7) (fun _=>ac fun h=>by cases h) (fun e=>ac fun h=>⟨(h3 e).1,(h3 e).2,by have:=YT h;omega⟩) fun b4 h4=> ?_
 cases b4 with
 |true=>
  rw [ct,bs,ct]
  exact ac fun h=>by cases h
 | false=>
  obtain ⟨⟨h0,h1⟩,a0,a1⟩:=h4 rfl
  have hs: ∀b:Int,1<=b->aY N d b=some (sB d.Has b):=fun b hb=>by
   unfold aY;rw [Ob N h0 h1 hb,bs]
  have hda:ku N d=some (sB d.Has 1||sB d.Has 2):=by
   unfold ku;rw [hs 1 I,bs,hs 2 I,bs];cases sB d.Has 1<;>rfl
  have hac:dB N d=some (sB d.Has 4||sB d.Has 8):=by
   unfold dB;rw [hs 4 I,bs,hs 8 I,bs];cases sB d.Has 4<;>rfl
  have hat: ∀b:Int,1<=b->bO N d.Zd b=some (sB d.Zd b):=fun b hb=>Ob N a0 I hb
  rw [cf,hda,bs,hac,bs,hat 1 I,bs,hs 2 I,bs,hat 2 I,bs,hs 16 I,bs,hat 4 I,bs,hs 32 I,bs,hs 1 I,bs,hs 4 I,bs,hs 8 I,bs]
  cases e1:((sB d.Has 1||sB d.Has 2)&&(sB d.Has 4||sB d.Has 8)) with
  |true=>
   rw [Y0] at e1;rw [e1.1,e1.2]
   exact ac fun h=>by cases h
  | false=>
   have e1':(bif (sB d.Has 1||sB d.Has 2) then (some (sB d.Has 4||sB d.Has 8)) else (some false):Option Bool)=some false:=by
    rw [<-e1];cases (sB d.Has 1||sB d.Has 2)<;>rfl
   rw [e1',bs,bs,cf]
   have hx: ∀x y:Bool,(bif x then (some (!y)) else (some false):Option Bool)=some (x&& !y):=fun x y=>by cases x<;>rfl
   rw [hx,bs,hx,bs,hx,bs]
   cases e2:(sB d.Zd 1&& !sB d.Has 2) with
   |true=>exact ac fun h=>by cases h
   | false=>
    rw [cf,bs]
    cases e3:(sB d.Zd 2&& !sB d.Has 16) with
    |true=>exact ac fun h=>by cases h
    | false=>
     rw [cf,bs]
     cases e4:(sB d.Zd 4&& !sB d.Has 32) with
     |true=>exact ac fun h=>by cases h
     |false=>
      rw [cf]
      refine cl (P:=fun b=>b=false->sB d.Has 1=false->d.Value=v0) (fun e=>ac fun h _=>by rw [Bool.not_eq_false'] at h;exact YU h) (fun e=>ac fun _ h=>by rw [h] at e;cases e) fun a8 h23=> ?_
      refine cl (P:=fun b=>b=false->(sB d.Has 1=false->d.Value=v0)/\0<=d.Value.Za) (fun _=>ac fun h=>by cases h) (fun e=>ac fun h=>⟨h23 e,by have:=YT h;omega⟩) fun b0 h24=> ?_
      refine cl (P:=fun b=>b=false->(sB d.Has 1=false->d.Value=v0)/\0<=d.Value.Za/\d.Value.Za<=7) (fun _=>ac fun h=>by cases h) (fun e=>ac fun h=>⟨(h24 e).1,(h24 e).2,by have:=YT h;omega⟩) fun b5 h25=>dx (fun _=>ac fun h=>by cases h) fun e=> ?_
      obtain ⟨v1,v2⟩:=h25 e
      refine (Pm N d.Zq _).bind fun b6 hy=> ?_
      refine cl (P:=fun b=>b=true->R25 d) (fun a6=>(Pm N d.Zr _).bind fun b7 a7=>ac fun h=>⟨⟨h0,h1⟩,⟨a0,a1⟩,e1,e2,e3,e4,v1,v2,hy a6,a7 h⟩) (fun _=>ac fun h=>by cases h) fun b hb=>ac hb
structure Nrm (p:WJ):Prop where
 d:ai .i64 p.Zd 8=0->p.Zq=v0/\p.Zr=v0
 a:ai .i64 p.Zd 8≠0->p.Value=v0
theorem R5 (N:Nat)(a b:WK):pB N a b=ki N a b:=by
 unfold pB ki
 have:decide (a=b)=(decide (a.Za=b.Za)&&decide (a.N=b.N)&&(a.S.toList==b.S.toList)):=by
  by_cases e:a=b
  ·rw [e];simp
  rw [WY e];by_cases h1:a.Za=b.Za
  ·by_cases h2:a.N=b.N
   ·rw [WX h1,WX h2]
    cases h3:(a.S.toList==b.S.toList) with
    |false=>rfl
    |true=>
     refine absurd ?_ e;have h4:a.S=b.S:=qw.1 (eq_of_beq h3);obtain ⟨x,y,z⟩:=a;obtain ⟨x',y',z'⟩:=b;simp only at h1 h2 h4;subst h1 h2 h4;rfl
   rw [WY h2];simp
  rw [WY h1];simp
 rw [this];cases decide (a.Za=b.Za)<;>cases decide (a.N=b.N)<;>cases (a.S.toList==b.S.toList)<;>rfl
def kD (a b:Int)(s:Bool)(m:Int):Int:=bif bif s then sB a m else sB b m then m else 0
theorem P2: ∀a:_root_.Fin 8, ∀b:_root_.Fin 16, ∀s2 a6 a7:Bool,
  cP .i64 (be .i64 (cP .i64 (cP .i64 0 (ai .i64 (b.val:Int) 6)) 8) (Ec false a6 a7)) (ai .i64 (a.val:Int) (Ec false a6 a7))=(kD a.val b.val a6 2+kD a.val b.val a7 4)+8/\
  cP .i64 (be .i64 (cP .i64 (ai .i64 (b.val:Int) 1) (ai .i64 (b.val:Int) 6)) (Ec s2 a6 a7)) (ai .i64 (a.val:Int) (Ec s2 a6 a7))=(kD a.val b.val a6 2+kD a.val b.val a7 4)+kD a.val b.val s2 1/\
  cP .i64 (be .i64 (cP .i64 0 (ai .i64 (b.val:Int) 6)) (Ec s2 a6 a7)) (ai .i64 (a.val:Int) (Ec s2 a6 a7))=(kD a.val b.val a6 2+kD a.val b.val a7 4)+(bif s2&&sB a.val 1 then 1 else 0):=by decide+kernel
theorem Qq: ∀a:_root_.Fin 8, ∀b:_root_.Fin 16,(!decide (ai .i64 (EB .i64 (a.val:Int) (b.val:Int)) 2=0))=!(sB (a.val:Int) 2==sB (b.val:Int) 2):=by decide+kernel
structure Bits (N:Nat) (d:WU) (b:Int):Prop where
 r:R25 d
 six:Six d.Has
 says: ∀x:Int,1<=x->aY N d x=some (sB d.Has x)
 data:ku N d=some (sB d.Has 1||sB d.Has 2)
 acc:dB N d=some (sB d.Has 4||sB d.Has 8)
 da: ∀x:Int,1<=x->bO N d.Zd x=some (sB d.Zd x)
 pb: ∀x:Int,1<=x->bO N b x=some (sB b x)
 a:Six d.Zd
 b:Six b
theorem zr (N:Nat){d:WU}(h:R25 d){b:Int}(hb:0<=b/\b<=15):Bits N d b:=by
 have hs: ∀x:Int,1<=x->aY N d x=some (sB d.Has x):=fun x hx=>ES N h.h.1 h.h.2 hx
 refine ⟨h,six h.h.1 h.h.2,hs,?_,?_,fun x hx=>Ob N h.a.1 (by have:=h.a;omega) hx,fun x hx=>Ob N hb.1 I hx,six h.a.1 (by have:=h.a;omega),six hb.1 I⟩
 ·unfold ku;rw [hs 1 I,bs,hs 2 I,bs,Eb,bs,R2]
 unfold dB;rw [hs 4 I,bs,hs 8 I,bs,Eb,bs,R2]
def Gm (k:WP)(p:WJ)(d:WU):WJ:=
 let was:=sB p.Zd 8
 let TT:=(sB d.Has 4||sB d.Has 8)||(was&& !(sB d.Has 1||sB d.Has 2))
 ⟨k,(kD d.Zd p.Zd (sB d.Has 16) 2+kD d.Zd p.Zd (sB d.Has 32) 4)+(bif TT then 8 else bif was then (bif sB d.Has 2&&sB d.Zd 1 then 1 else 0) else kD d.Zd p.Zd (sB d.Has 2) 1),
  bif sB d.Has 1 then d.Value else bif !TT&& !was then p.Value else v0,
  bif sB d.Has 4 then d.Zq else bif TT&&was then p.Zq else v0,
  bif sB d.Has 8 then d.Zr else bif TT&&was then p.Zr else v0⟩
theorem JX (N:Nat)(k:WP){d:WU}(hb:0<=p.Zd/\p.Zd<=15)(h:Bits N d p.Zd):oL N p k d=some (Gm k p d):=by
 obtain ⟨s1,s2,s4,s8,a7,a8,s3,a6⟩:=HE N h.six;have hask:=UD N h.six;have hf:=P2 ⟨d.Zd.toNat,by have:=h.r.a;omega⟩ ⟨p.Zd.toNat,by omega⟩ (sB d.Has 2) (sB d.Has 16) (sB d.Has 32);simp only [Xn h.r.a.1,Xn hb.1] at hf;obtain ⟨f1,f2,f3⟩:=hf;have hda:=h.r.da;unfold oL o8 o7 o6 o5 o4 o3;simp only [s1,s4,s8,s3,a6,hask,bs,h.b.b8,Eb];unfold Gm;simp only;generalize sB d.Has 1=x1 at*;generalize sB d.Has 2=x2 at*;generalize sB d.Has 4=x4 at*;generalize sB d.Has 8=x8 at*;generalize sB p.Zd 8=y at*
 cases x1<;>cases x2<;>cases x4<;>cases x8<;>cases y<;>first
  |exact absurd hda (by decide)
  |exact congrArg some (congrArg (fun a=>(⟨k,a,_,_,_⟩:WJ)) f1)
  |exact congrArg some (congrArg (fun a=>(⟨k,a,_,_,_⟩:WJ)) f2)
  |exact congrArg some (congrArg (fun a=>(⟨k,a,_,_,_⟩:WJ)) f3)
theorem Ik {n b:Int}(h:(!decide (ai .i64 n b=0))=sB n b):decide (ai .i64 n b=0)=!sB n b:=by rw [<-h,Bool.not_not]
theorem IL (N:Nat){d:WU}(hb:0<=p.Zd/\p.Zd<=15)(h:Bits N d p.Zd):pj N p d=ii N p d:=by
 obtain ⟨s1,s2,s4,s8,a6,a7,s3,a8⟩:=HE N h.six;have hx:=Qq ⟨d.Zd.toNat,by have:=h.r.a;omega⟩ ⟨p.Zd.toNat,by omega⟩;simp only [Xn h.r.a.1,Xn hb.1] at hx;unfold pj ii;simp only [R5,ki,h.says 1 I,h.says 2 I,h.says 4 I,h.says 8 I,h.says 16 I,h.says 32 I,h.da 4 I,h.da 2 I,h.da 1 I,h.pb 2 I,h.pb 8 I,h.pb 1 I,h.data,h.acc,s1,s2,s4,s8,a6,a7,s3,a8,bs,Eb,h.a.b4,hx,h.b.b8,Ik h.b.b1,h.a.b1,P0,R2];generalize (sB d.Has 32&&sB d.Zd 4)=A;generalize (sB d.Has 16&& !(sB d.Zd 2==sB p.Zd 2))=B;generalize sB p.Zd 8=y;generalize decide (d.Zq=p.Zq)=g;generalize decide (d.Zr=p.Zr)=s;generalize decide (d.Value=p.Value)=v;generalize sB d.Has 1=x1;generalize sB d.Has 2=x2;generalize sB d.Has 4=x4;generalize sB d.Has 8=x8;generalize sB p.Zd 1=p1;generalize sB d.Zd 1=a1
 cases A<;>cases B<;>first|rfl|skip
 cases y
 ·cases x4<;>cases x8<;>first|rfl|skip
  cases p1<;>cases x2<;>cases a1<;>cases x1<;>rfl
 rfl
theorem Lt (N:Nat){d:WU}{b:Int}(h:Bits N d b)(part m:Int)(hp:1<=part)(hm:1<=m)(was:Bool):lQ N d part m was=some (bif bif sB d.Has part then sB d.Zd m else was then m else 0):=by
 unfold lQ uL;rw [h.says part hp,bs,h.da m hm,bs];cases sB d.Has part<;>cases sB d.Zd m<;>cases was<;>rfl
theorem Ot (a b:Int)(s:Bool){m:Int}(hm:0<=m):0<=kD a b s m/\kD a b s m<=m:=by
 unfold kD;cases (bif s then sB a m else sB b m)<;>constructor<;>simp<;>omega
theorem V5 (m:Int):sB 0 m=false:=by
 unfold sB;rw [Int.zero_tdiv];rfl
theorem Ts (N:Nat)(k:WP){d:WU}(h:Bits N d 0):wA N d k=some (Gm k zeroP d):=by
 have hda:=h.r.da;have hv:=h.r.v;have hg:=h.r.g.1;have hs:=h.r.s.1
 have i1:in64 ((0:Int)+2):=by decide
 have i2:in64 ((0:Int)+2+4):=by decide
 have i3:in64 ((0:Int)+4):=by decide
 have i4:in64 ((0:Int)+2+4+8):=by decide
 have i5:in64 ((0:Int)+2+8):=by decide
 have i6:in64 ((0:Int)+4+8):=by decide
 have i7:in64 ((0:Int)+8):=by decide
 have i8:in64 ((0:Int)+2+4+1):=by decide
 have i9:in64 ((0:Int)+2+1):=by decide
 have j1:in64 ((0:Int)+4+1):=by decide
 have j2:in64 ((0:Int)+1):=by decide
 unfold wA uM sP sO;simp only [h.says 16 I,h.says 32 I,h.says 2 I,h.acc,h.da 2 I,h.da 4 I,h.da 1 I,bs,Eb,P0,cF i1,cF i2,cF i3,cF i4,cF i5,cF i6,cF i7,cF i8,cF i9,cF j1,cF j2];unfold Gm kD;simp only [show zeroP.Zd=0 from rfl,show zeroP.Value=v0 from rfl,show zeroP.Zq=v0 from rfl,show zeroP.Zr=v0 from rfl,V5];generalize sB d.Has 16=a6;generalize sB d.Has 32=a7;generalize sB d.Zd 2=a2;generalize sB d.Zd 4=a4;generalize sB d.Zd 1=a1;generalize sB d.Has 1=x1 at*;generalize sB d.Has 2=x2 at*;generalize sB d.Has 4=x4 at*;generalize sB d.Has 8=x8 at*
 cases x1<;>cases x2<;>cases x4<;>cases x8<;>first
  |exact absurd hda (by decide)
  |(cases a6<;>cases a2<;>cases a7<;>cases a4<;>cases a1<;>simp_all<;>first|rfl|exact ⟨rfl,rfl⟩|exact ⟨rfl,rfl,rfl⟩)
theorem zu (N:Nat)(k:WP){d:WU}(hb:0<=p.Zd/\p.Zd<=15)(h:R25 d)(has ext:Bool):dq N p has ext k d=bif !has then (bif !ext then some (zeroP,false) else some (Gm k zeroP d,true)) else (bif !sB p.Zd 4 then ii N p d else some false).bind fun b=>some (bif b then (zeroP,false) else (Gm k p d,true)):=by
 have hB:=zr N h hb;have h0:=zr N h (b:=0) ⟨Xi _,by omega⟩;have hc:=JX N k hb hB
 have hf:uZ N d k=some (Gm k zeroP d):=by
  unfold uZ;have:=JX N k (p:=zeroP) ⟨Xi _,by show (0:Int)<=15;omega⟩ h0;rw [show (⟨(⟨0,0,⟨#[]⟩⟩:WP),0,(⟨0,0,⟨#[]⟩⟩:WK),(⟨0,0,⟨#[]⟩⟩:WK),(⟨0,0,⟨#[]⟩⟩:WK)⟩:WJ)=zeroP from rfl,this,bs]
 unfold dq;rw [hf,hc,Ik hB.b.b4]
 cases has with
 |false=>cases ext<;>rfl
 | true=>
  rw [nt,cf,cf]
  cases sB p.Zd 4 with
  |true=>rfl
  |false=>
   rw [nf,ct,ct]
   cases e:ii N p d with
   |none=>rfl
   |some b=>cases b<;>rfl
theorem MJ (N:Nat)(k:WP){d:WU}(hb:0<=p.Zd/\p.Zd<=15)(hn:Nrm p)(h:R25 d)(has ext:Bool):lp N p has ext k d=dq N p has ext k d:=by
 rw [zu N k hb h];have hB:=zr N h hb;have h0:=zr N h (b:=0) ⟨Xi _,by omega⟩;unfold lp;rw [Ts N k h0,hB.pb 4 I,IL N hb hB]
 cases has with
 |false=>cases ext<;>rfl
 | true=>
  rw [nt,cf,cf,bs];have hv:=Ot d.Zd p.Zd (sB d.Has 16) (m:=2) I;have hl:=Ot d.Zd p.Zd (sB d.Has 32) (m:=4) I
  have hr: ∀b9:Bool,(bif b9 then (some ((⟨(⟨0,0,⟨#[]⟩⟩:WP),0,(⟨0,0,⟨#[]⟩⟩:WK),(⟨0,0,⟨#[]⟩⟩:WK),(⟨0,0,⟨#[]⟩⟩:WK)⟩:WJ),false)) else ((bO N p.Zd 2).bind fun b5=>(lQ N d 16 2 b5).bind fun a6=>(some (sB p.Zd 4)).bind fun b6=>(lQ N d 32 4 b6).bind fun a7=>aG (in64 (a6+a7)) ((bO N p.Zd 8).bind fun a8=>(dB N d).bind fun b7=>(bif b7 then (some true) else ((bif a8 then ((ku N d).bind fun c7=>some (!c7)) else (some false)).bind fun c8=>some c8)).bind fun c9=>bif c9 then (aG (in64 ((a6+a7)+8)) ((aY N d 4).bind fun d0=>(ni N d0 d.Zq a8 p.Zq).bind fun d1=>(aY N d 8).bind fun d2=>(ni N d2 d.Zr a8 p.Zr).bind fun d3=>some ((⟨k,(a6+a7)+8,(⟨0,0,⟨#[]⟩⟩:WK),d1,d3⟩:WJ),true))) else ((bif !a8 then ((bO N p.Zd 1).bind fun d4=>some d4) else (some false)).bind fun d6=>(lQ N d 2 1 d6).bind fun b0=>aG (in64 ((a6+a7)+b0)) ((aY N d 1).bind fun e0=>(ni N e0 d.Value (!a8) p.Value).bind fun e1=>some ((⟨k,(a6+a7)+b0,e1,(⟨0,0,⟨#[]⟩⟩:WK),(⟨0,0,⟨#[]⟩⟩:WK)⟩:WJ),true))))))=some (bif b9 then (zeroP,false) else (Gm k p d,true)):=fun b9=>by
   cases b9 with
   |true=>rfl
   | false=>
    have hd:=h.da;have hv1:=h.v;have hg1:=h.g.1;have hs1:=h.s.1
    have hn1:sB p.Zd 8=false->p.Zq=v0/\p.Zr=v0:=fun e=>hn.d (YU (by rw [Ik hB.b.b8,e];rfl))
    have hn2:sB p.Zd 8=true->p.Value=v0:=fun e=>hn.a (YT (by rw [Ik hB.b.b8,e];rfl))
    have e2:(bif bif sB d.Has 16 then sB d.Zd 2 else sB p.Zd 2 then (2:Int) else 0)=kD d.Zd p.Zd (sB d.Has 16) 2:=rfl;have e3:(bif bif sB d.Has 32 then sB d.Zd 4 else sB p.Zd 4 then (4:Int) else 0)=kD d.Zd p.Zd (sB d.Has 32) 4:=rfl
    have i1:in64 (kD d.Zd p.Zd (sB d.Has 16) 2+kD d.Zd p.Zd (sB d.Has 32) 4):=by unfold in64;omega
    have i2:in64 (kD d.Zd p.Zd (sB d.Has 16) 2+kD d.Zd p.Zd (sB d.Has 32) 4+8):=by unfold in64;omega
    have i3: ∀b:Bool,in64 (kD d.Zd p.Zd (sB d.Has 16) 2+kD d.Zd p.Zd (sB d.Has 32) 4+(bif b then 1 else 0)):=fun b=>by unfold in64;cases b<;>simp<;>omega
    unfold ni;simp only [cf,hB.pb 2 I,hB.pb 8 I,hB.pb 1 I,Lt N hB 16 2 I I,Lt N hB 32 4 I I,Lt N hB 2 1 I I,hB.acc,hB.data,hB.says 4 I,hB.says 8 I,hB.says 1 I,bs,Eb,e2,e3,cF i1,cF i2,cF (i3 _)];refine congrArg some ?_;unfold Gm;simp only;have ev:kD d.Zd p.Zd (sB d.Has 2) 1=bif bif sB d.Has 2 then sB d.Zd 1 else sB p.Zd 1 then 1 else 0:=rfl;rw [ev];generalize kD d.Zd p.Zd (sB d.Has 16) 2=V;generalize kD d.Zd p.Zd (sB d.Has 32) 4=hJ;generalize sB d.Zd 1=a1;generalize sB p.Zd 1=p1;generalize sB d.Has 1=x1 at*;generalize sB d.Has 2=x2 at*;generalize sB d.Has 4=x4 at*;generalize sB d.Has 8=x8 at*;generalize sB p.Zd 8=y at*
    cases x1<;>cases x2<;>cases x4<;>cases x8<;>first
     |exact absurd hd (by decide)
     |(cases y<;>cases a1<;>cases p1<;>simp_all<;>first|rfl|exact ⟨rfl,rfl⟩|exact ⟨rfl,rfl,rfl⟩)
  cases e4:sB p.Zd 4 with
  |true=>rw [e4] at hr;exact hr false
  |false=>
   rw [e4] at hr;rw [nf,ct,ct]
   cases e:ii N p d with
   |none=>rfl
   |some b=>exact hr b
set_option maxRecDepth 20000
structure Prim (x:WK):Prop where
 may:kV x=true
 i64:in64 x.N
 no:bL x=false
theorem Prim.w (h:Prim x)(m:WO):ValW m x:=⟨h.may,h.i64,fun e=>by rw [h.no] at e;cases e⟩
theorem Prim.n9 (h:Prim x):x.Za≠9:=fun e=>by
 have:=h.no;unfold bL at this;rw [e] at this;cases this
theorem LT:Prim v0:=⟨Sr,by decide,rfl⟩
theorem ub:Prim cB:=⟨by kernel_rfl,by decide,rfl⟩
structure PV (N:Nat) (p:WJ):Prop where
 v:Prim p.Value
 v8:p.Value.Za≠8
 g:p.Zq=v0
 s:p.Zr=v0
 a:zJ p.Zd
 n:Nrm p
 k:keyR N p.Zg
theorem PV.w {N:Nat}(h:PV N p)(m:WO):PropW m p:=⟨⟨h.v.w m,h.v.n9⟩,by rw [h.g];exact ⟨Qt m,.inl rfl⟩,by rw [h.s];exact ⟨Qt m,.inl rfl⟩⟩
theorem PV.norm {N:Nat}(h:PV N p):mN p=p:=by
 by_cases e:ai .i64 p.Zd 8=0
 ·rw [C3 e, <-(h.n.d e).1];have:=(h.n.d e).1.trans (h.n.d e).2.symm
  conv=>lhs;arg 5;rw [this]
 rw [Fu e, <-h.n.a e]
structure Sim (N:Nat) (i:Int) (k q:Nat) (w:WH) (c:WI) (d:WL):Prop where
 ob:Obj N i k q w c d.Zm
 ar:c.Za=2
 el:c.Zb=d.Zk
 ex:IB c=d.Ext
 fx:(!decide (ai .i64 c.Ze 32=0))=d.Zs
 wf:Wf d
 pv: ∀p∈d.Zm,PV N p
 ev: ∀x∈d.Zk,Prim x
theorem Sim.up {N k q:Nat}{w:WH}{d:WL}(h:Sim N i k q w c d)(h1:k<=k')(h2:q<=q'):Sim N i k' q' w c d:=⟨h.ob.up h1 h2,h.ar,h.el,h.ex,h.fx,h.wf,h.pv,h.ev⟩
theorem Ho (h:kV x=true)(h8:x.Za=8):x=cB:=by
 obtain ⟨a,b,s⟩:=x;simp only at h8;subst h8;unfold kV dL at h
 cases e:(s.toList==(⟨#[]⟩:ByteArray).toList) with
 |false=>
  rw [show ((⟨8,b,s⟩:WK).S.toList==(⟨#[]⟩:ByteArray).toList)=false from e] at h;exact absurd h (by show¬(Option.getD (some false) false)=true;decide)
 |true=>
  have hs:=qw.1 (eq_of_beq e);subst hs;rw [show ((⟨8,b,⟨#[]⟩⟩:WK).S.toList==(⟨#[]⟩:ByteArray).toList)=true from e] at h;have h2:(Option.getD (some (decide (b=0))) false)=true:=h;have:b=0:=YU h2;subst this;rfl
section
variable {N:Nat}(hN:20000<=N)(hv:v.Za=7)(hvN:v.N=i){k q:Nat}(hk:k<=580){w:WH}{d:WL}(hM:d.Zk.length<=2200)(h:Sim N i k q w c d)
include hN hv hvN hk hM h
omit hN in
theorem xK:cD N w v=some (c,true):=by
 rw [SD hv hvN hk (by rw [h.el];exact hM) h.ob,WX h.ar]
omit hN in
theorem TH:km N w v=some (d.Zk.length:Int):=by
 unfold km;rw [xK hv hvN hk hM h,bs,nt,cf,h.el]
omit hN hv hvN hk in
theorem HN:nw N c=some (vS d):=by
 have _:=hM
 have e:bZ N=some lenK:=rfl;unfold nw pa vS;rw [e,bs,h.fx,h.el];cases d.Zs<;>rfl
theorem P9 (key:WP):pK N w v key=some (nJ d key):=by
 have e:bZ N=some lenK:=rfl;have hoo:=OZ hN hv hvN hk (by rw [h.el];exact hM) h.ob key;unfold pK;rw [xK hv hvN hk hM h,bs,nt,cf,e,bs];unfold nJ;by_cases hl:key=lenK
 ·rw [WX hl,ct,ct,HN hM h,bs]
 rw [WY hl,cf,cf,hoo];unfold sE;by_cases h0:key.Za=0
 ·rw [WX h0,ct];unfold aZ;rw [WX h0,ct];by_cases hS:key=jI key.N
  ·have hS':(key.S.toList==(⟨#[]⟩:ByteArray).toList)=true:=by rw [hS];exact beq_self_eq_true _
   rw [hS',ct,bs,WX hS];by_cases hn:0<=key.N
   ·rw [WX hn,ct,bs,bs,bs,Xg,cond_true];by_cases hlt:key.N<(d.Zk.length:Int)
    ·have hlt':key.N.toNat<d.Zk.length:=by omega
     have hg:au d.Zk key.N=some d.Zk[key.N.toNat]:=by
      have:=aK hlt'
      rwa [show ((key.N.toNat:Nat):Int)=key.N by omega] at this
     have hth:eD N c key.N=some (!decide (d.Zk[key.N.toNat]=cB)):=by
      unfold eD;rw [h.el,WX hlt,ct,hg,bs,bs];rfl
     rw [WX (show key.N<=4294967294 by omega),ct,hth,bs,bs,h.el,hg,XL hlt'];by_cases h8:d.Zk[key.N.toNat]=cB
     ·simp only [WX h8,cond_true];rfl
     simp only [WY h8,cond_false];rfl
    have hth:eD N c key.N=some false:=by
     unfold eD;rw [h.el,WY hlt,cf,bs]
    rw [XM I];cases decide (key.N<=4294967294)
    ·rfl
    rw [ct,hth];rfl
   rw [WY hn];rfl
  have hS':(key.S.toList==(⟨#[]⟩:ByteArray).toList)=false:=by
   cases e:(key.S.toList==(⟨#[]⟩:ByteArray).toList) with
   |false=>rfl
   |true=>
    refine absurd ?_ hS;have:key.S=⟨#[]⟩:=qw.1 (eq_of_beq e);obtain ⟨a,b,s⟩:=key;simp only at this h0;subst this h0;rfl
  rw [hS',cf,bs,WY hS,Xe,cond_false];rfl
 rw [WY h0,cf,bs,cf,bs,cf,bs,WY (fun e=>h0 (by rw [e];rfl)),Xe,cond_false]
end
end
section
open Go.RowKit
set_option maxRecDepth 20000
theorem O8 (h:kV x=true):0<=x.Za/\x.Za<=9:=by
 unfold kV dL at h;by_cases h0:x.Za<0
 ·rw [WX h0,ct,bs,ct] at h;cases h
 by_cases h9:9<x.Za
 ·rw [WY h0,cf,WX h9,bs,ct] at h;cases h
 omega
structure PD (d:WU):Prop where
 r:R25 d
 v:Prim d.Value
 v8:d.Value.Za≠8
 g:d.Zq=v0
 s:d.Zr=v0
def DX (vis loose acc w:Bool):Int:=((bif vis then 2 else 0)+(bif loose then 4 else 0))+(bif acc then 8 else bif w then 1 else 0)
theorem J4: ∀vis loose acc w:Bool,(0<=DX vis loose acc w/\DX vis loose acc w<=15/\ai .i64 (DX vis loose acc w) 9≠9)/\(ai .i64 (DX vis loose acc w) 8=0↔acc=false)/\sB (DX vis loose acc w) 4=loose/\(DX vis loose acc w=7->acc=false/\loose=true):=by decide+kernel
theorem JZ (k:WP)(p:WJ)(d:WU): ∃vis loose w,(Gm k p d).Zd=DX vis loose ((sB d.Has 4||sB d.Has 8)||(sB p.Zd 8&& !(sB d.Has 1||sB d.Has 2))) w/\loose=bif sB d.Has 32 then sB d.Zd 4 else sB p.Zd 4:=by
 unfold Gm kD DX;simp only;cases (sB d.Has 4||sB d.Has 8)||(sB p.Zd 8&& !(sB d.Has 1||sB d.Has 2))
 ·refine ⟨bif sB d.Has 16 then sB d.Zd 2 else sB p.Zd 2,_,bif sB p.Zd 8 then sB d.Has 2&&sB d.Zd 1 else bif sB d.Has 2 then sB d.Zd 1 else sB p.Zd 1,?_,J⟩;cases sB p.Zd 8<;>rfl
 exact ⟨bif sB d.Has 16 then sB d.Zd 2 else sB p.Zd 2,_,false,J,J⟩
theorem PU {N:Nat}{k:WP}(hk:keyR N k){d:WU}(hd:PD d)(hv:Prim p.Value)(h8:p.Value.Za≠8)(hg:p.Zq=v0)(hs:p.Zr=v0):PV N (Gm k p d):=by
 obtain ⟨vis,loose,w,ha, -⟩:=JZ k p d;obtain ⟨m1,m2, -, -⟩:=J4 vis loose ((sB d.Has 4||sB d.Has 8)||(sB p.Zd 8&& !(sB d.Has 1||sB d.Has 2))) w;have hda:=hd.r.da
 have eg:(Gm k p d).Zq=v0:=by
  show (bif sB d.Has 4 then d.Zq else bif _ then p.Zq else v0)=v0;rw [hd.g,hg]
  cases sB d.Has 4<;>first|rfl|skip
  show (bif _ then v0 else v0)=v0;cases ((sB d.Has 4||sB d.Has 8)||(sB p.Zd 8&& !(sB d.Has 1||sB d.Has 2)))&&sB p.Zd 8<;>simp
 have es:(Gm k p d).Zr=v0:=by
  show (bif sB d.Has 8 then d.Zr else bif _ then p.Zr else v0)=v0;rw [hd.s,hs];cases sB d.Has 8<;>simp
 have ev:(Gm k p d).Value=d.Value\/(Gm k p d).Value=p.Value\/(Gm k p d).Value=v0:=by
  show (bif sB d.Has 1 then d.Value else bif _ then p.Value else v0)=_\/(bif sB d.Has 1 then d.Value else bif _ then p.Value else v0)=_\/(bif sB d.Has 1 then d.Value else bif _ then p.Value else v0)=_;cases sB d.Has 1
  ·cases (!((sB d.Has 4||sB d.Has 8)||(sB p.Zd 8&& !(false||sB d.Has 2)))&& !sB p.Zd 8)
   ·exact .inr (.inr J)
   exact .inr (.inl J)
  exact .inl J
 refine ⟨?_,?_,eg,es,by rw [ha];exact m1,⟨fun _=>⟨eg,es⟩,fun e=> ?_⟩,hk⟩
 ·rcases ev with e|e|e<;>rw [e]
  ·exact hd.v
  ·exact hv
  exact LT
 ·rcases ev with e|e|e<;>rw [e]
  ·exact hd.v8
  ·exact h8
  decide
 rw [ha] at e
 have hacc:((sB d.Has 4||sB d.Has 8)||(sB p.Zd 8&& !(sB d.Has 1||sB d.Has 2)))=true:=by
  cases e2:((sB d.Has 4||sB d.Has 8)||(sB p.Zd 8&& !(sB d.Has 1||sB d.Has 2))) with
  |true=>rfl
  |false=>rw [e2] at e m2;exact absurd (m2.2 J) e
 have h1:sB d.Has 1=false:=by
  cases e1:sB d.Has 1 with
  |false=>rfl
  |true=>
   rw [e1] at hacc hda
   cases e4:(sB d.Has 4||sB d.Has 8) with
   |true=>rw [e4] at hda;cases hda
   |false=>rw [e4] at hacc;simp at hacc
 show (bif sB d.Has 1 then d.Value else bif !((sB d.Has 4||sB d.Has 8)||(sB p.Zd 8&& !(sB d.Has 1||sB d.Has 2)))&& !sB p.Zd 8 then p.Value else v0)=v0;rw [hacc,h1];rfl
theorem MI (N:Nat){k:WP}(hk:keyR N k){d:WU}(hd:PD d)(hb:0<=p.Zd/\p.Zd<=15)(hv:Prim p.Value)(h8:p.Value.Za≠8)(hg:p.Zq=v0)(hs:p.Zr=v0)(has ext:Bool): ∃y,dq N p has ext k d=some y/\(y.2=true->PV N y.1/\y.1.Zg=k/\(has=true->sB p.Zd 4=false->sB y.1.Zd 4=false)):=by
 rw [zu N k hb hd.r];have hz:PV N (Gm k zeroP d):=PU hk hd LT (by decide) rfl rfl;have hp:=PU hk hd hv h8 hg hs
 cases has with
 |false=>
  cases ext with
  |false=>exact ⟨_,rfl,fun h=>by cases h⟩
  |true=>exact ⟨_,rfl,fun _=>⟨hz,rfl,fun h=>by cases h⟩⟩
 | true=>
  rw [nt,cf]
  cases h4:sB p.Zd 4 with
  |true=>exact ⟨_,rfl,fun _=>⟨hp,rfl,fun _ h=>by cases h⟩⟩
  | false=>
   rw [nf,ct];have hB:=zr N hd.r hb;obtain ⟨vis,loose,w,ha,hl⟩:=JZ k p d;obtain ⟨-, -,m3, -⟩:=J4 vis loose ((sB d.Has 4||sB d.Has 8)||(sB p.Zd 8&& !(sB d.Has 1||sB d.Has 2))) w;obtain ⟨-, -, -, -, -,b6, -, -⟩:=HE N hB.six
   have hbars: ∃b,ii N p d=some b/\(b=false->(sB d.Has 32&&sB d.Zd 4)=false):=by
    rw [<-IL N hb hB];unfold pj;rw [hB.says 32 I,bs,hB.da 4 I,bs,Eb,bs,P0]
    cases e:(sB d.Has 32&&sB d.Zd 4) with
    |true=>exact ⟨true,rfl,fun h=>by cases h⟩
    | false=>
     rw [cf]
     have: ∃b,ii N p d=some b:=by
      obtain ⟨s1,s2,s4,s8,a6,s32',s3,a7⟩:=HE N hB.six;unfold ii;simp only [ki,s1,s2,s4,s8,a6,s32',s3,a7,bs,Eb];cases (bif bif sB d.Has 32 then !decide (ai .i64 d.Zd 4=0) else false then true else bif sB d.Has 16 then !decide (ai .i64 (EB .i64 d.Zd p.Zd) 2=0) else false)<;>cases decide (ai .i64 p.Zd 8=0)<;>cases (sB d.Has 4||sB d.Has 8)<;>exact ⟨_,rfl⟩
     obtain ⟨b,hb'⟩:=this;rw [<-IL N hb hB] at hb';unfold pj at hb';rw [hB.says 32 I,bs,hB.da 4 I,bs,Eb,bs,P0,e,cf] at hb';exact ⟨b,hb',fun _=>J⟩
   obtain ⟨b,a8,b0⟩:=hbars;rw [a8,bs]
   cases b with
   |true=>exact ⟨_,rfl,fun h=>by cases h⟩
   |false=>
    refine ⟨_,J,fun _=>⟨hp,J,fun _ _=> ?_⟩⟩;show sB (Gm k p d).Zd 4=false;rw [ha,m3,hl,h4];have:=b0 rfl
    cases b5:sB d.Has 32 with
    |true=>rw [b5] at this;exact this
    |false=>rfl
set_option maxRecDepth 20000
structure OwnOk (p:WJ):Prop where
 b:0<=p.Zd/\p.Zd<=15
 v:Prim p.Value
 v8:p.Value.Za≠8
 g:p.Zq=v0
 s:p.Zr=v0
 n:Nrm p
theorem PV.own {N:Nat}(h:PV N p):OwnOk p:=⟨⟨h.a.1,h.a.2.1⟩,h.v,h.v8,h.g,h.s,h.n⟩
theorem On:OwnOk zeroP:=⟨⟨Xi _,by show (0:Int)<=15;omega⟩,LT,by decide,rfl,rfl,⟨fun _=>⟨rfl,rfl⟩,fun _=>rfl⟩⟩
theorem Jm {n:Int}(h0:-9007199254740992<=n)(h1:n<=9007199254740992):Prim ⟨3,n,⟨#[]⟩⟩:=by
 refine ⟨?_,?_,J⟩
 ·unfold kV dL;rw [show ((⟨3,n,⟨#[]⟩⟩:WK).S.toList==(⟨#[]⟩:ByteArray).toList)=true from beq_self_eq_true _];show (Option.getD (Option.bind (bif decide (-9007199254740992<=n) then some (decide (n<=9007199254740992)) else some false) _) false)=true;rw [WX h0,WX h1];rfl
 show in64 n;unfold in64;omega
theorem Nrm.of (h1:ai .i64 p.Zd 8=0)(h2:p.Zq=v0)(h3:p.Zr=v0):Nrm p:=⟨fun _=>⟨h2,h3⟩,fun e=>absurd h1 e⟩
theorem QJ {N:Nat}(hn:(PL.map (·.Zg)).Nodup)(hp:∀p∈PL,PV N p)(key:WP):OwnOk (mW PL key).1:=by
 rcases zh hn key with ⟨p,hm, -,e⟩|⟨-,e⟩<;>rw [e]
 ·exact (hp p hm).own
 exact On
theorem wa {k:WP}(h:sE E k=some x):x∈E/\x≠cB/\k=jI k.N/\0<=k.N/\E[k.N.toNat]? =some x:=by
 unfold sE at h;by_cases h1:k=jI k.N
 ·by_cases h2:0<=k.N
  ·rw [WX h1,WX h2,Bool.and_self,cond_true] at h
   cases e:E[k.N.toNat]? with
   |none=>rw [e] at h;cases h
   |some y=>
    rw [e] at h;by_cases h3:y=cB
    ·simp only [WX h3,cond_true] at h;cases h
    simp only [WY h3,cond_false] at h;obtain rfl:=bF h;exact ⟨Yc e,h3,h1,h2,J⟩
  rw [WY h2,Xd,cond_false] at h;cases h
 rw [WY h1,Xe,cond_false] at h;cases h
theorem KE {N:Nat}{d:WL}(hE:d.Zk.length<=2200)(hw:Wf d)(hp:∀p∈d.Zm,PV N p)(hv:∀x∈d.Zk,Prim x)(key:WP):OwnOk (nJ d key).1:=by
 unfold nJ
 cases decide (key=lenK) with
 |true=>
  show OwnOk (vS d);unfold vS;cases d.Zs
  ·exact ⟨⟨by show (0:Int)<=1;omega,by show (1:Int)<=15;omega⟩,Jm I I,by show (3:Int)≠8;decide,rfl,rfl,Nrm.of (by show ai .i64 1 8=0;decide) rfl rfl⟩
  exact ⟨⟨by show (0:Int)<=0;omega,by show (0:Int)<=15;omega⟩,Jm I I,by show (3:Int)≠8;decide,rfl,rfl,Nrm.of (by show ai .i64 0 8=0;decide) rfl rfl⟩
 | false=>
  rw [cond_false]
  cases e:sE d.Zk key with
  |none=>exact QJ hw.nd hp key
  |some x=>
   obtain ⟨h1,h2, -⟩:=wa e;have hx:=hv x h1;exact ⟨⟨by show (0:Int)<=7;omega,by show (7:Int)<=15;omega⟩,hx,fun h8=>h2 (Ho hx.may h8),J,J,Nrm.of (by show ai .i64 7 8=0;decide) J J⟩
def QR (p:WJ):WU:=bif !decide (ai .i64 p.Zd 8=0) then ⟨60,ai .i64 p.Zd 6,v0,p.Zq,p.Zr⟩ else ⟨51,ai .i64 p.Zd 7,p.Value,v0,v0⟩
theorem SZ: ∀a:_root_.Fin 16,ai .i64 (a.val:Int) 9≠9->(0<=ai .i64 (a.val:Int) 6/\ai .i64 (a.val:Int) 6<=7)/\(0<=ai .i64 (a.val:Int) 7/\ai .i64 (a.val:Int) 7<=7)/\sB (ai .i64 (a.val:Int) 6) 1=false/\
  (ai .i64 (a.val:Int) 8=0->kD (ai .i64 (a.val:Int) 7) 7 true 2+kD (ai .i64 (a.val:Int) 7) 7 true 4+kD (ai .i64 (a.val:Int) 7) 7 true 1=(a.val:Int))/\(ai .i64 (a.val:Int) 8≠0->kD (ai .i64 (a.val:Int) 6) 7 true 2+kD (ai .i64 (a.val:Int) 6) 7 true 4+8=(a.val:Int)):=by decide+kernel
theorem PV.of {N:Nat}(h:PV N p):PD (QR p)/\Gm p.Zg ⟨p.Zg,7,v0,v0,v0⟩ (QR p)=p:=by
 have hf:=SZ ⟨p.Zd.toNat,by have:=h.a.1;have:=h.a.2.1;omega⟩;simp only [Xn h.a.1] at hf;obtain ⟨f1,f2,f3,f4,f5⟩:=hf h.a.2.2;have hk:=O8 h.v.may;by_cases h8:ai .i64 p.Zd 8=0
 ·have e:QR p=⟨51,ai .i64 p.Zd 7,p.Value,v0,v0⟩:=by unfold QR;rw [WX h8];rfl
  rw [e];refine ⟨⟨⟨by show (0:Int)<=51/\(51:Int)<=63;decide,f2,by show ((sB 51 1||sB 51 2)&&(sB 51 4||sB 51 8))=false;decide,by show (_&& !sB 51 2)=false;rw [show sB 51 2=true by decide];simp,by show (_&& !sB 51 16)=false;rw [show sB 51 16=true by decide];simp,by show (_&& !sB 51 32)=false;rw [show sB 51 32=true by decide];simp,(fun h=>absurd h (by show¬sB 51 1=false;decide)),⟨hk.1,?_⟩,⟨fun _=>rfl,fun h=>absurd h (by show¬sB 51 4=true;decide)⟩,⟨fun _=>rfl,fun h=>absurd h (by show¬sB 51 8=true;decide)⟩⟩,h.v,h.v8,J,J⟩,?_⟩
  ·have h1:=h.v8;have h2:=h.v.n9;show p.Value.Za<=7;omega
  have hs:=h.n.d h8;show (⟨p.Zg,kD (ai .i64 p.Zd 7) 7 true 2+kD (ai .i64 p.Zd 7) 7 true 4+kD (ai .i64 p.Zd 7) 7 true 1,p.Value,v0,v0⟩:WJ)=p;rw [f4 h8, <-hs.1];have:=hs.1.trans hs.2.symm
  conv=>lhs;arg 5;rw [this]
 have e:QR p=⟨60,ai .i64 p.Zd 6,v0,p.Zq,p.Zr⟩:=by unfold QR;rw [WY h8];rfl
 rw [e];refine ⟨⟨⟨by show (0:Int)<=60/\(60:Int)<=63;decide,f1,by show ((sB 60 1||sB 60 2)&&(sB 60 4||sB 60 8))=false;decide,by show (sB (ai .i64 p.Zd 6) 1&&_)=false;rw [f3];rfl,by show (_&& !sB 60 16)=false;rw [show sB 60 16=true by decide];simp,by show (_&& !sB 60 32)=false;rw [show sB 60 32=true by decide];simp,(fun _=>rfl),by show (0:Int)<=0/\(0:Int)<=7;decide,⟨fun h=>absurd h (by show¬sB 60 4=false;decide),fun _=> .inl (by show p.Zq.Za=0;rw [h.g];rfl)⟩,⟨fun h=>absurd h (by show¬sB 60 8=false;decide),fun _=> .inl (by show p.Zr.Za=0;rw [h.s];rfl)⟩⟩,LT,by show (0:Int)≠8;decide,h.g,h.s⟩,?_⟩;show (⟨p.Zg,kD (ai .i64 p.Zd 6) 7 true 2+kD (ai .i64 p.Zd 6) 7 true 4+8,v0,p.Zq,p.Zr⟩:WJ)=p;rw [f5 h8, <-h.n.a h8]
theorem Fe (hn:(PL.map (·.Zg)).Nodup){r:WJ}(e:p.Zg=r.Zg):uz (uz PL p) r=uz PL r/\mW (uz PL p) r.Zg=(p,true)/\((uz PL p).map (·.Zg)).Nodup:=by
 rcases yy (PL:=PL) (k:=p.Zg) with ⟨n,u,h1,h2, -⟩|h
 ·have hlt:=(XN.1 h1).1;have h3:(PL.set n p)[n]? =some p:=XQ hlt
  have h4:((PL.set n p).map (·.Zg)).Nodup:=by
   have:(PL.set n p).map (·.Zg)=PL.map (·.Zg):=by
    rw [List.map_set];refine Bg ?_;rw [XO,h1, <-h2];rfl
   rw [this];exact hn
  rw [zg hn h1 h2,zg h4 h3 e,zg hn h1 (h2.trans e),List.set_set, <-e];exact ⟨J,rA h4 h3,h4⟩
 have h3:(PL++ [p])[PL.length]? =some p:=by rw [XH (YA _),YF];rfl
 have h4:((PL++ [p]).map (·.Zg)).Nodup:=by
  rw [X3];refine Yh.2 ⟨hn,by simp,fun a ha b hb' e'=> ?_⟩;rw [List.map_singleton,Yg] at hb';obtain ⟨u,u1,u2⟩:=Yb.1 ha;exact h u u1 (by rw [u2,e',hb'])
 rw [Em h,zg h4 h3 e,Em (p:=r) (by rw [<-e];exact h), <-e];refine ⟨?_,rA h4 h3,h4⟩;rw [List.set_append_right _ _ (YA _),YF];rfl
section
variable {N:Nat}(hN:20000<=N)(hv:v.Za=7)(hvN:v.N=i){k q:Nat}{w:WH}
include hN hv hvN
theorem TJ (h:Obj N i k q w c PL)(hk:k+8<=580)(hq:q+2048<=1000000000)(hM:c.Zb.length<=2200)(hlen:PL.length<1000)(hp:PV N p):Sat (vc N w v p) fun w'=>TW N i (k+8) (q+2048) w c (uz PL p) w':=by
 unfold vc
 have hA7:zJ 7:=by unfold zJ;decide
 refine (SR hN hv hvN h I I hM hp.k (Qt _) (by decide) (a:=7) (by decide) hA7 I).bind fun r hr=> ?_
 obtain ⟨-,c1,o1,s1,f1⟩:=hr;have en:mN (⟨p.Zg,7,v0,v0,v0⟩:WJ)=⟨p.Zg,7,v0,v0,v0⟩:=C3 (by show ai .i64 7 8=0;decide);rw [en] at o1
 have eof:zp N p=some (QR p):=by
  unfold zp yC QR;rw [bs];cases decide (ai .i64 p.Zd 8=0)<;>rfl
 rw [eof,bs];obtain ⟨g1,g2,g3⟩:=Fe h.nodup (p:=⟨p.Zg,7,v0,v0,v0⟩) (r:=p) rfl;obtain ⟨hd,hch⟩:=hp.of
 have happ:dq N (mW (uz PL ⟨p.Zg,7,v0,v0,v0⟩) p.Zg).1 (mW (uz PL ⟨p.Zg,7,v0,v0,v0⟩) p.Zg).2 (IB c1) p.Zg (QR p)=some (p,true):=by
  rw [g2];have:=zu N p.Zg (p:=⟨p.Zg,7,v0,v0,v0⟩) (by show (0:Int)<=7/\(7:Int)<=15;decide) hd.r true (IB c1);rw [this,nt,cf,show sB (⟨p.Zg,7,v0,v0,v0⟩:WJ).Zd 4=true by show sB 7 4=true;decide,nt,cf,bs,cf,hch]
 have hl:=Ff h ⟨p.Zg,7,v0,v0,v0⟩
 refine (Ha hN hv hvN o1 I I (by rw [s1.more];exact hM) hp.k happ (fun _=>⟨hp.w _,J,hp.a⟩) I).bind fun r2 hr2=>ac ?_
 obtain ⟨c2,o2,s2,f2⟩:=hr2.2.2 rfl;rw [hp.norm,g1] at o2;exact ⟨c2,o2.up I I,s1.trans s2,f1.trans f2⟩
end
end
section
open Go.RowKit
set_option maxRecDepth 20000
def CE (i:Int)(k q:Nat)(w:WH)(d':WL)(w':WH):Prop:= ∃c',Sim N i k q w' c' d'/\FrW w w'
theorem vK {r:WJ}(h:p∈uz PL r):p=r\/p∈PL:=by
 unfold uz at h;split at h
 ·rcases Ye h with h|h
  ·exact .inr h
  exact .inl h
 rcases X6.1 h with h|h
 ·exact .inr h
 exact .inl (Yg.1 h)
theorem LQ (hn:(PL.map (·.Zg)).Nodup)(p:WJ):((uz PL p).map (·.Zg)).Nodup:=(Fe hn (p:=p) (r:=p) rfl).2.2
theorem Same.ext (h:Same c c'):IB c'=IB c:=by unfold IB;rw [h.flags]
theorem Nr {d:WL}(hl:key≠lenK)(h0:key.Za≠0):nJ d key=mW d.Zm key:=by
 unfold nJ;rw [WY hl,cond_false]
 cases e:sE d.Zk key with
 |none=>rfl
 |some x=>exact absurd (by rw [(wa e).2.2.1];rfl) h0
section
variable {N:Nat}(hN:20000<=N)(hv:v.Za=7)(hvN:v.N=i){k q:Nat}(hk:k+8<=580)(hq:q+2048<=1000000000){w:WH}{d:WL}(hM:d.Zk.length<=2200)(hL:d.Zm.length<1000)(h:Sim N i k q w c d)
include hN hv hvN hk hq hM hL h
theorem AS (hR:keyR N key)(hd:PD dd): ∃z,nG N d key=some (nJ d key)/\lp N (nJ d key).1 (nJ d key).2 d.Ext key dd=some z/\pK N w v key=some (nJ d key)/\dq N (nJ d key).1 (nJ d key).2 (IB c) key dd=some z/\(z.2=true->PV N z.1/\z.1.Zg=key/\((nJ d key).2=true->sB (nJ d key).1.Zd 4=false->sB z.1.Zd 4=false)):=by
 have _:=hq
 have ho:=KE hM h.wf h.pv h.ev key;obtain ⟨z,hz,hz2⟩:=MI N hR hd ho.b ho.v ho.v8 ho.g ho.s (nJ d key).2 d.Ext;exact ⟨z,Ia hN I I h.wf key,by rw [MJ N key ho.b ho.n hd.r];exact hz,P9 hN hv hvN I hM h key,by rw [h.ex];exact hz,hz2⟩
theorem Jn (key:WP){ρ:Type}(F:Bool->Option ρ):((ln N d key).bind fun a6=>(bif decide (a6<0) then (some (decide (1024<=(d.Zm.length:Int)))) else (some false)).bind F)=F false:=by
 have _:=hv
 have _:=hvN
 have _:=hk
 have _:=hq
 have _:=hM
 have _:=h
 have e:decide (1024<=(d.Zm.length:Int))=false:=WY I;rcases yy (PL:=d.Zm) (k:=key) with ⟨n,p,h1,h2,h3⟩|hno
 ·rw [Fk hN I h1 h2 h3,bs,WY I,cf,bs]
 rw [Fj hN I hno,bs,WX I,ct,e,bs]
theorem Li (hR:keyR N key)(hl:key≠lenK)(h0:key.Za≠0)(hd:PD dd):
  Sat (jP N w v key dd) fun r=> ∃d',((nG N d key).bind fun a6=>(lp N a6.1 a6.2 d.Ext key dd).bind fun a7=>bif !a7.2 then (some (d,false,false)) else ((ng N d a7.1).bind fun a8=>some (a8,true,false)))=some (d',r.1,false)/\d'.Zk=d.Zk/\d'.Zm.length<=d.Zm.length+1/\CE N i (k+8) (q+2048) w d' r.2:=by
 obtain ⟨z,e1,e2, -,e4,hz⟩:=AS hN hv hvN hk hq hM hL h hR hd;rw [e1,bs,e2,bs];rw [Nr hl h0] at e4
 have hMc:c.Zb.length<=2200:=by rw [h.el];exact hM
 refine (Ha hN hv hvN h.ob I I hMc hR (p:=z.1) (ok:=z.2) e4 (fun e=>⟨(hz e).1.w _,(hz e).2.1,(hz e).1.a⟩) I).mono fun r hr=> ?_
 obtain ⟨r1,r2,r3⟩:=hr
 cases ez:z.2 with
 |false=>
  rw [r1,ez,nf,ct];refine ⟨d,J,J,by omega,c,?_,?_⟩
  ·rw [r2 ez];exact h.up I I
  rw [r2 ez];exact FrW.refl w
 | true=>
  obtain ⟨c',o,s,f⟩:=r3 ez;obtain ⟨pv,pk, -⟩:=hz ez;rw [r1,ez,nt,cf,LO hN I h.wf.nd,bs];rw [pv.norm] at o;refine ⟨_,J,J,Ff h.ob z.1,c',⟨o.up I I,s.kind.trans h.ar,s.more.trans h.el,s.ext.trans h.ex,by rw [s.flags];exact h.fx,⟨fun p hp h00=> ?_,fun p hp=> ?_,LQ h.wf.nd _,h.wf.hole⟩,fun p hp=> ?_,h.ev⟩,f.fr⟩
  ·rcases vK hp with rfl|hp
   ·rw [pk] at h00;exact absurd h00 h0
   exact h.wf.idx p hp h00
  ·rcases vK hp with rfl|hp
   ·rw [pk];exact hl
   exact h.wf.len p hp
  rcases vK hp with rfl|hp
  ·exact pv
  exact h.pv p hp
theorem P6 (a6:WJ×Bool)(key:WP)(hn:0<=key.N)(a7:WJ×Bool): ∀(n:Nat) (m:List WK),5001<n+m.length->m.length<=5000->key.N<=4096->jt N a6 w v c key a7 n m=jv N a6 w v c key a7 (dE m (key.N+1))
 |0,m,g0,g1,g2=>by have _:=hN;have _:=hv;have _:=hvN;have _:=hk;have _:=hq;have _:=hM;have _:=hL;have _:=h;omega
 | n+1,m,g0,g1,g2=>by
  rw [jt.eq_2];by_cases e:(m.length:Int)<=key.N
  ·rw [WX e,ct,rF (by rw [X0];omega)];have:=P6 a6 key hn a7 n (m++ [cB]) (by rw [YW,X0];omega) (by rw [YW,X0];omega) g2;refine this.trans (congrArg _ ?_);unfold dE;rw [W0,show (key.N+1).toNat - m.length=((key.N+1).toNat - (m++ [cB]).length)+1 by rw [YW,X0];omega];rfl
  rw [WY e,cf,FD I]
end
end
section
open Go.RowKit
set_option maxRecDepth 20000
theorem MC (h:∀p∈PL,p.Zg≠key):pM PL key=PL:=MB h
theorem Vz {a:Int}(h:a=7):sB a 4=true:=by rw [h];decide
section
variable {N:Nat}(hN:20000<=N)(hv:v.Za=7)(hvN:v.N=i){k q:Nat}(hk:k+8<=580)(hq:q+2048<=1000000000){w:WH}{d:WL}(hM:d.Zk.length<=2200)(hL:d.Zm.length<1000)(h:Sim N i k q w c d)
include hN hv hvN hk hq hM hL h
theorem TD (hR:keyR N key)(h0:key.Za=0)(hn:key.N<=2100){z:WJ×Bool}(pv:PV N z.1)(pk:z.1.Zg=key)(hf:(nJ d key).2=true->sB (nJ d key).1.Zd 4=false->sB z.1.Zd 4=false):
  Sat (jv N (mW d.Zm key) w v c key z (dE d.Zk (key.N+1))) fun r=>r.1=true/\r.2.1=false/\ ∃d',((nh N d (key.N+1)).bind fun a6=>bif decide (z.1.Zd=7) then ((au a6.Zk key.N).bind fun b6=>(er N (⟨a6.Ext,a6.Zs,List.set a6.Zk key.N.toNat (⟨z.1.Value.Za,z.1.Value.N,z.1.Value.S⟩:WK),a6.Zm⟩:WL) key).bind fun b0=>some (b0,true,false)) else ((iu N).bind fun a7=>(au a6.Zk key.N).bind fun b7=>(ng N (⟨a6.Ext,a6.Zs,List.set a6.Zk key.N.toNat (⟨a7.Za,a7.N,a7.S⟩:WK),a6.Zm⟩:WL) z.1).bind fun b5=>some (b5,true,false)))=some (d',true,false)/\d'.Zk.length<=max d.Zk.length 2101/\d'.Zm.length<=d.Zm.length+1/\CE N i (k+8) (q+2048) w d' r.2.2:=by
 have hkey:=Pf hR h0;have hnn:0<=key.N:=(keyR.b I hR h0).1;have hll:=C9 d.Zk (key.N+1)
 have hlt:key.N.toNat<(dE d.Zk (key.N+1)).length:=by omega
 have hMc:c.Zb.length<=2200:=by rw [h.el];exact hM
 obtain ⟨x,hx⟩: ∃x,au (dE d.Zk (key.N+1)) key.N=some x:=by
  have:=aK hlt;rw [show ((key.N.toNat:Nat):Int)=key.N by omega] at this;exact ⟨_,this⟩
 have hrc:=lH h.ob.right
 -- the cell with the elements E2
 have hput: ∀E2:List WK,E2.length=(dE d.Zk (key.N+1)).length->(∀y∈E2,Prim y)-> ∃w1,ay N w v ⟨c.Za,c.Zi,c.Ze,c.Zf,c.Zc,E2⟩=some w1/\Obj N i k q w1 ⟨c.Za,c.Zi,c.Ze,c.Zf,c.Zc,E2⟩ d.Zm/\FrO i w w1 c ⟨c.Za,c.Zi,c.Ze,c.Zf,c.Zc,E2⟩:=fun E2 hl hp=>Kt hN hv hvN h.ob I E2 I (fun y hy=>(hp y hy).w _) (fun e=>by have:=h.ar;omega) c.Ze hrc.2.1 h.ob.oc.noP
 have hE1: ∀y∈dE d.Zk (key.N+1),Prim y:=fun y hy=>by
  rcases C8 hy with hy|rfl
  ·exact h.ev y hy
  exact ub
 have hset: ∀y,Prim y-> ∀u∈(dE d.Zk (key.N+1)).set key.N.toNat y,Prim u:=fun y hy u hu=>by
  rcases Ye hu with hu|rfl
  ·exact hE1 u hu
  exact hy
 have hidx: ∀(y:WK) (p:WJ),p∈d.Zm->p.Zg≠key->p.Zg.Za=0->p.Zg=jI p.Zg.N/\0<=p.Zg.N/\((dE d.Zk (key.N+1)).set key.N.toNat y)[p.Zg.N.toNat]? =some cB:=fun y p hp hne hp0=>by
  obtain ⟨g1,g2,g3⟩:=h.wf.idx p hp hp0;refine ⟨g1,g2,?_⟩;rw [XP fun e=>hne (by rw [g1,hkey];congr 1;omega)];exact C7 g3
 have hl:key≠lenK:=fun e=>by rw [e] at h0;cases h0
 unfold jv;rw [hx,bs,Ib hN I (key.N+1) I,bs]
 dsimp only
 rw [hx,bs];by_cases h7:z.1.Zd=7
 ·obtain ⟨w1,p1,o1,f1⟩:=hput ((dE d.Zk (key.N+1)).set key.N.toNat z.1.Value) (XZ ..) (hset _ pv.v)
  have a8: ∃x2,au (List.set (dE d.Zk (key.N+1)) key.N.toNat (⟨8,0,(⟨#[]⟩:ByteArray)⟩:WK)) key.N=some x2:=by
   have:=aK (xs:=List.set (dE d.Zk (key.N+1)) key.N.toNat (⟨8,0,(⟨#[]⟩:ByteArray)⟩:WK)) (i:=key.N.toNat) (by rw [XZ];exact hlt);rw [show ((key.N.toNat:Nat):Int)=key.N by omega] at this;exact ⟨_,this⟩
  obtain ⟨x2,a8⟩:=a8;rw [WX h7,ct,ct,a8,bs,List.set_set];unfold ju;have p1':ay N w v ⟨c.Za,c.Zi,c.Ze,c.Zf,c.Zc,List.set (dE d.Zk (key.N+1)) key.N.toNat (⟨z.1.Value.Za,z.1.Value.N,z.1.Value.S⟩:WK)⟩=some w1:=p1;rw [p1',bs,WX h7,ct,tV hN (d:=⟨d.Ext,d.Zs,List.set (dE d.Zk (key.N+1)) key.N.toNat z.1.Value,d.Zm⟩) (by show d.Zm.length<=1024;omega),bs]
  -- what is dropped
  have hdrop:Sat (th N w1 v key (mW d.Zm key).2) fun w2=> ∃c2,Obj N i k (q+1024) w2 c2 (pM d.Zm key)/\Same ⟨c.Za,c.Zi,c.Ze,c.Zf,c.Zc,(dE d.Zk (key.N+1)).set key.N.toNat z.1.Value⟩ c2/\FrW w1 w2:=by
   unfold th;rcases zh h.wf.nd key with ⟨p,hp,hpk,ho⟩|⟨hno,ho⟩
   ·rw [ho,ct]
    have hA:nJ d key=(p,true):=by
     unfold nJ;rw [WY hl,cond_false]
     cases e:sE d.Zk key with
     |none=>exact ho
     |some y=>
      obtain ⟨-,g2, -, -,g5⟩:=wa e;obtain ⟨-, -,g3⟩:=h.wf.idx p hp (by rw [hpk];exact h0);rw [hpk,g5] at g3;exact absurd (YL g3) g2
    have hlo: ¬ai .i64 p.Zd 4=0:=fun e4=>by
     have a:=(h.pv p hp).a;have s6:=six a.1 (by have:=a.2.1;omega)
     have h4:sB p.Zd 4=false:=by rw [<-s6.b4,WX e4];rfl
     rw [hA] at hf;have:=hf rfl h4;rw [Vz h7] at this;cases this
    refine (C0 hN hv hvN o1 I I (by show ((dE d.Zk (key.N+1)).set _ _).length<=2200;rw [XZ];omega) key).bind fun r hr=>ac ?_
    rw [ho] at hr;rcases hr with ⟨e, -⟩|⟨-,e, -⟩|⟨-, -, -,c2,o2,s2,f2⟩
    ·cases e
    ·exact absurd e hlo
    exact ⟨c2,o2,s2,f2.fr⟩
   rw [ho,cf];exact ac ⟨_,by rw [MC hno];exact o1.up (YA _) I,Same.refl _,FrW.refl _⟩
  refine hdrop.bind fun w2 hw2=>ac ⟨J,J,_,J,?_,?_,?_⟩
  ·show ((dE d.Zk (key.N+1)).set _ _).length<=_;rw [XZ];omega
  ·show (pM d.Zm key).length<=_;exact Nat.le_succ_of_le (XX ..)
  obtain ⟨c2,o2,s2,f2⟩:=hw2;refine ⟨c2,⟨o2.up I I,s2.kind.trans h.ar,s2.more,s2.ext.trans h.ex,by rw [s2.flags];exact h.fx,⟨fun p hp hp0=> ?_,fun p hp=>h.wf.len p (qv.1 hp).1,IG h.wf.nd _,fun u hu h8=>Ho (hset _ pv.v u hu).may h8⟩,fun p hp=>h.pv p (qv.1 hp).1,hset _ pv.v⟩,f1.fr.trans f2⟩;exact hidx _ p (qv.1 hp).1 (qv.1 hp).2 hp0
 obtain ⟨w1,p1,o1,f1⟩:=hput ((dE d.Zk (key.N+1)).set key.N.toNat cB) (XZ ..) (hset _ ub);rw [WY h7,cf,cf];unfold ju;have p1':ay N w v ⟨c.Za,c.Zi,c.Ze,c.Zf,c.Zc,List.set (dE d.Zk (key.N+1)) key.N.toNat (⟨8,0,(⟨#[]⟩:ByteArray)⟩:WK)⟩=some w1:=p1;have e8:iu N=some cB:=rfl;rw [p1',bs,WY h7,cf,e8,bs,bs,LO hN (d:=⟨d.Ext,d.Zs,List.set (dE d.Zk (key.N+1)) key.N.toNat cB,d.Zm⟩) (by show d.Zm.length<=1024;omega) h.wf.nd,bs]
 refine (TJ hN hv hvN o1 hk hq (by show ((dE d.Zk (key.N+1)).set _ _).length<=2200;rw [XZ];omega) hL pv).bind fun w2 hw2=>ac ⟨J,J,_,J,?_,?_,?_⟩
 ·show ((dE d.Zk (key.N+1)).set _ _).length<=_;rw [XZ];omega
 ·exact Ff h.ob z.1
 obtain ⟨c2,o2,s2,f2⟩:=hw2;refine ⟨c2,⟨o2,s2.kind.trans h.ar,s2.more,s2.ext.trans h.ex,by rw [s2.flags];exact h.fx,⟨fun p hp hp0=> ?_,fun p hp=> ?_,LQ h.wf.nd _,fun u hu h8=>Ho (hset _ ub u hu).may h8⟩,fun p hp=> ?_,hset _ ub⟩,f1.fr.trans f2.fr⟩
 ·have hat:((dE d.Zk (key.N+1)).set key.N.toNat cB)[key.N.toNat]? =some cB:=XQ hlt;by_cases e:p.Zg=key
  ·rw [e];exact ⟨hkey,hnn,hat⟩
  rcases vK hp with rfl|hp
  ·exact absurd pk e
  exact hidx _ p hp e hp0
 ·rcases vK hp with rfl|hp
  ·rw [pk];exact hl
  exact h.wf.len p hp
 rcases vK hp with rfl|hp
 ·exact pv
 exact h.pv p hp
end
end
section
open Go.RowKit
set_option maxRecDepth 20000
section
variable {N:Nat}(hN:20000<=N)(hv:v.Za=7)(hvN:v.N=i){k q:Nat}(hk:k+8<=580)(hq:q+2048<=1000000000){w:WH}{d:WL}(hM:d.Zk.length<=2200)(hL:d.Zm.length<1000)(h:Sim N i k q w c d)
include hN hv hvN hk hq hM hL h
def U4 (N:Nat)(i:Int)(k q:Nat)(w:WH)(d d':WL)(w':WH):Prop:=d'.Zk.length<=max d.Zk.length 2101/\d'.Zm.length<=d.Zm.length+1/\CE N i (k+8) (q+2048) w d' w'
omit hN hv hvN hk hq hM hL in
theorem EF:U4 N i k q w d d w:=⟨by omega,by omega,c,h.up I I,FrW.refl w⟩
theorem N2 (hR:keyR N key)(h0:key.Za=0)(hkey:key.N<=2100\/4096<=key.N)(hd:PD dd)(hrr:d7 N dd=some true):
  Sat (nR N w v c key dd) fun r=> ∃d',gK N d key dd=some (d',r.1,r.2.1)/\U4 N i k q w d d' r.2.2:=by
 have hl:key≠lenK:=fun e=>by rw [e] at h0;cases h0
 obtain ⟨z,e1,e2,e3,e4,hz⟩:=AS hN hv hvN hk hq hM hL h hR hd
 have hMc:c.Zb.length<=2200:=by rw [h.el];exact hM
 have eL:bN N=some lenK:=rfl;have hnn:0<=key.N:=(keyR.b I hR h0).1
 have eR: ∀{ρ:Type} (F:Bool->Option ρ),((bif !true then (some true) else ((d7 N dd).bind fun y9=>some (!y9))).bind F)=F false:=fun F=>by rw [hrr];rfl
 unfold gK nR;rw [Ej N hN,show aZ N key=some true from hR,bs,eR,cf,eL,bs,WY hl,cf,e1,bs,e2,bs,e3,bs];have e4':dq N (nJ d key).1 (nJ d key).2 (!decide (ai .i64 c.Ze 1=0)) key dd=some z:=e4;rw [e4',bs]
 cases ez:z.2 with
 |false=>
  rw [nf,ct,ct];exact ac ⟨d,J,EF h⟩
 | true=>
  rw [nt,cf,cf,Jn hN hv hvN hk hq hM hL h key,WX h0,nt,cf];by_cases h4:4096<=key.N
  ·rw [WX h4,ct,ct];exact ac ⟨d,J,EF h⟩
  rw [WY h4,cf,cf,h.el,h.fx]
  have eb: ∀b:Bool,(bif decide ((d.Zk.length:Int)<=key.N) then some b else some false:Option Bool)=some (decide ((d.Zk.length:Int)<=key.N)&&b):=fun b=>by cases decide ((d.Zk.length:Int)<=key.N)<;>rfl
  rw [eb,bs,bs]
  cases ef:(decide ((d.Zk.length:Int)<=key.N)&&d.Zs) with
  |true=>
   rw [ct,ct];exact ac ⟨d,J,EF h⟩
  | false=>
   rw [cf,cf,cf,bs,cf,r64 I I];obtain ⟨pv,pk,hf⟩:=hz ez;have hoo:=OZ hN hv hvN I hMc h.ob key;rw [hoo,bs]
   have hfin:Sat (jt N (mW d.Zm key) w v c key z N d.Zk) fun r=> ∃d',((nh N d (key.N+1)).bind fun a6=>bif decide (z.1.Zd=7) then ((au a6.Zk key.N).bind fun b5=>(er N (⟨a6.Ext,a6.Zs,List.set a6.Zk key.N.toNat (⟨z.1.Value.Za,z.1.Value.N,z.1.Value.S⟩:WK),a6.Zm⟩:WL) key).bind fun a8=>some (a8,true,false)) else ((iu N).bind fun a7=>(au a6.Zk key.N).bind fun b6=>(ng N (⟨a6.Ext,a6.Zs,List.set a6.Zk key.N.toNat (⟨a7.Za,a7.N,a7.S⟩:WK),a6.Zm⟩:WL) z.1).bind fun b0=>some (b0,true,false)))=some (d',r.1,r.2.1)/\U4 N i k q w d d' r.2.2:=by
    rw [P6 hN hv hvN hk hq hM hL h (mW d.Zm key) key hnn z N d.Zk I I I]
    refine (TD hN hv hvN hk hq hM hL h hR h0 I pv pk hf).mono fun r hr=> ?_
    obtain ⟨r1,r2,d',r3,r4,r5,r6⟩:=hr;exact ⟨d',by rw [r1,r2];exact r3,r4,r5,r6⟩
   have eb2: ∀b:Bool,(bif b then some (!(mW d.Zm key).2) else some false:Option Bool)=some (b&& !(mW d.Zm key).2):=fun b=>by cases b<;>rfl
   rw [eb2,bs]
   cases ep:(!decide (z.1.Zd=7)&& !(mW d.Zm key).2) with
   |false=>rw [cf,bs,cf];exact hfin
   |true=>
    rw [ct,BL hN hv hvN I hMc h.ob,bs,WY (show¬1024<=(d.Zm.length:Int) by omega),bs,cf];exact hfin
theorem N1 (hR:keyR N key)(hl:key≠lenK)(hkey:key.Za=0->key.N<=2100\/4096<=key.N)(hd:PD dd)(hrr:d7 N dd=some true)(hdr:fG N dd=some true):
  Sat (eG N w v key dd) fun r=> ∃d',gK N d key dd=some (d',r.1,r.2.1)/\U4 N i k q w d d' r.2.2:=by
 have eL:bZ N=some lenK:=rfl;have eL':bN N=some lenK:=rfl
 have hMc:c.Zb.length<=2200:=by rw [h.el];exact hM
 unfold eG;rw [xK hv hvN I hM h,bs];show Sat (Option.bind (Option.bind (aZ N key) _) _) _;rw [show aZ N key=some true from hR,bs,bs];show Sat (Option.bind (Option.bind (fG N dd) _) _) _;rw [hdr,bs,bs,nt,cf,eL,bs,WY hl,cf];by_cases h0:key.Za=0
 ·rw [WX h0,ct]
  exact (N2 hN hv hvN hk hq hM hL h hR h0 (hkey h0) hd hrr).bind fun r hr=>ac hr
 rw [WY h0,cf]
 refine (Li hN hv hvN hk hq hM hL h hR hl h0 hd).bind fun r hr=>ac ?_
 obtain ⟨d',r1,r2,r3,r4⟩:=hr;refine ⟨d',?_,by rw [r2];omega,r3,r4⟩;obtain ⟨z,e1,e2, -⟩:=AS hN hv hvN hk hq hM hL h hR hd;rw [e1,bs,e2,bs] at r1
 have eR: ∀{ρ:Type} (F:Bool->Option ρ),((bif !true then (some true) else ((d7 N dd).bind fun y9=>some (!y9))).bind F)=F false:=fun F=>by rw [hrr];rfl
 unfold gK;rw [Ej N hN,show aZ N key=some true from hR,bs,eR,cf,eL',bs,WY hl,cf,e1,bs,e2,bs,Jn hN hv hvN hk hq hM hL h key,WY h0,nf,ct,cf];exact r1
end
end
end Go.Proofs.YtmcifcmlojonnaaGreatDoor