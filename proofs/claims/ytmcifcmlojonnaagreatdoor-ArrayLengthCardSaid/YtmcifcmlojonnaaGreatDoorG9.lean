/- Merged texts: part 9. No conditions of their own. -/
import Derived.Test.YtmcifcmlojonnaaGreatDoorG8
import Derived.Test.YtmcifcmlojonnaaGreatDoorG7
import Derived.IntWalk
import Derived.KernelRfl
namespace Go.Proofs.YtmcifcmlojonnaaGreatDoor
variable (N:Nat){i:Int}{kv:List (Int×Bool)}{l:List (WL×Int)}{f live lv:List Int}{PL:List WU}{E:List WV}{M M' k k' q':Nat}{α:Type}{g:WD}{s:WE}{c c':WI}{m:WK}{key:WL}{t:WQ}{p:WU}{old v x:WV}
section
open Go.RowKit
theorem MI (hv:v∈c.Zc++c.Zb)(hb:bK v=true):v.N∈fT c:=by
 unfold fT;rcases X7.1 hv with hv|hv
 ·exact W3 _ (I0 (f:=gr c) (fun x hx=>hx) v hv hb)
 obtain ⟨j,hj,e⟩:=XV hv
 cases hw:oD c.Za j with
 |false=>exact W3 _ (D7 (f:=gr c) (fun x hx=>hx) (by rw [XM hj,e]) hw hb)
 |true=>exact W4 _ (D4 (j:=j) (by rw [XM hj,e]) (by rw [YH,hw,hb];rfl))
theorem GQ {p:Int->Bool}{x:Int}: ∀{l:List WV},x∈opens p l-> ∃v∈l,bK v=true/\v.N=x
 | [],h=>by simp [opens] at h
 | [_],h=>by simp [opens] at h
 | k::v::l,h=>by
  rw [rd] at h;rcases X7.1 h with h|h
  ·cases hv:bK v&&p k.N with
   |false=>rw [hv] at h;cases h
   |true=>
    rw [hv] at h;rw [Y3] at hv;exact ⟨v,by simp,hv.1,(Yh.1 h).symm⟩
  obtain ⟨w,h1,h2⟩:=GQ h;exact ⟨w,by simp [h1],h2⟩
structure CollCtx (N:Nat) (m:WK) (roots:List WV) (live f:List Int):Prop where
 big:6500<N
 small:Small m roots
 tot:Wtd m roots
 w64:W64 m
 r64: ∀v∈roots,in64 v.N
 lv:Live N m roots live f
 right: ∀c∈m.Zh++m.Zj,bN c=true
 addr: ∀c∈m.Zh++m.Zj, ∀x∈fT c,aZ m x=true
 roots: ∀x∈dG roots,aZ m x=true
theorem Ty {N:Nat}(hN:6500<N){roots:List WV}(hs:Small m roots)(ht:Wtd m roots)(hw:W64 m)(hr:∀v∈roots,in64 v.N)(hl:Live N m roots live f)(h0:ox N m roots=0):CollCtx N m roots live f:=by
 obtain ⟨h1,h2,h3⟩:=Hr h0;exact ⟨hN,hs,ht,hw,hr,hl,fun c hc=>by have:=hs.cells c hc;rw [<-I6 (N:=N) I this.1 this.2];exact h1 c hc,h2,h3⟩
section
variable {N:Nat}{roots:List WV}(h:CollCtx N m roots live f)
include h
theorem CollCtx.mem (x:Int):x∈live↔x∈f:=(h.lv.mem x).symm
theorem CollCtx.cell {a:Int}(ha:a∈f):CellOk N live f (cn m a):=by
 have hm:=pf (h.lv.fhas ha);obtain ⟨b,all,ho,hlv, -⟩:=h.lv.ord
 have hall: ∀x,x∈all↔x∈f:=fun x=>by rw [<-h.mem x,hlv];exact (vl all x).symm
 obtain ⟨q1,q2⟩:=ho.closed;have hs:=h.small.cells _ hm;have hN:=h.big;refine ⟨by omega,h.right _ hm,hs.1,hs.2,fun x hx=> ?_,fun x hx=> ?_,h.mem⟩
 ·exact (hall x).1 (q1 a ((hall a).2 ha) x hx (h.addr _ hm x (W3 _ hx)))
 have e:iR N (cn m a) live=iR N (cn m a) all:=by
  unfold iR;rw [Jg (q:=fun x=>decide (x∈all)) fun x=>jz (by rw [h.mem x];exact (hall x).symm)]
 rw [e] at hx;refine (hall x).1 (q2 a ((hall a).2 ha) x hx ?_);unfold iR at hx
 cases hw:ua N (cn m a) with
 |false=>rw [hw] at hx;cases hx
 |true=>
  rw [hw] at hx;obtain ⟨v,hv,hb,rfl⟩:=GQ hx;exact h.addr _ hm _ (MI (W4 _ hv) hb)
theorem CollCtx.root {x:Int}(hx:x∈dG roots):x∈f:=by
 obtain ⟨b,all,ho,hlv, -⟩:=h.lv.ord;rw [<-h.mem x,hlv,vl];exact ho.sub (ho.roots hx (h.roots x hx))
theorem CollCtx.rootIn:oB f roots:=fun v hv hb=>h.root (tt.2 ⟨v,hv,hb,rfl⟩)
end
def iH (m:WK)(live f:List Int):WK:=⟨[],f.map fun a=>rX (tl f) f (qI N live (cn m a))⟩
theorem Jl {N:Nat}{a:Int}(ha:a∈f):aZ (iH N m live f) (tl f a)=true:=by
 unfold tl;rw [yh];exact WY (by unfold iH;simp only [YZ];exact Fw ha)
theorem Q3 {N:Nat}{a:Int}(ha:a∈f):cn (iH N m live f) (tl f a)=rX (tl f) f (qI N live (cn m a)):=by
 have e:tl f a=2*((f.idxOf a:Nat):Int)+2:=rfl;rw [e,wX _ _ (by unfold iH;simp only [YZ];exact Fw ha)];unfold iH;simp only [XU];rw [Id ha]
theorem GX (hf:f.length<=100000)(hv:in64 v.N):in64 (fX (tl f) f v).N:=by
 unfold fX
 cases hb:bK v&&decide (v.N∈f) with
 |false=>exact hv
 |true=>
  rw [Y3,YT] at hb;have:=Fw hb.2;show in64 (tl f v.N);unfold tl in64;omega
theorem R4 {N:Nat}(hv:v∈(qI N lv c).Zc++(qI N lv c).Zb):v∈c.Zc++c.Zb\/v=nW:=by
 unfold qI at hv
 cases h8:decide (c.Za=8) with
 |true=>rw [h8] at hv;exact .inl (Lm hv)
 | false=>
  rw [h8] at hv
  cases h10:decide (c.Za=10) with
  |false=>rw [h10] at hv;exact .inl hv
  |true=>
   rw [h10] at hv;have hv':v∈c.Zc++(c.Zb.take 1++fe lv (c.Zb.drop 1)):=hv;rcases X7.1 hv' with hv'|hv'
   ·exact .inl (W3 _ hv')
   rcases X7.1 hv' with hv'|hv'
   ·exact .inl (W4 _ (Ye hv'))
   rcases Ft lv hv' with hv'|hv'
   ·exact .inl (W4 _ (List.mem_of_mem_drop hv'))
   exact .inr hv'
section
variable {N:Nat}{roots:List WV}(h:CollCtx N m roots live f)
include h
theorem CollCtx.flen:f.length<=1200:=by rw [h.lv.len];exact h.lv.small
theorem CollCtx.flen6:f.length<=600:=by
 have h1:=xv (fun _=>1) h.lv.nd fun a ha=>BB (h.lv.fhas ha)
 have h2: ∀l:List Int,cK (fun _=>1) l=l.length:=fun l=>by
  induction l with
  |nil=>rfl
  |cons x l ih=>rw [cK,ih,XW];omega
 rw [h2,h2] at h1;have h3:=h.tot.cnt;unfold Gx at h1;simp only [YX,YZ,List.length_range] at h1;omega
theorem CollCtx.nextW:W64 (iH N m live f):=fun c hc v hv=>by
 have hl:=h.flen
 have hc':c∈f.map fun a=>rX (tl f) f (qI N live (cn m a)):=hc
 obtain ⟨a,ha,rfl⟩:=Yc.1 hc'
 have hv':v∈((qI N live (cn m a)).Zc++(qI N live (cn m a)).Zb).map (fX (tl f) f):=by rw [X4];exact hv
 obtain ⟨w,hw,rfl⟩:=Yc.1 hv';refine GX I ?_;rcases R4 hw with hw|rfl
 ·exact h.w64.at_ a w hw
 show in64 0;unfold in64;omega
theorem CollCtx.nextS (l:List WV)(hl:l.length<=600):Small (iH N m live f) l:=by
 refine ⟨YI _,?_,hl,fun c hc=> ?_⟩
 ·unfold iH;simp only [YZ];exact h.flen6
 have hc':c∈f.map fun a=>rX (tl f) f (qI N live (cn m a)):=hc
 obtain ⟨a,ha,rfl⟩:=Yc.1 hc';obtain ⟨-,g2,g3, -⟩:=(CellOk.new (LF f) (h.cell ha));exact ⟨g2,g3⟩
end
theorem Bu {F:Nat->WV->Bool}{x:Int}(hB:∀i v,F i v=true->bK v=true): ∀{i:Nat} {l:List WV},x∈pick F i l-> ∃v∈l,bK v=true/\v.N=x
 |_,[],h=>by cases h
 | i,v::l,h=>by
  rw [pG] at h;rcases X7.1 h with h|h
  ·cases hf:F i v with
   |false=>rw [hf] at h;cases h
   |true=>rw [hf] at h;exact ⟨v,by simp,hB i v hf,(Yh.1 h).symm⟩
  obtain ⟨w,g1,g2⟩:=Bu hB h;exact ⟨w,by simp [g1],g2⟩
theorem C9 {x:Int}(h:x∈fT c): ∃v∈c.Zc++c.Zb,bK v=true/\v.N=x:=by
 unfold fT gr pQ at h;rcases X7.1 h with h|h
 ·rcases X7.1 h with h|h
  ·obtain ⟨v,g1,g2⟩:=Bu (fun _ _ h=>h) h;exact ⟨v,W3 _ g1,g2⟩
  obtain ⟨v,g1,g2⟩:=Bu (fun i v h=>((Y3 _ _).mp h).2) h;exact ⟨v,W4 _ g1,g2⟩
 obtain ⟨v,g1,g2⟩:=Bu (fun i v h=>((Y3 _ _).mp h).2) h;exact ⟨v,W4 _ g1,g2⟩
section
variable {N:Nat}{roots:List WV}(h:CollCtx N m roots live f)
include h
theorem CollCtx.now64: ∀v∈roots.map (fX (tl f) f),in64 v.N:=fun v hv=>by
 have hl:=h.flen;obtain ⟨w,hw,rfl⟩:=Yc.1 hv;exact GX I (h.r64 w hw)
theorem CollCtx.newHas {l:List WV}(hl:oB f l)(hv:v∈l.map (fX (tl f) f))(hb:bK v=true):aZ (iH N m live f) v.N=true:=by
 have _:=h;obtain ⟨w,hw,rfl⟩:=Yc.1 hv;rw [LT] at hb;have:=hl w hw hb;rw [CN hb this];exact Jl this
theorem CollCtx.nextAddr (hc:c∈f.map fun a=>rX (tl f) f (qI N live (cn m a))):bN c=true/\ ∀x∈fT c,aZ (iH N m live f) x=true:=by
 obtain ⟨a,ha,rfl⟩:=Yc.1 hc;refine ⟨(CellOk.new (LF f) (h.cell ha)).1,fun x hx=> ?_⟩;obtain ⟨v,hv,hb,rfl⟩:=C9 hx;obtain ⟨i1,i2⟩:=(h.cell ha).inC;rcases X7.1 hv with hv|hv
 ·exact h.newHas i1 hv hb
 exact h.newHas i2 hv hb
end
end
section
open Go.RowKit
def yB (a:Int):Bool:=decide (0<a)&&decide (a.tmod 2=1)
theorem Qo (k:Nat):yB (2*(k:Int)+2)=false:=by
 unfold yB;rw [uv I,WZ (p:=(2*(k:Int)+2)%2=1) I,Xf]
def KV (m:WK)(kept:List Int):Bool:=kept.all (fun a=> !yB a&&aZ m a)&&decide (kept.Pairwise (· < ·))
theorem MF (N:Nat)(f:Int->Option Bool)(p:Int->Bool)(l:List Int)(hl:l.length<N)(a6:l.length<=6500)(hf:∀x∈l,f x=some (p x)):cI N l f=some (l.any p):=by
 have key: ∀k i:Nat,l.length<k+i->i<=l.length->Sat (dO N f l k (i:Int)) fun r=>decide (0<=r)=(l.drop i).any p:=by
  intro k
  induction k with
  |zero=>intro i h1 h2;omega
  | succ k ih=>
   intro i h1 h2;rw [dO.eq_2];by_cases hi:i<l.length
   ·have h3:=ih (i+1) I hi;rw [show (((i+1:Nat)):Int)=(i:Int)+1 by omega] at h3;rw [fN I,ct,aK hi,bs,Xv hi,List.any_cons,hf _ (Y5 _),bs,r64 I I];cases p l[i]
    ·exact h3
    exact ac (by rw [WY I];rfl)
   rw [fC I,cf,Xw I];exact ac J
 obtain ⟨r,h1,h2⟩:=key N 0 I I;have h1':dO N f l N 0=some r:=h1;unfold cI lI;rw [h1',bs,h2];rfl
def uJ (m:WK)(i:Nat):Bool:=(fT (cn m (2*(i:Int)+2))).any yB
def oa (m:WK):List Int:=((List.range m.Zj.length).filter (uJ m)).map fun i:Nat=>2*(i:Int)+2
theorem vM {x:Int}:x∈oa m↔ ∃i:Nat,i<m.Zj.length/\uJ m i=true/\x=2*(i:Int)+2:=by
 unfold oa;simp only [Yc,Yb,Yg];constructor
 ·rintro ⟨i,⟨h1,h2⟩,rfl⟩;exact ⟨i,h1,h2,J⟩
 rintro ⟨i,h1,h2,rfl⟩;exact ⟨i,⟨h1,h2⟩,J⟩
theorem NH {x:Int}(h:x∈oa m):aZ m x=true/\yB x=false:=by
 obtain ⟨i,h1, -,rfl⟩:=vM.1 h;exact ⟨by rw [yh];exact WY h1,Qo i⟩
theorem Pe (m:WK):KV m (oa m)=true:=by
 unfold KV;rw [Y3,YT,Xq];refine ⟨fun x hx=> ?_,?_⟩
 ·obtain ⟨h1,h2⟩:=NH hx;rw [h1,h2];rfl
 unfold oa;refine List.Pairwise.map _ (fun a b (h:a<b)=> ?_) ((List.pairwise_lt_range).filter _);omega
end
section
open Go.RowKit
def HP (c:WI)(g:Int):WI:=⟨c.Za,c.Zi,c.Ze,g,c.Zc,c.Zb⟩
end
section
open Go.RowKit
theorem Ep {g h:α->Nat}: ∀{l:List α},(∀x∈l,g x=h x)->cK g l=cK h l
 | [],_=>rfl
 |a::l,hh=>by rw [cK,cK,hh a (by simp),Ep fun x hx=>hh x (by simp [hx])]
end
section
open Go.RowKit
theorem zI (N:Nat)(hN:6500<N)(c:WI)(hS:c.Zc.length<=600)(hM:c.Zb.length<=2900):pY N c=some ((fT c).any yB):=by
 have h1:=t8 c;have h2:=ut c
 have hy: ∀x,nk N x=some (yB x):=fun x=>by
  unfold nk yB;cases decide (0<x)<;>cases decide (x.tmod 2=1)<;>rfl
 unfold pY fT;rw [Az N I c I I,Dd N I c I I,bs,bs,MF N _ yB (gr c) I I (fun x _=>hy x),MF N _ yB (pQ c) I I (fun x _=>hy x),bs,bs,List.any_append];cases (gr c).any yB<;>cases (pQ c).any yB<;>rfl
theorem NW {L:List (Int×Bool)}{a:Int}(h:a∉L.map (·.1)):yp L a=L:=by
 unfold yp;rcases K8 a L with ⟨i,c, -,h2⟩|⟨h1, -⟩
 ·exact absurd (Yc.2 ⟨_,Yd h2,J⟩) h
 rw [h1]
theorem Kq (N:Nat)(hN:6500<N){roots:List WV}(hs:Small m roots): ∃kv,eJ N ⟨[]⟩ m=some ⟨kv⟩/\kv.map Prod.fst=oa m:=by
 have ho:=hs.old
 have key:Sat (eJ N ⟨[]⟩ m) fun r=>r.at_.map Prod.fst=oa m:=by
  unfold eJ po;rw [bs];refine jv (fun k i (s:List (Int×Bool))=>fL N m k (i:Int) s) m.Zj.length (fun i s=>s.map Prod.fst=((List.range i).filter (uJ m)).map (fun i:Nat=>2*(i:Int)+2)) _ ?_ ?_ N 0 [] I I J
  ·rintro k i s hi h1 go;show Sat (fL N m (k+1) (i:Int) s) _;have hc:=hs.cells _ (W4 m.Zh (Y5 hi))
   have hnext:((List.range (i+1)).filter (uJ m)).map (fun i:Nat=>2*(i:Int)+2)=((List.range i).filter (uJ m)).map (fun i:Nat=>2*(i:Int)+2)++(bif uJ m i then [2*(i:Int)+2] else []):=by
    rw [List.range_succ,XB,X4];cases h:uJ m i<;>simp [h]
   have hno:(2*(i:Int)+2)∉s.map Prod.fst:=by
    rw [h1];intro hm;obtain ⟨j,hj,e⟩:=Yc.1 hm;have:=Yg.1 (Yb.1 hj).1;omega
   have e:(fT m.Zj[i]).any yB=uJ m i:=by unfold uJ;rw [wX m i hi]
   rw [fL.eq_2,fN I,ct,aK hi,bs,r64 I I,r64 I I];unfold cQ kT sH;rw [zI N hN _ hc.1 hc.2,e,fN I,ct,uv I,sX I];simp only [bs,nt,cf];cases h:uJ m i
   ·simp only [nf,ct,bs];rw [NW hno,r64 I I];exact go s (by rw [hnext,h,h1,cf,Xr])
   simp only [nt,cf,bs];rw [r64 I I];refine go (yI s (2*(i:Int)+2) true) ?_;have:=AQ s (2*(i:Int)+2) true;rw [if_neg hno] at this;rw [hnext,h,ct, <-h1];exact this
  rintro k s h1;show Sat (fL N m (k+1) _ s) _;rw [fL.eq_2,fC I,cf];exact ac h1
 obtain ⟨r,e,h⟩:=key;exact ⟨r.at_,e,h⟩
theorem BM (m:WK):(oa m).Pairwise (· < ·):=by
 have:=Pe m;unfold KV at this;rw [Y3,YT] at this;exact this.2
def wS (m:WK)(live f:List Int):List WV:=f.flatMap fun a=>um live (cn m a)
section
variable {N:Nat}{roots:List WV}(h:CollCtx N m roots live f)
include h
theorem CollCtx.nextTot:(roots.map (fX (tl f) f)++(wS m live f).map (fX (tl f) f)).length+wt (iH N m live f).Zh+wt (iH N m live f).Zj<=roots.length+wt m.Zh+wt m.Zj:=by
 have h1:=IS h.lv;have e0:(iH N m live f).Zh=[]:=rfl
 have e1:(iH N m live f).Zj=f.map fun a=>rX (tl f) f (qI N live (cn m a)):=rfl
 rw [e0,e1,YX,YZ,YZ];unfold wS;have e2:wt []=0:=rfl;omega
end
end
section
open Go.RowKit
theorem H6 {β γ:Type}(o:Option α)(f:α->Option β)(g:β->γ):(o.bind f).map g=o.bind fun x=>(f x).map g:=by cases o<;>rfl
theorem Te {β γ:Type}(b:Bool)(x y:Option β)(g:β->γ):(bif b then x else y).map g=bif b then x.map g else y.map g:=by cases b<;>rfl
def VF:(WK×WW×WW×Int) ⊕ (WK×WW×WW)->WK×WW×WW×Int
 | .inl x=>x
 | .inr x=>(x.1,x.2.1,x.2.2,0)
theorem Tf (N:Nat)(m:WK)(roots:List WV):o6 N m roots=(dr N m roots).map VF:=by
 have a6:kX=mW:=rfl;have a7:kW=mV:=rfl;unfold o6 dr;rw [a6,a7,H6]
 congr 1;funext y7
 rw [Te];cases !decide (y7=0)
 ·simp only [cond_false,H6]
  congr 1;funext a8;congr 1;funext b0;congr 1;funext b5
  unfold qT;split
  ·simp only [H6]
   congr 1;funext b6;congr 1;funext b7
   split
   ·simp only [H6];rfl
   ·rfl
   ·rfl
   rfl
  ·rfl
  ·rfl
  rfl
 rfl
def mS (l:List WI):Nat:=cK (fun c=>c.Zb.length) l
theorem Ct (n:Nat): ∀l:List α,cK (fun _=>n) l=n*l.length
 | []=>by simp [cK]
 |a::l=>by rw [cK,Ct n l,XW,Nat.mul_succ];omega
theorem Eo (g:α->Nat)(x:α): ∀(l:List α) (i:Nat),cK g (l.set i x)<=cK g l+g x
 | [],_=>by simp [cK]
 |a::l,0=>by simp only [List.set_cons_zero,cK];omega
 |a::l,i+1=>by have:=Eo g x l i;simp only [List.set_cons_succ,cK];omega
structure HInv (k:Nat) (g:WD):Prop where
 cnt:g.m_.Zh.length+g.m_.Zj.length<=k
 cells: ∀c∈g.m_.Zh++g.m_.Zj,c.Zc.length<=20/\c.Zb.length<=20
 sum:4*(g.Zt++g.Zv).length+3*(mS g.m_.Zh+mS g.m_.Zj)<=60*k
 w64:W64 g.m_
 r64: ∀v∈g.Zt++g.Zv,in64 v.N
 nd:(g.Zw.at_.map Prod.fst).Nodup
 keys: ∀x∈g.Zw.at_.map Prod.fst, ∃i:Nat,i<g.m_.Zj.length/\x=2*(i:Int)+2
section
variable (h:HInv k g)
include h
end
structure HB (g:WD):Prop where
 small:Small g.m_ (g.Zt++g.Zv)
 wtd:Wtd g.m_ (g.Zt++g.Zv)
 tot:cK (fun a=>(cn g.m_ a).Zb.length) (Gx g.m_)<=3600
 four:4*(g.Zt++g.Zv).length+3*(mS g.m_.Zh+mS g.m_.Zj)<=9000
 w64:W64 g.m_
 r64: ∀v∈g.Zt++g.Zv,in64 v.N
 nd:(g.Zw.at_.map Prod.fst).Nodup
 keys: ∀x∈g.Zw.at_.map Prod.fst, ∃i:Nat,i<g.m_.Zj.length/\x=2*(i:Int)+2
theorem St (N:Nat)(g:WD){a:Int}(ha:in64 a):jX N g a=some (aZ g.m_ a):=by
 unfold jX aM;rw [bs,nf,ct,Fy N _ _ ha];rfl
theorem yr {N:Nat}(hN:6500<N)(h1:c.Zc.length<=1000/\c.Zb.length<=2900):gG N c=some (bN c):=by
 rw [AY N I c h1.1 h1.2,Aj N I c h1.1 h1.2]
def Bq (c:WI)(a:Int):WI:=⟨c.Za,c.Zi,c.Ze,a,c.Zc,c.Zb⟩
def BA (kv:List (Int×Bool))(a:Int)(c:WI):List (Int×Bool):=bif (fT c).any yB then yI kv a true else yp kv a
theorem Ns {N:Nat}(hN:6500<N)(h1:c.Zc.length<=600/\c.Zb.length<=2900)(kv:List (Int×Bool))(i:Nat): ∃b,cQ N ⟨kv⟩ (2*(i:Int)+2) c=some (b,⟨BA kv (2*(i:Int)+2) c⟩):=by
 unfold cQ kT sH BA;rw [fN I,ct,uv I,sX I,zI N hN c h1.1 h1.2];simp only [bs,nt,cf];cases (fT c).any yB
 ·exact ⟨false,J⟩
 exact ⟨true,J⟩
theorem OZ (h:(kv.map Prod.fst).Nodup)(a:Int)(c:WI):((BA kv a c).map Prod.fst).Nodup:=by
 unfold BA;cases (fT c).any yB
 ·exact (Ho h a).2.1
 show ((yI kv a true).map (·.1)).Nodup;rw [AQ];split
 ·exact h
 rename_i hn
 exact Yi.2 ⟨h,by simp,fun x hx y hy=>by rintro rfl;exact hn (by rw [Yh.1 hy] at hx;exact hx)⟩
theorem GV (h:(kv.map Prod.fst).Nodup)(a:Int)(c:WI)(x:Int):x∈(BA kv a c).map Prod.fst↔((fT c).any yB=true/\(x∈kv.map Prod.fst\/x=a))\/((fT c).any yB=false/\x∈kv.map Prod.fst/\x≠a):=by
 unfold BA;cases (fT c).any yB
 ·simp only [Xh,false_and,false_or,true_and];exact (Ho h a).1 x
 simp only [Bool.true_eq_false,false_and,or_false,true_and];show x∈(yI kv a true).map (·.1)↔(x∈kv.map (·.1)\/x=a);rw [AQ];split
 ·rename_i hn
  exact ⟨.inl,fun hx=>hx.elim id fun e=>e▸hn⟩
 rw [X7,Yh]
def iu (g:WD)(a:Int)(c:WI):WD:=
 bif decide (a%2=1) then ⟨⟨g.m_.Zh.set (a / 2).toNat (Bq c (cn g.m_ a).Zg),g.m_.Zj⟩,g.Zt,g.Zv,g.Zw⟩
 else ⟨⟨g.m_.Zh,g.m_.Zj.set (a / 2 - 1).toNat (Bq c (cn g.m_ a).Zg)⟩,g.Zt,g.Zv,⟨BA g.Zw.at_ a c⟩⟩
def GI (g:WD)(i:Int):Bool:=decide (0<=i)&&decide (i<(g.Zt.length:Int))
theorem Nc (h:GI g i=true): ∃j:Nat,i=j/\j<g.Zt.length:=by
 unfold GI at h;rw [Y3,YT,YT] at h;exact ⟨i.toNat,by omega,by omega⟩
theorem Nb (N:Nat)(g:WD)(i:Int):di N g i=some (bif GI g i then g.Zt.getD i.toNat vZ else vZ):=by
 unfold di aM
 cases hb:GI g i with
 |true=>
  obtain ⟨j,rfl,hj⟩:=Nc hb;rw [bs,cf,bs,WZ (p:=(j:Int)<0) I,cf,bs,WZ (p:=(g.Zt.length:Int)<=(j:Int)) I,cf,aK hj,bs,ct,Xo,List.getD_eq_getElem?_getD,XM hj];rfl
 |false=>
  unfold GI at hb;rw [bs,cf,bs,cf];by_cases h1:i<0
  ·rw [fN h1,ct,bs];rfl
  rw [WZ h1,cf,bs];rw [WY (p:=(0:Int)<=i) I,Xi,YS] at hb;rw [WY (p:=(g.Zt.length:Int)<=i) I];rfl
end
section
open Go.RowKit
theorem LY (l:List Int)(cb:WV): ∀xs:List WV,4*(pT l cb xs).length+3*(fe l xs).length<=3*xs.length
 | []=>by simp [fe,pT]
 | [_]=>by simp [fe,pT]
 | [_,_]=>by simp [fe,pT]
 | [_,_,_]=>by simp [fe,pT]
 |t::h::k::s::r=>by
  have:=LY l cb r;unfold fe pT;cases decide (t.N∈l)<;>simp<;>omega
theorem PT (N:Nat)(l:List Int)(c:WI):4*(um l c).length+3*(qI N l c).Zb.length<=3*c.Zb.length:=by
 have h1:=(Eg N l c).2;by_cases h10:c.Za=10
 ·have:=LY l (c.Zb.headD nW) (c.Zb.drop 1);unfold qI um;rw [WY h10,WZ (p:=c.Za=8) I];show 4*(pT l (c.Zb.headD nW) (c.Zb.drop 1)).length+3*(c.Zb.take 1++fe l (c.Zb.drop 1)).length<=_;rw [YX,YY];rw [XX] at this;omega
 have e:um l c=[]:=by unfold um;rw [WZ h10];rfl
 rw [e] at h1⊢;simp only [XZ] at h1⊢;omega
theorem AR (n:Nat)(g:α->Nat): ∀l:List α,cK (fun x=>n*g x) l=n*cK g l
 | []=>by simp [cK]
 |a::l=>by simp only [cK];rw [AR n g l,Nat.mul_add]
theorem H7 (m:WK):cK (fun a=>(cn m a).Zb.length) (Gx m)=mS m.Zh+mS m.Zj:=by
 have h3:=xw (fun c:WI=>c.Zb.length) (cn m) (Gx m);rw [J0,AS] at h3;exact h3.symm
theorem Ud {N:Nat}(hn:f.Nodup)(hf:∀a∈f,aZ m a=true):4*(f.flatMap fun a=>um lv (cn m a)).length+3*cK (fun a=>(qI N lv (cn m a)).Zb.length) f<=3*(mS m.Zh+mS m.Zj):=by
 rw [yi]
 have h1:cK (fun a=>4*(um lv (cn m a)).length+3*(qI N lv (cn m a)).Zb.length) f<=cK (fun a=>3*(cn m a).Zb.length) f:=HJ fun a _=>PT N lv (cn m a)
 rw [AT,AR,AR,AR] at h1
 have h2:=xv (fun a=>(cn m a).Zb.length) hn fun a ha=>BB (hf a ha)
 rw [H7] at h2;omega
theorem DA (N:Nat)(a b:List WV)(ha:a.length<=100000)(hb:b.length<=100000):d7 N a b=some (a++b):=by
 unfold d7 lL mJ iO lc;rw [r64 I I,fC (a:=0+(a.length:Int)) I,cf,r64 I I,fC (a:=0+(a.length:Int)+(b.length:Int)) I,cf,r64 I I,r64 I I,cf];by_cases h:0<a.length+b.length
 ·rw [fN I,ct,cU ⟨by omega,by omega⟩,bs,rF (by simp;omega),rF (by simp;omega)];rfl
 rw [fC I,cf,bs,rF (by simp;omega),rF (by simp;omega)];rfl
theorem FV (N:Nat)(a:List WV)(ha:a.length<=100000):dz N a=some a:=by
 unfold dz;rw [rF (by simp;omega)];rfl
theorem Jw (N:Nat)(g:WD)(h:g.Zt.length<=600):kq N g=some g.Zt:=by
 unfold kq aM;rw [bs,cf,FV N _ I,bs]
section
variable (h:HB g)
include h
end
theorem Jt (h:kv.map Prod.fst=oa m):(kv.map Prod.fst).Nodup/\ ∀x∈kv.map Prod.fst, ∃i:Nat,i<m.Zj.length/\x=2*(i:Int)+2:=by
 rw [h];refine ⟨(BM m).imp fun hab e=>by omega,fun x hx=> ?_⟩;obtain ⟨i,hi, -,e⟩:=vM.1 hx;exact ⟨i,hi,e⟩
theorem QZ {N:Nat}(f:WV->WV)(r p gone:List WV){R:Type}(F:List WV->List WV->Option R)(h1:r.length+p.length<=600)(h2:gone.length<=3000):
  aL ((0:Int)<=(r.length:Int)/\0<=(r.length:Int).toNat/\(r.length:Int).toNat<=((r++p).map f).length) (aL ((0:Int)<=(r.length:Int)/\(r.length:Int).toNat<=((r++p).map f).length/\((r++p).map f).length<=((r++p).map f).length) ((dz N ((((r++p).map f).drop 0).take ((r.length:Int).toNat - 0))).bind fun a6=>(d7 N ((((r++p).map f).drop ((r.length:Int).toNat)).take (((r++p).map f).length - (r.length:Int).toNat)) gone).bind fun a7=>F a6 a7))=F (r.map f) (p.map f++gone):=by
 have e1:(((r++p).map f).drop 0).take ((r.length:Int).toNat - 0)=r.map f:=by
  rw [Xy,Nat.sub_zero,Xo,X4,List.take_left' (by simp)]
 have e2:(((r++p).map f).drop ((r.length:Int).toNat)).take (((r++p).map f).length - (r.length:Int).toNat)=p.map f:=by
  rw [Xo,X4,List.drop_left' (by simp)];exact Yr (by simp)
 have hl:((r++p).map f).length=r.length+p.length:=by simp
 rw [cU ⟨by omega,by omega,by omega⟩,cU ⟨by omega,by omega,by omega⟩,e1,e2,FV N _ (by simp;omega),bs,DA N _ _ (by simp;omega) I,bs]
section
variable {N:Nat}{roots:List WV}(h:CollCtx N m roots live f)
include h
theorem CollCtx.next4:4*(wS m live f).length+3*(mS (iH N m live f).Zh+mS (iH N m live f).Zj)<=3*(mS m.Zh+mS m.Zj):=by
 have h1:=Ud (N:=N) (lv:=live) h.lv.nd fun a ha=>h.lv.fhas ha
 have h3:mS (iH N m live f).Zj=cK (fun a=>(qI N live (cn m a)).Zb.length) f:=by
  show cK (fun c:WI=>c.Zb.length) (f.map fun a=>rX (tl f) f (qI N live (cn m a)))=_;rw [xw]
  exact Ep fun a _=>by show ((qI N live (cn m a)).Zb.map _).length=_;rw [YZ]
 have h4:mS (iH N m live f).Zh=0:=rfl;unfold wS at*;omega
theorem CollCtx.nextCnt:(iH N m live f).Zj.length<=m.Zh.length+m.Zj.length:=by
 have h1:=xv (fun _=>1) h.lv.nd fun a ha=>BB (h.lv.fhas ha)
 rw [Ct,Ct] at h1;unfold Gx at h1;unfold iH;simp only [YX,YZ,List.length_range] at h1⊢;omega
end
theorem KO {N:Nat}{R:List WV}(h0:mH N m R=some 0){y:WK×List WV×List WV×Int}(h:dr N m R=some (.inl y)):False:=by
 unfold dr at h;rw [h0,bs,WY (p:=(0:Int)=0) rfl,nt,cf] at h;obtain ⟨a6, -,h⟩:=aa h;obtain ⟨a7, -,h⟩:=aa h;obtain ⟨a8, -,h⟩:=aa h;unfold qT at h;split at h
 ·obtain ⟨b0, -,h⟩:=aa h;obtain ⟨b5, -,h⟩:=aa h;split at h
  ·obtain ⟨b6, -,h⟩:=aa h;obtain ⟨b7, -,h⟩:=aa h;cases h
  ·cases h
  ·cases h
  cases h
 ·cases h
 ·cases h
 cases h
theorem Rj {N:Nat}(hN:6500<N)(h:HB g):
  (ox N g.m_ (g.Zt++g.Zv)≠0/\dt N g=some (ox N g.m_ (g.Zt++g.Zv),g))\/
  ∃live f kv,CollCtx N g.m_ (g.Zt++g.Zv) live f/\kv.map Prod.fst=oa (iH N g.m_ live f)/\
   dt N g=some (0,⟨iH N g.m_ live f,g.Zt.map (fX (tl f) f),g.Zv.map (fX (tl f) f)++(wS g.m_ live f).map (fX (tl f) f),⟨kv⟩⟩):=by
 have hs:=h.small;have hrl:=hs.roots;have hsum:=h.four;have hcnt:=h.wtd.cnt;rw [YX] at hrl hsum;obtain ⟨live,f,hl⟩:=Q8 N hN hs h.w64 h.r64;have hp:=Iu N hN hs h.wtd h.w64 h.r64 hl;have hm:=Tf N g.m_ (g.Zt++g.Zv);rw [hp] at hm;unfold PR at hm
 have head:dt N g=((dr N g.m_ (g.Zt++g.Zv)).bind fun a6=>DY a6 (fun y11_0=>some (.inl (y11_0.1,y11_0.2.1,y11_0.2.2.1,y11_0.2.2.2))) (fun y11_1=>some (.inr (y11_1.1,y11_1.2.1,y11_1.2.2)))).bind fun a7=>(DY a7 (fun y27_0:WK×WW×WW×Int=>d5 N g y27_0.1.Zh y27_0.1.Zj y27_0.2.1 y27_0.2.2.1 y27_0.2.2.2) (fun y27_1:WK×WW×WW=>dZ N g y27_1.1.Zh y27_1.1.Zj y27_1.2.1 y27_1.2.2)).bind fun y9=>some (y9.1,y9.2):=by
  unfold dt iT nw aM;rw [bs,cf,DA N _ _ I I,bs,Option.bind_assoc]
 by_cases h0: ¬ox N g.m_ (g.Zt++g.Zv)=0
 ·rw [jo h0,cond_false] at hm;refine .inl ⟨h0,?_⟩;rw [head]
  cases hc:dr N g.m_ (g.Zt++g.Zv) with
  |none=>rw [hc] at hm;cases hm
  | some y=>
   rw [hc] at hm;have e:=congrArg (fun z:WK×WW×WW×Int=>z.2.2.2) (YM hm)
   cases y with
   |inl y=>
    obtain ⟨y1,y2,y3,y4⟩:=y;have e':ox N g.m_ (g.Zt++g.Zv)=y4:=e;rw [bs]
    dsimp only [DY]
    rw [bs]
    dsimp only
    unfold d5;rw [<-e',jo h0,nf,ct,bs]
   |inr y=>exact absurd e h0
 replace h0:ox N g.m_ (g.Zt++g.Zv)=0:=by omega
 rw [sX h0,cond_true] at hm;have c:=Ty hN hs h.wtd h.w64 h.r64 hl h0;have h4:=c.next4;have hnc:=c.nextCnt;have h0n:(iH N g.m_ live f).Zh.length=0:=rfl;obtain ⟨kv,k1,k2⟩:=Kq N hN (m:=iH N g.m_ live f) (c.nextS [] (by simp));have k1':eJ N g.Zw (⟨(iH N g.m_ live f).Zh,(iH N g.m_ live f).Zj⟩:WK)=some ⟨kv⟩:=k1;have hg:((wS g.m_ live f).map (fX (tl f) f)).length=(wS g.m_ live f).length:=YZ _;refine .inr ⟨live,f,kv,c,k2,?_⟩;rw [head]
 cases hc:dr N g.m_ (g.Zt++g.Zv) with
 |none=>rw [hc] at hm;cases hm
 | some y=>
  rw [hc] at hm;have e:=YM hm
  cases y with
  |inl y=>exact (KO (by rw [FY N hN hs h.wtd h.w64 h.r64,h0]) hc).elim
  |inr y=>
   obtain ⟨y1,y2,y3⟩:=y;simp only [VF,Prod.mk.injEq,and_true] at e;obtain ⟨rfl,rfl,rfl⟩:=e;rw [bs]
   dsimp only [DY]
   rw [bs]
   dsimp only
   unfold dZ ia;unfold JQ
   dsimp only
   rw [QZ (N:=N) (fX (tl f) f) g.Zt g.Zv _ _ I (by unfold wS at hg;rw [hg];unfold wS at h4;omega)];have k2':eJ N g.Zw (⟨[],f.map fun a=>rX (tl f) f (qI N live (cn g.m_ a))⟩:WK)=some ⟨kv⟩:=k1;rw [k2',bs,bs];rfl
end
section
open Go.RowKit
theorem Oa {a b:List WV}(h:oB f (a++b)):oB f a:=fun v hv hb=>h v (W3 _ hv) hb
theorem Qw (h:c.Za≠10):um lv c=[]:=by
 unfold um;rw [WZ h];rfl
theorem PS {N:Nat}(h8:c.Za≠8)(h10:c.Za≠10):qI N lv c=c:=by
 unfold qI;rw [WZ h8,WZ h10];rfl
theorem Uf (h:kv.map Prod.fst=oa m):Fq kv=oa m:=by
 have e:Fq kv=kG (kv.map Prod.fst):=rfl;rw [e,h]
 exact Et ((BM m).imp fun hab e=>by omega) (BM m) fun x=>Iff.rfl
structure Pl (g:WD):Prop where
 hb:HB g
 pend:g.Zv=[]
 cells: ∀c∈g.m_.Zh++g.m_.Zj,bN c=true/\(∀x∈fT c,aZ g.m_ x=true)/\c.Za≠8/\c.Za≠10
 roots: ∀x∈dG g.Zt,aZ g.m_ x=true
 set:Fq g.Zw.at_=oa g.m_
structure Mv (g g':WD) (ρ:Int->Int) (f:List Int):Prop where
 roots:g'.Zt=g.Zt.map (fX ρ f)
 pend:g'.Zv=[]
 at_: ∀a∈f,aZ g'.m_ (ρ a)=true/\ ∃age,cn g'.m_ (ρ a)=HP (rX ρ f (cn g.m_ a)) age
 rin:oB f g.Zt
 has: ∀a∈f,aZ g.m_ a=true
 cells: ∀c∈g'.m_.Zh++g'.m_.Zj,(∃a∈f, ∃age,c=HP (rX ρ f (cn g.m_ a)) age)/\bN c=true/\ ∀x∈fT c,aZ g'.m_ x=true
 cnt:g'.m_.Zh.length+g'.m_.Zj.length<=g.m_.Zh.length+g.m_.Zj.length
 sum:mS g'.m_.Zh+mS g'.m_.Zj<=mS g.m_.Zh+mS g.m_.Zj
 wts:wt g'.m_.Zh+wt g'.m_.Zj<=wt g.m_.Zh+wt g.m_.Zj
 w64:W64 g'.m_
 r64: ∀v∈g'.Zt,in64 v.N
 set:g'.Zw.at_.map Prod.fst=oa g'.m_
 inj: ∀a∈f, ∀b∈f,ρ a=ρ b->a=b
 cin: ∀a∈f,oB f (cn g.m_ a).Zc/\oB f (cn g.m_ a).Zb
theorem Pl.check {N:Nat}(hN:6500<N)(h:Pl g):ox N g.m_ (g.Zt++g.Zv)=0:=by
 unfold ox
 have e1:(g.m_.Zh++g.m_.Zj).all (se N)=true:=by
  rw [Xq];intro c hc;have:=h.hb.small.cells c hc;rw [I6 I I I];exact (h.cells c hc).1
 have e2:vX g.m_ ((g.m_.Zh++g.m_.Zj).flatMap fT++dG (g.Zt++g.Zv))=true:=by
  unfold vX;rw [Xq];intro x hx;rcases X7.1 hx with hx|hx
  ·obtain ⟨c,hc,hx⟩:=List.mem_flatMap.1 hx;exact (h.cells c hc).2.1 x hx
  rw [h.pend,Xr] at hx;exact h.roots x hx
 rw [e1,e2];rfl
theorem O6 {N:Nat}(hN:6500<N)(h:Pl g): ∃g' ρ f,dt N g=some (0,g')/\Mv g g' ρ f:=by
 rcases Rj hN h.hb with ⟨hm, -⟩|⟨live,f,kv,c,k2,e⟩
 ·exact absurd (h.check hN) hm
 have hin:oB f g.Zt:=Oa c.rootIn
 have hk: ∀a∈f,(cn g.m_ a).Za≠8/\(cn g.m_ a).Za≠10:=fun a ha=>(h.cells _ (pf (c.lv.fhas ha))).2.2
 have hg:wS g.m_ live f=[]:=by
  unfold wS;rw [List.flatMap_eq_nil_iff]
  exact fun a ha=>Qw (hk a ha).2
 have hp:g.Zv.map (fX (tl f) f)++(wS g.m_ live f).map (fX (tl f) f)=[]:=by rw [hg,h.pend];rfl
 rw [hp] at e;have h4:=c.next4;have ht:=c.nextTot;have hnc:=c.nextCnt;rw [hg,XZ] at h4;rw [hg,List.map_nil,Xr,YZ] at ht;have h0n:(iH N g.m_ live f).Zh.length=0:=rfl
 have hc: ∀a∈f,rX (tl f) f (qI N live (cn g.m_ a))=HP (rX (tl f) f (cn g.m_ a)) (cn g.m_ a).Zg:=fun a ha=>by
  rw [PS (hk a ha).1 (hk a ha).2];rfl
 refine ⟨_,tl f,f,e,⟨J,J,fun a ha=> ?_,hin,fun a ha=>c.lv.fhas ha,fun d hd=> ?_,by show (iH N g.m_ live f).Zh.length+(iH N g.m_ live f).Zj.length<=_;omega,by show mS (iH N g.m_ live f).Zh+mS (iH N g.m_ live f).Zj<=_;omega,by show wt (iH N g.m_ live f).Zh+wt (iH N g.m_ live f).Zj<=_;omega,c.nextW,fun v hv=> ?_,k2,fun _ ha _ hb=>LG ha hb,fun a ha=> ?_⟩⟩
 ·exact ⟨Jl ha,_,(Q3 ha).trans (hc a ha)⟩
 ·have hd':d∈f.map fun a=>rX (tl f) f (qI N live (cn g.m_ a)):=hd
  obtain ⟨h1,h2⟩:=c.nextAddr hd';obtain ⟨a,ha,rfl⟩:=Yc.1 hd';exact ⟨⟨a,ha,_,hc a ha⟩,h1,h2⟩
 ·exact c.now64 v (by rw [X4];exact W3 _ hv)
 have:=(c.cell ha).inC;rw [PS (hk a ha).1 (hk a ha).2] at this;exact this
theorem Mv.pl {g':WD}{ρ:Int->Int}(m:Mv g g' ρ f)(h:Pl g):Pl g':=by
 obtain ⟨n1,n2⟩:=Jt m.set;have hs:=h.hb.small;have hw:=h.hb.wtd
 have hl:g'.Zt.length=g.Zt.length:=by rw [m.roots,YZ]
 have hrl:=hs.roots;have hle:=hw.le;have hf:=h.hb.four;have ht:=h.hb.tot;have hwc:=hw.cnt;have hc:=m.cnt;have hwt:=m.wts;have hsum:=m.sum;rw [H7] at ht;rw [h.pend,Xr] at hrl hle hf
 have hsz: ∀c∈g'.m_.Zh++g'.m_.Zj,c.Zc.length<=600/\c.Zb.length<=2900:=fun c hc=>by
  obtain ⟨⟨a,ha,age,rfl⟩, -⟩:=m.cells c hc;have:=hs.cells _ (pf (m.has a ha));show ((cn g.m_ a).Zc.map _).length<=600/\((cn g.m_ a).Zb.map _).length<=2900;rw [YZ,YZ];exact this
 refine ⟨⟨⟨by omega,by omega,?_,hsz⟩,⟨?_,by omega⟩,?_,?_,m.w64,?_,n1,n2⟩,m.pend,fun c hc=> ?_,fun x hx=> ?_,Uf m.set⟩
 ·rw [m.pend,Xr];omega
 ·rw [m.pend,Xr];omega
 ·rw [H7];omega
 ·rw [m.pend,Xr];omega
 ·rw [m.pend,Xr];exact m.r64
 ·obtain ⟨⟨a,ha,age,rfl⟩,h1,h2⟩:=m.cells c hc;exact ⟨h1,h2,(h.cells _ (pf (m.has a ha))).2.2⟩
 obtain ⟨v,hv,hb,rfl⟩:=tt.1 hx;rw [m.roots] at hv;obtain ⟨w,hw,rfl⟩:=Yc.1 hv;rw [LT] at hb;rw [CN hb (m.rin w hw hb)];exact (m.at_ _ (m.rin w hw hb)).1
def SH (S:List Int)(c:WI):List WV:=bif decide (c.Za=8) then jR (fun x=>decide (x∈S)) c.Zb else c.Zb
structure IsoC (ρ:Int->Int) (S:List Int) (c d:WI):Prop where
 kind:d.Za=c.Za
 shape:d.Zi=c.Zi
 flags:d.Ze=c.Ze
 slots:d.Zc=c.Zc.map (fX ρ S)
 more:SH (S.map ρ) d=(SH S c).map (fX ρ S)
 inS:oB S c.Zc
 inM:oB S (SH S c)
structure TVal (m:WK) (R:List WV):Prop where
 right: ∀c∈m.Zh++m.Zj,bN c=true
 kind: ∀c∈m.Zh++m.Zj,c.Za=8\/c.Za=11
 addr: ∀c∈m.Zh++m.Zj, ∀x∈fT c,aZ m x=true
 size: ∀c∈m.Zh++m.Zj,c.Zc.length<=20/\c.Zb.length<=20
 roots: ∀v∈R,v=nW\/(v.Za=9/\v.S=⟨#[]⟩/\aZ m v.N=true)
structure Iso (mA mB:WK) (RA RB:List WV) (S:List Int) (ρ:Int->Int):Prop where
 ren:Ren ρ S
 inA: ∀a∈S,aZ mA a=true
 inB: ∀a∈S,aZ mB (ρ a)=true
 cell: ∀a∈S,IsoC ρ S (cn mA a) (cn mB (ρ a))
 rootIn:oB S RA
 roots:RB=RA.map (fX ρ S)
section
variable {R:List WV}(h:TVal m R)
include h
end
section
variable {mA mB:WK}{RA RB:List WV}{S:List Int}{ρ:Int->Int}(h:Iso mA mB RA RB S ρ)(vA:TVal mA RA)(vB:TVal mB RB)
include h vA vB
end
end
section
open Go.RowKit
def xA (m:WK)(a:Int)(c:WI):WK:=bif decide (a%2=1) then ⟨m.Zh.set (a / 2).toNat c,m.Zj⟩ else ⟨m.Zh,m.Zj.set (a / 2 - 1).toNat c⟩
theorem P3 {a:Int}(c:WI)(h:aZ m a=true):(∀x,aZ (xA m a c) x=aZ m x)/\(∀x,aZ m x=true->cn (xA m a c) x=if x=a then c else cn m x)/\(xA m a c).Zh.length=m.Zh.length/\(xA m a c).Zj.length=m.Zj.length/\(∀d∈(xA m a c).Zh++(xA m a c).Zj,d∈m.Zh++m.Zj\/d=c)/\mS (xA m a c).Zh+mS (xA m a c).Zj<=mS m.Zh+mS m.Zj+c.Zb.length:=by
 have hhas: ∀m':WK,m'.Zh.length=m.Zh.length->m'.Zj.length=m.Zj.length-> ∀x,aZ m' x=aZ m x:=fun m' h1 h2 x=>by
  rw [Bool.eq_iff_iff];constructor
  ·intro hx;rcases jm hx with ⟨i,hi,rfl⟩|⟨i,hi,rfl⟩
   ·rw [CW];exact WY I
   rw [yh];exact WY I
  intro hx;rcases jm hx with ⟨i,hi,rfl⟩|⟨i,hi,rfl⟩
  ·rw [CW];exact WY I
  rw [yh];exact WY I
 rcases jm h with ⟨j,hj,rfl⟩|⟨j,hj,rfl⟩
 ·have e:xA m (2*(j:Int)+1) c=⟨m.Zh.set j c,m.Zj⟩:=by
   unfold xA;rw [WY I,cond_true,show ((2*(j:Int)+1) / 2).toNat=j by omega]
  rw [e];refine ⟨hhas _ (X0 ..) J,fun x hx=> ?_,X0 ..,J,fun d hd=> ?_,?_⟩
  ·rcases jm hx with ⟨i,hi,rfl⟩|⟨i,hi,rfl⟩
   ·rw [yy ⟨m.Zh.set j c,m.Zj⟩ i (by simpa using hi),yy m i hi];simp only [List.getElem_set];by_cases hij:j=i
    ·rw [if_pos hij,if_pos I]
    rw [if_neg hij,if_neg I]
   rw [wX ⟨m.Zh.set j c,m.Zj⟩ i hi,wX m i hi,if_neg I]
  ·rcases X7.1 hd with hd|hd
   ·rcases Yf hd with hd|hd
    ·exact .inl (W3 _ hd)
    exact .inr hd
   exact .inl (W4 _ hd)
  have:=Eo (fun c:WI=>c.Zb.length) c m.Zh j;unfold mS;simp only at this⊢;omega
 have e:xA m (2*(j:Int)+2) c=⟨m.Zh,m.Zj.set j c⟩:=by
  unfold xA;rw [WZ I,cond_false,show ((2*(j:Int)+2) / 2 - 1).toNat=j by omega]
 rw [e];refine ⟨hhas _ J (X0 ..),fun x hx=> ?_,J,X0 ..,fun d hd=> ?_,?_⟩
 ·rcases jm hx with ⟨i,hi,rfl⟩|⟨i,hi,rfl⟩
  ·rw [yy ⟨m.Zh,m.Zj.set j c⟩ i hi,yy m i hi,if_neg I]
  rw [wX ⟨m.Zh,m.Zj.set j c⟩ i (by simpa using hi),wX m i hi];simp only [List.getElem_set];by_cases hij:j=i
  ·rw [if_pos hij,if_pos I]
  rw [if_neg hij,if_neg I]
 ·rcases X7.1 hd with hd|hd
  ·exact .inl (W3 _ hd)
  rcases Yf hd with hd|hd
  ·exact .inl (W4 _ hd)
  exact .inr hd
 have:=Eo (fun c:WI=>c.Zb.length) c m.Zj j;unfold mS;simp only at this⊢;omega
theorem xY (g:WD)(a:Int)(c:WI):(iu g a c).m_=xA g.m_ a (Bq c (cn g.m_ a).Zg)/\(iu g a c).Zt=g.Zt/\(iu g a c).Zv=g.Zv/\(iu g a c).Zw.at_=bif decide (a%2=1) then g.Zw.at_ else BA g.Zw.at_ a c:=by
 unfold iu xA;cases decide (a%2=1)<;>exact ⟨rfl,rfl,rfl,rfl⟩
theorem Kx (h:bN c=true){a:Int}(h0:0<=a)(h1:a<=1):bN (Bq c a)=true:=by
 unfold bN at h⊢;simp only [Y3,Bool.not_eq_true',YS] at h⊢;obtain ⟨⟨⟨⟨⟨⟨⟨p1,p2⟩,p3⟩,p4⟩,p5⟩, -⟩, -⟩,h⟩:=h;exact ⟨⟨⟨⟨⟨⟨⟨p1,p2⟩,p3⟩,p4⟩,p5⟩,by show¬a<0;omega⟩,by show¬1<a;omega⟩,h⟩
theorem Nd (h:bN c=true):0<=c.Zg/\c.Zg<=1:=by
 unfold bN at h;simp only [Y3,Bool.not_eq_true',YS] at h;omega
theorem Vf {N:Nat}(hN:6500<N)(hs:Small g.m_ (g.Zt++g.Zv)){a:Int}(hh:aZ g.m_ a=true)(h1:c.Zc.length<=600/\c.Zb.length<=2900):
  mv N g a c=some (bif !bN c then (51,g) else (0,iu g a c)):=by
 have hy:=hs.young;have ho:=hs.old;unfold mv aM;rw [bs,cf,St N g (wz hs hh),bs,yr hN I,bs,hh]
 cases bN c with
 |false=>rfl
 | true=>
  rw [nt,cf,cf];unfold il;rcases jm hh with ⟨i,hi,rfl⟩|⟨i,hi,rfl⟩
  ·have e1:(2*(i:Int)+1).tmod 2=1:=by rw [uv I];omega
   have e2:(2*(i:Int)+1).tdiv 2=i:=by rw [Xm I];omega
   have e3:(2*(i:Int)+1) / 2=i:=by omega
   have e4:(2*(i:Int)+1)%2=1:=by omega
   unfold iu;rw [e1,e2,e3,e4,WY (p:=(1:Int)=1) rfl,WZ (p:=(1:Int)=0) I,ct,ct,r64 I I,aK hi,bs,bs]
   dsimp only [DY]
   rw [aK hi,bs,pM N c I,bs,cf,yy g.m_ i hi];unfold mY;rw [List.set_set];rfl
  have e1:(2*(i:Int)+2).tmod 2=0:=by rw [uv I];omega
  have e2:(2*(i:Int)+2).tdiv 2=(i:Int)+1:=by rw [Xm I];omega
  have e3:(2*(i:Int)+2) / 2 - 1=i:=by omega
  have e4:(2*(i:Int)+2)%2=0:=by omega
  have e5:(i:Int)+1 - 1=i:=by omega
  obtain ⟨b,hb⟩:=Ns hN (c:=c) I g.Zw.at_ i;have hb':cQ N g.Zw (2*(i:Int)+2) c=some (b,⟨BA g.Zw.at_ (2*(i:Int)+2) c⟩):=hb;unfold iu;rw [hb',e1,e2,e3,e4,e5,WZ (p:=(0:Int)=1) I,WY (p:=(0:Int)=0) rfl,cf,cf,r64 I I,r64 I I,aK hi,bs,bs]
  dsimp only [DY]
  rw [aK hi,bs,pM N c I,bs,ct,bs,wX g.m_ i hi];unfold mX;rw [List.set_set];rfl
theorem Nk (hs:Fq g.Zw.at_=oa g.m_)(hnd:(g.Zw.at_.map Prod.fst).Nodup){a:Int}(ha:aZ g.m_ a=true)(c:WI)(nd:((iu g a c).Zw.at_.map Prod.fst).Nodup):Fq (iu g a c).Zw.at_=oa (iu g a c).m_:=by
 obtain ⟨f1, -, -,f4⟩:=xY g a c;obtain ⟨s1,s2,s3,s4, -, -⟩:=P3 (Bq c (cn g.m_ a).Zg) ha;have e:Fq (iu g a c).Zw.at_=kG ((iu g a c).Zw.at_.map Prod.fst):=rfl;rw [e]
 refine Et nd (BM _) fun x=> ?_
 have hkv: ∀x,x∈g.Zw.at_.map Prod.fst↔x∈oa g.m_:=fun x=>by rw [<-hs];exact (vl _ x).symm
 have hold: ∀i,i<g.m_.Zj.length->uJ (iu g a c).m_ i=if 2*(i:Int)+2=a then (fT c).any yB else uJ g.m_ i:=fun i hi=>by
  unfold uJ;rw [f1,s2 _ (by rw [yh];exact WY hi)];split<;>rfl
 rw [vM,f1,s4,f4, <-f1];rcases jm ha with ⟨j,hj,rfl⟩|⟨j,hj,rfl⟩
 ·rw [WY I,cond_true,hkv,vM];refine ⟨fun ⟨i,h1,h2,h3⟩=>⟨i,h1,by rw [hold i h1,if_neg I];exact h2,h3⟩,fun ⟨i,h1,h2,h3⟩=>⟨i,h1,by rw [hold i h1,if_neg I] at h2;exact h2,h3⟩⟩
 rw [WZ I,cond_false,GV hnd,hkv,vM];constructor
 ·rintro (⟨h1,⟨i,q1,q2,rfl⟩|rfl⟩|⟨h1,⟨i,q1,q2,rfl⟩,hne⟩)
  ·refine ⟨i,q1,?_,J⟩;rw [hold i q1];split
   ·exact h1
   exact q2
  ·exact ⟨j,hj,by rw [hold j hj,if_pos rfl];exact h1,rfl⟩
  exact ⟨i,q1,by rw [hold i q1,if_neg hne];exact q2,rfl⟩
 rintro ⟨i,q1,q2,rfl⟩;rw [hold i q1] at q2;by_cases hij:2*(i:Int)+2=2*(j:Int)+2
 ·rw [if_pos hij] at q2;exact .inl ⟨q2,.inr hij⟩
 rw [if_neg hij] at q2
 cases hb:(fT c).any yB with
 |true=>exact .inl ⟨rfl,.inl ⟨i,q1,q2,rfl⟩⟩
 |false=>exact .inr ⟨rfl,⟨i,q1,q2,rfl⟩,hij⟩
theorem P5 (c:WI):(∀x,aZ m x=true->aZ ⟨m.Zh++ [c],m.Zj⟩ x=true/\cn ⟨m.Zh++ [c],m.Zj⟩ x=cn m x)/\aZ ⟨m.Zh++ [c],m.Zj⟩ (2*(m.Zh.length:Int)+1)=true/\cn ⟨m.Zh++ [c],m.Zj⟩ (2*(m.Zh.length:Int)+1)=c:=by
 refine ⟨fun x hx=> ?_,?_,?_⟩
 ·rcases jm hx with ⟨i,hi,rfl⟩|⟨i,hi,rfl⟩
  ·have h2:i<(m.Zh++ [c]).length:=by simp;omega
   exact ⟨by rw [CW];exact WY h2,by rw [yy ⟨m.Zh++ [c],m.Zj⟩ i h2,yy m i hi];exact List.getElem_append_left hi⟩
  exact ⟨by rw [yh];exact WY hi,by rw [wX ⟨m.Zh++ [c],m.Zj⟩ i hi,wX m i hi]⟩
 ·rw [CW];exact WY (by simp)
 rw [yy ⟨m.Zh++ [c],m.Zj⟩ m.Zh.length (by simp)];simp
theorem Pd (c:WI):oa ⟨m.Zh++ [c],m.Zj⟩=oa m:=by
 unfold oa;show List.map _ ((List.range m.Zj.length).filter _)=_
 congr 1
 refine List.filter_congr fun i hi=> ?_
 unfold uJ;rw [((P5 c).1 (2*(i:Int)+2) (by rw [yh];exact WY (Yg.1 hi))).2]
theorem Tn {N:Nat}(hs:∀c∈g.m_.Zh++g.m_.Zj,c.Zc.length<=600/\c.Zb.length<=2900){a:Int}(ha:in64 a)(hh:aZ g.m_ a=true):ny N g a=some (cn g.m_ a,true):=by
 unfold ny;rw [St N g ha,bs,hh];have hc:=hs _ (pf hh);have hi64:in64 a:=ha;unfold il;rcases jm hh with ⟨i,hi,rfl⟩|⟨i,hi,rfl⟩
 ·have e1:(2*(i:Int)+1).tmod 2=1:=by rw [uv I];omega
  have e2:(2*(i:Int)+1).tdiv 2=i:=by rw [Xm I];omega
  rw [yy g.m_ i hi] at hc⊢;unfold in64 at hi64;rw [nt,cf,e1,e2,WY (p:=(1:Int)=1) rfl,ct,r64 I I,aK hi,bs,bs]
  dsimp only [DY]
  rw [aK hi,bs,pM N _ I,bs]
 have e1:(2*(i:Int)+2).tmod 2=0:=by rw [uv I];omega
 have e2:(2*(i:Int)+2).tdiv 2=(i:Int)+1:=by rw [Xm I];omega
 have e5:(i:Int)+1 - 1=i:=by omega
 rw [wX g.m_ i hi] at hc⊢;unfold in64 at hi64;rw [nt,cf,e1,e2,e5,WZ (p:=(0:Int)=1) I,cf,r64 I I,r64 I I,aK hi,bs,bs]
 dsimp only [DY]
 rw [aK hi,bs,pM N _ I,bs]
theorem N4 {N:Nat}{w:WM}(hs:∀c∈w.Zo.m_.Zh++w.Zo.m_.Zj,c.Zc.length<=600/\c.Zb.length<=2900)(hv:bK v=true)(ha:in64 v.N)(hh:aZ w.Zo.m_ v.N=true):bO N w v=some (cn w.Zo.m_ v.N):=by
 have e:iZ N v=some (bK v):=by
  unfold iZ bK;cases decide (v.Za=7)<;>rfl
 unfold bO;rw [e,bs,hv,nt,cf,Tn hs ha hh,bs];rfl
theorem LE (N:Nat){j:Nat}(h:g.Zt[j]? =some v):di N g (j:Int)=some v:=by
 obtain ⟨hj,e⟩:=XO.1 h;rw [Nb];unfold GI;rw [WY (p:=(0:Int)<=(j:Int)) I,WY (p:=(j:Int)<(g.Zt.length:Int)) I,Xo,List.getD_eq_getElem?_getD,h];rfl
def HO (w:WM)(g:WD):WM:=⟨w.ZB,w.Zu,(),g,w.Zp,w.Zy,w.ZE,w.ZF,w.ZG,w.Zz,w.ZA⟩
theorem Nz (N:Nat){w:WM}(h:w.Zo.Zt.length<=600):eK N w=some (w.Zo.Zt.length:Int):=by
 unfold eK;rw [Jw N _ h,bs]
theorem cz {ρ σ:Type}{b:Bool}{x y:Option σ}{f:σ->Option ρ}{P:σ->Prop}{R:ρ->Prop}(h1:b=true->Sat x P)(h2:b=false->Sat y P)(k:∀z,P z->Sat (f z) R):Sat ((bif b then x else y).bind f) R:=Sat.bind (dM h1 h2) k
def Tm (k:WL):Prop:=k.Za=0->0<=k.N/\k.N<=4294967294
def zC (a:Int):Prop:=0<=a/\a<=15/\ai .i64 a 9≠9
theorem Oz (N:Nat)(a:Int):Sat (px N a) fun b=>b=true->zC a:=by
 unfold px
 refine Sat.bind (P:=fun b=>b=true->0<=a/\a<=15) (aC (fun h=>ac fun h1=>⟨h,YV h1⟩) fun h=>ac fun h=>by cases h) fun b hb=> ?_
 refine cz (P:=fun c=>c=true->zC a) (fun e=>ac fun h=>⟨(hb e).1,(hb e).2,fun h1=> ?_⟩) (fun _=>ac fun h=>by cases h) fun c hc=>ac hc
 rw [WY h1] at h;cases h
theorem BR {b:ByteArray}(h0:0<=i)(h1:i<(b.size:Int)):Sat (FB b i) fun x=>0<=x/\x<=255:=by
 have h2:i.toNat<b.size:=by omega
 unfold FB;rw [if_pos h0,getElem?_pos b i.toNat h2];exact ⟨((b[i.toNat]).toNat:Int),J,by omega,by have:=(b[i.toNat]).toNat_lt;omega⟩
theorem Uc (x:Int):0<=IntKind.u8.wrap x/\IntKind.u8.wrap x<=255:=by
 have:IntKind.u8.wrap x=x%256:=by rfl
 omega
theorem Fv (N:Nat)(s:ByteArray)(hs:s.size<=10): ∀(m i:Nat) (p:Int),s.size<m+i->i<=s.size->0<=p->p+29<=29*(10:Int) ^ i->Sat (nO N s m p (i:Int)) fun _=>True
 |0,i,p,h,h1,_,_=>by omega
 | m+1,i,p,h,h1,h2,h3=>by
  rw [nO.eq_2]
  have h10:(10:Int) ^ i<=10 ^ 10:=by
   have:(10:Nat) ^ i<=10 ^ 10:=Nat.pow_le_pow_right I I
   exact_mod_cast this
  rw [show (10:Int) ^ 10=10000000000 from rfl] at h10
  refine aC (fun h7=> ?_) fun h7=> ?_
  ·refine (BR I h7).bind fun x hx=> ?_
   refine cz (P:=fun _=>True) (fun _=>ac trivial) (fun _=>(BR I h7).bind fun y _=>ac trivial) fun c _=> ?_
   refine dM (fun _=>ac trivial) fun _=> ?_
   refine aw (by constructor<;>omega) ((BR I h7).bind fun y hy=> ?_);have h8:=Uc (y - 48);rw [show IntKind.i64.wrap (IntKind.u8.wrap (y - 48))=IntKind.u8.wrap (y - 48) from IntWalk.i64_in _ ⟨by omega,by omega⟩];generalize IntKind.u8.wrap (y - 48)=d at h8;refine aw (by constructor<;>omega) (aw (by constructor<;>omega) ?_);exact Fv N s hs m (i+1) _ I I I (by rw [Int.pow_succ];omega)
  unfold sT
  exact aC (fun _=>ac trivial) fun _=>ac trivial
theorem Jv (N:Nat)(hN:5000<=N)(s:ByteArray):Sat (jc N s) fun _=>True:=by
 unfold jc;by_cases h10:s.size<=10
 ·cases e:(s.toList==(⟨#[]⟩:ByteArray).toList) with
  |true=>exact ac trivial
  | false=>
   have hs:0<s.size:=by
    rcases Yz s.size with h|h
    ·exfalso
     have:s=⟨#[]⟩:=by
      obtain ⟨d⟩:=s;have:d= #[]:=Array.eq_empty_of_size_eq_zero h;rw [this]
     rw [this] at e;rw [beq_self_eq_true] at e;cases e
    exact h
   show Sat (Option.bind (some (decide (10<(s.size:Int)))) _) _;rw [bs,WZ I];show Sat (Option.bind ((FB s 0).bind _) _) _
   refine Sat.bind (P:=fun _=>True) ((BR I I).bind fun x _=>cz (P:=fun _=>True) (fun _=>ac trivial) (fun _=>ac trivial) fun _ _=>ac trivial) fun b _=> ?_
   exact dM (fun _=>ac trivial) fun _=>Fv N s h10 N 0 0 I I I (by decide)
 have:(bif s.toList==(⟨#[]⟩:ByteArray).toList then (some true) else (some (decide (10<(s.size:Int)))))=some true:=by
  cases s.toList==(⟨#[]⟩:ByteArray).toList with
  |true=>rfl
  |false=>show some _=_;rw [WY I]
 rw [this];exact ac trivial
theorem CR (N:Nat)(hN:5000<=N)(k:WL):Sat (bc N k) fun b=>b=true->Tm k:=by
 unfold bc
 refine aC (fun h=> ?_) fun h=> ?_
 ·refine cz (P:=fun b=>b=true->0<=k.N) (fun _=>ac fun h=>YV h) (fun _=>ac fun h=>by cases h) fun b hb=> ?_
  refine cz (P:=fun c=>c=true->Tm k) (fun e=>ac fun h _=>⟨hb e,YV h⟩) (fun _=>ac fun h=>by cases h) fun c hc=>ac hc
 refine Sat.mono (R:=fun _=>True) ?_ fun _ _ _ h'=>absurd h' h
 refine aC (fun _=> ?_) fun _=> ?_
 ·refine (Jv N hN k.S).bind fun y _=> ?_
  refine cz (P:=fun _=>True) (fun _=>ac trivial) (fun _=>ac trivial) fun b _=> ?_
  exact cz (P:=fun _=>True) (fun _=>ac trivial) (fun _=>ac trivial) fun b _=>ac trivial
 refine aC (fun _=> ?_) fun _=>ac trivial
 exact cz (P:=fun _=>True) (fun _=>ac trivial) (fun _=>ac trivial) fun b _=>ac trivial
theorem Q6 (N:Nat){a:Int}(h:zC a):px N a=some true:=by
 unfold px;rw [WY h.1,ct,bs,WY h.2.1,ct,WZ h.2.2];rfl
def keyR (k:WL):Prop:=bc N k=some true
theorem keyR.b {N:Nat}(hN:5000<=N){k:WL}(h:keyR N k):Tm k:=by
 obtain ⟨b,h1,h2⟩:=CR N hN k;rw [h] at h1;cases h1;exact h2 J
def SY (x:WL×Int):Prop:=keyR N x.1/\zC x.2
def ka (s:WE):WL×Int:=(s.Zf,s.Zd)
def Has (t:WQ)(i:Int)(s:WE):Prop:=0<=i/\t.Zp[i.toNat]? =some s
theorem Has.lt (h:Has t i s):0<=i/\i<t.Zp.length:=by
 have:=(XO.1 h.2).1;exact ⟨h.1,by have:=h.1;omega⟩
theorem Has.get (h:Has t i s):aq t.Zp i=some s:=by
 unfold aq;rw [if_neg (by have:=h.1;omega)];exact h.2
theorem Has.one {s':WE}(h:Has t i s)(h':Has t i s'):s=s':=YM (h.2.symm.trans h'.2)
def Le (t t':WQ):Prop:= ∀i s,Has t i s->Has t' i s
theorem Le.refl (t:WQ):Le t t:=fun _ _ h=>h
theorem Le.trans {a b c:WQ}(h:Le a b)(h':Le b c):Le a c:=fun i s x=>h' i s (h i s x)
structure TI (N:Nat) (t:WQ):Prop where
 sh: ∀i s,Has t i s->0<=s.ZC/\s.ZC<=1024/\(0<s.ZC->SY N (ka s)/\ ∃u,Has t s.Up u/\u.ZC=s.ZC - 1)
 nx: ∀k j,lk t.ZD k=some j-> ∃a b,Has t k.ZT a/\Has t j b/\b.ZC=a.ZC+1/\b.Up=k.ZT/\b.Zf=k.ZQ/\b.Zd=k.ZU
inductive Row (t:WQ):Int->List (WL×Int)->Prop
 |nil {i:Int} {s:WE}:Has t i s->s.ZC=0->Row t i []
 |snoc {i:Int} {s:WE} {l:List (WL×Int)}:Has t i s->0<s.ZC->Row t s.Up l->Row t i (l++ [ka s])
theorem Row.mono {t':WQ}(h:Le t t')(r:Row t i l):Row t' i l:=by
 induction r with
 |nil h1 h2=>exact .nil (h _ _ h1) h2
 |snoc h1 h2 _ ih=>exact .snoc (h _ _ h1) h2 ih
theorem Row.has {N:Nat}(ti:TI N t)(r:Row t i l): ∃s,Has t i s/\s.ZC=l.length:=by
 induction r with
 |nil h1 h2=>exact ⟨_,h1,h2⟩
 |snoc h1 h2 _ ih=>
  obtain ⟨u,u1,u2⟩:=ih;obtain ⟨-, -,a3⟩:=ti.sh _ _ h1;obtain ⟨-,u',b1,b2⟩:=a3 h2;have:=u1.one b1;subst this;exact ⟨_,h1,by rw [YX,X3];omega⟩
theorem Row.le {N:Nat}(ti:TI N t)(r:Row t i l):l.length<=1024:=by
 obtain ⟨s,s1,s2⟩:=r.has ti;have:=(ti.sh _ _ s1).2.1;omega
theorem Row.ok {N:Nat}(ti:TI N t)(r:Row t i l): ∀x∈l,SY N x:=by
 induction r with
 |nil h1 h2=>simp
 |snoc h1 h2 _ ih=>
  intro x hx;rcases X7.1 hx with hx|hx
  ·exact ih x hx
  rw [Yh] at hx;subst hx;exact ((ti.sh _ _ h1).2.2 h2).1
theorem To (N:Nat)(t:WQ)(i:Int):ft N t i=some (decide (0<=i)&&decide (i<(t.Zp.length:Int))):=by
 unfold ft;cases decide (0<=i)<;>rfl
theorem Has.has (N:Nat)(h:Has t i s):ft N t i=some true:=by
 rw [To,WY h.lt.1,WY h.lt.2];rfl
theorem UI (N:Nat)(h:Has t i s):nF N t i=some (s,true):=by
 unfold nF;rw [h.has N,bs,nt,cf,h.get,bs]
theorem KS (N:Nat)(h:Has t i s):fu N t i=some s.ZC:=by
 unfold fu;rw [UI N h,bs]
theorem I5 (N:Nat)(ti:TI N t)(lf:List (WL×Int))(hL:lf.length<=1024): ∀(m:Nat) (a7:Int) (a6:List WE) (l0 rest:List (WL×Int)),l0.length<m->lf=l0++rest->a6.length=lf.length->Row t a7 l0->
  (a6.drop l0.length).map ka=rest->Sat (kP N t m a7 a6 ((l0.length:Int) - 1)) fun l=>l.map ka=lf
 |0,_,_,l0,_,h,_,_,_,_=>by omega
 | m+1,a7,a6,l0,rest,h,h1,h2,h3,h4=>by
  rw [kP.eq_2]
  cases h3 with
  |nil h5 h6=>
   rw [WZ (by rw [XZ];omega),cf];exact ac (by rw [h1, <-h4];rfl)
  | @snoc _ s l h5 h6 h7=>
   have e1:((((l++ [ka s]).length:Nat):Int) - 1)=(l.length:Int):=by rw [YX,X3];omega
   have e2:lf.length=l.length+1+rest.length:=by rw [h1,YX,YX,X3]
   rw [e1,WY I,ct,h5.get,bs]
   refine pX I I fun a8 _=> ?_
   refine pX I (by rw [X0];omega) fun b0 h8=> ?_
   rw [Xo,XR I] at h8;cases h8;refine aw (by constructor<;>omega) ?_;refine I5 N ti lf hL m _ _ l (ka s::rest) (by rw [YX,X3] at h;omega) (by rw [h1,W2];rfl) (by rw [X0];exact h2) h7 ?_;rw [Xo,List.drop_set,if_neg I,YG,Xv (show l.length<a6.length by omega)];rw [YX,X3] at h4;rw [List.set_cons_zero,X5,h4]
theorem HS (N:Nat)(hN:5000<=N)(ti:TI N t)(h:Row t i l):Sat (fq N t i) fun r=>r.map ka=l:=by
 obtain ⟨s,s1,s2⟩:=h.has ti;have:=h.le ti;unfold fq;rw [KS N s1,bs,s2];refine aw (by constructor<;>omega) (aw (by rw [List.length_replicate];constructor<;>omega) ?_);rw [List.length_replicate,Xo];refine I5 N ti l this N i _ l [] I (by simp) (by simp) h (by simp)
theorem G2 (N:Nat)(y:List WE)(hy:y.length<=1024): ∀(m i:Nat) (p:List WL),y.length<m+i->i<=y.length->p=(y.take i).map (·.Zf)->Sat (kR N y m p (i:Int)) fun l=>l=y.map (·.Zf)
 |0,i,p,h,h1,_=>by omega
 | m+1,i,p,h,h1,h2=>by
  rw [kR.eq_2]
  have hp:p.length<=i:=by rw [h2,YZ,YY];omega
  refine aC (fun h7=> ?_) fun h7=> ?_
  ·refine pX I h7 fun x hx=> ?_
   refine aw (by unfold cF;rw [X3];omega) (aw (by constructor<;>omega) ?_);refine G2 N y hy m (i+1) _ I I ?_;rw [Xo] at hx;rw [h2,List.take_add_one,hx,X4];rfl
  exact ac (by rw [h2,Yr I])
theorem Rg (N:Nat)(hN:5000<=N)(ti:TI N t)(h:Row t i l):gk N t i=some (l.map (·.1)):=by
 have:=h.le ti;refine Sat.eq ?_;unfold gk
 refine (HS N hN ti h).bind fun r hr=> ?_
 have e:r.length=l.length:=by rw [<-hr,YZ]
 exact (G2 N r I N 0 [] I I J).mono fun x hx=>by rw [hx, <-hr,List.map_map];rfl
theorem F1 (N:Nat)(y:List WE)(hy:y.length<=1024): ∀(m i:Nat) (p:List Int),y.length<m+i->i<=y.length->p=(y.take i).map (·.Zd)->Sat (kj N y m p (i:Int)) fun l=>l=y.map (·.Zd)
 |0,i,p,h,h1,_=>by omega
 | m+1,i,p,h,h1,h2=>by
  rw [kj.eq_2]
  have hp:p.length<=i:=by rw [h2,YZ,YY];omega
  refine aC (fun h7=> ?_) fun h7=> ?_
  ·refine pX I h7 fun x hx=> ?_
   refine aw (by unfold cF;rw [X3];omega) (aw (by constructor<;>omega) ?_);refine F1 N y hy m (i+1) _ I I ?_;rw [Xo] at hx;rw [h2,List.take_add_one,hx,X4];rfl
  exact ac (by rw [h2,Yr I])
theorem P1 (N:Nat)(hN:5000<=N)(ti:TI N t)(h:Row t i l):fK N t i=some (l.map (·.2)):=by
 have:=h.le ti;refine Sat.eq ?_;unfold fK
 refine (HS N hN ti h).bind fun r hr=> ?_
 have e:r.length=l.length:=by rw [<-hr,YZ]
 exact (F1 N r I N 0 [] I I J).mono fun x hx=>by rw [hx, <-hr,List.map_map];rfl
def SG (l:List (WL×Int))(k:WL)(r:Int×Int×Bool):Prop:=(r=(0,0,false)/\ ∀x∈l,x.1≠k)\/ ∃n:Nat,r.1=n/\r.2.2=true/\l[n]? =some (k,r.2.1)
theorem Ha (N:Nat)(ti:TI N t)(k:WL): ∀(m:Nat) (i:Int) (s:WE) (l:List (WL×Int)),l.length<m->Has t i s->Row t i l->Sat (ki N t k m s.Up s.Zf.Za s.Zf.N s.Zf.S s.Zd s.ZC) (SG l k)
 |0,i,s,l,h,h1,h2=>by omega
 | m+1,i,s,l,h,h1,h2=>by
  rw [ki.eq_2];have hle:=h2.le ti
  cases h2 with
  |nil h5 h6=>
   have:=h1.one h5;subst this;rw [WZ I,cf];exact ac (.inl ⟨J,by simp⟩)
  | @snoc _ s' l h5 h6 h7=>
   have:=h1.one h5;subst this;rw [YX,X3] at h hle;obtain ⟨u,u1,u2⟩:=h7.has ti;obtain ⟨a1,a2,a3⟩:=ti.sh _ _ h1;obtain ⟨b1,u',b2,b3⟩:=a3 h6;have:=u1.one b2;subst this;rw [WY h6,ct]
   refine aC (fun e=>aw (by constructor<;>omega) (ac (.inr ⟨l.length,by show s.ZC - 1=_;omega,rfl,?_⟩))) fun e=> ?_
   ·rw [XI (YB _),YG];show some (ka s)=_;rw [show k=s.Zf from e.symm];rfl
   rw [u1.get,bs]
   refine (Ha N ti k m _ u l I u1 h7).mono fun r hr=> ?_
   rcases hr with ⟨r1,r2⟩|⟨n,r1,r2,r3⟩
   ·refine .inl ⟨r1,fun x hx=> ?_⟩;rcases X7.1 hx with hx|hx
    ·exact r2 x hx
    rw [Yh] at hx;subst hx;exact e
   exact .inr ⟨n,r1,r2,by rw [XH (XO.1 r3).1];exact r3⟩
theorem Ed (N:Nat)(hN:5000<=N)(ti:TI N t)(h:Row t i l)(k:WL):Sat (dA N t i k) (SG l k):=by
 obtain ⟨s,s1,s2⟩:=h.has ti;have:=h.le ti;unfold dA;rw [s1.has N,bs,nt,cf,s1.get,bs];exact Ha N ti k N i s l I s1 h
theorem DE (N:Nat)(ti:TI N t)(n:Nat): ∀(m:Nat) (i:Int) (l:List (WL×Int)),l.length<m->Row t i l->n<=l.length->Sat (jG N (n:Int) t m i) fun r=>Row t r (l.take n)
 |0,i,l,h,h1,h2=>by omega
 | m+1,i,l,h,h1,h2=>by
  obtain ⟨s,s1,s2⟩:=h1.has ti;rw [jG.eq_2,s1.get,bs]
  refine aC (fun h7=> ?_) fun h7=>ac (by rw [Yr I];exact h1)
  rw [bs]
  cases h1 with
  |nil h5 h6=>rw [XZ] at s2;omega
  | @snoc _ s' l h5 h6 h8=>
   have:=s1.one h5;subst this;rw [YX,X3] at h s2 h2;rw [List.take_append_of_le_length I];exact DE N ti n m _ l I h8 I
theorem Hu (N:Nat)(hN:5000<=N)(ti:TI N t)(h:Row t i l)(n:Nat)(h2:n<=l.length):Sat (gN N t i (n:Int)) fun r=>Row t r (l.take n):=by
 have:=h.le ti;unfold gN;exact DE N ti n N i l I h h2
structure Grow (N:Nat) (t t':WQ) (n:Nat):Prop where
 ti:TI N t'
 le:Le t t'
 num:t'.Zp.length<=t.Zp.length+n
def J5 (t:WQ)(l:List (WL×Int))(n:Nat)(r:Int×Int×WQ):Prop:=r.2.1=0/\Grow N t r.2.2 n/\Row r.2.2 r.1 l
theorem Has.app {x:WE}{n:List (WT×Int)}(h:Has t i s):Has ⟨t.Zp++ [x],n⟩ i s:=
 ⟨h.1,by rw [XH (XO.1 h.2).1];exact h.2⟩
theorem LW (N:Nat)(t:WQ)(l:List WE)(hl:∀x∈l,SY N (ka x))(lf:List (WL×Int))(hT:lf.length<=1024)(hb:t.Zp.length+l.length<=1073741824): ∀(m i:Nat) (a6:Int) (t':WQ) (l0:List (WL×Int)),l.length<m+i->i<=l.length->TI N t'->Le t t'->t'.Zp.length=t.Zp.length+i->Row t' a6 l0->lf=l0++(l.drop i).map ka->Sat (kQ N l m a6 (i:Int) t'.Zp t'.ZD) (J5 N t lf l.length)
 |0,i,_,_,_,h,h1,_,_,_,_,_=>by omega
 | m+1,i,a6,t',l0,h,h1,ti,le,h2,h3,h4=>by
  rw [kQ.eq_2]
  refine aC (fun h7=> ?_) fun h7=>ac ⟨J,⟨ti,le,by show t'.Zp.length<=_;omega⟩,by rw [h4,List.drop_of_length_le I,List.map_nil,Xr];exact h3⟩
  obtain ⟨a,h3a,h3b⟩:=h3.has ti;rw [aK (show i<l.length by omega),bs];rw [h3a.get,bs];obtain ⟨a1,a2,a3⟩:=ti.sh _ _ h3a;have hox:=hl l[i] (Y5 _);have e4:l.drop i=l[i]::l.drop (i+1):=Xv _
  have e5:l0.length+1<=lf.length:=by rw [h4,e4,YX,X5,XW];omega
  generalize l[i]=x at*
  have e1:(t'.Zp++ [(⟨a6,x.Zf,x.Zd,a.ZC+1⟩:WE)]).length=t'.Zp.length+1:=by rw [YX,X3]
  have e2:((((t'.Zp++ [(⟨a6,x.Zf,x.Zd,a.ZC+1⟩:WE)]).length:Nat):Int) - 1)=(t'.Zp.length:Int):=by omega
  refine aw (by constructor<;>omega) (aw (by unfold cF;rw [X3];omega) (aw (by rw [e2];constructor<;>omega) (aw (by constructor<;>omega) ?_)));rw [e2]
  have hnew:Has ⟨t'.Zp++ [(⟨a6,x.Zf,x.Zd,a.ZC+1⟩:WE)],yI t'.ZD ⟨a6,x.Zf,x.Zd⟩ (t'.Zp.length:Int)⟩ (t'.Zp.length:Int) ⟨a6,x.Zf,x.Zd,a.ZC+1⟩:=
   ⟨by omega,by simp⟩
  refine LW N t l hl lf hT hb m (i+1) _ ⟨_,yI t'.ZD ⟨a6,x.Zf,x.Zd⟩ (t'.Zp.length:Int)⟩ (l0++ [ka x]) I I ⟨?_,?_⟩ (fun j s hs=>(le j s hs).app) (by show (t'.Zp++_).length=_;omega) (Row.snoc (s:=⟨a6,x.Zf,x.Zd,a.ZC+1⟩) hnew (by show 0<a.ZC+1;omega) (h3.mono fun j s hs=>hs.app)) (by rw [h4,e4,X5,W2];rfl)
  ·intro j s hs;by_cases e:j.toNat<t'.Zp.length
   ·have hs':Has t' j s:=⟨hs.1,by have:=hs.2;rwa [XH e] at this⟩;obtain ⟨b1,b2,b3⟩:=ti.sh _ _ hs';exact ⟨b1,b2,fun h=>let ⟨c1,u,c2,c3⟩:=b3 h;⟨c1,u,c2.app,c3⟩⟩
   have hlt:=hs.lt
   have e3:j=(t'.Zp.length:Int):=by
    have:(j.toNat:Int)<(t'.Zp++ [(⟨a6,x.Zf,x.Zd,a.ZC+1⟩:WE)]).length:=by have:=hlt.2;simp only at this;omega
    have:=hlt.1;omega
   subst e3;have:=hs.one hnew;subst this;exact ⟨by show 0<=a.ZC+1;omega,by show a.ZC+1<=1024;omega,fun _=>⟨hox,a,h3a.app,by show a.ZC=a.ZC+1 - 1;omega⟩⟩
  intro k j hk;change lk (yI t'.ZD ⟨a6,x.Zf,x.Zd⟩ (t'.Zp.length:Int)) k=some j at hk;rw [Pa] at hk;split at hk
  ·rename_i e
   cases hk;subst e;exact ⟨a,_,h3a.app,hnew,J,J,J,J⟩
  obtain ⟨c,d,c1,c2,c3⟩:=ti.nx k j hk;exact ⟨c,d,c1.app,c2.app,c3⟩
theorem Tj (N:Nat)(hN:5000<=N)(ti:TI N t)(at_:Int)(l:List WE)(hl:∀x∈l,SY N (ka x))(l0:List (WL×Int))(hT:l0.length+l.length<=1024)(hb:t.Zp.length+l.length<=1073741824)(h:Row t at_ l0):Sat (gj N t at_ l) (J5 N t (l0++l.map ka) l.length):=by
 unfold gj;refine aw (by constructor<;>omega) (aC (fun h7=>by omega) fun h7=> ?_);exact LW N t l hl _ (by rw [YX,YZ];exact hT) hb N 0 at_ t l0 I I ti (Le.refl t) J h J
theorem Jq (N:Nat)(hN:5000<=N)(ti:TI N t)(n:Nat): ∀(m:Nat) (at_:Int) (l:List WE) (l0:List (WL×Int)),l.length<m->l.length<=n->l0.length+l.length<=1024->t.Zp.length+n<=1073741824->(∀x∈l,SY N (ka x))->Row t at_ l0->Sat (lQ N t m at_ l) (J5 N t (l0++l.map ka) n)
 |0,_,_,_,h,_,_,_,_,_=>by omega
 | m +1,at_,l,l0,h,hn,h0,hb,hl,ha=>by
  rw [lQ.eq_2]
  have h5:Sat (gj N t at_ l) (J5 N t (l0++l.map ka) n):=(Tj N hN ti at_ l hl l0 h0 I ha).mono fun r hr=>⟨hr.1,⟨hr.2.1.ti,hr.2.1.le,by have:=hr.2.1.num;omega⟩,hr.2.2⟩
  refine aC (fun h7=> ?_) fun h7=>h5
  cases l with
  |nil=>rw [XZ] at h7;omega
  | cons x l=>
   rw [show aq (x::l) 0=some x from rfl,bs,bs]
   cases e:lk t.ZD (⟨at_,x.Zf,x.Zd⟩:WT) with
   |none=>exact h5
   | some j=>
    show Sat (aL _ _) _;refine aw ⟨by decide,by show 1<=l.length+1;omega,YB _⟩ ?_;obtain ⟨c,d,c1,c2,c3,c4,c5,c6⟩:=ti.nx _ _ e
    have e5:(((x::l).drop ((1:Int).toNat)).take ((x::l).length - (1:Int).toNat))=l:=by
     show (l.take (l.length+1 - 1))=l;exact Yr I
    rw [e5]
    have hd:0<d.ZC:=by have:=(ti.sh _ _ c1).1;omega
    have hr:Row t j (l0++ [ka x]):=by
     have:=Row.snoc c2 hd (by rw [c4];exact ha)
     rwa [show ka d=ka x by unfold ka;rw [c5,c6]] at this
    rw [XW] at h hn h0;have:=Jq N hN ti n m j l (l0++ [ka x]) I I (by rw [YX,X3];omega) hb (fun z hz=>hl z (X9 _ hz)) hr
    rwa [W2] at this
theorem KT (N:Nat)(hN:5000<=N)(ti:TI N t)(at_:Int)(l:List WE)(hl:∀x∈l,SY N (ka x))(l0:List (WL×Int))(hT:l0.length+l.length<=1024)(hb:t.Zp.length+1024<=1073741824)(ha:Row t at_ l0):Sat (kh N t at_ l) (J5 N t (l0++l.map ka) 1024):=
 Jq N hN ti 1024 N at_ l l0 I I hT hb hl ha
theorem F2 (N:Nat)(hN:5000<=N)(h:Has t i s)(k:WL)(a:Int):Sat (fJ N t i k a) fun r=>(r=0/\keyR N k/\zC a)\/(r≠0/\ ¬(keyR N k/\zC a)):=by
 unfold fJ;rw [h.has N,bs,nt,cf];obtain ⟨b,h1, -⟩:=CR N hN k;obtain ⟨c,h2,h3⟩:=Oz N a;rw [h1,bs,h2]
 cases b with
 |false=>exact ac (.inr ⟨by decide,fun h=>by have:=h.1;unfold keyR at this;rw [h1] at this;cases this⟩)
 |true=>
  cases c with
  |false=>exact ac (.inr ⟨by decide,fun h=>by have:=Q6 N h.2;rw [h2] at this;cases this⟩)
  |true=>exact ac (.inl ⟨rfl,h1,h3 rfl⟩)
theorem Q2 (N:Nat)(hN:5000<=N)(ti:TI N t)(hb:t.Zp.length+1024<=1073741824)(h:Row t i l)(k:WL)(a:Int)(hk:∀x∈l,x.1≠k)(hl:l.length<1024):Sat (js N t i k a) fun r=>(keyR N k/\zC a/\J5 N t (l++ [(k,a)]) 1024 r)\/(¬(keyR N k/\zC a)/\r.2.1≠0/\r.2.2=t):=by
 obtain ⟨s,s1,s2⟩:=h.has ti;unfold js
 refine (F2 N hN s1 k a).bind fun y hy=> ?_
 rcases hy with ⟨rfl,h1,h2⟩|⟨h1,h2⟩
 ·show Sat (Option.bind _ _) _
  refine (Ed N hN ti h k).bind fun z hz=> ?_
  rcases hz with ⟨rfl, -⟩|⟨n,z1,z2,z3⟩
  ·show Sat (Option.bind _ _) _;rw [KS N s1,bs]
   refine aC (fun _=>by omega) fun _=> ?_
   refine (KT N hN ti i [(⟨0,k,a,0⟩:WE)] (fun x hx=>by rw [Yh] at hx;subst hx;exact ⟨h1,h2⟩) l (by rw [X3];omega) hb h).bind fun r hr=>ac (.inl ⟨h1,h2,hr⟩)
  exact absurd J (hk _ (Yd z3))
 rw [WZ h1,nf,ct];exact ac (.inr ⟨h2,h1,J⟩)
theorem N3 (N:Nat)(hN:5000<=N)(ti:TI N t)(hb:t.Zp.length+1024<=1073741824)(h:Row t i l)(hd:(l.map (·.1)).Nodup)(k:WL)(a:Int)(n:Nat)(a0:Int)(hn:l[n]? =some (k,a0)):Sat (gP N t i k a) fun r=>(zC a/\J5 N t (l.set n (k,a)) 1024 r)\/(¬zC a/\r.2.1≠0/\r.2.2=t):=by
 obtain ⟨s,s1,s2⟩:=h.has ti;have hle:=h.le ti;have hlt:=(XO.1 hn).1;unfold gP
 refine (F2 N hN s1 k a).bind fun y hy=> ?_
 rcases hy with ⟨rfl,h1,h2⟩|⟨h1,h2⟩
 ·show Sat (Option.bind _ _) _
  refine (Ed N hN ti h k).bind fun z hz=> ?_
  rcases hz with ⟨rfl,z1⟩|⟨n',z1,z2,z3⟩
  ·exact absurd J (z1 _ (Yd hn))
  have:n'=n:=by
   have g1:(l.map (·.1))[n']? =some k:=by rw [XP,z3];rfl
   have g2:(l.map (·.1))[n]? =some k:=by rw [XP,hn];rfl
   exact (List.getElem?_inj (by rw [YZ];exact (XO.1 z3).1) hd).1 (g1.trans g2.symm)
  subst this;rw [z2];show Sat (Option.bind _ _) _
  refine (HS N hN ti h).bind fun r hr=> ?_
  have e:r.length=l.length:=by rw [<-hr,YZ]
  rw [z1,Xo];refine aw ⟨by omega,by omega⟩ ?_
  refine pX I (by rw [XX];omega) fun x hx=> ?_
  refine (Hu N hN ti h n' I).bind fun b hbf=> ?_
  have a6:ka x=(k,z.2.1):=by
   rw [show (0:Int).toNat=0 from rfl,XL,Nat.add_zero] at hx
   have:(r.map ka)[n']? =some (ka x):=by rw [XP,hx];rfl
   rw [hr,z3] at this;exact (YM this).symm
  have hxk:x.Zf=k:=congrArg Prod.fst a6
  have hm: ∀q∈List.set (List.drop n' r) ((0:Int).toNat) (⟨x.Up,(⟨x.Zf.Za,x.Zf.N,x.Zf.S⟩:WL),a,x.ZC⟩:WE),SY N (ka q):=fun q hq=>by
   rcases Yf hq with hq|rfl
   ·exact h.ok ti _ (by rw [<-hr];exact List.mem_map_of_mem (List.mem_of_mem_drop hq))
   exact ⟨by show keyR N x.Zf;rw [hxk];exact h1,h2⟩
  have e6:(List.set (List.drop n' r) ((0:Int).toNat) (⟨x.Up,(⟨x.Zf.Za,x.Zf.N,x.Zf.S⟩:WL),a,x.ZC⟩:WE)).map ka=(l.drop n').set 0 (k,a):=by
   rw [show (0:Int).toNat=0 from rfl,List.map_set,List.map_drop,hr];show (l.drop n').set 0 (x.Zf,a)=_;rw [hxk]
  refine (KT N hN ti b _ hm (l.take n') (by rw [X0,XX,YY];omega) hb hbf).bind fun q hq=>ac (.inl ⟨h2,?_⟩)
  rw [e6] at hq
  have e7:l.take n'++(l.drop n').set 0 (k,a)=l.set n' (k,a):=by
   rw [Xv hlt,List.set_cons_zero,List.set_eq_take_append_cons_drop,if_pos hlt]
  rw [e7] at hq;exact hq
 rw [WZ h1,nf,ct];exact ac (.inr ⟨fun h3=>h2 ⟨(h.ok ti _ (Yd hn)).1,h3⟩,h1,J⟩)
theorem Ka (N:Nat)(hN:5000<=N)(ti:TI N t)(hb:t.Zp.length+1024<=1073741824)(h:Row t i l)(hd:(l.map (·.1)).Nodup)(k:WL)(n:Nat)(a0:Int)(hn:l[n]? =some (k,a0)):Sat (d8 N t i k) (J5 N t (l.eraseIdx n) 1024):=by
 obtain ⟨s,s1,s2⟩:=h.has ti;have hle:=h.le ti;have hlt:=(XO.1 hn).1;unfold d8
 refine (F2 N hN s1 k 0).bind fun y hy=> ?_
 rcases hy with ⟨rfl,h1,h2⟩|⟨h1,h2⟩
 ·show Sat (Option.bind _ _) _
  refine (Ed N hN ti h k).bind fun z hz=> ?_
  rcases hz with ⟨rfl,z1⟩|⟨n',z1,z2,z3⟩
  ·exact absurd J (z1 _ (Yd hn))
  have:n'=n:=by
   have g1:(l.map (·.1))[n']? =some k:=by rw [XP,z3];rfl
   have g2:(l.map (·.1))[n]? =some k:=by rw [XP,hn];rfl
   exact (List.getElem?_inj (by rw [YZ];exact (XO.1 z3).1) hd).1 (g1.trans g2.symm)
  subst this;rw [z2,z1];show Sat (Option.bind _ _) _
  refine (Hu N hN ti h n' I).bind fun b hbf=> ?_
  refine (HS N hN ti h).bind fun r hr=> ?_
  have e:r.length=l.length:=by rw [<-hr,YZ]
  have e8:((n':Int)+1).toNat=n'+1:=by omega
  refine aw (by constructor<;>omega) (aw ⟨by omega,by omega,YB _⟩ ?_);rw [e8];have e6:((r.drop (n'+1)).take (r.length - (n'+1)))=r.drop (n'+1):=Yr (by rw [XX];omega);rw [e6]
  refine (KT N hN ti b _ (fun q hq=>h.ok ti _ (by rw [<-hr];exact List.mem_map_of_mem (List.mem_of_mem_drop hq))) (l.take n') (by rw [XX,YY];omega) hb hbf).bind fun q hq=>ac ?_
  rw [List.map_drop,hr, <-List.eraseIdx_eq_take_drop_succ] at hq;exact hq
 exact absurd ⟨(h.ok ti _ (Yd hn)).1,by decide,by decide,by decide⟩ h2
theorem pw {a b:Int}(h0:0<=a)(h1:a<=b)(h2:b<=100000):IntKind.i64.wrap ((IntKind.u64.wrap (a+b)).fdiv (2 ^ 1))=(a+b) / 2:=by
 rw [IntWalk.u64_in _ ⟨by omega,by omega⟩,Int.fdiv_eq_ediv_of_nonneg _ I,show (2:Int) ^ 1=2 from rfl,IntWalk.i64_in _ ⟨by omega,by omega⟩]
section
variable (N:Nat)(hN:20000<=N)(n:Nat)(hn:n<=6000)
include hN hn
section
variable (a q b:Int)(h0:0<=a)(h1:a<q)(h2:q<b)(h3:b<=n)
include h0 h1 h2 h3
end
end
end
section
open Go.RowKit
def Lv (c:WI):Nat:=1+c.Zc.length
def ws (l:List WI):Nat:=cK Lv l
theorem Gz (l:List WI):wt l=ws l+mS l:=by
 rw [HC];unfold ws mS;rw [<-AT];rfl
theorem tz (g:α->Nat): ∀{l:List α} {x:α},x∈l->g x<=cK g l
 |a::l,x,h=>by
  rw [cK];rcases X8.1 h with rfl|h
  ·omega
  have:=tz g h;omega
theorem J9: ∀l:List WI,l.length<=ws l
 | []=>YI _
 |c::l=>by
  have:=J9 l;show l.length+1<=Lv c+ws l;unfold Lv;omega
theorem Cu (g:α->Nat)(x:α): ∀(l:List α) (i:Nat) (h:i<l.length),cK g (l.set i x)+g l[i]=cK g l+g x
 |a::l,0,_=>by simp only [List.set_cons_zero,cK,List.getElem_cons_zero];omega
 |a::l,i+1,h=>by
  have:=Cu g x l i (by simpa using h);simp only [List.set_cons_succ,cK,List.getElem_cons_succ];omega
theorem I1 (g:WI->Nat){a:Int}(ha:aZ m a=true)(c:WI):cK g (xA m a c).Zh+cK g (xA m a c).Zj+g (cn m a)=cK g m.Zh+cK g m.Zj+g c:=by
 unfold xA;rcases jm ha with ⟨i,hi,rfl⟩|⟨i,hi,rfl⟩
 ·rw [WY I,cond_true,show (2*(i:Int)+1) / 2=i by omega,yy m i hi];have:=Cu g c m.Zh i hi;show cK g (m.Zh.set i c)+cK g m.Zj+_=_;omega
 rw [WZ I,cond_false,show (2*(i:Int)+2) / 2 - 1=i by omega,wX m i hi];have:=Cu g c m.Zj i hi;show cK g m.Zh+cK g (m.Zj.set i c)+_=_;omega
structure Hb (k M:Nat) (g:WD):Prop where
 hw:ws g.m_.Zh+ws g.m_.Zj<=k
 hm:mS g.m_.Zh+mS g.m_.Zj<=M
 hr:g.Zt.length<=30
theorem Hb.up (h:Hb k M g)(hk:k<=k')(hM:M<=M'):Hb k' M' g:=⟨YC h.hw hk,YC h.hm hM,h.hr⟩
theorem Hb.cell (h:Hb k M g)(hc:c∈g.m_.Zh++g.m_.Zj):1+c.Zc.length<=k/\c.Zb.length<=M:=by
 have h1:=h.hw;have h2:=h.hm;unfold ws at h1;unfold mS at h2;rcases X7.1 hc with hc|hc
 ·have a:=tz Lv hc;have b:=tz (fun c:WI=>c.Zb.length) hc;unfold Lv at a h1;exact ⟨by omega,by omega⟩
 have a:=tz Lv hc;have b:=tz (fun c:WI=>c.Zb.length) hc;unfold Lv at a h1;exact ⟨by omega,by omega⟩
theorem Rk (hk:k<=580)(hM:M<=2200)(s:Hb k M g)(hp:g.Zv=[])(w64:W64 g.m_)(r64:∀v∈g.Zt,in64 v.N)(n1:(g.Zw.at_.map Prod.fst).Nodup)(n2:∀x∈g.Zw.at_.map Prod.fst, ∃i:Nat,i<g.m_.Zj.length/\x=2*(i:Int)+2):HB g:=by
 have h1:=s.hw;have h2:=s.hm;have h3:=s.hr;have h4:=J9 g.m_.Zh;have h5:=J9 g.m_.Zj;have h6:=Gz g.m_.Zh;have h7:=Gz g.m_.Zj
 have hl:(g.Zt++g.Zv).length=g.Zt.length:=by rw [hp,Xr]
 exact ⟨⟨by omega,by omega,by omega,fun c hc=>by have:=s.cell hc;omega⟩,⟨by omega,by omega⟩,by rw [H7];omega,by omega,w64,by rw [hp,Xr];exact r64,n1,n2⟩
def Oe (m:WK)(c:WI):Prop:= ∀v∈c.Zc++c.Zb,in64 v.N/\(bK v=true->aZ m v.N=true)
theorem Pl.refs (h:Pl g)(hc:c∈g.m_.Zh++g.m_.Zj):Oe g.m_ c:=fun v hv=>⟨h.hb.w64 c hc v hv,fun hb=>(h.cells c hc).2.1 _ (MI hv hb)⟩
theorem LN (s:Hb k M g){a:Int}(ha:aZ g.m_ a=true)(h1:k+c.Zc.length<=k'+(cn g.m_ a).Zc.length)(h2:M+c.Zb.length<=M'+(cn g.m_ a).Zb.length):Hb k' M' (iu g a c):=by
 obtain ⟨f1,f2, -, -⟩:=xY g a c;have e1:=I1 Lv ha (Bq c (cn g.m_ a).Zg);have e2:=I1 (fun c:WI=>c.Zb.length) ha (Bq c (cn g.m_ a).Zg);have s1:=s.hw;have s2:=s.hm;unfold ws at s1;unfold mS at s2;refine ⟨?_,?_,by rw [f2];exact s.hr⟩
 ·rw [f1];unfold ws;have:Lv (Bq c (cn g.m_ a).Zg)=1+c.Zc.length:=rfl;have:Lv (cn g.m_ a)=1+(cn g.m_ a).Zc.length:=rfl;omega
 rw [f1];unfold mS;have:(Bq c (cn g.m_ a).Zg).Zb.length=c.Zb.length:=rfl;omega
theorem Pl.putK (hk:k<=580)(hM:M<=2200)(h:Pl g){a:Int}(ha:aZ g.m_ a=true)(hr:bN c=true)(hkd:c.Za≠8/\c.Za≠10)(hc:Oe g.m_ c)(b:Hb k M (iu g a c)):
  Pl (iu g a c)/\(∀x,aZ (iu g a c).m_ x=aZ g.m_ x)/\(∀x,aZ g.m_ x=true->cn (iu g a c).m_ x=if x=a then Bq c (cn g.m_ a).Zg else cn g.m_ x):=by
 obtain ⟨f1,f2,f3,f4⟩:=xY g a c;obtain ⟨s1,s2,s3,s4,s5, -⟩:=P3 (Bq c (cn g.m_ a).Zg) ha;have hage:=Nd (h.cells _ (pf ha)).1;have hr':bN (Bq c (cn g.m_ a).Zg)=true:=Kx hr hage.1 hage.2
 have hhas: ∀x,aZ (iu g a c).m_ x=aZ g.m_ x:=fun x=>by rw [f1];exact s1 x
 have hmem: ∀d∈(iu g a c).m_.Zh++(iu g a c).m_.Zj,d∈g.m_.Zh++g.m_.Zj\/d=Bq c (cn g.m_ a).Zg:=fun d hd=>by rw [f1] at hd;exact s5 d hd
 have nd:((iu g a c).Zw.at_.map Prod.fst).Nodup:=by
  rw [f4];cases decide (a%2=1)
  ·exact OZ h.hb.nd _ _
  exact h.hb.nd
 have keys: ∀x∈(iu g a c).Zw.at_.map Prod.fst, ∃i:Nat,i<(iu g a c).m_.Zj.length/\x=2*(i:Int)+2:=fun x hx=>by
  rw [f1,s4];rw [f4] at hx
  cases hd:decide (a%2=1) with
  |true=>rw [hd] at hx;exact h.hb.keys x hx
  | false=>
   rw [hd] at hx;rcases (GV h.hb.nd _ _ x).1 hx with ⟨-,hx|rfl⟩|⟨-,hx, -⟩
   ·exact h.hb.keys x hx
   ·rcases jm ha with ⟨j,hj,rfl⟩|⟨j,hj,rfl⟩
    ·rw [WY I] at hd;cases hd
    exact ⟨j,hj,J⟩
   exact h.hb.keys x hx
 have hp:(iu g a c).Zv=[]:=f3.trans h.pend
 have w64:W64 (iu g a c).m_:=fun d hd=>by
  rcases hmem d hd with hd|rfl
  ·exact h.hb.w64 d hd
  exact fun v hv=>(hc v hv).1
 refine ⟨⟨Rk hk hM b hp w64 (fun v hv=> ?_) nd keys,hp,fun d hd=> ?_,fun x hx=> ?_,Nk h.set h.hb.nd ha c nd⟩,hhas,fun x hx=>by rw [f1];exact s2 x hx⟩
 ·rw [f2] at hv;exact h.hb.r64 v (W3 _ hv)
 ·rcases hmem d hd with hd|rfl
  ·exact ⟨(h.cells d hd).1,fun x hx=>(hhas x).trans ((h.cells d hd).2.1 x hx),(h.cells d hd).2.2⟩
  refine ⟨hr',fun x hx=> ?_,hkd⟩;obtain ⟨v,hv,hb,rfl⟩:=C9 hx;exact (hhas _).trans ((hc v hv).2 hb)
 rw [f2] at hx;exact (hhas x).trans (h.roots x hx)
def xn (g:WD)(c:WI):WD:=⟨⟨g.m_.Zh++ [c],g.m_.Zj⟩,g.Zt,g.Zv,g.Zw⟩
def nZ (g:WD):Int:=2*(g.m_.Zh.length:Int)+1
theorem Nt (g:WD):aZ g.m_ (nZ g)=false:=by
 unfold nZ;rw [CW];exact WZ I
theorem MJ (s:Hb k M g)(c:WI)(h1:k+1+c.Zc.length<=k')(h2:M+c.Zb.length<=M'):Hb k' M' (xn g c):=by
 have s1:=s.hw;have s2:=s.hm;refine ⟨?_,?_,s.hr⟩
 ·show ws (g.m_.Zh++ [c])+_<=k';unfold ws at s1⊢;rw [AS];simp only [cK];have:Lv c=1+c.Zc.length:=rfl;show cK Lv g.m_.Zh+(Lv c+0)+cK Lv g.m_.Zj<=k';omega
 show mS (g.m_.Zh++ [c])+_<=M';unfold mS at s2⊢;rw [AS];simp only [cK];show _+(c.Zb.length+0)+cK _ g.m_.Zj<=M';omega
theorem Pl.addK (hk:k<=580)(hM:M<=2200)(p:Pl g)(hr:bN c=true)(hkd:c.Za≠8/\c.Za≠10)(hc:Oe g.m_ c)(s:Hb k M (xn g c)):
  Pl (xn g c)/\(∀x,aZ g.m_ x=true->aZ (xn g c).m_ x=true/\cn (xn g c).m_ x=cn g.m_ x)/\aZ (xn g c).m_ (nZ g)=true/\cn (xn g c).m_ (nZ g)=c:=by
 obtain ⟨a1,a2,a3⟩:=P5 (m:=g.m_) c
 have hmem: ∀d∈(xn g c).m_.Zh++(xn g c).m_.Zj,d∈g.m_.Zh++g.m_.Zj\/d=c:=fun d hd=>by
  have hd:d∈(g.m_.Zh++ [c])++g.m_.Zj:=hd;simp only [X7,X8,List.not_mem_nil,or_false] at hd⊢;rcases hd with (hd|hd)|hd
  ·exact .inl (.inl hd)
  ·exact .inr hd
  exact .inl (.inr hd)
 have hset:Fq g.Zw.at_=oa ⟨g.m_.Zh++ [c],g.m_.Zj⟩:=by rw [Pd];exact p.set
 have hW:W64 (xn g c).m_:=fun d hd=>by
  rcases hmem d hd with hd|rfl
  ·exact p.hb.w64 d hd
  exact fun v hv=>(hc v hv).1
 refine ⟨⟨Rk hk hM s p.pend hW (fun v hv=>p.hb.r64 v (W3 _ hv)) p.hb.nd p.hb.keys,p.pend,fun d hd=> ?_,fun x hx=>(a1 x (p.roots x hx)).1,hset⟩,a1,a2,a3⟩;rcases hmem d hd with hd|rfl
 ·exact ⟨(p.cells d hd).1,fun x hx=>(a1 _ ((p.cells d hd).2.1 x hx)).1,(p.cells d hd).2.2⟩
 refine ⟨hr,fun x hx=> ?_,hkd⟩;obtain ⟨v,hv,hb,rfl⟩:=C9 hx;exact (a1 _ ((hc v hv).2 hb)).1
def v0:WV:=⟨0,0,⟨#[]⟩⟩
def Kf (w:WM)(t:WQ):WM:=⟨w.ZB,w.Zu,(),w.Zo,t,w.Zy,w.ZE,w.ZF,w.ZG,w.Zz,w.ZA⟩
theorem Ss:ln v0=true:=by kernel_rfl
theorem lR (h:bN c=true):0<=c.Zi/\(0<=c.Ze/\c.Ze<=63)/\0<=c.Zg/\c.Zg<=1:=by
 unfold bN at h;simp only [Y3,Bool.not_eq_true',YS] at h;omega
theorem yT (hk:c.Za=1\/c.Za=2)(h0:0<=c.Zi)(hf:0<=c.Ze/\c.Ze<=63)(ha:0<=c.Zg/\c.Zg<=1)(hs:∀x∈c.Zc,ln x=true)(hm:∀x∈c.Zb,ln x=true)(hn:c.Zc.length<=1025){z:WV}(hz:c.Zc[0]? =some z)(hz1:z.Za=1\/z.Za=7)(hml:c.Zb.length<=4096)(hp:c.Za=1->c.Zb=[]):bN c=true:=by
 have h1:=(XO.1 hz).1
 have e0:rK c.Zc 0=z:=by unfold rK;rw [List.getD_eq_getElem?_getD,hz];rfl
 have e1:oh c.Za c.Zi c.Ze c.Zc=true:=by
  unfold oh EY;rw [e0,WY (p:=1<=c.Zc.length) I,WY hn];rcases hk with h|h<;>rcases hz1 with h2|h2<;>rw [h,h2]<;>rfl
 have e2:rY c.Za c.Zb=true:=by
  unfold rY;rcases hk with h|h
  ·rw [hp h,h];rfl
  rw [h,WY (p:=(2:Int)=2) rfl,cond_true];exact WY hml
 unfold bN;rw [e1,e2,Xq.2 hs,Xq.2 hm,WZ (p:=c.Za<1) I,WZ (p:=11<c.Za) I,WZ (p:=c.Zi<0) I,WZ (p:=c.Ze<0) I,WZ (p:=63<c.Ze) I,WZ (p:=c.Zg<0) I,WZ (p:=1<c.Zg) I];rfl
structure ValW (m:WK) (x:WV):Prop where
 may:ln x=true
 i64:in64 x.N
 ref:bK x=true->aZ m x.N=true
theorem Qs (m:WK):ValW m v0:=⟨Ss,by decide,fun h=>by cases h⟩
def rV (g s:WV):WI:=⟨5,0,0,0,[g,s],[]⟩
def Md (x:WV):Prop:=x.Za=0\/x.Za=7
theorem Kz {g s:WV}(hg:ValW m g)(hs:ValW m s)(kg:Md g)(ks:Md s):bN (rV g s)=true:=by
 have e1:noneB g 7=true:=by unfold noneB;rcases kg with h|h<;>rw [h]<;>rfl
 have e2:noneB s 7=true:=by unfold noneB;rcases ks with h|h<;>rw [h]<;>rfl
 have e3:oh 5 0 0 [g,s]=true:=by
  unfold oh;show (decide ([g,s].length=2)&&noneB g 7&&noneB s 7)=true;rw [e1,e2];rfl
 unfold bN rV;simp only [List.all_cons,List.all_nil];rw [hg.may,hs.may,e3];rfl
def F3 (m:WK)(x g s:WV):Prop:= ∃(a ag:Int),x=⟨9,a,⟨#[]⟩⟩/\aZ m a=true/\cn m a=⟨5,0,0,ag,[g,s],[]⟩
def SlotP (m:WK)(p:WU)(x:WV):Prop:=
 (ai .i64 p.Zd 8=0/\p.Value=x/\p.Zq=v0/\p.Zr=v0/\x.Za≠9)\/
 (ai .i64 p.Zd 8≠0/\p.Value=v0/\F3 m x p.Zq p.Zr)
structure Wd (N k q M:Nat) (w:WM):Prop where
 pl:Pl w.Zo
 hb:Hb k M w.Zo
 ti:TI N w.Zp
 tb:w.Zp.Zp.length<=q
theorem Wd.up {N q:Nat}{w:WM}(h:Wd N k q M w)(h1:k<=k')(h2:q<=q')(h3:M<=M'):Wd N k' q' M' w:=⟨h.pl,h.hb.up h1 h3,h.ti,YC h.tb h2⟩
theorem Wd.sz {N q:Nat}{w:WM}(h:Wd N k q M w)(hk:k<=580)(hM:M<=2200): ∀c∈w.Zo.m_.Zh++w.Zo.m_.Zj,c.Zc.length<=600/\c.Zb.length<=2900:=fun c hc=>by have:=h.hb.cell hc;omega
theorem Pl.valW (h:Pl g){a:Int}(ha:aZ g.m_ a=true)(hx:x∈(cn g.m_ a).Zc++(cn g.m_ a).Zb):ValW g.m_ x:=by
 have hc:=pf ha;have h1:=h.refs hc x hx;have h2:=ux (h.cells _ hc).1;refine ⟨?_,h1.1,h1.2⟩;rcases X7.1 hx with hx|hx
 ·exact Xq.1 h2.1 x hx
 exact Xq.1 h2.2.1 x hx
theorem Ol {N q:Nat}{w:WM}(h:Wd N k q M w)(hk:k<=580)(hM:M<=2200)(hx:bK x=true)(hi:in64 x.N)(ha:aZ w.Zo.m_ x.N=true):bO N w x=some (cn w.Zo.m_ x.N):=N4 (h.sz hk hM) hx hi ha
def Ju (p:WU):WL×Int:=(p.Zf,p.Zd)
structure ObjC (t:WQ) (c:WI) (l:List (WL×Int)):Prop where
 kind:c.Za=1\/c.Za=2
 proto: ∃z,c.Zc[0]? =some z/\(z.Za=1\/z.Za=7)
 plain:c.Za=1->c.Zb=[]
 row:Row t c.Zi l
 num:c.Zc.length=l.length+1
 nd:(l.map (·.1)).Nodup
 noP:ai .i64 c.Ze 16=0
structure Obj (N:Nat) (i:Int) (k q:Nat) (w:WM) (c:WI) (PL:List WU):Prop where
 wd:Wd N k q c.Zb.length w
 has:aZ w.Zo.m_ i=true
 at_:cn w.Zo.m_ i=c
 oc:ObjC w.Zp c (PL.map Ju)
 each: ∀(n:Nat) p,PL[n]? =some p-> ∃x,c.Zc[n+1]? =some x/\SlotP w.Zo.m_ p x
 inj: ∀(n m:Nat) x y,n≠m->c.Zc[n+1]? =some x->c.Zc[m+1]? =some y->x.Za=9->y.Za=9->x.N≠y.N
theorem Obj.up {N q:Nat}{w:WM}(h:Obj N i k q w c PL)(h1:k<=k')(h2:q<=q'):Obj N i k' q' w c PL:=⟨h.wd.up h1 h2 (YB _),h.has,h.at_,h.oc,h.each,h.inj⟩
theorem Obj.len {N q:Nat}{w:WM}(h:Obj N i k q w c PL):PL.length<=1024:=by
 have:=h.oc.row.le h.wd.ti
 rwa [YZ] at this
theorem Obj.num {N q:Nat}{w:WM}(h:Obj N i k q w c PL):c.Zc.length=PL.length+1:=by
 have:=h.oc.num
 rwa [YZ] at this
theorem Obj.right {N q:Nat}{w:WM}(h:Obj N i k q w c PL):bN c=true:=by
 have:=(h.wd.pl.cells _ (pf h.has)).1
 rwa [h.at_] at this
theorem Obj.val {N q:Nat}{w:WM}(h:Obj N i k q w c PL)(hx:x∈c.Zc++c.Zb):ValW w.Zo.m_ x:=h.wd.pl.valW h.has (by rw [h.at_];exact hx)
theorem Obj.nodup {N q:Nat}{w:WM}(h:Obj N i k q w c PL):(PL.map (·.Zf)).Nodup:=by
 have:=h.oc.nd;rw [List.map_map] at this;exact this
def mU (p:WU):WU:=bif decide (ai .i64 p.Zd 8=0) then ⟨p.Zf,p.Zd,p.Value,v0,v0⟩ else ⟨p.Zf,p.Zd,v0,p.Zq,p.Zr⟩
def zeroP:WU:=⟨⟨0,0,⟨#[]⟩⟩,0,v0,v0,v0⟩
def nc (PL:List WU)(key:WL):WU×Bool:=match PL.find? (fun p=>decide (p.Zf=key)) with
 |some p=>(p,true)
 |none=>(zeroP,false)
theorem Bv (h:∀p∈PL,p.Zf≠key):nc PL key=(zeroP,false):=by
 unfold nc;rw [List.find?_eq_none.2 fun p hp=>by simp [h p hp]]
theorem qg (hn:(PL.map (·.Zf)).Nodup){n:Nat}(hp:PL[n]? =some p):nc PL p.Zf=(p,true):=by
 have hm:=Yd hp
 cases e:PL.find? (fun x=>decide (x.Zf=p.Zf)) with
 |none=>exact absurd (List.find?_eq_none.1 e p hm) (by simp)
 |some x=>
  have h1:x.Zf=p.Zf:=by simpa using List.find?_some e
  have h2:=List.mem_of_find?_eq_some e;obtain ⟨m,hmm⟩:=List.getElem?_of_mem h2;have h3:=XO.1 hmm;have h4:=XO.1 hp;have:m=n:=(List.getElem_inj (h₀:=by rw [YZ];exact h3.1) (h₁:=by rw [YZ];exact h4.1) hn).1 (by rw [XU,XU,h3.2,h4.2,h1]);subst this;have:x=p:=YM (hmm.symm.trans hp);subst this;unfold nc;rw [e]
section
variable {N:Nat}(hv:v.Za=7)(hvN:v.N=i){q:Nat}(hk:k<=580){w:WM}(hM:c.Zb.length<=2200)(h:Obj N i k q w c PL)
include hv hvN hk hM h
theorem Sr:bO N w v=some c:=by
 have hi:=wz (h.wd.pl.hb.small) h.has;rw [Ol h.wd hk hM (x:=v) (by unfold bK;rw [hv];rfl) (by rw [hvN];exact hi) (by rw [hvN];exact h.has),hvN,h.at_]
theorem GT:gF N w v=some (.inr ⟨c,w,v⟩):=by
 obtain ⟨z,z1,z2⟩:=h.oc.proto;have hl:=(XO.1 z1).1
 have hg:aq c.Zc 0=some z:=by unfold aq;exact z1
 unfold gF;rw [WY hv,nt,cf,Sr hv hvN hk hM h,bs,WZ (show¬(c.Zc.length:Int)=0 by omega),cf,hg,bs,bs];rcases z2 with z2|z2<;>rw [z2]<;>rfl
theorem SC:cB N w v=some (c,decide (c.Za=2)):=by
 unfold cB;rw [WY hv,nt,cf,Sr hv hvN hk hM h,bs]
omit hv hvN in
theorem LA {n:Nat}(hn:PL[n]? =some p):fM N ⟨c,w,v⟩ (n:Int) p.Zf p.Zd=some p:=by
 have hlt:=(XO.1 hn).1;have hnum:=h.num;have hl:=h.len;obtain ⟨x,hx,hs⟩:=h.each n p hn
 have hg:aq c.Zc ((n:Int)+1)=some x:=by
  unfold aq;rw [if_neg I,show ((n:Int)+1).toNat=n+1 by omega];exact hx
 unfold fM;rw [r64 I I];show (bif decide ((c.Zc.length:Int)<=(n:Int)+1) then _ else _)=_;rw [WZ I,cf,r64 I I];show Option.bind (aq c.Zc ((n:Int)+1)) _=_;rw [hg,bs];rcases hs with ⟨s1,s2,s3,s4, -⟩|⟨s1,s2,a,ag,s3,s4,s5⟩
 ·rw [WY s1,ct];refine congrArg some ?_;rw [<-s2,show (⟨0,0,⟨#[]⟩⟩:WV)=p.Zq from s3.symm];have:p.Zq=p.Zr:=s3.trans s4.symm
  conv=>lhs;arg 5;rw [this]
 have hi:=wz (h.wd.pl.hb.small) s4;subst s3;rw [WZ s1,cf];show Option.bind (bO N w _) _=_;rw [Ol h.wd hk hM (x:=⟨9,a,⟨#[]⟩⟩) rfl hi s4,bs,s5];show some (⟨p.Zf,p.Zd,v0,p.Zq,p.Zr⟩:WU)=some p;rw [<-s2]
end
end
section
open Go.RowKit
set_option maxRecDepth 20000
section
variable {N:Nat}(hN:20000<=N)(hv:v.Za=7)(hvN:v.N=i){q:Nat}(hk:k<=580){w:WM}(hM:c.Zb.length<=2200)(h:Obj N i k q w c PL)
include hN hk hM h
def UK (PL:List WU)(key:WL)(r:WU×Int×Bool):Prop:=(r=(zeroP,0,false)/\ ∀p∈PL,p.Zf≠key)\/ ∃(n:Nat) (p:WU),r=(p,(n:Int),true)/\PL[n]? =some p/\p.Zf=key
theorem HH (key:WL):Sat (bZ N ⟨c,w,v⟩ key) (UK PL key):=by
 unfold bZ cV;rw [bs];have hle:=h.len
 refine (Ed N I h.wd.ti h.oc.row key).bind fun z hz=> ?_
 rcases hz with ⟨rfl,hz⟩|⟨n,z1,z2,z3⟩
 ·show Sat (some ((zeroP,0,false):WU×Int×Bool)) _;refine ac ?_;left;refine ⟨J,fun p hp e=> ?_⟩;exact hz (Ju p) (List.mem_map_of_mem hp) e
 rw [XP] at z3;obtain ⟨p,hp,e⟩:=Option.map_eq_some_iff.1 z3;have e1:p.Zf=key:=congrArg Prod.fst e;have e2:p.Zd=z.2.1:=congrArg Prod.snd e
 have e3:fM N ⟨c,w,v⟩ z.1 key z.2.1=some p:=by rw [z1, <-e2, <-e1];exact LA hk hM h hp
 rw [z2];show Sat (Option.bind _ _) _
 refine Sat.bind (P:=(· =p)) ⟨p,e3,J⟩ fun y hy=> ?_
 subst hy;refine ac ?_;right;exact ⟨n,y,by rw [z1],hp,e1⟩
include hv hvN
theorem OX (key:WL):qi N w v key=some (nc PL key):=by
 unfold qi;rw [GT hv hvN hk hM h,bs];show Option.bind (bZ N ⟨c,w,v⟩ key) _=_;obtain ⟨r,e,hr⟩:=HH (v:=v) hN hk hM h key;rw [e,bs];rcases hr with ⟨rfl,hr⟩|⟨n,p,rfl,hp,rfl⟩
 ·rw [Bv hr]
 rw [qg h.nodup hp]
omit hv hvN in
theorem LO: ∀(m j:Nat),PL.length<m+j->j<=PL.length->nL N ((PL.map Ju).map (·.1)) ((PL.map Ju).map (·.2)) ⟨c,w,v⟩ w m (PL.take j) (j:Int)=some PL
 |0,j,h1,h2=>by have _:=hN;omega
 | m+1,j,h1,h2=>by
  have hle:=h.len;rw [nL.eq_2];rcases YE j PL.length with hj|hj
  ·have e0:PL[j]? =some PL[j]:=XM hj
   have e1:aq ((PL.map Ju).map (·.1)) (j:Int)=some PL[j].Zf:=by rw [aK (by rw [YZ,YZ];exact hj),XU,XU];rfl
   have e2:aq ((PL.map Ju).map (·.2)) (j:Int)=some PL[j].Zd:=by rw [aK (by rw [YZ,YZ];exact hj),XU,XU];rfl
   rw [YZ,YZ,fN I,ct,e1,bs,e2,bs,LA (v:=v) hk hM h e0,bs,cU (by rw [YY,X3];omega),r64 I I]
   have e3:PL.take j++([PL[j]]:List WU)=PL.take (j+1):=by rw [List.take_add_one,e0];rfl
   rw [e3];exact LO m (j+1) I hj
  rw [YZ,YZ,fC I,cf,Yr I];rfl
theorem Bx:ju N w v=some PL:=by
 unfold ju;have hle:=h.len;rw [GT hv hvN hk hM h,bs];show Option.bind (fK N w.Zp c.Zi) _=_;rw [P1 N I h.wd.ti h.oc.row,bs];show Option.bind (gk N w.Zp c.Zi) _=_;rw [Rg N I h.wd.ti h.oc.row,bs];exact LO hN hk hM h N 0 I I
end
structure PropW (m:WK) (p:WU):Prop where
 v:ValW m p.Value/\p.Value.Za≠9
 g:ValW m p.Zq/\Md p.Zq
 s:ValW m p.Zr/\Md p.Zr
structure FrW (w w':WM):Prop where
 roots:w'.Zo.Zt=w.Zo.Zt
 has: ∀a,aZ w.Zo.m_ a=true->aZ w'.Zo.m_ a=true
 spent:w'.ZB=w.ZB
 config:w'.Zu=w.Zu
 epoch:w'.ZE=w.ZE
theorem FrW.refl (w:WM):FrW w w:=⟨rfl,fun _ h=>h,rfl,rfl,rfl⟩
theorem FrW.trans {a b c:WM}(h:FrW a b)(h':FrW b c):FrW a c:=⟨h'.roots.trans h.roots,fun x hx=>h'.has x (h.has x hx),h'.spent.trans h.spent,h'.config.trans h.config,h'.epoch.trans h.epoch⟩
theorem ValW.mono {m':WK}(hm:∀a,aZ m a=true->aZ m' a=true)(h:ValW m x):ValW m' x:=⟨h.may,h.i64,fun hb=>hm _ (h.ref hb)⟩
structure Slotted (N k q M:Nat) (w:WM) (p:WU) (old:WV) (r:WV×WM):Prop where
 wd:Wd N (k+3) q M r.2
 fr:FrW w r.2
 tab:r.2.Zp=w.Zp
 val:ValW r.2.Zo.m_ r.1
 slot:SlotP r.2.Zo.m_ (mU p) r.1
 fresh:r.1.Za=9->r.1=old\/aZ w.Zo.m_ r.1.N=false
 rest: ∀a,aZ w.Zo.m_ a=true->(old.Za=9->old.N≠a)->cn r.2.Zo.m_ a=cn w.Zo.m_ a
theorem Ut {a:Int}(h:1<=a):ln ⟨9,a,⟨#[]⟩⟩=true:=by
 unfold ln dK;rw [show ((⟨9,a,⟨#[]⟩⟩:WV).S.toList==(⟨#[]⟩:ByteArray).toList)=true from beq_self_eq_true _];show (Option.getD (some (decide (1<=a))) false)=true;rw [WY h];rfl
theorem Fd (h:¬ai .i64 p.Zd 8=0):mU p=⟨p.Zf,p.Zd,v0,p.Zq,p.Zr⟩:=by
 unfold mU;rw [WZ h];rfl
theorem CL (h:ai .i64 p.Zd 8=0):mU p=⟨p.Zf,p.Zd,p.Value,v0,v0⟩:=by
 unfold mU;rw [WY h];rfl
theorem TY {N:Nat}(hN:20000<=N){w:WM}(hp:Pl w.Zo)(hx:bK x=true)(ha:aZ w.Zo.m_ x.N=true)(h1:c.Zc.length<=600/\c.Zb.length<=2900)(hr:bN c=true):az N w x c=some (HO w (iu w.Zo x.N c)):=by
 have e:iZ N x=some (bK x):=by
  unfold iZ bK;cases decide (x.Za=7)<;>rfl
 unfold az;rw [e,bs,hx,ct,Vf I hp.hb.small ha h1,hr];rfl
theorem TZ {N:Nat}(hN:20000<=N){w:WM}(hp:Pl w.Zo)(h1:c.Zc.length<=600/\c.Zb.length<=2900)(hr:bN c=true)(h0:c.Zg=0):cW N w c=some (⟨9,nZ w.Zo,⟨#[]⟩⟩,HO w (xn w.Zo c)):=by
 have ec:(⟨c.Za,c.Zi,c.Ze,0,c.Zc,c.Zb⟩:WI)=c:=by rw [<-h0]
 have hl:=hp.hb.small.young
 have e:(((w.Zo.m_.Zh++ [(⟨c.Za,c.Zi,c.Ze,0,c.Zc,c.Zb⟩:WI)]).length:Nat):Int)=(w.Zo.m_.Zh.length:Int)+1:=by simp
 unfold cW eS aM;rw [bs,cf,yr I I,bs,hr,nt,cf,pM N c I,bs,rF (by simp only [XW,XZ];omega),e,r64 I I,r64 I I,ec,show 2*((w.Zo.m_.Zh.length:Int)+1) - 1=nZ w.Zo by unfold nZ;omega,bs];rfl
theorem Oy {N:Nat}(hN:20000<=N){q:Nat}(hk:k+3<=580)(hM:M<=2200){w:WM}(h:Wd N k q M w){v':WV}(hp:PropW w.Zo.m_ p)(hold:old.Za≠9\/ ∃g s,F3 w.Zo.m_ old g s):Sat (iG N ⟨c',w,v'⟩ p old) (Slotted N k q M w p old):=by
 unfold iG
 refine aC (fun h8=>ac ?_) fun h8=> ?_
 ·refine ⟨h.up I (YB _) (YB _),FrW.refl w,J,hp.v.1,?_,fun e=>absurd e hp.v.2,fun _ _ _=>J⟩;rw [CL h8];exact .inl ⟨h8,J,J,J,hp.v.2⟩
 have hr:bN (rV p.Zq p.Zr)=true:=Kz hp.g.1 hp.s.1 hp.g.2 hp.s.2
 have hrf:Oe w.Zo.m_ (rV p.Zq p.Zr):=fun x hx=>by
  have hx:x=p.Zq\/x=p.Zr:=by simpa [rV] using hx
  rcases hx with rfl|rfl
  ·exact ⟨hp.g.1.i64,hp.g.1.ref⟩
  exact ⟨hp.s.1.i64,hp.s.1.ref⟩
 have hide:old.Za≠9->Sat ((cW N w (⟨5,0,0,0,([p.Zq,p.Zr]:List WV),[]⟩:WI)).bind fun a6=>some (a6.1,a6.2)) (Slotted N k q M w p old):=fun hne=>by
  have hb:Hb (k+3) M (xn w.Zo (rV p.Zq p.Zr)):=MJ h.hb _ (by show k+1+2<=k+3;omega) (by show M+0<=M;omega);obtain ⟨p1,p2,p3,p4⟩:=h.pl.addK hk hM hr ⟨by show (5:Int)≠8;decide,by show (5:Int)≠10;decide⟩ hrf hb;have e:=TZ (c:=rV p.Zq p.Zr) hN h.pl (by constructor<;>(show _<=_;simp [rV])) hr rfl;show Sat (Option.bind (cW N w (rV p.Zq p.Zr)) _) _;rw [e,bs];have hi:=wz p1.hb.small p3;refine ac ⟨⟨p1,hb,h.ti,h.tb⟩,⟨J,fun a ha=>(p2 a ha).1,J,J,J⟩,J,⟨?_,hi,fun _=>p3⟩,?_,fun _=> .inr (Nt _),fun a ha _=>(p2 a ha).2⟩
  ·show ln ⟨9,nZ w.Zo,⟨#[]⟩⟩=true
   have:(1:Int)<=nZ w.Zo:=by unfold nZ;omega
   exact Ut this
  rw [Fd h8];exact .inr ⟨h8,J,nZ w.Zo,0,J,p3,p4⟩
 by_cases h9:old.Za=9
 ·obtain ⟨g,s,a,ag,rfl,ha,hat⟩: ∃g s,F3 w.Zo.m_ old g s:=hold.resolve_left fun hne=>hne h9
  have hi:=wz h.pl.hb.small ha;rw [WY h9,ct];show Sat (Option.bind (Option.bind (bO N w ⟨9,a,⟨#[]⟩⟩) _) _) _;rw [Ol h I hM (x:=⟨9,a,⟨#[]⟩⟩) rfl hi ha,bs,bs];show Sat (bif decide ((cn w.Zo.m_ a).Za=5) then _ else _) _;rw [hat,WY (p:=(5:Int)=5) rfl,ct];have hb:Hb k M (iu w.Zo a (rV p.Zq p.Zr)):=LN h.hb ha (by rw [hat];exact YB _) (by rw [hat];exact YB _);obtain ⟨p1,p2,p3⟩:=h.pl.putK I hM ha hr ⟨by show (5:Int)≠8;decide,by show (5:Int)≠10;decide⟩ hrf hb;have e:=TY (x:=⟨9,a,⟨#[]⟩⟩) (c:=rV p.Zq p.Zr) hN h.pl rfl ha (by constructor<;>(show _<=_;simp [rV])) hr;show Sat (Option.bind (az N w ⟨9,a,⟨#[]⟩⟩ (rV p.Zq p.Zr)) _) _;rw [e,bs];have hold':=h.pl.cells _ (pf ha);refine ac ⟨⟨p1,hb.up I (YB _),h.ti,h.tb⟩,⟨(xY _ _ _).2.1,fun b hb'=>by rw [show (HO w (iu w.Zo a (rV p.Zq p.Zr))).Zo.m_=(iu w.Zo a (rV p.Zq p.Zr)).m_ from rfl,p2];exact hb',rfl,rfl,rfl⟩,J,⟨?_,hi,fun _=>(p2 a).trans ha⟩,?_,fun _=> .inl J,fun b hb' hne=> ?_⟩
  ·have:(1:Int)<=a:=by
    rcases jm ha with ⟨j, -,rfl⟩|⟨j, -,rfl⟩<;>omega
   exact Ut this
  ·rw [Fd h8];refine .inr ⟨h8,J,a,ag,J,(p2 a).trans ha,?_⟩;show cn (iu w.Zo a (rV p.Zq p.Zr)).m_ a=_;rw [p3 a ha,if_pos rfl,hat];rfl
  show cn (iu w.Zo a (rV p.Zq p.Zr)).m_ b=_;rw [p3 b hb',if_neg fun e=>hne rfl e.symm]
 rw [WZ h9,cf,bs,cf];exact hide h9
end
section
open Go.RowKit
set_option maxRecDepth 20000
theorem SlotP.move {m':WK}(h:SlotP m p x)(hh:∀a,x.Za=9->x.N=a->aZ m a=true->(cn m a).Za=5->aZ m' a=true/\cn m' a=cn m a):SlotP m' p x:=by
 rcases h with h|⟨h1,h2,a,ag,rfl,h4,h5⟩
 ·exact .inl h
 obtain ⟨g1,g2⟩:=hh a rfl rfl h4 (by rw [h5]);exact .inr ⟨h1,h2,a,ag,J,g1,g2.trans h5⟩
theorem SlotP.has9 (h:SlotP m p x)(h9:x.Za=9):(∃g s,F3 m x g s)/\aZ m x.N=true:=by
 rcases h with ⟨-, -, -, -,h⟩|⟨-, -,a,ag,rfl,h4,h5⟩
 ·exact absurd h9 h
 exact ⟨⟨_,_,a,ag,J,h4,h5⟩,h4⟩
theorem Obj.pair9 {N q:Nat}{w:WM}(h:Obj N i k q w c PL){n:Nat}(hx:c.Zc[n+1]? =some x)(h9:x.Za=9):(∃g s,F3 w.Zo.m_ x g s)/\aZ w.Zo.m_ x.N=true:=by
 have hlt:=(XO.1 hx).1
 have hn:n<PL.length:=by have:=h.num;omega
 obtain ⟨y,hy,hs⟩:=h.each n PL[n] (XM hn);have:y=x:=YM (hy.symm.trans hx);subst this;exact hs.has9 h9
structure FrO (i:Int) (w w':WM) (c c':WI):Prop where
 fr:FrW w w'
 le:Le w.Zp w'.Zp
 rest: ∀a,aZ w.Zo.m_ a=true->a≠i->(∀(n:Nat) x,c.Zc[n+1]? =some x->x.Za=9->x.N≠a)->cn w'.Zo.m_ a=cn w.Zo.m_ a
 new: ∀(n:Nat) x,c'.Zc[n+1]? =some x->x.Za=9->(∃n':Nat,c.Zc[n'+1]? =some x)\/aZ w.Zo.m_ x.N=false
theorem FrO.trans {w w' w'':WM}{c'':WI}(h:FrO i w w' c c')(h':FrO i w' w'' c' c''):FrO i w w'' c c'':=by
 refine ⟨h.fr.trans h'.fr,h.le.trans h'.le,fun a ha hne hp=> ?_,fun n x hx h9=> ?_⟩
 ·rw [h'.rest a (h.fr.has a ha) hne fun n x hx h9 e=> ?_,h.rest a ha hne hp];rcases h.new n x hx h9 with ⟨n',hn'⟩|hn
  ·exact hp n' x hn' h9 e
  rw [e,ha] at hn;cases hn
 rcases h'.new n x hx h9 with ⟨n',hn'⟩|hn
 ·exact h.new n' x hn' h9
 right
 cases e:aZ w.Zo.m_ x.N with
 |false=>rfl
 |true=>rw [h.fr.has _ e] at hn;cases hn
structure Same (c c':WI):Prop where
 kind:c'.Za=c.Za
 more:c'.Zb=c.Zb
 flags:c'.Ze=c.Ze
 head:c'.Zc[0]? =c.Zc[0]?
theorem Same.refl (c:WI):Same c c:=⟨rfl,rfl,rfl,rfl⟩
theorem Same.trans {a b:WI}(h:Same a b)(h':Same b c):Same a c:=⟨h'.kind.trans h.kind,h'.more.trans h.more,h'.flags.trans h.flags,h'.head.trans h.head⟩
theorem HK {N:Nat}(hN:20000<=N)(hv:v.Za=7)(hvN:v.N=i){q:Nat}(hk:k'<=580)(hM:M'<=2200){w:WM}(hw:Wd N k q M w)(ha:aZ w.Zo.m_ i=true)(hc:cn w.Zo.m_ i=c)(hage:c'.Zg=c.Zg)(hkd:c'.Za=1\/c'.Za=2)(hr:bN c'=true)(hrf:Oe w.Zo.m_ c')(h1:k+c'.Zc.length<=k'+c.Zc.length)(h2:M+c'.Zb.length<=M'+c.Zb.length):
  az N w v c'=some (HO w (iu w.Zo i c'))/\Wd N k' q M' (HO w (iu w.Zo i c'))/\FrW w (HO w (iu w.Zo i c'))/\(∀x,aZ w.Zo.m_ x=true->cn (iu w.Zo i c').m_ x=if x=i then c' else cn w.Zo.m_ x):=by
 have hb:Hb k' M' (iu w.Zo i c'):=LN hw.hb ha (by rw [hc];exact h1) (by rw [hc];exact h2);obtain ⟨p1,p2,p3⟩:=hw.pl.putK hk hM ha hr (by rcases hkd with h|h<;>constructor<;>omega) hrf hb
 have ec:Bq c' (cn w.Zo.m_ i).Zg=c':=by rw [hc, <-hage];rfl
 have hsz:c'.Zc.length<=600/\c'.Zb.length<=2900:=by
  have hh:aZ (iu w.Zo i c').m_ i=true:=(p2 i).trans ha;have:=hb.cell (pf hh);rw [p3 i ha,if_pos rfl,ec] at this;omega
 refine ⟨?_,⟨p1,hb,hw.ti,hw.tb⟩,⟨(xY _ _ _).2.1,fun x hx=>(p2 x).trans hx,J,J,J⟩,fun x hx=>by rw [p3 x hx,ec]⟩;have:=TY (x:=v) hN hw.pl (by unfold bK;rw [hv];rfl) (by rw [hvN];exact ha) hsz hr;rw [this,hvN]
theorem Iv {N:Nat}{w w':WM}(hp:az N w v c'=some w')(hf:ai .i64 c'.Ze 16=0)(b:Bool):bJ N ⟨c',w,v⟩ b=some ⟨c',w',v⟩:=by
 unfold bJ;have e:iD N w v c'=some w':=hp;show Option.bind (iD N w v c') _=_;rw [e,bs]
 have e:(!decide (ai .i64 (⟨c',w,v⟩:WN).Zn.Ze 16=0))=false:=by
  show (!decide (ai .i64 c'.Ze 16=0))=false;rw [WY hf];rfl
 rw [e];cases b<;>rfl
def uq (PL:List WU)(p:WU):List WU:=match PL.findIdx? (fun x=>decide (x.Zf=p.Zf)) with
 |some n=>PL.set n p
 |none=>PL++ [p]
theorem D3 (h:∀x∈PL,x.Zf≠p.Zf):uq PL p=PL++ [p]:=by
 unfold uq;rw [List.findIdx?_eq_none_iff.2 fun x hx=>by simp [h x hx]]
theorem yZ (hn:(PL.map (·.Zf)).Nodup){n:Nat}{x:WU}(hp:PL[n]? =some x)(e:x.Zf=p.Zf):uq PL p=PL.set n p:=by
 have h4:=XO.1 hp
 cases e1:PL.findIdx? (fun x=>decide (x.Zf=p.Zf)) with
 |none=>exact absurd e (by simpa using List.findIdx?_eq_none_iff.1 e1 x (Yd hp))
 |some m=>
  obtain ⟨h1,h2, -⟩:=List.findIdx?_eq_some_iff_getElem.1 e1
  have h2:PL[m].Zf=p.Zf:=by simpa using h2
  have:m=n:=(List.getElem_inj (h₀:=by rw [YZ];exact h1) (h₁:=by rw [YZ];exact h4.1) hn).1 (by rw [XU,XU,h2,h4.2,e]);subst this;unfold uq;rw [e1]
section
variable {N:Nat}(hN:20000<=N)(hv:v.Za=7)(hvN:v.N=i){q:Nat}{w:WM}(h:Obj N i k q w c PL)
include hN hv hvN h
theorem SB (hk:k+4<=580)(hM:c.Zb.length<=2200)(ht:TI N t)(hle:Le w.Zp t)(htb:t.Zp.length<=q'){r:WV×WM}(hr:Slotted N k q' c.Zb.length (Kf w t) p old r){n:Nat}(hold:old.Za≠9\/c.Zc[n+1]? =some old)(sh:Int)(sl:List WV)(PL':List WU)(hrow:Row t sh (PL'.map Ju))(hnd:(PL'.map (·.Zf)).Nodup)(hnum:sl.length=PL'.length+1)(hn:PL'.length<=PL.length+1)(hn2:PL'.length<=1024)(h0:sl[0]? =c.Zc[0]?)(h1:sl[n+1]? =some r.1)(h2:PL'[n]? =some (mU p))(h3:∀m,m≠n->sl[m+1]? =c.Zc[m+1]?)(h4:∀m,m≠n->PL'[m]? =PL[m]?)(b:Bool):
  ∃w',bJ N ⟨⟨c.Za,sh,c.Ze,c.Zg,sl,c.Zb⟩,r.2,v⟩ b=some ⟨⟨c.Za,sh,c.Ze,c.Zg,sl,c.Zb⟩,w',v⟩/\Obj N i (k+4) q' w' ⟨c.Za,sh,c.Ze,c.Zg,sl,c.Zb⟩ PL'/\FrO i w w' c ⟨c.Za,sh,c.Ze,c.Zg,sl,c.Zb⟩:=by
 have hrc:=lR h.right;have hnum0:=h.num;have hi:aZ r.2.Zo.m_ i=true:=hr.fr.has i h.has
 have hne:old.Za=9->old.N≠i:=fun h9 e=>by
  rcases hold with ho|ho
  ·exact ho h9
  obtain ⟨⟨g,s,a,ag,e1,e2,e3⟩, -⟩:=h.pair9 ho h9;rw [e1] at e;have e:a=i:=e;rw [e,h.at_] at e3;rcases h.oc.kind with hkd|hkd<;>rw [e3] at hkd<;>cases hkd
 have hat:cn r.2.Zo.m_ i=c:=(hr.rest i h.has hne).trans h.at_;obtain ⟨z,z1,z2⟩:=h.oc.proto
 have hmem: ∀x∈sl,x∈c.Zc\/x=r.1:=fun x hx=>by
  obtain ⟨m,hm⟩:=List.getElem?_of_mem hx
  cases m with
  |zero=>rw [h0] at hm;exact .inl (Yd hm)
  |succ m=>
   by_cases e:m=n
   ·subst e;exact .inr (YM (hm.symm.trans h1))
   rw [h3 m e] at hm;exact .inl (Yd hm)
 have hval: ∀x∈sl++c.Zb,ValW r.2.Zo.m_ x:=fun x hx=>by
  rcases X7.1 hx with hx|hx
  ·rcases hmem x hx with hx|rfl
   ·exact (h.val (W3 _ hx)).mono hr.fr.has
   exact hr.val
  exact (h.val (W4 _ hx)).mono hr.fr.has
 have hR:bN (⟨c.Za,sh,c.Ze,c.Zg,sl,c.Zb⟩:WI)=true:=by
  obtain ⟨s',s1', -⟩:=hrow.has ht;refine yT h.oc.kind s1'.1 hrc.2.1 hrc.2.2 (fun x hx=>(hval x (W3 _ hx)).may) (fun x hx=>(hval x (W4 _ hx)).may) (by show sl.length<=1025;omega) (z:=z) (by show sl[0]? =some z;rw [h0];exact z1) z2 (by show c.Zb.length<=4096;omega) h.oc.plain
 obtain ⟨e1,e2,e3,e4⟩:=HK (k':=k+4) (M':=c.Zb.length) hN hv hvN I hM hr.wd hi hat (c':=⟨c.Za,sh,c.Ze,c.Zg,sl,c.Zb⟩) rfl h.oc.kind hR (fun x hx=>⟨(hval x hx).i64,(hval x hx).ref⟩) (by show k+3+sl.length<=k+4+c.Zc.length;omega) (YB _);have hfr:FrW w (HO r.2 (iu r.2.Zo i ⟨c.Za,sh,c.Ze,c.Zg,sl,c.Zb⟩)):=FrW.trans (b:=r.2) ⟨hr.fr.roots,hr.fr.has,hr.fr.spent,hr.fr.config,hr.fr.epoch⟩ e3
 -- cells of pairs that are not written stay
 have hkeep: ∀a,aZ w.Zo.m_ a=true->a≠i->(old.Za=9->old.N≠a)->cn (iu r.2.Zo i (⟨c.Za,sh,c.Ze,c.Zg,sl,c.Zb⟩:WI)).m_ a=cn w.Zo.m_ a:=fun a ha hni ho=>by
  rw [e4 a (hr.fr.has a ha),if_neg hni,hr.rest a ha ho];rfl
 refine ⟨_,Iv e1 h.oc.noP b,⟨⟨e2.pl,e2.hb,?_,?_⟩,hfr.has i h.has,?_,⟨h.oc.kind,⟨z,by show sl[0]? =some z;rw [h0];exact z1,z2⟩,h.oc.plain,?_,?_,?_,h.oc.noP⟩,fun m p' hp'=> ?_,fun m m' x y hmm hx hy h9 h9'=> ?_⟩,⟨hfr,?_,fun a ha hni hp=> ?_,fun m x hx h9=> ?_⟩⟩
 ·show TI N r.2.Zp;rw [hr.tab];exact ht
 ·show r.2.Zp.Zp.length<=q';rw [hr.tab];exact htb
 ·show cn (iu r.2.Zo i _).m_ i=_;rw [e4 i hi,if_pos rfl]
 ·show Row r.2.Zp sh _;rw [hr.tab];exact hrow
 ·show sl.length=(PL'.map Ju).length+1;rw [YZ];exact hnum
 ·rw [List.map_map];exact hnd
 ·show∃x,sl[m+1]? =some x/\SlotP (iu r.2.Zo i _).m_ p' x;by_cases e:m=n
  ·subst e;have:p'=mU p:=YM (hp'.symm.trans h2);subst this;refine ⟨r.1,h1,hr.slot.move fun a _ _ ha h5=>⟨e3.has a ha,?_⟩⟩;show cn (iu r.2.Zo i _).m_ a=_;rw [e4 a ha,if_neg fun e=> ?_];subst e;rw [hat] at h5;rcases h.oc.kind with hkd|hkd<;>rw [h5] at hkd<;>cases hkd
  rw [h4 m e] at hp';obtain ⟨x,hx,hs⟩:=h.each m p' hp';refine ⟨x,(h3 m e).trans hx,hs.move fun a h9 hxa ha h5=>⟨hfr.has a ha,hkeep a ha (fun e=> ?_) fun ho9 e'=> ?_⟩⟩
  ·subst e;rw [h.at_] at h5;rcases h.oc.kind with hkd|hkd<;>rw [h5] at hkd<;>cases hkd
  rcases hold with ho|ho
  ·exact ho ho9
  exact h.inj n m old x (fun e2=>e e2.symm) ho hx ho9 h9 (e'.trans hxa.symm)
 ·have hx:sl[m+1]? =some x:=hx;have hy:sl[m'+1]? =some y:=hy
  have aux: ∀(a b:Nat) (x y:WV),a=n->b≠n->sl[a+1]? =some x->sl[b+1]? =some y->x.Za=9->y.Za=9->x.N≠y.N:=fun a b x y ea eb hx hy h9 h9' e=>by
   subst ea;rw [h3 b eb] at hy;have:r.1=x:=YM (h1.symm.trans hx);subst this;have a6:=(h.pair9 hy h9').2;rcases hr.fresh h9 with hf|hf
   ·rcases hold with ho|ho
    ·rw [hf] at h9;exact ho h9
    exact h.inj a b old y (fun e2=>eb e2.symm) ho hy (by rw [<-hf];exact h9) h9' (by rw [<-hf];exact e)
   have hf:aZ w.Zo.m_ r.1.N=false:=hf;rw [e,a6] at hf;cases hf
  by_cases e:m=n
  ·exact aux m m' x y e (fun e'=>hmm (e.trans e'.symm)) hx hy h9 h9'
  by_cases e':m'=n
  ·exact fun h=>aux m' m y x e' e hy hx h9' h9 h.symm
  rw [h3 m e] at hx;rw [h3 m' e'] at hy;exact h.inj m m' x y hmm hx hy h9 h9'
 ·show Le w.Zp r.2.Zp;rw [hr.tab];exact hle
 ·refine hkeep a ha hni fun ho9 e=> ?_
  rcases hold with ho|ho
  ·exact ho ho9
  exact hp n old ho ho9 e
 have hx:sl[m+1]? =some x:=hx;by_cases e:m=n
 ·subst e;have:r.1=x:=YM (h1.symm.trans hx);subst this;rcases hr.fresh h9 with hf|hf
  ·rcases hold with ho|ho
   ·rw [hf] at h9;exact absurd h9 ho
   exact .inl ⟨m,by rw [hf];exact ho⟩
  exact .inr hf
 rw [h3 m e] at hx;exact .inl ⟨m,hx⟩
end
end
section
open Go.RowKit
set_option maxRecDepth 20000
theorem AV {q:List α}{n:Nat}{a:α}(h:q[n]? =some a):q.set n a=q:=by
 apply XA;intro j;by_cases e:n=j
 ·subst e;rw [XR (XO.1 h).1,h]
 rw [XQ e]
theorem Jk (p:WU):(mU p).Zf=p.Zf/\(mU p).Zd=p.Zd:=by
 unfold mU;cases decide (ai .i64 p.Zd 8=0)<;>exact ⟨rfl,rfl⟩
def TV (i:Int)(k q:Nat)(w:WM)(c:WI)(PL':List WU)(w':WM):Prop:= ∃c',Obj N i k q w' c' PL'/\Same c c'/\FrO i w w' c c'
theorem EX {N q:Nat}{w:WM}(h:Obj N i k q w c PL)(p:WU):(uq PL p).length<=PL.length+1:=by
 unfold uq;split
 ·rw [X0];omega
 rw [YX,X3];omega
section
variable {N:Nat}(hN:20000<=N)(hv:v.Za=7)(hvN:v.N=i){q:Nat}{w:WM}(h:Obj N i k q w c PL)(hk:k+4<=580)(hq:q+1024<=1000000000)(hM:c.Zb.length<=2200)
include hN hv hvN h hk hq hM
theorem Oq (hp:PropW w.Zo.m_ p)(hR:keyR N p.Zf)(hA:zC p.Zd)(hlen:PL.length<1024):Sat (gp N ⟨c,w,v⟩ p) fun r=>r.1=true/\TV N i (k+4) (q+1024) w c (uq PL (mU p)) r.2.w_:=by
 have hb:w.Zp.Zp.length+1024<=1073741824:=by have:=h.wd.tb;omega
 have hnum:=h.num
 have hwd: ∀t:WQ,Le w.Zp t->TI N t->t.Zp.length<=q+1024->Wd N k (q+1024) c.Zb.length (Kf w t):=fun t _ h2 h3=>⟨h.wd.pl,h.wd.hb,h2,h3⟩
 unfold gp;show Sat (Option.bind (bZ N ⟨c,w,v⟩ p.Zf) _) _
 refine (HH (v:=v) hN I hM h p.Zf).bind fun y hy=> ?_
 rcases hy with ⟨a6,hno⟩|⟨n,u,a6,hn,hu⟩
 ·have y3:y.2.2=false:=by rw [a6]
  rw [y3,nf,ct];obtain ⟨s,s1,s2⟩:=h.oc.row.has h.wd.ti;rw [YZ] at s2
  refine Sat.bind (P:=(· =s.ZC)) ⟨_,KS N s1,J⟩ fun z hz=> ?_
  subst hz
  refine aC (fun h3=>by omega) fun h3=> ?_
  refine (Q2 N I h.wd.ti hb h.oc.row p.Zf p.Zd (fun x hx=> ?_) (by rw [YZ];omega)).bind fun r hr=> ?_
  ·obtain ⟨x',h1,rfl⟩:=Yc.1 hx;exact hno x' h1
  rcases hr with ⟨-, -,r3,r4,r5⟩|⟨r1, -, -⟩
  ·rw [r3];show Sat (Option.bind _ _) _
   have htb:r.2.2.Zp.length<=q+1024:=by have:=r4.num;have:=h.wd.tb;omega
   refine (Oy (w:=Kf w r.2.2) (k:=k) hN I hM (hwd _ r4.le r4.ti htb) (c':=⟨c.Za,r.1,c.Ze,c.Zg,c.Zc,c.Zb⟩) (v':=v) hp (old:=⟨0,0,⟨#[]⟩⟩) (.inl (by show (0:Int)≠9;decide))).bind fun x hx=> ?_
   refine aw (by unfold cF;rw [X3];show c.Zc.length+1<=_;have:=h.len;omega) ?_;unfold nr;have hnk:=Jk p
   obtain ⟨w',e1,e2,e3⟩:=SB hN hv hvN h hk hM r4.ti r4.le htb hx (n:=PL.length) (.inl (by show (0:Int)≠9;decide)) r.1 (c.Zc++ [x.1]) (PL++ [mU p])
    (by rw [X4];show Row r.2.2 r.1 (PL.map Ju++ [((mU p).Zf,(mU p).Zd)]);rw [hnk.1,hnk.2];exact r5)
    (by
     rw [X4];refine Yi.2 ⟨h.nodup,by simp,fun a ha b hb' e=> ?_⟩;rw [List.map_singleton,Yh,hnk.1] at hb';obtain ⟨u,u1,u2⟩:=Yc.1 ha
     exact hno u u1 (by rw [u2,e,hb']))
    (by rw [YX,YX,X3,X3];omega)
    (by rw [YX,X3];omega) (by rw [YX,X3];omega)
    (by rw [XH I])
    (by rw [XI I,show PL.length+1 - c.Zc.length=0 by omega];rfl)
    (by rw [XI (YB _),YG];rfl)
    (fun m hm=>by
     by_cases hlt:m<PL.length
     ·rw [XH I]
     ·rw [XN (by rw [YX,X3];omega),XN I])
    (fun m hm=>by
     by_cases hlt:m<PL.length
     ·rw [XH hlt]
     ·rw [XN (by rw [YX,X3];omega),XN I]) true
   have e1':bJ N ⟨⟨c.Za,r.1,c.Ze,c.Zg,c.Zc++ [x.1],c.Zb⟩,x.2,v⟩ true=some ⟨⟨c.Za,r.1,c.Ze,c.Zg,c.Zc++ [x.1],c.Zb⟩,w',v⟩:=e1
   refine Sat.bind ⟨_,e1',J⟩ fun u hu=> ?_
   subst hu;refine ac ⟨J,⟨c.Za,r.1,c.Ze,c.Zg,c.Zc++ [x.1],c.Zb⟩,?_,⟨J,J,J,?_⟩,e3⟩
   ·rw [D3 fun a ha=>by rw [hnk.1];exact hno a ha];exact e2
   show (c.Zc++ [x.1])[0]? =c.Zc[0]?;rw [XH I]
  exact absurd ⟨hR,hA⟩ r1
 have y1:y.1=u:=by rw [a6]
 have y2:y.2.1=(n:Int):=by rw [a6]
 have y3:y.2.2=true:=by rw [a6]
 rw [y3,nt,cf];have hlt:=(XO.1 hn).1;have hnk:=Jk p;have hl:=h.len
 have e0:(PL.map Ju)[n]? =some (p.Zf,u.Zd):=by rw [XP,hn, <-hu];rfl
 have hset:(PL.set n (mU p)).map Ju=(PL.map Ju).set n (p.Zf,p.Zd):=by
  rw [List.map_set];show (PL.map Ju).set n ((mU p).Zf,(mU p).Zd)=_;rw [hnk.1,hnk.2]
 have hj81: ∀(sh:Int) (t':WQ),Grow N w.Zp t' 1024->Row t' sh ((PL.map Ju).set n (p.Zf,p.Zd))->Sat (gX N y p ⟨c,w,v⟩ sh (Kf w t')) fun r=>r.1=true/\TV N i (k+4) (q+1024) w c (uq PL (mU p)) r.2.w_:=by
  intro sh t' hgr hrow
  have htb:t'.Zp.length<=q+1024:=by have:=hgr.num;have:=h.wd.tb;omega
  unfold gX;rw [y1,y2];refine aw (by show in64 ((n:Int)+1);constructor<;>omega) (aw (by show in64 ((n:Int)+1);constructor<;>omega) (pX (by show 0<=(n:Int)+1;omega) (by show (n:Int)+1<c.Zc.length;omega) fun x hx=> ?_));have hx:c.Zc[((n:Int)+1).toNat]? =some x:=hx;rw [show ((n:Int)+1).toNat=n+1 by omega] at hx
  refine (Oy (w:=Kf w t') (k:=k) hN I hM (hwd _ hgr.le hgr.ti htb) (c':=⟨c.Za,sh,c.Ze,c.Zg,c.Zc,c.Zb⟩) (v':=v) hp (old:=x) ?_).bind fun r hr=> ?_
  ·by_cases h9:x.Za=9
   ·exact .inr (h.pair9 hx h9).1
   exact .inl h9
  refine pX (by show 0<=(n:Int)+1;omega) (by show (n:Int)+1<c.Zc.length;omega) fun x' _=> ?_
  have hlen:(c.Zc.set (n+1) r.1).length=c.Zc.length:=X0 ..
  obtain ⟨w',e1,e2,e3⟩:=SB hN hv hvN h hk hM hgr.ti hgr.le htb hr (n:=n) (.inr hx) sh (c.Zc.set (n+1) r.1) (PL.set n (mU p))
   (by rw [hset];exact hrow)
   (by
    have:(PL.set n (mU p)).map (·.Zf)=PL.map (·.Zf):=by
     rw [List.map_set];refine AV ?_;rw [XP,hn,hnk.1, <-hu];rfl
    rw [this];exact h.nodup)
   (by rw [hlen,X0];omega) (by rw [X0];omega) (by rw [X0];omega)
   (by rw [XQ I]) (XR I) (XR hlt)
   (fun m hm=>by rw [XQ I]) (fun m hm=>by rw [XQ I]) (!decide (u.Zd=p.Zd))
  have e1':bJ N ⟨⟨c.Za,sh,c.Ze,c.Zg,List.set c.Zc (((n:Int)+1).toNat) (⟨r.1.Za,r.1.N,r.1.S⟩:WV),c.Zb⟩,r.2,v⟩ (!decide (u.Zd=p.Zd))=some ⟨⟨c.Za,sh,c.Ze,c.Zg,c.Zc.set (n+1) r.1,c.Zb⟩,w',v⟩:=by
   rw [show ((n:Int)+1).toNat=n+1 by omega];exact e1
  refine Sat.bind ⟨_,e1',J⟩ fun z hz=> ?_
  subst hz;refine ac ⟨J,⟨c.Za,sh,c.Ze,c.Zg,c.Zc.set (n+1) r.1,c.Zb⟩,?_,⟨J,J,J,?_⟩,e3⟩
  ·rw [yZ h.nodup hn (by rw [hnk.1];exact hu)];exact e2
  show (c.Zc.set (n+1) r.1)[0]? =c.Zc[0]?;rw [XQ I]
 rw [y1]
 refine D0 (fun e=> ?_) fun e=> ?_
 ·refine (N3 N I h.wd.ti hb h.oc.row h.oc.nd p.Zf p.Zd n u.Zd e0).bind fun r hr=> ?_
  rcases hr with ⟨-,r3,r4,r5⟩|⟨r1, -, -⟩
  ·rw [r3,WY (p:=(0:Int)=0) rfl,nt,cf];exact hj81 r.1 r.2.2 r4 r5
  exact absurd hA r1
 refine hj81 c.Zi w.Zp ⟨h.wd.ti,Le.refl _,by omega⟩ ?_;rw [AV (by rw [e0,YV e])];exact h.oc.row
end
end
section
open Go.RowKit
set_option maxRecDepth 20000
def Il (c:WI):Bool:=!decide (ai .i64 c.Ze 1=0)
def pP (PL:List WU)(key:WL):List WU:=PL.filter fun p=> !decide (p.Zf=key)
theorem Mw (h:∀p∈PL,p.Zf≠key):pP PL key=PL:=XD.2 fun p hp=>by simp [h p hp]
theorem My: ∀{PL:List WU} {n:Nat} {p:WU},(PL.map (·.Zf)).Nodup->PL[n]? =some p->p.Zf=key->PL.eraseIdx n=pP PL key
 |a::PL,0,p,hn,hp,e=>by
  have:a=p:=YM hp;subst this;rw [X5,Yj] at hn
  have h2:pP PL key=PL:=Mw fun x hx e'=>hn.1 (Yc.2 ⟨x,hx,e'.trans e.symm⟩)
  unfold pP at h2⊢;rw [XC,WY e,h2];rfl
 |a::PL,n+1,p,hn,hp,e=>by
  rw [X5,Yj] at hn;have hp:PL[n]? =some p:=hp
  have ha:a.Zf≠key:=fun e'=>hn.1 (Yc.2 ⟨p,Yd hp,e.trans e'.symm⟩)
  have:=My hn.2 hp e;unfold pP at this⊢;rw [List.eraseIdx_cons_succ,this,XC,WZ ha];rfl
section
variable {N:Nat}(hN:20000<=N)(hv:v.Za=7)(hvN:v.N=i){q:Nat}{w:WM}(h:Obj N i k q w c PL)
include hN hv hvN h
theorem Kp (hk:k<=580)(m:List WV)(hm:m.length<=2200)(hmv:∀x∈m,ValW w.Zo.m_ x)(a6:c.Za=1->m=[])(f:Int)(hf:0<=f/\f<=63)(a7:ai .i64 f 16=0):
  ∃w',az N w v ⟨c.Za,c.Zi,f,c.Zg,c.Zc,m⟩=some w'/\Obj N i k q w' ⟨c.Za,c.Zi,f,c.Zg,c.Zc,m⟩ PL/\FrO i w w' c ⟨c.Za,c.Zi,f,c.Zg,c.Zc,m⟩:=by
 have hrc:=lR h.right;have hnum:=h.num;have hl:=h.len;obtain ⟨z,z1,z2⟩:=h.oc.proto
 have hval: ∀x∈c.Zc++m,ValW w.Zo.m_ x:=fun x hx=>by
  rcases X7.1 hx with hx|hx
  ·exact h.val (W3 _ hx)
  exact hmv x hx
 have hR:bN (⟨c.Za,c.Zi,f,c.Zg,c.Zc,m⟩:WI)=true:=yT h.oc.kind hrc.1 hf hrc.2.2 (fun x hx=>(hval x (W3 _ hx)).may) (fun x hx=>(hval x (W4 _ hx)).may) (by show c.Zc.length<=1025;omega) z1 z2 (by show m.length<=4096;omega) a6;obtain ⟨e1,e2,e3,e4⟩:=HK (k':=k) (M':=m.length) hN hv hvN hk hm h.wd h.has h.at_ (c':=⟨c.Za,c.Zi,f,c.Zg,c.Zc,m⟩) rfl h.oc.kind hR (fun x hx=>⟨(hval x hx).i64,(hval x hx).ref⟩) (YB _) (by show c.Zb.length+m.length<=m.length+c.Zb.length;omega);refine ⟨_,e1,⟨e2,e3.has i h.has,?_,⟨h.oc.kind,⟨z,z1,z2⟩,a6,h.oc.row,h.oc.num,h.oc.nd,a7⟩,fun n p hp=> ?_,h.inj⟩,⟨e3,Le.refl _,fun a ha hne _=> ?_,fun n x hx _=> .inl ⟨n,hx⟩⟩⟩
 ·show cn (iu w.Zo i _).m_ i=_;rw [e4 i h.has,if_pos rfl]
 ·obtain ⟨x,hx,hs⟩:=h.each n p hp;refine ⟨x,hx,hs.move fun a _ _ ha h5=>⟨e3.has a ha,?_⟩⟩;show cn (iu w.Zo i _).m_ a=_;rw [e4 a ha,if_neg fun e=> ?_];subst e;rw [h.at_] at h5;rcases h.oc.kind with hkd|hkd<;>rw [h5] at hkd<;>cases hkd
 show cn (iu w.Zo i _).m_ a=_;rw [e4 a ha,if_neg hne]
variable (hk:k+4<=580)(hq:q+1024<=1000000000)(hM:c.Zb.length<=2200)
include hk hq hM
theorem GU (hR:keyR N key){d:WG}{ok:Bool}(ha:du N (nc PL key).1 (nc PL key).2 (Il c) key d=some (p,ok))(hg:ok=true->PropW w.Zo.m_ p/\p.Zf=key/\zC p.Zd)(hlen:PL.length<1024):
  Sat (jW N w v key d) fun r=>r.1=ok/\(ok=false->r.2=w)/\(ok=true->TV N i (k+4) (q+1024) w c (uq PL (mU p)) r.2):=by
 unfold jW;rw [GT hv hvN I hM h,bs];show Sat (Option.bind (bc N key) _) _;rw [show bc N key=some true from hR,bs,nt,cf];show Sat (Option.bind (bZ N ⟨c,w,v⟩ key) _) _
 refine (HH (v:=v) hN I hM h key).bind fun y hy=> ?_
 have e:y.1=(nc PL key).1/\y.2.2=(nc PL key).2:=by
  rcases hy with ⟨rfl,hno⟩|⟨n,u,rfl,hn,rfl⟩
  ·rw [Bv hno];exact ⟨J,J⟩
  rw [qg h.nodup hn];exact ⟨J,J⟩
 have ha':du N y.1 y.2.2 (!decide (ai .i64 c.Ze 1=0)) key d=some (p,ok):=by rw [e.1,e.2];exact ha
 refine Sat.bind (P:=(· =(p,ok))) ⟨_,ha',J⟩ fun z hz=> ?_
 subst hz
 cases ok with
 |false=>exact ac ⟨rfl,fun _=>rfl,fun h=>by cases h⟩
 |true=>
  obtain ⟨g1,g2,g3⟩:=hg rfl;show Sat (Option.bind (gp N ⟨c,w,v⟩ p) _) _
  exact (Oq hN hv hvN h hk hq hM g1 (by rw [g2];exact hR) g3 hlen).bind fun r hr=>ac ⟨hr.1,(fun h=>by cases h),fun _=>hr.2⟩
theorem SR (hR:keyR N key)(hx:ValW w.Zo.m_ x)(h9:x.Za≠9){a:Int}(ha:0<=a/\a<=7)(hA:zC a)(hlen:PL.length<1024):
  Sat (sQ N w v key x a) fun r=>r.1=true/\TV N i (k+4) (q+1024) w c (uq PL (mU ⟨key,a,x,v0,v0⟩)) r.2:=by
 unfold sQ;rw [GT hv hvN I hM h,bs];show Sat (Option.bind (bc N key) _) _;rw [show bc N key=some true from hR,bs,nt,cf,bs,WZ (show¬a<0 by omega),cf,bs,WZ (show¬7<a by omega),cf];have hz:=Qs w.Zo.m_
 exact (Oq hN hv hvN h hk hq hM (p:=⟨key,a,x,v0,v0⟩) ⟨⟨hx,h9⟩,⟨hz,.inl J⟩,⟨hz,.inl J⟩⟩ hR hA hlen).bind fun r hr=>ac hr
theorem CK (key:WL):Sat (fQ N w v key) fun r=>
  ((nc PL key).2=false/\r=(true,w))\/((nc PL key).2=true/\ai .i64 (nc PL key).1.Zd 4=0/\r=(false,w))\/
  ((nc PL key).2=true/\ai .i64 (nc PL key).1.Zd 4≠0/\r.1=true/\TV N i k (q+1024) w c (pP PL key) r.2):=by
 have hb:w.Zp.Zp.length+1024<=1073741824:=by have:=h.wd.tb;omega
 have hrc:=lR h.right;have hnum:=h.num;have hl:=h.len;obtain ⟨z,z1,z2⟩:=h.oc.proto;unfold fQ;rw [GT hv hvN I hM h,bs];show Sat (Option.bind (bZ N ⟨c,w,v⟩ key) _) _
 refine (HH (v:=v) hN I hM h key).bind fun y hy=> ?_
 rcases hy with ⟨a6,hno⟩|⟨n,u,a6,hn,hu⟩
 ·have y3:y.2.2=false:=by rw [a6]
  rw [y3,nf,ct];exact ac (.inl ⟨by rw [Bv hno],rfl⟩)
 have y1:y.1=u:=by rw [a6]
 have y2:y.2.1=(n:Int):=by rw [a6]
 have y3:y.2.2=true:=by rw [a6]
 have hown:nc PL key=(u,true):=by rw [<-hu];exact qg h.nodup hn
 rw [y3,nt,cf,y1,y2,hown];have hlt:=(XO.1 hn).1
 refine aC (fun h4=>ac (.inr (.inl ⟨J,h4,J⟩))) fun h4=> ?_
 have hnl:(PL.map Ju)[n]? =some (key,u.Zd):=by rw [XP,hn, <-hu];rfl
 show Sat (Option.bind (d8 N w.Zp c.Zi key) _) _
 refine (Ka N I h.wd.ti hb h.oc.row h.oc.nd key n _ hnl).bind fun r hr=> ?_
 obtain ⟨r3,r4,r5⟩:=hr;rw [r3,WY (p:=(0:Int)=0) rfl,nt,cf];refine aw (by constructor<;>omega) (aw (by constructor<;>omega) ?_)
 have e3:c.Zc.take ((n:Int)+1).toNat++c.Zc.drop ((n:Int)+2).toNat=c.Zc.eraseIdx (n+1):=by
  rw [List.eraseIdx_eq_take_drop_succ];congr 1
 have e4:oT N c.Zc ((n:Int)+1) ((n:Int)+2)=some (c.Zc.eraseIdx (n+1)):=by
  unfold oT;rw [cU I,e3]
 refine Sat.bind (P:=(· =c.Zc.eraseIdx (n+1))) ⟨_,e4,J⟩ fun s hs=> ?_
 subst hs;have hlen:(c.Zc.eraseIdx (n+1)).length=c.Zc.length - 1:=List.length_eraseIdx_of_lt I;have hlen2:(PL.eraseIdx n).length=PL.length - 1:=List.length_eraseIdx_of_lt hlt
 have hmap:(PL.eraseIdx n).map Ju=(PL.map Ju).eraseIdx n:=by
  rw [List.eraseIdx_eq_take_drop_succ,X4,List.map_take,List.map_drop, <-List.eraseIdx_eq_take_drop_succ]
 rw [<-hmap] at r5
 have hm: ∀x∈c.Zc.eraseIdx (n+1)++c.Zb,ValW w.Zo.m_ x:=fun x hx=>by
  rcases X7.1 hx with hx|hx
  ·exact h.val (W3 _ (List.mem_of_mem_eraseIdx hx))
  exact h.val (W4 _ hx)
 have h00:(c.Zc.eraseIdx (n+1))[0]? =c.Zc[0]? :=List.getElem?_eraseIdx_of_lt I
 have hS: ∀m:Nat,(c.Zc.eraseIdx (n+1))[m+1]? =c.Zc[(if m<n then m else m+1)+1]? :=fun m=>by
  rw [List.getElem?_eraseIdx];by_cases e:m<n
  ·rw [if_pos I,if_pos e]
  rw [if_neg I,if_neg e]
 obtain ⟨s',s1', -⟩:=r5.has r4.ti;have hR:bN (⟨c.Za,r.1,c.Ze,c.Zg,c.Zc.eraseIdx (n+1),c.Zb⟩:WI)=true:=yT h.oc.kind s1'.1 hrc.2.1 hrc.2.2 (fun x hx=>(hm x (W3 _ hx)).may) (fun x hx=>(hm x (W4 _ hx)).may) (by show (c.Zc.eraseIdx (n+1)).length<=1025;omega) (z:=z) (h00.trans z1) z2 (by show c.Zb.length<=4096;omega) h.oc.plain
 have htb:r.2.2.Zp.length<=q+1024:=by have:=r4.num;have:=h.wd.tb;omega
 have hwd:Wd N k (q+1024) c.Zb.length (Kf w r.2.2):=⟨h.wd.pl,h.wd.hb,r4.ti,htb⟩;obtain ⟨e5,e6,e7,e8⟩:=HK (k':=k) (M':=c.Zb.length) hN hv hvN I hM hwd h.has h.at_ (c':=⟨c.Za,r.1,c.Ze,c.Zg,c.Zc.eraseIdx (n+1),c.Zb⟩) rfl h.oc.kind hR (fun x hx=>⟨(hm x hx).i64,(hm x hx).ref⟩) (by show k+(c.Zc.eraseIdx (n+1)).length<=k+c.Zc.length;omega) (YB _)
 have e8: ∀x,aZ w.Zo.m_ x=true->cn (iu w.Zo i (⟨c.Za,r.1,c.Ze,c.Zg,c.Zc.eraseIdx (n+1),c.Zb⟩:WI)).m_ x=if x=i then ⟨c.Za,r.1,c.Ze,c.Zg,c.Zc.eraseIdx (n+1),c.Zb⟩ else cn w.Zo.m_ x:=e8
 have e9:=Iv (c':=⟨c.Za,r.1,c.Ze,c.Zg,c.Zc.eraseIdx (n+1),c.Zb⟩) e5 h.oc.noP true
 refine Sat.bind ⟨_,e9,J⟩ fun u' hu'=> ?_
 subst hu';refine ac (.inr (.inr ⟨J,h4,J,⟨c.Za,r.1,c.Ze,c.Zg,c.Zc.eraseIdx (n+1),c.Zb⟩,?_,⟨J,J,J,h00⟩,?_⟩))
 ·rw [<-My h.nodup hn hu];refine ⟨e6,e7.has i h.has,?_,⟨h.oc.kind,⟨z,h00.trans z1,z2⟩,h.oc.plain,r5,?_,?_,h.oc.noP⟩,fun m p hp=> ?_,fun m1 m2 x y hne h1 h2=> ?_⟩
  ·show cn (iu w.Zo i _).m_ i=_;rw [e8 i h.has,if_pos rfl]
  ·show (c.Zc.eraseIdx (n+1)).length=_;rw [YZ];omega
  ·rw [hmap,List.eraseIdx_eq_take_drop_succ,X4,List.map_take,List.map_drop, <-List.eraseIdx_eq_take_drop_succ];exact List.Nodup.sublist (List.eraseIdx_sublist ..) h.oc.nd
  ·have hP:(PL.eraseIdx n)[m]? =PL[if m<n then m else m+1]? :=by
    rw [List.getElem?_eraseIdx];split<;>rfl
   rw [hP] at hp;obtain ⟨x,hx,hsl⟩:=h.each _ p hp;refine ⟨x,(hS m).trans hx,hsl.move fun a _ _ ha h5=>⟨e7.has a ha,?_⟩⟩;show cn (iu w.Zo i _).m_ a=_;rw [e8 a ha,if_neg fun e=> ?_];subst e;rw [h.at_] at h5;rcases h.oc.kind with hkd|hkd<;>rw [h5] at hkd<;>cases hkd
  rw [hS] at h1 h2;refine h.inj _ _ x y (fun e=>hne ?_) h1 h2;split at e<;>split at e<;>omega
 refine ⟨FrW.trans (b:=Kf w r.2.2) ⟨J,fun _ h=>h,J,J,J⟩ e7,r4.le,fun a ha hne _=> ?_,fun m x hx _=> .inl ⟨_,(hS m).symm.trans hx⟩⟩;show cn (iu w.Zo i _).m_ a=_;rw [e8 a ha,if_neg hne]
end
end
section
open Go.RowKit
set_option maxRecDepth 20000
def bU:WV:=⟨8,0,⟨#[]⟩⟩
def lenK:WL:=⟨1,0,(⟨#[108,101,110,103,116,104]⟩:ByteArray)⟩
def jx (n:Int):WL:=⟨0,n,⟨#[]⟩⟩
def vb (d:WO):WU:=⟨lenK,bif d.Zs then 0 else 1,⟨3,(d.Zk.length:Int),⟨#[]⟩⟩,v0,v0⟩
def qS (E:List WV)(k:WL):Option WV:=bif decide (k=jx k.N)&&decide (0<=k.N) then (match E[k.N.toNat]? with
 |some x=>bif decide (x=bU) then none else some x
 |none=>none) else none
def iQ (d:WO)(k:WL):WU×Bool:=bif decide (k=lenK) then (vb d,true) else match qS d.Zk k with
 |some x=>(⟨k,7,x,v0,v0⟩,true)
 |none=>nc d.Zm k
def cE (E:List WV)(n:Int):List WV:=E++List.replicate (n.toNat - E.length) bU
def qK (s:Int)(p:WU):Int:=bif decide (p.Zf.Za=0)&&decide (ai .i64 p.Zd 4=0) then max s (p.Zf.N+1) else s
def nX (PL:List WU)(n:Int):Int:=PL.foldl qK n
def fc (s:Int)(p:WU):Bool:=!(decide (p.Zf.Za=0)&&decide (s<=p.Zf.N))
def It (d:WO)(n:Int):WO:=⟨d.Ext,d.Zs,d.Zk.take (nX d.Zm n).toNat,d.Zm.filter (fc (nX d.Zm n))⟩
structure Wf (d:WO):Prop where
 idx: ∀p∈d.Zm,p.Zf.Za=0->p.Zf=jx p.Zf.N/\0<=p.Zf.N/\d.Zk[p.Zf.N.toNat]? =some bU
 len: ∀p∈d.Zm,p.Zf≠lenK
 nd:(d.Zm.map (·.Zf)).Nodup
 hole: ∀x∈d.Zk,x.Za=8->x=bU
theorem yl {k:WL}:(∃(n:Nat) (p:WU),PL[n]? =some p/\p.Zf=k/\ ∀m,m<n-> ∀r,PL[m]? =some r->r.Zf≠k)\/ ∀p∈PL,p.Zf≠k:=by
 induction PL with
 |nil=>right;intro p hp;cases hp
 | cons a PL ih=>
  by_cases e:a.Zf=k
  ·left;exact ⟨0,a,J,e,fun m hm=>by omega⟩
  rcases ih with ⟨n,p,h1,h2,h3⟩|h
  ·left;refine ⟨n+1,p,h1,h2,fun m hm r hr=> ?_⟩
   cases m with
   |zero=>obtain rfl:a=r:=YM hr;exact e
   |succ m=>exact h3 m I r hr
  right;intro p hp;rcases X8.1 hp with rfl|hp
  ·exact e
  exact h p hp
section
variable {N:Nat}(hN:20000<=N){d:WO}(hE:d.Zk.length<=5000)(hP:d.Zm.length<=1024)
include hN hP
theorem E3 {k:WL}{n:Nat}(h1:d.Zm[n]? =some p)(h2:p.Zf=k)(h3:∀m,m<n-> ∀r,d.Zm[m]? =some r->r.Zf≠k):lD N d k=some (n:Int):=by
 have hlt:=(XO.1 h1).1
 have key: ∀m i:Nat,n<m+i->i<=n->qa N d k m (i:Int)=some (n:Int):=by
  intro m
  induction m with
  |zero=>intro i a b;omega
  | succ m ih=>
   intro i a b;rw [qa.eq_2,fN I,ct,aK (by omega:i<d.Zm.length),bs];by_cases e:i=n
   ·subst e;rw [(XO.1 h1).2,WY h2,ct]
   rw [WZ (h3 i I _ (XM I)),cf,r64 I I];exact ih (i+1) I I
 exact key N 0 I I
theorem E1 {k:WL}(h:∀p∈d.Zm,p.Zf≠k):lD N d k=some (-1):=by
 have key: ∀m i:Nat,d.Zm.length<m+i->i<=d.Zm.length->qa N d k m (i:Int)=some (-1):=by
  intro m
  induction m with
  |zero=>intro i a b;omega
  | succ m ih=>
   intro i a b;rw [qa.eq_2];by_cases e:i<d.Zm.length
   ·rw [fN I,ct,aK e,bs,WZ (h _ (Y5 e)),cf,r64 I I];exact ih (i+1) I I
   rw [fC I,cf];rfl
 exact key N 0 I I
theorem OO {k:WL}{n:Nat}(hnd:(d.Zm.map (·.Zf)).Nodup)(h1:d.Zm[n]? =some p)(h2:p.Zf=k):nc d.Zm k=(p,true):=by
 have _:=hN
 have _:=hP
 rw [<-h2];exact qg hnd h1
include hE
theorem HV (hw:Wf d)(k:WL):nJ N d k=some (iQ d k):=by
 have _:=hE
 have hrest:((lD N d k).bind fun a6=>bif decide (a6<0) then (some ((⟨(⟨0,0,⟨#[]⟩⟩:WL),0,(⟨0,0,⟨#[]⟩⟩:WV),(⟨0,0,⟨#[]⟩⟩:WV),(⟨0,0,⟨#[]⟩⟩:WV)⟩:WU),false)) else ((aq d.Zm a6).bind fun a7=>some (a7,true)))=some (nc d.Zm k):=by
  rcases yl (PL:=d.Zm) (k:=k) with ⟨n,p,h1,h2,h3⟩|h
  ·have hlt:=(XO.1 h1);rw [E3 hN hP h1 h2 h3,bs,fC I,cf,aK hlt.1,bs,hlt.2,OO hN hP hw.nd h1 h2]
  rw [E1 hN hP h,bs,Bv h];rfl
 have e0:dp N=some lenK:=rfl;unfold nJ;rw [e0,bs];unfold iQ;by_cases hl:k=lenK
 ·rw [WY hl,ct,ct];unfold wo vb;cases d.Zs<;>rw [hl]<;>rfl
 rw [WZ hl,cf,cf,hrest];unfold qS;by_cases h0:k.Za=0
 ·rw [WY h0,ct,bs];by_cases hS:k=jx k.N
  ·have hS':(k.S.toList==(⟨#[]⟩:ByteArray).toList)=true:=by rw [hS];exact beq_self_eq_true _
   rw [hS',ct,bs,WY hS];by_cases hn:0<=k.N
   ·rw [WY hn,ct,bs,Xi,cond_true];by_cases hlt:k.N<(d.Zk.length:Int)
    ·have hlt':k.N.toNat<d.Zk.length:=by omega
     have hg:aq d.Zk k.N=some d.Zk[k.N.toNat]:=by
      have:=aK hlt'
      rwa [show ((k.N.toNat:Nat):Int)=k.N by omega] at this
     rw [WY hlt,ct,hg,bs,bs,XM hlt'];by_cases h8:d.Zk[k.N.toNat].Za=8
     ·have e:=hw.hole _ (Y5 hlt') h8;rw [WY h8,e];rfl
     have e:d.Zk[k.N.toNat]≠bU:=fun e=>h8 (by rw [e];rfl)
     rw [WZ h8,nf,ct,bs];simp only [WZ e,cond_false];rfl
    rw [WZ hlt,cf,bs,cf,XN I]
   rw [WZ hn,cf,bs,cf,bs,cf,Xf,cond_false]
  have hS':(k.S.toList==(⟨#[]⟩:ByteArray).toList)=false:=by
   cases e:(k.S.toList==(⟨#[]⟩:ByteArray).toList) with
   |false=>rfl
   |true=>
    refine absurd ?_ hS;have:k.S=⟨#[]⟩:=oS.1 (eq_of_beq e);obtain ⟨a,b,s⟩:=k;simp only at this h0;subst this h0;rfl
  rw [hS',cf,bs,cf,bs,cf,WZ hS,Xg,cond_false];rfl
 rw [WZ h0,cf,bs,cf,bs,cf,bs,cf,WZ (fun e=>h0 (by rw [e];rfl)),Xg,cond_false];rfl
end
section
variable {N:Nat}(hN:20000<=N){d:WO}(hE:d.Zk.length<=5000)(hP:d.Zm.length<=1024)
include hN hP
theorem LK (hnd:(d.Zm.map (·.Zf)).Nodup)(p:WU):nl N d p=some ⟨d.Ext,d.Zs,d.Zk,uq d.Zm p⟩:=by
 unfold nl;rcases yl (PL:=d.Zm) (k:=p.Zf) with ⟨n,u,h1,h2,h3⟩|h
 ·have hlt:=(XO.1 h1);rw [E3 hN hP h1 h2 h3,bs,cU (by simp only [XZ];omega),fC I,cf,Y4,aK hlt.1,bs,Xo,yZ hnd h1 h2];rfl
 rw [E1 hN hP h,bs,cU (by simp only [XZ];omega)];show (aL _ _)=_;rw [Y4,cU (by simp only [XW,XZ];omega),D3 h];rfl
theorem tL (k:WL):ei N d k=some ⟨d.Ext,d.Zs,d.Zk,pP d.Zm k⟩:=by
 have key: ∀(m i:Nat) (p:List WU),d.Zm.length<m+i->i<=d.Zm.length->p.length<=i->ll N d k m p (i:Int)=some ⟨d.Ext,d.Zs,d.Zk,p++pP (d.Zm.drop i) k⟩:=by
  intro m
  induction m with
  |zero=>intro i p a b;omega
  | succ m ih=>
   intro i p a b hp;rw [ll.eq_2];by_cases e:i<d.Zm.length
   ·have hdrop:d.Zm.drop i=d.Zm[i]::d.Zm.drop (i+1):=Xv e;rw [fN I,ct,aK e,bs];unfold oV;by_cases hk:d.Zm[i].Zf=k
    ·rw [WY hk,nt,cf,r64 I I];refine (ih (i+1) p I I I).trans ?_;rw [hdrop];unfold pP;rw [XC,WY hk];rfl
    rw [WZ hk,nf,ct,bs,cU (by rw [X3];omega),r64 I I];refine (ih (i+1) (p++ [d.Zm[i]]) I I (by rw [YX,X3];omega)).trans ?_;rw [hdrop];unfold pP;rw [XC,WZ hk,W2];rfl
   rw [fC I,cf,List.drop_of_length_le I];unfold tO pP;rw [List.filter_nil,Xr]
 exact key N 0 [] I I (YB _)
omit hP in
include hE in
theorem HW (n:Int)(hn:n<=5000):nm N d n=some ⟨d.Ext,d.Zs,cE d.Zk n,d.Zm⟩:=by
 have key: ∀(m:Nat) (p:List WV),5001<m+p.length->p.length<=5000->sK N n d m p=some ⟨d.Ext,d.Zs,cE p n,d.Zm⟩:=by
  intro m
  induction m with
  |zero=>intro p a b;omega
  | succ m ih=>
   intro p a b;have e0:ir N=some bU:=rfl;rw [sK.eq_2];by_cases e:(p.length:Int)<n
   ·rw [WY e,ct,e0,bs,rF (by rw [X3];omega),ih (p++ [bU]) (by rw [YX,X3];omega) (by rw [YX,X3];omega)];unfold cE;rw [W2,show n.toNat - p.length=(n.toNat - (p++ [bU]).length)+1 by rw [YX,X3];omega];rfl
   rw [WZ e,cf];unfold xO cE;rw [show n.toNat - p.length=0 by omega,List.replicate_zero,Xr]
 unfold nm;rw [rF (by simp only [XZ];omega),Y4];exact key N d.Zk I hE
end
theorem zd (E:List WV)(n:Int):(cE E n).length=max E.length n.toNat:=by
 unfold cE;rw [YX,List.length_replicate];omega
theorem vK {n:Int}{i:Nat}(h:E[i]? =some x):(cE E n)[i]? =some x:=by
 unfold cE;rw [XH (XO.1 h).1];exact h
theorem zc {n:Int}(h:x∈cE E n):x∈E\/x=bU:=by
 unfold cE at h;rcases X7.1 h with h|h
 ·exact .inl h
 exact .inr (List.eq_of_mem_replicate h)
theorem Fk {n:Int}(h:n<=E.length):cE E n=E:=by
 unfold cE;rw [show n.toNat - E.length=0 by omega,List.replicate_zero,Xr]
end
section
open Go.RowKit
set_option maxRecDepth 20000
def FD (p:WU):Prop:=p.Zf.Za=0/\ai .i64 p.Zd 4=0
theorem Af {s:Int}(h:FD p):qK s p=max s (p.Zf.N+1):=by
 unfold qK;rw [WY h.1,WY h.2];rfl
theorem Es {s:Int}(h:¬FD p):qK s p=s:=by
 unfold qK;by_cases h0:p.Zf.Za=0
 ·rw [WZ (p:=ai .i64 p.Zd 4=0) (fun e=>h ⟨h0,e⟩),Xf,cond_false]
 rw [WZ h0,Xg,cond_false]
theorem yO: ∀(PL:List WU) (n:Int),n<=nX PL n
 | [],n=>Xk _
 |p::PL,n=>by
  have h:=yO PL (qK n p);show n<=PL.foldl qK (qK n p);refine Int.le_trans ?_ h;by_cases hf:FD p
  ·rw [Af hf];omega
  rw [Es hf];omega
theorem yM: ∀(PL:List WU) (n s:Int),n<=s->(∀p∈PL,FD p->p.Zf.N+1<=s)->nX PL n<=s
 | [],n,s,h,_=>h
 |p::PL,n,s,h,hp=>by
  refine yM PL (qK n p) s ?_ fun x hx=>hp x (X9 _ hx)
  by_cases hf:FD p
  ·rw [Af hf];have:=hp p (Ya ..) hf;omega
  rw [Es hf];exact h
theorem Er: ∀(PL:List WU) (n:Int) {p:WU},p∈PL->FD p->p.Zf.N+1<=nX PL n
 | x::PL,n,p,hp,hf=>by
  rcases X8.1 hp with rfl|hp
  ·show p.Zf.N+1<=PL.foldl qK (qK n p);refine Int.le_trans ?_ (yO PL (qK n p));rw [Af hf];omega
  exact Er PL (qK n x) hp hf
theorem IZ {k:WL}: ∀(PL:List WU) (n:Int),(∀p∈PL,p.Zf=k-> ¬FD p)->nX (pP PL k) n=nX PL n
 | [],_,_=>rfl
 | p::PL,n,h=>by
  have ih:=IZ PL (qK n p) fun x hx=>h x (X9 _ hx)
  unfold pP at ih⊢;rw [XC];by_cases hk:p.Zf=k
  ·rw [WY hk];show nX (PL.filter _) n=PL.foldl qK (qK n p);have h2:=Es (s:=n) (h p (Ya ..) hk);rw [h2] at ih⊢;exact ih
  rw [WZ hk];exact ih
theorem qB {k:WL}:p∈pP PL k↔p∈PL/\p.Zf≠k:=by
 unfold pP;rw [Yb];simp
theorem Is (h:(PL.map (·.Zf)).Nodup)(k:WL):((pP PL k).map (·.Zf)).Nodup:=List.Nodup.sublist (List.Sublist.map _ List.filter_sublist) h
theorem za (hn:(PL.map (·.Zf)).Nodup)(k:WL):(∃p∈PL,p.Zf=k/\nc PL k=(p,true))\/((∀p∈PL,p.Zf≠k)/\nc PL k=(zeroP,false)):=by
 rcases yl (PL:=PL) (k:=k) with ⟨n,p,h1,h2, -⟩|h
 ·exact .inl ⟨p,Yd h1,h2,by rw [<-h2];exact qg hn h1⟩
 exact .inr ⟨h,Bv h⟩
theorem Q5 (hn:(PL.map (·.Zf)).Nodup){r:WU}(hp:p∈PL)(hr:r∈PL)(e:p.Zf=r.Zf):p=r:=by
 obtain ⟨n,hn'⟩:=List.getElem?_of_mem hp;obtain ⟨m,hm'⟩:=List.getElem?_of_mem hr;have h1:=qg hn hn';have h2:=qg hn hm';rw [e] at h1;exact congrArg Prod.fst (h1.symm.trans h2)
theorem JN {i:Nat}(h:E[i]? =some x):qS E (jx i)=bif decide (x=bU) then none else some x:=by
 unfold qS;rw [WY (show jx (i:Int)=jx (jx (i:Int)).N from rfl),WY (show 0<=(jx (i:Int)).N by show (0:Int)<=(i:Int);omega)];show (match E[((i:Int)).toNat]? with|some x=>bif decide (x=bU) then none else some x|none=>none)=_;rw [Xo,h]
theorem Mb (n:Int):jx n≠lenK:=fun e=>by cases congrArg WL.Za e
section
variable {N:Nat}(hN:20000<=N)(n:Nat)
include hN
theorem Sy (e f:Bool): ∀(m:Nat) (E:List WV) (PL:List WU),E.length<n+m->n<=E.length->E.length<=5000->PL.length<=1024->Wf ⟨e,f,E,PL⟩->pD N (n:Int) m e f E PL=some (It ⟨e,f,E,PL⟩ n,decide (nX PL n=n))
 |0,E,PL,h0,h1,_,_,_=>by omega
 | m + 1,E,PL,h0,h1,h2,h3,hw=>by
  rw [pD.eq_2];by_cases hlt:n<E.length
  ·obtain ⟨L,hL⟩: ∃L:Nat,E.length=L+1:=⟨E.length - 1,by omega⟩
   have hk:(⟨0,(E.length:Int) - 1,⟨#[]⟩⟩:WL)=jx (L:Int):=by rw [hL];show (⟨0,_,_⟩:WL)=⟨0,_,_⟩;congr 1;omega
   have eL:((E.length:Int) - 1)=(L:Int):=by omega
   have hx:E[L]? =some E[L]:=XM I;have hown:=HV hN (d:=⟨e,f,E,PL⟩) h2 h3 hw (jx (L:Int));have hwo:=tL hN (d:=⟨e,f,E,PL⟩) h3 (jx (L:Int));rw [fN I,ct,r64 I I,hk,hown,bs]
   have hA:iQ ⟨e,f,E,PL⟩ (jx (L:Int))=match (bif decide (E[L]=bU) then none else some E[L]) with
     |some x=>(⟨jx (L:Int),7,x,v0,v0⟩,true)
     |none=>nc PL (jx (L:Int)):=by
    unfold iQ;rw [WZ (Mb _),cond_false];show (match qS E (jx (L:Int)) with|some x=>_|none=>_)=_;rw [JN hx]
   -- going on below
   have go:(∀p∈PL,p.Zf=jx (L:Int)-> ¬FD p)->((ei N (⟨e,f,E,PL⟩:WO) (jx (L:Int))).bind fun a6=>aL ((0:Int)<=(E.length:Int) - 1/\0<=((E.length:Int) - 1).toNat/\((E.length:Int) - 1).toNat<=a6.Zk.length) ((pD N n m) a6.Ext a6.Zs ((a6.Zk.drop 0).take (((E.length:Int) - 1).toNat - 0)) a6.Zm))=some (It ⟨e,f,E,PL⟩ n,decide (nX PL n=n)):=fun hnf=>by
    have hidx: ∀p∈PL,FD p->p.Zf.N+1<=(L:Int):=fun p hp hf=>by
     obtain ⟨g1,g2,g3⟩:=hw.idx p hp hf.1;have g4:=(XO.1 g3).1;have g4:p.Zf.N.toNat<E.length:=g4;rcases Int.lt_or_le p.Zf.N (L:Int) with h|h
     ·omega
     exact absurd hf (hnf p hp (g1.trans (congrArg jx I)))
    have hs1:=IZ (k:=jx (L:Int)) PL n hnf;have hs2:=yM PL n (L:Int) I hidx;have hs3:=yO PL n;rw [hwo,bs,eL,Xo,cU (by refine ⟨by omega,by omega,?_⟩;show L<=E.length;omega)];show pD N n m e f ((E.drop 0).take (L - 0)) (pP PL (jx (L:Int)))=_;rw [Xy,Nat.sub_zero]
    have hlen:(E.take L).length=L:=by rw [YY];omega
    have hcl:(pP PL (jx (L:Int))).length<=PL.length:=XY ..;rw [Sy e f m (E.take L) (pP PL (jx (L:Int))) I I I I ⟨fun p hp h0=> ?_,fun p hp=>hw.len p (qB.1 hp).1,Is hw.nd _,fun x hx=>hw.hole x (Ye hx)⟩,hs1]
    ·unfold It;simp only [hs1];rw [List.take_take,Nat.min_eq_left I]
     have e2:(pP PL (jx (L:Int))).filter (fc (nX PL n))=PL.filter (fc (nX PL n)):=by
      unfold pP;rw [List.filter_filter]
      refine List.filter_congr fun p hp=> ?_
      by_cases hk:p.Zf=jx (L:Int)
      ·have:fc (nX PL n) p=false:=by
        unfold fc;rw [hk,WY (show (jx (L:Int)).Za=0 from rfl),WY (show nX PL n<=(jx (L:Int)).N from hs2)];rfl
       rw [this];rfl
      rw [WZ hk];simp
     rw [e2]
    obtain ⟨hp1,hp2⟩:=qB.1 hp;obtain ⟨g1,g2,g3⟩:=hw.idx p hp1 h0;have g3:E[p.Zf.N.toNat]? =some bU:=g3;have g4:=(XO.1 g3).1
    have:p.Zf.N≠(L:Int):=fun e'=>hp2 (g1.trans (congrArg jx e'))
    refine ⟨g1,g2,?_⟩;show (E.take L)[p.Zf.N.toNat]? =some bU;rw [List.getElem?_take_of_lt I];exact g3
   rw [hA];by_cases hh:E[L]=bU
   ·rw [WY hh,cond_true];show (Option.bind (bif (nc PL (jx (L:Int))).2 then some (decide (ai .i64 (nc PL (jx (L:Int))).1.Zd 4=0)) else some false) _)=_;rcases za hw.nd (jx (L:Int)) with ⟨p,hp,hpk,ho⟩|⟨hno,ho⟩
    ·rw [ho,ct,bs];by_cases h4:ai .i64 p.Zd 4=0
     ·rw [WY h4,ct];have hf:FD p:=⟨by rw [hpk];rfl,h4⟩
      have s1:nX PL n=(L:Int)+1:=by
       have a:=Er PL n hp hf;rw [hpk] at a
       have b:=yM PL n ((L:Int)+1) I fun r hr hf'=>by
        obtain ⟨g1,g2,g3⟩:=hw.idx r hr hf'.1;have g4:=(XO.1 g3).1;have g4:r.Zf.N.toNat<E.length:=g4;omega
       exact Int.le_antisymm b a
      unfold It;rw [s1,WZ I,show ((L:Int)+1).toNat=E.length by omega];simp only
      rw [Y0,XD.2 fun r hr=>by
       unfold fc;by_cases h0:r.Zf.Za=0
       ·obtain ⟨g1,g2,g3⟩:=hw.idx r hr h0;have g4:=(XO.1 g3).1;have g4:r.Zf.N.toNat<E.length:=g4;rw [WZ (p:=(L:Int)+1<=r.Zf.N) I,Xf];rfl
       ·rw [WZ h0];rfl]
     rw [WZ h4,cf]
     exact go fun r hr hk' hf=>h4 (by rw [Q5 hw.nd hp hr (hpk.trans hk'.symm)];exact hf.2)
    rw [ho,cf,bs,cf]
    exact go fun r hr hk' _=>hno r hr hk'
   rw [WZ hh,cond_false];show (Option.bind (some (decide (ai .i64 7 4=0))) _)=_;rw [bs,WZ (by decide),cf]
   refine go fun r hr hk' _=>hh ?_
   obtain ⟨g1,g2,g3⟩:=hw.idx r hr (by rw [hk'];rfl);rw [hk'] at g3;have g3:E[((L:Int)).toNat]? =some bU:=g3;rw [Xo,hx] at g3;exact YM g3
  have hEn:E.length=n:=by omega
  have hid: ∀p∈PL,p.Zf.Za=0->p.Zf.N+1<=(n:Int):=fun p hp h0=>by
   obtain ⟨g1,g2,g3⟩:=hw.idx p hp h0;have g4:=(XO.1 g3).1;have g4:p.Zf.N.toNat<E.length:=g4;omega
  have s1:nX PL n=n:=Int.le_antisymm (yM PL n n (Xk _) fun p hp hf=>hid p hp hf.1) (yO PL n);rw [fC I,cf];unfold Ao It;rw [s1,WY rfl];simp only
  rw [Xo, <-hEn,Y0,XD.2 fun r hr=>by
   unfold fc;by_cases h0:r.Zf.Za=0
   ·have:=hid r hr h0;rw [WZ (p:=((E.length:Nat):Int)<=r.Zf.N) I,Xf];rfl
   ·rw [WZ h0];rfl]
end
def we (d:WO)(n:Int):WO×Bool:=bif decide (n<0)||decide (4096<n)||(d.Zs&& !decide (n=(d.Zk.length:Int))) then (d,false) else
 (It ⟨d.Ext,d.Zs,cE d.Zk n,d.Zm⟩ n,decide (nX d.Zm n=n))
theorem Wf.long {d:WO}(h:Wf d)(n:Int):Wf ⟨d.Ext,d.Zs,cE d.Zk n,d.Zm⟩:=⟨fun p hp h0=>⟨(h.idx p hp h0).1,(h.idx p hp h0).2.1,vK (h.idx p hp h0).2.2⟩,h.len,h.nd,fun x hx h8=>by
 rcases zc hx with hx|rfl
 ·exact h.hole x hx h8
 ·rfl⟩
theorem CC {N:Nat}(hN:20000<=N){d:WO}(hE:d.Zk.length<=5000)(hP:d.Zm.length<=1024)(hw:Wf d)(n:Int):lV N d n=some (we d n):=by
 unfold lV we;by_cases h0:n<0
 ·rw [WY h0];rfl
 by_cases h1:4096<n
 ·rw [WY h1,WZ h0];rfl
 rw [WZ h0,WZ h1,cf,bs,cf,Bool.false_or,Bool.false_or]
 have e:((bif d.Zs then (some (!decide (n=(d.Zk.length:Int)))) else (some false)).bind fun b7=>some b7)=some (d.Zs&& !decide (n=(d.Zk.length:Int))):=by
  cases d.Zs<;>rfl
 rw [e,bs]
 cases hb:(d.Zs&& !decide (n=(d.Zk.length:Int))) with
 |true=>rfl
 |false=>
  rw [cf,cond_false,HW hN hE n I,bs];obtain ⟨m,rfl⟩: ∃m:Nat,n=m:=⟨n.toNat,by omega⟩;have hl:=zd d.Zk (m:Int);rw [Xo] at hl;unfold CE;have:=Sy hN m d.Ext d.Zs N (cE d.Zk m) d.Zm I I I hP (hw.long m);rw [this,bs]
end
section
open Go.RowKit
set_option maxRecDepth 20000
theorem Qr (N:Nat){x:Int}(h0:0<=x)(h1:x<=255):uI N x 10=some (bif decide (48<=x)&&decide (x<=57) then x - 48 else -1):=by
 have hw:IntKind.i64.wrap x=x:=IntWalk.i64_in _ ⟨by omega,by omega⟩
 have a6: ∀p:Int,oK N 10 p=some (bif decide (10<=p) then -1 else p):=fun p=>by
  unfold oK;cases decide (10<=p)<;>rfl
 have e6: ∀p:Int,p<=15->qe N x 10 p=some (bif decide (65<=x)&&decide (x<=70) then -1 else bif decide (10<=p) then -1 else p):=fun p hp=>by
  unfold qe;rw [hw];by_cases a:65<=x
  ·by_cases b:x<=70
   ·rw [WY a,WY b,ct,bs,ct,r64 I I,r64 I I,a6,WY (show 10<=x - 65+10 by omega)];rfl
   rw [WY a,WZ b,ct,bs,cf,a6];rfl
  rw [WZ a,cf,bs,cf,a6];rfl
 have e1: ∀p:Int,p<=15->qf N x 10 p=some (bif decide (97<=x)&&decide (x<=102) then -1 else bif decide (65<=x)&&decide (x<=70) then -1 else bif decide (10<=p) then -1 else p):=fun p hp=>by
  unfold qf;rw [hw];by_cases a:97<=x
  ·by_cases b:x<=102
   ·rw [WY a,WY b,ct,bs,ct,r64 I I,r64 I I,e6 _ I,WY (show 10<=x - 97+10 by omega),WZ (show¬x<=70 by omega),Xf,cf];rfl
   rw [WY a,WZ b,ct,bs,cf,e6 _ hp];rfl
  rw [WZ a,cf,bs,cf,e6 _ hp];rfl
 unfold uI;rw [hw];by_cases a:48<=x
 ·by_cases b:x<=57
  ·rw [WY a,WY b,ct,bs,ct,r64 I I,e1 _ I,WZ (show¬97<=x by omega),WZ (show¬65<=x by omega),WZ (show¬10<=x - 48 by omega)];rfl
  rw [WY a,WZ b,ct,bs,cf,e1 _ I];show some (bif decide (97<=x)&&decide (x<=102) then (-1:Int) else bif decide (65<=x)&&decide (x<=70) then -1 else -1)=some (-1);cases decide (97<=x)&&decide (x<=102)<;>cases decide (65<=x)&&decide (x<=70)<;>rfl
 rw [WZ a,cf,bs,cf,e1 _ I];show some (bif decide (97<=x)&&decide (x<=102) then (-1:Int) else bif decide (65<=x)&&decide (x<=70) then -1 else -1)=some (-1);cases decide (97<=x)&&decide (x<=102)<;>cases decide (65<=x)&&decide (x<=70)<;>rfl
def OL (y:Int×Bool):Option (Int×Bool):=(bif !y.2 then (some true) else (some (decide (4294967294<y.1)))).bind fun b7=>bif b7 then (some (0,false)) else (some (y.1,true))
theorem Mz (N:Nat)(s:ByteArray)(hs:s.size<=10)(hne:(s.toList==(⟨#[]⟩:ByteArray).toList)=false): ∀(m i:Nat) (p:Int),s.size<m+i->i<=s.size->0<=p->p+1<=(10:Int) ^ i->(ma N s 10 m p (i:Int)).bind OL=nO N s m p (i:Int)
 |0,i,p,h,h1,_,_=>by omega
 | m + 1,i,p,h,h1,h2,h3=>by
  have h10:(10:Int) ^ i<=10 ^ 10:=by
   have:(10:Nat) ^ i<=10 ^ 10:=Nat.pow_le_pow_right I I
   exact_mod_cast this
  rw [show (10:Int) ^ 10=10000000000 from rfl] at h10
  have hb:p<=10000000000:=by omega
  rw [ma.eq_2,nO.eq_2];by_cases hi:i<s.size
  ·obtain ⟨x,hx,a6,a7⟩:=BR (b:=s) (i:=(i:Int)) I I;rw [fN I,ct,ct,hx,bs,bs,Qr N a6 a7,bs];by_cases a:48<=x
   ·by_cases b:x<=57
    ·have ew:IntKind.i64.wrap (IntKind.u8.wrap (x - 48))=x - 48:=by
      have e1:IntKind.u8.wrap (x - 48)=x - 48:=by
       show (x - 48)%256=x - 48;omega
      rw [e1];exact IntWalk.i64_in _ ⟨by omega,by omega⟩
     rw [WY a,WY b,Bool.and_self,ct,WZ (show¬x - 48<0 by omega),cf,WY h2,ct,r64 I I,r64 I I];unfold rD sP;rw [WZ (show¬9007199254740992<p*10+(x - 48) by omega),cf,r64 I I,WZ (show¬x<48 by omega),cf,bs,bs,WZ (show¬57<x by omega),cf,r64 I I,bs,ew,r64 I I,r64 I I,show p*10+(x - 48)=10*p+(x - 48) by omega];exact Mz N s hs hne m (i+1) _ I I I (by rw [Int.pow_succ];omega)
    rw [WY a,WZ b,Xf,cond_false,WY (show (-1:Int)<0 by omega),ct,WZ (show¬x<48 by omega),cf,bs,bs,WY (show 57<x by omega),bs,ct];rfl
   rw [WZ a,Xg,cond_false,WY (show (-1:Int)<0 by omega),ct,WY (show x<48 by omega),ct,bs,bs,ct];rfl
  rw [fC I,cf,cf];unfold wu sT;rw [hne,bs];unfold OL;rw [show (!((p,!false):Int×Bool).2)=false from rfl,cf,bs]
theorem Ri (N:Nat)(hN:20000<=N)(s:ByteArray):uF N s=jc N s:=by
 unfold uF jc
 cases e:(s.toList==(⟨#[]⟩:ByteArray).toList) with
 |true=>rfl
 |false=>
  rw [cf,bs];by_cases h:10<(s.size:Int)
  ·rw [WY h];rfl
  rw [WZ h,cf];have:=Mz N s I e N 0 0 I I I (by decide);have e2:((xX N s 10).bind fun y6=>(bif !y6.2 then (some true) else (some (decide (4294967294<y6.1)))).bind fun b7=>bif b7 then (some (0,false)) else (some (y6.1,true)))=nO N s N 0 0:=this;rw [e2,bs,cf]
theorem HT (N:Nat)(hN:20000<=N)(k:WL):uE N k=bc N k:=by
 unfold uE bc;rw [Ri N hN];obtain ⟨y,hy, -⟩:=Jv N I k.S;rw [hy,bs,bs];cases decide (k.Za=0)<;>cases decide (k.Za=1)<;>cases decide (k.Za=2)<;>cases (k.S.toList==(⟨#[]⟩:ByteArray).toList)<;>cases decide (0<=k.N)<;>cases decide (k.N<=4294967294)<;>cases decide (k.N=0)<;>cases y.2<;>cases decide ((k.S.size:Int)<=65536)<;>cases decide (1<=k.N)<;>rfl
theorem Pc {N:Nat}{k:WL}(h:keyR N k)(h0:k.Za=0):k=jx k.N:=by
 unfold keyR bc at h;rw [WY h0,ct] at h
 have hs:k.S=⟨#[]⟩:=by
  cases e:(k.S.toList==(⟨#[]⟩:ByteArray).toList) with
  |true=>exact oS.1 (eq_of_beq e)
  |false=>rw [e] at h;cases h
 obtain ⟨a,b,s⟩:=k;simp only at h0 hs;subst h0 hs;rfl
set_option maxRecDepth 20000
theorem Cl {a m:Int}{n:Nat}(ha:in64 a)(hm:0<=m)(hmn:m<2 ^ n)(hn:n<=10)(h:be .i64 a m=0):0<=a/\a<2 ^ n:=by
 unfold in64 at ha;have hp:(2:Nat) ^ n<=2 ^ 10:=Nat.pow_le_pow_right I hn
 have hpi:((2:Nat) ^ n:Nat)=((2:Int) ^ n):=by simp
 have hp2:(2:Int) ^ n<=1024:=by rw [<-hpi];exact_mod_cast hp
 have hx:(BitVec.ofInt 64 a&&& ~~~BitVec.ofInt 64 m)=0#64:=by
  apply BitVec.eq_of_toNat_eq;have h':IntKind.i64.wrap ((BitVec.ofInt 64 a&&& ~~~BitVec.ofInt 64 m).toNat:Int)=0:=h;have hlt:=(BitVec.ofInt 64 a&&& ~~~BitVec.ofInt 64 m).isLt;generalize (BitVec.ofInt 64 a&&& ~~~BitVec.ofInt 64 m).toNat=y at h' hlt;rw [IntKind.wrap_i64] at h'
  have hy:y=0:=by omega
  rw [hy];rfl
 have hmt:(BitVec.ofInt 64 m).toNat=m.toNat:=by
  rw [BitVec.toNat_ofInt];have:m%((2 ^ 64:Nat):Int)=m:=Int.emod_eq_of_lt hm (by rw [show ((2 ^ 64:Nat):Int)=18446744073709551616 by decide];omega);rw [this]
 have hlt:(BitVec.ofInt 64 a).toNat<2 ^ n:=by
  refine Nat.lt_pow_two_of_testBit _ fun i hi=> ?_
  have e:=congrArg (fun b=>b.getLsbD i) hx;simp only [BitVec.getLsbD_and,BitVec.getLsbD_not,BitVec.getLsbD_zero] at e
  have hmi:(BitVec.ofInt 64 m).getLsbD i=false:=by
   show (BitVec.ofInt 64 m).toNat.testBit i=false;rw [hmt];refine Nat.testBit_lt_two_pow ?_
   have h1:m.toNat<2 ^ n:=by
    have:(m.toNat:Int)<((2 ^ n:Nat):Int):=by rw [hpi];omega
    exact_mod_cast this
   exact YD h1 (Nat.pow_le_pow_right I hi)
  rw [hmi] at e;show (BitVec.ofInt 64 a).getLsbD i=false;by_cases h64:i<64
  ·rw [WY h64] at e;simpa only [Bool.not_false,Bool.and_true,Xi] using e
  exact BitVec.getLsbD_of_ge _ _ I
 rw [BitVec.toNat_ofInt] at hlt;rw [show ((2 ^ 64:Nat):Int)=18446744073709551616 by decide] at hlt;have h3:(((a%18446744073709551616).toNat:Nat):Int)<((2 ^ n:Nat):Int):=Int.ofNat_lt.2 hlt;rw [hpi] at h3;omega
def sB (n b:Int):Bool:=decide ((n.tdiv b).tmod 2=1)
theorem N7 (N:Nat){a:Int}(h0:0<=a)(h1:a<=63){b:Int}(hb:1<=b):bM N a b=some (sB a b):=by
 unfold bM;refine cU ⟨by omega,?_⟩;rw [Xm h0];have:=Int.ediv_nonneg h0 (show 0<=b by omega);have:=Int.ediv_le_self b h0;constructor<;>omega
theorem DU {b:Bool}{x y:α}:(bif b then some x else some y)=some (bif b then x else y):=by cases b<;>rfl
theorem Rl: ∀n:_root_.Fin 64,be .i64 (n.val:Int) 63=0/\(!decide (ai .i64 (n.val:Int) 3=0))=(sB (n.val:Int) 1||sB (n.val:Int) 2)/\(!decide (ai .i64 (n.val:Int) 12=0))=(sB (n.val:Int) 4||sB (n.val:Int) 8)/\(!decide (ai .i64 (n.val:Int) 1=0))=sB (n.val:Int) 1/\(!decide (ai .i64 (n.val:Int) 2=0))=sB (n.val:Int) 2/\(!decide (ai .i64 (n.val:Int) 4=0))=sB (n.val:Int) 4/\(!decide (ai .i64 (n.val:Int) 8=0))=sB (n.val:Int) 8/\(!decide (ai .i64 (n.val:Int) 16=0))=sB (n.val:Int) 16/\(!decide (ai .i64 (n.val:Int) 32=0))=sB (n.val:Int) 32:=by decide+kernel
structure Six (n:Int):Prop where
 z:be .i64 n 63=0
 b3:(!decide (ai .i64 n 3=0))=(sB n 1||sB n 2)
 b12:(!decide (ai .i64 n 12=0))=(sB n 4||sB n 8)
 b1:(!decide (ai .i64 n 1=0))=sB n 1
 b2:(!decide (ai .i64 n 2=0))=sB n 2
 b4:(!decide (ai .i64 n 4=0))=sB n 4
 b8:(!decide (ai .i64 n 8=0))=sB n 8
 b16:(!decide (ai .i64 n 16=0))=sB n 16
 b32:(!decide (ai .i64 n 32=0))=sB n 32
theorem six {n:Int}(h0:0<=n)(h1:n<=63):Six n:=by
 have hf:=Rl ⟨n.toNat,by omega⟩;simp only [Xp h0] at hf;obtain ⟨f1,f2,f3,f4,f5,f6,f7,f8,f9⟩:=hf;exact ⟨f1,f2,f3,f4,f5,f6,f7,f8,f9⟩
def DV (x y z:Bool):Int:=
 let p:=bif x then cP .i64 0 1 else 0
 let q:=bif y then cP .i64 p 2 else p
 bif z then cP .i64 q 4 else q
theorem R8: ∀a:_root_.Fin 8, ∀x y z:Bool,(!decide (be .i64 (a.val:Int) (DV x y z)=0))=((sB (a.val:Int) 1&& !x)||(sB (a.val:Int) 2&& !y)||(sB (a.val:Int) 4&& !z)):=by decide+kernel
theorem TD: ∀x y z:Bool,0<=DV x y z/\DV x y z<2 ^ 3:=by decide+kernel
section
variable (N:Nat){d:WG}
theorem Hm {d:WG}(h:Six d.Has):aR N d 1=some (sB d.Has 1)/\aR N d 2=some (sB d.Has 2)/\aR N d 4=some (sB d.Has 4)/\aR N d 8=some (sB d.Has 8)/\aR N d 16=some (sB d.Has 16)/\aR N d 32=some (sB d.Has 32)/\aR N d 3=some (sB d.Has 1||sB d.Has 2)/\aR N d 12=some (sB d.Has 4||sB d.Has 8):=by
 unfold aR;rw [h.b1,h.b2,h.b4,h.b8,h.b16,h.b32,h.b3,h.b12];exact ⟨J,J,J,J,J,J,J,J⟩
theorem UD {d:WG}(h:Six d.Has):qz N d=some (DV (sB d.Has 2) (sB d.Has 16) (sB d.Has 32)):=by
 obtain ⟨-,s2, -, -,a6,a7, -, -⟩:=Hm N h;unfold qz rJ rI qy DV;rw [s2,bs,a6,bs,bs,a7,bs,bs,bs,bs];cases sB d.Has 2<;>cases sB d.Has 16<;>cases sB d.Has 32<;>rfl
theorem EB {d:WG}(h0:0<=d.Has)(h1:d.Has<=63){b:Int}(hb:1<=b):ba N d b=some (sB d.Has b):=by
 unfold ba;rw [N7 N h0 h1 hb,bs]
end
theorem LH (N:Nat){d:WG}(h:¬((0<=d.Has/\d.Has<=63)/\0<=d.Zd/\d.Zd<=7)):dW N d=some false:=by
 unfold dW
 have: ∀(x y z u:Bool) (k:Bool->Option Bool),((x||y)||z)||u=true->(((bif x then (some true) else (some y)).bind fun b2=>(bif b2 then (some true) else (some z)).bind fun b3=>(bif b3 then (some true) else (some u)).bind k):Option Bool)=k true:=fun x y z u k h=>by
  cases x<;>cases y<;>cases z<;>cases u<;>first|rfl|cases h
 rw [this _ _ _ _ _ (by
  simp only [Bool.or_eq_true,YT]
  omega)]
 rfl
theorem P0 {x y:Bool}:(bif x then y else false)=(x&&y):=by cases x<;>rfl
theorem R6 {x y:Bool}:(bif x then true else y)=(x||y):=by cases x<;>rfl
theorem Vy {x y:Bool}:(bif x then false else y)=(!x&&y):=by cases x<;>rfl
theorem Uy: ∀e1 e2 x1 vz k0 k7 x4 gz gh x8 sz sh:Bool,(gz=true->gh=true)->(sz=true->sh=true)->(!e1&&(!e2&&(!(!x1&& !vz||k0||k7)&&((bif !x4 then gz else gh)&&(bif !x8 then sz else sh)))))=(!(e1||e2)&&(!((k0||k7|| !gh)|| !sh)&&(((x1||vz)&&(x4||gz))&&(x8||sz)))):=by decide+kernel
theorem Kn (N:Nat){d:WG}(hi:in64 d.Has)(ha:in64 d.Zd):dW N d=fD N d:=by
 by_cases hH:0<=d.Has/\d.Has<=63
 ·have h6:=six hH.1 hH.2;obtain ⟨s1,s2,s4,s8,a7,a8,s3,a6⟩:=Hm N h6;have hask:=UD N h6;by_cases hA:0<=d.Zd/\d.Zd<=7
  ·have hat: ∀b:Int,1<=b->bM N d.Zd b=some (sB d.Zd b):=fun b hb=>N7 N hA.1 I hb
   have hf:=R8 ⟨d.Zd.toNat,by omega⟩ (sB d.Has 2) (sB d.Has 16) (sB d.Has 32);simp only [Xp hA.1] at hf
   have hg:d.Zq=v0->(bif decide (d.Zq.Za=0) then true else decide (d.Zq.Za=7))=true:=fun e=>by rw [e];rfl
   have hs:d.Zr=v0->(bif decide (d.Zr.Za=0) then true else decide (d.Zr.Za=7))=true:=fun e=>by rw [e];rfl
   unfold dW fD kD dD ra uO;simp only [EB N hH.1 hH.2 (show (1:Int)<=1 by omega),EB N hH.1 hH.2 (show (1:Int)<=2 by omega),EB N hH.1 hH.2 (show (1:Int)<=4 by omega),EB N hH.1 hH.2 (show (1:Int)<=8 by omega),EB N hH.1 hH.2 (show (1:Int)<=16 by omega),EB N hH.1 hH.2 (show (1:Int)<=32 by omega),hat 1 I,hat 2 I,hat 4 I,s1,s2,s4,s8,a7,a8,s3,a6,hask,bs,DU,hf];rw [WY h6.z,WZ (show¬d.Has<0 by omega),WZ (show¬63<d.Has by omega),WZ (show¬d.Zd<0 by omega),WZ (show¬7<d.Zd by omega)];change _=v0->_ at hg;change _=v0->_ at hs
   have hgz:decide (d.Zq=(⟨0,0,⟨#[]⟩⟩:WV))=true->(bif decide (d.Zq.Za=0) then true else decide (d.Zq.Za=7))=true:=fun e=>hg (YV e)
   have hsz:decide (d.Zr=(⟨0,0,⟨#[]⟩⟩:WV))=true->(bif decide (d.Zr.Za=0) then true else decide (d.Zr.Za=7))=true:=fun e=>hs (YV e)
   generalize (bif decide (d.Zq.Za=0) then true else decide (d.Zq.Za=7))=gh at hgz⊢;generalize (bif decide (d.Zr.Za=0) then true else decide (d.Zr.Za=7))=sh at hsz⊢;generalize decide (d.Zq=(⟨0,0,⟨#[]⟩⟩:WV))=gz at hgz⊢;generalize decide (d.Zr=(⟨0,0,⟨#[]⟩⟩:WV))=sz at hsz⊢;generalize decide (d.Value=(⟨0,0,⟨#[]⟩⟩:WV))=vz;generalize decide (d.Value.Za<0)=k0;generalize decide (7<d.Value.Za)=k7;simp only [P0,R6,Vy,Bool.not_true,Bool.false_or];generalize ((sB d.Has 1||sB d.Has 2)&&(sB d.Has 4||sB d.Has 8))=e1;generalize (sB d.Zd 1&& !sB d.Has 2||sB d.Zd 2&& !sB d.Has 16||sB d.Zd 4&& !sB d.Has 32)=e2;generalize sB d.Has 1=x1;generalize sB d.Has 4=x4;generalize sB d.Has 8=x8;exact congrArg some (Uy e1 e2 x1 vz k0 k7 x4 gz gh x8 sz sh hgz hsz)
  rw [LH N fun h=>hA h.2]
  have hb:be .i64 d.Zd (DV (sB d.Has 2) (sB d.Has 16) (sB d.Has 32))≠0:=fun e=>by
   obtain ⟨q1,q2⟩:=TD (sB d.Has 2) (sB d.Has 16) (sB d.Has 32);have:=Cl (n:=3) ha q1 q2 I e;omega
  unfold fD;rw [hask,bs,WZ hb]
  have: ∀b2:Option Bool,(∃b,b2=some b)-> ∀k:Bool->Option Bool,k true=some false->(b2.bind fun b2=>(bif b2 then (some true) else (some (!false))).bind k)=some false:=fun b2 ⟨b,e⟩ k hk=>by
   rw [e,bs];cases b<;>exact hk
  refine (this _ ?_ _ J).symm;rw [s3,bs,a6,bs];cases decide (be .i64 d.Has 63=0)<;>cases (sB d.Has 1||sB d.Has 2)<;>exact ⟨_,rfl⟩
 rw [LH N fun h=>hH h.1]
 have hb:be .i64 d.Has 63≠0:=fun e=>by
  have:=Cl (n:=6) hi I (by decide) I e;omega
 unfold fD;rw [WZ hb];rfl
end
section
open Go.RowKit
set_option maxRecDepth 20000
structure R25 (d:WG):Prop where
 h:0<=d.Has/\d.Has<=63
 a:0<=d.Zd/\d.Zd<=7
 da:((sB d.Has 1||sB d.Has 2)&&(sB d.Has 4||sB d.Has 8))=false
 a1:(sB d.Zd 1&& !sB d.Has 2)=false
 a2:(sB d.Zd 2&& !sB d.Has 16)=false
 a4:(sB d.Zd 4&& !sB d.Has 32)=false
 v:sB d.Has 1=false->d.Value=v0
 vk:0<=d.Value.Za/\d.Value.Za<=7
 g:(sB d.Has 4=false->d.Zq=v0)/\(sB d.Has 4=true->d.Zq.Za=0\/d.Zq.Za=7)
 s:(sB d.Has 8=false->d.Zr=v0)/\(sB d.Has 8=true->d.Zr.Za=0\/d.Zr.Za=7)
theorem Pj (N:Nat)(x:WV)(b:Bool):Sat (ra N x b) fun r=>r=true->(b=false->x=v0)/\(b=true->x.Za=0\/x.Za=7):=by
 unfold ra
 cases b with
 |false=>exact ac fun h=>⟨(fun _=>YV h),fun h=>(by cases h)⟩
 |true=>
  rw [nt,cf]
  refine cz (P:=fun r=>r=true->x.Za=0\/x.Za=7) (fun e=>ac fun _=> .inl (YV e)) (fun _=>ac fun h=> .inr (YV h)) fun r hr=>ac fun h=>⟨(fun h=>by cases h),fun _=>hr h⟩
theorem QC (N:Nat)(d:WG):Sat (dW N d) fun b=>b=true->R25 d:=by
 unfold dW
 refine cz (P:=fun b=>b=false->0<=d.Has/\d.Has<=63) (fun _=>ac fun h=>by cases h) (fun e=>ac fun h=>by have:=YU e;have:=YU h;omega) fun b2 h2=> ?_
 refine cz (P:=fun b=>b=false->(0<=d.Has/\d.Has<=63)/\0<=d.Zd) (fun _=>ac fun h=>by cases h) (fun e=>ac fun h=>⟨h2 e,by have:=YU h;omega⟩) fun b3 h3=> ?_
 refine cz (P:=fun b=>b=false->(0<=d.Has/\d.Has<=63)/\0<=d.Zd/\d.Zd<=7) (fun _=>ac fun h=>by cases h) (fun e=>ac fun h=>⟨(h3 e).1,(h3 e).2,by have:=YU h;omega⟩) fun b4 h4=> ?_
 cases b4 with
 |true=>
  rw [ct,bs,ct]
  exact ac fun h=>by cases h
 | false=>
  obtain ⟨⟨h0,h1⟩,a0,a1⟩:=h4 rfl
  have hs: ∀b:Int,1<=b->ba N d b=some (sB d.Has b):=fun b hb=>by
   unfold ba;rw [N7 N h0 h1 hb,bs]
  have hda:kD N d=some (sB d.Has 1||sB d.Has 2):=by
   unfold kD;rw [hs 1 I,bs,hs 2 I,bs];cases sB d.Has 1<;>rfl
  have hac:dD N d=some (sB d.Has 4||sB d.Has 8):=by
   unfold dD;rw [hs 4 I,bs,hs 8 I,bs];cases sB d.Has 4<;>rfl
  have hat: ∀b:Int,1<=b->bM N d.Zd b=some (sB d.Zd b):=fun b hb=>N7 N a0 I hb
  rw [cf,hda,bs,hac,bs,hat 1 I,bs,hs 2 I,bs,hat 2 I,bs,hs 16 I,bs,hat 4 I,bs,hs 32 I,bs,hs 1 I,bs,hs 4 I,bs,hs 8 I,bs]
  cases e1:((sB d.Has 1||sB d.Has 2)&&(sB d.Has 4||sB d.Has 8)) with
  |true=>
   rw [Y3] at e1;rw [e1.1,e1.2]
   exact ac fun h=>by cases h
  | false=>
   have e1':(bif (sB d.Has 1||sB d.Has 2) then (some (sB d.Has 4||sB d.Has 8)) else (some false):Option Bool)=some false:=by
    rw [<-e1];cases (sB d.Has 1||sB d.Has 2)<;>rfl
   rw [e1',bs,bs,cf]
   have hx: ∀x y:Bool,(bif x then (some (!y)) else (some false):Option Bool)=some (x&& !y):=fun x y=>by cases x<;>rfl
   rw [hx,bs,hx,bs,hx,bs]
   cases e2:(sB d.Zd 1&& !sB d.Has 2) with
   |true=>exact ac fun h=>by cases h
   | false=>
    rw [cf,bs]
    cases e3:(sB d.Zd 2&& !sB d.Has 16) with
    |true=>exact ac fun h=>by cases h
    | false=>
     rw [cf,bs]
     cases e4:(sB d.Zd 4&& !sB d.Has 32) with
     |true=>exact ac fun h=>by cases h
     |false=>
      rw [cf]
      refine cz (P:=fun b=>b=false->sB d.Has 1=false->d.Value=v0) (fun e=>ac fun h _=>by rw [Bool.not_eq_false'] at h;exact YV h) (fun e=>ac fun _ h=>by rw [h] at e;cases e) fun a8 h23=> ?_
      refine cz (P:=fun b=>b=false->(sB d.Has 1=false->d.Value=v0)/\0<=d.Value.Za) (fun _=>ac fun h=>by cases h) (fun e=>ac fun h=>⟨h23 e,by have:=YU h;omega⟩) fun b0 h24=> ?_
      refine cz (P:=fun b=>b=false->(sB d.Has 1=false->d.Value=v0)/\0<=d.Value.Za/\d.Value.Za<=7) (fun _=>ac fun h=>by cases h) (fun e=>ac fun h=>⟨(h24 e).1,(h24 e).2,by have:=YU h;omega⟩) fun b5 h25=>dM (fun _=>ac fun h=>by cases h) fun e=> ?_
      obtain ⟨v1,v2⟩:=h25 e
      refine (Pj N d.Zq _).bind fun b6 hy=> ?_
      refine cz (P:=fun b=>b=true->R25 d) (fun a6=>(Pj N d.Zr _).bind fun b7 a7=>ac fun h=>⟨⟨h0,h1⟩,⟨a0,a1⟩,e1,e2,e3,e4,v1,v2,hy a6,a7 h⟩) (fun _=>ac fun h=>by cases h) fun b hb=>ac hb
structure Nrm (p:WU):Prop where
 d:ai .i64 p.Zd 8=0->p.Zq=v0/\p.Zr=v0
 a:ai .i64 p.Zd 8≠0->p.Value=v0
theorem R9 (N:Nat)(a b:WV):pF N a b=kr N a b:=by
 unfold pF kr
 have:decide (a=b)=(decide (a.Za=b.Za)&&decide (a.N=b.N)&&(a.S.toList==b.S.toList)):=by
  by_cases e:a=b
  ·rw [e];simp
  rw [WZ e];by_cases h1:a.Za=b.Za
  ·by_cases h2:a.N=b.N
   ·rw [WY h1,WY h2]
    cases h3:(a.S.toList==b.S.toList) with
    |false=>rfl
    |true=>
     refine absurd ?_ e;have h4:a.S=b.S:=oS.1 (eq_of_beq h3);obtain ⟨x,y,z⟩:=a;obtain ⟨x',y',z'⟩:=b;simp only at h1 h2 h4;subst h1 h2 h4;rfl
   rw [WZ h2];simp
  rw [WZ h1];simp
 rw [this];cases decide (a.Za=b.Za)<;>cases decide (a.N=b.N)<;>cases (a.S.toList==b.S.toList)<;>rfl
def kK (a b:Int)(s:Bool)(m:Int):Int:=bif bif s then sB a m else sB b m then m else 0
theorem P2: ∀a:_root_.Fin 8, ∀b:_root_.Fin 16, ∀s2 a6 a7:Bool,
  cP .i64 (be .i64 (cP .i64 (cP .i64 0 (ai .i64 (b.val:Int) 6)) 8) (DV false a6 a7)) (ai .i64 (a.val:Int) (DV false a6 a7))=(kK a.val b.val a6 2+kK a.val b.val a7 4)+8/\
  cP .i64 (be .i64 (cP .i64 (ai .i64 (b.val:Int) 1) (ai .i64 (b.val:Int) 6)) (DV s2 a6 a7)) (ai .i64 (a.val:Int) (DV s2 a6 a7))=(kK a.val b.val a6 2+kK a.val b.val a7 4)+kK a.val b.val s2 1/\
  cP .i64 (be .i64 (cP .i64 0 (ai .i64 (b.val:Int) 6)) (DV s2 a6 a7)) (ai .i64 (a.val:Int) (DV s2 a6 a7))=(kK a.val b.val a6 2+kK a.val b.val a7 4)+(bif s2&&sB a.val 1 then 1 else 0):=by decide+kernel
theorem Qp: ∀a:_root_.Fin 8, ∀b:_root_.Fin 16,(!decide (ai .i64 (Ei .i64 (a.val:Int) (b.val:Int)) 2=0))=!(sB (a.val:Int) 2==sB (b.val:Int) 2):=by decide+kernel
structure Bits (N:Nat) (d:WG) (b:Int):Prop where
 r:R25 d
 six:Six d.Has
 says: ∀x:Int,1<=x->ba N d x=some (sB d.Has x)
 data:kD N d=some (sB d.Has 1||sB d.Has 2)
 acc:dD N d=some (sB d.Has 4||sB d.Has 8)
 da: ∀x:Int,1<=x->bM N d.Zd x=some (sB d.Zd x)
 pb: ∀x:Int,1<=x->bM N b x=some (sB b x)
 a:Six d.Zd
 b:Six b
theorem zk (N:Nat){d:WG}(h:R25 d){b:Int}(hb:0<=b/\b<=15):Bits N d b:=by
 have hs: ∀x:Int,1<=x->ba N d x=some (sB d.Has x):=fun x hx=>EB N h.h.1 h.h.2 hx
 refine ⟨h,six h.h.1 h.h.2,hs,?_,?_,fun x hx=>N7 N h.a.1 (by have:=h.a;omega) hx,fun x hx=>N7 N hb.1 I hx,six h.a.1 (by have:=h.a;omega),six hb.1 I⟩
 ·unfold kD;rw [hs 1 I,bs,hs 2 I,bs,DU,bs,R6]
 unfold dD;rw [hs 4 I,bs,hs 8 I,bs,DU,bs,R6]
def F7 (k:WL)(p:WU)(d:WG):WU:=
 let was:=sB p.Zd 8
 let TS:=(sB d.Has 4||sB d.Has 8)||(was&& !(sB d.Has 1||sB d.Has 2))
 ⟨k,(kK d.Zd p.Zd (sB d.Has 16) 2+kK d.Zd p.Zd (sB d.Has 32) 4)+(bif TS then 8 else bif was then (bif sB d.Has 2&&sB d.Zd 1 then 1 else 0) else kK d.Zd p.Zd (sB d.Has 2) 1),
  bif sB d.Has 1 then d.Value else bif !TS&& !was then p.Value else v0,
  bif sB d.Has 4 then d.Zq else bif TS&&was then p.Zq else v0,
  bif sB d.Has 8 then d.Zr else bif TS&&was then p.Zr else v0⟩
theorem JS (N:Nat)(k:WL){d:WG}(hb:0<=p.Zd/\p.Zd<=15)(h:Bits N d p.Zd):oN N p k d=some (F7 k p d):=by
 obtain ⟨s1,s2,s4,s8,a7,a8,s3,a6⟩:=Hm N h.six;have hask:=UD N h.six;have hf:=P2 ⟨d.Zd.toNat,by have:=h.r.a;omega⟩ ⟨p.Zd.toNat,by omega⟩ (sB d.Has 2) (sB d.Has 16) (sB d.Has 32);simp only [Xp h.r.a.1,Xp hb.1] at hf;obtain ⟨f1,f2,f3⟩:=hf;have hda:=h.r.da;unfold oN pe pc pa o9 o8 o7;simp only [s1,s4,s8,s3,a6,hask,bs,h.b.b8,DU];unfold F7;simp only;generalize sB d.Has 1=x1 at*;generalize sB d.Has 2=x2 at*;generalize sB d.Has 4=x4 at*;generalize sB d.Has 8=x8 at*;generalize sB p.Zd 8=y at*
 cases x1<;>cases x2<;>cases x4<;>cases x8<;>cases y<;>first
  |exact absurd hda (by decide)
  |exact congrArg some (congrArg (fun a=>(⟨k,a,_,_,_⟩:WU)) f1)
  |exact congrArg some (congrArg (fun a=>(⟨k,a,_,_,_⟩:WU)) f2)
  |exact congrArg some (congrArg (fun a=>(⟨k,a,_,_,_⟩:WU)) f3)
theorem H5 {n b:Int}(h:(!decide (ai .i64 n b=0))=sB n b):decide (ai .i64 n b=0)=!sB n b:=by rw [<-h,Bool.not_not]
theorem Iy (N:Nat){d:WG}(hb:0<=p.Zd/\p.Zd<=15)(h:Bits N d p.Zd):pp N p d=ic N p d:=by
 obtain ⟨s1,s2,s4,s8,a6,a7,s3,a8⟩:=Hm N h.six;have hx:=Qp ⟨d.Zd.toNat,by have:=h.r.a;omega⟩ ⟨p.Zd.toNat,by omega⟩;simp only [Xp h.r.a.1,Xp hb.1] at hx;unfold pp ic;simp only [R9,kr,h.says 1 I,h.says 2 I,h.says 4 I,h.says 8 I,h.says 16 I,h.says 32 I,h.da 4 I,h.da 2 I,h.da 1 I,h.pb 2 I,h.pb 8 I,h.pb 1 I,h.data,h.acc,s1,s2,s4,s8,a6,a7,s3,a8,bs,DU,h.a.b4,hx,h.b.b8,H5 h.b.b1,h.a.b1,P0,R6];generalize (sB d.Has 32&&sB d.Zd 4)=A;generalize (sB d.Has 16&& !(sB d.Zd 2==sB p.Zd 2))=B;generalize sB p.Zd 8=y;generalize decide (d.Zq=p.Zq)=g;generalize decide (d.Zr=p.Zr)=s;generalize decide (d.Value=p.Value)=v;generalize sB d.Has 1=x1;generalize sB d.Has 2=x2;generalize sB d.Has 4=x4;generalize sB d.Has 8=x8;generalize sB p.Zd 1=p1;generalize sB d.Zd 1=a1
 cases A<;>cases B<;>first|rfl|skip
 cases y
 ·cases x4<;>cases x8<;>first|rfl|skip
  cases p1<;>cases x2<;>cases a1<;>cases x1<;>rfl
 rfl
theorem Lp (N:Nat){d:WG}{b:Int}(h:Bits N d b)(part m:Int)(hp:1<=part)(hm:1<=m)(was:Bool):lW N d part m was=some (bif bif sB d.Has part then sB d.Zd m else was then m else 0):=by
 unfold lW uC;rw [h.says part hp,bs,h.da m hm,bs];cases sB d.Has part<;>cases sB d.Zd m<;>cases was<;>rfl
theorem Om (a b:Int)(s:Bool){m:Int}(hm:0<=m):0<=kK a b s m/\kK a b s m<=m:=by
 unfold kK;cases (bif s then sB a m else sB b m)<;>constructor<;>simp<;>omega
theorem V4 (m:Int):sB 0 m=false:=by
 unfold sB;rw [Int.zero_tdiv];rfl
theorem Tp (N:Nat)(k:WL){d:WG}(h:Bits N d 0):wp N d k=some (F7 k zeroP d):=by
 have hda:=h.r.da;have hv:=h.r.v;have hg:=h.r.g.1;have hs:=h.r.s.1
 have i1:in64 ((0:Int)+2):=by decide
 have i2:in64 ((0:Int)+2+4):=by decide
 have i3:in64 ((0:Int)+4):=by decide
 have i4:in64 ((0:Int)+2+4+8):=by decide
 have i5:in64 ((0:Int)+2+8):=by decide
 have i6:in64 ((0:Int)+4+8):=by decide
 have i7:in64 ((0:Int)+8):=by decide
 have i8:in64 ((0:Int)+2+4+1):=by decide
 have i9:in64 ((0:Int)+2+1):=by decide
 have j1:in64 ((0:Int)+4+1):=by decide
 have j2:in64 ((0:Int)+1):=by decide
 unfold wp uD sN sM;simp only [h.says 16 I,h.says 32 I,h.says 2 I,h.acc,h.da 2 I,h.da 4 I,h.da 1 I,bs,DU,P0,cU i1,cU i2,cU i3,cU i4,cU i5,cU i6,cU i7,cU i8,cU i9,cU j1,cU j2];unfold F7 kK;simp only [show zeroP.Zd=0 from rfl,show zeroP.Value=v0 from rfl,show zeroP.Zq=v0 from rfl,show zeroP.Zr=v0 from rfl,V4];generalize sB d.Has 16=a6;generalize sB d.Has 32=a7;generalize sB d.Zd 2=a2;generalize sB d.Zd 4=a4;generalize sB d.Zd 1=a1;generalize sB d.Has 1=x1 at*;generalize sB d.Has 2=x2 at*;generalize sB d.Has 4=x4 at*;generalize sB d.Has 8=x8 at*
 cases x1<;>cases x2<;>cases x4<;>cases x8<;>first
  |exact absurd hda (by decide)
  |(cases a6<;>cases a2<;>cases a7<;>cases a4<;>cases a1<;>simp_all<;>first|rfl|exact ⟨rfl,rfl⟩|exact ⟨rfl,rfl,rfl⟩)
theorem zn (N:Nat)(k:WL){d:WG}(hb:0<=p.Zd/\p.Zd<=15)(h:R25 d)(has ext:Bool):du N p has ext k d=bif !has then (bif !ext then some (zeroP,false) else some (F7 k zeroP d,true)) else (bif !sB p.Zd 4 then ic N p d else some false).bind fun b=>some (bif b then (zeroP,false) else (F7 k p d,true)):=by
 have hB:=zk N h hb;have h0:=zk N h (b:=0) ⟨Xk _,by omega⟩;have hc:=JS N k hb hB
 have hf:uP N d k=some (F7 k zeroP d):=by
  unfold uP;have:=JS N k (p:=zeroP) ⟨Xk _,by show (0:Int)<=15;omega⟩ h0;rw [show (⟨(⟨0,0,⟨#[]⟩⟩:WL),0,(⟨0,0,⟨#[]⟩⟩:WV),(⟨0,0,⟨#[]⟩⟩:WV),(⟨0,0,⟨#[]⟩⟩:WV)⟩:WU)=zeroP from rfl,this,bs]
 unfold du;rw [hf,hc,H5 hB.b.b4]
 cases has with
 |false=>cases ext<;>rfl
 | true=>
  rw [nt,cf,cf]
  cases sB p.Zd 4 with
  |true=>rfl
  |false=>
   rw [nf,ct,ct]
   cases e:ic N p d with
   |none=>rfl
   |some b=>cases b<;>rfl
theorem ME (N:Nat)(k:WL){d:WG}(hb:0<=p.Zd/\p.Zd<=15)(hn:Nrm p)(h:R25 d)(has ext:Bool):lE N p has ext k d=du N p has ext k d:=by
 rw [zn N k hb h];have hB:=zk N h hb;have h0:=zk N h (b:=0) ⟨Xk _,by omega⟩;unfold lE;rw [Tp N k h0,hB.pb 4 I,Iy N hb hB]
 cases has with
 |false=>cases ext<;>rfl
 | true=>
  rw [nt,cf,cf,bs];have hv:=Om d.Zd p.Zd (sB d.Has 16) (m:=2) I;have hl:=Om d.Zd p.Zd (sB d.Has 32) (m:=4) I
  have hr: ∀b9:Bool,(bif b9 then (some ((⟨(⟨0,0,⟨#[]⟩⟩:WL),0,(⟨0,0,⟨#[]⟩⟩:WV),(⟨0,0,⟨#[]⟩⟩:WV),(⟨0,0,⟨#[]⟩⟩:WV)⟩:WU),false)) else ((bM N p.Zd 2).bind fun b5=>(lW N d 16 2 b5).bind fun a6=>(some (sB p.Zd 4)).bind fun b6=>(lW N d 32 4 b6).bind fun a7=>aL (in64 (a6+a7)) ((bM N p.Zd 8).bind fun a8=>(dD N d).bind fun b7=>(bif b7 then (some true) else ((bif a8 then ((kD N d).bind fun c7=>some (!c7)) else (some false)).bind fun c8=>some c8)).bind fun c9=>bif c9 then (aL (in64 ((a6+a7)+8)) ((ba N d 4).bind fun d0=>(np N d0 d.Zq a8 p.Zq).bind fun d1=>(ba N d 8).bind fun d2=>(np N d2 d.Zr a8 p.Zr).bind fun d3=>some ((⟨k,(a6+a7)+8,(⟨0,0,⟨#[]⟩⟩:WV),d1,d3⟩:WU),true))) else ((bif !a8 then ((bM N p.Zd 1).bind fun d4=>some d4) else (some false)).bind fun d6=>(lW N d 2 1 d6).bind fun b0=>aL (in64 ((a6+a7)+b0)) ((ba N d 1).bind fun e0=>(np N e0 d.Value (!a8) p.Value).bind fun e1=>some ((⟨k,(a6+a7)+b0,e1,(⟨0,0,⟨#[]⟩⟩:WV),(⟨0,0,⟨#[]⟩⟩:WV)⟩:WU),true))))))=some (bif b9 then (zeroP,false) else (F7 k p d,true)):=fun b9=>by
   cases b9 with
   |true=>rfl
   | false=>
    have hd:=h.da;have hv1:=h.v;have hg1:=h.g.1;have hs1:=h.s.1
    have hn1:sB p.Zd 8=false->p.Zq=v0/\p.Zr=v0:=fun e=>hn.d (YV (by rw [H5 hB.b.b8,e];rfl))
    have hn2:sB p.Zd 8=true->p.Value=v0:=fun e=>hn.a (YU (by rw [H5 hB.b.b8,e];rfl))
    have e2:(bif bif sB d.Has 16 then sB d.Zd 2 else sB p.Zd 2 then (2:Int) else 0)=kK d.Zd p.Zd (sB d.Has 16) 2:=rfl;have e3:(bif bif sB d.Has 32 then sB d.Zd 4 else sB p.Zd 4 then (4:Int) else 0)=kK d.Zd p.Zd (sB d.Has 32) 4:=rfl
    have i1:in64 (kK d.Zd p.Zd (sB d.Has 16) 2+kK d.Zd p.Zd (sB d.Has 32) 4):=by unfold in64;omega
    have i2:in64 (kK d.Zd p.Zd (sB d.Has 16) 2+kK d.Zd p.Zd (sB d.Has 32) 4+8):=by unfold in64;omega
    have i3: ∀b:Bool,in64 (kK d.Zd p.Zd (sB d.Has 16) 2+kK d.Zd p.Zd (sB d.Has 32) 4+(bif b then 1 else 0)):=fun b=>by unfold in64;cases b<;>simp<;>omega
    unfold np;simp only [cf,hB.pb 2 I,hB.pb 8 I,hB.pb 1 I,Lp N hB 16 2 I I,Lp N hB 32 4 I I,Lp N hB 2 1 I I,hB.acc,hB.data,hB.says 4 I,hB.says 8 I,hB.says 1 I,bs,DU,e2,e3,cU i1,cU i2,cU (i3 _)];refine congrArg some ?_;unfold F7;simp only;have ev:kK d.Zd p.Zd (sB d.Has 2) 1=bif bif sB d.Has 2 then sB d.Zd 1 else sB p.Zd 1 then 1 else 0:=rfl;rw [ev];generalize kK d.Zd p.Zd (sB d.Has 16) 2=V;generalize kK d.Zd p.Zd (sB d.Has 32) 4=hJ;generalize sB d.Zd 1=a1;generalize sB p.Zd 1=p1;generalize sB d.Has 1=x1 at*;generalize sB d.Has 2=x2 at*;generalize sB d.Has 4=x4 at*;generalize sB d.Has 8=x8 at*;generalize sB p.Zd 8=y at*
    cases x1<;>cases x2<;>cases x4<;>cases x8<;>first
     |exact absurd hd (by decide)
     |(cases y<;>cases a1<;>cases p1<;>simp_all<;>first|rfl|exact ⟨rfl,rfl⟩|exact ⟨rfl,rfl,rfl⟩)
  cases e4:sB p.Zd 4 with
  |true=>rw [e4] at hr;exact hr false
  |false=>
   rw [e4] at hr;rw [nf,ct,ct]
   cases e:ic N p d with
   |none=>rfl
   |some b=>exact hr b
set_option maxRecDepth 20000
structure Prim (x:WV):Prop where
 may:ln x=true
 i64:in64 x.N
 no:bK x=false
theorem Prim.w (h:Prim x)(m:WK):ValW m x:=⟨h.may,h.i64,fun e=>by rw [h.no] at e;cases e⟩
theorem Prim.n9 (h:Prim x):x.Za≠9:=fun e=>by
 have:=h.no;unfold bK at this;rw [e] at this;cases this
theorem LP:Prim v0:=⟨Ss,by decide,rfl⟩
theorem tT:Prim bU:=⟨by kernel_rfl,by decide,rfl⟩
structure PV (N:Nat) (p:WU):Prop where
 v:Prim p.Value
 v8:p.Value.Za≠8
 g:p.Zq=v0
 s:p.Zr=v0
 a:zC p.Zd
 n:Nrm p
 k:keyR N p.Zf
theorem PV.w {N:Nat}(h:PV N p)(m:WK):PropW m p:=⟨⟨h.v.w m,h.v.n9⟩,by rw [h.g];exact ⟨Qs m,.inl rfl⟩,by rw [h.s];exact ⟨Qs m,.inl rfl⟩⟩
theorem PV.norm {N:Nat}(h:PV N p):mU p=p:=by
 by_cases e:ai .i64 p.Zd 8=0
 ·rw [CL e, <-(h.n.d e).1];have:=(h.n.d e).1.trans (h.n.d e).2.symm
  conv=>lhs;arg 5;rw [this]
 rw [Fd e, <-h.n.a e]
structure Sim (N:Nat) (i:Int) (k q:Nat) (w:WM) (c:WI) (d:WO):Prop where
 ob:Obj N i k q w c d.Zm
 ar:c.Za=2
 el:c.Zb=d.Zk
 ex:Il c=d.Ext
 fx:(!decide (ai .i64 c.Ze 32=0))=d.Zs
 wf:Wf d
 pv: ∀p∈d.Zm,PV N p
 ev: ∀x∈d.Zk,Prim x
theorem Sim.up {N q:Nat}{w:WM}{d:WO}(h:Sim N i k q w c d)(h1:k<=k')(h2:q<=q'):Sim N i k' q' w c d:=⟨h.ob.up h1 h2,h.ar,h.el,h.ex,h.fx,h.wf,h.pv,h.ev⟩
theorem G5 (h:ln x=true)(h8:x.Za=8):x=bU:=by
 obtain ⟨a,b,s⟩:=x;simp only at h8;subst h8;unfold ln dK at h
 cases e:(s.toList==(⟨#[]⟩:ByteArray).toList) with
 |false=>
  rw [show ((⟨8,b,s⟩:WV).S.toList==(⟨#[]⟩:ByteArray).toList)=false from e] at h;exact absurd h (by show¬(Option.getD (some false) false)=true;decide)
 |true=>
  have hs:=oS.1 (eq_of_beq e);subst hs;rw [show ((⟨8,b,⟨#[]⟩⟩:WV).S.toList==(⟨#[]⟩:ByteArray).toList)=true from e] at h;have h2:(Option.getD (some (decide (b=0))) false)=true:=h;have:b=0:=YV h2;subst this;rfl
section
variable {N:Nat}(hN:20000<=N)(hv:v.Za=7)(hvN:v.N=i){q:Nat}(hk:k<=580){w:WM}{d:WO}(hM:d.Zk.length<=2200)(h:Sim N i k q w c d)
include hN hv hvN hk hM h
omit hN in
theorem xB:cB N w v=some (c,true):=by
 rw [SC hv hvN hk (by rw [h.el];exact hM) h.ob,WY h.ar]
omit hN in
theorem TG:pN N w v=some (d.Zk.length:Int):=by
 unfold pN;rw [xB hv hvN hk hM h,bs,nt,cf,h.el]
omit hN hv hvN hk in
theorem Hw:nC N c=some (vb d):=by
 have _:=hM
 have e:bX N=some lenK:=rfl;unfold nC pg vb;rw [e,bs,h.fx,h.el];cases d.Zs<;>rfl
theorem ID (key:WL):jh N w v key=some (iQ d key):=by
 have e:bX N=some lenK:=rfl;have hoo:=OX hN hv hvN hk (by rw [h.el];exact hM) h.ob key;unfold jh;rw [xB hv hvN hk hM h,bs,nt,cf,e,bs];unfold iQ;by_cases hl:key=lenK
 ·rw [WY hl,ct,ct,Hw hM h,bs]
 rw [WZ hl,cf,cf,hoo];unfold qS;by_cases h0:key.Za=0
 ·rw [WY h0,ct];unfold bc;rw [WY h0,ct];by_cases hS:key=jx key.N
  ·have hS':(key.S.toList==(⟨#[]⟩:ByteArray).toList)=true:=by rw [hS];exact beq_self_eq_true _
   rw [hS',ct,bs,WY hS];by_cases hn:0<=key.N
   ·rw [WY hn,ct,bs,bs,bs,Xi,cond_true];by_cases hlt:key.N<(d.Zk.length:Int)
    ·have hlt':key.N.toNat<d.Zk.length:=by omega
     have hg:aq d.Zk key.N=some d.Zk[key.N.toNat]:=by
      have:=aK hlt'
      rwa [show ((key.N.toNat:Nat):Int)=key.N by omega] at this
     have hth:er N c key.N=some (!decide (d.Zk[key.N.toNat]=bU)):=by
      unfold er;rw [h.el,WY hlt,ct,hg,bs,bs];rfl
     rw [WY (show key.N<=4294967294 by omega),ct,hth,bs,bs,h.el,hg,XM hlt'];by_cases h8:d.Zk[key.N.toNat]=bU
     ·simp only [WY h8,cond_true];rfl
     simp only [WZ h8,cond_false];rfl
    have hth:er N c key.N=some false:=by
     unfold er;rw [h.el,WZ hlt,cf,bs]
    rw [XN I];cases decide (key.N<=4294967294)
    ·rfl
    rw [ct,hth];rfl
   rw [WZ hn];rfl
  have hS':(key.S.toList==(⟨#[]⟩:ByteArray).toList)=false:=by
   cases e:(key.S.toList==(⟨#[]⟩:ByteArray).toList) with
   |false=>rfl
   |true=>
    refine absurd ?_ hS;have:key.S=⟨#[]⟩:=oS.1 (eq_of_beq e);obtain ⟨a,b,s⟩:=key;simp only at this h0;subst this h0;rfl
  rw [hS',cf,bs,WZ hS,Xg,cond_false];rfl
 rw [WZ h0,cf,bs,cf,bs,cf,bs,WZ (fun e=>h0 (by rw [e];rfl)),Xg,cond_false]
end
end
end Go.Proofs.YtmcifcmlojonnaaGreatDoor