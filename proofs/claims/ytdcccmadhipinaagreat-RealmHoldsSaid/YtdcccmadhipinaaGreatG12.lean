/- Merged texts: part 12. No conditions of their own. -/
import Derived.Test.YtdcccmadhipinaaGreatG11
import Derived.KernelRfl
namespace Go.Proofs.YtdcccmadhipinaaGreat
open Go.RowKit
structure Tm where
 k:Int
 ck:Int
 fl:Int
 sl:List (Nat ⊕ SR)
 mo:List SR
def tv (R:List SR):Nat ⊕ SR→SR
 | .inl i=>R.getD i vZ
 | .inr v=>v
def wg (R:List SR)(t:Tm)(age:Int):Ta:=⟨t.ck,0,t.fl,age,t.sl.map (tv R),t.mo⟩
structure RT (g:SS) (T:List Tm):Prop where
 len:g.roots_.length=T.length
 at_: ∀(j:Nat) (t:Tm),T[j]? =some t→ ∃a age,g.roots_[j]? =some (⟨t.k,a,⟨#[]⟩⟩:SR)∧bw g.m_ a=true∧cc g.m_ a=wg g.roots_ t age
structure TmOk (T:List Tm):Prop where
 kind: ∀t∈T,t.k=7∨t.k=9
 ref: ∀t∈T, ∀i,.inl i∈t.sl→i<T.length
 val: ∀t∈T, ∀v,(.inr v∈t.sl∨v∈t.mo)→bI v=false
theorem EK {k a:Int}{s:ByteArray}(h:k=7∨k=9):bI ⟨k,a,s⟩=true:=by
 rcases h with rfl|rfl<;>rfl
theorem Mc (F:SR→SR)(R:List SR){i:Nat}(hi:i<R.length):(R.map F).getD i vZ=F (R.getD i vZ):=by
 rw [List.getD_eq_getElem?_getD,List.getD_eq_getElem?_getD,List.getElem?_map,List.getElem?_eq_getElem hi];rfl
theorem Mv.rt {g g':SS}{ρ:Int→Int}{f:List Int}(m:Mv g g' ρ f){T:List Tm}(h:RT g T)(o:TmOk T):RT g' T:=by
 refine ⟨by rw [m.roots,List.length_map,h.len],fun j t ht=> ?_⟩;obtain ⟨a,age,h1,h2,h3⟩:=h.at_ j t ht;have hm:t∈T:=List.mem_of_getElem? ht;have hb:bI (⟨t.k,a,⟨#[]⟩⟩:SR)=true:=EK (o.kind t hm);have hf:a∈f:=m.rin _ (List.mem_of_getElem? h1) hb;obtain ⟨q1,age',q2⟩:=m.at_ a hf;refine ⟨ρ a,age',?_,q1,?_⟩
 ·rw [m.roots,List.getElem?_map,h1];show some (dk ρ f ⟨t.k,a,⟨#[]⟩⟩)=_;rw [C2 hb hf]
 rw [q2,h3]
 have e1:(t.sl.map (tv g.roots_)).map (dk ρ f)=t.sl.map (tv g'.roots_):=by
  rw [List.map_map]
  refine List.map_congr_left fun x hx=> ?_
  cases x with
  |inl i=>
   have hi:=o.ref t hm i hx;show dk ρ f (g.roots_.getD i vZ)=g'.roots_.getD i vZ;rw [m.roots,Mc _ _ (by rw [h.len];exact hi)]
  |inr v=>exact I3 (o.val t hm v (.inl hx))
 have e2:t.mo.map (dk ρ f)=t.mo:=by
  have:t.mo.map (dk ρ f)=t.mo.map id:=List.map_congr_left fun v hv=>I3 (o.val t hm v (.inr hv))
  rw [this,List.map_id]
 show (⟨t.ck,0,t.fl,age',(t.sl.map (tv g.roots_)).map (dk ρ f),t.mo.map (dk ρ f)⟩:Ta)=_;rw [e1,e2];rfl
structure Sm (n:Nat) (g:SS):Prop where
 cnt:g.m_.Young.length+g.m_.Old.length≤n
 rts:g.roots_.length≤n
 cells: ∀c∈g.m_.Young++g.m_.Old,c.Slots.length≤1∧c.More.length≤1
theorem Mv.sm {g g':SS}{ρ:Int→Int}{f:List Int}(m:Mv g g' ρ f){n:Nat}(h:Sm n g):Sm n g':=by
 refine ⟨Nat.le_trans m.cnt h.cnt,by rw [m.roots,List.length_map];exact h.rts,fun c hc=> ?_⟩;obtain ⟨⟨a,ha,age,rfl⟩, -⟩:=m.cells c hc;have:=h.cells _ (pR (m.has a ha));show ((cc g.m_ a).Slots.map _).length≤1∧((cc g.m_ a).More.map _).length≤1;rw [List.length_map,List.length_map];exact this
theorem Pt {n:Nat}(hn:n≤70){g:SS}(s:Sm n g)(hp:g.pending_=[])(w64:W64 g.m_)(r64: ∀v∈g.roots_,in64 v.N)(set:g.set_.at_.map Prod.fst=jy g.m_):HB g:=by
 obtain ⟨n1,n2⟩:=GU set;have h1:=s.cnt;have h2:=s.rts
 have hw: ∀l:List Ta,(∀c∈l,c∈g.m_.Young++g.m_.Old)→wt l≤3*l.length∧mS l≤1*l.length:=fun l hl=>by
  unfold mS;rw [uy, ←nS, ←nS];exact ⟨wi fun c hc=>by have:=s.cells c (hl c hc);unfold wC;omega,wi fun c hc=>by have:=s.cells c (hl c hc);omega⟩
 have h3:=hw g.m_.Young fun c hc=>Tn _ hc
 have h4:=hw g.m_.Old fun c hc=>To _ hc
 have hl:(g.roots_++g.pending_).length=g.roots_.length:=by rw [hp,List.append_nil]
 exact ⟨⟨by omega,by omega,by omega,fun c hc=>by have:=s.cells c hc;omega⟩,⟨by omega,by omega⟩,by rw [FI];omega,by omega,w64,by rw [hp,List.append_nil];exact r64,n1,n2⟩
def IH (g:SS)(k:Int)(c:Ta):SS:=⟨⟨g.m_.Young++ [c],g.m_.Old⟩,g.roots_++ [⟨k,2*(g.m_.Young.length:Int)+1,⟨#[]⟩⟩],g.pending_,g.set_⟩
theorem Nj {m:SP}(c:Ta):(∀x,bw m x=true→bw ⟨m.Young++ [c],m.Old⟩ x=true∧cc ⟨m.Young++ [c],m.Old⟩ x=cc m x)∧bw ⟨m.Young++ [c],m.Old⟩ (2*(m.Young.length:Int)+1)=true∧cc ⟨m.Young++ [c],m.Old⟩ (2*(m.Young.length:Int)+1)=c:=by
 refine ⟨fun x hx=> ?_,?_,?_⟩
 ·rcases sN hx with ⟨i,hi,rfl⟩|⟨i,hi,rfl⟩
  ·have h2:i<(m.Young++ [c]).length:=by simp;omega
   exact ⟨by rw [FP];exact Ti h2,by rw [DM ⟨m.Young++ [c],m.Old⟩ i h2,DM m i hi];exact List.getElem_append_left hi⟩
  exact ⟨by rw [tu];exact Ti hi,by rw [uk ⟨m.Young++ [c],m.Old⟩ i hi,uk m i hi]⟩
 ·rw [FP];exact Ti (by simp)
 rw [DM ⟨m.Young++ [c],m.Old⟩ m.Young.length (by simp)];simp
theorem LZ {m:SP}(c:Ta):jy ⟨m.Young++ [c],m.Old⟩=jy m:=by
 unfold jy;show List.map _ ((List.range m.Old.length).filter _)=_
 congr 1
 refine List.filter_congr fun i hi=> ?_
 unfold ng;rw [((Nj c).1 (2*(i:Int)+2) (by rw [tu];exact Ti (List.mem_range.1 hi))).2]
theorem Q3 {N:Nat}(hN:5000<N){g:SS}(hl:g.m_.Young.length≤600){c:Ta}(h1:c.Slots.length≤20∧c.More.length≤20)(hr:di c=true)(h0:c.Age=0):
  fs N g c=some (2*(g.m_.Young.length:Int)+1,0,⟨⟨g.m_.Young++ [c],g.m_.Old⟩,g.roots_,g.pending_,g.set_⟩):=by
 have ec:(⟨c.Kind,c.Shape,c.Flags,0,c.Slots,c.More⟩:Ta)=c:=by rw [←h0]
 unfold fs bm;rw [bs,cf,Hl hN V,bs,hr]
 have e:((g.m_.Young++ [(⟨c.Kind,c.Shape,c.Flags,0,c.Slots,c.More⟩:Ta)]).length:Int)=(g.m_.Young.length:Int)+1:=by simp
 rw [nt,cf,sP N c V,bs,rF (by simp only [List.length_cons,List.length_nil];omega),e,r64 V V,r64 V V,ec,show 2*((g.m_.Young.length:Int)+1) - 1=2*(g.m_.Young.length:Int)+1 by omega]
theorem QU (N:Nat){g:SS}(hl:g.roots_.length≤1000)(v:SR):dA N g v=some ((g.roots_.length:Int),⟨g.m_,g.roots_++ [v],g.pending_,g.set_⟩):=by
 have e:((g.roots_++ [v]).length:Int) - 1=(g.roots_.length:Int):=by simp
 unfold dA bm;rw [bs,cf,rF (by simp only [List.length_cons,List.length_nil];omega),e,r64 V V]
theorem Qx {n:Nat}(hn:n<70){g:SS}(s:Sm n g)(p:Pl g){T:List Tm}(r:RT g T)(o:TmOk T){t:Tm}(hk:t.k=7∨t.k=9)(hr:di (wg g.roots_ t 0)=true)(hs:t.sl.length≤1∧t.mo.length≤1)
  (href: ∀i,.inl i∈t.sl→i<T.length) (hval: ∀v,(.inr v∈t.sl∨v∈t.mo)→bI v=false) (h64: ∀v,(.inr v∈t.sl∨v∈t.mo)→in64 v.N) (hkd:t.ck≠8∧t.ck≠10):
  Sm (n+1) (IH g t.k (wg g.roots_ t 0))∧Pl (IH g t.k (wg g.roots_ t 0))∧RT (IH g t.k (wg g.roots_ t 0)) (T++ [t])∧TmOk (T++ [t]):=by
 obtain ⟨a1,a2,a3⟩:=Nj (m:=g.m_) (wg g.roots_ t 0)
 have hmem: ∀d∈(g.m_.Young++ [wg g.roots_ t 0])++g.m_.Old,d∈g.m_.Young++g.m_.Old∨d=wg g.roots_ t 0:=fun d hd=>by
  simp only [List.mem_append,List.mem_cons,List.not_mem_nil,or_false] at hd⊢;rcases hd with (hd|hd)|hd
  ·exact .inl (.inl hd)
  ·exact .inr hd
  exact .inl (.inr hd)
 have hc:=s.cnt;have hrt:=s.rts
 have hroot: ∀i,i<T.length→g.roots_.getD i vZ∈g.roots_:=fun i hi=>by
  rw [List.getD_eq_getElem?_getD,List.getElem?_eq_getElem (by rw [r.len];exact hi)];exact List.getElem_mem _
 have hcv: ∀v∈(wg g.roots_ t 0).Slots++(wg g.roots_ t 0).More,in64 v.N∧(bI v=true→v∈g.roots_):=fun v hv=>by
  rcases List.mem_append.1 hv with hv|hv
  ·obtain ⟨x,hx,rfl⟩:=List.mem_map.1 (show v∈t.sl.map (tv g.roots_) from hv)
   cases x with
   |inl i=>exact ⟨p.hb.r64 _ (Tn _ (hroot i (href i hx))),fun _=>hroot i (href i hx)⟩
   |inr v=>exact ⟨h64 v (.inl hx),fun hb=>by have:=hval v (.inl hx);rw [show tv g.roots_ (.inr v)=v from rfl,this] at hb;cases hb⟩
  exact ⟨h64 v (.inr hv),fun hb=>by have:=hval v (.inr hv);rw [this] at hb;cases hb⟩
 have sm:Sm (n+1) (IH g t.k (wg g.roots_ t 0)):=by
  refine ⟨?_,?_,fun d hd=> ?_⟩
  ·show (g.m_.Young++ [_]).length+g.m_.Old.length≤n+1;simp;omega
  ·show (g.roots_++ [_]).length≤n+1;simp;omega
  rcases hmem d hd with hd|rfl
  ·exact s.cells d hd
  show (t.sl.map _).length≤1∧t.mo.length≤1;rw [List.length_map];exact hs
 have hset:g.set_.at_.map Prod.fst=jy ⟨g.m_.Young++ [wg g.roots_ t 0],g.m_.Old⟩:=by rw [LZ];exact p.set
 have hr64: ∀v∈g.roots_++ [(⟨t.k,2*(g.m_.Young.length:Int)+1,⟨#[]⟩⟩:SR)],in64 v.N:=fun v hv=>by
  simp only [List.mem_append,List.mem_cons,List.not_mem_nil,or_false] at hv;rcases hv with hv|rfl
  ·exact p.hb.r64 v (Tn _ hv)
  show in64 (2*(g.m_.Young.length:Int)+1);unfold in64;omega
 have hW:W64 (⟨g.m_.Young++ [wg g.roots_ t 0],g.m_.Old⟩:SP):=fun d hd=>by
  rcases hmem d hd with hd|rfl
  ·exact p.hb.w64 d hd
  exact fun v hv=>(hcv v hv).1
 refine ⟨sm,⟨Pt V sm p.pend hW hr64 hset,p.pend,fun d hd=> ?_,fun x hx=> ?_,hset⟩,⟨?_,fun j u hu=> ?_⟩,⟨fun u hu=> ?_,fun u hu i hi=> ?_,fun u hu v hv=> ?_⟩⟩
 ·rcases hmem d hd with hd|rfl
  ·exact ⟨(p.cells d hd).1,fun x hx=>(a1 _ ((p.cells d hd).2.1 x hx)).1,(p.cells d hd).2.2⟩
  refine ⟨hr,fun x hx=> ?_,hkd⟩;obtain ⟨v,hv,hb,rfl⟩:=wI hx;exact (a1 _ (p.roots _ (lw.2 ⟨v,(hcv v hv).2 hb,hb,J⟩))).1
 ·obtain ⟨v,hv,hb,rfl⟩:=lw.1 hx;have hv':v∈g.roots_++ [_]:=hv;simp only [List.mem_append,List.mem_cons,List.not_mem_nil,or_false] at hv';rcases hv' with hv'|rfl
  ·exact (a1 _ (p.roots _ (lw.2 ⟨v,hv',hb,J⟩))).1
  exact a2
 ·show (g.roots_++ [_]).length=(T++ [t]).length;simp [r.len]
 ·have hT: ∀u∈T,u.sl.map (tv (g.roots_++ [(⟨t.k,2*(g.m_.Young.length:Int)+1,⟨#[]⟩⟩:SR)]))=u.sl.map (tv g.roots_):=fun u hu=>List.map_congr_left fun x hx=>by
   cases x with
   |inl i=>
    have:=o.ref u hu i hx;show (g.roots_++_).getD i vZ=g.roots_.getD i vZ;rw [List.getD_eq_getElem?_getD,List.getD_eq_getElem?_getD,List.getElem?_append_left (by rw [r.len];exact this)]
   |inr v=>rfl
  have hT':t.sl.map (tv (g.roots_++ [(⟨t.k,2*(g.m_.Young.length:Int)+1,⟨#[]⟩⟩:SR)]))=t.sl.map (tv g.roots_):=List.map_congr_left fun x hx=>by
   cases x with
   |inl i=>
    have:=href i hx;show (g.roots_++_).getD i vZ=g.roots_.getD i vZ;rw [List.getD_eq_getElem?_getD,List.getD_eq_getElem?_getD,List.getElem?_append_left (by rw [r.len];exact this)]
   |inr v=>rfl
  rcases Nat.lt_or_ge j T.length with hj|hj
  ·rw [List.getElem?_append_left hj] at hu;obtain ⟨a,age,h1,h2,h3⟩:=r.at_ j u hu;refine ⟨a,age,?_,(a1 a h2).1,?_⟩
   ·show (g.roots_++ [_])[j]? =_;rw [List.getElem?_append_left (by rw [r.len];exact hj),h1]
   show cc ⟨g.m_.Young++ [_],g.m_.Old⟩ a=wg (g.roots_++ [_]) u age;rw [(a1 a h2).2,h3];unfold wg;rw [hT u (List.mem_of_getElem? hu)]
  rw [List.getElem?_append_right hj] at hu
  have ej:j - T.length=0:=by
   rcases Nat.eq_zero_or_pos (j - T.length) with h0|h0
   ·exact h0
   rw [show j - T.length=(j - T.length - 1)+1 by omega] at hu;simp at hu
  rw [ej] at hu
  obtain rfl:t=u:=by simpa using hu
  refine ⟨2*(g.m_.Young.length:Int)+1,0,?_,a2,?_⟩
  ·show (g.roots_++ [_])[j]? =_;rw [List.getElem?_append_right (by rw [r.len];exact hj),r.len,ej];rfl
  show cc ⟨g.m_.Young++ [_],g.m_.Old⟩ _=wg (g.roots_++ [_]) t 0;rw [a3];unfold wg;rw [hT']
 ·rcases List.mem_append.1 hu with hu|hu
  ·exact o.kind u hu
  obtain rfl:u=t:=by simpa using hu
  exact hk
 ·rw [List.length_append];rcases List.mem_append.1 hu with hu|hu
  ·have:=o.ref u hu i hi;omega
  obtain rfl:u=t:=by simpa using hu
  have:=href i hi;omega
 rcases List.mem_append.1 hu with hu|hu
 ·exact o.val u hu v hv
 obtain rfl:u=t:=by simpa using hu
 exact hval v hv
theorem PQ {N:Nat}{g:SS}(hs: ∀c∈g.m_.Young++g.m_.Old,c.Slots.length≤600∧c.More.length≤600){a:Int}(ha:in64 a)(hh:bw g.m_ a=true):nz N g a=some (cc g.m_ a,true):=by
 unfold nz;rw [Mb N g ha,bs,hh];have hc:=hs _ (pR hh);have hi64:in64 a:=ha;unfold nw;rcases sN hh with ⟨i,hi,rfl⟩|⟨i,hi,rfl⟩
 ·have e1:(2*(i:Int)+1).tmod 2=1:=by rw [sf V];omega
  have e2:(2*(i:Int)+1).tdiv 2=i:=by rw [Int.tdiv_eq_ediv_of_nonneg V];omega
  rw [DM g.m_ i hi] at hc⊢;unfold in64 at hi64;rw [nt,cf,e1,e2,Ti (p:=(1:Int)=1) rfl,ct,r64 V V,br hi,bs,bs]
  dsimp only [Fg]
  rw [br hi,bs,sP N _ V,bs]
 have e1:(2*(i:Int)+2).tmod 2=0:=by rw [sf V];omega
 have e2:(2*(i:Int)+2).tdiv 2=(i:Int)+1:=by rw [Int.tdiv_eq_ediv_of_nonneg V];omega
 have e5:(i:Int)+1 - 1=i:=by omega
 rw [uk g.m_ i hi] at hc⊢;unfold in64 at hi64;rw [nt,cf,e1,e2,e5,Tj (p:=(0:Int)=1) V,cf,r64 V V,r64 V V,br hi,bs,bs]
 dsimp only [Fg]
 rw [br hi,bs,sP N _ V,bs]
theorem K6 {N:Nat}{w:Te}(hs: ∀c∈w.heap_.m_.Young++w.heap_.m_.Old,c.Slots.length≤600∧c.More.length≤600){v:SR}(hv:bI v=true)(ha:in64 v.N)(hh:bw w.heap_.m_ v.N=true):bW N w v=some (cc w.heap_.m_ v.N):=by
 have e:ox N v=some (bI v):=by
  unfold ox bI;cases decide (v.Kind=7)<;>rfl
 unfold bW;rw [e,bs,hv,nt,cf,PQ hs ha hh,bs];rfl
theorem IU (N:Nat){g:SS}{j:Nat}{v:SR}(h:g.roots_[j]? =some v):bX N g (j:Int)=some v:=by
 obtain ⟨hj,e⟩:=List.getElem?_eq_some_iff.1 h;rw [Kn];unfold Ep;rw [Ti (p:=(0:Int)≤(j:Int)) V,Ti (p:=(j:Int)<(g.roots_.length:Int)) V,Int.toNat_natCast,List.getD_eq_getElem?_getD,h];rfl
theorem Hk (N:Nat)(g:SS):gj N g (g.roots_.length:Int)=some g:=by
 unfold gj bm;rw [bs,nf,ct,Tj (p:=max (g.roots_.length:Int) 0<(g.roots_.length:Int)) V,bs,cf]
structure RW (n:Nat) (g:SS) (T:List Tm):Prop where
 big:n≤70
 sm:Sm n g
 pl:Pl g
 rt:RT g T
 ok:TmOk T
theorem RW.sizes {n:Nat}{g:SS}{T:List Tm}(h:RW n g T): ∀c∈g.m_.Young++g.m_.Old,c.Slots.length≤600∧c.More.length≤600:=h.pl.hb.small.cells
theorem RW.cell {n:Nat}{w:Te}{T:List Tm}(h:RW n w.heap_ T)(N:Nat){j:Nat}{t:Tm}(ht:T[j]? =some t): ∃a age,bX N w.heap_ (j:Int)=some ⟨t.k,a,⟨#[]⟩⟩∧bW N w ⟨t.k,a,⟨#[]⟩⟩=some (wg w.heap_.roots_ t age):=by
 obtain ⟨a,age,h1,h2,h3⟩:=h.rt.at_ j t ht;refine ⟨a,age,IU N h1,?_⟩;rw [K6 h.sizes (EK (h.ok.kind t (List.mem_of_getElem? ht))) (h.pl.hb.r64 _ (Tn _ (List.mem_of_getElem? h1))) h2];exact congrArg some h3
theorem RW.mv {n:Nat}{g g':SS}{T:List Tm}(h:RW n g T){ρ:Int→Int}{f:List Int}(m:Mv g g' ρ f):RW n g' T:=⟨h.big,m.sm h.sm,m.pl h.pl,m.rt h.rt h.ok,h.ok⟩
def Kj (w:Te)(g:SS):Te:=⟨w.spent_,w.config_,(),g,w.shapes_,w.symbols_,w.epoch_,w.serial_,w.sleepers_,w.events_,w.out_⟩
theorem EJ (N:Nat){w:Te}(h:w.heap_.roots_.length≤600):gW N w=some (w.heap_.roots_.length:Int):=by
 unfold gW;rw [G0 N _ h,bs]
theorem Eb {N:Nat}(hN:5000<N){n:Nat}{w:Te}{T:List Tm}(h:RW n w.heap_ T){t:Tm}(ht:T[19]? =some t)(hm:t.mo=[]): ∃g',ez N w=some (Kj w g')∧RW n g' T:=by
 obtain ⟨a,age,h1,h2⟩:=h.cell N ht;obtain ⟨g',ρ,f,e,m⟩:=LR hN h.pl;have hl:=h.sm.rts;have hb:=h.big;obtain ⟨N',rfl⟩: ∃N',N=N'+1:=⟨N - 1,by omega⟩;refine ⟨g',?_,h.mv m⟩;have h1':bX (N'+1) w.heap_ 19=some ⟨t.k,a,⟨#[]⟩⟩:=h1;unfold ez;rw [EJ (N'+1) V,bs,h1',bs,h2,bs,cx.eq_2]
 have hz:(wg w.heap_.roots_ t age).More.length=0:=by show t.mo.length=0;rw [hm];rfl
 rw [hz,Tj (p:=(0:Int)<((0:Nat):Int)) V,cf];unfold fL;have e':dY (N'+1) (⟨(⟨w.heap_.m_.Young,w.heap_.m_.Old⟩:SP),w.heap_.roots_,w.heap_.pending_,(⟨w.heap_.set_.at_⟩:SW)⟩:SS)=some (0,g'):=e
 have hlen:w.heap_.roots_.length=g'.roots_.length:=by rw [m.roots,List.length_map]
 rw [e',bs];show (gj (N'+1) g' (w.heap_.roots_.length:Int)).bind _=_;rw [hlen,Hk,bs];rfl
theorem Ea {N:Nat}(hN:5000<N){n:Nat}{w:Te}{T:List Tm}(h:RW n w.heap_ T){t:Tm}(ht:T[19]? =some t)(hm:t.mo=[]): ∃g',ey N w=some (Kj w g')∧RW n g' T:=by
 obtain ⟨a,age,h1,h2⟩:=h.cell N ht;obtain ⟨g',ρ,f,e,m⟩:=LM hN h.pl;have hl:=h.sm.rts;have hb:=h.big;obtain ⟨N',rfl⟩: ∃N',N=N'+1:=⟨N - 1,by omega⟩;refine ⟨g',?_,h.mv m⟩;have h1':bX (N'+1) w.heap_ 19=some ⟨t.k,a,⟨#[]⟩⟩:=h1;unfold ey;rw [EJ (N'+1) V,bs,h1',bs,h2,bs,cw.eq_2]
 have hz:(wg w.heap_.roots_ t age).More.length=0:=by show t.mo.length=0;rw [hm];rfl
 rw [hz,Tj (p:=(0:Int)<((0:Nat):Int)) V,cf];unfold fI;have e':dX (N'+1) (⟨(⟨w.heap_.m_.Young,w.heap_.m_.Old⟩:SP),w.heap_.roots_,w.heap_.pending_,(⟨w.heap_.set_.at_⟩:SW)⟩:SS)=some (0,g'):=e
 have hlen:w.heap_.roots_.length=g'.roots_.length:=by rw [m.roots,List.length_map]
 rw [e',bs];show (gj (N'+1) g' (w.heap_.roots_.length:Int)).bind _=_;rw [hlen,Hk,bs];rfl
theorem Hi (N:Nat)(a:Int)(w:Te): ∃b,fk N a w=some b:=by
 unfold fk;by_cases h:0<a
 ·rw [cJ h,ct,kw V,bs];exact ⟨_,J⟩
 rw [cK V,cf,bs];exact ⟨_,J⟩
theorem NE {N:Nat}(hN:5000<N){n:Nat}{w:Te}{T:List Tm}(h:RW n w.heap_ T){t:Tm}(ht:T[19]? =some t)(hm:t.mo=[])(h0:0≤w.spent_.steps_)(h1:w.spent_.steps_<w.config_.Steps)(h2:w.config_.Steps≤2000):
  ∃w',el N w=some (true,w')∧w'.spent_.steps_=w.spent_.steps_+1∧w'.config_=w.config_∧RW n w'.heap_ T:=by
 unfold el;rw [Tj (p:=w.config_.Steps≤w.spent_.steps_) V,cf,r64 V V];obtain ⟨b,hb⟩:=Hi N w.config_.Full (⟨(⟨w.spent_.steps_+1,w.spent_.made_,w.spent_.calls_⟩:ST),w.config_,(),w.heap_,w.shapes_,w.symbols_,w.epoch_,w.serial_,w.sleepers_,w.events_,w.out_⟩:Te);obtain ⟨b2,hb2⟩:=Hi N w.config_.Young (⟨(⟨w.spent_.steps_+1,w.spent_.made_,w.spent_.calls_⟩:ST),w.config_,(),w.heap_,w.shapes_,w.symbols_,w.epoch_,w.serial_,w.sleepers_,w.events_,w.out_⟩:Te);rw [hb,bs]
 cases b with
 |true=>
  obtain ⟨g',e,r⟩:=Eb hN (w:=(⟨(⟨w.spent_.steps_+1,w.spent_.made_,w.spent_.calls_⟩:ST),w.config_,(),w.heap_,w.shapes_,w.symbols_,w.epoch_,w.serial_,w.sleepers_,w.events_,w.out_⟩:Te)) h ht hm;rw [ct,e,bs];exact ⟨_,J,J,J,r⟩
 | false=>
  rw [cf,hb2,bs]
  cases b2 with
  |true=>
   obtain ⟨g',e,r⟩:=Ea hN (w:=(⟨(⟨w.spent_.steps_+1,w.spent_.made_,w.spent_.calls_⟩:ST),w.config_,(),w.heap_,w.shapes_,w.symbols_,w.epoch_,w.serial_,w.sleepers_,w.events_,w.out_⟩:Te)) h ht hm;rw [ct,e,bs];exact ⟨_,J,J,J,r⟩
  |false=>
   rw [cf];exact ⟨_,J,J,J,h⟩
set_option maxRecDepth 20000
def tg (n:Nat):Nat ⊕ SR:=if n=0 then .inr ⟨1,0,⟨#[]⟩⟩ else if n=6∨n=7∨n=8 then .inl 5 else if n=4∨n=16 then .inl 3 else .inl 0
def T0:List Tm:=(List.range 18).map (fun n=>⟨7,1,if n=17 then 1 else 17,[tg n],[]⟩)++ [⟨9,11,0,[],[]⟩,⟨9,11,0,[],[]⟩]
def sc (x:Int):Tm:=⟨9,11,0,[],[⟨3,x,⟨#[]⟩⟩]⟩
def Ry (g:SS)(T:List Tm):Bool:=decide (g.roots_.length=T.length)&&(List.range T.length).all fun j=>match T[j]?,g.roots_[j]? with
 |some t,some v=>decide (v.Kind=t.k)&&decide (v.S=⟨#[]⟩)&&bw g.m_ v.N&&decide (cc g.m_ v.N=wg g.roots_ t (cc g.m_ v.N).Age)
 |_,_=>false
theorem QP {g:SS}{T:List Tm}(h:Ry g T=true):RT g T:=by
 unfold Ry at h;rw [Bool.and_eq_true,decide_eq_true_eq,List.all_eq_true] at h;refine ⟨h.1,fun j t ht=> ?_⟩;have hj:j<T.length:=(List.getElem?_eq_some_iff.1 ht).1;have h2:=h.2 j (List.mem_range.2 hj);obtain ⟨v,hr⟩: ∃v,g.roots_[j]? =some v:=⟨_,List.getElem?_eq_getElem (by rw [h.1];exact hj)⟩;rw [ht,hr] at h2;obtain ⟨vk,vn,vs⟩:=v;simp only [Bool.and_eq_true,decide_eq_true_eq] at h2;obtain ⟨⟨⟨a1,a2⟩,a3⟩,a4⟩:=h2;exact ⟨vn,_,by rw [hr,a1,a2],a3,a4⟩
def Rs (T:List Tm):Bool:=T.all fun t=>(decide (t.k=7)||decide (t.k=9))&&t.sl.all (fun x=>match x with| .inl i=>decide (i<T.length)| .inr v=> !bI v)&&t.mo.all fun v=> !bI v
theorem QM {T:List Tm}(h:Rs T=true):TmOk T:=by
 unfold Rs at h;rw [List.all_eq_true] at h
 have key: ∀t∈T,(t.k=7∨t.k=9)∧(∀x∈t.sl,(match x with| .inl i=>decide (i<T.length)| .inr v=> !bI v)=true)∧ ∀v∈t.mo,(!bI v)=true:=fun t ht=>by
  have:=h t ht;rw [Bool.and_eq_true,Bool.and_eq_true,Bool.or_eq_true,decide_eq_true_eq,decide_eq_true_eq,List.all_eq_true,List.all_eq_true] at this;exact ⟨this.1.1,this.1.2,this.2⟩
 refine ⟨fun t ht=>(key t ht).1,fun t ht i hi=> ?_,fun t ht v hv=> ?_⟩
 ·have:=(key t ht).2.1 _ hi;exact of_decide_eq_true this
 rcases hv with hv|hv
 ·have:=(key t ht).2.1 _ hv
  cases hb:bI v with
  |false=>rfl
  |true=>rw [show (match (Sum.inr v:Nat ⊕ SR) with| .inl i=>decide (i<T.length)| .inr v=> !bI v)=!bI v from rfl,hb] at this;cases this
 have:=(key t ht).2.2 _ hv
 cases hb:bI v with
 |false=>rfl
 |true=>rw [hb] at this;cases this
def GY (v:SR):Bool:=decide (-9223372036854775808≤v.N)&&decide (v.N≤9223372036854775807)
theorem Ma {v:SR}(h:GY v=true):in64 v.N:=by
 unfold GY at h;rw [Bool.and_eq_true,decide_eq_true_eq,decide_eq_true_eq] at h;exact h
def Sd (g:SS)(c:Ta):Bool:=decide (c.Slots.length≤1)&&(decide (c.More.length≤1)&&(di c&&((cI c).all (bw g.m_)&&(!decide (c.Kind=8)&&(!decide (c.Kind=10)&&(c.Slots++c.More).all GY)))))
def Ru (n:Nat)(g:SS)(T:List Tm):Bool:=
 decide (g.m_.Young.length+g.m_.Old.length≤n)&&(decide (g.roots_.length≤n)&&(g.pending_.isEmpty&&(decide (g.set_.at_.map Prod.fst=jy g.m_)&&((g.m_.Young++g.m_.Old).all (Sd g)&&(g.roots_.all GY&&((bZ g.roots_).all (bw g.m_)&&(Ry g T&&Rs T)))))))
theorem QO {n:Nat}(hn:n≤70){g:SS}{T:List Tm}(h:Ru n g T=true):RW n g T:=by
 unfold Ru at h;simp only [Bool.and_eq_true,decide_eq_true_eq,List.all_eq_true,List.isEmpty_iff] at h;obtain ⟨h1,h2,h3,h4,h5,h6,h7,h8,h9⟩:=h
 have hc: ∀c∈g.m_.Young++g.m_.Old,c.Slots.length≤1∧c.More.length≤1∧di c=true∧(∀x∈cI c,bw g.m_ x=true)∧c.Kind≠8∧c.Kind≠10∧ ∀v∈c.Slots++c.More,GY v=true:=fun c hc=>by
  have:=h5 c hc;unfold Sd at this;simpa only [Bool.and_eq_true,decide_eq_true_eq,List.all_eq_true,Bool.not_eq_true',decide_eq_false_iff_not] using this
 have sm:Sm n g:=⟨h1,h2,fun c h=>⟨(hc c h).1,(hc c h).2.1⟩⟩;exact ⟨hn,sm,⟨Pt hn sm h3 (fun c h v hv=>Ma ((hc c h).2.2.2.2.2.2 v hv)) (fun v hv=>Ma (h6 v hv)) h4,h3,fun c h=>⟨(hc c h).2.2.1,(hc c h).2.2.2.1,(hc c h).2.2.2.2.1,(hc c h).2.2.2.2.2.1⟩,h7,h4⟩,QP h8,QM h9⟩
def RH:SS:=match mG 6000 (⟨0,100,1,40,0,0,0⟩:SY) with
 |some (.inr w)=>w.1.heap_
 |_=>⟨⟨[],[]⟩,[],[],⟨[]⟩⟩
theorem PR:Ru 20 RH T0=true:=by kernel_rfl
theorem Ge:kG 6000=some true:=by kernel_rfl
theorem RC (y f:Int)(hy:0≤y∧y≤5)(hf:0≤f∧f≤5): ∃tb,mG 6000 (⟨0,100,1,40,y,f,0⟩:SY)=some (.inr ((⟨⟨0,0,0⟩,⟨0,100,1,40,y,f,0⟩,(),RH,tb,[],0,0,0,[],[]⟩:Te),0)):=by
 have e:ov 6000 (⟨0,100,1,40,y,f,0⟩:SY)=some true:=by
  unfold ov dw;simp only [Ti (p:=(0:Int)≤y) hy.1,Ti (p:=(0:Int)≤f) hf.1,Ti (p:=y≤1073741824) V,Ti (p:=f≤1073741824) V];rfl
 unfold mG;rw [e,bs,nt,cf];exact ⟨⟨[⟨-1,⟨0,0,⟨#[]⟩⟩,0,0⟩],[]⟩,by kernel_rfl⟩
theorem Qs {x:Int}(h1: -9007199254740992≤x)(h2:x≤9007199254740992)(R:List SR):di (wg R (sc x) 0)=true:=by
 have hm:oX ⟨3,x,⟨#[]⟩⟩=true:=by
  have e:f3 0 ⟨3,x,⟨#[]⟩⟩=(bif decide (-9007199254740992≤x) then some (decide (x≤9007199254740992)) else some false):=by
   unfold f3;cases decide (-9007199254740992≤x)<;>kernel_rfl
  unfold oX;rw [e,Ti h1,Ti h2];rfl
 show di ⟨11,0,0,0,[],[⟨3,x,⟨#[]⟩⟩]⟩=true;unfold di;simp only [List.all_nil,List.all_cons,hm,Bool.and_true,Bool.true_and];rfl
set_option maxRecDepth 20000
section
variable (N:Nat) (l:List Int) (w:Te)
def RS (m:Nat)(i:Int):Option Bool:=jA N l m i w.spent_.steps_ w.spent_.made_ w.spent_.calls_ w.config_.Way w.config_.Steps w.config_.Calls w.config_.Made w.config_.Young w.config_.Full w.config_.Sites w.symbols_ w.epoch_ w.serial_ w.sleepers_ w.events_ w.out_ w.heap_.m_.Young w.heap_.m_.Old w.heap_.roots_ w.heap_.pending_ w.shapes_.shapes_ w.shapes_.next_ w.heap_.set_.at_
def Pk (m:Nat)(i:Int):Option Bool:=i5 N l w.symbols_ w.events_ w.out_ w.spent_.steps_ w.spent_.made_ w.spent_.calls_ w.config_.Way w.config_.Steps w.config_.Calls w.config_.Made w.config_.Young w.config_.Full w.config_.Sites w.epoch_ w.serial_ w.sleepers_ w.heap_.m_.Young w.heap_.m_.Old w.heap_.roots_ w.heap_.pending_ w.shapes_.shapes_ w.shapes_.next_ w.heap_.set_.at_ m i
def Pj (m:Nat)(i:Int):Option Bool:=i4 N w.symbols_ w.events_ w.out_ w.spent_.steps_ w.spent_.made_ w.spent_.calls_ w.config_.Way w.config_.Steps w.config_.Calls w.config_.Made w.config_.Young w.config_.Full w.config_.Sites w.epoch_ w.serial_ w.sleepers_ w.heap_.m_.Young w.heap_.m_.Old w.heap_.roots_ w.heap_.pending_ w.shapes_.shapes_ w.shapes_.next_ w.heap_.set_.at_ m i
def QG:Option Bool:=(ga N w.heap_).bind fun y142=>(bif decide (y142=0) then ((kG N).bind fun y144=>some y144) else (some false)).bind fun b143=>some b143
theorem Rj (m:Nat)(i:Int):RS N l w (m+1) i=bif decide (i<(l.length:Int)) then ((aF l i).bind fun x74=>(bif decide (x74<(-9007199254740992)) then (some true) else ((aF l i).bind fun x76=>some (decide (9007199254740992<x76)))).bind fun b75=>bif b75 then ((kG N).bind fun y78=>some y78) else ((aF l i).bind fun x79=>(eo N w (⟨11,0,0,0,[],[⟨3,x79,⟨#[]⟩⟩]⟩:Ta)).bind fun y81=>(gV N y81.2 y81.1).bind fun y94=>(el N y94.2).bind fun y105=>bif !y105.1 then (some false) else (bi (in64 (i+1)) (RS N l y105.2 m (i+1))))) else (Pk N l w N 0):=Eq.trans rfl rfl
theorem QH (m:Nat)(i:Int):Pk N l w (m+1) i=bif decide (i<(l.length:Int)) then (bi (in64 (20+i)) ((ji N w (20+i)).bind fun y123=>(bW N w y123).bind fun y124=>(bif !decide (y124.Kind=11) then (some true) else (some (!decide ((y124.More.length:Int)=1)))).bind fun b128=>(bif b128 then (some true) else ((aF y124.More 0).bind fun x130=>(aF l i).bind fun x131=>some (!decide (x130.N=x131)))).bind fun b129=>bif b129 then (some false) else (bi (in64 (i+1)) (Pk N l w m (i+1))))) else (Pj N w N 0):=Eq.trans rfl rfl
theorem QF (m:Nat)(i:Int):Pj N w (m+1) i=bif decide (i<18) then ((oN N w i).bind fun y138=>bif !y138 then (some false) else (bi (in64 (i+1)) (Pj N w m (i+1)))) else (QG N w):=Eq.trans rfl rfl
end
theorem KP {N:Nat}{w:Te}{j:Nat}(hj:j<18)(hl:18≤w.heap_.roots_.length):bx N w (j:Int)=some (w.heap_.roots_.getD j vZ):=by
 have h1:w.heap_.roots_[j]? =some (w.heap_.roots_.getD j vZ):=by
  rw [List.getD_eq_getElem?_getD,List.getElem?_eq_getElem V];rfl
 unfold bx;rw [cK V,cf,Tj (p:=(18:Int)≤(j:Int)) V,bs,cf,IU N h1,bs]
theorem Ls {N n:Nat}{w:Te}{T:List Tm}(h:RW n w.heap_ T)(hT: ∀j,j<20→T[j]? =T0[j]?)(i:Nat)(hi:i<18):oN N w (i:Int)=some true:=by
 have hl:18≤w.heap_.roots_.length:=by
  have h19:T[19]? =some ⟨9,11,0,[],[]⟩:=hT 19 V;have:=(List.getElem?_eq_some_iff.1 h19).1;rw [h.rt.len];omega
 have hI:=fun j hj=>KP (N:=N) (w:=w) (j:=j) hj hl
 have h0:bx N w 0=some (w.heap_.roots_.getD 0 vZ):=hI 0 V;have h3:bx N w 3=some (w.heap_.roots_.getD 3 vZ):=hI 3 V;have h5:bx N w 5=some (w.heap_.roots_.getD 5 vZ):=hI 5 V
 have ht:T[i]? =some ⟨7,1,if i=17 then 1 else 17,[tg i],[]⟩:=by
  rw [hT i V];unfold T0;rw [List.getElem?_append_left (by simp;omega),List.getElem?_map,List.getElem?_range hi];rfl
 obtain ⟨a,age,e1,e2⟩:=h.cell N ht
 have e1':bx N w (i:Int)=some ⟨7,a,⟨#[]⟩⟩:=by
  unfold bx;rw [cK V,cf,Tj (p:=(18:Int)≤(i:Int)) V,bs,cf,e1,bs]
 have hj: ∀v:SR,iM N (wg w.heap_.roots_ ⟨7,1,if i=17 then 1 else 17,[tg i],[]⟩ age) v.Kind v.N v.S=some (decide (tv w.heap_.roots_ (tg i)=v)):=fun v=>Eq.trans rfl rfl
 have hK:((bif !decide ((wg w.heap_.roots_ ⟨7,1,if i=17 then 1 else 17,[tg i],[]⟩ age).Kind=1) then (some true) else (some (!decide (((wg w.heap_.roots_ ⟨7,1,if i=17 then 1 else 17,[tg i],[]⟩ age).Slots.length:Int)=1)))):Option Bool)=some false:=Eq.trans rfl rfl;unfold oN;rw [e1',bs,e2,bs,hK,bs,cf,h0,bs];unfold lO ou;rw [h3,h5];simp only [Option.bind_some,hj];have hj0:iM N (wg w.heap_.roots_ ⟨7,1,if i=17 then 1 else 17,[tg i],[]⟩ age) 1 0 ⟨#[]⟩=some (decide (tv w.heap_.roots_ (tg i)=⟨1,0,⟨#[]⟩⟩)):=Eq.trans rfl rfl;rw [hj0];unfold tg;rcases Nat.lt_or_ge i 1 with q|q
 ·obtain rfl:i=0:=by omega
  simp [tv]
 by_cases q1:i=6∨i=7∨i=8
 ·rcases q1 with rfl|rfl|rfl<;>simp [tv]
 by_cases q2:i=4∨i=16
 ·rcases q2 with rfl|rfl<;>simp [tv]
 have a0: ¬(i:Int)=0:=by omega
 have a6: ¬(i:Int)=6:=by omega
 have a7: ¬(i:Int)=7:=by omega
 have a8: ¬(i:Int)=8:=by omega
 have a4: ¬(i:Int)=4:=by omega
 have a16: ¬(i:Int)=16:=by omega
 rw [if_neg V,if_neg q1,if_neg q2,Tj a0,Tj a6,Tj a7,Tj a8,Tj a4,Tj a16];simp [tv]
structure LI (l:List Int) (i:Nat) (w:Te):Prop where
 st:w.spent_.steps_=i
 cf:w.config_.Steps=100
 rw_:RW (20+i) w.heap_ (T0++(l.take i).map sc)
theorem PA {l:List Int}{i j:Nat}(hj:j<20):(T0++(l.take i).map sc)[j]? =T0[j]? :=List.getElem?_append_left (by show j<20;exact hj)
theorem PY {n:Nat}{w:Te}{T:List Tm}(h:RW n w.heap_ T):QG 6000 w=some true:=by
 unfold QG;rw [h.pl.ok V,bs,Ti (p:=(0:Int)=0) rfl,ct,Ge,bs,bs]
theorem I6 {n:Nat}{w:Te}{T:List Tm}(h:RW n w.heap_ T)(hT: ∀j,j<20→T[j]? =T0[j]?): ∀m i:Nat,18<m+i→i≤18→Pj 6000 w m (i:Int)=some true
 |0,i,h1,h2=>by omega
 | m+1,i,h1,h2=>by
  rw [QF];rcases Nat.lt_or_ge i 18 with hi|hi
  ·rw [cJ V,ct,Ls h hT i hi,bs,nt,cf,r64 V V];exact I6 h hT m (i+1) V hi
  rw [cK V,cf];exact PY h
theorem I7 {l:List Int}(hl:l.length≤30){w:Te}(h:LI l l.length w): ∀m i:Nat,l.length<m+i→i≤l.length→Pk 6000 l w m (i:Int)=some true
 |0,i,h1,h2=>by omega
 | m+1,i,h1,h2=>by
  rw [QH];have hr:=h.rw_;rw [List.take_length] at hr;rcases Nat.lt_or_ge i l.length with hi|hi
  ·have ht:(T0++l.map sc)[20+i]? =some (sc l[i]):=by
    rw [List.getElem?_append_right (by show 20≤20+i;omega),show 20+i - T0.length=i by show 20+i - 20=i;omega,List.getElem?_map,List.getElem?_eq_getElem hi];rfl
   obtain ⟨a,age,e1,e2⟩:=hr.cell 6000 ht
   have e1':ji 6000 w (20+(i:Int))=some ⟨9,a,⟨#[]⟩⟩:=by
    unfold ji;rw [show (20:Int)+(i:Int)=((20+i:Nat):Int) by omega,e1,bs];rfl
   have e2':bW 6000 w ⟨9,a,⟨#[]⟩⟩=some ⟨11,0,0,age,[],[⟨3,l[i],⟨#[]⟩⟩]⟩:=e2;rw [cJ V,ct,r64 V V,e1',bs,e2',bs];have e3:aF l (i:Int)=some l[i]:=br hi
   have e4: ∀x:SR,aF [x] 0=some x:=fun x=>rfl
   dsimp only
   rw [Ti (p:=(11:Int)=11) rfl,nt,cf,Ti (p:=(([(⟨3,l[i],⟨#[]⟩⟩:SR)].length:Nat):Int)=1) rfl,nt,bs,cf,e4,bs,e3,bs]
   dsimp only
   rw [Ti (p:=l[i]=l[i]) rfl,nt,bs,cf,r64 V V];exact I7 hl h m (i+1) V hi
  rw [cK V,cf];exact I6 h.rw_ (fun j hj=>PA hj) 6000 0 V V
theorem LS {l:List Int}(hl:l.length≤30): ∀(m i:Nat) (w:Te),l.length<m+i→i≤l.length→LI l i w→RS 6000 l w m (i:Int)=some true
 |0,i,w,h1,h2,_=>by omega
 | m +1,i,w,h1,h2,h=>by
  rw [Rj];rcases Nat.lt_or_ge i l.length with hi|hi
  ·have e3:aF l (i:Int)=some l[i]:=br hi;rw [cJ V,ct,e3,bs,bs];by_cases c1:l[i]< -9007199254740992
   ·rw [cJ c1,ct,bs,ct,Ge,bs]
   rw [Tj c1,cf,bs];by_cases c2:9007199254740992<l[i]
   ·rw [cJ c2,ct,Ge,bs]
   rw [Tj c2,cf,bs];have hr:=h.rw_;have hb:=hr.big
   have hY:w.heap_.m_.Young.length≤600:=by have:=hr.sm.cnt;omega
   have hbx:di (wg w.heap_.roots_ (sc l[i]) 0)=true:=Qs V V _;have em:=Q3 (N:=6000) V hY (c:=wg w.heap_.roots_ (sc l[i]) 0) ⟨by show 0≤20;omega,by show 1≤20;omega⟩ hbx rfl;have em':fs 6000 w.heap_ (⟨11,0,0,0,[],[⟨3,l[i],⟨#[]⟩⟩]⟩:Ta)=some (2*(w.heap_.m_.Young.length:Int)+1,0,⟨⟨w.heap_.m_.Young++ [wg w.heap_.roots_ (sc l[i]) 0],w.heap_.m_.Old⟩,w.heap_.roots_,w.heap_.pending_,w.heap_.set_⟩):=em
   have eh:eo 6000 w (⟨11,0,0,0,[],[⟨3,l[i],⟨#[]⟩⟩]⟩:Ta)=some (⟨9,2*(w.heap_.m_.Young.length:Int)+1,⟨#[]⟩⟩,Kj w ⟨⟨w.heap_.m_.Young++ [wg w.heap_.roots_ (sc l[i]) 0],w.heap_.m_.Old⟩,w.heap_.roots_,w.heap_.pending_,w.heap_.set_⟩):=by
    unfold eo;rw [em',bs,Ti (p:=(0:Int)=0) rfl,nt,cf];rfl
   have hrl:=hr.sm.rts
   have ep: ∃z,gV 6000 (Kj w ⟨⟨w.heap_.m_.Young++ [wg w.heap_.roots_ (sc l[i]) 0],w.heap_.m_.Old⟩,w.heap_.roots_,w.heap_.pending_,w.heap_.set_⟩) ⟨9,2*(w.heap_.m_.Young.length:Int)+1,⟨#[]⟩⟩=some (z,Kj w (IH w.heap_ 9 (wg w.heap_.roots_ (sc l[i]) 0))):=by
    refine ⟨(w.heap_.roots_.length:Int),?_⟩;unfold gV;rw [QU 6000 (by show w.heap_.roots_.length≤1000;omega),bs];rfl
   obtain ⟨z,ep⟩:=ep
   obtain ⟨s',p',r',o'⟩:=Qx (n:=20+i) V hr.sm hr.pl hr.rt hr.ok (t:=sc l[i]) (.inr rfl) hbx ⟨by show 0≤1;omega,by show 1≤1;omega⟩ (fun j hj=>by cases hj) (fun v hv=>by
    rcases hv with hv|hv
    ·cases hv
    ·obtain rfl:v=⟨3,l[i],⟨#[]⟩⟩:=by simpa [sc] using hv
     rfl) (fun v hv=>by
    rcases hv with hv|hv
    ·cases hv
    ·obtain rfl:v=⟨3,l[i],⟨#[]⟩⟩:=by simpa [sc] using hv
     show in64 l[i]
     unfold in64;omega) ⟨by show¬(11:Int)=8;omega,by show¬(11:Int)=10;omega⟩
   have eT:(T0++(l.take i).map sc)++ [sc l[i]]=T0++(l.take (i+1)).map sc:=by
    rw [Tl,List.take_succ_eq_append_getElem hi,List.map_append];rfl
   rw [eT] at r' o';have hr2:RW (20+i+1) (IH w.heap_ 9 (wg w.heap_.roots_ (sc l[i]) 0)) (T0++(l.take (i+1)).map sc):=⟨by omega,s',p',r',o'⟩;have t19:(T0++(l.take (i+1)).map sc)[19]? =some ⟨9,11,0,[],[]⟩:=(PA V).trans rfl;obtain ⟨w',et,g1,g2,g3⟩:=NE (N:=6000) V (w:=Kj w (IH w.heap_ 9 (wg w.heap_.roots_ (sc l[i]) 0))) hr2 t19 rfl (by show 0≤w.spent_.steps_;rw [h.st];omega) (by show w.spent_.steps_<w.config_.Steps;rw [h.st,h.cf];omega) (by show w.config_.Steps≤2000;rw [h.cf];omega);rw [eh,bs]
   dsimp only
   rw [ep,bs]
   dsimp only
   rw [et,bs]
   dsimp only
   rw [nt,cf,r64 V V];refine LS hl m (i+1) w' V hi ⟨?_,?_,g3⟩
   ·rw [g1];show w.spent_.steps_+1=_;rw [h.st];omega
   rw [g2];exact h.cf
  rw [cK V,cf]
  obtain rfl:i=l.length:=by omega
  exact I7 hl h 6000 0 V V
theorem N6 (y f:Int)(l:List Int):nQ 6000 y f l=some true:=by
 unfold nQ;by_cases h:y<0∨5<y∨f<0∨5<f∨30<(l.length:Int)
 ·have e:((bif decide (y<0) then (some true) else (some (decide (5<y)))).bind fun b2=>(bif b2 then (some true) else (some (decide (f<0)))).bind fun b3=>(bif b3 then (some true) else (some (decide (5<f)))).bind fun b4=>(bif b4 then (some true) else (some (decide (30<(l.length:Int))))):Option Bool)=some true:=by
   by_cases c1:y<0
   ·rw [cJ c1];rfl
   by_cases c2:5<y
   ·rw [Tj c1,cJ c2];rfl
   by_cases c3:f<0
   ·rw [Tj c1,Tj c2,cJ c3];rfl
   by_cases c4:5<f
   ·rw [Tj c1,Tj c2,Tj c3,cJ c4];rfl
   rw [Tj c1,Tj c2,Tj c3,Tj c4,Ti (p:=30<(l.length:Int)) V];rfl
  simp only [←Option.bind_assoc] at e⊢;rw [e,bs,ct,Ge];rfl
 rw [Tj (p:=y<0) V,Tj (p:=5<y) V,Tj (p:=f<0) V,Tj (p:=5<f) V,Tj (p:=30<(l.length:Int)) V];simp only [cond_false,Option.bind_some];obtain ⟨tb,e⟩:=RC y f V V;rw [e,bs]
 dsimp only [Fg]
 rw [Ti (p:=(0:Int)=0) rfl,nt,cf]
 exact LS V 6000 0 ⟨⟨0,0,0⟩,⟨0,100,1,40,y,f,0⟩,(),RH,tb,[],0,0,0,[],[]⟩ V V ⟨J,J,by
  rw [List.take_zero,List.map_nil,List.append_nil]
  exact QO V PR⟩
end Go.Proofs.YtdcccmadhipinaaGreat