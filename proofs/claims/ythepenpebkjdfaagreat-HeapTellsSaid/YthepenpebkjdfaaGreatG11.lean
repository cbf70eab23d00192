/- Merged texts: part 11. No conditions of their own. -/
import Derived.Test.YthepenpebkjdfaaGreatG10
namespace Go.Proofs.YthepenpebkjdfaaGreat
open Go.RowKit
theorem K0 (N:Nat)(hN:6500<N)(c:Ql)(hS:c.Slots.length<=600)(hc:c.More.length<=600):sN N c=some ((bI c).any yB):=by
 have q1:=eH c;have q2:=iN c
 have hl:(bC c++db c).length<=2400:=by rw [QC];omega
 have h:=qo (fun k i=>(ji N (bC c) (db c) k i).map not) (bC c++db c) (fun x=> !yB x) (fun k i hi=> ?_) (fun k=> ?_) N U
 ·unfold sN bI;simp only [QH,List.length_nil,Nat.zero_add];rw [my N U c U U,bs,rF U,rp N U c U,bs,rF U]
  have e:((bC c++db c).all fun x=> !yB x)=!(bC c++db c).any yB:=by
   simp [List.all_eq_not_any_not]
  rw [e] at h
  cases hv:ji N (bC c) (db c) N 0 with
  |none=>simp only [hv] at h;cases h
  |some b=>simp only [hv] at h;have:=Option.some.inj h;cases b<;>cases hq:(bC c++db c).any yB<;>simp_all
 ·show (ji N _ _ _ _).map not=_
  have e: ∀x:Int,(bif decide (0<x) then (some (decide (x.tmod 2=1))) else (some false):Option Bool)=some (yB x):=fun x=>by unfold yB;cases decide (0<x)<;>rfl
  rw [ji.eq_2];simp only [QH];rw [bG U,ct,aC hi];simp only [bs];rw [e,bs,r64 U U];cases yB (bC c++db c)[i]<;>rfl
 show (ji N _ _ _ _).map not=_;rw [ji.eq_2];simp only [QH];rw [bH U,cf];rfl
theorem La (N:Nat)(hN:6500<N){m:Qg}{roots:List Qn}(hs:Small m roots):sO N m=some (fP m):=by
 have ho:=hs.old;apply Sat.eq;unfold sO;refine bA (fun k i (s:List Int)=>iT N m k s (i:Int)) m.Old.length (fun i s=>s=((List.range i).filter (iw m)).map (fun i:Nat=>2*(i:Int)+2)) _ ?_ ?_ N 0 [] U U J
 ·rintro k i s hi rfl go;have hc:=hs.cells _ (Qx m.Young (QI hi))
  have hli:(((List.range i).filter (iw m)).map (fun i:Nat=>2*(i:Int)+2)).length<=i:=by rw [QE];exact Nat.le_trans (List.length_filter_le _ _) (by simp)
  have hnext:((List.range (i+1)).filter (iw m)).map (fun i:Nat=>2*(i:Int)+2)=((List.range i).filter (iw m)).map (fun i:Nat=>2*(i:Int)+2)++(bif iw m i then [2*(i:Int)+2] else []):=by
   rw [List.range_succ,List.filter_append,List.map_append];cases h:iw m i<;>simp [h]
  have hy:(bI m.Old[i]).any yB=iw m i:=by unfold iw;rw [nl m i hi]
  show Sat (iT N m (k+1) _ (i:Int)) _;rw [iT.eq_2,bG U,ct,aC hi,bs,K0 N hN _ hc.1 hc.2,bs,hy];unfold pB;cases hb:iw m i
  ·rw [hb,cond_false,List.append_nil] at hnext;rw [cf,r64 U U];exact go _ hnext.symm
  rw [hb,cond_true] at hnext;rw [ct,r64 U U,r64 U U,rF (by simp only [List.length_cons,List.length_nil];omega),r64 U U];exact go _ hnext.symm
 rintro k s rfl;show Sat (iT N m (k+1) _ _) _;rw [iT.eq_2,bH U,cf];exact aA J
def cL (g:Qe):Qk:=⟨g.m_,g.roots_,g.pending_⟩
def cZ:Ql:=⟨0,0,0,0,[],[]⟩
def xY (n e:Int):Qd:=⟨n,e,false,cZ,vZ,[]⟩
theorem GE (N:Nat)(c:Ql)(h:c.Slots.length<=600/\c.More.length<=600):oo N c=some c:=by
 unfold oo;rw [rF (by simp;omega),rF (by simp;omega)];rfl
theorem MP {N k:Nat}(hN:6500<N){g:Qe}(h:HInv k g)(hk:k<40){c:Ql}(h1:c.Slots.length<=20/\c.More.length<=20):
  rE N (cL g) c=some (bif cY c then (cL ⟨⟨g.m_.Young++ [⟨c.Kind,c.Shape,c.Flags,0,c.Slots,c.More⟩],g.m_.Old⟩,g.roots_,g.pending_,g.set_⟩,xY (2*(g.m_.Young.length:Int)+1) 0) else (cL g,xY 0 51)):=by
 have hc:=h.cnt;unfold rE;rw [nD N U c U U,bs]
 cases cY c with
 |false=>rfl
 |true=>
  have e:((g.m_.Young++ [(⟨c.Kind,c.Shape,c.Flags,0,c.Slots,c.More⟩:Ql)]).length:Int)=(g.m_.Young.length:Int)+1:=by simp
  have e0:(cL g).M=g.m_:=rfl;rw [nt,cf,GE N c U,bs,e0];rw [rF (by simp only [List.length_nil];omega),QH,rF (by simp only [List.length_cons,List.length_nil];omega),e,r64 U U,r64 U U,r64 U U,ct,show (g.m_.Young.length:Int)+1 - 1=g.m_.Young.length by omega];rfl
theorem NB {N k:Nat}(hN:6500<N){g:Qe}(h:HInv k g)(hk:k<40){a:Int}(ha:in64 a){c:Ql}(h1:c.Slots.length<=20/\c.More.length<=20):
  ue N (cL g) a c=some (bif !bp g.m_ a then (cL g,xY 0 50) else bif !cY c then (cL g,xY 0 51) else (cL (wD g a c),xY 0 0)):=by
 have hc:=h.cnt;have e0:(cL g).M=g.m_:=rfl;unfold ue;rw [e0,vq N _ _ ha,bs,nD N U c U U,bs]
 cases hh:bp g.m_ a with
 |false=>rfl
 | true=>
  cases cY c with
  |false=>rfl
  | true=>
   rw [nt,cf,cf,cf,cf,GE N c U,bs];rw [QH,QH];unfold wD sK;rcases il hh with ⟨i,hi,rfl⟩|⟨i,hi,rfl⟩
   ·have e1:(2*(i:Int)+1).tmod 2=1:=by rw [o3 U];omega
    have e2:(2*(i:Int)+1).tdiv 2=i:=by rw [Int.tdiv_eq_ediv_of_nonneg U];omega
    have e3:(2*(i:Int)+1) / 2=i:=by omega
    have e4:(2*(i:Int)+1)%2=1:=by omega
    rw [e1,e2,e3,e4,Qs (p:=(1:Int)=1) rfl,ct,ct,rF (by simp only [List.length_nil];omega),r64 U U,aC hi,bs,r64 U U,bs,yu g.m_ i hi];rfl
   have e1:(2*(i:Int)+2).tmod 2=0:=by rw [o3 U];omega
   have e2:(2*(i:Int)+2).tdiv 2=(i:Int)+1:=by rw [Int.tdiv_eq_ediv_of_nonneg U];omega
   have e3:(2*(i:Int)+2) / 2 - 1=i:=by omega
   have e4:(2*(i:Int)+2)%2=0:=by omega
   have e5:(i:Int)+1 - 1=i:=by omega
   rw [e1,e2,e3,e4,e5,Qt (p:=(0:Int)=1) U,cf,cf,rF (by simp only [List.length_nil];omega),r64 U U,r64 U U,aC hi,bs,r64 U U,r64 U U,bs,nl g.m_ i hi];rfl
theorem IR {g:Qe}(hn:(g.set_.at_.map Prod.fst).Nodup)(hset:dv g.set_.at_=fP g.m_){a:Int}(ha:bp g.m_ a=true)(c:Ql)(nd:((wD g a c).set_.at_.map Prod.fst).Nodup):dv (wD g a c).set_.at_=fP (wD g a c).m_:=by
 obtain ⟨f1, -, -,f4⟩:=JP g a c;obtain ⟨s1,s2,s3,s4, -, -⟩:=Ni (F4 c (bK g.m_ a).Age) ha;have e:dv (wD g a c).set_.at_=jq ((wD g a c).set_.at_.map Prod.fst):=rfl;rw [e]
 refine Ch nd (zT _) fun x=> ?_
 have hkv: ∀x,x∈g.set_.at_.map Prod.fst↔x∈fP g.m_:=fun x=>by rw [<-hset];exact (ri _ x).symm
 have hold: ∀i,i<g.m_.Old.length->iw (wD g a c).m_ i=if 2*(i:Int)+2=a then (bI c).any yB else iw g.m_ i:=fun i hi=>by
  unfold iw;rw [f1,s2 _ (by rw [xa];exact Qs hi)];split<;>rfl
 rw [rl,f1,s4,f4, <-f1];rcases il ha with ⟨j,hj,rfl⟩|⟨j,hj,rfl⟩
 ·rw [Qs U,cond_true,hkv,rl];refine ⟨fun ⟨i,h1,h2,h3⟩=>⟨i,h1,by rw [hold i h1,if_neg U];exact h2,h3⟩,fun ⟨i,h1,h2,h3⟩=>⟨i,h1,by rw [hold i h1,if_neg U] at h2;exact h2,h3⟩⟩
 rw [Qt U,cond_false,D9 hn,hkv,rl];constructor
 ·rintro (⟨h1,⟨i,q1,q2,rfl⟩|rfl⟩|⟨h1,⟨i,q1,q2,rfl⟩,hne⟩)
  ·refine ⟨i,q1,?_,J⟩;rw [hold i q1];split
   ·exact h1
   exact q2
  ·exact ⟨j,hj,by rw [hold j hj,if_pos rfl];exact h1,rfl⟩
  exact ⟨i,q1,by rw [hold i q1,if_neg hne];exact q2,rfl⟩
 rintro ⟨i,q1,q2,rfl⟩;rw [hold i q1] at q2;by_cases hij:2*(i:Int)+2=2*(j:Int)+2
 ·rw [if_pos hij] at q2;exact .inl ⟨q2,.inr hij⟩
 rw [if_neg hij] at q2
 cases hb:(bI c).any yB with
 |true=>exact .inl ⟨rfl,.inl ⟨i,q1,q2,rfl⟩⟩
 |false=>exact .inr ⟨rfl,⟨i,q1,q2,rfl⟩,hij⟩
theorem C5 {m:Qg}{kv:List (Int×Bool)}(h:kv.map Prod.fst=fP m):dv kv=fP m:=by
 have e:dv kv=jq (kv.map Prod.fst):=rfl;rw [e,h]
 exact Ch ((zT m).imp fun hab e=>by omega) (zT m) fun x=>Iff.rfl
theorem KI (N:Nat)(g:Qe)(f:Qn->Qn)(gone:List Qn)(hP O:List Ql)(h1:g.roots_.length+g.pending_.length<=600)(h2:gone.length<=3600):eV N (cL g) ((g.roots_++g.pending_).map f) gone 0 hP O=some (⟨⟨hP,O⟩,g.roots_.map f,g.pending_.map f++gone⟩,xY 0 0):=by
 have e1:(((g.roots_++g.pending_).map f).drop 0).take ((g.roots_.length:Int).toNat - 0)=g.roots_.map f:=by
  rw [List.drop_zero,Nat.sub_zero,Int.toNat_natCast,List.map_append,List.take_left' (by simp)]
 have e2:(((g.roots_++g.pending_).map f).drop ((g.roots_.length:Int).toNat)).take (((g.roots_++g.pending_).map f).length - (g.roots_.length:Int).toNat)=g.pending_.map f:=by
  rw [Int.toNat_natCast,List.map_append,List.drop_left' (by simp)];exact List.take_of_length_le (by simp)
 have hl:((g.roots_++g.pending_).map f).length=g.roots_.length+g.pending_.length:=by simp
 have e0:(cL g).Roots=g.roots_:=rfl;unfold eV;rw [e0,e1,e2,kB rfl,nt,cf,gL ⟨by omega,by omega,by omega⟩,rF (by simp;omega),gL ⟨by omega,by omega,by omega⟩,rF (by simp;omega),rF (by simp;omega)];rfl
theorem Ja {m m':Qg}(h:m'.Old=m.Old):fP m'=fP m:=by
 unfold fP;rw [h]
 congr 1
 refine List.filter_congr fun i hi=> ?_
 rw [List.mem_range] at hi;unfold iw;rw [nl m i hi,nl m' i (by rw [h];exact hi)];simp only [h]
theorem Lz (N:Nat)(g:Qe)(i:Int)(hl:g.roots_.length<=600):fa N g i=some (bif decide (max i 0<(g.roots_.length:Int)) then ⟨g.m_,g.roots_.take (max i 0).toNat,g.pending_,g.set_⟩ else g):=by
 unfold fa aI;rw [bs,nf,ct,bs];by_cases h1:max i 0<(g.roots_.length:Int)
 ·rw [bG h1,ct,gL ⟨by omega,by omega⟩,ct]
 rw [Qt h1,cf,cf]
theorem NM (N:Nat)(g:Qe)(x:Qc)(hl:g.roots_.length<=600):(bif decide (x.N<0) then (kj N (cL g) x 0) else (kj N (cL g) x x.N))=some (cL (bif decide (max x.N 0<(g.roots_.length:Int)) then ⟨g.m_,g.roots_.take (max x.N 0).toNat,g.pending_,g.set_⟩ else g),xY 0 0):=by
 have e0:(cL g).Roots=g.roots_:=rfl
 have key: ∀n:Int,0<=n->kj N (cL g) x n=some (cL (bif decide (n<(g.roots_.length:Int)) then ⟨g.m_,g.roots_.take n.toNat,g.pending_,g.set_⟩ else g),xY 0 0):=fun n hn=>by
  unfold kj uM;rw [e0];by_cases h1:n<(g.roots_.length:Int)
  ·rw [Qs h1,ct,ct,gL ⟨by omega,by omega,by omega⟩,List.drop_zero,Nat.sub_zero,rF (by simp only [List.length_nil,QD];omega),QH];rfl
  rw [Qt h1,cf,cf];rfl
 by_cases hn:x.N<0
 ·rw [Qs hn,ct,key 0 U,show max x.N 0=0 by omega]
 rw [Qt hn,cf,key x.N U,show max x.N 0=x.N by omega]
theorem JI (g:Qe)(i:Int):((bif decide (i<0) then (some true) else (some (decide (((cL g).Roots.length:Int)<=i)))):Option Bool)=some (!ua g i):=by
 have e0:(cL g).Roots=g.roots_:=rfl;rw [e0];unfold ua;by_cases h1:i<0
 ·rw [Qs h1,Qt (p:=(0:Int)<=i) U];rfl
 rw [Qt h1,Qs (p:=(0:Int)<=i) U];by_cases h2:(g.roots_.length:Int)<=i
 ·rw [Qs h2,Qt (p:=i<(g.roots_.length:Int)) U];rfl
 rw [Qt h2,Qs (p:=i<(g.roots_.length:Int)) U];rfl
theorem Lq {N k:Nat}(hN:6500<N){g:Qe}(h:HInv k g)(hk:k<=40)(hset:dv g.set_.at_=fP g.m_): ∃e g',cF N g=some (e,g')/\gM N (cL g) 5=some (cL g',xY 0 e)/\HInv k g'/\dv g'.set_.at_=fP g'.m_:=by
 have hs:=h.small hk;have hrl:=hs.roots;have hsum:=h.sum;have hkl:=(h.hb hk).kslen;have ho:=hs.old;rw [QC] at hrl;have e0:(cL g).M=g.m_:=rfl;have e1:(cL g).Roots=g.roots_:=rfl;have e2:(cL g).Pending=g.pending_:=rfl
 have head:gM N (cL g) 5=(jj N g.m_ (g.roots_++g.pending_) (dv g.set_.at_)).bind fun y24=>eV N (cL g) y24.Now y24.Gone y24.Err y24.M.Young y24.M.Old:=by
  unfold gM;rw [e0,e1,e2,rF (by simp only [List.length_nil];omega),rF (by simp only [QC,List.length_nil];omega),kB rfl,ct,La N hN hs,bs,hset,QH]
 rcases MV hN h hk with ⟨hm,e⟩|⟨met,kv,c,k2,e,h'⟩
 ·refine ⟨1,g,e,?_,h,hset⟩
  have hk1:nK g.m_ (dv g.set_.at_)=true:=by rw [hset];exact Gk g.m_
  have ho1:ql g.m_ (dv g.set_.at_)=true:=by rw [hset];exact HQ g.m_
  rw [head,FF hN hs h.w64 h.r64 U hk1 ho1 hm,bs];rfl
 refine ⟨0,_,e,?_,h',C5 k2⟩;have h4:=c.mid4;have hg:((nW g.m_ met).map (bX (dl g.m_ met) met)).length=(nW g.m_ met).length:=QE _;have hs4:=(h.hb hk).four;rw [head,Jn c,bs];exact KI N g _ _ _ _ hrl (by show ((nW g.m_ met).map (bX (dl g.m_ met) met)).length<=3600;omega)
theorem Ls {N k:Nat}(hN:6500<N){g:Qe}(h:HInv k g)(hk:k<=40)(hset:dv g.set_.at_=fP g.m_): ∃e g',cW N g=some (e,g')/\gM N (cL g) 6=some (cL g',xY 0 e)/\HInv k g'/\dv g'.set_.at_=fP g'.m_:=by
 have hs:=h.small hk;have hrl:=hs.roots;rw [QC] at hrl;have e0:(cL g).M=g.m_:=rfl;have e1:(cL g).Roots=g.roots_:=rfl;have e2:(cL g).Pending=g.pending_:=rfl
 have head:gM N (cL g) 6=(na N g.m_ (g.roots_++g.pending_)).bind fun y35=>eV N (cL g) y35.2.1 y35.2.2.1 y35.2.2.2 y35.1.Young y35.1.Old:=by
  unfold gM;rw [e0,e1,e2,rF (by simp only [List.length_nil];omega),rF (by simp only [QC,List.length_nil];omega),eJ U,cf,QH]
 rcases MW hN h hk with ⟨hm,e⟩|⟨live,f,kv,c,k2,e,h'⟩
 ·obtain ⟨live,f,hl⟩:=HV N hN hs h.w64 h.r64;refine ⟨_,g,e,?_,h,hset⟩;rw [head,EC N hN hs (h.wtd hk) h.w64 h.r64 hl,bs];unfold yt eV;rw [eJ hm,cf]
  dsimp only
  rw [eJ hm,nf,ct];rfl
 refine ⟨0,_,e,?_,h',C5 k2⟩;have h4:=c.next4;have hs4:=(h.hb hk).four;have hg:((qq g.m_ live f).map (bX (o6 f) f)).length=(qq g.m_ live f).length:=QE _;rw [head,EC N hN hs (h.wtd hk) h.w64 h.r64 c.lv,bs];unfold yt;rw [kB (Jm c),ct];exact KI N g _ _ _ _ hrl (by unfold Dk;simp only;unfold qq at hg h4;omega)
def vE (k:Nat)(p:Option (Qd×Qe))(q:Option (Qk×Qd)):Prop:=
 ∃t g',p=some (t,g')/\q=some (cL g',t)/\HInv (k+1) g'/\dv g'.set_.at_=fP g'.m_/\(t.C.Slots.length<=20/\t.C.More.length<=20)/\t.L.length<=600
theorem uI:(cZ.Slots.length<=20/\cZ.More.length<=20)/\([]:List Qn).length<=600:=⟨⟨by decide,by decide⟩,by simp⟩
section
variable {N k:Nat} {g:Qe} (h:HInv k g) (hset:dv g.set_.at_=fP g.m_) {x:Qc}
include h hset
theorem Pj (hN:6500<N)(hk:k<40)(w3: ∀v∈x.C.Slots++x.C.More,in64 v.N)(hs:x.C.Slots.length<=20/\x.C.More.length<=20):vE k ((fo N g x.C).bind fun y33=>bP N y33.1 y33.2.1 false 0 0 0 0 [] [] 0 0 (⟨#[]⟩) [] y33.2.2.m_.Young y33.2.2.m_.Old y33.2.2.roots_ y33.2.2.pending_ y33.2.2.set_.at_) ((rE N (cL g) x.C).bind fun y12=>some (y12.1,y12.2)):=by
 have z1:=uI;unfold bP;have q1:=(HU hN h hk hs w3).1;have q2:=(HU hN h hk hs w3).2;have q3:=MP hN h hk hs;cases hr:cY x.C
 ·rw [hr,cf] at q1 q2 q3;rw [q1,q3,bs,bs];exact ⟨_,_,J,J,q2,hset,z1⟩
 rw [hr,ct] at q1 q2 q3;rw [q1,q3,bs,bs];have hk2:=hset.trans (Ja (m:=g.m_) (m':=⟨g.m_.Young++ [⟨x.C.Kind,x.C.Shape,x.C.Flags,0,x.C.Slots,x.C.More⟩],g.m_.Old⟩) rfl).symm;exact ⟨_,_,J,J,q2,hk2,z1⟩
theorem Pi (hN:6500<N)(hk:k<40)(w1:in64 x.N)(w3: ∀v∈x.C.Slots++x.C.More,in64 v.N)(hs:x.C.Slots.length<=20/\x.C.More.length<=20):vE k ((kQ N g x.N x.C).bind fun y43=>bP N 0 y43.1 false 0 0 0 0 [] [] 0 0 (⟨#[]⟩) [] y43.2.m_.Young y43.2.m_.Old y43.2.roots_ y43.2.pending_ y43.2.set_.at_) ((ue N (cL g) x.N x.C).bind fun y21=>some (y21.1,y21.2)):=by
 have z1:=uI;unfold bP;have q1:=(JO hN h hk w1 hs w3).1;have q2:=(JO hN h hk w1 hs w3).2;have q3:=NB hN h hk w1 hs;cases hh:bp g.m_ x.N
 ·rw [hh,nf,ct] at q1 q2 q3;rw [q1,q3,bs,bs];exact ⟨_,_,J,J,q2,hset,z1⟩
 rw [hh,nt,cf] at q1 q2 q3;cases hr:cY x.C
 ·rw [hr,nf,ct] at q1 q2 q3;rw [q1,q3,bs,bs];exact ⟨_,_,J,J,q2,hset,z1⟩
 rw [hr,nt,cf] at q1 q2 q3;rw [q1,q3,bs,bs];have hk2:=IR h.nd hset hh _ q2.nd;exact ⟨_,_,J,J,q2,hk2,z1⟩
theorem Ph (hk:k<40)(w2:in64 x.V.N):vE k ((ik N g x.V).bind fun y53=>bP N y53.1 0 false 0 0 0 0 [] [] 0 0 (⟨#[]⟩) [] y53.2.m_.Young y53.2.m_.Old y53.2.roots_ y53.2.pending_ y53.2.set_.at_) (aZ (bi (([]:List Qn).length+(cL g).Roots.length)) (aZ (bi ((([]:List Qn)++(cL g).Roots).length+([x.V]:List Qn).length)) (aZ (in64 ((((([]:List Qn)++(cL g).Roots)++([x.V]:List Qn)).length:Int) - 1)) (some ((⟨(cL g).M,(([]:List Qn)++(cL g).Roots)++([x.V]:List Qn),(cL g).Pending⟩:Qk),(⟨(((([]:List Qn)++(cL g).Roots)++([x.V]:List Qn)).length:Int) - 1,0,false,(⟨0,0,0,0,[],[]⟩:Ql),(⟨0,0,⟨#[]⟩⟩:Qn),[]⟩:Qd)))))):=by
 have z1:=uI;have hrl:=(h.small U).roots;rw [QC] at hrl;have e1:(cL g).Roots=g.roots_:=rfl
 have el:((g.roots_++ [x.V]).length:Int) - 1=(g.roots_.length:Int):=by simp
 have q2:=(HN (N:=N) h hk w2).2;unfold bP;rw [(HN h hk w2).1,bs,e1,QH,rF (by simp only [List.length_nil];omega),rF (by simp only [List.length_cons,List.length_nil];omega),el,r64 U U];exact ⟨_,_,J,J,q2,hset,z1⟩
theorem Pg (w2:in64 x.V.N)(hk:k<40):vE k ((gn N g x.N x.V).bind fun y63=>bP N 0 0 y63.1 0 0 0 0 [] [] 0 0 (⟨#[]⟩) [] y63.2.m_.Young y63.2.m_.Old y63.2.roots_ y63.2.pending_ y63.2.set_.at_) (((bif decide (x.N<0) then (some true) else (some (decide (((cL g).Roots.length:Int)<=x.N)))):Option Bool).bind fun b45=>bif b45 then (some (cL g,(⟨0,0,false,(⟨0,0,0,0,[],[]⟩:Ql),(⟨0,0,⟨#[]⟩⟩:Qn),[]⟩:Qd))) else (aZ (bi (([]:List Qn).length+(cL g).Roots.length)) ((aw (([]:List Qn)++(cL g).Roots) x.N).bind fun x53=>some ((⟨(cL g).M,List.set (([]:List Qn)++(cL g).Roots) x.N.toNat (⟨x.V.Kind,x.V.N,x.V.S⟩:Qn),(cL g).Pending⟩:Qk),(⟨0,0,true,(⟨0,0,0,0,[],[]⟩:Ql),(⟨0,0,⟨#[]⟩⟩:Qn),[]⟩:Qd))))):=by
 have z1:=uI;have hrl:=(h.small U).roots;rw [QC] at hrl;have e1:(cL g).Roots=g.roots_:=rfl;have q1:=(Cj (N:=N) (i:=x.N) h w2).1;have q2:=(Cj (N:=N) (i:=x.N) h w2).2;unfold bP;rw [JI,bs];cases hb:ua g x.N
 ·rw [hb,cf] at q1 q2;rw [q1,bs,nf,ct];exact ⟨_,_,J,J,q2,hset,z1⟩
 obtain ⟨j,hj,hj2⟩:=xw hb;rw [hb,ct] at q1 q2;rw [q1,bs,nt,cf,e1,QH,rF (by simp only [List.length_nil];omega),hj,aC hj2,bs];rw [hj] at q2;exact ⟨_,_,J,J,q2,hset,z1⟩
theorem Pf (hk:k<40):vE k ((fa N g x.N).bind fun y73=>bP N 0 0 false 0 0 0 0 [] [] 0 0 (⟨#[]⟩) [] y73.m_.Young y73.m_.Old y73.roots_ y73.pending_ y73.set_.at_) (bif decide (x.N<0) then (kj N (cL g) x 0) else (kj N (cL g) x x.N)):=by
 have z1:=uI;have hrl:=(h.small U).roots;rw [QC] at hrl;obtain ⟨r,e,h'⟩:=Ly (N:=N) h x.N;have e':=e;rw [Lz N g x.N U] at e';have er:=Option.some.inj e'
 have hr:dv r.set_.at_=fP r.m_:=by
  rw [<-er];cases decide (max x.N 0<(g.roots_.length:Int))<;>exact hset
 unfold bP;rw [NM N g x U,e,bs,er];exact ⟨_,_,J,J,h',hr,z1⟩
theorem Pe (hk:k<40):vE k ((gp N g).bind fun y103=>bP N 0 0 false 0 0 0 0 [] [] 0 0 (⟨#[]⟩) y103.1 y103.2.m_.Young y103.2.m_.Old y103.2.roots_ y103.2.pending_ y103.2.set_.at_) (some ((⟨(cL g).M,(cL g).Roots,[]⟩:Qk),(⟨0,0,false,(⟨0,0,0,0,[],[]⟩:Ql),(⟨0,0,⟨#[]⟩⟩:Qn),(cL g).Pending⟩:Qd))):=by
 have z1:=uI;have hrl:=(h.small U).roots;rw [QC] at hrl;obtain ⟨r,e,h'⟩:=Le (N:=N) h;have e':gp N g=some (g.pending_,⟨g.m_,g.roots_,[],g.set_⟩):=rfl;rw [e'] at e;have er:=Option.some.inj e;rw [<-er] at h';unfold bP;rw [e',bs];exact ⟨_,_,J,J,h',hset,z1.1,by show g.pending_.length<=600;omega⟩
theorem Pd (w1:in64 x.N):vE k ((jK N g x.N).bind fun y113=>bP N 0 0 y113.2 y113.1.Kind y113.1.Shape y113.1.Flags y113.1.Age y113.1.Slots y113.1.More 0 0 (⟨#[]⟩) [] g.m_.Young g.m_.Old g.roots_ g.pending_ g.set_.at_) ((jF N (cL g).M x.N).bind fun y89=>bif !y89 then (some (cL g,(⟨0,0,false,(⟨0,0,0,0,[],[]⟩:Ql),(⟨0,0,⟨#[]⟩⟩:Qn),[]⟩:Qd))) else ((qe N (cL g).M x.N).bind fun y94=>some (cL g,(⟨0,0,true,y94,(⟨0,0,⟨#[]⟩⟩:Qn),[]⟩:Qd)))):=by
 have z1:=uI;have e0:(cL g).M=g.m_:=rfl;have q1:=Ko (N:=N) h w1;unfold bP;rw [q1,bs,e0,vq N _ _ w1,bs,FI N _ _ w1];cases hh:bp g.m_ x.N
 ·exact ⟨_,_,J,J,h.up,hset,z1⟩
 have hc:=h.cells _ (tq hh);exact ⟨_,_,J,J,h.up,hset,hc,by simp⟩
theorem Pc:vE k ((fm N g x.N).bind fun y117=>bP N 0 0 false 0 0 0 0 [] [] y117.Kind y117.N y117.S [] g.m_.Young g.m_.Old g.roots_ g.pending_ g.set_.at_) (((bif decide (x.N<0) then (some true) else (some (decide (((cL g).Roots.length:Int)<=x.N)))):Option Bool).bind fun b98=>bif b98 then (some (cL g,(⟨0,0,false,(⟨0,0,0,0,[],[]⟩:Ql),(⟨0,0,⟨#[]⟩⟩:Qn),[]⟩:Qd))) else ((aw (cL g).Roots x.N).bind fun x103=>some (cL g,(⟨0,0,false,(⟨0,0,0,0,[],[]⟩:Ql),x103,[]⟩:Qd)))):=by
 have z1:=uI;have e1:(cL g).Roots=g.roots_:=rfl;unfold bP;rw [IJ,bs,JI,bs];cases hb:ua g x.N
 ·exact ⟨_,_,J,J,h.up,hset,z1⟩
 obtain ⟨j,hj,hj2⟩:=xw hb;rw [nt,cf,e1,hj,aC hj2,bs,ct,Int.toNat_natCast,List.getD_eq_getElem?_getD,List.getElem?_eq_getElem hj2];exact ⟨_,_,J,J,h.up,hset,z1⟩
theorem MB (hN:6500<N)(hk:k<40)(hx:Od x)(hs:Ns x=true):vE k (yW N g x) (zi N (cL g) x):=by
 obtain ⟨w1,w2,w3⟩:=hx;unfold Ns at hs;rw [QG,decide_eq_true_eq,decide_eq_true_eq] at hs;unfold yW zi;by_cases h0:x.Kind=0
 ·rw [Qs h0,ct,ct];exact Pj h hset hN hk w3 hs
 rw [Qt h0,cf,cf];by_cases h1:x.Kind=1
 ·rw [Qs h1,ct,ct];exact Pi h hset hN hk w1 w3 hs
 rw [Qt h1,cf,cf];by_cases h2:x.Kind=2
 ·rw [Qs h2,ct,ct];exact Ph h hset hk w2
 rw [Qt h2,cf,cf];by_cases h3:x.Kind=3
 ·rw [Qs h3,ct,ct];exact Pg h hset w2 hk
 rw [Qt h3,cf,cf];by_cases h4:x.Kind=4
 ·rw [Qs h4,ct,ct];exact Pf h hset hk
 rw [Qt h4,cf,cf];have z1:=uI;by_cases h5:x.Kind=5
 ·obtain ⟨e,g',q1,q2,q3,q4⟩:=Lq hN h U hset;have q5:=q3.up;unfold bP;rw [Qs h5,ct,ct,q1,bs];unfold pc;rw [ct,h5,q2,bs];exact ⟨_,_,J,J,q5,q4,z1⟩
 rw [Qt h5,cf,cf];by_cases h6:x.Kind=6
 ·obtain ⟨e,g',q1,q2,q3,q4⟩:=Ls hN h U hset;have q5:=q3.up;unfold bP;rw [Qs h6,ct,q1,bs];unfold pc;rw [ct,h6,q2,bs];exact ⟨_,_,J,J,q5,q4,z1⟩
 rw [Qt h6,cf];unfold pc;rw [cf];by_cases h7:x.Kind=7
 ·rw [Qs h7,ct,ct];exact Pe h hset hk
 rw [Qt h7,cf,cf];by_cases h8:x.Kind=8
 ·rw [Qs h8,ct,ct];exact Pd h hset w1
 rw [Qt h8,cf,cf];exact Pc h hset
end
theorem MD (N:Nat)(hN:6500<N)(t:Qd)(h1:t.C.Slots.length<=20/\t.C.More.length<=20)(h2:t.L.length<=600):uG N t t=some true:=by
 unfold uG;rw [Mh N t.C t.C U U U U,HJ N t.L t.L U U,Qs rfl,Qs (p:=t.E=t.E) rfl,Qs (p:=t.V=t.V) rfl,Qs (p:=t.C=t.C) rfl,Qs (p:=t.L=t.L) rfl];cases t.Ok<;>rfl
end Go.Proofs.YthepenpebkjdfaaGreat
namespace Go.Proofs.YthepenpebkjdfaaGreat
open Go.RowKit
theorem LS {N k:Nat}(hN:6500<N){g:Qe}(h:HInv k g)(hk:k<=40):sL N (cL g)=some (bif bZ g.m_ (bn (g.roots_++g.pending_))&&((g.m_.Young++g.m_.Old).all fun c=>bZ g.m_ (bI c)) then 0 else 50):=by
 have hs:=h.small hk;have hw:=h.w64;have hcnt:=h.cnt;have hrl:=hs.roots;have hrl':=hrl;rw [QC] at hrl';have e0:(cL g).M=g.m_:=rfl;have e1:(cL g).Roots=g.roots_:=rfl;have e2:(cL g).Pending=g.pending_:=rfl;have hcl:(g.m_.Young++g.m_.Old).length=g.m_.Young.length+g.m_.Old.length:=QC
 have inner: ∀(kb:Int->Option Int) (p:Int) (c:Ql),c∈g.m_.Young++g.m_.Old->in64 (p+1)->jh N kb p (cL g) (bC c) (db c) N 0=bif bZ g.m_ (bI c) then kb (p+1) else some 50:=fun kb p c hm hp=>by
  obtain ⟨⟨a1,a2⟩,a3,a4⟩:=o8 hs hw hm
  have hl:(bI c).length<=2400:=by unfold bI;rw [QC];omega
  have ha: ∀x∈bI c,in64 x:=fun x hx=>(List.mem_append.1 hx).elim (a2 x) (a4 x)
  have ea:bC c++db c=bI c:=rfl;have:=lg (fun k i=>jh N kb p (cL g) (bC c) (db c) k i) (bI c) (bp g.m_) (some 50) (kb (p+1)) (fun k i hi=> ?_) (fun k=> ?_) N U
  ·exact this
  ·show jh N kb p (cL g) (bC c) (db c) _ _=_;rw [jh.eq_2,QH,ea,bG U,ct,aC hi,bs,e0,vq N _ _ (ha _ (QI hi)),bs,r64 U U];cases bp g.m_ (bI c)[i]<;>rfl
  show jh N kb p (cL g) (bC c) (db c) _ _=_;rw [jh.eq_2,QH,ea,bH U,cf];unfold tx;rw [gL hp]
 have cells:mX N (cL g)=bif (g.m_.Young++g.m_.Old).all (fun c=>bZ g.m_ (bI c)) then some 0 else some 50:=by
  unfold mX;rw [e0,rF (by simp only [List.length_nil];omega),QH,rF U];refine lg (fun k i=>gN N (cL g) k i) (g.m_.Young++g.m_.Old) (fun c=>bZ g.m_ (bI c)) (some 50) (some 0) (fun k i hi=> ?_) (fun k=> ?_) N U
  ·have hm:=QI hi;have hc:=hs.cells _ hm;obtain ⟨⟨a1,a2⟩,a3,a4⟩:=o8 hs hw hm;show gN N (cL g) _ _=_;rw [gN.eq_2,e0,QH,bG U,ct,aC hi,bs,my N U _ U U,bs,rF (by simp only [List.length_nil];omega),bs,rp N U _ U,bs,rF (by simp only [QC,List.length_nil];omega),inner _ _ _ hm (by unfold in64;omega)]
  show gN N (cL g) _ _=_;rw [gN.eq_2,e0,QH,bH U,cf];rfl
 unfold sL;rw [e1,e2,rF (by simp only [List.length_nil];omega),QH,rF U];rw [lg (fun k i=>kW N (cL g) k i) (g.roots_++g.pending_) (fun v=> !bU v||bp g.m_ v.N) (some 50) (mX N (cL g)) (fun k i hi=> ?_) (fun k=> ?_) N U,cells]
 ·have e:bZ g.m_ (bn (g.roots_++g.pending_))=(g.roots_++g.pending_).all fun v=> !bU v||bp g.m_ v.N:=by
   unfold bZ bn;rw [all_map,yP]
  rw [e]
  cases (g.roots_++g.pending_).all fun v=> !bU v||bp g.m_ v.N<;>cases (g.m_.Young++g.m_.Old).all fun c=>bZ g.m_ (bI c)<;>rfl
 ·have h6:=h.r64 _ (QI hi);show kW N (cL g) _ _=_;rw [kW.eq_2,e0,e1,e2,QH,bG U,ct,aC hi];simp only [bs];rw [Eg,bs,vq N _ _ h6,bs,r64 U U];cases bU (g.roots_++g.pending_)[i]<;>cases bp g.m_ (g.roots_++g.pending_)[i].N<;>rfl
 show kW N (cL g) _ _=_;rw [kW.eq_2,e0,e1,e2,QH,bH U,cf]
theorem Iy {k:Nat}{g:Qe}(h:HInv k g)(hset:dv g.set_.at_=fP g.m_)(hk:k<=40):lq 7000 g.m_.Young g.m_.Old g.roots_ g.pending_ g.m_.Young g.m_.Old g.roots_ g.pending_ g.set_.at_=some true:=by
 have hN:6500<7000:=by decide
 have hs:=h.small hk;have hcnt:=h.cnt;have hrl:=hs.roots;rw [QC] at hrl;have eg:(⟨(⟨g.m_.Young,g.m_.Old⟩:Qg),g.roots_,g.pending_,(⟨g.set_.at_⟩:Qo)⟩:Qe)=g:=rfl;have er:(⟨(⟨g.m_.Young,g.m_.Old⟩:Qg),g.roots_,g.pending_⟩:Qk)=cL g:=rfl
 have hck:C9 g=bif bZ g.m_ (bn (g.roots_++g.pending_))&&((g.m_.Young++g.m_.Old).all fun c=>bZ g.m_ (bI c)) then 0 else 50:=by
  unfold C9;rw [hset,HQ]
  cases bZ g.m_ (bn (g.roots_++g.pending_))<;>cases (g.m_.Young++g.m_.Old).all fun c=>bZ g.m_ (bI c)<;>rfl
 have hlen:iM 7000 g=some ((g.m_.Young.length:Int)+(g.m_.Old.length:Int)):=by
  unfold iM aI;rw [bs,cf,r64 U U]
 unfold lq;rw [eg,er,Jd hN hs,bs]
 dsimp only
 rw [Ik 7000 _ _ U U hN (fun c hc=>by have:=hs.cells c (Qw _ hc);omega),bs,Qs rfl,ct,Ik 7000 _ _ U U hN (fun c hc=>by have:=hs.cells c (Qx _ hc);omega),bs,Qs rfl,bs,ct,Gm 7000 g U,bs,HJ 7000 _ _ U U,bs,Qs rfl,bs,ct,r64 U U,hlen,bs,Qs rfl,bs,ct,Gn hN h hk,bs,LS hN h hk,bs,hck,Qs rfl,bs,ct,Il];rfl
theorem Ix {l:List Qc}(hw: ∀x∈l,Od x):nm 7000 l=some true:=by
 unfold nm vo uL;rw [bs,bs,GV 7000 (by decide),bs]
 cases hs:decide (l.length<=40)&&l.all Ns with
 |false=>rw [nf,ct,Il];rfl
 | true=>
  rw [QG,decide_eq_true_eq] at hs;rw [nt,cf];apply Sat.eq;have k0:dv (⟨[]⟩:Qo).at_=fP (⟨[],[]⟩:Qg):=C5 rfl;refine bA (fun k i (s:Qe)=>fY 7000 l k (i:Int) s.m_.Young s.m_.Old s.roots_ s.pending_ s.m_.Young s.m_.Old s.roots_ s.pending_ s.set_.at_) l.length (fun i s=>HInv i s/\dv s.set_.at_=fP s.m_) _ ?_ ?_ 7000 0 ⟨⟨[],[]⟩,[],[],⟨[]⟩⟩ U U ⟨Lm,k0⟩
  ·rintro k i s hi ⟨h,hset⟩ go;show Sat (fY 7000 l (k+1) (i:Int) s.m_.Young s.m_.Old s.roots_ s.pending_ s.m_.Young s.m_.Old s.roots_ s.pending_ s.set_.at_) _;obtain ⟨t,g',q1,q2,q3,q4,q5,q6⟩:=MB (N:=7000) (x:=l[i]) h hset (by decide) U (hw _ (QI hi)) (pR hs.2 (QI hi));have eg:(⟨(⟨s.m_.Young,s.m_.Old⟩:Qg),s.roots_,s.pending_,(⟨s.set_.at_⟩:Qo)⟩:Qe)=s:=rfl;have er:(⟨(⟨s.m_.Young,s.m_.Old⟩:Qg),s.roots_,s.pending_⟩:Qk)=cL s:=rfl;rw [fY.eq_2,bG U,ct,aC hi,bs,er,q2,bs,bs,eg,q1,bs]
   dsimp only
   rw [MD 7000 (by decide) t q5 q6,bs,nt,cf,r64 U U];exact go g' ⟨q3,q4⟩
  rintro k s ⟨h,hset⟩;show Sat (fY 7000 l (k+1) (l.length:Int) s.m_.Young s.m_.Old s.roots_ s.pending_ s.m_.Young s.m_.Old s.roots_ s.pending_ s.set_.at_) _;rw [fY.eq_2,bH U,cf,Iy h hset hs.1];exact aA J
theorem Iw (l:List Qc)(hl:Nu (fun z=>EP z) l):nm 7000 l=some true:=Ix (Lh hl)
end Go.Proofs.YthepenpebkjdfaaGreat