/- Merged texts: part 10. No conditions of their own. -/
import Derived.Test.YthepenpebkjdfaaGreatG9
import Derived.Test.YthepenpebkjdfaaGreatG8
import Derived.IntWalk
namespace Go.Proofs.YthepenpebkjdfaaGreat
section
open Go.RowKit
def mK (g:Gr)(live:List Int):List Int->List Int->List Int
 |row,[]=>row
 |row,a::avs=>mK g live (dg g.has row (g.opens live a)) avs
inductive MOrd (g:Gr) (olds kept:List Int):List Int->List Int->Prop
 |done {row:List Int}:mK g (olds++row) row (kept++row)=row->MOrd g olds kept row row
 |step {row r1 r:List Int}:mK g (olds++row) row (kept++row)≠row->Thr g (mK g (olds++row) row (kept++row)) row.length r1->MOrd g olds kept r1 r->MOrd g olds kept row r
structure IsMinor (g:Gr) (olds kept start b l:List Int):Prop where
 strong:Thr g (dg g.has [] start) 0 b
 all:MOrd g olds kept b l
theorem nT (g:Gr)(live:List Int): ∀(row avs:List Int), ∃t,mK g live row avs=row++t
 |row,[]=>⟨[],by simp [mK]⟩
 |row,a::avs=>by
  obtain ⟨t,h1, -⟩:=gm g.has row (g.opens live a);obtain ⟨t2,h2⟩:=nT g live (dg g.has row (g.opens live a)) avs;exact ⟨t++t2,by unfold mK;rw [h2,h1,Qv]⟩
theorem AE (g:Gr)(live:List Int): ∀(row avs bs:List Int),mK g live row (avs++bs)=mK g live (mK g live row avs) bs
 |_,[],_=>rfl
 |row,a::avs,bs=>by
  show mK g live _ (avs++bs)=_;rw [AE g live _ avs bs];rfl
theorem D3 {g:Gr}{live:List Int}: ∀{row avs:List Int},mK g live row avs=row-> ∀a∈avs, ∀x∈g.opens live a,g.has x=true->x∈row
 | row,b::avs,h,a,ha,x,hx,hh=>by
  have h1:dg g.has row (g.opens live b)=row:=by
   obtain ⟨t,e1, -⟩:=gm g.has row (g.opens live b);obtain ⟨t2,e2⟩:=nT g live (dg g.has row (g.opens live b)) avs
   have h3:row++t++t2=row:=by rw [<-e1, <-e2];exact h
   have h4:=congrArg List.length h3;simp only [QC] at h4;have h5:t=[]:=List.eq_nil_of_length_eq_zero U;rw [e1,h5,List.append_nil]
  rcases List.mem_cons.1 ha with e|ha
  ·subst e;have:=wT row _ hx hh;rwa [h1] at this
  refine D3 (avs:=avs) ?_ a ha x hx hh;unfold mK at h;rw [h1] at h;exact h
theorem MOrd.app {g:Gr}{olds kept row r:List Int}(h:MOrd g olds kept row r): ∃t,r=row++t:=by
 induction h with
 |done _=>exact ⟨[],by simp⟩
 |step _ h1 _ ih=>
  rename_i row r1 _ _ _
  obtain ⟨t,rfl⟩:=ih;obtain ⟨t1,rfl⟩:=h1.app;obtain ⟨t2,h2⟩:=nT g (olds++row) row (kept++row);exact ⟨t2++t1++t,by rw [h2];simp [Qv]⟩
theorem MOrd.det {g:Gr}{olds kept row r r':List Int}(h:MOrd g olds kept row r)(h':MOrd g olds kept row r'):r=r':=by
 induction h with
 |done hk=>
  cases h' with
  |done _=>rfl
  |step ha _ _=>exact absurd hk ha
 |step ha h1 _ ih=>
  cases h' with
  |done hk=>exact absurd hk ha
  |step _ h1' h2=>exact ih (h1.det h1'▸h2)
theorem IsMinor.det {g:Gr}{olds kept start b l b' l':List Int}(h:IsMinor g olds kept start b l)(h':IsMinor g olds kept start b' l'):l=l':=by
 obtain ⟨h1,h2⟩:=h;obtain ⟨h3,h4⟩:=h';have e:=h1.det h3;subst e;exact h2.det h4
theorem MOrd.closed {g:Gr}{olds kept row r:List Int}(h:MOrd g olds kept row r)(hc:CloG g row row.length):CloG g r r.length/\ ∀a∈kept++r, ∀x∈g.opens (olds++r) a,g.has x=true->x∈r:=by
 induction h with
 |done hp=>exact ⟨hc,D3 hp⟩
 |step _ h1 _ ih=>
  rename_i row _ _ _ _
  obtain ⟨t,e⟩:=nT g (olds++row) row (kept++row);refine ih (h1.clo (by rw [e,QC];omega) ?_);rw [e];exact hc.app (Nat.le_refl _)
theorem IsMinor.start {g:Gr}{olds kept start b l:List Int}(h:IsMinor g olds kept start b l){x:Int}(hx:x∈start)(hh:g.has x=true):x∈l:=by
 obtain ⟨t,e⟩:=h.strong.app;obtain ⟨t2,e2⟩:=h.all.app;rw [e2,e];exact Qw _ (Qw _ (wT _ _ hx hh))
theorem IsMinor.closed {g:Gr}{olds kept start b l:List Int}(h:IsMinor g olds kept start b l):(∀a∈l, ∀x∈g.leads a,g.has x=true->x∈l)/\ ∀a∈kept++l, ∀x∈g.opens (olds++l) a,g.has x=true->x∈l:=by
 obtain ⟨h1,h2⟩:=h.all.closed (h.strong.clo (Nat.zero_le _) fun i _ _ hi=>absurd hi U);refine ⟨fun a ha x hx hh=> ?_,h2⟩;obtain ⟨i,hi,e⟩:=List.getElem_of_mem ha;exact h1 i a x hi (by rw [List.getElem?_eq_getElem hi,e]) hx hh
def yB (a:Int):Bool:=decide (0<a)&&decide (a.tmod 2=1)
def xU (N:Nat)(m:Qg):Gr:=⟨yB,fun a=>bC (bK m a),fun live a=>dJ N (bK m a) live⟩
theorem rn (N:Nat)(a:Int):fB N a=some (yB a):=by
 unfold fB yB;cases decide (0<a)<;>cases decide (a.tmod 2=1)<;>rfl
theorem Ca (k:Nat):yB (2*(k:Int)+1)=true:=by
 unfold yB;rw [o3 U,Qs U,Qs U];rfl
theorem xo (k:Nat):yB (2*(k:Int)+2)=false:=by
 unfold yB;rw [o3 U,Qt (p:=(2*(k:Int)+2)%2=1) U,Bool.and_false]
structure Mt (m:Qg) (met:List Int) (seen:List (Int×Bool)):Prop where
 nd:met.Nodup
 yng: ∀x∈met,yB x=true
 has: ∀x∈met,bp m x=true
 mem: ∀x,(lk seen x).getD false=decide (x∈met)
theorem Mt.len {m:Qg}{roots:List Qn}(hs:Small m roots){met:List Int}{seen:List (Int×Bool)}(h:Mt m met seen):met.length<=1200:=wI 1200 h.nd fun x hx=>⟨by have:=qp (h.has x hx);omega,by have:=vt hs (h.has x hx);omega⟩
theorem Mt.nil (m:Qg):Mt m [] []:=⟨List.nodup_nil,by simp,by simp,fun x=>by simp;rfl⟩
theorem Ea (N:Nat){m:Qg}{roots:List Qn}(hs:Small m roots)(kp:List Int){met:List Int}{seen:List (Int×Bool)}(nx:Int)(h:Mt m met seen)(a:Int)(ha:yB a=true->bp m a=true): ∃seen',cz N ⟨m,kp,met,seen,nx⟩ a=some ⟨m,kp,dg yB met [a],seen',nx⟩/\Mt m (dg yB met [a]) seen':=by
 have hlen:=h.len hs;unfold cz;rw [rn,bs]
 dsimp only
 rw [h.mem a];have hl:dg yB met [a]=bif yB a&& !decide (a∈met) then met++ [a] else met:=rfl;rw [hl]
 cases hy:yB a with
 |false=>exact ⟨seen,rfl,h⟩
 | true=>
  by_cases hm:a∈met
  ·rw [Qs hm];exact ⟨seen,J,h⟩
  rw [Qt hm];refine ⟨za seen a true,?_,?_⟩
  ·simp only [ct,bs,nf];rw [rF (by simp;omega)];rfl
  refine ⟨List.nodup_append.2 ⟨h.nd,by simp,fun x hx y hy e=>by rw [List.mem_singleton] at hy;subst hy;subst e;exact hm hx⟩,fun x hx=> ?_,fun x hx=> ?_,fun x=> ?_⟩
  ·rcases List.mem_append.1 hx with hx|hx
   ·exact h.yng x hx
   rw [List.mem_singleton] at hx;subst hx;exact hy
  ·rcases List.mem_append.1 hx with hx|hx
   ·exact h.has x hx
   rw [List.mem_singleton] at hx;subst hx;exact ha hy
  rw [Gg];show _=decide (x∈met++ [a]);by_cases e:a=x
  ·rw [if_pos e,Qs (by simp [e])];rfl
  rw [if_neg e,h.mem x];exact gt ⟨fun hx=>Qw _ hx,fun hx=>(List.mem_append.1 hx).elim id fun hx=>absurd (List.mem_singleton.1 hx).symm e⟩
theorem AI {ρ:Type}(N:Nat){m:Qg}{roots:List Qn}(hs:Small m roots)(l:List Int)(hl:l.length<N)(hl2:l.length<=5000)(hh: ∀x∈l,yB x=true->bp m x=true)(L:Nat->Int->List Ql->List Ql->List Int->List Int->List (Int×Bool)->Int->Option ρ)(K:List Ql->List Ql->List Int->List Int->List (Int×Bool)->Int->Option ρ)
  (hrec: ∀k i hP O kp met seen nx,L (k+1) i hP O kp met seen nx=bif decide (i<(l.length:Int)) then ((aw l i).bind fun x=>(cz N (⟨(⟨hP,O⟩:Qg),kp,met,seen,nx⟩:Qh) x).bind fun y=>aZ (in64 (i+1)) (L k (i+1) y.m_.Young y.m_.Old y.kept_ y.met_ y.seen_ y.next_)) else K hP O kp met seen nx)
  (kp:List Int) {met:List Int} {seen:List (Int×Bool)} (nx:Int) (h:Mt m met seen) (R:ρ->Prop) (hk: ∀seen',Mt m (dg yB met l) seen'->Sat (K m.Young m.Old kp (dg yB met l) seen' nx) R):Sat (L N 0 m.Young m.Old kp met seen nx) R:=by
 refine bA (fun k i (s:List Int×List (Int×Bool))=>L k (i:Int) m.Young m.Old kp s.1 s.2 nx) l.length (fun i s=>Mt m s.1 s.2/\s.1=dg yB met (l.take i)) R ?_ ?_ N 0 (met,seen) U U ⟨h,J⟩
 ·rintro k i ⟨mt,sn⟩ hi ⟨h1,h2⟩ go;simp only at h1 h2;show Sat (L (k+1) (i:Int) m.Young m.Old kp mt sn nx) R;obtain ⟨sn',e1,e2⟩:=Ea N hs kp nx h1 l[i] (hh _ (QI _));have e1':cz N ⟨⟨m.Young,m.Old⟩,kp,mt,sn,nx⟩ l[i]=some ⟨m,kp,dg yB mt [l[i]],sn',nx⟩:=e1;rw [hrec,bG U,ct,aC hi,bs,e1',bs,r64 U U];exact go (dg yB mt [l[i]],sn') ⟨e2,by show dg yB mt [l[i]]=_;rw [aB hi,oN, <-h2]⟩
 rintro k ⟨mt,sn⟩ ⟨h1,h2⟩;simp only [QF] at h1 h2;show Sat (L (k+1) _ m.Young m.Old kp mt sn nx) R;rw [hrec,bH U,cf];subst h2;exact hk sn h1
theorem rU (N:Nat){m:Qg}{roots:List Qn}(hs:Small m roots)(kp met:List Int)(seen:List (Int×Bool))(nx:Int){a:Int}(ha:bp m a=true):cc N ⟨m,kp,met,seen,nx⟩ a=some (bK m a):=by
 have hy:=hs.young;have ho:=hs.old;unfold cc;rw [rn,bs];rcases il ha with ⟨i,hi,rfl⟩|⟨i,hi,rfl⟩
 ·rw [Ca,ct,sC U,show (2*(i:Int)+1) / 2=i by omega,r64 U U,yu m i hi,aC hi,bs]
 rw [xo,cf,sC U,show (2*(i:Int)+2) / 2=(i:Int)+1 by omega,r64 U U,r64 U U,show (i:Int)+1 - 1=i by omega,nl m i hi,aC hi,bs]
def Whole (m:Qg):Prop:= ∀a,bp m a=true-> ∀x∈bI (bK m a),bp m x=true
theorem Whole.leads {m:Qg}(h:Whole m){a:Int}(ha:bp m a=true): ∀x∈bC (bK m a),bp m x=true:=fun x hx=>h a ha x (Qw _ hx)
theorem Whole.opens {m:Qg}(h:Whole m){N:Nat}{live:List Int}{a:Int}(ha:bp m a=true): ∀x∈dJ N (bK m a) live,bp m x=true:=fun x hx=>by
 unfold dJ at hx
 cases hw:nL N (bK m a) with
 |false=>rw [hw] at hx;cases hx
 |true=>
  rw [hw] at hx;obtain ⟨v,hv,hb,rfl⟩:=xD hx;exact h a ha _ (BY (Qx _ hv) hb)
theorem ym (N:Nat)(hN:6500<N){m:Qg}{roots:List Qn}(hs:Small m roots)(hw:Whole m)(kp:List Int){met:List Int}{seen:List (Int×Bool)}(h:Mt m met seen)(k:Nat)(hk:k<=met.length):
  Sat (eE N ⟨m,kp,met,seen,(k:Int)⟩) fun r=> ∃seen',r=⟨m,kp,r.met_,seen',(r.met_.length:Int)⟩/\Mt m r.met_ seen'/\Thr (xU N m) met k r.met_:=by
 unfold eE;refine ma (fun f (s:List Int×List (Int×Bool)×Nat)=>cj N f m.Young m.Old kp s.1 s.2.1 (s.2.2:Int)) (fun s=>1300 - s.2.2) (fun s=>Mt m s.1 s.2.1/\s.2.2<=s.1.length/\ ∀r,Thr (xU N m) s.1 s.2.2 r->Thr (xU N m) met k r) _ ?_ N (met,seen,k) (by show 1300 - k<N;omega) ⟨h,hk,fun _ h=>h⟩;rintro f ⟨mt,sn,j⟩ ⟨h1,h3,h4⟩ go;show Sat (cj N (f+1) m.Young m.Old kp mt sn (j:Int)) _;simp only at h1 h3 h4;have hlen:=h1.len hs;rw [cj.eq_2];by_cases hj:j<mt.length
 ·have hh:=h1.has _ (QI hj);have hsm:=hs.at_ mt[j];have e1:cc N ⟨⟨m.Young,m.Old⟩,kp,mt,sn,(j:Int)⟩ mt[j]=some (bK m mt[j]):=rU N hs kp mt sn (j:Int) hh;have hll:=eH (bK m mt[j]);rw [bG U,ct,aC hj,bs,e1,bs,nI N U _ U U,bs]
  refine AI N hs (bC (bK m mt[j])) U U (fun x hx _=>hw.leads hh x hx) (fC N (cj N f) (bC (bK m mt[j]))) (fD N (cj N f)) (fun _ _ _ _ _ _ _ _=>by rw [fC.eq_2]) kp (j:Int) h1 _ fun sn' h5=> ?_
  unfold fD;rw [r64 U U]
  have hge:mt.length<=(dg yB mt (bC (bK m mt[j]))).length:=by
   obtain ⟨t,e, -⟩:=gm yB mt (bC (bK m mt[j]));rw [e,QC];omega
  exact go (dg yB mt (bC (bK m mt[j])),sn',j+1) (by show 1300 - (j+1)<1300 - j;omega) ⟨h5,by show j+1<=(dg yB mt (bC (bK m mt[j]))).length;omega,fun r hr=>h4 r (.step (List.getElem?_eq_getElem hj) hr)⟩
 have:j=mt.length:=by omega
 subst this;rw [bH U,cf];exact aA ⟨sn,J,h1,h4 _ (.done (Nat.le_refl _))⟩
theorem CX (N:Nat)(hN:6500<N){m:Qg}{roots:List Qn}(hs:Small m roots)(kp:List Int){met:List Int}{seen:List (Int×Bool)}(nx:Int)(h:Mt m met seen):eQ N ⟨m,kp,met,seen,nx⟩=some (bz m.Old.length++met):=by
 apply Sat.eq;have ho:=hs.old;have hlen:=h.len hs;unfold eQ;refine bA (fun k i (s:List Int)=>ef N ⟨m,kp,met,seen,nx⟩ k s (i:Int)) m.Old.length (fun i s=>s=bz i) _ ?_ ?_ N 0 [] U U J
 ·rintro k i s hi rfl go;show Sat (ef N ⟨m,kp,met,seen,nx⟩ (k+1) (bz i) (i:Int)) _
  have hev:(bz i).length=i:=by unfold bz;simp
  rw [ef.eq_2,bG (by show (i:Int)<(m.Old.length:Int);omega),ct,r64 U U,r64 U U,rF (by simp;omega),r64 U U];refine go _ ?_;unfold bz;rw [List.range_succ,List.map_append];rfl
 rintro k s rfl;show Sat (ef N ⟨m,kp,met,seen,nx⟩ (k+1) _ _) _
 have hev:(bz m.Old.length).length=m.Old.length:=by unfold bz;simp
 rw [ef.eq_2,bH (by show (m.Old.length:Int)<=(m.Old.length:Int);omega),cf];unfold lX
 dsimp only
 rw [rF U];exact aA J
theorem Bt (N:Nat)(a b:List Int)(ha:a.length<=100000)(hb:b.length<=100000):kF N a b=some (a++b):=by
 unfold kF o9 qx mj od;rw [r64 U U,bH (a:=0+(a.length:Int)) U,cf,r64 U U,bH (a:=0+(a.length:Int)+(b.length:Int)) U,cf,r64 U U,r64 U U,cf];by_cases h:0<a.length+b.length
 ·rw [bG U,ct,gL ⟨by omega,by omega⟩,bs,rF (by simp;omega),rF (by simp;omega)];rfl
 rw [bH U,cf,bs,rF (by simp;omega),rF (by simp;omega)];rfl
theorem He (N:Nat)(hN:6500<N){m:Qg}{roots:List Qn}(hs:Small m roots)(hw:Whole m)(kp:List Int)(hk: ∀x∈kp,bp m x=true)(hkl:kp.length<=1200){met:List Int}{seen:List (Int×Bool)}(nx:Int)(h:Mt m met seen):
  Sat (gl N ⟨m,kp,met,seen,nx⟩) fun r=> ∃seen',r=(decide ((met.length:Int)<(r.2.met_.length:Int)),⟨m,kp,r.2.met_,seen',nx⟩)/\Mt m r.2.met_ seen'/\r.2.met_=mK (xU N m) (bz m.Old.length++met) met (kp++met):=by
 have hlen:=h.len hs;have ho:=hs.old
 have hev:(bz m.Old.length).length=m.Old.length:=by unfold bz;simp
 unfold gl;rw [CX N hN hs kp nx h,bs]
 dsimp only
 rw [Bt N kp met U U,bs]
 have hL:(bz m.Old.length++met).length<=5000:=by rw [QC];omega
 have hC:(kp++met).length<=2400:=by rw [QC];omega
 generalize hlv:bz m.Old.length++met=live at*
 have hcm: ∀x∈kp++met,bp m x=true:=fun x hx=>(List.mem_append.1 hx).elim (hk x) (h.has x)
 generalize hcc:kp++met=cs at*;refine bA (fun k i (s:List Int×List (Int×Bool))=>ck N ⟨m,kp,met,seen,nx⟩ cs live k (i:Int) m.Young m.Old kp s.1 s.2 nx) cs.length (fun i s=>Mt m s.1 s.2/\s.1=mK (xU N m) live met (cs.take i)) _ ?_ ?_ N 0 (met,seen) U U ⟨h,J⟩
 ·rintro k i ⟨mt,sn⟩ hi ⟨h1,h2⟩ go;simp only at h1 h2;show Sat (ck N ⟨m,kp,met,seen,nx⟩ cs live (k+1) (i:Int) m.Young m.Old kp mt sn nx) _;have hh:=hcm _ (QI hi);have hsm:=hs.at_ cs[i];have e1:cc N ⟨⟨m.Young,m.Old⟩,kp,mt,sn,nx⟩ cs[i]=some (bK m cs[i]):=rU N hs kp mt sn nx hh;have hol:=yE N (bK m cs[i]) live;rw [ck.eq_2,bG U,ct,aC hi,bs,e1,bs,CP N hN live U _ U U,bs]
  refine AI N hs (dJ N (bK m cs[i]) live) U U (fun x hx _=>hw.opens hh x hx) (iA N (ck N ⟨m,kp,met,seen,nx⟩ cs live k) ⟨m,kp,met,seen,nx⟩ cs (i:Int) (dJ N (bK m cs[i]) live) live) (iB N (ck N ⟨m,kp,met,seen,nx⟩ cs live k) ⟨m,kp,met,seen,nx⟩ cs (i:Int) live) (fun _ _ _ _ _ _ _ _=>by rw [iA.eq_2]) kp nx h1 _ fun sn' h5=> ?_
  unfold iB;rw [r64 U U];refine go (dg yB mt (dJ N (bK m cs[i]) live),sn') ⟨h5,?_⟩;show dg yB mt (dJ N (bK m cs[i]) live)=_;rw [aB hi,AE, <-h2];rfl
 rintro k ⟨mt,sn⟩ ⟨h1,h2⟩;simp only [QF] at h1 h2;show Sat (ck N ⟨m,kp,met,seen,nx⟩ cs live (k+1) _ m.Young m.Old kp mt sn nx) _;rw [ck.eq_2,bH U,cf];unfold lW;exact aA ⟨sn,J,h1,h2⟩
def tv (m:Qg)(roots:List Qn)(kept:List Int):List Int:=bn roots++kept.flatMap fun a=>bC (bK m a)
theorem C0 (N:Nat)(v:Qn):kN N v=some (v.N,bU v):=by
 unfold kN;rw [rX,bs]
theorem I5 (N:Nat)(hN:6500<N){m:Qg}{roots:List Qn}(hs:Small m roots)(hw:Whole m)(hr: ∀x∈bn roots,bp m x=true)(kept:List Int)(hk: ∀x∈kept,bp m x=true)(hkl:kept.length<=1200):
  Sat (nV N m roots kept) fun r=> ∃seen nx b,r=⟨m,kept,r.met_,seen,nx⟩/\Mt m r.met_ seen/\IsMinor (xU N m) (bz m.Old.length) kept (tv m roots kept) b r.met_:=by
 have hrl:=hs.roots
 -- the passes
 have passes: ∀(b:List Int) (seen:List (Int×Bool)),Mt m b seen->Thr (xU N m) (dg yB [] (tv m roots kept)) 0 b->Sat (jI N N m.Young m.Old kept b seen (b.length:Int)) fun r=> ∃seen nx b,r=⟨m,kept,r.met_,seen,nx⟩/\Mt m r.met_ seen/\IsMinor (xU N m) (bz m.Old.length) kept (tv m roots kept) b r.met_:=by
  intro b seen h hb;have h0:=h.len hs;refine ma (fun f (s:List Int×List (Int×Bool))=>jI N f m.Young m.Old kept s.1 s.2 (s.1.length:Int)) (fun s=>1300 - s.1.length) (fun s=>Mt m s.1 s.2/\ ∀r,MOrd (xU N m) (bz m.Old.length) kept s.1 r->MOrd (xU N m) (bz m.Old.length) kept b r) _ ?_ N (b,seen) (by show 1300 - b.length<N;omega) ⟨h,fun _ h=>h⟩;rintro f ⟨mt,sn⟩ ⟨h1,h2⟩ go;simp only at h1 h2;show Sat (jI N (f+1) m.Young m.Old kept mt sn (mt.length:Int)) _;have hlen:=h1.len hs;obtain ⟨⟨p,x⟩,e0,sn',e1,h3,h4⟩:=He N hN hs hw kept hk hkl (mt.length:Int) h1;simp only at e1 h3 h4;obtain ⟨e1,e2⟩:=Prod.mk.inj e1;obtain ⟨t,ht⟩:=nT (xU N m) (bz m.Old.length++mt) mt (kept++mt);have hlen3:=h3.len hs;have e0':gl N ⟨⟨m.Young,m.Old⟩,kept,mt,sn,(mt.length:Int)⟩=some (p,x):=e0;rw [jI.eq_2,e0',bs]
  dsimp only
  rw [e1];generalize hm':x.met_=mt' at*;subst e2
  refine dy (fun hlt=> ?_) fun hge=> ?_
  ·refine Sat.bind (ym N hN hs hw kept h3 mt.length (by rw [h4,ht,QC];omega)) ?_;rintro r ⟨sn3,e3,h5,h6⟩;have hlen5:=h5.len hs;rw [e3]
   dsimp only
   refine go (r.met_,sn3) ?_ ⟨h5,fun r' hr'=>h2 r' (.step ?_ (by rw [<-h4];exact h6) hr')⟩
   ·obtain ⟨t3,e4⟩:=h6.app;show 1300 - r.met_.length<1300 - mt.length
    have:mt'.length<=r.met_.length:=by rw [e4,QC];omega
    omega
   rw [<-h4];intro e;rw [e] at hlt;omega
  have e:mt'=mt:=by
   rw [ht] at h4;have h0:t=[]:=List.eq_nil_of_length_eq_zero (by rw [h4,QC] at hge;omega);rw [h4,h0,List.append_nil]
  subst e;unfold tI;exact aA ⟨sn',(mt'.length:Int),b,J,h3,⟨hb,h2 _ (.done h4.symm)⟩⟩
 -- the kept cells
 have keptL: ∀(row:List Int) (seen:List (Int×Bool)),Mt m row seen->row=dg yB [] (bn roots)->Sat (dY N kept N 0 m.Young m.Old kept row seen 0) fun r=> ∃seen nx b,r=⟨m,kept,r.met_,seen,nx⟩/\Mt m r.met_ seen/\IsMinor (xU N m) (bz m.Old.length) kept (tv m roots kept) b r.met_:=by
  intro row seen h hrow;refine bA (fun k i (s:List Int×List (Int×Bool))=>dY N kept k (i:Int) m.Young m.Old kept s.1 s.2 0) kept.length (fun i s=>Mt m s.1 s.2/\s.1=dg yB [] (bn roots++(kept.take i).flatMap fun a=>bC (bK m a))) _ ?_ ?_ N 0 (row,seen) U U ⟨h,by simpa using hrow⟩
  ·rintro k i ⟨mt,sn⟩ hi ⟨h1,h2⟩ go;simp only at h1 h2;show Sat (dY N kept (k+1) (i:Int) m.Young m.Old kept mt sn 0) _;have hh:=hk _ (QI hi);have hsm:=hs.at_ kept[i];have e1:cc N ⟨⟨m.Young,m.Old⟩,kept,mt,sn,0⟩ kept[i]=some (bK m kept[i]):=rU N hs kept mt sn 0 hh;have hll:=eH (bK m kept[i]);rw [dY.eq_2,bG U,ct,aC hi,bs,e1,bs,nI N U _ U U,bs]
   refine AI N hs (bC (bK m kept[i])) U U (fun x hx _=>hw.leads hh x hx) (pK N (dY N kept k) kept (i:Int) (bC (bK m kept[i]))) (pL N (dY N kept k) kept (i:Int)) (fun _ _ _ _ _ _ _ _=>by rw [pK.eq_2]) kept 0 h1 _ fun sn' h5=> ?_
   unfold pL;rw [r64 U U];refine go (dg yB mt (bC (bK m kept[i])),sn') ⟨h5,?_⟩;show dg yB mt (bC (bK m kept[i]))=_;rw [aB hi,List.flatMap_append, <-Qv,oN, <-h2];simp
  rintro k ⟨mt,sn⟩ ⟨h1,h2⟩;simp only [QF] at h1 h2;show Sat (dY N kept (k+1) _ m.Young m.Old kept mt sn 0) _;rw [dY.eq_2,bH U,cf];unfold tJ;refine Sat.bind (ym N hN hs hw kept h1 0 (Nat.zero_le _)) ?_;rintro r ⟨sn3,e3,h5,h6⟩;rw [e3]
  dsimp only
  exact passes r.met_ sn3 h5 (by rw [h2] at h6;exact h6)
 -- the roots
 unfold nV;refine bA (fun k i (s:List Int×List (Int×Bool))=>gZ N roots kept k (i:Int) m.Young m.Old kept s.1 s.2 0) roots.length (fun i s=>Mt m s.1 s.2/\s.1=dg yB [] (bn (roots.take i))) _ ?_ ?_ N 0 ([],[]) U U ⟨Mt.nil m,J⟩
 ·rintro k i ⟨mt,sn⟩ hi ⟨h1,h2⟩ go;simp only at h1 h2;show Sat (gZ N roots kept (k+1) (i:Int) m.Young m.Old kept mt sn 0) _
  have hnext:dg yB [] (bn (roots.take (i+1)))=dg yB mt (bn [roots[i]]):=by
   rw [aB hi,uB,oN, <-h2]
  rw [gZ.eq_2,bG U,ct,aC hi,bs,C0,bs]
  dsimp only
  unfold pM;cases hb:bU roots[i]
  ·rw [cf,r64 U U];refine go (mt,sn) ⟨h1,?_⟩;show mt=_;rw [hnext];simp [bn,hb,dg]
  rw [ct];have hroot:bp m roots[i].N=true:=hr _ (uA.2 ⟨_,QI _,hb,rfl⟩)
  obtain ⟨sn',e1,e2⟩:=Ea N hs kept 0 h1 roots[i].N fun _=>hroot
  have e1':cz N ⟨⟨m.Young,m.Old⟩,kept,mt,sn,0⟩ roots[i].N=_:=e1;rw [e1',bs]
  dsimp only
  rw [r64 U U];refine go (dg yB mt [roots[i].N],sn') ⟨e2,?_⟩;show dg yB mt [roots[i].N]=_;rw [hnext];simp [bn,hb]
 rintro k ⟨mt,sn⟩ ⟨h1,h2⟩;simp only [QF] at h1 h2;show Sat (gZ N roots kept (k+1) _ m.Young m.Old kept mt sn 0) _;rw [gZ.eq_2,bH U,cf];unfold ve;exact keptL mt sn h1 h2
def ql (m:Qg)(kept:List Int):Bool:=(List.range m.Old.length).all fun i=> !(bI (bK m (2*(i:Int)+2))).any yB||decide ((2*(i:Int)+2)∈kept)
def nK (m:Qg)(kept:List Int):Bool:=kept.all (fun a=> !yB a&&bp m a)&&decide (kept.Pairwise (· < ·))
def wb (N:Nat)(m:Qg):Bool:=(m.Young++m.Old).all (yq N m)
def BL (N:Nat)(m:Qg)(roots:List Qn)(kept:List Int):Bool:=bZ m (bn roots)&&wb N m&&nK m kept&&ql m kept
theorem Bm (N:Nat)(hN:2000<N)(c:Ql)(hS:c.Slots.length<=600)(hM:c.More.length<=600):i5 N c=some (bI c):=by
 have h1:=eH c;have h2:=iN c;unfold i5;rw [nI N hN c U U,bs,sw N hN c U U,bs,rF U];rfl
theorem Ak (N:Nat)(f:Int->Option Bool)(p:Int->Bool)(l:List Int)(hl:l.length<N)(hl2:l.length<=5000)(hf: ∀x∈l,f x=some (p x)):bW N l f=some (l.any p):=by
 have key: ∀k i:Nat,l.length<k+i->i<=l.length->Sat (dI N f l k (i:Int)) fun r=>decide (0<=r)=(l.drop i).any p:=by
  intro k
  induction k with
  |zero=>intro i h1 h2;omega
  | succ k ih=>
   intro i h1 h2;rw [dI.eq_2];by_cases hi:i<l.length
   ·have h3:=ih (i+1) U hi;rw [show (((i+1:Nat)):Int)=(i:Int)+1 by omega] at h3;rw [bG U,ct,aC hi,bs,List.drop_eq_getElem_cons hi,List.any_cons,hf _ (QI _),bs,r64 U U];cases p l[i]
    ·exact h3
    exact aA (by rw [Qs U];rfl)
   rw [bH U,cf,List.drop_eq_nil_of_le U];exact aA J
 obtain ⟨r,h1,h2⟩:=key N 0 U U;have h1':dI N f l N 0=some r:=h1;unfold bW jX;rw [h1',bs,h2];rfl
theorem Io (N:Nat)(f:Qn->Option Bool)(p:Qn->Bool)(l:List Qn)(hl:l.length<N)(hl2:l.length<=5000)(hf: ∀x∈l,f x=some (p x)):cK N l f=some (l.any p):=by
 have key: ∀k i:Nat,l.length<k+i->i<=l.length->Sat (dH N f l k (i:Int)) fun r=>decide (0<=r)=(l.drop i).any p:=by
  intro k
  induction k with
  |zero=>intro i h1 h2;omega
  | succ k ih=>
   intro i h1 h2;rw [dH.eq_2];by_cases hi:i<l.length
   ·have h3:=ih (i+1) U hi;rw [show (((i+1:Nat)):Int)=(i:Int)+1 by omega] at h3;rw [bG U,ct,aC hi,bs,List.drop_eq_getElem_cons hi,List.any_cons,hf _ (QI _),bs,r64 U U];cases p l[i]
    ·exact h3
    exact aA (by rw [Qs U];rfl)
   rw [bH U,cf,List.drop_eq_nil_of_le U];exact aA J
 obtain ⟨r,h1,h2⟩:=key N 0 U U;have h1':dH N f l N 0=some r:=h1;unfold cK jg;rw [h1',bs,h2];rfl
theorem BX {α:Type}(p:α->Bool): ∀l:List α,l.any (fun x=> !p x)=!l.all p
 | []=>rfl
 |x::l=>by rw [List.any_cons,List.all_cons,BX p l];cases p x<;>rfl
theorem Ag (N:Nat)(a b:List Ql)(ha:a.length<=100000)(hb:b.length<=100000):fI N a b=some (a++b):=by
 unfold fI lm lI iy kc;rw [r64 U U,bH (a:=0+(a.length:Int)) U,cf,r64 U U,bH (a:=0+(a.length:Int)+(b.length:Int)) U,cf,r64 U U,r64 U U,cf];by_cases h:0<a.length+b.length
 ·rw [bG U,ct,gL ⟨by omega,by omega⟩,bs,rF (by simp;omega),rF (by simp;omega)];rfl
 rw [bH U,cf,bs,rF (by simp;omega),rF (by simp;omega)];rfl
theorem GU (N:Nat)(hN:6500<N){m:Qg}{roots:List Qn}(hs:Small m roots)(hw:W64 m):pI N m=some (wb N m):=by
 have h1:=hs.young;have h2:=hs.old;unfold pI wb;rw [Ag N _ _ U U,bs]
 have hl:(m.Young++m.Old).length<=1200:=by rw [QC];omega
 refine qo (fun k i=>oD N (m.Young++m.Old) m k i) (m.Young++m.Old) _ (fun k i h=> ?_) (fun k=> ?_) N U
 ·have hm:(m.Young++m.Old)[i]∈m.Young++m.Old:=QI _;have hc:=hs.cells _ hm;obtain ⟨⟨a1,a2⟩,a3,a4⟩:=o8 hs hw hm;rw [oD.eq_2,bG U,ct,aC h,bs];generalize (m.Young++m.Old)[i]=c at*;obtain ⟨b,hb, -⟩:=rj N U c U U
  rw [wh N U _ U U,hb,bs,Bm N U c hc.1 hc.2,bs,Ak N _ (fun x=> !bp m x) (bI c) (by unfold bI;rw [QC];omega) (by unfold bI;rw [QC];omega) (fun x hx=>by
   unfold pj
   rw [uw N m x ((List.mem_append.1 hx).elim (a2 x) (a4 x)),bs]),BX]
  unfold yq;rw [hb,r64 U U]
  have e:(bI c).all (bp m)=(bZ m (bC c)&&bZ m (db c)):=by unfold bI bZ;rw [List.all_append]
  rw [e];cases b<;>cases bZ m (bC c)&&bZ m (db c)<;>rfl
 rw [oD.eq_2,bH U,cf];rfl
theorem JV (l:List Int):decide (l.Pairwise (· < ·))=(List.range l.length).all fun i=>decide (i=0)||decide (l.getD (i - 1) 0<l.getD i 0):=by
 rw [Bool.eq_iff_iff,decide_eq_true_eq,List.all_eq_true];constructor
 ·intro h i hi;rw [List.mem_range] at hi;by_cases h0:i=0
  ·rw [Qs h0];rfl
  have:=List.pairwise_iff_getElem.1 h (i - 1) i U hi U;rw [Qs (p:=l.getD (i - 1) 0<l.getD i 0) (by simpa [List.getD,hi,show i - 1<l.length by omega] using this),Bool.or_true]
 intro h
 refine List.pairwise_iff_getElem.2 fun i j hi hj hij=> ?_
 have step: ∀k,i+k+1<l.length->l[i]'hi<l.getD (i+k+1) 0:=by
  intro k
  induction k with
  |zero=>
   intro hk;have:=h (i+1) (List.mem_range.2 hk);rw [Qt (p:=i+1=0) U,Bool.false_or,decide_eq_true_eq,Nat.add_sub_cancel] at this;simpa [List.getD,hi] using this
  |succ k ih=>
   intro hk;have h1:=ih U;have:=h (i+k+1+1) (List.mem_range.2 U);rw [Qt (p:=i+k+1+1=0) U,Bool.false_or,decide_eq_true_eq,Nat.add_sub_cancel] at this;show l[i]'hi<l.getD (i+k+1+1) 0;omega
 have:=step (j - i - 1) U;rw [show i+(j - i - 1)+1=j by omega] at this;simpa [List.getD,hj] using this
theorem Eb (N:Nat)(hN:6500<N){m:Qg}{roots:List Qn}(hs:Small m roots)(hw:W64 m)(hr: ∀v∈roots,in64 v.N)(kept:List Int)(hk:kept.length<=5000)(k64: ∀x∈kept,in64 x):qn N m roots kept=some (BL N m roots kept):=by
 have h3:=hs.roots;have ho:=hs.old
 -- the old cells
 have olds:lc N kept m=some (ql m kept):=by
  unfold lc ql;have hlr:(List.range m.Old.length).length=m.Old.length:=List.length_range;refine qo (fun k i=>pJ N m kept k i) (List.range m.Old.length) _ (fun k i h=> ?_) (fun k=> ?_) N U
  ·rw [hlr] at h;have hm:m.Old[i]∈m.Young++m.Old:=Qx _ (QI _);have hc:=hs.cells _ hm;obtain ⟨⟨a1,a2⟩,a3,a4⟩:=o8 hs hw hm;rw [pJ.eq_2,bG U,ct,aC h,bs,Bm N U _ hc.1 hc.2,bs,Ak N _ yB (bI m.Old[i]) (by unfold bI;rw [QC];omega) (by unfold bI;rw [QC];omega) (fun x _=>rn N x),bs,r64 (a:=2*(i:Int)) U U,r64 (a:=2*(i:Int)+2) U U,pP N hN kept hk,bs,r64 U U,List.getElem_range,nl m i h];cases (bI m.Old[i]).any yB<;>cases decide ((2*(i:Int)+2)∈kept)<;>rfl
  rw [hlr,pJ.eq_2,bH U,cf];rfl
 -- the kept addresses
 have hkept:nj N kept m N 0=bif nK m kept then lc N kept m else some false:=by
  have hlr:(List.range kept.length).length=kept.length:=List.length_range;have:=lg (fun k i=>nj N kept m k i) (List.range kept.length) (fun i=>(!yB (kept.getD i 0)&&bp m (kept.getD i 0))&&(decide (i=0)||decide (kept.getD (i - 1) 0<kept.getD i 0))) (some false) (lc N kept m) (fun k i h=> ?_) (fun k=> ?_) N U
  ·rw [this]
   have e:((List.range kept.length).all fun i=>(!yB (kept.getD i 0)&&bp m (kept.getD i 0))&&(decide (i=0)||decide (kept.getD (i - 1) 0<kept.getD i 0)))=nK m kept:=by
    unfold nK;rw [JV]
    have e2:kept.all (fun a=> !yB a&&bp m a)=(List.range kept.length).all fun i=> !yB (kept.getD i 0)&&bp m (kept.getD i 0):=by
     rw [Bool.eq_iff_iff,List.all_eq_true,List.all_eq_true];constructor
     ·intro h i hi;rw [List.mem_range] at hi
      have:kept.getD i 0=kept[i]:=by simp [List.getD,hi]
      rw [this];exact h _ (QI _)
     intro h x hx;obtain ⟨i,hi,rfl⟩:=List.getElem_of_mem hx;have:=h i (List.mem_range.2 hi)
     rwa [show kept.getD i 0=kept[i] by simp [List.getD,hi]] at this
    rw [e2]
    induction List.range kept.length with
    |nil=>rfl
    |cons a l ih=>rw [List.all_cons,List.all_cons,List.all_cons,ih];cases (!yB (kept.getD a 0)&&bp m (kept.getD a 0))<;>cases (decide (a=0)||decide (kept.getD (a - 1) 0<kept.getD a 0))<;>simp
   rw [e]
  ·rw [hlr] at h
   have hg:kept.getD i 0=kept[i]:=by simp [List.getD,h]
   rw [nj.eq_2,bG U,ct,aC h,bs,rn,bs,uw N m _ (k64 _ (QI _)),r64 (a:=(i:Int)+1) U U,List.getElem_range,hg];by_cases h0:i=0
   ·subst h0;rw [bH (a:=0) (b:=((0:Nat):Int)) U];cases yB kept[0]<;>cases bp m kept[0]<;>rfl
   have hp:aw kept ((i:Int) - 1)=some (kept.getD (i - 1) 0):=by
    have:=aC (xs:=kept) (i:=i - 1) U;rw [show (((i - 1:Nat)):Int)=(i:Int) - 1 by omega] at this;rw [this];simp [List.getD,show i - 1<kept.length by omega]
   rw [bG (a:=0) (b:=(i:Int)) U,ct,r64 (a:=(i:Int) - 1) U U,hp,Qt h0];simp only [bs];by_cases hlt:kept.getD (i - 1) 0<kept[i]
   ·rw [I8 hlt,Qs hlt];cases yB kept[i]<;>cases bp m kept[i]<;>rfl
   rw [Kj U,Qt hlt];cases yB kept[i]<;>cases bp m kept[i]<;>rfl
  rw [hlr,nj.eq_2,bH U,cf]
 have hroots:cK N roots (fun x=>oF N x m)=some (!bZ m (bn roots)):=by
  rw [Io N _ (fun v=> !(!bU v||bp m v.N)) roots U U (fun v hv=>by
   unfold oF;rw [C0,bs]
   dsimp only
   rw [uw N m _ (hr v hv),bs]
   cases bU v<;>cases bp m v.N<;>rfl),BX]
  unfold bZ bn;rw [all_map,yP]
 unfold qn BL;rw [hroots,bs,GU N hN hs hw,bs,hkept,olds];cases bZ m (bn roots)<;>cases wb N m<;>cases nK m kept<;>rfl
def Ow (c:Ql):Ql:=⟨c.Kind,c.Shape,c.Flags,c.Age,c.Slots.take 20,c.More.take 40⟩
def NI (l:List Ql):List Ql:=(l.take 40).map Ow
def PD (m:Qg):Qg:=⟨NI m.Young,NI m.Old⟩
structure Few20 (m:Qg) (roots:List Qn):Prop where
 young:m.Young.length<=40
 old:m.Old.length<=40
 roots:roots.length<=40
 cells: ∀c∈m.Young++m.Old,c.Slots.length<=20/\c.More.length<=40
theorem xn (N:Nat)(a:Int):jW N a=some (yB a):=by
 unfold jW yB;cases decide (0<a)<;>cases decide (a.tmod 2=1)<;>rfl
theorem Ml (N:Nat)(m:Qg)(a:Int)(h:in64 a):ug N m a=some (bp m a):=by
 unfold in64 at h;unfold ug bp;rcases sm m a with ⟨h1,h2⟩|⟨k,h1,h2⟩|⟨k,h1,h2⟩
 ·rw [h2,bG h1];rfl
 ·subst h1;rw [h2,bH U,cf,xn,bs,Ca,ct,sC U,show (2*(k:Int)+1) / 2=k by omega,gL (by unfold in64;omega),rm]
 subst h1;rw [h2,bH U,cf,xn,bs,xo,cf,sC U,show (2*(k:Int)+2) / 2=(k:Int)+1 by omega,gL (by unfold in64;omega),gL (by unfold in64;omega),show (k:Int)+1 - 1=k by omega,rm]
theorem BU (N:Nat)(m:Qg)(l:List Int)(hl:l.length<N)(hl2:l.length<=5000)(h64: ∀x∈l,in64 x):lQ N m l=some (bZ m l):=by
 unfold lQ bZ;refine qo _ l _ (fun k i h=> ?_) (fun k=> ?_) N hl
 ·rw [uN.eq_2,bG U,ct,aC h,bs,Ml N m _ (h64 _ (QI _)),bs,r64 U U];cases bp m l[i]<;>rfl
 rw [uN.eq_2,bH U,cf];rfl
theorem HK (N:Nat)(l:List Qn)(hl:l.length<N)(hl2:l.length<=5000):pZ N l=some (bn l):=by
 apply Sat.eq;unfold pZ;refine bA (fun k i s=>iU N l k s (i:Int)) l.length (fun i s=>s=bn (l.take i)/\s.length<=i) _ ?_ ?_ N 0 [] U U ⟨J,Nat.le_refl _⟩
 ·rintro k i s hi ⟨rfl,h2⟩ go;show Sat (iU N l (k+1) _ (i:Int)) _
  have hnext:bn (l.take (i+1))=bn (l.take i)++bn [l[i]]:=by rw [aB hi,uB]
  rw [iU.eq_2,bG U,ct,aC hi,bs];simp only [bs]
  have hb:(bif decide (l[i].Kind=7) then some true else some (decide (l[i].Kind=9)))=some (bU l[i]):=by unfold bU;cases decide (l[i].Kind=7)<;>rfl
  rw [hb,bs];unfold qR;rw [r64 U U,r64 U U];cases h3:bU l[i]
  ·rw [cf]
   have e:bn [l[i]]=[]:=by simp [bn,h3]
   exact go _ ⟨by rw [hnext,e,List.append_nil],by omega⟩
  rw [ct,rF (by simp;omega)]
  have e:bn [l[i]]=[l[i].N]:=by simp [bn,h3]
  exact go _ ⟨by rw [hnext,e],by simp;omega⟩
 rintro k s ⟨rfl,h2⟩;show Sat (iU N l (k+1) _ _) _;rw [iU.eq_2,bH U,cf,QF];exact aA J
def Df (N:Nat)(m:Qg)(roots:List Qn):Bool:=bZ m (bn roots)&&wb N m
theorem MY (N:Nat)(hN:6500<N){m:Qg}{roots:List Qn}(hs:Small m roots)(hw:W64 m)(hr: ∀v∈roots,in64 v.N):uR N m roots=some (Df N m roots):=by
 have h1:=hs.young;have h2:=hs.old;have h3:=hs.roots;have hl:(m.Young++m.Old).length=m.Young.length+m.Old.length:=QC
 have body: ∀(kb:Int->Option Bool) (i:Nat) (c:Ql),c∈m.Young++m.Old->i<1200->oy N kb (i:Int) m c.Kind c.Shape c.Flags c.Age c.Slots c.More=bif yq N m c then kb ((i:Int)+1) else some false:=by
  intro kb i c hm hi;have hc:=hs.cells _ hm;obtain ⟨⟨a1,a2⟩,a3,a4⟩:=o8 hs hw hm;obtain ⟨b,hb, -⟩:=rj N U c U U;have hb':cy N ⟨c.Kind,c.Shape,c.Flags,c.Age,c.Slots,c.More⟩=some b:=hb;have hl':dN N ⟨c.Kind,c.Shape,c.Flags,c.Age,c.Slots,c.More⟩=_:=my N U c U U;have hw':gx N ⟨c.Kind,c.Shape,c.Flags,c.Age,c.Slots,c.More⟩=_:=rp N U c U;unfold oy;rw [hb',bs,hl',hw',bs,bs,BU N m _ U U a2,BU N m _ U U a4,bs,bs,r64 U U];unfold yq;rw [hb];cases b<;>cases bZ m (bC c)<;>cases bZ m (db c)<;>rfl
 have cells:km N m N 0=some (wb N m):=by
  unfold wb;refine qo (fun k i=>km N m k i) (m.Young++m.Old) _ (fun k i h=> ?_) (fun k=> ?_) N U
  ·rw [km.eq_2,r64 U U,bG U,ct];by_cases hi:i<m.Young.length
   ·rw [bG U,ct,aC hi,bs,body _ i _ (Qw _ (QI _)) U,List.getElem_append_left hi]
   have hj:i - m.Young.length<m.Old.length:=by omega
   rw [bH U,cf,r64 U U,show (i:Int) - (m.Young.length:Int)=((i - m.Young.length:Nat):Int) by omega,aC hj,bs,body _ i _ (Qx _ (QI _)) U,List.getElem_append_right U]
  rw [hl,km.eq_2,r64 U U,bH U,cf];rfl
 unfold uR Df
 have h64: ∀x∈bn roots,in64 x:=fun x hx=>by
  obtain ⟨v,hv, -,rfl⟩:=uA.1 hx;exact hr v hv
 have hal:(bn roots).length<=roots.length:=by unfold bn;rw [QE];exact List.length_filter_le _ _
 rw [HK N _ U U,bs,BU N m _ U U h64,bs,cells];cases bZ m (bn roots)<;>rfl
def iw (m:Qg)(i:Nat):Bool:=(bI (bK m (2*(i:Int)+2))).any yB
def fP (m:Qg):List Int:=((List.range m.Old.length).filter (iw m)).map fun i:Nat=>2*(i:Int)+2
theorem rl {m:Qg}{x:Int}:x∈fP m↔ ∃i:Nat,i<m.Old.length/\iw m i=true/\x=2*(i:Int)+2:=by
 unfold fP;simp only [List.mem_map,List.mem_filter,List.mem_range];constructor
 ·rintro ⟨i,⟨h1,h2⟩,rfl⟩;exact ⟨i,h1,h2,J⟩
 rintro ⟨i,h1,h2,rfl⟩;exact ⟨i,⟨h1,h2⟩,J⟩
theorem Jb {m:Qg}{x:Int}(h:x∈fP m):bp m x=true/\yB x=false:=by
 obtain ⟨i,h1, -,rfl⟩:=rl.1 h;exact ⟨by rw [xa];exact Qs h1,xo i⟩
theorem Gk (m:Qg):nK m (fP m)=true:=by
 unfold nK;rw [QG,decide_eq_true_eq,List.all_eq_true];refine ⟨fun x hx=> ?_,?_⟩
 ·obtain ⟨h1,h2⟩:=Jb hx;rw [h1,h2];rfl
 unfold fP;refine List.Pairwise.map _ (fun a b (h:a<b)=> ?_) ((List.pairwise_lt_range).filter _);omega
theorem HQ (m:Qg):ql m (fP m)=true:=by
 unfold ql;rw [List.all_eq_true];intro i hi;rw [List.mem_range] at hi;cases h:(bI (bK m (2*(i:Int)+2))).any yB
 ·rfl
 have:(2*(i:Int)+2)∈fP m:=rl.2 ⟨i,hi,h,rfl⟩;rw [Qs this];rfl
theorem io {n:Nat}{x:Int}:x∈bz n↔ ∃i:Nat,i<n/\x=2*(i:Int)+2:=by
 unfold bz;simp only [List.mem_map,List.mem_range];constructor
 ·rintro ⟨i,h,rfl⟩;exact ⟨i,h,J⟩
 rintro ⟨i,h,rfl⟩;exact ⟨i,h,J⟩
def Oo (n:Nat):List Qn:=(List.range n).map fun i:Nat=>(⟨9,2*(i:Int)+2,⟨#[]⟩⟩:Qn)
theorem Kp {m:Qg}{a:Int}(h:bp m a=true)(hy:yB a=false): ∃i:Nat,i<m.Old.length/\a=2*(i:Int)+2:=by
 rcases il h with ⟨i,hi,rfl⟩|h
 ·rw [Ca] at hy;cases hy
 exact h
theorem G9 {N:Nat}{c:Ql}{l:List Int}{x:Int}(h:x∈dJ N c l):x∈bI c:=by
 unfold dJ at h
 cases hw:nL N c with
 |false=>rw [hw] at h;cases h
 |true=>
  rw [hw] at h;obtain ⟨v,hv,hb,rfl⟩:=xD h;exact BY (Qx _ hv) hb
theorem zZ {N:Nat}{m:Qg}{roots:List Qn}(h:Df N m roots=true):Whole m/\(∀x∈bn roots,bp m x=true)/\ ∀c∈m.Young++m.Old,yq N m c=true:=by
 unfold Df at h;rw [QG] at h
 have h2: ∀c∈m.Young++m.Old,yq N m c=true:=fun c hc=>pR h.2 hc
 refine ⟨fun a ha x hx=> ?_,fun x hx=>pR h.1 hx,h2⟩
 have h3:=h2 (bK m a) (by
  unfold bp at ha;unfold bK
  cases hc:iG m a with
  |none=>rw [hc] at ha;cases ha
  |some c=>exact sk hc)
 unfold yq at h3;rw [QG,QG] at h3;rcases List.mem_append.1 hx with hx|hx
 ·exact pR h3.2.1 hx
 exact pR h3.2.2 hx
def qO (met to:List Int)(a:Int):Int:=if a∈met then to.getD (met.idxOf a) 0 else a
theorem HE {α:Type}{g:α->α}{l:List α}{i:Nat}(h:i<l.length):aw ((l.take i).map g++l.drop i) (i:Int)=some l[i]:=by
 have h1:i<((l.take i).map g++l.drop i).length:=by simp;omega
 rw [aC h1]
 congr 1
 rw [List.getElem_append_right (by simp;omega)];simp [Nat.min_eq_left (Nat.le_of_lt h)]
theorem HD {α:Type}{g:α->α}{l:List α}{i:Nat}(h:i<l.length):((l.take i).map g++l.drop i).set i (g l[i])=(l.take (i+1)).map g++l.drop (i+1):=by
 rw [aB h,List.drop_eq_getElem_cons h,List.map_append];rw [List.set_append,if_neg (by simp;omega)];simp [Nat.min_eq_left (Nat.le_of_lt h)];rw [List.drop_eq_getElem_cons h];rfl
theorem yY {α:Type}{g:α->α}{l:List α}{i:Nat}(h:i<l.length)(he:g l[i]=l[i]):(l.take i).map g++l.drop i=(l.take (i+1)).map g++l.drop (i+1):=by
 rw [aB h,List.drop_eq_getElem_cons h,List.map_append];simp [he]
def Nn (kv:List (Int×Int))(met to:List Int)(i:Nat):Prop:= ∀x,lk kv x=if x∈met.take i then some (qO met to x) else none
theorem AF {l:List Int}(hn:l.Nodup){i:Nat}(h:i<l.length):l.idxOf l[i]=i:=by
 have hm:l[i]∈l:=QI _;rcases Nat.lt_trichotomy (l.idxOf l[i]) i with h2|h2|h2
 ·exact absurd (sW hm) (List.pairwise_iff_getElem.1 (List.nodup_iff_pairwise_ne.1 hn) _ _ (yJ hm) h h2)
 ·exact h2
 exact absurd (sW hm).symm (List.pairwise_iff_getElem.1 (List.nodup_iff_pairwise_ne.1 hn) _ _ h (yJ hm) h2)
theorem CV {l:List Int}(hn:l.Nodup){i:Nat}(h:i<l.length):l[i]∉l.take i:=fun hm=>by
 obtain ⟨j,hj,e⟩:=List.getElem_of_mem hm;rw [QD] at hj;rw [List.getElem_take] at e;exact absurd e (List.pairwise_iff_getElem.1 (List.nodup_iff_pairwise_ne.1 hn) _ _ U h U)
theorem Bu (N:Nat)(hN:6500<N)(c:Ql)(hS:c.Slots.length<=4000)(hM:c.More.length<=4000)(met to:List Int)(hn:met.Nodup)(hl:to.length=met.length)(hml:met.length<=1200):fG N c met to=some (iC (qO met to) met c):=by
 apply Sat.eq
 have mv: ∀(kv:List (Int×Int)),Nn kv met to met.length-> ∀v:Qn,(lk kv v.N).isSome=decide (v.N∈met)/\(v.N∈met->bU v=true->(⟨v.Kind,(lk kv v.N).getD 0,v.S⟩:Qn)=bX (qO met to) met v):=fun kv hk v=>by
  rw [hk v.N,QF];by_cases h:v.N∈met
  ·rw [if_pos h,Qs h];refine ⟨J,fun _ hb=> ?_⟩;rw [MK hb h];rfl
  rw [if_neg h,Qt h];exact ⟨J,fun h2=>absurd h2 h⟩
 have keep: ∀v:Qn,(v.N∉met\/bU v=false)->bX (qO met to) met v=v:=fun v h=>by
  unfold bX;rcases h with h|h
  ·rw [Qt h,Bool.and_false];rfl
  rw [h];rfl
 have copy:dU N c=some c:=by
  unfold dU cT;rw [rF (by simp only [List.length_nil];omega),rF (by simp only [List.length_nil];omega)];rfl
 have body: ∀kv:List (Int×Int),Nn kv met to met.length->Sat (pQ N c kv) fun r=>r=iC (qO met to) met c:=by
  intro kv hk;unfold pQ;rw [copy,bs];refine bA (fun k i (s:List Qn)=>fX N c kv k s (i:Int)) c.Slots.length (fun i s=>s=(c.Slots.take i).map (bX (qO met to) met)++c.Slots.drop i) _ ?_ ?_ N 0 c.Slots U U (by simp)
  ·rintro k i s hi rfl go;show Sat (fX N c kv (k+1) _ (i:Int)) _;obtain ⟨e1,e2⟩:=mv kv hk c.Slots[i];rw [fX.eq_2,bG U,ct,HE hi,bs,e1,qI];simp only [bs];unfold oW;rw [r64 U U,r64 U U];by_cases hm:c.Slots[i].N∈met
   ·rw [Qs hm,ct,bs];cases hb:bU c.Slots[i]
    ·rw [cf];exact go _ (yY hi (keep _ (.inr hb)))
    rw [ct,e2 hm hb,Int.toNat_natCast];exact go _ (HD hi)
   rw [Qt hm,cf,bs,cf];exact go _ (yY hi (keep _ (.inl hm)))
  rintro k s rfl;show Sat (fX N c kv (k+1) _ _) _;rw [fX.eq_2,bH U,cf,QF,List.drop_length,List.append_nil];unfold si;refine bA (fun k i (s:List Qn)=>fW N c kv _ k s (i:Int)) c.More.length (fun i s=>s=(c.More.take i).map (bX (qO met to) met)++c.More.drop i) _ ?_ ?_ N 0 c.More U U (by simp)
  ·rintro k i s hi rfl go;show Sat (fW N c kv _ (k+1) _ (i:Int)) _;obtain ⟨e1,e2⟩:=mv kv hk c.More[i];rw [fW.eq_2,bG U,ct,HE hi,bs,e1,qI];simp only [bs];unfold oV;rw [r64 U U,r64 U U];by_cases hm:c.More[i].N∈met
   ·rw [Qs hm,ct,bs];cases hb:bU c.More[i]
    ·rw [cf];exact go _ (yY hi (keep _ (.inr hb)))
    rw [ct,e2 hm hb,Int.toNat_natCast];exact go _ (HD hi)
   rw [Qt hm,cf,bs,cf];exact go _ (yY hi (keep _ (.inl hm)))
  rintro k s rfl;show Sat (fW N c kv _ (k+1) _ _) _;rw [fW.eq_2,bH U,cf,QF,List.drop_length,List.append_nil];unfold sg sj;exact aA J
 unfold fG;refine bA (fun k i (s:List (Int×Int))=>eL N met to c k s (i:Int)) met.length (fun i s=>Nn s met to i) _ ?_ ?_ N 0 [] U U (fun x=>J)
 ·rintro k i s hi h1 go;show Sat (eL N met to c (k+1) _ (i:Int)) _
  have hno:lk s met[i]=none:=by rw [h1,if_neg (CV hn hi)]
  have hto:i<to.length:=by omega
  rw [eL.eq_2,bG U,ct,aC hi,bs,hno,Option.isSome_none,cf,bG U,ct,aC hto,bs];unfold me;rw [r64 U U]
  refine go _ fun x=> ?_
  rw [Gg,Gg,h1 x,aB hi];by_cases e:met[i]=x
  ·subst e;rw [if_pos rfl,if_pos (Qx _ (List.mem_singleton.2 rfl))];unfold qO;rw [if_pos (QI _),AF hn hi];simp [List.getD,hto]
  rw [if_neg e,if_neg e];by_cases hx:x∈met.take i
  ·rw [if_pos hx,if_pos (Qw _ hx)]
  rw [if_neg hx,if_neg fun h2=>(List.mem_append.1 h2).elim hx fun h2=>e (List.mem_singleton.1 h2).symm]
 rintro k s h1;show Sat (eL N met to c (k+1) _ _) _;rw [eL.eq_2,bH U,cf];exact body s h1
theorem Bk (N:Nat)(hN:6500<N)(l:List Qn)(hl2:l.length<=4000)(met to:List Int)(hn:met.Nodup)(hl:to.length=met.length)(hml:met.length<=1200):jm N l met to=some (l.map (bX (qO met to) met)):=by
 unfold jm;rw [Bu N hN _ (by simp) hl2 met to hn hl hml,bs];rfl
def dk (m:Qg)(a:Int):Bool:=decide ((bK m a).Age=0)
def qk (p:Int->Bool):List Int->Nat->Nat->List Int
 | [],_,_=> []
 |a::l,s,o=>bif p a then (2*(s:Int)+1)::qk p l (s+1) o else (2*(o:Int)+2)::qk p l s (o+1)
theorem DZ (p:Int->Bool)(a:Int)(l:List Int)(s o:Nat):qk p (a::l) s o=bif p a then (2*(s:Int)+1)::qk p l (s+1) o else (2*(o:Int)+2)::qk p l s (o+1):=rfl
theorem uk (p:Int->Bool): ∀(l:List Int) (s o:Nat),(qk p l s o).length=l.length
 | [],_,_=>rfl
 |a::l,s,o=>by unfold qk;cases p a<;>simp [uk p l]
theorem wE (p:Int->Bool): ∀(l l':List Int) (s o:Nat),qk p (l++l') s o=qk p l s o++qk p l' (s+(l.filter p).length) (o+(l.filter fun a=> !p a).length)
 | [],_,_,_=>by simp [qk]
 | a::l,l',s,o=>by
  rw [List.cons_append,DZ,DZ];cases h:p a
  ·simp only [cond_false];rw [wE p l l'];simp only [List.filter_cons,h,Bool.not_false,if_true,Bool.false_eq_true,if_false,List.length_cons,List.cons_append];rw [Nat.add_right_comm o 1];rfl
  simp only [cond_true];rw [wE p l l'];simp only [List.filter_cons,h,Bool.not_true,if_true,Bool.false_eq_true,if_false,List.length_cons,List.cons_append];rw [Nat.add_right_comm s 1];rfl
theorem CK (p:Int->Bool){l:List Int}{i:Nat}(h:i<l.length)(s o:Nat):(qk p l s o).getD i 0=bif p l[i] then 2*((s+((l.take i).filter p).length:Nat):Int)+1 else 2*((o+((l.take i).filter fun a=> !p a).length:Nat):Int)+2:=by
 have e:l=l.take i++(l[i]::l.drop (i+1)):=by rw [<-List.drop_eq_getElem_cons h,List.take_append_drop]
 have e2:qk p l s o=qk p (l.take i) s o++qk p (l[i]::l.drop (i+1)) (s+((l.take i).filter p).length) (o+((l.take i).filter fun a=> !p a).length):=by
  rw [<-wE, <-e]
 rw [e2]
 have hl:(qk p (l.take i) s o).length=i:=by rw [uk,QD];omega
 unfold List.getD;rw [List.getElem?_append_right U,hl,Nat.sub_self];unfold qk;cases p l[i]<;>rfl
theorem Fg (N:Nat)(hN:6500<N){m:Qg}{roots:List Qn}(hs:Small m roots)(kp:List Int){met:List Int}{seen:List (Int×Bool)}(nx:Int)(h:Mt m met seen):fe N ⟨m,kp,met,seen,nx⟩=some (qk (dk m) met 0 m.Old.length):=by
 have hml:=h.len hs;have ho:=hs.old;apply Sat.eq;unfold fe;refine bA (fun k i (s:List Int×Nat×Nat)=>cD N ⟨m,kp,met,seen,nx⟩ k s.1 (s.2.1:Int) (s.2.2:Int) (i:Int)) met.length (fun i s=>s.1=qk (dk m) (met.take i) 0 m.Old.length/\s.2.1=((met.take i).filter (dk m)).length/\s.2.2=m.Old.length+((met.take i).filter fun a=> !dk m a).length) _ ?_ ?_ N 0 ([],0,m.Old.length) (by show met.length<N+0;omega) U ⟨J,J,J⟩
 ·rintro k i ⟨s,a,b⟩ hi ⟨h1,h2,h3⟩ go;simp only at h1 h2 h3;have l1:((met.take i).filter (dk m)).length<=i:=Nat.le_trans (List.length_filter_le _ _) (by rw [QD];omega);have l2:((met.take i).filter fun a=> !dk m a).length<=i:=Nat.le_trans (List.length_filter_le _ _) (by rw [QD];omega)
  have hsl:s.length=i:=by rw [h1,uk,QD];omega
  show Sat (cD N ⟨m,kp,met,seen,nx⟩ (k+1) s (a:Int) (b:Int) (i:Int)) _
  have hnext:qk (dk m) (met.take (i+1)) 0 m.Old.length=s++ [bif dk m met[i] then 2*(a:Int)+1 else 2*(b:Int)+2]:=by
   rw [aB hi,wE, <-h1,Nat.zero_add, <-h2, <-h3];unfold qk;cases dk m met[i]<;>rfl
  have hf1:((met.take (i+1)).filter (dk m)).length=a+(bif dk m met[i] then 1 else 0):=by
   rw [aB hi,List.filter_append,QC, <-h2];cases hb:dk m met[i]<;>simp [hb]
  have hf2:((met.take (i+1)).filter fun a=> !dk m a).length+m.Old.length=b+(bif dk m met[i] then 0 else 1):=by
   rw [aB hi,List.filter_append,QC,h3];cases hb:dk m met[i]<;>simp [hb]<;>omega
  have hcell:=rU N hs kp met seen nx (h.has _ (QI hi));rw [cD.eq_2]
  dsimp only
  rw [bG U,ct,aC hi,bs,hcell,bs];unfold fZ;have e:decide ((bK m met[i]).Age=0)=dk m met[i]:=rfl;rw [e,r64 U U,r64 U U,rF (by simp;omega),r64 U U,r64 U U,r64 U U,r64 U U,rF (by simp;omega),r64 U U,r64 U U];cases hb:dk m met[i]
  ·rw [hb] at hnext hf1 hf2;rw [cf];exact go (s++ [2*(b:Int)+2],a,b+1) ⟨hnext.symm,hf1.symm,by show b+1=_;simp only [cond_false] at hf2;omega⟩
  rw [hb] at hnext hf1 hf2;rw [ct];exact go (s++ [2*(a:Int)+1],a+1,b) ⟨hnext.symm,hf1.symm,by show b=_;simp only [cond_true] at hf2;omega⟩
 rintro k ⟨s,a,b⟩ ⟨h1,h2,h3⟩;simp only [QF] at h1 h2 h3;show Sat (cD N ⟨m,kp,met,seen,nx⟩ (k+1) s (a:Int) (b:Int) _) _;rw [cD.eq_2]
 dsimp only
 rw [bH U,cf];exact aA h1
theorem Do {lv:List Int}: ∀{l:List Qn},sb l=true->yT lv l->gi (fun x=>decide (x∈lv)) l=l
 | [],_,_=>rfl
 | [_],h,_=>by cases h
 |k::v::r,h,ha=>by
  rw [pu] at h;simp only [QG,decide_eq_true_eq] at h;have hk:k.N∈lv:=ha k (by simp) (by unfold bU;rw [h.1.1];rfl);rw [Bv,Qs hk,cond_true,Do h.2 fun w hw=>ha w (by simp [hw])];rfl
theorem Gj {lv:List Int}(cb:Qn): ∀{l:List Qn},nX l=true->yT lv l->eI lv l=l/\iP lv cb l=[]
 | [],_,_=>⟨rfl,rfl⟩
 | [_],h,_=>by cases h
 | [_,_],h,_=>by cases h
 | [_,_,_],h,_=>by cases h
 | t::a::k::s::r,h,ha=>by
  rw [pt] at h;simp only [QG,decide_eq_true_eq] at h;obtain ⟨⟨⟨h1, -⟩,h3,h4⟩,h5⟩:=h
  obtain ⟨i1,i2⟩:=Gj cb h5 fun w hw=>ha w (by simp [hw])
  have ht:t.N∈lv:=ha t (by simp) (by unfold bU;rw [h1];rfl)
  have hk:(decide (k.Kind=7)&& !decide (k.N∈lv))=false:=by
   by_cases hk7:k.Kind=7
   ·rw [Qs (ha k (by simp) (by unfold bU;rw [hk7];rfl)),Bool.not_true,Bool.and_false]
   rw [Qt hk7,Bool.false_and]
  rw [vl,yx,i1,i2,Qs ht,hk];exact ⟨J,J⟩
theorem CellOk.id {N:Nat}{lv f:List Int}{c:Ql}(h:CellOk N lv f c)(ha: ∀x∈bI c,x∈lv):iq N lv c=c/\dG lv c=[]:=by
 have hin:yT lv c.More:=fun v hv hb=>ha _ (BY (Qx _ hv) hb)
 by_cases h8:c.Kind=8
 ·rw [h.clC8 h8,Do (h.ent2 h8) hin];exact ⟨J,by unfold dG;rw [Qt U];rfl⟩
 by_cases h10:c.Kind=10
 ·obtain ⟨-, -,h4⟩:=h.ent4 h10
  obtain ⟨i1,i2⟩:=Gj (lv:=lv) (c.More.headD iD) h4 fun v hv=>hin v (List.mem_of_mem_drop hv)
  rw [CellOk.clC10 h10,i1,List.take_append_drop];refine ⟨J,?_⟩;unfold dG pw;rw [Qs h10];exact i2
 exact ⟨CellOk.clC0 h8 h10,by unfold dG;rw [Qt h10];rfl⟩
theorem Bl (N:Nat)(hN:6500<N){lv f:List Int}{c:Ql}(h:CellOk N lv f c)(hl:lv.length<=5000)(gone:List Qn)(hg:gone.length<=10000):jn N c lv gone=some (iq N lv c,gone++dG lv c):=by
 have hlen:=(mF N lv c).2;have hm:=h.more;unfold jn;by_cases h8:c.Kind=8
 ·rw [Qs h8,ct,Dm N hN lv hl c h.slots h.more,h.wm,bs];unfold iq dG;rw [Qs h8,Qt (p:=c.Kind=10) U,cond_true,cond_true,cond_false,List.append_nil]
 rw [Qt h8,cf];by_cases h10:c.Kind=10
 ·have e1:iq N lv c=(pw lv c).1:=by unfold iq;rw [Qt h8,Qs h10];rfl
  have e2:dG lv c=(pw lv c).2:=by unfold dG;rw [Qs h10];rfl
  rw [Qs h10,ct,yr N hN lv hl c h.slots h.more,h.fr,Qs h10,cond_true,bs, <-e1, <-e2,rF U]
 rw [Qt h10,cf,CellOk.clC0 h8 h10];unfold dG;rw [Qt h10,cond_false,List.append_nil]
structure MinCtx (N:Nat) (m:Qg) (roots:List Qn) (kept met:List Int):Prop where
 big:6500<N
 small:Small m roots
 w64:W64 m
 r64: ∀v∈roots,in64 v.N
 tot:cA (fun a=>(bK m a).More.length) (yQ m)<=3600
 klen:kept.length<=1200
 may:BL N m roots kept=true
 prog: ∃seen nx,nV N m roots kept=some ⟨m,kept,met,seen,nx⟩/\Mt m met seen
 isM: ∃b,IsMinor (xU N m) (bz m.Old.length) kept (tv m roots kept) b met
theorem wN {N:Nat}{m:Qg}{roots:List Qn}{kept:List Int}(h:BL N m roots kept=true):Df N m roots=true/\nK m kept=true/\ql m kept=true:=by
 unfold BL at h;unfold Df;simp only [QG] at h⊢;exact ⟨h.1.1,h.1.2,h.2⟩
theorem vj {m:Qg}{kept:List Int}(h:nK m kept=true){a:Int}(ha:a∈kept):bp m a=true/\yB a=false:=by
 unfold nK at h;rw [QG] at h;have:=pR h.1 ha;rw [QG] at this;exact ⟨this.2,by cases hy:yB a;rfl;rw [hy] at this;cases this.1⟩
theorem Lr {N:Nat}(hN:6500<N){m:Qg}{roots:List Qn}(hs:Small m roots)(hw:W64 m)(hr: ∀v∈roots,in64 v.N)(ht:cA (fun a=>(bK m a).More.length) (yQ m)<=3600){kept:List Int}(hk:kept.length<=1200)(hm:BL N m roots kept=true): ∃met,MinCtx N m roots kept met:=by
 obtain ⟨h1,h2, -⟩:=wN hm;obtain ⟨g1,g2, -⟩:=zZ h1;obtain ⟨r,e,seen,nx,b,e2,h3,h4⟩:=I5 N hN hs g1 g2 kept (fun x hx=>(vj h2 hx).1) hk;exact ⟨r.met_,hN,hs,hw,hr,ht,hk,hm,⟨seen,nx,by rw [e, <-e2],h3⟩,⟨b,h4⟩⟩
def eT (m:Qg)(met:List Int):List Int:=bz m.Old.length++met
def vQ (m:Qg)(met:List Int):List Int:=qk (dk m) met 0 m.Old.length
def dl (m:Qg)(met:List Int):Int->Int:=qO met (vQ m met)
def nC (N:Nat)(m:Qg)(met:List Int)(a:Int):Ql:=iC (dl m met) met (iq N (eT m met) (bK m a))
def nY (N:Nat)(m:Qg)(met:List Int)(a:Int):Ql:=⟨(nC N m met a).Kind,(nC N m met a).Shape,(nC N m met a).Flags,1,(nC N m met a).Slots,(nC N m met a).More⟩
def oI (N:Nat)(m:Qg)(met:List Int):Qg:=⟨(met.filter (dk m)).map (nY N m met),(bz m.Old.length).map (nC N m met)++(met.filter fun a=> !dk m a).map (nY N m met)⟩
def nW (m:Qg)(met:List Int):List Qn:=(eT m met).flatMap fun a=>dG (eT m met) (bK m a)
section
variable {N:Nat} {m:Qg} {roots:List Qn} {kept met:List Int} (h:MinCtx N m roots kept met)
include h
theorem MinCtx.whole:Whole m:=(zZ (wN h.may).1).1
theorem MinCtx.rootsH: ∀x∈bn roots,bp m x=true:=(zZ (wN h.may).1).2.1
theorem MinCtx.mt:met.Nodup/\(∀x∈met,yB x=true)/\ ∀x∈met,bp m x=true:=by
 obtain ⟨_,_, -,h2⟩:=h.prog;exact ⟨h2.nd,h2.yng,h2.has⟩
theorem MinCtx.mlen:met.length<=1200:=by
 obtain ⟨_,_, -,h2⟩:=h.prog;exact h2.len h.small
theorem MinCtx.f1has {a:Int}(ha:a∈eT m met):bp m a=true:=by
 unfold eT at ha;rcases List.mem_append.1 ha with ha|ha
 ·obtain ⟨i,hi,rfl⟩:=io.1 ha;rw [xa];exact Qs hi
 exact h.mt.2.2 a ha
theorem MinCtx.keptOf {a:Int}(ha:a∈bz m.Old.length){x:Int}(hx:x∈bI (bK m a))(hy:yB x=true):a∈kept:=by
 obtain ⟨i,hi,rfl⟩:=io.1 ha;have h3:=(wN h.may).2.2;unfold ql at h3;have:=pR h3 (List.mem_range.2 hi);rw [List.any_eq_true.2 ⟨x,hx,hy⟩] at this;simpa using this
theorem MinCtx.inF {a:Int}(ha:a∈eT m met){x:Int}(hx:bp m x=true)(hyx:yB x=true->x∈met):x∈eT m met:=by
 have _:=h;have _:=ha;unfold eT
 cases hy:yB x with
 |true=>exact Qx _ (hyx hy)
 |false=>
  obtain ⟨i,hi,rfl⟩:=Kp hx hy;exact Qw _ (io.2 ⟨i,hi,J⟩)
theorem MinCtx.cell {a:Int}(ha:a∈eT m met):CellOk N (eT m met) (eT m met) (bK m a):=by
 have hN:=h.big;have hh:=h.f1has ha;have hm:=tq hh;have hs:=h.small.cells _ hm;obtain ⟨b,hM⟩:=h.isM;obtain ⟨q1,q2⟩:=hM.closed;have hf:=(zZ (wN h.may).1).2.2 _ hm;refine ⟨by omega,?_,hs.1,hs.2,fun x hx=> ?_,fun x hx=> ?_,fun x=>Iff.rfl⟩
 ·unfold yq at hf;rw [nD N U _ U U,QG] at hf;exact hf.1
 ·refine h.inF ha (h.whole.leads hh x hx) fun hy=> ?_
  unfold eT at ha;rcases List.mem_append.1 ha with ha|ha
  ·exact hM.start (Qx _ (List.mem_flatMap.2 ⟨a,h.keptOf ha (Qw _ hx) hy,hx⟩)) hy
  exact q1 a ha x hx hy
 refine h.inF ha (h.whole.opens hh x hx) fun hy=> ?_
 refine q2 a ?_ x hx hy;unfold eT at ha;rcases List.mem_append.1 ha with ha|ha
 ·exact Qw _ (h.keptOf ha (G9 hx) hy)
 exact Qx _ ha
theorem MinCtx.old {a:Int}(ha:a∈bz m.Old.length)(hk:a∉kept):iq N (eT m met) (bK m a)=bK m a/\dG (eT m met) (bK m a)=[]:=by
 have hf:a∈eT m met:=Qw _ ha
 refine (h.cell hf).id fun x hx=>h.inF hf (h.whole a (h.f1has hf) x hx) fun hy=>absurd (h.keptOf ha hx hy) hk
theorem MinCtx.nd:(eT m met).Nodup:=by
 unfold eT;refine List.nodup_append.2 ⟨?_,h.mt.1,fun a ha b hb e=> ?_⟩
 ·exact (Jj _).imp fun hab e=>by omega
 subst e;obtain ⟨i, -,rfl⟩:=io.1 ha;have:=h.mt.2.1 _ hb;rw [xo] at this;cases this
theorem MinCtx.goneLen: ∀l:List Int,l.Nodup->(∀a∈l,a∈eT m met)->(l.flatMap fun a=>dG (eT m met) (bK m a)).length<=3600:=by
 intro l hn hl
 have h1:=pT (fun a=>(bK m a).More.length) hn fun a ha=>uo (h.f1has (hl a ha))
 have h2: ∀l:List Int,(l.flatMap fun a=>dG (eT m met) (bK m a)).length<=cA (fun a=>(bK m a).More.length) l:=fun l=>by
  induction l with
  |nil=>simp [cA]
  |cons a l ih=>
   have:=(mF N (eT m met) (bK m a)).2;rw [List.flatMap_cons,QC,cA];omega
 have:=h2 l;have:=h.tot;omega
end
end
section
open Go.RowKit
theorem xv {α β:Type}(f:α->List β){l:List α}{i:Nat}(h:i<l.length):(l.take (i+1)).flatMap f=(l.take i).flatMap f++f l[i]:=by
 rw [aB h,List.flatMap_append,List.flatMap_cons,List.flatMap_nil,List.append_nil]
theorem FT {α β:Type}(f:α->β){l:List α}{i:Nat}(h:i<l.length):(l.take (i+1)).map f=(l.take i).map f++ [f l[i]]:=by
 rw [aB h,List.map_append];rfl
theorem sD {α:Type}(p:α->Bool){l:List α}{i:Nat}(h:i<l.length):(l.take (i+1)).filter p=(l.take i).filter p++(bif p l[i] then [l[i]] else []):=by
 rw [aB h,List.filter_append];cases hp:p l[i]<;>simp [hp]
section
variable {N:Nat} {m:Qg} {roots:List Qn} {kept met:List Int} (h:MinCtx N m roots kept met)
include h
theorem MinCtx.f1len:(eT m met).length<=1800:=by
 have h1:=h.mlen;have h2:=h.small.old;unfold eT bz;rw [QC,QE,List.length_range];omega
theorem Kc:iL N m roots kept=some (oI N m met,roots.map (bX (dl m met) met),(nW m met).map (bX (dl m met) met),0):=by
 have hN:=h.big;have hs:=h.small;have hml:=h.mlen;have ho:=hs.old;have hrl:=hs.roots;have hfl:=h.f1len;obtain ⟨hnd,hyng,hhas⟩:=h.mt;obtain ⟨seen,nx,hp,hmt⟩:=h.prog;have hto:(vQ m met).length=met.length:=uk _ _ _ _
 have hev:(bz m.Old.length).length=m.Old.length:=by unfold bz;simp
 obtain ⟨hfine,hkok, -⟩:=wN h.may
 have k64: ∀x∈kept,in64 x:=fun x hx=>vm hs (vj hkok hx).1
 have hkl:=h.klen;have hgl: ∀l:List Int,l.Nodup->(∀a∈l,a∈eT m met)->(l.flatMap fun a=>dG (eT m met) (bK m a)).length<=3600:=h.goneLen
 have tk: ∀i,((bz m.Old.length).take i).flatMap (fun a=>dG (eT m met) (bK m a))=((bz m.Old.length).take i).flatMap fun a=>dG (eT m met) (bK m a):=fun i=>rfl
 have g1: ∀i,(((bz m.Old.length).take i).flatMap fun a=>dG (eT m met) (bK m a)).length<=3600:=fun i=>hgl _ (List.Nodup.sublist (List.take_sublist _ _) (List.nodup_append.1 h.nd).1) fun a ha=>Qw _ (List.mem_of_mem_take ha)
 have g2: ∀i,((bz m.Old.length++met.take i).flatMap fun a=>dG (eT m met) (bK m a)).length<=3600:=fun i=>hgl _ (List.Nodup.sublist (List.Sublist.append (List.Sublist.refl _) (List.take_sublist i met)) h.nd) fun a ha=>(List.mem_append.1 ha).elim (fun h=>Qw _ h) fun h=>Qx _ (List.mem_of_mem_take h)
 have moved: ∀a∈eT m met, ∀d:Ql,d.Slots.length<=600->d.More.length<=600->fG N d met (vQ m met)=some (iC (dl m met) met d):=fun a _ d h1 h2=>Bu N hN d U U met (vQ m met) hnd hto hml
 -- the young cells
 have young: ∀O:List Ql,O.length<=600->Sat (dO N ⟨m,kept,met,seen,nx⟩ roots (vQ m met) (eT m met) N ((bz m.Old.length).flatMap fun a=>dG (eT m met) (bK m a)) 0 [] O) fun r=>r=(⟨(met.filter (dk m)).map (nY N m met),O++(met.filter fun a=> !dk m a).map (nY N m met)⟩,roots.map (bX (dl m met) met),(nW m met).map (bX (dl m met) met),0):=by
  intro O hO;refine bA (fun k i (s:List Qn×List Ql×List Ql)=>dO N ⟨m,kept,met,seen,nx⟩ roots (vQ m met) (eT m met) k s.1 (i:Int) s.2.1 s.2.2) met.length (fun i s=>s.1=(bz m.Old.length++met.take i).flatMap (fun a=>dG (eT m met) (bK m a))/\s.2.1=((met.take i).filter (dk m)).map (nY N m met)/\s.2.2=O++((met.take i).filter fun a=> !dk m a).map (nY N m met)) _ ?_ ?_ N 0 (_,[],O) U U ⟨by rw [List.take_zero,List.append_nil];rfl,rfl,by simp⟩
  ·rintro k i ⟨g,hP,Q⟩ hi ⟨h1,h2,h3⟩ go;simp only at h1 h2 h3;show Sat (dO N ⟨m,kept,met,seen,nx⟩ roots (vQ m met) (eT m met) (k+1) g (i:Int) hP Q) _;have hgm:met[i]∈met:=QI hi;have hgf:met[i]∈eT m met:=Qx _ hgm;have hc:=h.cell hgf;have hcl:=mF N (eT m met) (bK m met[i]);have hc1:=hc.slots;have hc2:=hc.more
   have hgt:g.length<=3600:=by rw [h1];exact g2 i
   have hYl:hP.length<=i:=by rw [h2,QE];exact Nat.le_trans (List.length_filter_le _ _) (by rw [QD];omega)
   have hQl:Q.length<=600+i:=by
    rw [h3,QC,QE];have:=List.length_filter_le (fun a=> !dk m a) (met.take i);rw [QD] at this;omega
   have hti:i<(vQ m met).length:=by omega
   have htv:(vQ m met)[i]=bif dk m met[i] then 2*((0+((met.take i).filter (dk m)).length:Nat):Int)+1 else 2*((m.Old.length+((met.take i).filter fun a=> !dk m a).length:Nat):Int)+2:=by
    have:=CK (dk m) hi 0 m.Old.length;unfold List.getD at this;have e:(qk (dk m) met 0 m.Old.length)[i]? =some (vQ m met)[i]:=List.getElem?_eq_getElem hti;rw [e] at this;exact this
   have hyt:yB (vQ m met)[i]=dk m met[i]:=by
    rw [htv];cases dk m met[i]
    ·exact xo _
    exact Ca _
   rw [dO.eq_2]
   dsimp only
   rw [bG U,ct,aC hi,bs,rU N hs kept met seen nx (h.f1has hgf),bs,Bl N hN hc U g U,bs]
   dsimp only
   rw [moved _ hgf _ U U,bs,aC hti,bs,rn,bs,hyt];unfold lw;rw [r64 U U,r64 U U,rF (by simp;omega),rF (by simp;omega)]
   have hg':g++dG (eT m met) (bK m met[i])=(bz m.Old.length++met.take (i+1)).flatMap fun a=>dG (eT m met) (bK m a):=by
    rw [h1,List.flatMap_append,List.flatMap_append,xv _ hi,Qv]
   have hf1:=sD (dk m) hi;have hf2:=sD (fun a=> !dk m a) hi;cases hb:dk m met[i]
   ·rw [hb] at hf1;simp only [hb,Bool.not_false,cond_true,cond_false,List.append_nil] at hf1 hf2;rw [cf];exact go (_,hP,_) ⟨hg',by show hP=_;rw [hf1];exact h2,by show Q++ [nY N m met met[i]]=_;rw [hf2,List.map_append,h3,Qv];rfl⟩
   rw [hb] at hf1;simp only [hb,Bool.not_true,cond_true,cond_false,List.append_nil] at hf1 hf2;rw [ct];exact go (_,_,Q) ⟨hg',by show hP++ [nY N m met met[i]]=_;rw [hf1,List.map_append,h2];rfl,by show Q=_;rw [hf2];exact h3⟩
  rintro k ⟨g,hP,Q⟩ ⟨h1,h2,h3⟩;simp only [QF] at h1 h2 h3;show Sat (dO N ⟨m,kept,met,seen,nx⟩ roots (vQ m met) (eT m met) (k+1) g _ hP Q) _
  have hgt:g.length<=3600:=by rw [h1];have:=g2 met.length;rwa [QF] at this
  rw [dO.eq_2]
  dsimp only
  rw [bH U,cf];unfold oG
  dsimp only
  rw [Bk N hN roots U met (vQ m met) hnd hto hml,bs,Bk N hN g U met (vQ m met) hnd hto hml,bs,h2,h3];refine aA ?_;rw [h1];rfl
 apply Sat.eq;unfold iL;rw [Eb N hN hs h.w64 h.r64 kept U k64,h.may,bs,nt,cf,hp,bs,Fg N hN hs kept nx hmt,bs,CX N hN hs kept nx hmt,bs];refine bA (fun k i (s:List Qn×List Ql)=>eF N m roots kept (vQ m met) ⟨m,kept,met,seen,nx⟩ k s.1 (eT m met) (i:Int) s.2) m.Old.length (fun i s=>s.1=((bz m.Old.length).take i).flatMap (fun a=>dG (eT m met) (bK m a))/\s.2=((bz m.Old.length).take i).map (nC N m met)) _ ?_ ?_ N 0 ([],[]) U U ⟨J,J⟩
 ·rintro k i ⟨g,O⟩ hi ⟨h1,h2⟩ go;simp only at h1 h2;show Sat (eF N m roots kept (vQ m met) ⟨m,kept,met,seen,nx⟩ (k+1) g (eT m met) (i:Int) O) _
  have hie:i<(bz m.Old.length).length:=by omega
  have hei:(bz m.Old.length)[i]=2*(i:Int)+2:=Ei hie;have hae:(2*(i:Int)+2)∈bz m.Old.length:=io.2 ⟨i,hi,rfl⟩;have haf:(2*(i:Int)+2)∈eT m met:=Qw _ hae;have hc:=h.cell haf;have hcl:=mF N (eT m met) (bK m (2*(i:Int)+2));have hc1:=hc.slots;have hc2:=hc.more
  have hgt:g.length<=3600:=by rw [h1];exact g1 i
  have hOl:O.length<=i:=by rw [h2,QE,QD];omega
  have hold:=h.old hae
  have n1:((bz m.Old.length).take (i+1)).flatMap (fun a=>dG (eT m met) (bK m a))=g++dG (eT m met) (bK m (2*(i:Int)+2)):=by rw [xv _ hie,hei,h1]
  have n2:((bz m.Old.length).take (i+1)).map (nC N m met)=O++ [nC N m met (2*(i:Int)+2)]:=by rw [FT _ hie,hei,h2]
  rw [nl m i hi] at hc hcl hc1 hc2 hold n1
  have hnc:nC N m met (2*(i:Int)+2)=iC (dl m met) met (iq N (eT m met) m.Old[i]):=by unfold nC;rw [nl m i hi]
  have body: ∀(kb:List Qn->List Int->Int->List Ql->Option (Qg×List Qn×List Qn×Int)) (g':List Qn) (d:Ql),d.Slots.length<=600->d.More.length<=600->i6 N kb m (i:Int) roots kept (vQ m met) (eT m met) O ⟨m,kept,met,seen,nx⟩ g' d.Kind d.Shape d.Flags d.Age d.Slots d.More=kb g' (eT m met) ((i:Int)+1) (O++ [iC (dl m met) met d]):=by
   intro kb g' d d1 d2;have:=moved _ haf d d1 d2;unfold i6
   dsimp only
   have e:fG N ⟨d.Kind,d.Shape,d.Flags,d.Age,d.Slots,d.More⟩ met (vQ m met)=some (iC (dl m met) met d):=this;rw [e,bs,rF (by simp;omega),r64 U U]
  rw [eF.eq_2,bG U,ct,aC hi,bs,r64 U U,r64 U U,pP N hN kept U,bs];by_cases hk:(2*(i:Int)+2)∈kept
  ·rw [Qs hk,ct,Bl N hN hc U g U,bs]
   dsimp only
   rw [body _ _ _ U U];exact go (_,_) ⟨n1.symm,by rw [n2,hnc]⟩
  obtain ⟨o1,o2⟩:=hold hk;rw [Qt hk,cf,body _ _ _ U U];exact go (g,_) ⟨by rw [n1,o2,List.append_nil],by rw [n2,hnc,o1]⟩
 rintro k ⟨g,O⟩ ⟨h1,h2⟩;have etl:(bz m.Old.length).take m.Old.length=bz m.Old.length:=List.take_of_length_le U;simp only [etl] at h1 h2;show Sat (eF N m roots kept (vQ m met) ⟨m,kept,met,seen,nx⟩ (k+1) g (eT m met) _ O) _;rw [eF.eq_2,bH U,cf];unfold oH;rw [h1]
 have hOl:O.length<=600:=by rw [h2,QE];omega
 have:=young O hOl;rw [h2] at this⊢;exact this
end
end
section
open Go.RowKit
theorem HZ: ∀{A B:List Int} {x:Int},x∉A->(A++x::B).idxOf x=A.length
 | [],B,x,_=>by simp
 |a::A,B,x,h=>by
  have h1:a≠x:=fun e=>h (by simp [e])
  rw [List.cons_append,List.idxOf_cons,HZ fun hx=>h (by simp [hx])];have:(a==x)=false:=beq_eq_false_iff_ne.2 h1;rw [this];rfl
theorem Gw {l:List Int}(hn:l.Nodup)(p:Int->Bool){i:Nat}(h:i<l.length)(hp:p l[i]=true):(l.filter p).idxOf l[i]=((l.take i).filter p).length:=by
 have e:l.filter p=(l.take i).filter p++l[i]::(l.drop (i+1)).filter p:=by
  have e1:l=l.take i++(l[i]::l.drop (i+1)):=by rw [<-List.drop_eq_getElem_cons h,List.take_append_drop]
  have e2:l.filter p=(l.take i).filter p++(l[i]::l.drop (i+1)).filter p:=by rw [<-List.filter_append, <-e1]
  rw [e2,List.filter_cons,hp,if_pos rfl]
 rw [e]
 exact HZ fun hm=>CV hn h (List.mem_filter.1 hm).1
def GY (c:Ql)(g:Int):Ql:=⟨c.Kind,c.Shape,c.Flags,g,c.Slots,c.More⟩
theorem EV {c:Ql}(h:cY c=true):cY (GY c 1)=true:=by
 unfold cY at h⊢;unfold GY;simp only [QG] at h⊢;obtain ⟨⟨⟨⟨⟨⟨⟨h1,h2⟩,h3⟩,h4⟩,h5⟩, -⟩, -⟩,h8⟩:=h;exact ⟨⟨⟨⟨⟨⟨⟨h1,h2⟩,h3⟩,h4⟩,h5⟩,J⟩,J⟩,h8⟩
structure VCell (N:Nat) (c:Ql):Prop where
 big:2000<N
 right:cY c=true
 slots:c.Slots.length<=600
 more:c.More.length<=600
section
variable {N:Nat} {m:Qg} {roots:List Qn} {kept met:List Int} (h:MinCtx N m roots kept met)
include h
theorem MinCtx.rhoE {a:Int}(ha:a∈bz m.Old.length):dl m met a=a:=by
 have hn:a∉met:=fun hm=>(List.nodup_append.1 h.nd).2.2 a ha a hm rfl
 unfold dl qO;rw [if_neg hn]
theorem MinCtx.rhoY {a:Int}(ha:a∈met)(hp:dk m a=true):dl m met a=2*(((met.filter (dk m)).idxOf a:Nat):Int)+1:=by
 obtain ⟨i,hi,rfl⟩:=List.getElem_of_mem ha;unfold dl qO vQ;rw [if_pos ha,AF h.mt.1 hi,CK _ hi,hp,Gw h.mt.1 _ hi hp,cond_true,Nat.zero_add]
theorem MinCtx.rhoO {a:Int}(ha:a∈met)(hp:dk m a=false):dl m met a=2*((m.Old.length+(met.filter fun a=> !dk m a).idxOf a:Nat):Int)+2:=by
 obtain ⟨i,hi,rfl⟩:=List.getElem_of_mem ha;unfold dl qO vQ;rw [if_pos ha,AF h.mt.1 hi,CK _ hi,hp,Gw h.mt.1 (fun a=> !dk m a) hi (by rw [hp];rfl),cond_false]
theorem MinCtx.cases {a:Int}(ha:a∈eT m met):(a∈bz m.Old.length/\dl m met a=a)\/(a∈met/\dk m a=true/\a∈met.filter (dk m))\/(a∈met/\dk m a=false/\a∈met.filter fun a=> !dk m a):=by
 unfold eT at ha;rcases List.mem_append.1 ha with ha|ha
 ·exact .inl ⟨ha,h.rhoE ha⟩
 cases hp:dk m a with
 |true=>exact .inr (.inl ⟨ha,rfl,List.mem_filter.2 ⟨ha,hp⟩⟩)
 |false=>exact .inr (.inr ⟨ha,rfl,List.mem_filter.2 ⟨ha,by rw [hp];rfl⟩⟩)
theorem MinCtx.ren:Ren (dl m met) (eT m met):=by
 refine ⟨fun a b ha hb e=> ?_,fun a ha=> ?_⟩
 ·rcases h.cases ha with ⟨a1,a2⟩|⟨a1,a2,a3⟩|⟨a1,a2,a3⟩<;>rcases h.cases hb with ⟨b1,b2⟩|⟨b1,b2,b3⟩|⟨b1,b2,b3⟩
  ·rw [a2,b2] at e;exact e
  ·obtain ⟨i, -,rfl⟩:=io.1 a1;rw [a2,h.rhoY b1 b2] at e;omega
  ·obtain ⟨i,hi,rfl⟩:=io.1 a1;rw [a2,h.rhoO b1 b2] at e;omega
  ·obtain ⟨i, -,rfl⟩:=io.1 b1;rw [b2,h.rhoY a1 a2] at e;omega
  ·rw [h.rhoY a1 a2,h.rhoY b1 b2] at e
   have e2:(met.filter (dk m)).idxOf a=(met.filter (dk m)).idxOf b:=by omega
   rw [<-sW a3, <-sW b3];simp only [e2]
  ·rw [h.rhoY a1 a2,h.rhoO b1 b2] at e;omega
  ·obtain ⟨i,hi,rfl⟩:=io.1 b1;rw [b2,h.rhoO a1 a2] at e;omega
  ·rw [h.rhoO a1 a2,h.rhoY b1 b2] at e;omega
  rw [h.rhoO a1 a2,h.rhoO b1 b2] at e
  have e2:(met.filter fun a=> !dk m a).idxOf a=(met.filter fun a=> !dk m a).idxOf b:=by omega
  rw [<-sW a3, <-sW b3];simp only [e2]
 rcases h.cases ha with ⟨a1,a2⟩|⟨a1,a2,a3⟩|⟨a1,a2,a3⟩
 ·obtain ⟨i, -,rfl⟩:=io.1 a1;omega
 ·rw [h.rhoY a1 a2];omega
 rw [h.rhoO a1 a2];omega
end
def LX (N:Nat)(m:Qg)(met:List Int)(a:Int):Int:=if a∈met then 1 else (nC N m met a).Age
def tp (N:Nat)(m:Qg)(met:List Int)(a:Int):Ql:=GY (nC N m met a) (LX N m met a)
theorem zJ {m:Qg}{met:List Int}(v:Qn):bX (dl m met) (eT m met) v=bX (dl m met) met v:=by
 unfold bX eT;cases hb:bU v
 ·rfl
 rw [Bool.true_and,Bool.true_and];by_cases h:v.N∈met
 ·rw [Qs h,Qs (Qx _ h)]
 rw [Qt h]
 have e:dl m met v.N=v.N:=by unfold dl qO;rw [if_neg h]
 rw [e];cases decide (v.N∈bz m.Old.length++met)<;>rfl
theorem Gc {m:Qg}{met:List Int}(c:Ql):iC (dl m met) met c=iC (dl m met) (eT m met) c:=by
 unfold iC;rw [List.map_congr_left fun v _=>(zJ v).symm,List.map_congr_left (l:=c.More) fun v _=>(zJ v).symm]
section
variable {N:Nat} {m:Qg} {roots:List Qn} {kept met:List Int} (h:MinCtx N m roots kept met)
include h
theorem MinCtx.cellE {a:Int}(ha:a∈bz m.Old.length):tp N m met a=nC N m met a:=by
 have hn:a∉met:=fun hm=>(List.nodup_append.1 h.nd).2.2 a ha a hm rfl
 unfold tp LX;rw [if_neg hn];rfl
theorem KL {a:Int}(ha:a∈met):tp N m met a=nY N m met a:=by
 have _:=h;unfold tp LX;rw [if_pos ha];rfl
theorem MinCtx.okN {a:Int}(ha:a∈eT m met):VCell N (nC N m met a)/\VCell N (tp N m met a):=by
 have hN:=h.big;obtain ⟨g1,g2,g3, -⟩:=CellOk.new h.ren (h.cell ha);have e:nC N m met a=iC (dl m met) (eT m met) (iq N (eT m met) (bK m a)):=Gc _;rw [<-e] at g1 g2 g3;refine ⟨⟨by omega,g1,g2,g3⟩,by omega,?_,g2,g3⟩;unfold tp LX;by_cases hm:a∈met
 ·rw [if_pos hm];exact EV g1
 rw [if_neg hm];exact g1
end
end
section
open Go.RowKit
theorem DR {α:Type}(g:α->Nat)(p:α->Bool): ∀l:List α,cA g (l.filter p)+cA g (l.filter fun a=> !p a)=cA g l
 | []=>rfl
 |a::l=>by
  have ih:=DR g p l;rw [List.filter_cons,List.filter_cons];cases h:p a
  ·simp only [Bool.false_eq_true,if_false,Bool.not_false,if_true,cA];omega
  simp only [Bool.false_eq_true,if_false,Bool.not_true,if_true,cA];omega
theorem ru {α:Type}{g h:α->Nat}: ∀{l:List α},(∀x∈l,g x=h x)->cA g l=cA h l
 | [],_=>rfl
 |a::l,hh=>by rw [cA,cA,hh a (by simp),ru fun x hx=>hh x (by simp [hx])]
theorem wa {α:Type}: ∀l:List α,cA (fun _=>1) l=l.length
 | []=>rfl
 |a::l=>by rw [cA,wa l,List.length_cons];omega
section
variable {N:Nat} {m:Qg} {roots:List Qn} {kept met:List Int} (h:MinCtx N m roots kept met)
include h
theorem MinCtx.midSum (g:Ql->Nat):cA g (oI N m met).Young+cA g (oI N m met).Old=cA (fun a=>g (tp N m met a)) (eT m met):=by
 have e1:cA (fun a=>g (tp N m met a)) (bz m.Old.length)=cA (fun a=>g (nC N m met a)) (bz m.Old.length):=ru fun a ha=>by rw [h.cellE ha]
 have e2:cA (fun a=>g (tp N m met a)) met=cA (fun a=>g (nY N m met a)) met:=ru fun a ha=>by rw [KL h ha]
 have e3:=DR (fun a=>g (nY N m met a)) (dk m) met;unfold oI eT;simp only;rw [rv,rv,mU,mU,mU,e1,e2];omega
theorem MinCtx.midLe (g:Ql->Nat)(hg: ∀a∈eT m met,g (tp N m met a)<=g (bK m a)):cA g (oI N m met).Young+cA g (oI N m met).Old<=cA g m.Young+cA g m.Old:=by
 have h1:=pT (fun a=>g (bK m a)) h.nd fun a ha=>uo (h.f1has ha)
 have h2:=mU g (bK m) (yQ m);rw [Al,rv] at h2;rw [h.midSum];have h3:=zc hg;omega
theorem MinCtx.cellLe {a:Int}(ha:a∈eT m met):(tp N m met a).Slots.length=(bK m a).Slots.length/\(tp N m met a).More.length<=(bK m a).More.length:=by
 have _:=h;have:=mF N (eT m met) (bK m a);show ((iq N (eT m met) (bK m a)).Slots.map _).length=_/\((iq N (eT m met) (bK m a)).More.map _).length<=_;rw [QE,QE];omega
theorem MinCtx.midCnt:(oI N m met).Young.length+(oI N m met).Old.length<=m.Young.length+m.Old.length:=by
 have:=h.midLe (fun _=>1) fun a _=>Nat.le_refl _
 rw [wa,wa,wa,wa] at this;exact this
theorem MinCtx.midMem {c:Ql}(hc:c∈(oI N m met).Young++(oI N m met).Old): ∃a∈eT m met,c=tp N m met a:=by
 unfold oI at hc;simp only [List.mem_append,List.mem_map,List.mem_filter] at hc;rcases hc with ⟨a,⟨h1, -⟩,rfl⟩|⟨a,h1,rfl⟩|⟨a,⟨h1, -⟩,rfl⟩
 ·exact ⟨a,Qx _ h1,(KL h h1).symm⟩
 ·exact ⟨a,Qw _ h1,(h.cellE h1).symm⟩
 exact ⟨a,Qx _ h1,(KL h h1).symm⟩
theorem MinCtx.nowE:roots.map (bX (dl m met) met)=roots.map (bX (dl m met) (eT m met)):=by
 have _:=h
 exact List.map_congr_left fun v _=>(zJ v).symm
theorem MinCtx.rho64 {a:Int}(ha:a∈eT m met):in64 (dl m met a):=by
 have h1:=h.mlen;have h2:=h.small.old
 have h3: ∀p:Int->Bool,(met.filter p).length<=1200:=fun p=>Nat.le_trans (List.length_filter_le _ _) h1
 unfold in64;rcases h.cases ha with ⟨a1,a2⟩|⟨a1,a2,a3⟩|⟨a1,a2,a3⟩
 ·obtain ⟨i,hi,rfl⟩:=io.1 a1;rw [a2];omega
 ·have:=yJ a3;have:=h3 (dk m);rw [h.rhoY a1 a2];omega
 have:=yJ a3
 have:=h3 fun a=> !dk m a
 rw [h.rhoO a1 a2];omega
theorem MinCtx.mov64 {v:Qn}(hv:in64 v.N):in64 (bX (dl m met) (eT m met) v).N:=by
 unfold bX
 cases hb:bU v&&decide (v.N∈eT m met) with
 |false=>exact hv
 |true=>
  rw [QG,decide_eq_true_eq] at hb;exact h.rho64 hb.2
theorem MinCtx.now64: ∀v∈roots.map (bX (dl m met) (eT m met)),in64 v.N:=fun v hv=>by
 obtain ⟨w,hw,rfl⟩:=List.mem_map.1 hv;exact h.mov64 (h.r64 w hw)
theorem MinCtx.nCE (a:Int):nC N m met a=iC (dl m met) (eT m met) (iq N (eT m met) (bK m a)):=by
 have _:=h;exact Gc _
theorem MinCtx.midW:W64 (oI N m met):=fun c hc v hv=>by
 obtain ⟨a,ha,rfl⟩:=h.midMem hc;have hv':v∈(nC N m met a).Slots++(nC N m met a).More:=hv;rw [h.nCE] at hv'
 have hv2:v∈((iq N (eT m met) (bK m a)).Slots++(iq N (eT m met) (bK m a)).More).map (bX (dl m met) (eT m met)):=by rw [List.map_append];exact hv'
 obtain ⟨w,hw,rfl⟩:=List.mem_map.1 hv2;refine h.mov64 ?_;rcases Ij hw with hw|rfl
 ·exact h.w64.at_ a w hw
 show in64 0;unfold in64;omega
theorem MinCtx.midS (hcnt:m.Young.length+m.Old.length<=600)(l:List Qn)(hl:l.length<=600):Small (oI N m met) l:=by
 have:=h.midCnt;refine ⟨by omega,by omega,hl,fun c hc=> ?_⟩;obtain ⟨a,ha,rfl⟩:=h.midMem hc;exact ⟨(h.okN ha).2.slots,(h.okN ha).2.more⟩
end
end
section
open Go.RowKit
theorem tw (N:Nat)(hN:6500<N)(c:Ql)(hS:c.Slots.length<=600)(hM:c.More.length<=600):lM N c=some ((bI c).any yB):=by
 have h1:=eH c;have h2:=iN c
 have hy: ∀x,lL N x=some (yB x):=fun x=>by
  unfold lL yB;cases decide (0<x)<;>cases decide (x.tmod 2=1)<;>rfl
 unfold lM bI;rw [nI N U c U U,sw N U c U U,bs,bs,Ak N _ yB (bC c) U U (fun x _=>hy x),Ak N _ yB (db c) U U (fun x _=>hy x),bs,bs,List.any_append];cases (bC c).any yB<;>cases (db c).any yB<;>rfl
theorem Jl {L:List (Int×Bool)}{a:Int}(h:a∉L.map (·.1)):AS L a=L:=by
 unfold AS;rcases Hm a L with ⟨i,c, -,h2⟩|⟨h1, -⟩
 ·exact absurd (List.mem_map.2 ⟨_,List.mem_of_getElem? h2,J⟩) h
 rw [h1]
theorem Cp (N:Nat)(hN:6500<N){m:Qg}{roots:List Qn}(hs:Small m roots): ∃kv,dc N ⟨[]⟩ m=some ⟨kv⟩/\kv.map Prod.fst=fP m:=by
 have ho:=hs.old
 have key:Sat (dc N ⟨[]⟩ m) fun r=>r.at_.map Prod.fst=fP m:=by
  unfold dc nF;rw [bs];refine bA (fun k i (s:List (Int×Bool))=>eP N m k (i:Int) s) m.Old.length (fun i s=>s.map Prod.fst=((List.range i).filter (iw m)).map (fun i:Nat=>2*(i:Int)+2)) _ ?_ ?_ N 0 [] U U J
  ·rintro k i s hi h1 go;show Sat (eP N m (k+1) (i:Int) s) _;have hc:=hs.cells _ (Qx m.Young (QI hi))
   have hnext:((List.range (i+1)).filter (iw m)).map (fun i:Nat=>2*(i:Int)+2)=((List.range i).filter (iw m)).map (fun i:Nat=>2*(i:Int)+2)++(bif iw m i then [2*(i:Int)+2] else []):=by
    rw [List.range_succ,List.filter_append,List.map_append];cases h:iw m i<;>simp [h]
   have hno:(2*(i:Int)+2)∉s.map Prod.fst:=by
    rw [h1];intro hm;obtain ⟨j,hj,e⟩:=List.mem_map.1 hm;have:=List.mem_range.1 (List.mem_filter.1 hj).1;omega
   have e:(bI m.Old[i]).any yB=iw m i:=by unfold iw;rw [nl m i hi]
   rw [eP.eq_2,bG U,ct,aC hi,bs,r64 U U,r64 U U];unfold dM jw ml;rw [tw N hN _ hc.1 hc.2,e,bG U,ct,o3 U,kB U];simp only [bs,nt,cf];cases h:iw m i
   ·simp only [nf,ct,bs];rw [Jl hno,r64 U U];exact go s (by rw [hnext,h,h1,cf,List.append_nil])
   simp only [nt,cf,bs];rw [r64 U U];refine go (za s (2*(i:Int)+2) true) ?_;have:=yZ s (2*(i:Int)+2) true;rw [if_neg hno] at this;rw [hnext,h,ct, <-h1];exact this
  rintro k s h1;show Sat (eP N m (k+1) _ s) _;rw [eP.eq_2,bH U,cf];exact aA h1
 obtain ⟨r,e,h⟩:=key;exact ⟨r.at_,e,h⟩
theorem zT (m:Qg):(fP m).Pairwise (· < ·):=by
 have:=Gk m;unfold nK at this;rw [QG,decide_eq_true_eq] at this;exact this.2
def qq (m:Qg)(live f:List Int):List Qn:=f.flatMap fun a=>dG live (bK m a)
section
variable {N:Nat} {m:Qg} {roots:List Qn} {live f:List Int} (h:CollCtx N m roots live f)
include h
theorem CollCtx.gone64: ∀v∈(qq m live f).map (bX (o6 f) f),in64 v.N:=fun v hv=>by
 have hl:=h.flen;obtain ⟨w,hw,rfl⟩:=List.mem_map.1 hv;refine AG U ?_;obtain ⟨a,ha,hw⟩:=List.mem_flatMap.1 hw;unfold dG at hw
 cases h10:decide ((bK m a).Kind=10) with
 |false=>rw [h10] at hw;cases hw
 | true=>
  rw [h10] at hw;rcases Ce hw with rfl|hw
  ·cases hm:(bK m a).More with
   |nil=>show in64 0;unfold in64;omega
   |cons x r=>exact h.w64.at_ a x (Qx _ (by rw [hm];simp))
  exact h.w64.at_ a w (Qx _ (List.mem_of_mem_drop hw))
end
theorem Jm {N:Nat}{m:Qg}{roots:List Qn}{live f:List Int}(h:CollCtx N m roots live f):iF N m roots=0:=by
 have hN:=h.big;unfold iF
 have h1:(m.Young++m.Old).all (mN N)=true:=by
  rw [List.all_eq_true];intro c hc;have:=h.small.cells c hc;rw [FW U this.1 this.2];exact h.right c hc
 have h2:bZ m ((m.Young++m.Old).flatMap bI++bn roots)=true:=by
  unfold bZ;rw [List.all_eq_true];intro x hx;rcases List.mem_append.1 hx with hx|hx
  ·obtain ⟨c,hc,hx⟩:=List.mem_flatMap.1 hx;exact h.addr c hc x hx
  exact h.roots x hx
 rw [h1,h2];rfl
end
section
open Go.RowKit
theorem wQ {α β γ:Type}(o:Option α)(f:α->Option β)(g:β->γ):(o.bind f).map g=o.bind fun x=>(f x).map g:=by cases o<;>rfl
theorem Kf {β γ:Type}(c:Prop)[Decidable c](o:Option β)(g:β->γ):(aZ c o).map g=aZ c (o.map g):=by unfold aZ;split<;>rfl
theorem Fl {β γ:Type}(b:Bool)(x y:Option β)(g:β->γ):(bif b then x else y).map g=bif b then x.map g else y.map g:=by cases b<;>rfl
def OI:(Qg×Qr×Qr×Int) ⊕ (Qg×Qr×Qr)->Qg×Qr×Qr×Int
 | .inl x=>x
 | .inr x=>(x.1,x.2.1,x.2.2,0)
theorem MO (N:Nat)(m:Qg)(roots:List Qn):nv N m roots=(du N m roots).map OI:=by
 have e20:jB=ly:=rfl;have e27:jA=lx:=rfl;unfold nv du;rw [e20,e27,wQ]
 congr 1;funext y7
 rw [Fl];cases !decide (y7=0)
 ·simp only [cond_false,wQ]
  congr 1;funext y13;congr 1;funext y18;congr 1;funext y22
  unfold qM;split
  ·simp only [wQ]
   congr 1;funext y25;congr 1;funext y30
   split
   ·simp only [wQ];rfl
   ·rfl
   ·rfl
   rfl
  ·rfl
  ·rfl
  rfl
 rfl
def NS:(Qg×Qr×Qr) ⊕ (Qg×Qr×Qr)->Qg×Qr×Qr×Int
 | .inl x=>(x.1,x.2.1,x.2.2,1)
 | .inr x=>(x.1,x.2.1,x.2.2,0)
theorem J9 (N:Nat)(a0:Qg)(y13:Qh)(a1:List Qn)(y20 p26:List Int): ∀(k:Nat) (p72:List Qn) (p73:Int) (p74 p75:List Ql),dO N y13 a1 y20 p26 k p72 p73 p74 p75=(eR N y13 a1 y20 p26 a0 k p72 p73 p74 p75).map NS:=by
 intro k
 induction k with
 |zero=>intros;rfl
 |succ k ih=>
  intro p72 p73 p74 p75;rw [dO.eq_2,eR.eq_2];unfold lw jx oG mP;simp only [Fl,wQ,Kf,ih];rfl
theorem Ka (N:Nat)(a0:Qg)(a1:List Qn)(a2 y20:List Int)(y13:Qh): ∀(k:Nat) (p29:List Qn) (p30:List Int) (p31:Int) (p32:List Ql),eF N a0 a1 a2 y20 y13 k p29 p30 p31 p32=(eS N a0 a1 a2 y20 y13 k p29 p30 p31 p32).map NS:=by
 intro k
 induction k with
 |zero=>intros;rfl
 |succ k ih=>
  intro p29 p30 p31 p32;rw [eF.eq_2,eS.eq_2];unfold i6 jy oH mQ;simp only [Fl,wQ,Kf,ih,J9 N a0]
theorem ML (N:Nat)(m:Qg)(roots:List Qn)(kept:List Int):iL N m roots kept=(dP N m roots kept).map NS:=by
 unfold iL dP;rw [wQ]
 congr 1;funext y7
 rw [Fl];cases !y7
 ·simp only [cond_false,wQ,Ka]
 rfl
def mS (l:List Ql):Nat:=cA (fun c=>c.More.length) l
theorem rh {α:Type}(n:Nat): ∀l:List α,cA (fun _=>n) l=n*l.length
 | []=>by simp [cA]
 |a::l=>by rw [cA,rh n l,List.length_cons,Nat.mul_succ];omega
theorem vY {α:Type}(g:α->Nat)(x:α): ∀(l:List α) (i:Nat),cA g (l.set i x)<=cA g l+g x
 | [],_=>by simp [cA]
 |a::l,0=>by simp only [List.set_cons_zero,cA];omega
 |a::l,i+1=>by have:=vY g x l i;simp only [List.set_cons_succ,cA];omega
structure HInv (k:Nat) (g:Qe):Prop where
 cnt:g.m_.Young.length+g.m_.Old.length<=k
 cells: ∀c∈g.m_.Young++g.m_.Old,c.Slots.length<=20/\c.More.length<=20
 sum:4*(g.roots_++g.pending_).length+3*(mS g.m_.Young+mS g.m_.Old)<=60*k
 w64:W64 g.m_
 r64: ∀v∈g.roots_++g.pending_,in64 v.N
 nd:(g.set_.at_.map Prod.fst).Nodup
 keys: ∀x∈g.set_.at_.map Prod.fst, ∃i:Nat,i<g.m_.Old.length/\x=2*(i:Int)+2
section
variable {k:Nat} {g:Qe} (h:HInv k g)
include h
theorem HInv.up:HInv (k+1) g:=⟨by have:=h.cnt;omega,h.cells,by have:=h.sum;omega,h.w64,h.r64,h.nd,h.keys⟩
theorem HInv.small (hk:k<=40):Small g.m_ (g.roots_++g.pending_):=by
 have h1:=h.cnt;have h2:=h.sum;exact ⟨by omega,by omega,by omega,fun c hc=>by have:=h.cells c hc;omega⟩
theorem HInv.wtd (hk:k<=40):Wtd g.m_ (g.roots_++g.pending_):=by
 have h1:=h.cnt;have h2:=h.sum
 have hw: ∀l:List Ql,(∀c∈l,c∈g.m_.Young++g.m_.Old)->wt l<=41*l.length:=fun l hl=>by
  rw [EN, <-rh]
  exact zc fun c hc=>by have:=h.cells c (hl c hc);unfold wC;omega
 have h3:=hw g.m_.Young fun c hc=>Qw _ hc
 have h4:=hw g.m_.Old fun c hc=>Qx _ hc
 exact ⟨by omega,by omega⟩
theorem HInv.tot (hk:k<=40):cA (fun a=>(bK g.m_ a).More.length) (yQ g.m_)<=3600:=by
 have h2:=mU (fun c:Ql=>c.More.length) (bK g.m_) (yQ g.m_);rw [Al,rv] at h2;have h3:=h.sum;unfold mS at h3;omega
theorem HInv.withM {hP O:List Ql}{kv:List (Int×Bool)}{d:Ql}(hd:d.Slots.length<=20/\d.More.length<=20)(hd64: ∀v∈d.Slots++d.More,in64 v.N)(hY:hP.length+O.length<=k+1)(hc: ∀c∈hP++O,c∈g.m_.Young++g.m_.Old\/c=d)(hs:mS hP+mS O<=mS g.m_.Young+mS g.m_.Old+d.More.length)(nd:(kv.map Prod.fst).Nodup)(keys: ∀x∈kv.map Prod.fst, ∃i:Nat,i<O.length/\x=2*(i:Int)+2):HInv (k+1) ⟨⟨hP,O⟩,g.roots_,g.pending_,⟨kv⟩⟩:=by
 have h3:=h.sum;refine ⟨hY,fun c hm=> ?_,?_,fun c hm=> ?_,h.r64,nd,keys⟩
 ·rcases hc c hm with hm|rfl
  ·exact h.cells c hm
  exact hd
 ·show 4*(g.roots_++g.pending_).length+3*(mS hP+mS O)<=_;omega
 rcases hc c hm with hm|rfl
 ·exact h.w64 c hm
 exact hd64
theorem HInv.withR {r p:List Qn}(h1:4*(r++p).length<=4*(g.roots_++g.pending_).length+60)(h2: ∀v∈r++p,in64 v.N):HInv (k+1) ⟨g.m_,r,p,g.set_⟩:=by
 have h3:=h.sum;refine ⟨by have:=h.cnt;show g.m_.Young.length+g.m_.Old.length<=k+1;omega,h.cells,?_,h.w64,h2,h.nd,h.keys⟩;show 4*(r++p).length+3*(mS g.m_.Young+mS g.m_.Old)<=_;omega
end
structure HB (g:Qe):Prop where
 small:Small g.m_ (g.roots_++g.pending_)
 wtd:Wtd g.m_ (g.roots_++g.pending_)
 tot:cA (fun a=>(bK g.m_ a).More.length) (yQ g.m_)<=3600
 four:4*(g.roots_++g.pending_).length+3*(mS g.m_.Young+mS g.m_.Old)<=9000
 w64:W64 g.m_
 r64: ∀v∈g.roots_++g.pending_,in64 v.N
 nd:(g.set_.at_.map Prod.fst).Nodup
 keys: ∀x∈g.set_.at_.map Prod.fst, ∃i:Nat,i<g.m_.Old.length/\x=2*(i:Int)+2
theorem HInv.hb {k:Nat}{g:Qe}(h:HInv k g)(hk:k<=40):HB g:=⟨h.small hk,h.wtd hk,h.tot hk,by have:=h.sum;omega,h.w64,h.r64,h.nd,h.keys⟩
theorem Km (N:Nat)(g:Qe){a:Int}(ha:in64 a):eZ N g a=some (bp g.m_ a):=by
 unfold eZ aI;rw [bs,nf,ct,uw N _ _ ha];rfl
theorem Ef {k:Nat}{g:Qe}(_:HInv k g)(N:Nat){a:Int}(ha:in64 a):eZ N g a=some (bp g.m_ a):=Km N g ha
theorem Bq {N:Nat}(hN:6500<N){c:Ql}(h1:c.Slots.length<=1000/\c.More.length<=1000):fF N c=some (cY c):=by
 rw [wh N U c h1.1 h1.2,nD N U c h1.1 h1.2]
theorem HU {N k:Nat}(hN:6500<N){g:Qe}(h:HInv k g)(hk:k<40){c:Ql}(h1:c.Slots.length<=20/\c.More.length<=20)(h2: ∀v∈c.Slots++c.More,in64 v.N):
  fo N g c=some (bif cY c then (2*(g.m_.Young.length:Int)+1,0,⟨⟨g.m_.Young++ [⟨c.Kind,c.Shape,c.Flags,0,c.Slots,c.More⟩],g.m_.Old⟩,g.roots_,g.pending_,g.set_⟩) else (0,51,g))/\HInv (k+1) (bif cY c then ⟨⟨g.m_.Young++ [⟨c.Kind,c.Shape,c.Flags,0,c.Slots,c.More⟩],g.m_.Old⟩,g.roots_,g.pending_,g.set_⟩ else g):=by
 have hc:=h.cnt;unfold fo aI;rw [bs,cf,Bq hN U,bs]
 cases cY c with
 |false=>exact ⟨rfl,h.up⟩
 | true=>
  have e:((g.m_.Young++ [(⟨c.Kind,c.Shape,c.Flags,0,c.Slots,c.More⟩:Ql)]).length:Int)=(g.m_.Young.length:Int)+1:=by simp
  rw [nt,cf,nZ N c U,bs,rF (by simp only [List.length_cons,List.length_nil];omega),e,r64 U U,r64 U U,ct,ct];refine ⟨?_,h.withM (d:=⟨c.Kind,c.Shape,c.Flags,0,c.Slots,c.More⟩) h1 h2 ?_ ?_ ?_ h.nd h.keys⟩
  ·rw [show 2*((g.m_.Young.length:Int)+1) - 1=2*(g.m_.Young.length:Int)+1 by omega]
  ·simp only [QC,List.length_cons,List.length_nil];omega
  ·intro d hd;simp only [List.mem_append,List.mem_cons,List.not_mem_nil,or_false] at hd⊢;rcases hd with (hd|hd)|hd
   ·exact .inl (.inl hd)
   ·exact .inr hd
   exact .inl (.inr hd)
  unfold mS;rw [rv];simp only [cA];omega
def F4 (c:Ql)(a:Int):Ql:=⟨c.Kind,c.Shape,c.Flags,a,c.Slots,c.More⟩
def zI (kv:List (Int×Bool))(a:Int)(c:Ql):List (Int×Bool):=bif (bI c).any yB then za kv a true else AS kv a
theorem IX {N:Nat}(hN:6500<N){c:Ql}(h1:c.Slots.length<=600/\c.More.length<=600)(kv:List (Int×Bool))(i:Nat): ∃b,dM N ⟨kv⟩ (2*(i:Int)+2) c=some (b,⟨zI kv (2*(i:Int)+2) c⟩):=by
 unfold dM jw ml zI;rw [bG U,ct,o3 U,kB U,tw N hN c h1.1 h1.2];simp only [bs,nt,cf];cases (bI c).any yB
 ·exact ⟨false,J⟩
 exact ⟨true,J⟩
theorem J5 {kv:List (Int×Bool)}(h:(kv.map Prod.fst).Nodup)(a:Int)(c:Ql):((zI kv a c).map Prod.fst).Nodup:=by
 unfold zI;cases (bI c).any yB
 ·exact (Ez h a).2.1
 show ((za kv a true).map (·.1)).Nodup;rw [yZ];split
 ·exact h
 rename_i hn
 exact List.nodup_append.2 ⟨h,by simp,fun x hx y hy=>by rintro rfl;exact hn (by rw [List.mem_singleton.1 hy] at hx;exact hx)⟩
theorem D9 {kv:List (Int×Bool)}(h:(kv.map Prod.fst).Nodup)(a:Int)(c:Ql)(x:Int):x∈(zI kv a c).map Prod.fst↔((bI c).any yB=true/\(x∈kv.map Prod.fst\/x=a))\/((bI c).any yB=false/\x∈kv.map Prod.fst/\x≠a):=by
 unfold zI;cases (bI c).any yB
 ·simp only [Bool.false_eq_true,false_and,false_or,true_and];exact (Ez h a).1 x
 simp only [Bool.true_eq_false,false_and,or_false,true_and];show x∈(za kv a true).map (·.1)↔(x∈kv.map (·.1)\/x=a);rw [yZ];split
 ·rename_i hn
  exact ⟨.inl,fun hx=>hx.elim id fun e=>e▸hn⟩
 rw [List.mem_append,List.mem_singleton]
def wD (g:Qe)(a:Int)(c:Ql):Qe:=
 bif decide (a%2=1) then ⟨⟨g.m_.Young.set (a / 2).toNat (F4 c (bK g.m_ a).Age),g.m_.Old⟩,g.roots_,g.pending_,g.set_⟩
 else ⟨⟨g.m_.Young,g.m_.Old.set (a / 2 - 1).toNat (F4 c (bK g.m_ a).Age)⟩,g.roots_,g.pending_,⟨zI g.set_.at_ a c⟩⟩
theorem JO {N k:Nat}(hN:6500<N){g:Qe}(h:HInv k g)(hk:k<40){a:Int}(ha:in64 a){c:Ql}(h1:c.Slots.length<=20/\c.More.length<=20)(h2: ∀v∈c.Slots++c.More,in64 v.N):
  kQ N g a c=some (bif !bp g.m_ a then (50,g) else bif !cY c then (51,g) else (0,wD g a c))/\HInv (k+1) (bif !bp g.m_ a then g else bif !cY c then g else wD g a c):=by
 have hc:=h.cnt;unfold kQ aI;rw [bs,cf,Ef h N ha,bs,Bq hN U,bs]
 cases hh:bp g.m_ a with
 |false=>exact ⟨rfl,h.up⟩
 | true=>
  cases cY c with
  |false=>exact ⟨rfl,h.up⟩
  | true=>
   rw [nt,cf,cf,cf,cf];unfold i9;rcases il hh with ⟨i,hi,rfl⟩|⟨i,hi,rfl⟩
   ·have e1:(2*(i:Int)+1).tmod 2=1:=by rw [o3 U];omega
    have e2:(2*(i:Int)+1).tdiv 2=i:=by rw [Int.tdiv_eq_ediv_of_nonneg U];omega
    have e3:(2*(i:Int)+1) / 2=i:=by omega
    have e4:(2*(i:Int)+1)%2=1:=by omega
    unfold wD;rw [e1,e2,e3,e4,Qs (p:=(1:Int)=1) rfl,Qt (p:=(1:Int)=0) U,ct,ct,r64 U U,aC hi,bs,bs]
    dsimp only [ET]
    rw [aC hi,bs,nZ N c U,bs,cf,yu g.m_ i hi];unfold lB;refine ⟨by rw [List.set_set];rfl,h.withM (d:=F4 c g.m_.Young[i].Age) h1 h2 ?_ ?_ ?_ h.nd h.keys⟩
    ·rw [List.length_set];omega
    ·intro d hd;rcases List.mem_append.1 hd with hd|hd
     ·rcases List.mem_or_eq_of_mem_set hd with hd|hd
      ·exact .inl (Qw _ hd)
      exact .inr hd
     exact .inl (Qx _ hd)
    have:=vY (fun c:Ql=>c.More.length) (F4 c g.m_.Young[i].Age) g.m_.Young (i:Int).toNat;unfold mS;omega
   have e1:(2*(i:Int)+2).tmod 2=0:=by rw [o3 U];omega
   have e2:(2*(i:Int)+2).tdiv 2=(i:Int)+1:=by rw [Int.tdiv_eq_ediv_of_nonneg U];omega
   have e3:(2*(i:Int)+2) / 2 - 1=i:=by omega
   have e4:(2*(i:Int)+2)%2=0:=by omega
   have e5:(i:Int)+1 - 1=i:=by omega
   obtain ⟨b,hb⟩:=IX hN (c:=c) U g.set_.at_ i;have hb':dM N g.set_ (2*(i:Int)+2) c=some (b,⟨zI g.set_.at_ (2*(i:Int)+2) c⟩):=hb;unfold wD;rw [hb',e1,e2,e3,e4,e5,Qt (p:=(0:Int)=1) U,Qs (p:=(0:Int)=0) rfl,cf,cf,r64 U U,r64 U U,aC hi,bs,bs]
   dsimp only [ET]
   rw [aC hi,bs,nZ N c U,bs,ct,bs,nl g.m_ i hi];unfold lA;refine ⟨by rw [List.set_set];rfl,h.withM (d:=F4 c g.m_.Old[i].Age) h1 h2 ?_ ?_ ?_ (J5 h.nd _ _) ?_⟩
   ·rw [List.length_set];omega
   ·intro d hd;rcases List.mem_append.1 hd with hd|hd
    ·exact .inl (Qw _ hd)
    rcases List.mem_or_eq_of_mem_set hd with hd|hd
    ·exact .inl (Qx _ hd)
    exact .inr hd
   ·have:=vY (fun c:Ql=>c.More.length) (F4 c g.m_.Old[i].Age) g.m_.Old (i:Int).toNat;unfold mS;omega
   intro x hx;rw [List.length_set];rcases (D9 h.nd _ _ x).1 hx with ⟨-,hx|rfl⟩|⟨-,hx, -⟩
   ·exact h.keys x hx
   ·exact ⟨i,hi,J⟩
   exact h.keys x hx
theorem HN {N k:Nat}{g:Qe}(h:HInv k g)(hk:k<40){v:Qn}(hv:in64 v.N):
  ik N g v=some ((g.roots_.length:Int),⟨g.m_,g.roots_++ [v],g.pending_,g.set_⟩)/\HInv (k+1) ⟨g.m_,g.roots_++ [v],g.pending_,g.set_⟩:=by
 have hs:=(h.small U).roots;rw [QC] at hs
 have e:((g.roots_++ [v]).length:Int) - 1=(g.roots_.length:Int):=by simp
 unfold ik aI;rw [bs,cf,rF (by simp only [List.length_cons,List.length_nil];omega),e,r64 U U];refine ⟨J,h.withR ?_ fun w hw=> ?_⟩
 ·simp only [QC,List.length_cons,List.length_nil];omega
 simp only [List.mem_append,List.mem_cons,List.not_mem_nil,or_false] at hw;rcases hw with (hw|rfl)|hw
 ·exact h.r64 w (Qw _ hw)
 ·exact hv
 exact h.r64 w (Qx _ hw)
def ua (g:Qe)(i:Int):Bool:=decide (0<=i)&&decide (i<(g.roots_.length:Int))
theorem xw {g:Qe}{i:Int}(h:ua g i=true): ∃j:Nat,i=j/\j<g.roots_.length:=by
 unfold ua at h;rw [QG,decide_eq_true_eq,decide_eq_true_eq] at h;exact ⟨i.toNat,by omega,by omega⟩
theorem IJ (N:Nat)(g:Qe)(i:Int):fm N g i=some (bif ua g i then g.roots_.getD i.toNat vZ else vZ):=by
 unfold fm aI
 cases hb:ua g i with
 |true=>
  obtain ⟨j,rfl,hj⟩:=xw hb;rw [bs,cf,bs,Qt (p:=(j:Int)<0) U,cf,bs,Qt (p:=(g.roots_.length:Int)<=(j:Int)) U,cf,aC hj,bs,ct,Int.toNat_natCast,List.getD_eq_getElem?_getD,List.getElem?_eq_getElem hj];rfl
 |false=>
  unfold ua at hb;rw [bs,cf,bs,cf];by_cases h1:i<0
  ·rw [bG h1,ct,bs];rfl
  rw [Qt h1,cf,bs];rw [Qs (p:=(0:Int)<=i) U,Bool.true_and,decide_eq_false_iff_not] at hb;rw [Qs (p:=(g.roots_.length:Int)<=i) U];rfl
theorem Cj {N k:Nat}{g:Qe}(h:HInv k g){i:Int}{v:Qn}(hv:in64 v.N):
  gn N g i v=some (bif ua g i then (true,⟨g.m_,g.roots_.set i.toNat v,g.pending_,g.set_⟩) else (false,g))/\HInv (k+1) (bif ua g i then ⟨g.m_,g.roots_.set i.toNat v,g.pending_,g.set_⟩ else g):=by
 unfold gn aI
 cases hb:ua g i with
 | true=>
  obtain ⟨j,rfl,hj⟩:=xw hb;rw [bs,cf,bs,Qt (p:=(j:Int)<0) U,cf,bs,Qt (p:=(g.roots_.length:Int)<=(j:Int)) U,cf,aC hj,bs,ct,ct];refine ⟨J,h.withR ?_ fun w hw=> ?_⟩
  ·simp only [QC,List.length_set];omega
  rcases List.mem_append.1 hw with hw|hw
  ·rcases List.mem_or_eq_of_mem_set hw with hw|rfl
   ·exact h.r64 w (Qw _ hw)
   exact hv
  exact h.r64 w (Qx _ hw)
 |false=>
  refine ⟨?_,h.up⟩;unfold ua at hb;rw [bs,cf,bs,cf];by_cases h1:i<0
  ·rw [bG h1,ct,bs];rfl
  rw [Qt h1,cf,bs];rw [Qs (p:=(0:Int)<=i) U,Bool.true_and,decide_eq_false_iff_not] at hb;rw [Qs (p:=(g.roots_.length:Int)<=i) U];rfl
theorem Ly {N k:Nat}{g:Qe}(h:HInv k g)(i:Int): ∃r,fa N g i=some r/\HInv (k+1) r:=by
 unfold fa aI;rw [bs,nf,ct,bs];by_cases h1:max i 0<(g.roots_.length:Int)
 ·rw [bG h1,ct,gL ⟨by omega,by omega⟩];refine ⟨_,J,h.withR ?_ fun w hw=> ?_⟩
  ·simp only [QC,QD];omega
  rcases List.mem_append.1 hw with hw|hw
  ·exact h.r64 w (Qw _ (List.mem_of_mem_take hw))
  exact h.r64 w (Qx _ hw)
 rw [Qt h1,cf];exact ⟨_,J,h.up⟩
theorem Le {N k:Nat}{g:Qe}(h:HInv k g): ∃r,gp N g=some r/\HInv (k+1) r.2:=by
 refine ⟨(g.pending_,⟨g.m_,g.roots_,[],g.set_⟩),J,h.withR ?_ fun w hw=> ?_⟩
 ·simp only [QC,List.length_nil];omega
 rw [List.append_nil] at hw;exact h.r64 w (Qw _ hw)
theorem Ko {N k:Nat}{g:Qe}(h:HInv k g){a:Int}(ha:in64 a):jK N g a=some (bif bp g.m_ a then (bK g.m_ a,true) else (⟨0,0,0,0,[],[]⟩,false)):=by
 unfold jK;rw [Ef h N ha,bs]
 cases hh:bp g.m_ a with
 |false=>rfl
 | true=>
  have hc:=h.cells _ (tq hh);have hi64:in64 a:=ha;unfold i9;rcases il hh with ⟨i,hi,rfl⟩|⟨i,hi,rfl⟩
  ·have e1:(2*(i:Int)+1).tmod 2=1:=by rw [o3 U];omega
   have e2:(2*(i:Int)+1).tdiv 2=i:=by rw [Int.tdiv_eq_ediv_of_nonneg U];omega
   rw [yu g.m_ i hi] at hc⊢;unfold in64 at hi64;rw [nt,cf,e1,e2,Qs (p:=(1:Int)=1) rfl,ct,r64 U U,aC hi,bs,bs]
   dsimp only [ET]
   rw [aC hi,bs,nZ N _ U,bs];rfl
  have e1:(2*(i:Int)+2).tmod 2=0:=by rw [o3 U];omega
  have e2:(2*(i:Int)+2).tdiv 2=(i:Int)+1:=by rw [Int.tdiv_eq_ediv_of_nonneg U];omega
  have e5:(i:Int)+1 - 1=i:=by omega
  rw [nl g.m_ i hi] at hc⊢;unfold in64 at hi64;rw [nt,cf,e1,e2,e5,Qt (p:=(0:Int)=1) U,cf,r64 U U,r64 U U,aC hi,bs,bs]
  dsimp only [ET]
  rw [aC hi,bs,nZ N _ U,bs];rfl
end
section
open Go.RowKit
theorem HX (l:List Int)(cb:Qn): ∀xs:List Qn,4*(iP l cb xs).length+3*(eI l xs).length<=3*xs.length
 | []=>by simp [eI,iP]
 | [_]=>by simp [eI,iP]
 | [_,_]=>by simp [eI,iP]
 | [_,_,_]=>by simp [eI,iP]
 |t::h::k::s::r=>by
  have:=HX l cb r;unfold eI iP;cases decide (t.N∈l)<;>simp<;>omega
theorem KJ (N:Nat)(l:List Int)(c:Ql):4*(dG l c).length+3*(iq N l c).More.length<=3*c.More.length:=by
 have h1:=(mF N l c).2;by_cases h10:c.Kind=10
 ·have:=HX l (c.More.headD iD) (c.More.drop 1);unfold iq dG;rw [Qs h10,Qt (p:=c.Kind=8) U];show 4*(iP l (c.More.headD iD) (c.More.drop 1)).length+3*(c.More.take 1++eI l (c.More.drop 1)).length<=_;rw [QC,QD];rw [List.length_drop] at this;omega
 have e:dG l c=[]:=by unfold dG;rw [Qt h10];rfl
 rw [e] at h1⊢;simp only [List.length_nil] at h1⊢;omega
theorem zb {α:Type}(n:Nat)(g:α->Nat): ∀l:List α,cA (fun x=>n*g x) l=n*cA g l
 | []=>by simp [cA]
 |a::l=>by simp only [cA];rw [zb n g l,Nat.mul_add]
theorem MQ (m:Qg):cA (fun a=>(bK m a).More.length) (yQ m)=mS m.Young+mS m.Old:=by
 have h3:=mU (fun c:Ql=>c.More.length) (bK m) (yQ m);rw [Al,rv] at h3;exact h3.symm
theorem Mf {N:Nat}{m:Qg}{lv f:List Int}(hn:f.Nodup)(hf: ∀a∈f,bp m a=true):4*(f.flatMap fun a=>dG lv (bK m a)).length+3*cA (fun a=>(iq N lv (bK m a)).More.length) f<=3*(mS m.Young+mS m.Old):=by
 rw [xc]
 have h1:cA (fun a=>4*(dG lv (bK m a)).length+3*(iq N lv (bK m a)).More.length) f<=cA (fun a=>3*(bK m a).More.length) f:=zc fun a _=>KJ N lv (bK m a)
 rw [Cg,zb,zb,zb] at h1
 have h2:=pT (fun a=>(bK m a).More.length) hn fun a ha=>uo (hf a ha)
 rw [MQ] at h2;omega
theorem MA {m:Qg}(hw:W64 m){lv:List Int}{a:Int}{v:Qn}(h:v∈dG lv (bK m a)):in64 v.N:=by
 unfold dG at h
 cases h10:decide ((bK m a).Kind=10) with
 |false=>rw [h10] at h;cases h
 | true=>
  rw [h10] at h;rcases Ce h with rfl|h
  ·cases hm:(bK m a).More with
   |nil=>show in64 0;unfold in64;omega
   |cons x r=>exact hw.at_ a x (Qx _ (by rw [hm];simp))
  exact hw.at_ a v (Qx _ (List.mem_of_mem_drop h))
theorem th (N:Nat)(a b:List Qn)(ha:a.length<=100000)(hb:b.length<=100000):cu N a b=some (a++b):=by
 unfold cu ka ll gv jC;rw [r64 U U,bH (a:=0+(a.length:Int)) U,cf,r64 U U,bH (a:=0+(a.length:Int)+(b.length:Int)) U,cf,r64 U U,r64 U U,cf];by_cases h:0<a.length+b.length
 ·rw [bG U,ct,gL ⟨by omega,by omega⟩,bs,rF (by simp;omega),rF (by simp;omega)];rfl
 rw [bH U,cf,bs,rF (by simp;omega),rF (by simp;omega)];rfl
theorem Dl (N:Nat)(a:List Qn)(ha:a.length<=100000):cT N a=some a:=by
 unfold cT;rw [rF (by simp;omega)];rfl
theorem Gm (N:Nat)(g:Qe)(h:g.roots_.length<=600):lz N g=some g.roots_:=by
 unfold lz aI;rw [bs,cf,Dl N _ U,bs]
theorem Br (N:Nat)(l:List Ql)(hl:l.length<N)(h1:l.length<=600)(hc: ∀c∈l,c.Slots.length<=600/\c.More.length<=600):kP N l=some l:=by
 apply Sat.eq;unfold kP;refine bA (fun k i (s:List Ql)=>ij N l k s (i:Int)) l.length (fun i s=>s=l.take i) _ ?_ ?_ N 0 [] U U (by simp)
 ·rintro k i s hi rfl go;show Sat (ij N l (k+1) _ (i:Int)) _;rw [ij.eq_2,bG U,ct,aC hi,bs,nZ N _ (hc _ (QI hi)),bs,rF (by simp;omega),r64 U U];exact go _ (aB hi).symm
 rintro k s rfl;show Sat (ij N l (k+1) _ (l.length:Int)) _;rw [ij.eq_2,bH U,cf,QF];exact aA J
theorem Jd {N:Nat}(hN:6500<N){g:Qe}{roots:List Qn}(h:Small g.m_ roots):ku N g=some (g.m_,g):=by
 have h1:=h.young;have h2:=h.old;unfold ku aI;rw [bs,cf,Br N _ U h1 (fun c hc=>h.cells c (Qw _ hc)),bs,Br N _ U h2 (fun c hc=>h.cells c (Qx _ hc)),bs]
section
variable {g:Qe} (h:HB g)
include h
theorem HB.klen:g.set_.at_.length<=g.m_.Old.length:=by
 have h1:=pT (fun _=>1) h.nd (L:=bz g.m_.Old.length) fun x hx=>io.2 (h.keys x hx)
 rw [rh,rh,QE] at h1;unfold bz at h1;simp only [QE,List.length_range] at h1;omega
theorem HB.keysH {x:Int}(hx:x∈dv g.set_.at_):bp g.m_ x=true:=by
 obtain ⟨i,hi,rfl⟩:=h.keys x ((ri _ x).1 hx);rw [xa,Qs hi]
theorem HB.kslen:(dv g.set_.at_).length<=g.m_.Old.length:=by
 have h1:=h.klen;have e:(dv g.set_.at_).length=(g.set_.at_.map Prod.fst).length:=tV _;rw [e,QE];omega
theorem C8 (N:Nat):iQ N g.set_=some (dv g.set_.at_):=by
 have h1:=h.klen;have h2:=h.small.old;unfold iQ wO qw;rw [bs,gL ⟨fun x hx=>vm h.small (by obtain ⟨i,hi,rfl⟩:=h.keys x hx;rw [xa,Qs hi]),h.nd,by show bi g.set_.at_.length;unfold bi;omega⟩,bs]
end
theorem Gi {m:Qg}{kv:List (Int×Bool)}(h:kv.map Prod.fst=fP m):(kv.map Prod.fst).Nodup/\ ∀x∈kv.map Prod.fst, ∃i:Nat,i<m.Old.length/\x=2*(i:Int)+2:=by
 rw [h];refine ⟨(zT m).imp fun hab e=>by omega,fun x hx=> ?_⟩;obtain ⟨i,hi, -,e⟩:=rl.1 hx;exact ⟨i,hi,e⟩
theorem HR {N:Nat}(f:Qn->Qn)(r p gone:List Qn){R:Type}(F:List Qn->List Qn->Option R)(h1:r.length+p.length<=600)(h2:gone.length<=3000):
  aZ ((0:Int)<=(r.length:Int)/\0<=(r.length:Int).toNat/\(r.length:Int).toNat<=((r++p).map f).length) (aZ ((0:Int)<=(r.length:Int)/\(r.length:Int).toNat<=((r++p).map f).length/\((r++p).map f).length<=((r++p).map f).length) ((cT N ((((r++p).map f).drop 0).take ((r.length:Int).toNat - 0))).bind fun y43=>(cu N ((((r++p).map f).drop ((r.length:Int).toNat)).take (((r++p).map f).length - (r.length:Int).toNat)) gone).bind fun y46=>F y43 y46))=F (r.map f) (p.map f++gone):=by
 have e1:(((r++p).map f).drop 0).take ((r.length:Int).toNat - 0)=r.map f:=by
  rw [List.drop_zero,Nat.sub_zero,Int.toNat_natCast,List.map_append,List.take_left' (by simp)]
 have e2:(((r++p).map f).drop ((r.length:Int).toNat)).take (((r++p).map f).length - (r.length:Int).toNat)=p.map f:=by
  rw [Int.toNat_natCast,List.map_append,List.drop_left' (by simp)];exact List.take_of_length_le (by simp)
 have hl:((r++p).map f).length=r.length+p.length:=by simp
 rw [gL ⟨by omega,by omega,by omega⟩,gL ⟨by omega,by omega,by omega⟩,e1,e2,Dl N _ (by simp;omega),bs,th N _ _ (by simp;omega) U,bs]
section
variable {N:Nat} {m:Qg} {roots:List Qn} {kept met:List Int} (h:MinCtx N m roots kept met)
include h
theorem MinCtx.mid4:4*(nW m met).length+3*(mS (oI N m met).Young+mS (oI N m met).Old)<=3*(mS m.Young+mS m.Old):=by
 have h1:=Mf (N:=N) (lv:=eT m met) h.nd fun a ha=>h.f1has ha
 have h2:=h.midSum fun c=>c.More.length
 have h3:cA (fun a=>(tp N m met a).More.length) (eT m met)=cA (fun a=>(iq N (eT m met) (bK m a)).More.length) (eT m met):=ru fun a _=>by
  show ((iq N (eT m met) (bK m a)).More.map _).length=_;rw [QE]
 unfold mS nW at*;omega
theorem MinCtx.gone64: ∀v∈(nW m met).map (bX (dl m met) met),in64 v.N:=fun v hv=>by
 obtain ⟨w,hw,rfl⟩:=List.mem_map.1 hv;rw [<-zJ];obtain ⟨a, -,hw⟩:=List.mem_flatMap.1 hw;exact h.mov64 (MA h.w64 hw)
end
section
variable {N:Nat} {m:Qg} {roots:List Qn} {live f:List Int} (h:CollCtx N m roots live f)
include h
theorem CollCtx.next4:4*(qq m live f).length+3*(mS (kM N m live f).Young+mS (kM N m live f).Old)<=3*(mS m.Young+mS m.Old):=by
 have h1:=Mf (N:=N) (lv:=live) h.lv.nd fun a ha=>h.lv.fhas ha
 have h3:mS (kM N m live f).Old=cA (fun a=>(iq N live (bK m a)).More.length) f:=by
  show cA (fun c:Ql=>c.More.length) (f.map fun a=>iC (o6 f) f (iq N live (bK m a)))=_;rw [mU]
  exact ru fun a _=>by show ((iq N live (bK m a)).More.map _).length=_;rw [QE]
 have h4:mS (kM N m live f).Young=0:=rfl;unfold qq at*;omega
theorem CollCtx.nextCnt:(kM N m live f).Old.length<=m.Young.length+m.Old.length:=by
 have h1:=pT (fun _=>1) h.lv.nd fun a ha=>uo (h.lv.fhas ha)
 rw [rh,rh] at h1;unfold yQ at h1;unfold kM;simp only [QC,QE,List.length_range] at h1⊢;omega
theorem CollCtx.nextCell {c:Ql}(hc:c∈(kM N m live f).Young++(kM N m live f).Old): ∃a∈f,c.Slots.length=(bK m a).Slots.length/\c.More.length<=(bK m a).More.length:=by
 have _:=h
 have hc':c∈f.map fun a=>iC (o6 f) f (iq N live (bK m a)):=hc
 obtain ⟨a,ha,rfl⟩:=List.mem_map.1 hc';have:=mF N live (bK m a);refine ⟨a,ha,?_,?_⟩
 ·show ((iq N live (bK m a)).Slots.map _).length=_;rw [QE];exact this.1
 show ((iq N live (bK m a)).More.map _).length<=_;rw [QE];omega
end
theorem Lw {N:Nat}(hN:6500<N){g:Qe}(h:HB g):
  (BL N g.m_ (g.roots_++g.pending_) (dv g.set_.at_)=false/\cF N g=some (1,g))\/
  ∃met kv,MinCtx N g.m_ (g.roots_++g.pending_) (dv g.set_.at_) met/\kv.map Prod.fst=fP (oI N g.m_ met)/\
   cF N g=some (0,⟨oI N g.m_ met,g.roots_.map (bX (dl g.m_ met) met),g.pending_.map (bX (dl g.m_ met) met)++(nW g.m_ met).map (bX (dl g.m_ met) met),⟨kv⟩⟩):=by
 have hs:=h.small;have hkl:=h.kslen;have ho:=hs.old;have hrl:=hs.roots;have hsum:=h.four;have hcnt:=h.wtd.cnt;rw [QC] at hrl hsum;have hm:=ML N g.m_ (g.roots_++g.pending_) (dv g.set_.at_)
 have head:cF N g=((dP N g.m_ (g.roots_++g.pending_) (dv g.set_.at_)).bind fun y13=>ET y13 (fun y13_0=>some (.inl (y13_0.1,y13_0.2.1,y13_0.2.2))) (fun y13_1=>some (.inr (y13_1.1,y13_1.2.1,y13_1.2.2)))).bind fun y26=>(ET y26 (fun y26_0:Qg×Qr×Qr=>fR N g y26_0.1.Young y26_0.1.Old y26_0.2.1 y26_0.2.2) (fun y26_1:Qg×Qr×Qr=>dQ N g y26_1.1.Young y26_1.1.Old y26_1.2.1 y26_1.2.2)).bind fun y9=>some (y9.1,y9.2):=by
  unfold cF gC mc aI;rw [bs,cf,th N _ _ U U,bs,C8 h N,bs,Option.bind_assoc]
 cases hmay:BL N g.m_ (g.roots_++g.pending_) (dv g.set_.at_) with
 | false=>
  have e1:iL N g.m_ (g.roots_++g.pending_) (dv g.set_.at_)=some (⟨[],[]⟩,[],[],1):=by
   unfold iL;rw [Eb N hN hs h.w64 h.r64 _ U (fun x hx=>vm hs (h.keysH hx)),hmay,bs,nf,ct]
  rw [e1] at hm;refine .inl ⟨J,?_⟩;rw [head]
  cases hc:dP N g.m_ (g.roots_++g.pending_) (dv g.set_.at_) with
  |none=>rw [hc] at hm;cases hm
  | some y=>
   rw [hc] at hm
   cases y with
   |inl y=>rfl
   |inr y=>
    have:=Option.some.inj hm;have:=congrArg (fun z:Qg×Qr×Qr×Int=>z.2.2.2) this;exact absurd this (by show¬(1:Int)=0;omega)
 | true=>
  obtain ⟨met,c⟩:=Lr hN hs h.w64 h.r64 h.tot (kept:=dv g.set_.at_) U hmay;have h4:=c.mid4;have hmc:=c.midCnt;obtain ⟨kv,k1,k2⟩:=Cp N hN (m:=oI N g.m_ met) (c.midS U [] (by simp));have hg:((nW g.m_ met).map (bX (dl g.m_ met) met)).length=(nW g.m_ met).length:=QE _;refine .inr ⟨met,kv,c,k2,?_⟩;rw [Kc c] at hm;rw [head]
  have ek:dP N g.m_ (g.roots_++g.pending_) (dv g.set_.at_)=some (.inr (oI N g.m_ met,(g.roots_++g.pending_).map (bX (dl g.m_ met) met),(nW g.m_ met).map (bX (dl g.m_ met) met))):=by
   cases hc:dP N g.m_ (g.roots_++g.pending_) (dv g.set_.at_) with
   |none=>rw [hc] at hm;cases hm
   | some y=>
    rw [hc] at hm;have e:=Option.some.inj hm
    cases y with
    |inl y=>
     have:=congrArg (fun z:Qg×Qr×Qr×Int=>z.2.2.2) e;exact absurd this (by show¬(0:Int)=1;omega)
    |inr y=>
     obtain ⟨y1,y2,y3⟩:=y;have e':=e;simp only [NS,Prod.mk.injEq,and_true] at e';obtain ⟨rfl,rfl,rfl⟩:=e';rfl
  rw [ek,bs]
  dsimp only [ET]
  rw [bs]
  dsimp only
  unfold dQ fQ;rw [HR (N:=N) (bX (dl g.m_ met) met) g.roots_ g.pending_ _ _ U U];have k1':dc N g.set_ (⟨(oI N g.m_ met).Young,(oI N g.m_ met).Old⟩:Qg)=some ⟨kv⟩:=k1;rw [k1',bs,bs]
theorem MV {N k:Nat}(hN:6500<N){g:Qe}(h:HInv k g)(hk:k<=40):
  (BL N g.m_ (g.roots_++g.pending_) (dv g.set_.at_)=false/\cF N g=some (1,g))\/
  ∃met kv,MinCtx N g.m_ (g.roots_++g.pending_) (dv g.set_.at_) met/\kv.map Prod.fst=fP (oI N g.m_ met)/\
   cF N g=some (0,⟨oI N g.m_ met,g.roots_.map (bX (dl g.m_ met) met),g.pending_.map (bX (dl g.m_ met) met)++(nW g.m_ met).map (bX (dl g.m_ met) met),⟨kv⟩⟩)/\
   HInv k ⟨oI N g.m_ met,g.roots_.map (bX (dl g.m_ met) met),g.pending_.map (bX (dl g.m_ met) met)++(nW g.m_ met).map (bX (dl g.m_ met) met),⟨kv⟩⟩:=by
 have hsum:=h.sum;have hcnt:=h.cnt;rw [QC] at hsum;rcases Lw hN (h.hb hk) with h1|⟨met,kv,c,k2,e⟩
 ·exact .inl h1
 have h4:=c.mid4;have hmc:=c.midCnt;have hg:((nW g.m_ met).map (bX (dl g.m_ met) met)).length=(nW g.m_ met).length:=QE _;refine .inr ⟨met,kv,c,k2,e,?_⟩;obtain ⟨n1,n2⟩:=Gi k2;refine ⟨by show (oI N g.m_ met).Young.length+(oI N g.m_ met).Old.length<=k;omega,fun d hd=> ?_,?_,c.midW,fun v hv=> ?_,n1,n2⟩
 ·obtain ⟨a,ha,rfl⟩:=c.midMem hd;have h1:=c.cellLe ha;have h2:=h.cells _ (tq (c.f1has ha));omega
 ·show 4*(g.roots_.map (bX (dl g.m_ met) met)++(g.pending_.map (bX (dl g.m_ met) met)++(nW g.m_ met).map (bX (dl g.m_ met) met))).length+3*(mS (oI N g.m_ met).Young+mS (oI N g.m_ met).Old)<=60*k;simp only [QC,QE];omega
 have hv':v∈(g.roots_++g.pending_).map (bX (dl g.m_ met) met)\/v∈(nW g.m_ met).map (bX (dl g.m_ met) met):=by
  rw [<-List.mem_append,List.map_append,Qv];exact hv
 rcases hv' with hv'|hv'
 ·rw [c.nowE] at hv';exact c.now64 v hv'
 exact c.gone64 v hv'
theorem Hf {N:Nat}{m:Qg}{R:List Qn}(h0:lf N m R=some 0){y:Qg×List Qn×List Qn×Int}(h:du N m R=some (.inl y)):False:=by
 unfold du at h;rw [h0,bs,Qs (p:=(0:Int)=0) rfl,nt,cf] at h;obtain ⟨y13, -,h⟩:=aa h;obtain ⟨y18, -,h⟩:=aa h;obtain ⟨y22, -,h⟩:=aa h;unfold qM at h;split at h
 ·obtain ⟨y25, -,h⟩:=aa h;obtain ⟨y30, -,h⟩:=aa h;split at h
  ·obtain ⟨y65, -,h⟩:=aa h;obtain ⟨y67, -,h⟩:=aa h;cases h
  ·cases h
  ·cases h
  cases h
 ·cases h
 ·cases h
 cases h
theorem Lx {N:Nat}(hN:6500<N){g:Qe}(h:HB g):
  (iF N g.m_ (g.roots_++g.pending_)≠0/\cW N g=some (iF N g.m_ (g.roots_++g.pending_),g))\/
  ∃live f kv,CollCtx N g.m_ (g.roots_++g.pending_) live f/\kv.map Prod.fst=fP (kM N g.m_ live f)/\
   cW N g=some (0,⟨kM N g.m_ live f,g.roots_.map (bX (o6 f) f),g.pending_.map (bX (o6 f) f)++(qq g.m_ live f).map (bX (o6 f) f),⟨kv⟩⟩):=by
 have hs:=h.small;have hrl:=hs.roots;have hsum:=h.four;have hcnt:=h.wtd.cnt;rw [QC] at hrl hsum;obtain ⟨live,f,hl⟩:=HV N hN hs h.w64 h.r64;have hp:=FE N hN hs h.wtd h.w64 h.r64 hl;have hm:=MO N g.m_ (g.roots_++g.pending_);rw [hp] at hm;unfold yt at hm
 have head:cW N g=((du N g.m_ (g.roots_++g.pending_)).bind fun y11=>ET y11 (fun y11_0=>some (.inl (y11_0.1,y11_0.2.1,y11_0.2.2.1,y11_0.2.2.2))) (fun y11_1=>some (.inr (y11_1.1,y11_1.2.1,y11_1.2.2)))).bind fun y27=>(ET y27 (fun y27_0:Qg×Qr×Qr×Int=>dS N g y27_0.1.Young y27_0.1.Old y27_0.2.1 y27_0.2.2.1 y27_0.2.2.2) (fun y27_1:Qg×Qr×Qr=>dR N g y27_1.1.Young y27_1.1.Old y27_1.2.1 y27_1.2.2)).bind fun y9=>some (y9.1,y9.2):=by
  unfold cW gF md aI;rw [bs,cf,th N _ _ U U,bs,Option.bind_assoc]
 by_cases h0: ¬iF N g.m_ (g.roots_++g.pending_)=0
 ·rw [eJ h0,cond_false] at hm;refine .inl ⟨h0,?_⟩;rw [head]
  cases hc:du N g.m_ (g.roots_++g.pending_) with
  |none=>rw [hc] at hm;cases hm
  | some y=>
   rw [hc] at hm;have e:=congrArg (fun z:Qg×Qr×Qr×Int=>z.2.2.2) (Option.some.inj hm)
   cases y with
   |inl y=>
    obtain ⟨y1,y2,y3,y4⟩:=y;have e':iF N g.m_ (g.roots_++g.pending_)=y4:=e;rw [bs]
    dsimp only [ET]
    rw [bs]
    dsimp only
    unfold dS;rw [<-e',eJ h0,nf,ct,bs]
   |inr y=>exact absurd e h0
 replace h0:iF N g.m_ (g.roots_++g.pending_)=0:=by omega
 rw [kB h0,cond_true] at hm;have c:=Nd hN hs h.wtd h.w64 h.r64 hl h0;have h4:=c.next4;have hnc:=c.nextCnt;have h0n:(kM N g.m_ live f).Young.length=0:=rfl;obtain ⟨kv,k1,k2⟩:=Cp N hN (m:=kM N g.m_ live f) (c.nextS [] (by simp));have k1':dc N g.set_ (⟨(kM N g.m_ live f).Young,(kM N g.m_ live f).Old⟩:Qg)=some ⟨kv⟩:=k1;have hg:((qq g.m_ live f).map (bX (o6 f) f)).length=(qq g.m_ live f).length:=QE _;refine .inr ⟨live,f,kv,c,k2,?_⟩;rw [head]
 cases hc:du N g.m_ (g.roots_++g.pending_) with
 |none=>rw [hc] at hm;cases hm
 | some y=>
  rw [hc] at hm;have e:=Option.some.inj hm
  cases y with
  |inl y=>exact (Hf (by rw [Dp N hN hs h.wtd h.w64 h.r64,h0]) hc).elim
  |inr y=>
   obtain ⟨y1,y2,y3⟩:=y;simp only [OI,Prod.mk.injEq,and_true] at e;obtain ⟨rfl,rfl,rfl⟩:=e;rw [bs]
   dsimp only [ET]
   rw [bs]
   dsimp only
   unfold dR fS;unfold Dk
   dsimp only
   rw [HR (N:=N) (bX (o6 f) f) g.roots_ g.pending_ _ _ U (by unfold qq at hg;rw [hg];unfold qq at h4;omega)];have k2':dc N g.set_ (⟨[],f.map fun a=>iC (o6 f) f (iq N live (bK g.m_ a))⟩:Qg)=some ⟨kv⟩:=k1;rw [k2',bs,bs];rfl
theorem MW {N k:Nat}(hN:6500<N){g:Qe}(h:HInv k g)(hk:k<=40):
  (iF N g.m_ (g.roots_++g.pending_)≠0/\cW N g=some (iF N g.m_ (g.roots_++g.pending_),g))\/
  ∃live f kv,CollCtx N g.m_ (g.roots_++g.pending_) live f/\kv.map Prod.fst=fP (kM N g.m_ live f)/\
   cW N g=some (0,⟨kM N g.m_ live f,g.roots_.map (bX (o6 f) f),g.pending_.map (bX (o6 f) f)++(qq g.m_ live f).map (bX (o6 f) f),⟨kv⟩⟩)/\
   HInv k ⟨kM N g.m_ live f,g.roots_.map (bX (o6 f) f),g.pending_.map (bX (o6 f) f)++(qq g.m_ live f).map (bX (o6 f) f),⟨kv⟩⟩:=by
 have hsum:=h.sum;have hcnt:=h.cnt;rw [QC] at hsum;rcases Lx hN (h.hb hk) with h1|⟨live,f,kv,c,k2,e⟩
 ·exact .inl h1
 have h4:=c.next4;have hnc:=c.nextCnt;have h0n:(kM N g.m_ live f).Young.length=0:=rfl;have hg:((qq g.m_ live f).map (bX (o6 f) f)).length=(qq g.m_ live f).length:=QE _;refine .inr ⟨live,f,kv,c,k2,e,?_⟩;obtain ⟨n1,n2⟩:=Gi k2;refine ⟨by show (kM N g.m_ live f).Young.length+(kM N g.m_ live f).Old.length<=k;omega,fun d hd=> ?_,?_,c.nextW,fun v hv=> ?_,n1,n2⟩
 ·obtain ⟨a,ha,h1,h1'⟩:=c.nextCell hd;have h2:=h.cells _ (tq (c.lv.fhas ha));omega
 ·show 4*(g.roots_.map (bX (o6 f) f)++(g.pending_.map (bX (o6 f) f)++(qq g.m_ live f).map (bX (o6 f) f))).length+3*(mS (kM N g.m_ live f).Young+mS (kM N g.m_ live f).Old)<=60*k;simp only [QC,QE];omega
 have hv':v∈(g.roots_++g.pending_).map (bX (o6 f) f)\/v∈(qq g.m_ live f).map (bX (o6 f) f):=by
  rw [<-List.mem_append,List.map_append,Qv];exact hv
 rcases hv' with hv'|hv'
 ·exact c.now64 v hv'
 exact c.gone64 v hv'
end
section
open Go.RowKit
def Od (x:Qc):Prop:=in64 x.N/\in64 x.V.N/\ ∀v∈x.C.Slots++x.C.More,in64 v.N
def Ns (x:Qc):Bool:=decide (x.C.Slots.length<=20)&&decide (x.C.More.length<=20)
theorem Lh {l:List Qc}(h:Nu (fun z=>EP z) l): ∀x∈l,Od x:=fun x hx=>by
 obtain ⟨-,h1,⟨-, -, -, -,s,t⟩,h3⟩:=h.2 x hx;refine ⟨h1,h3.2.1,fun v hv=> ?_⟩;rcases List.mem_append.1 hv with hv|hv
 ·exact (s.2 v hv).2.1
 exact (t.2 v hv).2.1
theorem GV (N:Nat)(hN:6500<N)(l:List Qc):sx N l=some (decide (l.length<=40)&&l.all Ns):=by
 unfold sx;by_cases h:l.length<=40
 ·rw [bH U,cf,Qs h,Bool.true_and];refine qo (fun k i=>mi N l k i) l Ns (fun m i hi=> ?_) (fun m=> ?_) N U
  ·show mi N l (m+1) (i:Int)=_;rw [mi.eq_2,bG U,ct,aC hi,bs,bs];unfold Ns;by_cases h1:l[i].C.Slots.length<=20
   ·rw [bH U,cf,bs,Qs h1,Bool.true_and];by_cases h2:l[i].C.More.length<=20
    ·rw [bH U,cf,Qs h2,ct,r64 U U]
    rw [bG U,ct,Qt h2,cf]
   rw [bG U,ct,bs,ct,Qt h1];rfl
  show mi N l (m+1) (l.length:Int)=_;rw [mi.eq_2,bH U,cf];rfl
 rw [bG U,ct,Qt h];rfl
theorem Lm:HInv 0 ⟨⟨[],[]⟩,[],[],⟨[]⟩⟩:=by
 refine ⟨Nat.le_refl _,fun c hc=> ?_,?_,fun c hc=> ?_,fun v hv=> ?_,by simp,fun x hx=> ?_⟩
 ·cases hc
 ·exact Nat.le_refl _
 ·cases hc
 ·cases hv
 cases hx
set_option maxRecDepth 100000 in
theorem Il:sB 7000=some true:=by kernel_rfl
theorem I7 (N:Nat)(a b:Int):vz N a b=some (decide (a<b)):=by
 unfold vz ti;rw [bs,kB rfl,Bool.not_true,cond_false,bs,cond_false,bs]
theorem Kb {a b:Int}(h0:0<=a)(h1:a<b)(h2:b<=100000):IntKind.i64.wrap ((IntKind.u64.wrap (a+b)).fdiv (2 ^ 1))=(a+b) / 2:=by
 rw [IntWalk.u64_in _ ⟨by omega,by omega⟩,Int.fdiv_eq_ediv_of_nonneg _ U,show (2:Int) ^ 1=2 from rfl,IntWalk.i64_in _ ⟨by omega,by omega⟩]
theorem FH (N:Nat)(hN:6500<N)(l:List Int)(x:Int)(hl:l.length<=1000)(ha:l.Pairwise (· < ·)):Sat (iz N l x) fun r=>r.2=decide (x∈l):=by
 unfold iz;have hg:=List.pairwise_iff_getElem.1 ha;refine ma (fun m (s:Int×Int)=>dE N x l m s.1 s.2) (fun s=>(s.2 - s.1).toNat) (fun s=>0<=s.1/\s.1<=s.2/\s.2<=l.length/\(∀(j:Nat) (hj:j<l.length),(j:Int)<s.1->l[j]<x)/\(∀(j:Nat) (hj:j<l.length),s.2<=(j:Int)->x<=l[j])) _ ?_ N (0,(l.length:Int)) (by show ((l.length:Int) - 0).toNat<N;omega) ⟨by omega,by show (0:Int)<=l.length;omega,by show (l.length:Int)<=l.length;omega,fun j hj h=>by have:(j:Int)<0:=h;omega,fun j hj h=>by have:(l.length:Int)<=j:=h;omega⟩;rintro m ⟨a,b⟩ ⟨h0,h1,h2,h3,h4⟩ k
 dsimp only at h0 h1 h2 h3 h4
 show Sat (dE N x l (m+1) a b) _;rw [dE.eq_2]
 refine dy (fun hab=> ?_) fun hab=> ?_
 ·have hm:((a+b) / 2).toNat<l.length:=by omega
  rw [r64 U U,Kb h0 hab U,Ft U hm,bs,I7,bs]
  refine dy (fun hlt=> ?_) fun hlt=> ?_
  ·rw [r64 U U];refine k ((a+b) / 2+1,b) (by show (b - ((a+b) / 2+1)).toNat<(b - a).toNat;omega) ⟨by show 0<=(a+b) / 2+1;omega,by show (a+b) / 2+1<=b;omega,h2,fun j hj h=> ?_,h4⟩;have h:(j:Int)<(a+b) / 2+1:=h;rcases Nat.lt_or_ge j ((a+b) / 2).toNat with h5|h5
   ·have:=hg j _ hj hm h5;omega
   have e:j=((a+b) / 2).toNat:=by omega
   subst e;exact hlt
  refine k (a,(a+b) / 2) (by show ((a+b) / 2 - a).toNat<(b - a).toNat;omega) ⟨h0,by show a<=(a+b) / 2;omega,by show (a+b) / 2<=l.length;omega,h3,fun j hj h=> ?_⟩;have h:(a+b) / 2<=(j:Int):=h;rcases Nat.lt_or_ge ((a+b) / 2).toNat j with h5|h5
  ·have:=hg _ j hm hj h5;omega
  have e:j=((a+b) / 2).toNat:=by omega
  subst e;omega
 obtain rfl:a=b:=by omega
 unfold ke ob;by_cases hlt:a<l.length
 ·have ht:a.toNat<l.length:=by omega
  rw [bG hlt,cond_true,Ft h0 ht,bs];by_cases he:l[a.toNat]=x
  ·rw [kB he,cond_true,bs,bs];exact aA (Eq.symm (Qs (he▸QI ht)))
  rw [eJ he,cond_false,bs,bs,kB rfl,Bool.not_true,cond_false,bs,bs,bs];refine aA (Eq.symm (Qt fun hx=> ?_));obtain ⟨j,hj,rfl⟩:=List.mem_iff_getElem.1 hx;rcases Nat.lt_trichotomy j a.toNat with h5|h5|h5
  ·have:=h3 j hj U;omega
  ·subst h5;exact he J
  have h6:=hg _ _ ht hj h5;have:=h4 a.toNat ht U;omega
 rw [bH U,cond_false,bs];refine aA (Eq.symm (Qt fun hx=> ?_));obtain ⟨j,hj,rfl⟩:=List.mem_iff_getElem.1 hx;have:=h3 j hj U;omega
theorem J3 (m:Qg)(l:List Int):ql m l=(List.range m.Old.length).all fun i=> !iw m i||decide ((2*(i:Int)+2)∈l):=rfl
theorem IL (n:Nat)(p:Nat->Bool):(List.range n).all p=true↔ ∀i,i<n->p i=true:=by
 rw [List.all_eq_true];exact ⟨fun h i hi=>h i (List.mem_range.2 hi),fun h i hi=>h i (List.mem_range.1 hi)⟩
theorem Dz {N:Nat}(hN:6500<N){m:Qg}{roots:List Qn}(hs:Small m roots){l:List Int}(ha:l.Pairwise (· < ·))(hf: ∀x∈l, ∃i:Nat,i<m.Old.length/\x=2*(i:Int)+2)(hl:l.length<=1000):og N m l=some (ql m l):=by
 have ho:=hs.old
 have second:ie N m l N 0=some (ql m l):=by
  rw [J3]
  have key: ∀k i:Nat,m.Old.length<k+i->i<=m.Old.length->Sat (ie N m l k (i:Int)) fun b=>b=true↔ ∀j,i<=j->j<m.Old.length->(!iw m j||decide ((2*(j:Int)+2)∈l))=true:=by
   intro k
   induction k with
   |zero=>intro i h1 h2;omega
   | succ k ih=>
    intro i h1 h2;rw [ie.eq_2];by_cases hi:i<m.Old.length
    ·have h3:=ih (i+1) U hi;rw [show (((i+1:Nat)):Int)=(i:Int)+1 by omega] at h3;have hc:=hs.cells _ (Qx m.Young (QI hi))
     have e:(bI m.Old[i]).any yB=iw m i:=by unfold iw;rw [nl m i hi]
     obtain ⟨r,e1,e2⟩:=FH N hN l (2*(i:Int)+2) hl ha;rw [bG U,ct,aC hi,bs,r64 U U,r64 U U,e1,bs,e2,tw N hN _ hc.1 hc.2,e]
     have e3:((bif !decide (2*(i:Int)+2∈l) then (some (iw m i)).bind fun y32=>some y32 else some false):Option Bool)=some (!(!iw m i||decide (2*(i:Int)+2∈l))):=by
      cases decide (2*(i:Int)+2∈l)<;>cases iw m i<;>rfl
     rw [e3,bs]
     cases hb:!iw m i||decide (2*(i:Int)+2∈l) with
     |false=>
      rw [nf,ct];refine aA ⟨fun h=>(by cases h),fun h=> ?_⟩;have:=h i (Nat.le_refl _) hi;rw [hb] at this;cases this
     |true=>
      rw [nt,cf,r64 U U]
      refine h3.mono fun b h=>h.trans ⟨fun h j h1 h2=> ?_,fun h j h1 h2=>h j U h2⟩
      rcases Nat.lt_or_ge i j with h4|h4
      ·exact h j U h2
      obtain rfl:j=i:=by omega
      exact hb
    rw [bH U,cf];exact aA ⟨fun _ j h1 h2=>by omega,fun _=>rfl⟩
  obtain ⟨b,e1,e2⟩:=key N 0 U U;have e1':ie N m l N 0=some b:=e1;rw [e1']
  congr 1
  rw [Bool.eq_iff_iff,e2,IL];exact ⟨fun h i hi=>h i (Nat.zero_le _) hi,fun h i _ hi=>h i hi⟩
 have hg:=List.pairwise_iff_getElem.1 ha;unfold og
 have key: ∀k i:Nat,l.length<k+i->i<=l.length->nn N l m k (i:Int)=some (ql m l):=by
  intro k
  induction k with
  |zero=>intro i h1 h2;omega
  | succ k ih=>
   intro i h1 h2;rw [nn.eq_2];by_cases hi:i<l.length
   ·have h3:=ih (i+1) U hi;rw [show (((i+1:Nat)):Int)=(i:Int)+1 by omega] at h3;obtain ⟨j,hj,ej⟩:=hf _ (QI hi)
    have ep:((bif decide (0<(i:Int)) then (aZ (in64 ((i:Int) - 1)) ((aw l ((i:Int) - 1)).bind fun x16=>some (decide (l[i]<=x16)))) else (some false)).bind fun b14=>some b14)=some false:=by
     by_cases h0:0<i
     ·have e1:(i:Int) - 1=((i - 1:Nat):Int):=by omega
      have:=hg (i - 1) i U hi U;rw [bG U,ct,r64 U U,e1,aC U,bs,bs,Qt U]
     rw [bH U,cf,bs]
    unfold ml;rw [bG U,ct,aC hi,bs,ep,ej,bG U,ct,o3 U,kB U,bs,bs,nt,cf,r64 (by rw [Int.tdiv_eq_ediv_of_nonneg U];omega) (by rw [Int.tdiv_eq_ediv_of_nonneg U];omega),bs,Int.tdiv_eq_ediv_of_nonneg U,bH U,cf,bs,cf,r64 U U];exact h3
   rw [bH U,cf];exact second
 exact key N 0 U U
theorem Dq (m:Qg): ∀l:List Qn,l.any (fun v=>bU v&& !bp m v.N)=!bZ m (bn l)
 | []=>rfl
 |v::l=>by
  have ih:=Dq m l;unfold bZ bn at ih⊢;rw [List.any_cons,ih,List.filter_cons]
  cases hb:bU v with
  |false=>rw [if_neg (by simp)];rfl
  |true=>rw [if_pos rfl,List.map_cons,List.all_cons];cases bp m v.N<;>rfl
def C9 (g:Qe):Int:=bif !bZ g.m_ (bn (g.roots_++g.pending_)) then 50 else bif !((g.m_.Young++g.m_.Old).all fun c=>bZ g.m_ (bI c)) then 50 else bif ql g.m_ (dv g.set_.at_) then 0 else 6
theorem I6 {N:Nat}(hN:6500<N){g:Qe}(h:HB g){c:Ql}(hc:c∈g.m_.Young++g.m_.Old):mC N g c=some (!bZ g.m_ (bI c)):=by
 have hs:=h.small.cells c hc;have h1:=eH c;have h2:=iN c;unfold mC;rw [nI N U c U U,bs,sw N U c U U,bs,Bt N _ _ U U,bs,Ak N _ (fun x=> !bp g.m_ x) _ (by rw [QC];omega) (by rw [QC];omega) (fun x hx=> ?_),bs,BX]
 ·rfl
 obtain ⟨v,hv, -,rfl⟩:=Jt (c:=c) hx;unfold mR;rw [Km N g (h.w64 c hc v hv),bs]
theorem LA {N:Nat}(hN:6500<N){g:Qe}(h:HB g):f0 N g=some (C9 g):=by
 have hs:=h.small;have hrl:=hs.roots;have hcnt:=h.wtd.cnt;have hrl':=hrl;rw [QC] at hrl'
 have hj: ∀b,gq N g b=some (bif b then 50 else bif ql g.m_ (dv g.set_.at_) then 0 else 6):=fun b=>by
  unfold gq;rw [C8 h N,bs,Dz hN hs (l:=dv g.set_.at_) (Ar h.nd) (fun x hx=>h.keys x ((ri _ x).1 hx)) (by have:=h.kslen;omega),bs];cases b<;>cases ql g.m_ (dv g.set_.at_)<;>rfl
 have ha: ∀v∈g.roots_++g.pending_,kr N g v=some (bU v&& !bp g.m_ v.N):=fun v hv=>by
  unfold kr
  have e:((bif decide (v.Kind=7) then (some true) else (some (decide (v.Kind=9)))):Option Bool)=some (bU v):=by
   unfold bU;cases decide (v.Kind=7)<;>rfl
  rw [e,bs,Km N g (h.r64 v hv),bs];cases bU v<;>rfl
 have hcells:dx N (g.m_.Young++g.m_.Old) g=some (!(g.m_.Young++g.m_.Old).all fun c=>bZ g.m_ (bI c)):=by
  have key: ∀k i:Nat,(g.m_.Young++g.m_.Old).length<k+i->i<=(g.m_.Young++g.m_.Old).length->Sat (cR N (g.m_.Young++g.m_.Old) g k (i:Int)) fun r=>decide (0<=r)=!((g.m_.Young++g.m_.Old).drop i).all fun c=>bZ g.m_ (bI c):=by
   intro k
   induction k with
   |zero=>intro i h1 h2;omega
   | succ k ih=>
    intro i h1 h2
    have hl:(g.m_.Young++g.m_.Old).length<=600:=by rw [QC];omega
    rw [cR.eq_2];by_cases hi:i<(g.m_.Young++g.m_.Old).length
    ·have h3:=ih (i+1) U hi;rw [show (((i+1:Nat)):Int)=(i:Int)+1 by omega] at h3;rw [bG U,ct,aC hi,bs,List.drop_eq_getElem_cons hi,List.all_cons,I6 hN h (QI hi),bs,r64 U U];cases bZ g.m_ (bI (g.m_.Young++g.m_.Old)[i])
     ·exact aA (by rw [Qs U];rfl)
     exact h3
    rw [bH U,cf,List.drop_eq_nil_of_le U];exact aA J
  obtain ⟨r,h1,h2⟩:=key N 0 (by rw [QC];omega) U;have h1':cR N (g.m_.Young++g.m_.Old) g N 0=some r:=h1;unfold dx ge;rw [h1',bs,h2,List.drop_zero]
 unfold f0 aI C9;rw [bs,cf,th N _ _ U U,bs,Io N _ _ _ U U ha,bs,Dq,Ag N _ _ U U,bs,hcells,bs,hj,hj]
 cases bZ g.m_ (bn (g.roots_++g.pending_))<;>cases (g.m_.Young++g.m_.Old).all fun c=>bZ g.m_ (bI c)<;>rfl
theorem Gn {N k:Nat}(hN:6500<N){g:Qe}(h:HInv k g)(hk:k<=40):f0 N g=some (C9 g):=LA hN (h.hb hk)
theorem Ip (N:Nat)(hN:6500<N)(l:List Int)(hl:l.length<=5000)(x:Int):qf N l x=some (decide (x∈l)):=by
 apply Sat.eq;unfold qf
 have key: ∀(m i:Nat),l.length<m+i->i<=l.length->Sat (qW N x l m (i:Int)) (· =decide (x∈l.drop i)):=by
  intro m
  induction m with
  |zero=>intro i h h2;omega
  | succ m ih=>
   intro i h h2;rw [qW.eq_2];by_cases hi:i<l.length
   ·rw [bG U,ct,aC hi,bs,List.drop_eq_getElem_cons hi]
    refine dy (fun e=> ?_) fun e=> ?_
    ·exact aA (by rw [Qs];rw [e];exact List.mem_cons_self ..)
    rw [r64 U U];have:=ih (i+1) U hi;simp only [Int.natCast_add,Int.cast_ofNat_Int] at this
    refine this.mono fun r hr=> ?_
    rw [hr];have:(x∈l[i]::l.drop (i+1))↔x∈l.drop (i+1):=⟨fun h=>(List.mem_cons.1 h).resolve_left (fun e2=>e e2.symm),List.mem_cons_of_mem _⟩;rw [decide_eq_decide];exact this.symm
   rw [bH U,cf,List.drop_eq_nil_of_le U];unfold uT;exact aA (by simp)
 exact key N 0 U U
theorem DV (N:Nat)(hN:6500<N)(l:List Int)(hl:l.length<=5000)(c:Ql)(cb:Qn)(hcb:c.More[0]? =some cb)(hc:c.More.length<=1000): ∀(m i:Nat) (o t:List Qn),c.More.length<m+i->i<=c.More.length->(c.More.length - i)%4=0->o.length<=i->t.length<=i->fw N l c m o t (i:Int)=pE N c (o++eI l (c.More.drop i)) (t++iP l cb (c.More.drop i))
 |0,i,o,t,h,h2,_,_,_=>by omega
 | m+1,i,o,t,h,h2,h3,h4,h5=>by
  rw [fw.eq_2];by_cases hi:i+4<=c.More.length
  ·obtain ⟨v1,v2,v3,v4,r,hd⟩:=four (l:=c.More.drop i) (by rw [List.length_drop];omega)
   have hd4:c.More.drop (i+4)=r:=by rw [<-List.drop_drop,hd];rfl
   have g: ∀k:Nat,aw c.More ((i:Int)+(k:Int))=(v1::v2::v3::v4::r)[k]? :=fun k=>by
    rw [<-hd,List.getElem?_drop, <-ja,Int.natCast_add]
   have h0:aw c.More 0=some cb:=by
    have:=ja c.More 0;rw [hcb] at this;exact this
   have e0:aw c.More (i:Int)=some v1:=by have:=g 0;simpa using this
   have e1:aw c.More ((i:Int)+1)=some v2:=g 1;have e2:aw c.More ((i:Int)+2)=some v3:=g 2;have e3:aw c.More ((i:Int)+3)=some v4:=g 3
   have step:=fun o' t' (q1:o'.length<=i+4) (q2:t'.length<=i+4)=>DV N hN l hl c cb hcb hc m (i+4) o' t' U hi U q1 q2
   rw [show (((i+4:Nat)):Int)=(i:Int)+4 by omega] at step;rw [bG U,ct,e0,bs,Ip N hN l hl,bs,hd,vl,yx];unfold pC pD;cases decide (v1.N∈l)
   ·simp only [nf,ct,cf,QH,h0,bs,e1,e3];rw [r64 U U,r64 U U,rF (by simp;omega),r64 U U,step _ _ U (by simp;omega),hd4,Qv]
   simp only [nt,cf,ct,bs,e0,e1,e2,e3,QH];rw [r64 U U,Ip N hN l hl];cases decide (v3.Kind=7)<;>cases decide (v3.N∈l)<;>simp only [bs,ct,cf,nt,nf,Bool.and_true,Bool.and_false,Bool.true_and,Bool.false_and]<;>(rw [r64 U U,r64 U U,rF (by simp;omega),r64 U U,step _ _ (by simp;omega) U,hd4];simp [iD])
  rw [bH U,cf,List.drop_eq_nil_of_le U];simp [eI,iP]
theorem z6 (N:Nat)(hN:6500<N)(l:List Int)(hl:l.length<=5000)(c:Ql)(hS:c.Slots.length<=600)(hc:c.More.length<=600):qg N c l=some (bif wU N c then pw l c else (AW,[])):=by
 obtain ⟨b,hb, -⟩:=rj N U c U U;obtain ⟨-,h2⟩:=HY N U c U U
 have h1:zt N c=some (wU N c):=by
  unfold zt wU;rw [hb];cases decide (c.Kind=10)<;>cases b<;>rfl
 unfold qg;rw [h1,bs];cases hw:wU N c
 ·rfl
 obtain ⟨g1,g2⟩:=h2 hw;simp only [nt,cf,ct]
 have hcb:c.More[0]? =some (c.More.headD iD):=by
  cases hm:c.More with
  |nil=>rw [hm] at g1;simp at g1
  |cons a r=>rfl
 have h0:aw c.More 0=some (c.More.headD iD):=by
  have:=ja c.More 0;rw [hcb] at this;exact this
 have hh:=DV N hN l hl c _ hcb U N 1 [c.More.headD iD] [] U g1 g2 (by simp) (by simp);have hh':fw N l c N [c.More.headD iD] [] 1=_:=hh;rw [h0,bs,hh'];unfold pE yD;rw [rF (by simp;omega),bs]
 have ht:c.More.take 1=[c.More.headD iD]:=by
  cases hm:c.More with
  |nil=>rw [hm] at g1;simp at g1
  |cons a r=>rfl
 unfold pw;rw [ht];rfl
def GR (f to:List Int):Prop:=to.length=f.length/\ ∀i,i<f.length->to[i]? =some (2*(i:Int)+2)
theorem HS (N:Nat)(hN:6500<N)(f to:List Int)(hf:f.length<=5000)(ht:GR f to)(v:Qn):lU N v f to=some (bX (o6 f) f v):=by
 have key: ∀(m i:Nat),f.length<m+i->i<=f.length->iW N f to v m (i:Int)=some (bif decide (v.N∈f.drop i) then ⟨v.Kind,2*((i+(f.drop i).idxOf v.N:Nat):Int)+2,v.S⟩ else v):=by
  intro m
  induction m with
  |zero=>intro i h h2;omega
  | succ m ih=>
   intro i h h2;rw [iW.eq_2];by_cases hi:i<f.length
   ·have h3:=ih (i+1) U hi;rw [show (((i+1:Nat)):Int)=(i:Int)+1 by omega] at h3;rw [bG U,ct,aC hi,bs,List.drop_eq_getElem_cons hi,List.idxOf_cons];by_cases e:f[i]=v.N
    ·have hto:aw to (i:Int)=some (2*(i:Int)+2):=by rw [ja,ht.2 i hi]
     rw [kB e,ct,bG (by rw [ht.1];omega),ct,hto,bs,Qs (by rw [e];simp),ct,beq_iff_eq.2 e,ct,Nat.add_zero];rfl
    rw [eJ e,cf,r64 U U,h3,beq_eq_false_iff_ne.2 e,cf];by_cases hm:v.N∈f.drop (i+1)
    ·rw [Qs hm,Qs (List.mem_cons_of_mem _ hm),ct,ct,show i+1+(f.drop (i+1)).idxOf v.N=i+((f.drop (i+1)).idxOf v.N+1) by omega]
    rw [Qt hm,Qt (fun h=>(List.mem_cons.1 h).elim (fun h=>e h.symm) hm),cf,cf]
   rw [bH U,cf,List.drop_eq_nil_of_le U];unfold qY;simp
 have h0:=key N 0 U U;unfold lU bX o6;rw [oh,bs];cases bU v
 ·rfl
 rw [nt,cf];rw [List.drop_zero,Nat.zero_add] at h0;rw [show ((0:Nat):Int)=0 from rfl] at h0;rw [h0,Bool.true_and]
theorem Ga (N:Nat)(hN:6500<N)(f to:List Int)(hf:f.length<=5000)(ht:GR f to)(c:Ql)(hS:c.Slots.length<=4000)(hc:c.More.length<=4000):fL N c f to=some (iC (o6 f) f c):=by
 apply Sat.eq
 have more: ∀p:List Qn,Sat (mx N f to c p) (· =⟨c.Kind,c.Shape,c.Flags,c.Age,p,c.More.map (bX (o6 f) f)⟩):=fun p=>by
  unfold mx;refine bA (fun k i (s:List Qn)=>fz N f to c p k (i:Int) s) c.More.length (fun i s=>s=(c.More.take i).map (bX (o6 f) f)) _ ?_ ?_ N 0 [] U U J
  ·rintro k i s hi h1 go;show Sat (fz N f to c p (k+1) (i:Int) s) _
   have hsl:s.length<=i:=by rw [h1,QE,QD];omega
   rw [fz.eq_2,bG U,ct,aC hi,bs,HS N hN f to hf ht,bs,rF (by simp;omega),r64 U U];exact go _ (by rw [aB hi,List.map_append,h1];rfl)
  rintro k s h1;show Sat (fz N f to c p (k+1) _ s) _;rw [fz.eq_2,bH U,cf];unfold pH;exact aA (by rw [h1,QF])
 unfold fL;refine bA (fun k i (s:List Qn)=>fA N f to c k (i:Int) s) c.Slots.length (fun i s=>s=(c.Slots.take i).map (bX (o6 f) f)) _ ?_ ?_ N 0 [] U U J
 ·rintro k i s hi h1 go;show Sat (fA N f to c (k+1) (i:Int) s) _
  have hsl:s.length<=i:=by rw [h1,QE,QD];omega
  rw [fA.eq_2,bG U,ct,aC hi,bs,HS N hN f to hf ht,bs,rF (by simp;omega),r64 U U];exact go _ (by rw [aB hi,List.map_append,h1];rfl)
 rintro k s h1;show Sat (fA N f to c (k+1) _ s) _;rw [fA.eq_2,bH U,cf,h1,QF];exact more _
theorem FP (N:Nat)(hN:6500<N)(f to:List Int)(hf:f.length<=5000)(ht:GR f to)(l:List Qn)(hl:l.length<=4000):oq N l f to=some (l.map (bX (o6 f) f)):=by
 unfold oq;rw [Ga N hN f to hf ht _ (by simp) hl,bs];rfl
theorem JR (N:Nat)(hN:6500<N){m:Qg}{roots:List Qn}{live:List Int}(hlive:pg N m roots=some live)(hl:live.length<=2000):
  Sat (qP N m roots) fun r=>r.1=ln live/\GR (ln live) r.2:=by
 obtain ⟨k,rfl⟩: ∃k,N=k+3:=⟨N - 3,by omega⟩;have h1:(live.filter tf).length<=live.length:=List.length_filter_le _ _;have h2:(live.filter BJ).length<=live.length:=List.length_filter_le _ _
 have fin: ∀f:List Int,f.length<=4000->Sat (pA (k+3) f) fun r=>r.1=f/\GR f r.2:=fun f hf=>by
  unfold pA;refine bA (fun q i (s:List Int)=>jE (k+3) f q s (i:Int)) f.length (fun i s=>s.length=i/\ ∀j,j<i->s[j]? =some (2*(j:Int)+2)) _ ?_ ?_ (k+3) 0 [] U U ⟨J,fun j hj=>absurd hj U⟩
  ·rintro q i s hi ⟨g1,g2⟩ go;show Sat (jE (k+3) f (q+1) s (i:Int)) _;rw [jE.eq_2,bG U,ct,r64 U U,r64 U U,rF (by simp;omega),r64 U U];refine go _ ⟨by simp [g1],fun j hj=> ?_⟩;by_cases e:j<i
   ·rw [List.getElem?_append_left U];exact g2 j e
   have e2:j=i:=by omega
   subst e2;rw [List.getElem?_append_right U,g1];simp
  rintro q s ⟨g1,g2⟩;show Sat (jE (k+3) f (q+1) s _) _;rw [jE.eq_2,bH U,cf];unfold rG;exact aA ⟨J,g1,g2⟩
 have pass: ∀(kb:List Int->Int->Option (List Int×List Int)) (b:Int) (hb:0<=b/\b<=2) (f:List Int) (hf:f.length<=2000) (p:Int->Bool) (hp: ∀a,p a=decide (a.tmod 2=b)) (R:List Int×List Int->Prop),Sat (kb (f++live.filter p) (b+1)) R->Sat (eB (k+3) kb b live (k+3) f 0) R:=fun kb b hb f hf p hp R hk=>by
  refine bA (fun q i (s:List Int)=>eB (k+3) kb b live q s (i:Int)) live.length (fun i s=>s=f++(live.take i).filter p) _ ?_ ?_ (k+3) 0 f U U (by simp)
  ·rintro q i s hi g1 go;show Sat (eB (k+3) kb b live (q+1) s (i:Int)) _
   have hsl:s.length<=4000:=by
    have h9:((live.take i).filter p).length<=(live.take i).length:=List.length_filter_le _ _;rw [QD] at h9;rw [g1,QC];omega
   rw [eB.eq_2,bG U,ct,aC hi,bs];unfold ot;rw [<-hp live[i]];cases hpi:p live[i]
   ·rw [cf,r64 U U];exact go s (by rw [aB hi,List.filter_append,g1];simp [hpi])
   rw [ct,bs,rF (by simp;omega),r64 U U];exact go _ (by rw [aB hi,List.filter_append,g1];simp [hpi])
  rintro q s g1;show Sat (eB (k+3) kb b live (q+1) s _) _;rw [eB.eq_2,bH U,cf];unfold rH;rw [r64 U U,g1,QF];exact hk
 unfold qP;rw [hlive,bs,iv.eq_2,bG U,ct];refine pass _ 0 U [] (by simp) tf (fun _=>J) _ ?_;rw [iv.eq_2,bG U,ct];refine pass _ (0+1) U _ (by simp;omega) BJ (fun _=>J) _ ?_;rw [iv.eq_2,bH U,cf,QH];have:=fin (ln live) (by unfold ln;rw [QC];omega);exact this
theorem F5: ∀(i:Nat) (l:List Qn),pick (fun i v=> !lH 11 i&&bU v) i l=bn l
 |_,[]=>rfl
 | i,v::l=>by
  have h1:lH 11 i=false:=by unfold lH;rw [eJ U,eJ U];rfl
  have h2:bn (v::l)=(bif bU v then [v.N] else [])++bn l:=by
   unfold bn;rw [List.filter_cons];cases bU v<;>rfl
  rw [la,F5 (i+1) l,h1,h2];rfl
theorem LT (N:Nat)(hN:6500<N){m:Qg}{roots:List Qn}(hs:Small m roots)(ht:Wtd m roots)(hw:W64 m)(hr: ∀v∈roots,in64 v.N):sM N m roots=some (iF N m roots):=by
 have hle:=ht.le;have hcnt:=ht.cnt;have h3:=hs.roots
 have hall:(m.Young++m.Old).length<=600:=by rw [QC];exact hcnt
 have hwt:wt (m.Young++m.Old)=wt m.Young+wt m.Old:=yv _ _
 have a64: ∀x∈(m.Young++m.Old).flatMap bI,in64 x:=fun x hx=>by
  obtain ⟨c,hc,hx⟩:=List.mem_flatMap.1 hx;obtain ⟨⟨-,g1⟩, -,g2⟩:=o8 hs hw hc;exact (List.mem_append.1 hx).elim (g1 x) (g2 x)
 have r64': ∀x∈bn roots,in64 x:=fun x hx=>by
  obtain ⟨v,h1, -,rfl⟩:=uA.1 hx;exact hr v h1
 have hal:(bn roots).length<=roots.length:=by
  unfold bn;rw [QE];exact List.length_filter_le _ _
 have hfl: ∀i,((((m.Young++m.Old).take i).flatMap bI).length)<=2*(wt m.Young+wt m.Old):=fun i=>by
  have h1:=xb ((m.Young++m.Old).take i);have h2:=yv ((m.Young++m.Old).take i) ((m.Young++m.Old).drop i);rw [List.take_append_drop] at h2;omega
 have last:py N m (bn roots++(m.Young++m.Old).flatMap bI)=some (bif bZ m ((m.Young++m.Old).flatMap bI++bn roots) then 0 else 50):=by
  have hl:=hfl (m.Young++m.Old).length;rw [QF] at hl;unfold py;rw [lg (fun k i=>mY N (bn roots++(m.Young++m.Old).flatMap bI) m k i) (bn roots++(m.Young++m.Old).flatMap bI) (bp m) (some 50) (some 0) (fun k i h=> ?_) (fun k=> ?_) N (by rw [QC];omega)]
  ·unfold bZ;rw [List.all_append,List.all_append,Bool.and_comm];cases ((m.Young++m.Old).flatMap bI).all (bp m)&&(bn roots).all (bp m)<;>rfl
  ·have h6:in64 (bn roots++(m.Young++m.Old).flatMap bI)[i]:=(List.mem_append.1 (QI h)).elim (r64' _) (a64 _);rw [QC] at h;rw [mY.eq_2,bG (by rw [QC];omega),ct,aC (by rw [QC];omega),bs,vq N m _ h6,bs,r64 U U];cases bp m (bn roots++(m.Young++m.Old).flatMap bI)[i]<;>rfl
  show mY N _ m (k+1) _=_;rw [mY.eq_2,bH U,cf];rfl
 have mid:pz N roots m=some (bif bZ m ((m.Young++m.Old).flatMap bI++bn roots) then 0 else 50):=by
  unfold pz;rw [my N U _ (by simp) (by show roots.length<=1000;omega),bs]
  have e0:bC (⟨11,0,0,0,[],roots⟩:Ql)=bn roots:=by
   unfold bC;exact F5 0 roots
  rw [e0];apply Sat.eq;refine bA (fun k i (s:List Int)=>kX N m k s (i:Int)) (m.Young++m.Old).length (fun i s=>s=bn roots++((m.Young++m.Old).take i).flatMap bI) _ ?_ ?_ N 0 _ U U (by simp)
  ·rintro k i s hi h1 go;show Sat (kX N m (k+1) s (i:Int)) _;have hm:=QI hi;have hc:=hs.cells _ hm;have e1:=eH (m.Young++m.Old)[i];have e2:=iN (m.Young++m.Old)[i]
   have hsl:s.length<=7000:=by have:=hfl i;rw [h1,QC];omega
   rw [kX.eq_2];simp only [QH];rw [bG U,ct,aC hi];simp only [bs];rw [my N U _ U U,bs,rF U,rp N U _ U,bs,rF (by rw [QC];omega),r64 U U];refine go _ ?_;rw [aB hi,List.flatMap_append,h1];simp [bI,Qv]
  rintro k s h1;show Sat (kX N m (k+1) s _) _;rw [kX.eq_2];simp only [QH];rw [bH U,cf,h1,QF];exact MC last J
 unfold sM iF;rw [rF (by simp;omega),rF (by simp;omega)];rw [lg (fun k i=>mZ N roots m k i) (m.Young++m.Old) (mN N) (some 51) (some (bif bZ m ((m.Young++m.Old).flatMap bI++bn roots) then 0 else 50)) (fun k i h=> ?_) (fun k=> ?_) N U]
 ·cases (m.Young++m.Old).all (mN N)<;>rfl
 ·have hc:=hs.cells _ (QI h);obtain ⟨b,hb, -⟩:=rj N U (m.Young++m.Old)[i] U U
  have hrc:mN N (m.Young++m.Old)[i]=b:=by unfold mN;rw [hb];rfl
  rw [mZ.eq_2];simp only [QH];rw [bG U,ct,aC h,bs,hb,bs,r64 U U,hrc];cases b<;>rfl
 show mZ N roots m (k+1) _=_;rw [mZ.eq_2];simp only [QH];rw [bH U,cf,mid]
theorem GG (N:Nat)(l:List Int)(c:Ql):(kC N l c).Kind=c.Kind:=by
 unfold kC;cases nL N c<;>rfl
theorem EC (N:Nat)(hN:6500<N){m:Qg}{roots:List Qn}(hs:Small m roots)(ht:Wtd m roots)(hw:W64 m)(hr: ∀v∈roots,in64 v.N){live f:List Int}(hl:Live N m roots live f):na N m roots=some (yt N m roots live f):=by
 apply Sat.eq;have hle:=ht.le;have hlen:=hl.small;have hfl:=hl.len;unfold na yt;rw [LT N hN hs ht hw hr,bs];by_cases h0: ¬iF N m roots=0
 ·rw [eJ h0];exact aA J
 replace h0:iF N m roots=0:=by omega
 rw [kB h0];simp only [nt,cf,ct];obtain ⟨c1,c2,c3⟩:=AT h0;obtain ⟨_,_,_,hlv,hff⟩:=hl.ord;obtain ⟨⟨f',to⟩,hp,e1,hev⟩:=JR N hN hl.ref U;simp only at e1 hev;rw [<-hff] at e1 hev;subst e1;rw [hp,bs,hl.ref,bs]
 have hG: ∀a∈f',(iq N live (bK m a)).Slots.length<=600/\(iq N live (bK m a)).More.length<=600:=fun a ha=>by
  have h1:=mF N live (bK m a);have h2:=hs.at_ a;omega
 refine bA (fun k i (s:List Qn×List Ql)=>dC N roots (f',to) m k live s.1 (i:Int) s.2) f'.length (fun i s=>s.2=(f'.take i).map (fun a=>iC (o6 f') f' (iq N live (bK m a)))/\s.1=(f'.take i).flatMap fun a=>dG live (bK m a)) _ ?_ ?_ N 0 ([],[]) U U ⟨by simp,by simp⟩
 ·rintro k i ⟨q,p⟩ hi ⟨h1,h2⟩ go;simp only at h1 h2;show Sat (dC N roots (f',to) m (k+1) live q (i:Int) p) _;have ham:f'[i]∈f':=QI hi
  have hpl:p.length<=2000:=by rw [h1,QE,QD];omega
  have hql:q.length<=2900:=by have:=rf hl i;rw [h2];omega
  have hq2:=rf hl (i+1);have hat:=FI N m f'[i] (vm hs (hl.fhas ham));have hsm:=hs.at_ f'[i];have hrt:=c1 _ (tq (hl.fhas ham));have hc:=hG _ ham;rw [aB hi,List.flatMap_append, <-h2,QC] at hq2;simp only [List.flatMap_cons,List.flatMap_nil,List.append_nil] at hq2
  -- the last part
  have last:Sat (kI N (dC N roots (f',to) m k) (i:Int) roots (f',to) live m p (q++dG live (bK m f'[i])) (iq N live (bK m f'[i])).Kind (iq N live (bK m f'[i])).Shape (iq N live (bK m f'[i])).Flags (iq N live (bK m f'[i])).Age (iq N live (bK m f'[i])).Slots (iq N live (bK m f'[i])).More) (· =yt N m roots live f'):=by
   unfold kI;rw [Ga N hN f' to U hev _ (by show (iq N live (bK m f'[i])).Slots.length<=4000;omega) (by show (iq N live (bK m f'[i])).More.length<=4000;omega),bs,rF (by simp;omega),r64 U U];unfold yt;rw [kB h0];refine go (_,_) ⟨?_,?_⟩
   ·rw [aB hi,List.map_append, <-h1];rfl
   rw [aB hi,List.flatMap_append, <-h2];simp
  rw [dC.eq_2,bG (by show (i:Int)<(f'.length:Int);omega),ct,aC hi,bs,hat,bs];unfold yt at last;rw [kB h0] at last;unfold iq dG at last;unfold dG at hq2;by_cases h8:(bK m f'[i]).Kind=8
  ·have hwm:nL N (bK m f'[i])=true:=by unfold nL;rw [Qs h8];exact hrt
   rw [kB h8,ct,EE N hN live U _ hsm.1 hsm.2,bs,hwm,ct];rw [Qs h8,Qt (p:=(bK m f'[i]).Kind=10) U] at last;simp only [cond_true,cond_false,List.append_nil] at last;unfold kJ;rw [eJ (by rw [GG];omega),cf];exact last
  rw [eJ h8,cf];unfold kJ;by_cases h10:(bK m f'[i]).Kind=10
  ·have hwm:wU N (bK m f'[i])=true:=by unfold wU;rw [Qs h10];exact hrt
   rw [kB h10,ct,z6 N hN live U _ hsm.1 hsm.2,bs,hwm,ct];rw [Qs h10] at hq2;rw [Qt h8,Qs h10] at last;simp only [cond_true,cond_false] at last hq2;rw [rF U];exact last
  rw [eJ h10,cf];rw [Qt h8,Qt h10] at last;simp only [cond_true,cond_false,List.append_nil] at last;exact last
 rintro k ⟨q,p⟩ ⟨h1,h2⟩;simp only at h1 h2;show Sat (dC N roots (f',to) m (k+1) live q _ p) _;rw [QF] at h1 h2;have hrl:=hs.roots
 have hql:q.length<=2900:=by have:=rf hl f'.length;rw [QF] at this;rw [h2];omega
 rw [dC.eq_2,bH (by show (f'.length:Int)<=_;omega),cf];unfold qz;rw [FP N hN f' to U hev roots U,bs,FP N hN f' to U hev q U,bs];refine aA ?_;unfold Dk;rw [h1,h2]
theorem KO (N:Nat){m:Qg}{roots:List Qn}(hs:Small m roots){a:Int}(ha:bp m a=true):qb N m a=some (bK m a):=by
 have hy:=hs.young;have ho:=hs.old;unfold qb;rw [Ml N m a (vm hs ha),bs,ha,nt,cf,xn,bs];rcases il ha with ⟨i,hi,rfl⟩|⟨i,hi,rfl⟩
 ·rw [Ca,ct,sC U,show (2*(i:Int)+1) / 2=i by omega,r64 U U,yu m i hi,aC hi,bs]
 rw [xo,cf,sC U,show (2*(i:Int)+2) / 2=(i:Int)+1 by omega,r64 U U,r64 U U,show (i:Int)+1 - 1=i by omega,nl m i hi,aC hi,bs]
theorem HW (N:Nat)(l:List Int)(hl:l.length<N)(h2:l.length<=5000):pY N l=some (l.any yB):=by
 have h:=qo (fun k i=>(kk N l k i).map not) l (fun x=> !yB x) (fun k i hi=> ?_) (fun k=> ?_) N hl
 ·unfold pY
  have e:(l.all fun x=> !yB x)=!l.any yB:=by
   induction l with
   |nil=>rfl
   |cons a l ih=>rw [List.all_cons,List.any_cons];simp [List.all_eq_not_any_not]
  rw [e] at h
  cases hv:kk N l N 0 with
  |none=>simp only [hv] at h;cases h
  |some b=>simp only [hv] at h;have:=Option.some.inj h;cases b<;>cases hq:l.any yB<;>simp_all
 ·show (kk N l _ _).map not=_;rw [kk.eq_2,bG U,ct,aC hi,bs,xn,bs,r64 U U];cases yB l[i]<;>rfl
 show (kk N l _ _).map not=_;rw [kk.eq_2,bH U,cf];rfl
theorem Ke (N:Nat)(hN:6500<N){m:Qg}{roots:List Qn}(hs:Small m roots)(hw:W64 m)(hr: ∀v∈roots,in64 v.N){kept:List Int}(hkl:kept.length<=1200)(hk:nK m kept=true)(ho:ql m kept=true):uf N m roots kept=some (BL N m roots kept):=by
 have h2:=hs.old
 have k1: ∀x∈kept,bp m x=true/\yB x=false:=fun x hx=>vj hk hx
 have k2:kept.Pairwise (· < ·):=by
  unfold nK at hk;rw [QG,decide_eq_true_eq] at hk;exact hk.2
 have olds:sR N kept m=some true:=by
  unfold sR;have hlr:(List.range m.Old.length).length=m.Old.length:=List.length_range;have:=qo (fun k i=>sQ N kept m k i) (List.range m.Old.length) (fun i=> !(bI (bK m (2*(i:Int)+2))).any yB||decide ((2*(i:Int)+2)∈kept)) (fun k i h=> ?_) (fun k=> ?_) N U
  ·rw [this];exact congrArg some ho
  ·rw [hlr] at h;have hm:m.Old[i]∈m.Young++m.Old:=Qx _ (QI _);have hc:=hs.cells _ hm;have q1:=eH m.Old[i];have q2:=iN m.Old[i];rw [sQ.eq_2,bG U,ct,aC h,bs,my N U _ U U,bs,HW N _ U U,bs,rp N U _ U,bs,HW N _ U U,bs,r64 (a:=2*(i:Int)) U U,r64 (a:=2*(i:Int)+2) U U,Kl N hN kept U,bs,r64 U U,List.getElem_range,nl m i h];unfold bI;rw [List.any_append];cases (bC m.Old[i]).any yB<;>cases (db m.Old[i]).any yB<;>cases decide ((2*(i:Int)+2)∈kept)<;>rfl
  rw [hlr,sQ.eq_2,bH U,cf];rfl
 have keptL:qa N kept m N 0=some true:=by
  have:=lg (fun k i=>qa N kept m k i) kept (fun _=>true) (some false) (some true) (fun k i h=> ?_) (fun k=> ?_) N U
  ·rw [this]
   have e:(kept.all fun _=>true)=true:=List.all_eq_true.2 fun _ _=>rfl
   rw [e];rfl
  ·have hy:=(k1 _ (QI h)).2;rw [qa.eq_2,bG U,ct,aC h];simp only [bs];rw [xn,bs,hy,cf,r64 (a:=(i:Int)+1) U U];by_cases h0:i=0
   ·subst h0;rw [bH (a:=0) (b:=((0:Nat):Int)) U];rfl
   have hp:aw kept ((i:Int) - 1)=some kept[i - 1]:=by
    have:=aC (xs:=kept) (i:=i - 1) U
    rwa [show (((i - 1:Nat)):Int)=(i:Int) - 1 by omega] at this
   have hlt:kept[i - 1]<kept[i]:=List.pairwise_iff_getElem.1 k2 (i - 1) i U h U;rw [bG (a:=0) (b:=(i:Int)) U,ct,r64 (a:=(i:Int) - 1) U U,hp];simp only [bs];rw [I8 hlt];rfl
  rw [qa.eq_2,bH U,cf];exact olds
 have hwk:bZ m kept=true:=List.all_eq_true.2 fun x hx=>(k1 x hx).1
 unfold uf BL;rw [MY N hN hs hw hr,bs,BU N m kept U U (fun x hx=>vm hs (k1 x hx).1),bs,hwk,keptL,hk,ho];unfold Df;cases bZ m (bn roots)<;>cases wb N m<;>rfl
theorem Fj (N:Nat)(hN:6500<N)(met l:List Int)(hl:met.length+l.length<=5000):lP N met l=some (dg yB met l):=by
 apply Sat.eq;unfold lP;refine bA (fun k i (s:List Int)=>gP N l k s (i:Int)) l.length (fun i s=>s=dg yB met (l.take i)/\s.length<=met.length+i) _ ?_ ?_ N 0 met U U ⟨J,by omega⟩
 ·rintro k i s hi ⟨h1,h2⟩ go;show Sat (gP N l (k+1) s (i:Int)) _
  have hn:dg yB met (l.take (i+1))=bif yB l[i]&& !decide (l[i]∈s) then s++ [l[i]] else s:=by
   rw [aB hi,oN, <-h1];rfl
  rw [gP.eq_2,bG U,ct,aC hi];simp only [bs];rw [xn,bs,Kl N hN s U];simp only [bs];unfold pX;rw [rF (by simp;omega),r64 U U,r64 U U];cases hy:yB l[i]
  ·rw [hy] at hn;exact go s ⟨hn.symm,by omega⟩
  rw [hy] at hn;cases hd:decide (l[i]∈s)
  ·rw [hd] at hn;exact go (s++ [l[i]]) ⟨hn.symm,by simp;omega⟩
  rw [hd] at hn;exact go s ⟨hn.symm,by omega⟩
 rintro k s ⟨h1, -⟩;show Sat (gP N l (k+1) s _) _;rw [gP.eq_2,bH U,cf];rw [QF] at h1;exact aA h1
theorem Kn (N:Nat){m:Qg}(met:List Int)(ho:m.Old.length<=600)(hN:6500<N)(hm:met.length<=5000):rL N m met=some (bz m.Old.length++met):=by
 apply Sat.eq;unfold rL;refine bA (fun k i (s:List Int)=>nQ N met m k s (i:Int)) m.Old.length (fun i s=>s=bz i) _ ?_ ?_ N 0 [] U U J
 ·rintro k i s hi rfl go;show Sat (nQ N met m (k+1) (bz i) (i:Int)) _
  have hev:(bz i).length=i:=by unfold bz;simp
  rw [nQ.eq_2,bG U,ct,r64 U U,r64 U U,rF (by simp;omega),r64 U U];refine go _ ?_;unfold bz;rw [List.range_succ,List.map_append];rfl
 rintro k s rfl;show Sat (nQ N met m (k+1) _ _) _
 have hev:(bz m.Old.length).length=m.Old.length:=by unfold bz;simp
 rw [nQ.eq_2,bH U,cf];unfold ws;rw [rF U];exact aA J
structure Mq (m:Qg) (met:List Int):Prop where
 nd:met.Nodup
 yng: ∀x∈met,yB x=true
 has: ∀x∈met,bp m x=true
theorem Mq.len {m:Qg}{roots:List Qn}(hs:Small m roots){met:List Int}(h:Mq m met):met.length<=1200:=wI 1200 h.nd fun x hx=>⟨by have:=qp (h.has x hx);omega,by have:=vt hs (h.has x hx);omega⟩
theorem Mq.lay {m:Qg}{met:List Int}(h:Mq m met)(l:List Int)(hh: ∀x∈l,yB x=true->bp m x=true):Mq m (dg yB met l):=
 ⟨nJ l h.nd,fun x hx=>(ur hx).elim (h.yng x) (·.1),fun x hx=>(ur hx).elim (h.has x) fun ⟨h1,h2⟩=>hh x h2 h1⟩
section
variable {N:Nat} {m:Qg} {roots:List Qn} {kept:List Int} (hN:6500<N) (hs:Small m roots) (hw:Whole m) (hk: ∀x∈kept,bp m x=true) (hkl:kept.length<=1200)
include hN hs hw
theorem Iv (kb:List Int->Int->Option Qq)(R:List Int->Prop){row:List Int}(h:Mq m row)(k:Nat)(hk:k<=row.length)(go: ∀r,Mq m r->Thr (xU N m) row k r->Sat (ox N kb kept m r (r.length:Int)) R):Sat (mq N kb kept m N row (k:Int)) R:=by
 refine ma (fun f (s:List Int×Nat)=>mq N kb kept m f s.1 (s.2:Int)) (fun s=>1300 - s.2) (fun s=>Mq m s.1/\s.2<=s.1.length/\ ∀r,Thr (xU N m) s.1 s.2 r->Thr (xU N m) row k r) _ ?_ N (row,k) (by show 1300 - k<N;omega) ⟨h,hk,fun _ h=>h⟩;rintro f ⟨mt,j⟩ ⟨h1,h3,h4⟩ go2;show Sat (mq N kb kept m (f+1) mt (j:Int)) _;simp only at h1 h3 h4;have hlen:=h1.len hs;rw [mq.eq_2];by_cases hj:j<mt.length
 ·have hh:=h1.has _ (QI hj);have hsm:=hs.at_ mt[j];have hll:=eH (bK m mt[j])
  have hM:=h1.lay (bC (bK m mt[j])) fun x hx _=>hw.leads hh x hx
  rw [bG U,ct,aC hj,bs,KO N hs hh,bs,my N U _ U U,bs,Fj N hN _ _ U,bs,r64 U U]
  have hge:mt.length<=(dg yB mt (bC (bK m mt[j]))).length:=by
   obtain ⟨t,e, -⟩:=gm yB mt (bC (bK m mt[j]));rw [e,QC];omega
  exact go2 (dg yB mt (bC (bK m mt[j])),j+1) (by show 1300 - (j+1)<1300 - j;omega) ⟨hM,by show j+1<=(dg yB mt (bC (bK m mt[j]))).length;omega,fun r hr=>h4 r (.step (List.getElem?_eq_getElem hj) hr)⟩
 have:j=mt.length:=by omega
 subst this;rw [bH U,cf];exact go mt h1 (h4 _ (.done (Nat.le_refl _)))
include hk hkl
theorem ME (kb:List Int->Int->Option Qq)(R:List Int->Prop){row:List Int}(h:Mq m row)(p:Int)
  (go:Mq m (mK (xU N m) (bz m.Old.length++row) row (kept++row))->Sat (bif decide (((mK (xU N m) (bz m.Old.length++row) row (kept++row)).length:Int)=(row.length:Int)) then some row else kb (mK (xU N m) (bz m.Old.length++row) row (kept++row)) p) R):Sat (ox N kb kept m row p) R:=by
 have hlen:=h.len hs;have ho:=hs.old
 have hev:(bz m.Old.length).length=m.Old.length:=by unfold bz;simp
 unfold ox;rw [Kn N row ho hN U,bs]
 have hL:(bz m.Old.length++row).length<=5000:=by rw [QC];omega
 generalize hlv:bz m.Old.length++row=live at*;have hC:(kept++row).length=kept.length+row.length:=QC
 have hcm: ∀x∈kept++row,bp m x=true:=fun x hx=>(List.mem_append.1 hx).elim (hk x) (h.has x)
 refine bA (fun k i (s:List Int)=>gw N kb p kept live row m k s (i:Int)) (kept++row).length (fun i s=>Mq m s/\s=mK (xU N m) live row ((kept++row).take i)) _ ?_ ?_ N 0 row U U ⟨h,J⟩
 ·rintro k i s hi ⟨h1,h2⟩ go2;show Sat (gw N kb p kept live row m (k+1) s (i:Int)) _;have hsl:=h1.len hs
  have ht:List.take row.length s=row:=by
   obtain ⟨t,e⟩:=nT (xU N m) live row ((kept++row).take i);rw [h2,e];exact List.take_left
  have hh:=hcm _ (QI hi);have hsm:=hs.at_ (kept++row)[i];have hol:=yE N (bK m (kept++row)[i]) live
  have hM:=h1.lay (dJ N (bK m (kept++row)[i]) live) fun x hx _=>hw.opens hh x hx
  have body:Sat (ov N kb (gw N kb p kept live row m k) p (i:Int) kept live s row m (kept++row)[i]) R:=by
   unfold ov;rw [KO N hs hh,bs,D5 N hN live U _ U U,bs,Fj N hN _ _ U,bs,r64 U U];refine go2 _ ⟨hM,?_⟩;rw [aB hi,AE, <-h2];rfl
  rw [gw.eq_2,ht,r64 U U,bG U,ct];by_cases hy:i<kept.length
  ·have e:(kept++row)[i]=kept[i]:=List.getElem_append_left hy;rw [e] at body;rw [bG U,ct,aC hy,bs];exact body
  have hi2:i - kept.length<row.length:=by omega
  have e:(kept++row)[i]=row[i - kept.length]:=List.getElem_append_right U;rw [e] at body;rw [bH U,cf,r64 U U,show (i:Int) - (kept.length:Int)=((i - kept.length:Nat):Int) by omega,aC hi2,bs];exact body
 rintro k s ⟨h1,h2⟩;have hsl:=h1.len hs;rw [QF] at h2;subst h2
 have ht:List.take row.length (mK (xU N m) live row (kept++row))=row:=by
  obtain ⟨t,e⟩:=nT (xU N m) live row (kept++row);rw [e];exact List.take_left
 show Sat (gw N kb p kept live row m (k+1) _ _) _;rw [gw.eq_2,ht,r64 U U,bH U,cf];unfold uP;rw [ht];exact go h1
end
theorem MT {N:Nat}{m:Qg}{roots:List Qn}{kept met:List Int}(h:MinCtx N m roots kept met):rK N m roots kept=some met:=by
 have hN:=h.big;have hs:=h.small;have hw:=h.whole;have hrl:=hs.roots;obtain ⟨-,hkok,hoo⟩:=wN h.may
 have hk: ∀x∈kept,bp m x=true:=fun x hx=>(vj hkok hx).1
 have hkl:=h.klen
 have hal:(bn roots).length<=roots.length:=by
  unfold bn;rw [QE];exact List.length_filter_le _ _
 have hrh: ∀x∈bn roots,bp m x=true:=h.rootsH
 suffices hS:Sat (rK N m roots kept) fun r=> ∃b,IsMinor (xU N m) (bz m.Old.length) kept (tv m roots kept) b r by
  obtain ⟨r,e,b,h1⟩:=hS;obtain ⟨b',h2⟩:=h.isM;rw [e,h1.det h2]
 -- the passes
 have passes: ∀row:List Int,Mq m row->row=dg yB [] (tv m roots kept)->Sat (d8 N kept m N row 0) fun r=> ∃b,IsMinor (xU N m) (bz m.Old.length) kept (tv m roots kept) b r:=by
  intro row hq hrow;refine ma (fun f (s:List Int×Nat)=>d8 N kept m f s.1 (s.2:Int)) (fun s=>1300 - s.1.length) (fun s=>Mq m s.1/\s.2<=s.1.length/\ ∀b r,Thr (xU N m) s.1 s.2 b->MOrd (xU N m) (bz m.Old.length) kept b r-> ∃b,IsMinor (xU N m) (bz m.Old.length) kept (tv m roots kept) b r) _ ?_ N (row,0) (by show 1300 - row.length<N;omega) ⟨hq,Nat.zero_le _,fun b r h1 h2=>⟨b,by have h3:Thr (xU N m) row 0 b:=h1;rw [hrow] at h3;exact h3,h2⟩⟩;rintro f ⟨mt,j⟩ ⟨h1,h3,h4⟩ go;show Sat (d8 N kept m (f+1) mt (j:Int)) _;simp only at h1 h3 h4;rw [d8.eq_2]
  refine Iv hN hs hw _ _ h1 j h3 fun b hb ht=> ?_
  have hbl:=hb.len hs
  refine ME hN hs hw hk hkl _ _ hb _ fun hp=> ?_
  have hpl:=hp.len hs;obtain ⟨t,e⟩:=nT (xU N m) (bz m.Old.length++b) b (kept++b)
  refine dy (fun he=> ?_) fun hne=> ?_
  ·have h0:t=[]:=List.eq_nil_of_length_eq_zero (by rw [e,QC] at he;omega);exact aA (h4 b b ht (.done (by rw [e,h0,List.append_nil])))
  obtain ⟨t2,e2⟩:=ht.app;refine go (_,b.length) ?_ ⟨hp,?_,fun b' r h5 h6=>h4 b r ht (.step (fun q=>hne (by rw [q])) h5 h6)⟩
  ·show 1300 - (mK (xU N m) (bz m.Old.length++b) b (kept++b)).length<1300 - mt.length
   have:mt.length<=b.length:=by rw [e2,QC];omega
   rw [e,QC] at hne hpl⊢;omega
  show b.length<=(mK (xU N m) (bz m.Old.length++b) b (kept++b)).length;rw [e,QC];omega
 -- the kept cells
 have keptL: ∀row:List Int,Mq m row->row=dg yB [] (bn roots)->Sat (kl N kept m N row 0) fun r=> ∃b,IsMinor (xU N m) (bz m.Old.length) kept (tv m roots kept) b r:=by
  intro row hq hrow;refine bA (fun k i (s:List Int)=>kl N kept m k s (i:Int)) kept.length (fun i s=>Mq m s/\s=dg yB [] (bn roots++(kept.take i).flatMap fun a=>bC (bK m a))) _ ?_ ?_ N 0 row U U ⟨hq,by simpa using hrow⟩
  ·rintro k i s hi ⟨h1,h2⟩ go;show Sat (kl N kept m (k+1) s (i:Int)) _;have hlen:=h1.len hs;have hh:=hk _ (QI hi);have hsm:=hs.at_ kept[i];have hll:=eH (bK m kept[i])
   have hM:=h1.lay (bC (bK m kept[i])) fun x hx _=>hw.leads hh x hx
   rw [kl.eq_2,bG U,ct,aC hi,bs,KO N hs hh,bs,my N U _ U U,bs,Fj N hN _ _ U,bs,r64 U U];refine go _ ⟨hM,?_⟩;rw [aB hi,List.flatMap_append, <-Qv,oN, <-h2];simp
  rintro k s ⟨h1,h2⟩;rw [QF] at h2;show Sat (kl N kept m (k+1) s _) _;rw [kl.eq_2,bH U,cf];unfold uQ;exact passes s h1 h2
 unfold rK;rw [Ke N hN hs h.w64 h.r64 hkl hkok hoo,h.may,bs,nt,cf,HK N roots U U,bs,Fj N hN _ _ (by simp;omega),bs];have h0:Mq m ([]:List Int):=⟨List.nodup_nil,by simp,by simp⟩;exact keptL _ (h0.lay (bn roots) fun x hx _=>hrh x hx) J
end
section
open Go.RowKit
theorem Gb (N:Nat)(hN:6500<N)(f to:List Int)(hf:f.length<=1200)(ht:to.length=f.length)(v:Qn):lU N v f to=some (bX (qO f to) f v):=by
 have key: ∀(m i:Nat),f.length<m+i->i<=f.length->iW N f to v m (i:Int)=some (bif decide (v.N∈f.drop i) then ⟨v.Kind,to.getD (i+(f.drop i).idxOf v.N) 0,v.S⟩ else v):=by
  intro m
  induction m with
  |zero=>intro i h h2;omega
  | succ m ih=>
   intro i h h2;rw [iW.eq_2];by_cases hi:i<f.length
   ·have h3:=ih (i+1) U hi;rw [show (((i+1:Nat)):Int)=(i:Int)+1 by omega] at h3;rw [bG U,ct,aC hi,bs,List.drop_eq_getElem_cons hi,List.idxOf_cons];by_cases e:f[i]=v.N
    ·have hti:i<to.length:=by omega
     have hto:to.getD i 0=to[i]:=by simp [List.getD,hti]
     rw [kB e,ct,bG U,ct,aC hti,bs,Qs (by rw [e];simp),ct,beq_iff_eq.2 e,ct,Nat.add_zero,hto];rfl
    rw [eJ e,cf,r64 U U,h3,beq_eq_false_iff_ne.2 e,cf];by_cases hm:v.N∈f.drop (i+1)
    ·rw [Qs hm,Qs (List.mem_cons_of_mem _ hm),ct,ct,show i+1+(f.drop (i+1)).idxOf v.N=i+((f.drop (i+1)).idxOf v.N+1) by omega]
    rw [Qt hm,Qt (fun h=>(List.mem_cons.1 h).elim (fun h=>e h.symm) hm),cf,cf]
   rw [bH U,cf,List.drop_eq_nil_of_le U];unfold qY;simp
 have h0:=key N 0 U U;unfold lU bX qO;rw [oh,bs];cases bU v
 ·rfl
 rw [nt,cf];rw [List.drop_zero,Nat.zero_add] at h0;rw [show ((0:Nat):Int)=0 from rfl] at h0;rw [h0,Bool.true_and];by_cases hm:v.N∈f
 ·rw [Qs hm,ct,ct,if_pos hm]
 rw [Qt hm,cf,cf]
theorem I1 (N:Nat)(hN:6500<N)(f to:List Int)(hf:f.length<=1200)(ht:to.length=f.length)(c:Ql)(hS:c.Slots.length<=4000)(hc:c.More.length<=4000):fL N c f to=some (iC (qO f to) f c):=by
 apply Sat.eq
 have more: ∀p:List Qn,Sat (mx N f to c p) (· =⟨c.Kind,c.Shape,c.Flags,c.Age,p,c.More.map (bX (qO f to) f)⟩):=fun p=>by
  unfold mx;refine bA (fun k i (s:List Qn)=>fz N f to c p k (i:Int) s) c.More.length (fun i s=>s=(c.More.take i).map (bX (qO f to) f)) _ ?_ ?_ N 0 [] U U J
  ·rintro k i s hi h1 go;show Sat (fz N f to c p (k+1) (i:Int) s) _
   have hsl:s.length<=i:=by rw [h1,QE,QD];omega
   rw [fz.eq_2,bG U,ct,aC hi,bs,Gb N hN f to hf ht,bs,rF (by simp;omega),r64 U U];exact go _ (by rw [aB hi,List.map_append,h1];rfl)
  rintro k s h1;show Sat (fz N f to c p (k+1) _ s) _;rw [fz.eq_2,bH U,cf];unfold pH;exact aA (by rw [h1,QF])
 unfold fL;refine bA (fun k i (s:List Qn)=>fA N f to c k (i:Int) s) c.Slots.length (fun i s=>s=(c.Slots.take i).map (bX (qO f to) f)) _ ?_ ?_ N 0 [] U U J
 ·rintro k i s hi h1 go;show Sat (fA N f to c (k+1) (i:Int) s) _
  have hsl:s.length<=i:=by rw [h1,QE,QD];omega
  rw [fA.eq_2,bG U,ct,aC hi,bs,Gb N hN f to hf ht,bs,rF (by simp;omega),r64 U U];exact go _ (by rw [aB hi,List.map_append,h1];rfl)
 rintro k s h1;show Sat (fA N f to c (k+1) _ s) _;rw [fA.eq_2,bH U,cf,h1,QF];exact more _
theorem Eg (v:Qn):((bif decide (v.Kind=7) then (some true) else (some (decide (v.Kind=9)))):Option Bool)=some (bU v):=by
 unfold bU;cases decide (v.Kind=7)<;>rfl
theorem Ln (N:Nat)(hN:6500<N)(f to:List Int)(hf:f.length<=1200)(ht:to.length=f.length)(v:Qn):sP N v f to=some (bX (qO f to) f v):=by
 have key: ∀(m i:Nat),f.length<m+i->i<=f.length->qT N f to v m (i:Int)=some (bif bU v&&decide (v.N∈f.drop i) then ⟨v.Kind,to.getD (i+(f.drop i).idxOf v.N) 0,v.S⟩ else v):=by
  intro m
  induction m with
  |zero=>intro i h h2;omega
  | succ m ih=>
   intro i h h2;rw [qT.eq_2];by_cases hi:i<f.length
   ·have h3:=ih (i+1) U hi;rw [show (((i+1:Nat)):Int)=(i:Int)+1 by omega] at h3;rw [bG U,ct,Eg,bs,List.drop_eq_getElem_cons hi,List.idxOf_cons];cases hb:bU v
    ·rfl
    rw [bs,ct,aC hi,bs];by_cases e:f[i]=v.N
    ·have hti:i<to.length:=by omega
     have hto:to.getD i 0=to[i]:=by simp [List.getD,hti]
     rw [kB e,ct,aC hti,bs,Qs (by rw [e];simp),Bool.true_and,ct,beq_iff_eq.2 e,ct,Nat.add_zero,hto]
    rw [eJ e,cf,r64 U U,h3,beq_eq_false_iff_ne.2 e,cf,hb];by_cases hm:v.N∈f.drop (i+1)
    ·rw [Qs hm,Qs (List.mem_cons_of_mem _ hm),show i+1+(f.drop (i+1)).idxOf v.N=i+((f.drop (i+1)).idxOf v.N+1) by omega]
    rw [Qt hm,Qt (fun h=>(List.mem_cons.1 h).elim (fun h=>e h.symm) hm)];rfl
   rw [bH U,cf,bs,cf,List.drop_eq_nil_of_le U];unfold uO;cases bU v<;>simp
 have h0:=key N 0 U U;rw [List.drop_zero,Nat.zero_add] at h0;rw [show ((0:Nat):Int)=0 from rfl] at h0;unfold sP bX qO;rw [h0];cases bU v
 ·rfl
 by_cases hm:v.N∈f
 ·rw [Qs hm,if_pos hm]
 rw [Qt hm];rfl
theorem Mx (N:Nat)(hN:6500<N)(f to:List Int)(hf:f.length<=1200)(ht:to.length=f.length)(l:List Qn)(hl:l.length<=5000):ui N l f to=some (l.map (bX (qO f to) f)):=by
 apply Sat.eq;unfold ui;refine bA (fun k i (s:List Qn)=>pe N l f to k s (i:Int)) l.length (fun i s=>s=(l.take i).map (bX (qO f to) f)) _ ?_ ?_ N 0 [] U U J
 ·rintro k i s hi h1 go;show Sat (pe N l f to (k+1) s (i:Int)) _
  have hsl:s.length<=i:=by rw [h1,QE,QD];omega
  rw [pe.eq_2,bG U,ct,aC hi,bs,Ln N hN f to hf ht,bs,rF (by simp;omega),r64 U U];exact go _ (by rw [aB hi,List.map_append,h1];rfl)
 rintro k s h1;show Sat (pe N l f to (k+1) s _) _;rw [pe.eq_2,bH U,cf,h1,QF];exact aA J
theorem ED (N:Nat)(hN:6500<N){lv f:List Int}{c:Ql}(h:CellOk N lv f c)(hl:lv.length<=5000):nb N c lv=some (iq N lv c,dG lv c):=by
 unfold nb;by_cases h8:c.Kind=8
 ·rw [Qs h8,ct,EE N hN lv hl c h.slots h.more,h.wm,Qs h8,ct,bs];unfold iq dG;rw [Qs h8,Qt (p:=c.Kind=10) U,cond_true,cond_false]
 rw [Qt h8,cf];by_cases h10:c.Kind=10
 ·have e1:iq N lv c=(pw lv c).1:=by unfold iq;rw [Qt h8,Qs h10];rfl
  have e2:dG lv c=(pw lv c).2:=by unfold dG;rw [Qs h10];rfl
  rw [Qs h10,ct,z6 N hN lv hl c h.slots h.more,h.fr,Qs h10,ct,bs, <-e1, <-e2]
 rw [Qt h10,cf,CellOk.clC0 h8 h10];unfold dG;rw [Qt h10,cond_false]
section
variable {N:Nat} {m:Qg} {roots:List Qn} {kept met:List Int} (h:MinCtx N m roots kept met)
include h
theorem JS:qS N m roots kept=some (met,vQ m met):=by
 have hN:=h.big;have hs:=h.small;have hml:=h.mlen;have ho:=hs.old;obtain ⟨-, -,hhas⟩:=h.mt;apply Sat.eq;unfold qS vQ;rw [MT h,bs];refine bA (fun k i (s:List Int×Nat×Nat)=>fK N met m k s.1 (s.2.1:Int) (s.2.2:Int) (i:Int)) met.length (fun i s=>s.1=qk (dk m) (met.take i) 0 m.Old.length/\s.2.1=((met.take i).filter (dk m)).length/\s.2.2=m.Old.length+((met.take i).filter fun a=> !dk m a).length) _ ?_ ?_ N 0 ([],0,m.Old.length) (by show met.length<N+0;omega) U ⟨J,J,J⟩
 ·rintro k i ⟨s,a,b⟩ hi ⟨h1,h2,h3⟩ go;simp only at h1 h2 h3;have l1:((met.take i).filter (dk m)).length<=i:=Nat.le_trans (List.length_filter_le _ _) (by rw [QD];omega);have l2:((met.take i).filter fun a=> !dk m a).length<=i:=Nat.le_trans (List.length_filter_le _ _) (by rw [QD];omega)
  have hsl:s.length=i:=by rw [h1,uk,QD];omega
  show Sat (fK N met m (k+1) s (a:Int) (b:Int) (i:Int)) _
  have hnext:qk (dk m) (met.take (i+1)) 0 m.Old.length=s++ [bif dk m met[i] then 2*(a:Int)+1 else 2*(b:Int)+2]:=by
   rw [aB hi,wE, <-h1,Nat.zero_add, <-h2, <-h3];unfold qk;cases dk m met[i]<;>rfl
  have hf1:((met.take (i+1)).filter (dk m)).length=a+(bif dk m met[i] then 1 else 0):=by
   rw [aB hi,List.filter_append,QC, <-h2];cases hb:dk m met[i]<;>simp [hb]
  have hf2:((met.take (i+1)).filter fun a=> !dk m a).length+m.Old.length=b+(bif dk m met[i] then 0 else 1):=by
   rw [aB hi,List.filter_append,QC,h3];cases hb:dk m met[i]<;>simp [hb]<;>omega
  rw [fK.eq_2,bG U,ct,aC hi,bs,KO N hs (hhas _ (QI hi)),bs];unfold ou;have e:decide ((bK m met[i]).Age=0)=dk m met[i]:=rfl;rw [e,r64 U U,r64 U U,rF (by simp;omega),r64 U U,r64 U U,r64 U U,r64 U U,rF (by simp;omega),r64 U U,r64 U U];cases hb:dk m met[i]
  ·rw [hb] at hnext hf1 hf2;rw [cf];exact go (s++ [2*(b:Int)+2],a,b+1) ⟨hnext.symm,hf1.symm,by show b+1=_;simp only [cond_false] at hf2;omega⟩
  rw [hb] at hnext hf1 hf2;rw [ct];exact go (s++ [2*(a:Int)+1],a+1,b) ⟨hnext.symm,hf1.symm,by show b=_;simp only [cond_true] at hf2;omega⟩
 rintro k ⟨s,a,b⟩ ⟨h1,h2,h3⟩;simp only [QF] at h1 h2 h3;show Sat (fK N met m (k+1) s (a:Int) (b:Int) _) _;rw [fK.eq_2,bH U,cf];exact aA (by rw [h1])
end
end
section
open Go.RowKit
def Mz (S:List Int)(c:Ql):List Qn:=bif decide (c.Kind=8) then gi (fun x=>decide (x∈S)) c.More else c.More
structure IsoC (ρ:Int->Int) (S:List Int) (c d:Ql):Prop where
 kind:d.Kind=c.Kind
 shape:d.Shape=c.Shape
 flags:d.Flags=c.Flags
 slots:d.Slots=c.Slots.map (bX ρ S)
 more:Mz (S.map ρ) d=(Mz S c).map (bX ρ S)
 inS:yT S c.Slots
 inM:yT S (Mz S c)
structure TVal (m:Qg) (R:List Qn):Prop where
 right: ∀c∈m.Young++m.Old,cY c=true
 kind: ∀c∈m.Young++m.Old,c.Kind=8\/c.Kind=11
 addr: ∀c∈m.Young++m.Old, ∀x∈bI c,bp m x=true
 size: ∀c∈m.Young++m.Old,c.Slots.length<=20/\c.More.length<=20
 roots: ∀v∈R,v=iD\/(v.Kind=9/\v.S=⟨#[]⟩/\bp m v.N=true)
structure Iso (mA mB:Qg) (RA RB:List Qn) (S:List Int) (ρ:Int->Int):Prop where
 ren:Ren ρ S
 inA: ∀a∈S,bp mA a=true
 inB: ∀a∈S,bp mB (ρ a)=true
 cell: ∀a∈S,IsoC ρ S (bK mA a) (bK mB (ρ a))
 rootIn:yT S RA
 roots:RB=RA.map (bX ρ S)
section
variable {m:Qg} {R:List Qn} (h:TVal m R)
include h
end
section
variable {mA mB:Qg} {RA RB:List Qn} {S:List Int} {ρ:Int->Int} (h:Iso mA mB RA RB S ρ) (vA:TVal mA RA) (vB:TVal mB RB)
include h vA vB
end
end
section
open Go.RowKit
structure TInv (k:Nat) (g:Qe):Prop where
 inv:HInv k g
 val:TVal g.m_ g.roots_
 pend:g.pending_=[]
 set:dv g.set_.at_=fP g.m_
def OL (l:List Qn)(i:Int):Qn:=bif decide ((l.length:Int)=0)||decide (i<0) then vZ else l.getD (i.tmod l.length).toNat vZ
def Rt (m:Qg)(v:Qn):Prop:=v=iD\/(v.Kind=9/\v.S=⟨#[]⟩/\bp m v.N=true)
def OQ (a b:Qn):Ql:=⟨11,0,0,0,[],[a,b]⟩
def N3 (a b:Qn):Ql:=⟨8,0,1,0,[⟨1,0,⟨#[]⟩⟩],[⟨7,a.N,⟨#[]⟩⟩,b]⟩
def OM (c:Ql)(b:Qn):Ql:=⟨c.Kind,c.Shape,c.Flags,c.Age,c.Slots,c.More++ [b]⟩
def Oz (g:Qe)(c:Ql):Qe:=⟨⟨g.m_.Young++ [c],g.m_.Old⟩,g.roots_++ [⟨9,2*(g.m_.Young.length:Int)+1,⟨#[]⟩⟩],g.pending_,g.set_⟩
def ON (g:Qe)(a:Qn):Bool:=bp g.m_ a.N&&decide (a.Kind=9)&&decide ((bK g.m_ a.N).Kind=11)&&decide (((bK g.m_ a.N).More.length:Int)<6)
def zd (m:Qg)(a:Int)(c:Ql):Qg:=bif decide (a%2=1) then ⟨m.Young.set (a / 2).toNat c,m.Old⟩ else ⟨m.Young,m.Old.set (a / 2 - 1).toNat c⟩
theorem Ni {m:Qg}{a:Int}(c:Ql)(h:bp m a=true):(∀x,bp (zd m a c) x=bp m x)/\(∀x,bp m x=true->bK (zd m a c) x=if x=a then c else bK m x)/\(zd m a c).Young.length=m.Young.length/\(zd m a c).Old.length=m.Old.length/\(∀d∈(zd m a c).Young++(zd m a c).Old,d∈m.Young++m.Old\/d=c)/\mS (zd m a c).Young+mS (zd m a c).Old<=mS m.Young+mS m.Old+c.More.length:=by
 have hhas: ∀m':Qg,m'.Young.length=m.Young.length->m'.Old.length=m.Old.length-> ∀x,bp m' x=bp m x:=fun m' h1 h2 x=>by
  rw [Bool.eq_iff_iff];constructor
  ·intro hx;rcases il hx with ⟨i,hi,rfl⟩|⟨i,hi,rfl⟩
   ·rw [Hj];exact Qs U
   rw [xa];exact Qs U
  intro hx;rcases il hx with ⟨i,hi,rfl⟩|⟨i,hi,rfl⟩
  ·rw [Hj];exact Qs U
  rw [xa];exact Qs U
 rcases il h with ⟨j,hj,rfl⟩|⟨j,hj,rfl⟩
 ·have e:zd m (2*(j:Int)+1) c=⟨m.Young.set j c,m.Old⟩:=by
   unfold zd;rw [Qs U,cond_true,show ((2*(j:Int)+1) / 2).toNat=j by omega]
  rw [e];refine ⟨hhas _ (List.length_set ..) J,fun x hx=> ?_,List.length_set ..,J,fun d hd=> ?_,?_⟩
  ·rcases il hx with ⟨i,hi,rfl⟩|⟨i,hi,rfl⟩
   ·rw [yu ⟨m.Young.set j c,m.Old⟩ i (by simpa using hi),yu m i hi];simp only [List.getElem_set];by_cases hij:j=i
    ·rw [if_pos hij,if_pos U]
    rw [if_neg hij,if_neg U]
   rw [nl ⟨m.Young.set j c,m.Old⟩ i hi,nl m i hi,if_neg U]
  ·rcases List.mem_append.1 hd with hd|hd
   ·rcases List.mem_or_eq_of_mem_set hd with hd|hd
    ·exact .inl (Qw _ hd)
    exact .inr hd
   exact .inl (Qx _ hd)
  have:=vY (fun c:Ql=>c.More.length) c m.Young j;unfold mS;simp only at this⊢;omega
 have e:zd m (2*(j:Int)+2) c=⟨m.Young,m.Old.set j c⟩:=by
  unfold zd;rw [Qt U,cond_false,show ((2*(j:Int)+2) / 2 - 1).toNat=j by omega]
 rw [e];refine ⟨hhas _ J (List.length_set ..),fun x hx=> ?_,J,List.length_set ..,fun d hd=> ?_,?_⟩
 ·rcases il hx with ⟨i,hi,rfl⟩|⟨i,hi,rfl⟩
  ·rw [yu ⟨m.Young,m.Old.set j c⟩ i hi,yu m i hi,if_neg U]
  rw [nl ⟨m.Young,m.Old.set j c⟩ i (by simpa using hi),nl m i hi];simp only [List.getElem_set];by_cases hij:j=i
  ·rw [if_pos hij,if_pos U]
  rw [if_neg hij,if_neg U]
 ·rcases List.mem_append.1 hd with hd|hd
  ·exact .inl (Qw _ hd)
  rcases List.mem_or_eq_of_mem_set hd with hd|hd
  ·exact .inl (Qx _ hd)
  exact .inr hd
 have:=vY (fun c:Ql=>c.More.length) c m.Old j;unfold mS;simp only at this⊢;omega
theorem JP (g:Qe)(a:Int)(c:Ql):(wD g a c).m_=zd g.m_ a (F4 c (bK g.m_ a).Age)/\(wD g a c).roots_=g.roots_/\(wD g a c).pending_=g.pending_/\(wD g a c).set_.at_=bif decide (a%2=1) then g.set_.at_ else zI g.set_.at_ a c:=by
 unfold wD zd;cases decide (a%2=1)<;>exact ⟨rfl,rfl,rfl,rfl⟩
theorem IK {c:Ql}(h:cY c=true):0<=c.Age/\c.Age<=1:=by
 unfold cY at h;simp only [QG,Bool.not_eq_true',decide_eq_false_iff_not] at h;omega
theorem LR (N:Nat)(l:List Int)(c:Ql):(iq N l c).Age=c.Age:=by
 unfold iq kC pw;cases decide (c.Kind=8)<;>cases decide (c.Kind=10)<;>cases nL N c<;>rfl
section
variable {N:Nat} {m:Qg} {roots:List Qn} {kept met:List Int} (h:MinCtx N m roots kept met)
include h
theorem Jn:jj N m roots kept=some ⟨oI N m met,roots.map (bX (dl m met) met),(nW m met).map (bX (dl m met) met),0⟩:=by
 have hN:=h.big;have hs:=h.small;have hml:=h.mlen;have ho:=hs.old;have hrl:=hs.roots;have hfl:=h.f1len;obtain ⟨hnd,hyng,hhas⟩:=h.mt;have hto:(vQ m met).length=met.length:=uk _ _ _ _
 have hev:(bz m.Old.length).length=m.Old.length:=by unfold bz;simp
 obtain ⟨hfine,hkok,hoo⟩:=wN h.may;have hkl:=h.klen;have hgl: ∀l:List Int,l.Nodup->(∀a∈l,a∈eT m met)->(l.flatMap fun a=>dG (eT m met) (bK m a)).length<=3600:=h.goneLen
 have g1: ∀i,(((bz m.Old.length).take i).flatMap fun a=>dG (eT m met) (bK m a)).length<=3600:=fun i=>hgl _ (List.Nodup.sublist (List.take_sublist _ _) (List.nodup_append.1 h.nd).1) fun a ha=>Qw _ (List.mem_of_mem_take ha)
 have g2: ∀i,((bz m.Old.length++met.take i).flatMap fun a=>dG (eT m met) (bK m a)).length<=3600:=fun i=>hgl _ (List.Nodup.sublist (List.Sublist.append (List.Sublist.refl _) (List.take_sublist i met)) h.nd) fun a ha=>(List.mem_append.1 ha).elim (fun h=>Qw _ h) fun h=>Qx _ (List.mem_of_mem_take h)
 have moved: ∀d:Ql,d.Slots.length<=600->d.More.length<=600->fL N d met (vQ m met)=some (iC (dl m met) met d):=fun d h1 h2=>I1 N hN met (vQ m met) hml hto d U U
 -- the young cells
 have young: ∀O:List Ql,O.length<=600->Sat (d9 N (met,vQ m met) (eT m met) m (roots.map (bX (dl m met) met)) N 0 [] O ((bz m.Old.length).flatMap fun a=>dG (eT m met) (bK m a))) fun r=>r=⟨⟨(met.filter (dk m)).map (nY N m met),O++(met.filter fun a=> !dk m a).map (nY N m met)⟩,roots.map (bX (dl m met) met),(nW m met).map (bX (dl m met) met),0⟩:=by
  intro O hO;refine bA (fun k i (s:List Qn×List Ql×List Ql)=>d9 N (met,vQ m met) (eT m met) m (roots.map (bX (dl m met) met)) k (i:Int) s.2.1 s.2.2 s.1) met.length (fun i s=>s.1=(bz m.Old.length++met.take i).flatMap (fun a=>dG (eT m met) (bK m a))/\s.2.1=((met.take i).filter (dk m)).map (nY N m met)/\s.2.2=O++((met.take i).filter fun a=> !dk m a).map (nY N m met)) _ ?_ ?_ N 0 (_,[],O) U U ⟨by rw [List.take_zero,List.append_nil];rfl,rfl,by simp⟩
  ·rintro k i ⟨g,hP,Q⟩ hi ⟨h1,h2,h3⟩ go;simp only at h1 h2 h3;show Sat (d9 N (met,vQ m met) (eT m met) m (roots.map (bX (dl m met) met)) (k+1) (i:Int) hP Q g) _;have hgm:met[i]∈met:=QI hi;have hgf:met[i]∈eT m met:=Qx _ hgm;have hc:=h.cell hgf;have hcl:=mF N (eT m met) (bK m met[i]);have hc1:=hc.slots;have hc2:=hc.more
   have hgt:g.length<=3600:=by rw [h1];exact g2 i
   have hYl:hP.length<=i:=by rw [h2,QE];exact Nat.le_trans (List.length_filter_le _ _) (by rw [QD];omega)
   have hQl:Q.length<=600+i:=by
    rw [h3,QC,QE];have:=List.length_filter_le (fun a=> !dk m a) (met.take i);rw [QD] at this;omega
   have hag:(iC (dl m met) met (iq N (eT m met) (bK m met[i]))).Age=(bK m met[i]).Age:=LR N _ _;have hra:=IK hc.right
   have e:decide ((iC (dl m met) met (iq N (eT m met) (bK m met[i]))).Age=0)=dk m met[i]:=by rw [hag];rfl
   have hnY:(⟨(iC (dl m met) met (iq N (eT m met) (bK m met[i]))).Kind,(iC (dl m met) met (iq N (eT m met) (bK m met[i]))).Shape,(iC (dl m met) met (iq N (eT m met) (bK m met[i]))).Flags,1,(iC (dl m met) met (iq N (eT m met) (bK m met[i]))).Slots,(iC (dl m met) met (iq N (eT m met) (bK m met[i]))).More⟩:Ql)=nY N m met met[i]:=rfl;rw [d9.eq_2]
   dsimp only
   rw [bG U,ct,aC hi,bs,KO N hs (h.f1has hgf),bs,ED N hN hc U,bs]
   dsimp only
   rw [rF U,moved _ U U,bs,e,hnY];unfold nq;rw [r64 U U,rF (by simp;omega),rF (by simp;omega)]
   have hg':g++dG (eT m met) (bK m met[i])=(bz m.Old.length++met.take (i+1)).flatMap fun a=>dG (eT m met) (bK m a):=by
    rw [h1,List.flatMap_append,List.flatMap_append,xv _ hi,Qv]
   have hf1:=sD (dk m) hi;have hf2:=sD (fun a=> !dk m a) hi;cases hb:dk m met[i]
   ·rw [hb] at hf1;simp only [hb,Bool.not_false,cond_true,cond_false,List.append_nil] at hf1 hf2
    have hA:(bK m met[i]).Age=1:=by
     unfold dk at hb;rw [decide_eq_false_iff_not] at hb;omega
    have hnY':iC (dl m met) met (iq N (eT m met) (bK m met[i]))=nY N m met met[i]:=by
     rw [<-hnY, <-hA, <-hag]
    rw [cf,hnY',r64 U U];exact go (g++dG (eT m met) (bK m met[i]),hP,Q++ [nY N m met met[i]]) ⟨hg',by show hP=_;rw [hf1];exact h2,by show Q++ [nY N m met met[i]]=_;rw [hf2,List.map_append,h3,Qv,List.map_cons,List.map_nil]⟩
   rw [hb] at hf1;simp only [hb,Bool.not_true,cond_true,cond_false,List.append_nil] at hf1 hf2;rw [ct];exact go (_,_,Q) ⟨hg',by show hP++ [nY N m met met[i]]=_;rw [hf1,List.map_append,h2];rfl,by show Q=_;rw [hf2];exact h3⟩
  rintro k ⟨g,hP,Q⟩ ⟨h1,h2,h3⟩;simp only [QF] at h1 h2 h3;show Sat (d9 N (met,vQ m met) (eT m met) m (roots.map (bX (dl m met) met)) (k+1) _ hP Q g) _
  have hgt:g.length<=3600:=by rw [h1];have:=g2 met.length;rwa [QF] at this
  rw [d9.eq_2]
  dsimp only
  rw [bH U,cf];unfold qA
  dsimp only
  rw [Mx N hN met (vQ m met) hml hto g U,bs,h2,h3];refine aA ?_;rw [h1];rfl
 apply Sat.eq;unfold jj;rw [Ke N hN hs h.w64 h.r64 hkl hkok hoo,h.may,bs,nt,cf,JS h,bs]
 dsimp only
 rw [Kn N met ho hN U,bs,Mx N hN met (vQ m met) hml hto roots U,bs];refine bA (fun k i (s:List Qn×List Ql)=>eW N kept (met,vQ m met) m (roots.map (bX (dl m met) met)) k (eT m met) (i:Int) s.2 s.1) m.Old.length (fun i s=>s.1=((bz m.Old.length).take i).flatMap (fun a=>dG (eT m met) (bK m a))/\s.2=((bz m.Old.length).take i).map (nC N m met)) _ ?_ ?_ N 0 ([],[]) U U ⟨J,J⟩
 ·rintro k i ⟨g,O⟩ hi ⟨h1,h2⟩ go;simp only at h1 h2;show Sat (eW N kept (met,vQ m met) m (roots.map (bX (dl m met) met)) (k+1) (eT m met) (i:Int) O g) _
  have hie:i<(bz m.Old.length).length:=by omega
  have hei:(bz m.Old.length)[i]=2*(i:Int)+2:=Ei hie;have hae:(2*(i:Int)+2)∈bz m.Old.length:=io.2 ⟨i,hi,rfl⟩;have haf:(2*(i:Int)+2)∈eT m met:=Qw _ hae;have hc:=h.cell haf;have hcl:=mF N (eT m met) (bK m (2*(i:Int)+2));have hc1:=hc.slots;have hc2:=hc.more
  have hgt:g.length<=3600:=by rw [h1];exact g1 i
  have hOl:O.length<=i:=by rw [h2,QE,QD];omega
  have hold:=h.old hae
  have n1:((bz m.Old.length).take (i+1)).flatMap (fun a=>dG (eT m met) (bK m a))=g++dG (eT m met) (bK m (2*(i:Int)+2)):=by rw [xv _ hie,hei,h1]
  have n2:((bz m.Old.length).take (i+1)).map (nC N m met)=O++ [nC N m met (2*(i:Int)+2)]:=by rw [FT _ hie,hei,h2]
  rw [nl m i hi] at hc hcl hc1 hc2 hold n1
  have hnc:nC N m met (2*(i:Int)+2)=iC (dl m met) met (iq N (eT m met) m.Old[i]):=by unfold nC;rw [nl m i hi]
  have body: ∀(kb:List Int->Int->List Ql->List Qn->Option Qm) (g':List Qn) (d:Ql),d.Slots.length<=600->d.More.length<=600->kK N kb (i:Int) kept (met,vQ m met) (eT m met) m O (roots.map (bX (dl m met) met)) g' d.Kind d.Shape d.Flags d.Age d.Slots d.More=kb (eT m met) ((i:Int)+1) (O++ [iC (dl m met) met d]) g':=by
   intro kb g' d d1 d2;have:=moved d d1 d2;unfold kK
   dsimp only
   have e:fL N ⟨d.Kind,d.Shape,d.Flags,d.Age,d.Slots,d.More⟩ met (vQ m met)=some (iC (dl m met) met d):=this;rw [e,bs,rF (by simp;omega),r64 U U]
  rw [eW.eq_2,bG U,ct,aC hi,bs,r64 U U,r64 U U,Kl N hN kept U,bs];by_cases hk:(2*(i:Int)+2)∈kept
  ·rw [Qs hk,ct,ED N hN hc U,bs]
   dsimp only
   rw [rF U,body _ _ _ U U];exact go (_,_) ⟨n1.symm,by rw [n2,hnc]⟩
  obtain ⟨o1,o2⟩:=hold hk;rw [Qt hk,cf,body _ _ _ U U];exact go (g,_) ⟨by rw [n1,o2,List.append_nil],by rw [n2,hnc,o1]⟩
 rintro k ⟨g,O⟩ ⟨h1,h2⟩;have etl:(bz m.Old.length).take m.Old.length=bz m.Old.length:=List.take_of_length_le U;simp only [etl] at h1 h2;show Sat (eW N kept (met,vQ m met) m (roots.map (bX (dl m met) met)) (k+1) (eT m met) _ O g) _;rw [eW.eq_2,bH U,cf];unfold qB;rw [h1]
 have hOl:O.length<=600:=by rw [h2,QE];omega
 have:=young O hOl;rw [h2] at this⊢;exact this
end
theorem FF {N:Nat}(hN:6500<N){m:Qg}{roots:List Qn}(hs:Small m roots)(hw:W64 m)(hr: ∀v∈roots,in64 v.N){kept:List Int}(hkl:kept.length<=1200)(hk:nK m kept=true)(ho:ql m kept=true)(hm:BL N m roots kept=false):jj N m roots kept=some ⟨⟨[],[]⟩,[],[],1⟩:=by
 unfold jj;rw [Ke N hN hs hw hr hkl hk ho,hm,bs,nf,ct]
end
end Go.Proofs.YthepenpebkjdfaaGreat