/- Merged texts: part 9. No conditions of their own. -/
import Derived.Test.YthhiddkljcacaaaGreatG8
import Derived.ProofKit
import Derived.IntWalk
namespace Go.Proofs.YthhiddkljcacaaaGreat
variable (N:Nat){a x:Int}{p:Int->Bool}{ρ:Int->Int}{kv seen:List (Int×Bool)}{f kept l live lv met olds row:List Int}{i k:Nat}{F:Nat->VH->Bool}{α β σ:Type}{v:VH}{c:VL}{m:Vw}
section
open Go.RowKit
theorem JV (N:Nat)(x:Int)(l:List Int)(a:l.length<=5000): ∀(m i:Nat),l.length<m+i->i<=l.length->Sat (uG N x l m (i:Int)) fun r=>decide (0<=r)=decide (x∈l.drop i)
 |0,i,h,c=>by omega
 | m+1,i,h,c=>by
  rw [uG.eq_2];by_cases hi:i<l.length
  ·rw [bG W,ct,bz hi,bs,Wn hi];refine bq (fun e=> ?_) fun e=> ?_
   ·exact ar (by rw [VQ W,VQ];rw [e];exact List.mem_cons_self ..)
   rw [r64 W W];have:=JV N x l a m (i+1) W hi;simp only [Int.natCast_add,Wc] at this;refine this.mono fun r hr=> ?_
   rw [hr];have:(x∈l[i]::l.drop (i+1))↔x∈l.drop (i+1):=⟨fun h=>(WZ.1 h).resolve_left (fun d=>e d),W0 _⟩;rw [decide_eq_decide];exact this.symm
  rw [bI W,cf,Wo W];exact ar (by simp)
theorem I1 (N:Nat)(e:6500<N)(l:List Int)(a:l.length<=5000)(x:Int):py N l x=some (decide (x∈l)):=by
 obtain ⟨r,d,c⟩:=JV N x l a N 0 W W;unfold py Eg;rw [show uG N x l N 0=some r from d,bs,c];rfl
def opens (p:Int->Bool):List VH->List Int
 |k::v::l=>(bif aZ v&&p k.N then [v.N] else [])++opens p l
 |_=> []
theorem JL (p:Int->Bool)(k v:VH)(l:List VH):opens p (k::v::l)=(bif aZ v&&p k.N then [v.N] else [])++opens p l:=rfl
theorem RN {q:Int->Bool}(h:∀x,p x=q x)(l:List VH):opens p l=opens q l:=by rw [show p=q from funext h]
theorem Bi (v:VH):((bif decide (v.no=7) then (some true) else (some (decide (v.no=9)))):Option Bool)=some (aZ v):=by unfold aZ;cases decide (v.no=7)<;>rfl
def iy (c:VL)(l:List Int):List Int:=bif jO N c then opens (fun x=>decide (x∈l)) c.XP else []
theorem FL: ∀(b:Nat) {l:List Int},l.Nodup->(∀x∈l,1<=x/\x<=(b:Int))->l.length<=b
 |0,l,_,h=>by
  cases l with
  |nil=>exact Xm _
  |cons x l=>have:=h x (by simp);omega
 | b+1,l,c,h=>by
  have i:=FL b (c.erase ((b:Int)+1)) fun x e=>by
   obtain ⟨d,f⟩:=c.mem_erase_iff.1 e;have:=h x f;omega
  have d:=List.length_erase (a:=(b:Int)+1) (l:=l);split at d<;>omega
theorem acu (kv:List (Int×Unit))(a:Int):(lk kv a).isSome=decide (a∈kv.map (·.1)):=by
 unfold lk;rw [Bool.eq_iff_iff];simp [List.find?_isSome,W3]
def W64 (m:Vw):Prop:= ∀c∈m.XS++m.XR, ∀v∈c.XQ++c.XP,in64 v.N
theorem W64.at_ (h:W64 m)(a:Int): ∀v∈(am m a).XQ++(am m a).XP,in64 v.N:=by
 unfold am
 cases e:fc m a with
 |none=>intro v d;simp [Cn] at d
 |some c=>exact h c (sg e)
structure Tr (m:Vw) (all:List Int) (met:List (Int×Unit)):Prop where
 nd:all.Nodup
 mem: ∀x,x∈met.map (·.1)↔x∈all
 has: ∀x∈all,az m x=true
theorem Tr.len {roots:List VH}(c:Small m roots){all:List Int}{met:List (Int×Unit)}(h:Tr m all met):all.length<=1200:=FL 1200 h.nd fun x a=>⟨by have:=vK (h.has x a);omega,by have:=Bz c (h.has x a);omega⟩
theorem Tr.in64 {roots:List VH}(c:Small m roots){all:List Int}{met:List (Int×Unit)}(h:Tr m all met)(a:x∈all):in64 x:=by
 have e:=vK (h.has x a);have d:=Bz c (h.has x a);unfold Go.Proofs.YthhiddkljcacaaaGreat.in64;omega
theorem Tr.add {all:List Int}{met:List (Int×Unit)}(h:Tr m all met)(d:x∉all)(f:az m x=true):Tr m (all++ [x]) (dp met x ()):=⟨W9.2 ⟨h.nd,by simp,fun a i b hb e=>by rw [W8] at hb;subst hb;subst e;exact d i⟩,fun y=>by
 rw [abw,WY,W8,h.mem y];exact Or.comm,fun y c=>by
 rcases WY.1 c with c|c
 ·exact h.has y c
 ·rw [W8] at c;subst c;exact f⟩
theorem Ut {roots:List VH}(d:Small m roots)(hw:W64 m)(a:Int):(cW (am m a)).length<=3600/\ ∀x∈cW (am m a),in64 x:=by
 have i:=d.at_ a;have f:=mT (am m a);refine ⟨by omega,fun x c=> ?_⟩;obtain ⟨v,e,rfl⟩:=J1 c;exact hw.at_ a v e
structure Gr where
 has:Int->Bool
 leads:Int->List Int
 opens:List Int->Int->List Int
def bV (has:Int->Bool):List Int->List Int->List Int
 |row,[]=>row
 |row,x::l=>bV has (bif has x&& !decide (x∈row) then row++ [x] else row) l
inductive Thr (g:Gr):List Int->Nat->List Int->Prop
 |done {row:List Int} {k:Nat}:row.length<=k->Thr g row k row
 |step {row:List Int} {k:Nat} {a:Int} {r:List Int}:row[k]? =some a->Thr g (bV g.has row (g.leads a)) (k+1) r->Thr g row k r
def jK (g:Gr):List Int->List Int->List Int
 |row,[]=>row
 |row,a::avs=>jK g (bV g.has row (g.opens row a)) avs
inductive Ord (g:Gr):List Int->List Int->Prop
 |done {row:List Int}:jK g row row=row->Ord g row row
 |step {row r1 r:List Int}:jK g row row≠row->Thr g (jK g row row) row.length r1->Ord g r1 r->Ord g row r
structure IsOrder (g:Gr) (roots:List Int) (b l:List Int):Prop where
 strong:Thr g (bV g.has [] roots) 0 b
 all:Ord g b l
theorem ki (has:Int->Bool): ∀(row l:List Int), ∃t,bV has row l=row++t/\(∀x∈t,has x=true/\x∈l)
 |row,[]=>⟨[],by simp [bV],by simp⟩
 | row,x::l=>by
  unfold bV
  cases h:has x&& !decide (x∈row) with
  |false=>
   obtain ⟨t,d,c⟩:=ki has row l;exact ⟨t,d,fun y a=>⟨(c y a).1,by simp [(c y a).2]⟩⟩
  |true=>
   obtain ⟨t,d,c⟩:=ki has (row++ [x]) l;refine ⟨x::t,by rw [cond_true,d];simp,fun y a=> ?_⟩;rw [XM] at h;rcases WZ.1 a with e|a
   ·subst e;exact ⟨h.1,by simp⟩
   exact ⟨(c y a).1,by simp [(c y a).2]⟩
theorem sE (has:Int->Bool): ∀(row l a:List Int),bV has row (l++a)=bV has (bV has row l) a
 |_,[],_=>rfl
 |row,x::l,a=>by
  show bV has _ (l++a)=_;rw [sE has _ l a];rfl
theorem vt {has:Int->Bool}: ∀{row:List Int} (l:List Int),row.Nodup->(bV has row l).Nodup
 |_,[],h=>h
 | row,x::l,h=>by
  unfold bV
  cases c:has x&& !decide (x∈row) with
  |false=>exact vt l h
  |true=>
   rw [XM] at c
   have d:x∉row:=by simpa using c.2
   exact vt l (W9.2 ⟨h,by simp,fun a f b hb e=>by rw [W8] at hb;subst hb;subst e;exact d f⟩)
theorem sG {has:Int->Bool}: ∀(row l:List Int) {x:Int},x∈l->has x=true->x∈bV has row l
 | row,y::l,x,h,a=>by
  unfold bV;rcases WZ.1 h with e|h
  ·subst e;obtain ⟨t,c, -⟩:=ki has (bif has x&& !decide (x∈row) then row++ [x] else row) l;rw [c];refine VU _ ?_;rw [a,Wb];by_cases hm:x∈row<;>simp [hm]
  exact sG _ l h a
theorem F0 {has:Int->Bool}(h:x∈bV has row l):x∈row\/(has x=true/\x∈l):=by
 obtain ⟨t,c,a⟩:=ki has row l;rw [c] at h;rcases WY.1 h with h|h
 ·exact .inl h
 exact .inr (a x h)
theorem AH (g:Gr): ∀(row avs:List Int), ∃t,jK g row avs=row++t
 |row,[]=>⟨[],by simp [jK]⟩
 |row,a::avs=>by
  obtain ⟨t,e, -⟩:=ki g.has row (g.opens row a);obtain ⟨c,d⟩:=AH g (bV g.has row (g.opens row a)) avs;exact ⟨t++c,by unfold jK;rw [d,e,VT]⟩
theorem JA {g:Gr}: ∀{row:List Int} (avs:List Int),row.Nodup->(jK g row avs).Nodup
 |_,[],h=>h
 |_,_::avs,h=>JA avs (vt _ h)
theorem Ks {g:Gr}: ∀{row:List Int} (avs:List Int),(∀x∈row,g.has x=true)-> ∀x∈jK g row avs,g.has x=true
 |_,[],h=>h
 |_,_::avs,h=>Ks avs fun x a=>(F0 a).elim (h x) (·.1)
theorem Thr.app {g:Gr}{r:List Int}(h:Thr g row k r): ∃t,r=row++t:=by
 induction h with
 |done _=>exact ⟨[],by simp⟩
 |step _ _ d=>
  rename_i row _ a _ _ _
  obtain ⟨t,rfl⟩:=d;obtain ⟨c,e, -⟩:=ki g.has row (g.leads a);exact ⟨c++t,by rw [e,VT]⟩
theorem Thr.nodup {g:Gr}{r:List Int}(h:Thr g row k r)(a:row.Nodup):r.Nodup:=by
 induction h with
 |done _=>exact a
 |step _ _ c=>exact c (vt _ a)
theorem Thr.has {g:Gr}{r:List Int}(h:Thr g row k r)(a:∀x∈row,g.has x=true): ∀x∈r,g.has x=true:=by
 induction h with
 |done _=>exact a
 |step _ _ c=>exact c fun x d=>(F0 d).elim (a x) (·.1)
theorem Ord.app {g:Gr}{r:List Int}(h:Ord g row r): ∃t,r=row++t:=by
 induction h with
 |done _=>exact ⟨[],by simp⟩
 |step _ f _ d=>
  rename_i row r1 _ _ _
  obtain ⟨t,rfl⟩:=d;obtain ⟨c,rfl⟩:=f.app;obtain ⟨a,e⟩:=AH g row row;exact ⟨a++c++t,by rw [e];simp [VT]⟩
theorem Ord.nodup {g:Gr}{r:List Int}(h:Ord g row r)(a:row.Nodup):r.Nodup:=by
 induction h with
 |done _=>exact a
 |step _ d _ c=>exact c (d.nodup (JA _ a))
theorem Ord.has {g:Gr}{r:List Int}(h:Ord g row r)(a:∀x∈row,g.has x=true): ∀x∈r,g.has x=true:=by
 induction h with
 |done _=>exact a
 |step _ d _ c=>exact c (d.has (Ks _ a))
theorem IsOrder.nodup {g:Gr}{roots b:List Int}(h:IsOrder g roots b l):b.Nodup/\l.Nodup:=
 have hb:=h.strong.nodup (vt _ List.nodup_nil)
 ⟨hb,h.all.nodup hb⟩
theorem IsOrder.has {g:Gr}{roots b:List Int}(h:IsOrder g roots b l):(∀x∈b,g.has x=true)/\ ∀x∈l,g.has x=true:=
 have hb:=h.strong.has fun x a=>(F0 a).elim (fun h=>by cases h) (·.1)
 ⟨hb,h.all.has hb⟩
theorem IsOrder.sub {g:Gr}{roots b:List Int}(h:IsOrder g roots b l)(a:x∈b):x∈l:=by
 obtain ⟨t,e⟩:=h.all.app;rw [e];exact VU _ a
theorem IsOrder.roots {g:Gr}{roots b:List Int}(h:IsOrder g roots b l)(a:x∈roots)(c:g.has x=true):x∈b:=by
 obtain ⟨t,e⟩:=h.strong.app;rw [e];exact VU _ (sG _ _ a c)
def CloG (g:Gr)(row:List Int)(k:Nat):Prop:= ∀(i:Nat) (a x:Int),i<k->row[i]? =some a->x∈g.leads a->g.has x=true->x∈row
theorem CloG.app {g:Gr}{t:List Int}(f:k<=row.length)(h:CloG g row k):CloG g (row++t) k:=fun i a x hi c d e=>by
 rw [WA W] at c;exact VU _ (h i a x hi c d e)
theorem Thr.clo {g:Gr}{r:List Int}(h:Thr g row k r)(o:k<=row.length)(m:CloG g row k):CloG g r r.length:=by
 induction h with
 |done a6=>intro i a x hi f c d;exact m i a x W f c d
 | step f _ n=>
  rename_i row k a _ _
  have j:=(WH.1 f).1;obtain ⟨t,l, -⟩:=ki g.has row (g.leads a)
  refine n (by rw [l,XI];omega) fun i b x hi hb c d=> ?_
  by_cases e:i=k
  ·subst e;rw [l,WA j,f] at hb;cases hb;exact sG _ _ c d
  rw [l] at hb⊢;exact (CloG.app o m (t:=t)) i b x W hb c d
theorem KV {g:Gr}: ∀{row avs:List Int},jK g row avs=row-> ∀a∈avs, ∀x∈g.opens row a,g.has x=true->x∈row
 | row,b::avs,h,a,c,x,d,f=>by
  have i:bV g.has row (g.opens row b)=row:=by
   obtain ⟨t,j, -⟩:=ki g.has row (g.opens row b);obtain ⟨l,p⟩:=AH g (bV g.has row (g.opens row b)) avs
   have o:row++t++l=row:=by rw [<-j, <-p];exact h
   have n:=congrArg List.length o;simp only [XI] at n;have m:t=[]:=Wt W;rw [j,m,Wj]
  rcases WZ.1 c with e|c
  ·subst e;have:=sG row _ d f;rwa [i] at this
  refine KV (avs:=avs) ?_ a c x d f;unfold jK at h;rw [i] at h;exact h
theorem Ord.closed {g:Gr}{r:List Int}(h:Ord g row r)(c:CloG g row row.length):CloG g r r.length/\ ∀a∈r, ∀x∈g.opens r a,g.has x=true->x∈r:=by
 induction h with
 |done f=>exact ⟨c,KV f⟩
 |step _ i _ d=>
  rename_i row _ _ _ _
  obtain ⟨t,e⟩:=AH g row row;refine d (i.clo (by rw [e,XI];omega) ?_);rw [e];exact c.app (Xm _)
theorem IsOrder.closed {g:Gr}{roots b:List Int}(h:IsOrder g roots b l):(∀a∈l, ∀x∈g.leads a,g.has x=true->x∈l)/\ ∀a∈l, ∀x∈g.opens l a,g.has x=true->x∈l:=by
 obtain ⟨m,j⟩:=h.all.closed (h.strong.clo (Xt _) fun i _ _ hi=>absurd hi W);refine ⟨fun a f x c d=> ?_,j⟩;obtain ⟨i,hi,e⟩:=WO f;exact m i a x hi (by rw [WF hi,e]) c d
def pc (m:Vw):Gr:=⟨az m,fun a=>cW (am m a),fun row a=>iy N (am m a) row⟩
def cc (l:List VH):List Int:=(l.filter aZ).map (·.N)
theorem Fw (l a:List VH):cc (l++a)=cc l++cc a:=by unfold cc;simp
theorem sj {l:List VH}:x∈cc l↔ ∃v∈l,aZ v=true/\v.N=x:=by
 unfold cc;simp only [W3,W2];constructor
 ·rintro ⟨v,⟨d,c⟩,a⟩;exact ⟨v,d,c,a⟩
 rintro ⟨v,d,c,a⟩;exact ⟨v,⟨d,c⟩,a⟩
theorem MP (N:Nat){roots:List VH}(q:6500<N)(o:Small m roots)(d:Int)(l:List Int)(p:l.length<=3600)(j:∀x∈l,in64 x){all:List Int}{met:List (Int×Unit)}(n:Tr m all met):
  Sat (rz N ⟨m,all,met,d⟩ l) fun r=>r.m_=m/\r.YA=d/\Tr m r.Yp r.Yi/\r.Yp=bV (az m) all l:=by
 unfold rz;refine ib (fun k i (s:List Int×List (Int×Unit))=>nI N l ⟨m,all,met,d⟩ k (i:Int) s.1 s.2) l.length (fun i s=>Tr m s.1 s.2/\s.1=bV (az m) all (l.take i)) _ ?_ ?_ N 0 (all,met) W W ⟨n,J⟩
 ·rintro k i ⟨al,mt⟩ hi ⟨c,e⟩ go;show Sat (nI N l ⟨m,all,met,d⟩ (k+1) i al mt) _;simp only at c e;have a6:=j l[i] (XO _)
  have hnext:bV (az m) all (l.take (i+1))=(bif az m l[i]&& !decide (l[i]∈al) then al++ [l[i]] else al):=by
   rw [fK hi,sE, <-e];rfl
  rw [nI.eq_2,bG W,ct,bz hi,bs,acu];unfold yi;rw [r64 (a:=(i:Int)+1) W W,r64 (a:=(i:Int)+1) W W];by_cases hm:l[i]∈al
  ·rw [VQ ((c.mem _).2 hm)];simp only [nt,cf,bs];exact go (al,mt) ⟨c,by rw [hnext,VQ hm];simp⟩
  rw [VR (fun h=>hm ((c.mem _).1 h))];simp only [nf,ct,bs,sx N m _ a6];cases f:az m l[i]
  ·simp only [cf];exact go (al,mt) ⟨c,by rw [hnext,f];rfl⟩
  simp only [ct];have hlen:=c.len o;rw [rF (by simp;omega)];exact go (al++ [l[i]],dp mt l[i] ()) ⟨c.add hm f,by rw [hnext,f,VR hm];rfl⟩
 rintro k ⟨al,mt⟩ ⟨c,e⟩;show Sat (nI N l ⟨m,all,met,d⟩ (k+1) _ al mt) _;rw [nI.eq_2,bI W,cf];exact ar ⟨J,J,c,by simpa using e⟩
theorem RR (N:Nat)(E:6500<N){roots:List VH}(a:Small m roots)(hw:W64 m){all:List Int}{met:List (Int×Unit)}(A:Tr m all met)(k:Nat)(C:k<=all.length):
  Sat (xL N ⟨m,all,met,(k:Int)⟩) fun r=>r.m_=m/\r.YA=(r.Yp.length:Int)/\Tr m r.Yp r.Yi/\Thr (pc N m) all k r.Yp:=by
 unfold xL;refine Bl (fun f (s:List Int×List (Int×Unit)×Nat)=>uc N f m.XS m.XR s.1 s.2.1 (s.2.2:Int)) (fun s=>1300 - s.2.2) (fun s=>Tr m s.1 s.2.1/\s.2.2<=s.1.length/\ ∀r,Thr (pc N m) s.1 s.2.2 r->Thr (pc N m) all k r) _ ?_ N (all,met,k) (by show 1300 - k<N;omega) ⟨A,C,fun _ h=>h⟩;rintro f ⟨al,mt,j⟩ ⟨c,F,p⟩ go;show Sat (uc N (f+1) m.XS m.XR al mt (j:Int)) _;simp only at c F p;have hlen:=c.len a;rw [uc.eq_2];by_cases d:j<al.length
 ·have z:=XO d;have l:=F8 N a al[j] (c.in64 a z);have B:=a.at_ al[j];obtain ⟨a6,a8⟩:=Ut a hw al[j];rw [bG W,ct,bz d,bs];have hat':om N ⟨m.XS,m.XR⟩ al[j]=some (am m al[j]):=l;rw [hat',bs,pX N W _ W W,bs];refine Sat.bind (MP N E a (j:Int) _ a6 a8 c) ?_;rintro ⟨m',al',mt',H⟩ ⟨u,q,o,n⟩;simp only at u q o n;subst u q;have hlen':=o.len a
  dsimp only;rw [r64 W W]
  have D:al.length<=al'.length:=by
   obtain ⟨t,e, -⟩:=ki (az m') al (cW (am m' al[j]));rw [n,e,XI];omega
  have i:=go (al',mt',j+1) (by show 1300 - (j+1)<1300 - j;omega) ⟨o,by show j+1<=al'.length;omega,fun r hr=>p r (.step (WF d) (by rw [n] at hr;exact hr))⟩;simpa using i
 have:j=al.length:=by omega
 subst this;rw [bI W,cf];exact ar ⟨J,J,c,p _ (.done (Xm _))⟩
theorem Ug (N:Nat)(p:6500<N){roots:List VH}(l:Small m roots)(hw:W64 m)(hr:∀v∈roots,in64 v.N):
  Sat (rL N m roots) fun r=>r.m_=m/\r.YA=(r.Yp.length:Int)/\Tr m r.Yp r.Yi/\Thr (pc N m) (bV (az m) [] (cc roots)) 0 r.Yp:=by
 have q:=l.roots;unfold rL;refine ib (fun k i (s:List Int×List (Int×Unit))=>ru N roots k (i:Int) m.XS m.XR s.1 s.2 0) roots.length (fun i s=>Tr m s.1 s.2/\s.1=bV (az m) [] (cc (roots.take i))) _ ?_ ?_ N 0 ([],[]) W W ⟨⟨by simp,by simp,by simp⟩,J⟩
 ·rintro k i ⟨al,mt⟩ hi ⟨c,a⟩ go;show Sat (ru N roots (k+1) (i:Int) m.XS m.XR al mt 0) _;simp only at c a;have a6:=hr roots[i] (XO _)
  have t:yI N roots[i]=some (roots[i].N,aZ roots[i]):=by
   unfold yI;rw [Bi,bs]
  have hnext:bV (az m) [] (cc (roots.take (i+1)))=bV (az m) al (cc [roots[i]]):=by
   rw [fK hi,Fw,sE, <-a]
  rw [ru.eq_2,bG W,ct,bz hi,bs];unfold D6;rw [t,bs];cases hb:aZ roots[i]
  ·simp only [cf,bs];rw [r64 W W];refine go (al,mt) ⟨c,?_⟩;rw [hnext];simp [cc,hb,bV]
  simp only [ct];obtain ⟨⟨m',al',mt',z⟩,u,j,f,e,d⟩:=MP N p l 0 [roots[i].N] (by simp) (by intro x o;rw [W8] at o;subst o;exact a6) c;simp only at j f e d;subst j f;have n:rz N ⟨⟨m'.XS,m'.XR⟩,al,mt,0⟩ [roots[i].N]=some ⟨m',al',mt',0⟩:=u;rw [n,bs,bs];dsimp only;rw [r64 W W];refine go (al',mt') ⟨e,?_⟩;show al'=_;rw [hnext,d];simp [cc,hb]
 rintro k ⟨al,mt⟩ ⟨c,a⟩;show Sat (ru N roots (k+1) _ m.XS m.XR al mt 0) _;rw [ru.eq_2,bI W,cf];unfold Ej;refine Sat.bind (RR N p l hw c 0 (Xt _)) ?_;rintro r ⟨j,f,e,d⟩;simp only [XL] at a;exact ar ⟨j,f,e,by rw [<-a];exact d⟩
theorem Mi {N:Nat}(a:c.no≠8)(l:List Int):iy N c l=[]:=by
 unfold iy jO;rw [cE a];rfl
theorem Ku {N:Nat}{roots:List VH}(c:Small m roots)(row:List Int): ∀l,jK (pc N m) row l=row
 | []=>rfl
 |a::l=>by
  show jK (pc N m) (bV (az m) row (iy N (am m a) row)) l=row;rw [Mi (c.kd a).1];exact Ku c row l
theorem Uq (N:Nat)(l:6500<N){roots:List VH}(a:Small m roots){all:List Int}{met:List (Int×Unit)}(c:Tr m all met)(d:Int):D7 N ⟨m,all,met,d⟩=some (false,⟨m,all,met,d⟩):=by
 have hlen:=c.len a
 have key: ∀(k i:Nat),i<=all.length->all.length<i+k->uv N ⟨m,all,met,d⟩ k (i:Int)=some (false,⟨m,all,met,d⟩):=by
  intro k
  induction k with
  |zero=>intro i j f;omega
  | succ k e=>
   intro i j f;rw [uv.eq_2];simp only [XL];rcases Xp i all.length with hi|hi
   ·rw [bG W,ct,bz hi,bs,F8 N a all[i] (c.in64 a (XO hi)),bs,cE (a.kd _).1,cf];unfold DR;rw [r64 W W];exact e (i+1) W W
   rw [bI W,cf];unfold D3;rw [VR (Int.lt_irrefl _)]
 exact key N 0 (Xt _) W
theorem Tb (N:Nat)(e:6500<N){roots:List VH}(a:Small m roots)(hw:W64 m)(hr:∀v∈roots,in64 v.N):
  ∃b all,IsOrder (pc N m) (cc roots) b.Yp all/\all.length<=1200/\b.Yp.length<=1200/\rL N m roots=some b/\uV N m roots=some all:=by
 obtain ⟨⟨m',al0,mt0,o⟩,l,j,i,c,f⟩:=Ug N e a hw hr;simp only at j i c f;subst j i;have hlen0:=c.len a;refine ⟨⟨m',al0,mt0,(al0.length:Int)⟩,al0,⟨f,.done (Ku a _ _)⟩,hlen0,hlen0,l,?_⟩;unfold uV;obtain ⟨n,rfl⟩: ∃n,N=n+1:=⟨N - 1,by omega⟩;have d:rL (n+1) m' roots=some ⟨m',al0,mt0,(al0.length:Int)⟩:=l;rw [d,bs,Iq.eq_2,Uq (n+1) e a c,bs];rfl
theorem qa (l:List Int)(x:Int):x∈eQ l↔x∈l:=by unfold eQ;exact List.mem_mergeSort
theorem Fk (h:l.Nodup):(eQ l).Pairwise (· < ·):=by
 have e:(eQ l).Pairwise fun a b=>decide (a<=b)=true:=List.pairwise_mergeSort (by intro a b c e d;simp at*;omega) (by intro a b;simp;omega) l
 have d:(eQ l).Nodup:=(List.mergeSort_perm l _).nodup_iff.2 h;rw [List.nodup_iff_pairwise_ne] at d;exact e.imp₂ (fun a b f i=>by simp at f;omega) d
theorem LD {s:List Int}(h:l.Nodup)(a:s.Pairwise (· < ·))(c:∀x,x∈l↔x∈s):eQ l=s:=Nj (Fk h) a fun x=>(qa l x).trans (c x)
theorem To (N:Nat)(l:List Int)(h:l.length<=5000):zz N l=some (eQ l):=by
 unfold zz;rw [rF W]
def obj (n:Int):VH:=⟨7,n,⟨#[]⟩⟩
theorem abs {N:Nat}{roots:List VH}{s:List Int}(h:uV N m roots=some l)(c:l.length<=5000)(a:eQ l=s):rU N m roots=some s:=by
 unfold rU;rw [h,bs,To N l c,bs,a]
def ja (c:VL):List Int:=pick (fun i v=>iL c.no i&&aZ v) 0 c.XP
theorem zU (N:Nat)(e:6500<N)(c:VL)(d:c.XQ.length<=1000)(a:c.XP.length<=2900):pE N c=some (ja c):=by
 unfold pE ja;rw [ID N e false c d a,bs]
 have j:(fun (_:Nat) (v:VH)=>(true==false)&&aZ v)=fun _ _=>false:=by funext i v;rfl
 have f:(fun (i:Nat) (v:VH)=>(iX c.no i==false)&&aZ v)=fun i v=>iL c.no i&&aZ v:=by funext i v;rw [Jz];cases iL c.no i<;>rfl
 rw [j,f,Km,XN]
theorem r7 (c:VL):(ja c).length<=c.XP.length:=AS _ 0 c.XP
theorem RM (h:x∈ja c): ∃v∈c.XQ++c.XP,v.N=x:=by
 obtain ⟨v,d,a⟩:=Bh h;exact ⟨v,VV _ d,a⟩
def dr (m:Vw)(l:List Int):Bool:=l.all (az m)
def qq (m:Vw)(c:VL):Bool:=(mP N c).getD false&&(dr m (cW c)&&dr m (ja c))
theorem Fz {roots:List VH}(f:Small m roots)(hw:W64 m)(d:c∈m.XS++m.XR):((cW c).length<=3500/\ ∀x∈cW c,in64 x)/\(ja c).length<=2900/\ ∀x∈ja c,in64 x:=by
 have l:=f.cells c d;have j:=mT c;have i:=r7 c;refine ⟨⟨by omega,fun x a=> ?_⟩,by omega,fun x a=> ?_⟩
 ·obtain ⟨v,e,rfl⟩:=J1 a;exact hw c d v e
 obtain ⟨v,e,rfl⟩:=RM a;exact hw c d v e
def wt:List VL->Nat
 | []=>0
 |c::l=>1+c.XQ.length+c.XP.length+wt l
theorem wy: ∀a b:List VL,wt (a++b)=wt a+wt b
 | [],b=>by simp [wt]
 |c::a,b=>by rw [Wm,wt,wt,wy a b];omega
theorem aaX {l:List VL}(h:i<l.length):wt (l.take (i+1))=wt (l.take i)+(1+l[i].XQ.length+l[i].XP.length):=by
 rw [fK h,wy];simp [wt]
structure Wtd (m:Vw) (roots:List VH):Prop where
 le:roots.length+wt m.XS+wt m.XR<=2900
 cnt:m.XS.length+m.XR.length<=600
def ga (p:Int->Bool):List VH->List VH
 |k::v::r=>(bif p k.N then [k,v] else [])++ga p r
 |_=> []
theorem Ke (p:Int->Bool): ∀l:List VH,(ga p l).length<=l.length
 | []=>by simp [ga]
 | [_]=>by simp [ga]
 |k::v::r=>by
  have:=Ke p r;unfold ga;cases p k.N<;>simp<;>omega
theorem E7 {x:VH}: ∀{l:List VH},x∈ga p l->x∈l
 | [],h=>by simp [ga] at h
 | [_],h=>by simp [ga] at h
 | k::v::r,h=>by
  unfold ga at h;rcases WY.1 h with h|h
  ·cases a:p k.N with
   |false=>rw [a] at h;cases h
   |true=>rw [a] at h;simp at h;rcases h with h|h<;>simp [h]
  have:=E7 h;simp [this]
def md (l:List Int)(c:VL):VL:=bif jO N c then ⟨c.no,c.XV,c.XU,c.XW,c.XQ,ga (fun x=>decide (x∈l)) c.XP⟩ else c
theorem R9 (N:Nat)(l:List Int)(c:VL):(md N l c).XQ.length=c.XQ.length/\(md N l c).XP.length<=c.XP.length:=by
 unfold md;cases jO N c
 ·exact ⟨J,Xm _⟩
 exact ⟨J,Ke _ _⟩
theorem Sl {N:Nat}(h:v∈(md N l c).XQ++(md N l c).XP):v∈c.XQ++c.XP:=by
 unfold md at h;cases hw:jO N c
 ·rw [hw] at h;exact h
 rw [hw] at h;rcases WY.1 h with h|h
 ·exact VU _ h
 exact VV _ (E7 h)
theorem lZ {roots:List VH}(a:Small m roots)(h:az m x=true):in64 x:=by
 have d:=vK h;have c:=Bz a h;unfold in64;omega
def jm:VH:=⟨0,0,⟨#[]⟩⟩
def cZ (l:List Int):List VH->List VH
 |t::h::k::s::r=>(bif decide (t.N∈l) then [t,h,(bif decide (k.no=7)&& !decide (k.N∈l) then jm else k),s] else [])++cZ l r
 |_=> []
def ge (l:List Int)(a:VH):List VH->List VH
 |t::h::_::s::r=>(bif decide (t.N∈l) then [] else [a,h,s])++ge l a r
 |_=> []
theorem Ar (l:List Int)(t h k s:VH)(r:List VH):cZ l (t::h::k::s::r)=(bif decide (t.N∈l) then [t,h,(bif decide (k.no=7)&& !decide (k.N∈l) then jm else k),s] else [])++cZ l r:=Eq.trans rfl rfl
theorem SE (l:List Int)(a t h k s:VH)(r:List VH):ge l a (t::h::k::s::r)=(bif decide (t.N∈l) then [] else [a,h,s])++ge l a r:=Eq.trans rfl rfl
theorem EK (p:Int->Bool)(k v:VH)(r:List VH):ga p (k::v::r)=(bif p k.N then [k,v] else [])++ga p r:=Eq.trans rfl rfl
theorem NO (l:List Int)(a:VH): ∀xs:List VH,(cZ l xs).length+(ge l a xs).length<=xs.length
 | []=>by simp [cZ,ge]
 | [_]=>by simp [cZ,ge]
 | [_,_]=>by simp [cZ,ge]
 | [_,_,_]=>by simp [cZ,ge]
 |t::h::k::s::r=>by
  have:=NO l a r;unfold cZ ge;cases decide (t.N∈l)<;>simp<;>omega
def Ca (l:List Int)(c:VL):VL×List VH:=(⟨c.no,c.XV,c.XU,c.XW,c.XQ,c.XP.take 1++cZ l (c.XP.drop 1)⟩,ge l (c.XP.headD jm) (c.XP.drop 1))
theorem four {l:List VH}(h:4<=l.length): ∃t a k s r,l=t::a::k::s::r:=by
 match l,h with
 |t::a::k::s::r,_=>exact ⟨t,a,k,s,r,rfl⟩
def kA (a:Int):Bool:=decide (a.tmod 2=0)
def ms (a:Int):Bool:=decide (a.tmod 2=1)
def jh (live:List Int):List Int:=live.filter kA++live.filter ms
theorem AJ: ∀{l:List Int} {i:Nat} (hi:i<l.length),p l[i]=true->(l.filter p)[((l.take i).filter p).length]? =some l[i]
 |x::l,0,hi,h=>by
  simp only [List.getElem_cons_zero] at h;simp [h]
 |x::l,i+1,hi,h=>by
  simp only [List.getElem_cons_succ] at h;have a:=AJ (l:=l) (i:=i) (by simpa using hi) h;rw [Xg]
  cases c:p x with
  |true=>simp only [Ww,c,if_true,WP,WC,List.getElem_cons_succ];exact a
  |false=>simp only [Ww,c,Wa,if_false,List.getElem_cons_succ];exact a
theorem RL (hi:i<l.length):((l.take (i+1)).filter p).length=((l.take i).filter p).length+(bif p l[i] then 1 else 0):=by
 rw [fK hi,Wv,XI];cases h:p l[i]<;>simp [h]
theorem JS (N:Nat)(φ:Int×Int->σ->Option (Option Exit×σ))(live:List Int)(K:live.length<=2000)(L:6500<N)(m:Int->Int->Option Exit×σ->Option (Option Exit×σ))(b:Int)(p:Int->Bool)(C:∀a,p a=decide (a.tmod 2=b))(j:Int)(M:0<=j/\j<=2)(c:Nat)(D:c<=2000)(Inv:Nat->σ->Prop)(R:Option Exit×σ->Prop)(hstep:∀i (hi:i<live.length) s,p live[i]=true->Inv (c+((live.take i).filter p).length) s->Sat (φ (((c+((live.take i).filter p).length:Nat):Int),live[i]) s) fun r=>r.1=none/\Inv (c+((live.take i).filter p).length+1) r.2)(E:∀s,Inv (c+(live.filter p).length) s->Sat (m ((c+(live.filter p).length:Nat):Int) (j+1) (none,s)) R)(s:σ)(B:Inv c s):Sat (mD N m (dA φ) b j live N (c:Int) 0 (none,s)) R:=by
 have u: ∀i,((live.take i).filter p).length<=2000:=fun i=>Xn (WR _ _) (by rw [XJ];omega)
 refine ib (fun k i (st:Nat×σ)=>mD N m (dA φ) b j live k (st.1:Int) (i:Int) (none,st.2)) live.length (fun i st=>st.1=c+((live.take i).filter p).length/\Inv st.1 st.2) _ ?_ ?_ N 0 (c,s) W W ⟨by simp,B⟩
 ·rintro k i ⟨n,st⟩ hi ⟨f,l⟩ go;simp only at f l;have hb:=u i;show Sat (mD N m (dA φ) b j live (k+1) (n:Int) (i:Int) (none,st)) _;have d:=RL (p:=p) hi;rw [mD.eq_2,bG W,ct,bz hi,bs, <-C];unfold ye;rw [r64 (a:=(i:Int)+1) W W];cases q:p live[i]
  ·simp only [nf,ct];rw [q] at d;have t:=go (n,st) ⟨by show n=_;rw [d];exact f,l⟩
   first|rw [r64 (a:=(i:Int)+1) W W]|skip
   exact t
  simp only [nt,cf];rw [q] at d;obtain ⟨⟨e,o⟩,H,A,z⟩:=hstep i hi st q (by rw [<-f];exact l);simp only at A z;subst A
  have F:dA φ ((n:Int),live[i]) (none,st)=some (true,(none,o)):=by
   unfold dA;simp only;rw [f,H];rfl
  rw [F,bs];simp only [nt,cf];rw [r64 (a:=(n:Int)+1) W W];have t:=go (n+1,o) ⟨by show n+1=_;rw [d];show n+1=_+(_+1);omega,by show Inv (n+1) o;rw [f];exact z⟩
  first|rw [r64 (a:=(i:Int)+1) W W]|skip
  exact t
 rintro k ⟨n,st⟩ ⟨f,l⟩;simp only [XL] at f l;show Sat (mD N m (dA φ) b j live (k+1) (n:Int) _ (none,st)) _;rw [mD.eq_2,bI W,cf];unfold DZ;rw [r64 W W,f];exact E st (by rw [<-f];exact l)
theorem J6 (N:Nat)(φ:Int×Int->σ->Option (Option Exit×σ))(live:List Int)(j:live.length<=2000)(o:6500<N)(Inv:Nat->σ->Prop)(hstep:∀n a s,(jh live)[n]? =some a->Inv n s->Sat (φ ((n:Int),a) s) fun r=>r.1=none/\Inv (n+1) r.2)(s:σ)(l:Inv 0 s):Sat (pz N live (dA φ) (none,s)) fun r=>r.1=none/\Inv (jh live).length r.2:=by
 obtain ⟨k,rfl⟩: ∃k,N=k+3:=⟨N - 3,by omega⟩;have m:(live.filter kA).length<=2000:=Xn (WR _ _) j;unfold pz;rw [pt.eq_2,show ((([0,1]:List Int).length:Int))=2 from rfl,bG W,ct,show ak ([0,1]:List Int) 0=some 0 from rfl,bs];refine JS (k+3) φ live j W _ 0 kA (fun _=>J) 0 W 0 W Inv _ (fun i hi st f d=> ?_) (fun st c=> ?_) s l
 ·refine hstep _ _ _ ?_ d;unfold jh;rw [WA]
  ·rw [Xs];exact AJ hi f
  have:=(WH.1 (AJ hi f)).1;omega
 rw [pt.eq_2,show ((([0,1]:List Int).length:Int))=2 from rfl,bG W,ct,show ak ([0,1]:List Int) (0+1)=some 1 from rfl,bs];refine JS (k+3) φ live j W _ 1 ms (fun _=>J) (0+1) W (0+(live.filter kA).length) W Inv _ (fun i hi st f d=> ?_) (fun st c=> ?_) st c
 ·refine hstep _ _ _ ?_ d;unfold jh;rw [WB W,show 0+(live.filter kA).length+((live.take i).filter ms).length - (live.filter kA).length=((live.take i).filter ms).length by omega];exact AJ hi f
 rw [pt.eq_2,show ((([0,1]:List Int).length:Int))=2 from rfl,bI W,cf];refine ar ⟨J,?_⟩;unfold jh;rw [XI]
 have e:0+(live.filter kA).length+(live.filter ms).length=(live.filter kA).length+(live.filter ms).length:=by omega
 rw [<-e];exact c
theorem Tp {w:VH}(h:v.no=w.no):aZ v=aZ w:=by unfold aZ;rw [h]
def bH (c:VL):List Int:=cW c++ja c
def kr (c:VL):Bool:=(mP N c).getD false
theorem Tq (c:VL):(bH c).length<=c.XQ.length+2*c.XP.length:=by
 have d:=mT c;have a:=r7 c;unfold bH;rw [XI];omega
theorem Bd: ∀l:List VL,(l.flatMap bH).length<=2*wt l
 | []=>by simp [wt]
 |c::l=>by
  have d:=Bd l;have a:=Tq c;rw [Wy,XI,wt];omega
theorem So (N:Nat)(m:Vw)(l:List Int)(n:l.length<N)(a6:l.length<=6000)(a:∀x∈l,in64 x):kH N l (fun x=>rq N x m)=some (!dr m l):=by
 have key: ∀k i:Nat,l.length<k+i->i<=l.length->Sat (pg N (fun x=>rq N x m) l k (i:Int)) fun r=>decide (0<=r)=!(l.drop i).all (az m):=by
  intro k
  induction k with
  |zero=>intro i e c;omega
  | succ k j=>
   intro i e c;rw [pg.eq_2];by_cases hi:i<l.length
   ·have f:=j (i+1) W hi;rw [show (((i+1:Nat)):Int)=(i:Int)+1 by omega] at f;rw [bG W,ct,bz hi,bs,Wn hi,List.all_cons];unfold rq;rw [sx N m _ (a _ (XO _)),bs,bs,r64 W W];cases az m l[i]
    ·exact ar (by rw [VQ W];rfl)
    exact f
   rw [bI W,cf,Wo W];exact ar J
 obtain ⟨r,e,c⟩:=key N 0 W W;have d:pg N (fun x=>rq N x m) l N 0=some r:=e;unfold kH ya;rw [d,bs,c];unfold dr;simp
def iw (m:Vw)(roots:List VH):Int:=
 bif (m.XS++m.XR).all (kr N) then bif dr m ((m.XS++m.XR).flatMap bH++cc roots) then 0 else 50 else 51
theorem JY (N:Nat)(hN:6500<N){roots:List VH}(o:Small m roots)(O:Wtd m roots)(hw:W64 m)(hr:∀v∈roots,in64 v.N):rJ N m roots=some (iw N m roots):=by
 have S:=O.le;have a:=o.young;have H:=o.old;have h3:=o.roots
 have D: ∀(l:List VL),(∀c∈l,c∈m.XS++m.XR)-> ∀x∈l.flatMap bH,in64 x:=fun l E x d=>by
  obtain ⟨c,f,d⟩:=List.mem_flatMap.1 d;obtain ⟨⟨-,Z⟩, -,X⟩:=Fz o hw (E c f);exact (WY.1 d).elim (Z x) (X x)
 have j: ∀x∈cc roots,in64 x:=fun x d=>by
  obtain ⟨v,a, -,rfl⟩:=sj.1 d;exact hr v a
 have t: ∀k,(cc (roots.take k)).length<=roots.length:=fun k=>by
  unfold cc;rw [XK];exact Xn (WR _ _) (by rw [XJ];omega)
 -- the roots
 have hroots: ∀q:List Int,q.length+roots.length<=5800->(∀x∈q,in64 x)->zj N roots m q=some (bif dr m (q++cc roots) then 0 else 50):=by
  intro q P a6;apply Sat.eq;unfold zj;refine ib (fun k i (s:List Int)=>nK N roots m k s (i:Int)) roots.length (fun i s=>s=q++cc (roots.take i)) _ ?_ ?_ N 0 q W W (by simp [cc])
  ·rintro k i s hi a go;show Sat (nK N roots m (k+1) s (i:Int)) _
   have hnext:q++cc (roots.take (i+1))=s++cc [roots[i]]:=by rw [fK hi,Fw,a,VT]
   have A:s.length<=5800:=by have:=t i;rw [a,XI];omega
   rw [nK.eq_2,bG W,ct,bz hi,bs,Bi,bs];unfold yL;cases hb:aZ roots[i]
   ·rw [cf,r64 W W];exact go s (by rw [hnext];simp [cc,hb])
   rw [ct,rF (by simp;omega),r64 W W];exact go _ (by rw [hnext];simp [cc,hb])
  rintro k s a;show Sat (nK N roots m (k+1) s _) _;rw [XL] at a
  have A:s.length<=5800:=by have:=t roots.length;rw [XL] at this;rw [a,XI];omega
  rw [nK.eq_2,bI W,cf];unfold Ec;rw [So N m s W W (fun x d=>by rw [a] at d;exact (WY.1 d).elim (a6 x) (j x)),bs, <-a];cases dr m s<;>exact ar rfl
 -- one row
 have row: ∀(n:List Int->Int->Option Int) (p:Int) (l:List VL) (q:List Int),in64 (p+1)->l.length<=600->wt l<=2900->(∀c∈l,c∈m.XS++m.XR)->q.length<=6000->uD N n m p l roots N q 0=bif l.all (kr N) then n (q++l.flatMap bH) (p+1) else some 51:=by
  intro n p l q Q R E a8 P
  have key: ∀(k i:Nat),l.length<k+i->i<=l.length->uD N n m p l roots k (q++(l.take i).flatMap bH) (i:Int)=bif (l.drop i).all (kr N) then n (q++l.flatMap bH) (p+1) else some 51:=by
   intro k
   induction k with
   |zero=>intro i a H;omega
   | succ k K=>
    intro i h4 h5;have V:=Bd (l.take i)
    have L:wt (l.take i)<=wt l:=by
     have:=wy (l.take i) (l.drop i);rw [Xe] at this;omega
    by_cases hi:i<l.length
    ·have hm:=a8 l[i] (XO _);have f:=o.cells _ hm;have M:=aaX hi
     have hwt2:wt (l.take (i+1))<=wt l:=by
      have:=wy (l.take (i+1)) (l.drop (i+1));rw [Xe] at this;omega
     obtain ⟨b,hb, -⟩:=K8 N W l[i] W W
     have B:kr N l[i]=b:=by unfold kr;rw [hb];rfl
     have e1:=mT l[i];have e2:=r7 l[i];have F:=K (i+1) W hi;rw [show (((i+1:Nat)):Int)=(i:Int)+1 by omega] at F;rw [uD.eq_2,bG W,ct,bz hi,bs,FJ N W _ W W,hb,bs,pX N W _ W W,bs,XI,rF W,zU N W _ W W,bs,XI,XI,rF W,r64 W W]
     have C:q++(l.take i).flatMap bH++cW l[i]++ja l[i]=q++(l.take (i+1)).flatMap bH:=by
      rw [fK hi,Wx];simp [bH,VT]
     rw [C,F,Wn hi,List.all_cons,B];cases b<;>rfl
    have e:i=l.length:=by omega
    subst e;rw [uD.eq_2,bI W,cf,List.drop_length,XL];unfold Ea;rw [ce Q];rfl
  have:=key N 0 W W;simpa using this
 have u:wt m.XS<=2900:=by omega
 have z:wt m.XR<=2900:=by omega
 have T:=Bd m.XS;have U:=Bd m.XR;obtain ⟨k,rfl⟩: ∃k,N=k+3:=⟨N - 3,by omega⟩;unfold rJ iw;rw [uN.eq_2,show ((([m.XS,m.XR]:List VX).length:Int))=2 from rfl,bG W,ct,show ak ([m.XS,m.XR]:List VX) 0=some m.XS from rfl,bs,row _ 0 m.XS [] (by unfold in64;omega) a u (fun c f=>VU _ f) (by simp)];rw [uN.eq_2,show ((([m.XS,m.XR]:List VX).length:Int))=2 from rfl,bG W,ct,show ak ([m.XS,m.XR]:List VX) (0+1)=some m.XR from rfl,bs,XN,row _ (0+1) m.XR (m.XS.flatMap bH) (by unfold in64;omega) H z (fun c f=>VV _ f) W]
 rw [uN.eq_2,show ((([m.XS,m.XR]:List VX).length:Int))=2 from rfl,bI W,cf,hroots _ (by rw [XI];omega) (fun x d=>by
  rw [<-Wx] at d;exact D _ (fun c f=>f) x d),List.all_append,Wx]
 cases m.XS.all (kr (k+3))<;>cases m.XR.all (kr (k+3))<;>rfl
def cw (f:List Int)(a:Int):Int:=2*((f.idxOf a:Nat):Int)+2
def bd (ρ:Int->Int)(f:List Int)(v:VH):VH:=bif aZ v&&decide (v.N∈f) then ⟨v.no,ρ v.N,v.S⟩ else v
def cU (ρ:Int->Int)(f:List Int)(c:VL):VL:=⟨c.no,c.XV,c.XU,c.XW,c.XQ.map (bd ρ f),c.XP.map (bd ρ f)⟩
def RhoM (kv:List (Int×Int))(f:List Int):Prop:= ∀x,lk kv x=if x∈f then some (cw f x) else none
theorem Ao (N:Nat)(j:6500<N)(l:List VH)(e:l.length<=6000)(kv:List (Int×Int))(f:List Int)(d:RhoM kv f):kL N l kv=some (l.map (bd (cw f) f)):=by
 apply Sat.eq;unfold kL;refine ib (fun k i (s:List VH)=>nP N l kv k s (i:Int)) l.length (fun i s=>s=(l.take i).map (bd (cw f) f)) _ ?_ ?_ N 0 [] W W J
 ·rintro k i s hi a go;show Sat (nP N l kv (k+1) s (i:Int)) _
  have c:s.length<=i:=by rw [a,XK,XJ];omega
  have hnext:(l.take (i+1)).map (bd (cw f) f)=s++ [bd (cw f) f l[i]]:=by rw [fK hi,WV,a];rfl
  rw [nP.eq_2,bG W,ct,bz hi,bs,d l[i].N,Bi];unfold yF;by_cases hm:l[i].N∈f
  ·rw [if_pos hm];simp only [bs,Option.isSome_some,ct];cases hb:aZ l[i]
   ·rw [cf,rF (by simp;omega),r64 W W];refine go _ ?_;rw [hnext];unfold bd;rw [hb];rfl
   rw [ct,rF (by simp;omega),r64 W W];refine go _ ?_;rw [hnext];unfold bd;rw [hb,VQ hm];rfl
  rw [if_neg hm];simp only [bs,Option.isSome_none,cf];rw [rF (by simp;omega),r64 W W];refine go _ ?_;rw [hnext];unfold bd;rw [VR hm,Bool.and_false];rfl
 rintro k s a;show Sat (nP N l kv (k+1) s _) _;rw [nP.eq_2,bI W,cf];exact ar (by rw [a,XL])
def bJ (l:List Int)(c:VL):VL:=bif decide (c.no=8) then md N l c else bif decide (c.no=10) then (Ca l c).1 else c
def dy (l:List Int)(c:VL):List VH:=bif decide (c.no=10) then (Ca l c).2 else []
theorem oG (N:Nat)(l:List Int)(c:VL):(bJ N l c).XQ.length=c.XQ.length/\(bJ N l c).XP.length+(dy l c).length<=c.XP.length:=by
 unfold bJ dy;by_cases e:c.no=8
 ·rw [VQ e,VR (p:=c.no=10) W];have:=R9 N l c;simp only [cond_true,cond_false,WS];omega
 rw [VR e];by_cases d:c.no=10
 ·rw [VQ d];have:=NO l (c.XP.headD jm) (c.XP.drop 1);rw [WQ] at this;unfold Ca;refine ⟨J,?_⟩;show (c.XP.take 1++cZ l (c.XP.drop 1)).length+(ge l (c.XP.headD jm) (c.XP.drop 1)).length<=c.XP.length;rw [XI,XJ]
  cases hm:c.XP with
  |nil=>rw [hm] at this;simp [cZ,ge]
  |cons a r=>rw [hm] at this;simp only [WP] at this⊢;omega
 rw [VR d];simp
theorem RhoM.nil:RhoM [] []:=fun x=>rfl
theorem RhoM.add {kv:List (Int×Int)}(hi:i<f.length)(h:RhoM kv (f.take i))(d:f.Nodup):RhoM (dp kv f[i] (2*(i:Int)+2)) (f.take (i+1)):=by
 intro x
 have hlen:(f.take i).length=i:=by rw [XJ];omega
 have a:f[i]∉f.take i:=by
  intro hm;obtain ⟨j,l,e⟩:=WO hm;rw [XJ] at l;rw [List.getElem_take] at e;exact Xb.1 (List.nodup_iff_pairwise_ne.1 d) j i W hi W e
 rw [qt,fK hi];unfold cw;rw [List.idxOf_append];by_cases e:f[i]=x
 ·rw [if_pos e, <-e,if_pos (VV _ (by simp)),if_neg a];simp [hlen]
 rw [if_neg e,h x];by_cases hm:x∈f.take i
 ·rw [if_pos hm,if_pos (VU _ hm),if_pos hm];rfl
 rw [if_neg hm,if_neg (by simp only [WY,W8];exact fun c=>c.elim hm fun c=>e c.symm)]
structure Coll where
 next:Vw
 now:List VH
 gone:List VH
def wM (m:Vw)(roots:List VH)(live f:List Int):Coll:=
 ⟨⟨[],f.map fun a=>cU (cw f) f (bJ N live (am m a))⟩,roots.map (bd (cw f) f),(f.flatMap fun a=>dy live (am m a)).map (bd (cw f) f)⟩
structure Mild (g:VH->VH):Prop where
 z:g vZ=vZ
 kind: ∀v,(g v).no=v.no
 num: ∀v,v.no=3->g v=v
 may: ∀v,dm v=true->dm (g v)=true
section
variable {g:VH->VH}(h:Mild g)
include h
theorem Mild.at_ (l:List VH)(i:Nat):cm (l.map g) i=g (cm l i):=by
 unfold cm;simp only [List.getD,WI]
 cases l[i]? with
 |none=>exact h.z.symm
 |some v=>rfl
theorem Mild.numB (v:VH)(a b:Int):Go.Proofs.YthhiddkljcacaaaGreat.numB (g v) a b=Go.Proofs.YthhiddkljcacaaaGreat.numB v a b:=by
 unfold Go.Proofs.YthhiddkljcacaaaGreat.numB;by_cases c:v.no=3
 ·rw [h.num v c]
 rw [h.kind,VR c];rfl
theorem Mild.noneB (v:VH)(k:Int):Go.Proofs.YthhiddkljcacaaaGreat.noneB (g v) k=Go.Proofs.YthhiddkljcacaaaGreat.noneB v k:=by
 unfold Go.Proofs.YthhiddkljcacaaaGreat.noneB;rw [h.kind]
theorem Mild.ent2: ∀l:List VH,iC (l.map g)=iC l
 | []=>rfl
 | [_]=>rfl
 |k::v::r=>by
  simp only [WW];simp only [pR];rw [h.kind,h.kind,Mild.ent2 r]
theorem Mild.ent4: ∀l:List VH,fD (l.map g)=fD l
 | []=>rfl
 | [_]=>rfl
 | [_,_]=>rfl
 | [_,_,_]=>rfl
 |t::v::k::s::r=>by
  simp only [WW];simp only [pS];rw [h.kind,h.kind,h.noneB,h.numB,Mild.ent4 r]
theorem Mild.slots (k sh fl:Int)(l:List VH):ic k sh fl (l.map g)=ic k sh fl l:=by
 unfold ic;simp only [XK,h.at_,h.kind,h.noneB]
theorem Mild.more (k:Int)(l:List VH):ii k (l.map g)=ii k l:=by
 unfold ii;rw [<-List.map_drop,h.ent2,h.ent4];simp only [XK,h.at_,h.kind,h.noneB,h.numB]
theorem Mild.all {l:List VH}(a:l.all dm=true):(l.map g).all dm=true:=by
 rw [Wi] at a⊢;intro v c;obtain ⟨w,hw,rfl⟩:=W3.1 c;exact h.may w (a w hw)
theorem Mild.right (a:bT c=true):bT ⟨c.no,c.XV,c.XU,c.XW,c.XQ.map g,c.XP.map g⟩=true:=by
 unfold bT at a⊢;simp only [XM] at a;obtain ⟨j,i,f,e,d⟩:=a;simp only [h.slots,h.more,h.all i,h.all f,e,d,Bool.and_true];simp only [XM];exact j
end
theorem Nd (hb:aZ v=true):dm v=((v.S.toList==(⟨#[]⟩:ByteArray).toList)&&decide (1<=v.N)):=by
 have a:v.no=7\/v.no=9:=by
  unfold aZ at hb;rw [Bool.or_eq_true,XE,XE] at hb;exact hb
 unfold dm iG;rcases a with a|a<;>rw [a]<;>cases (v.S.toList==(⟨#[]⟩:ByteArray).toList)<;>rfl
structure Ren (ρ:Int->Int) (f:List Int):Prop where
 inj: ∀a b,a∈f->b∈f->ρ a=ρ b->a=b
 pos: ∀a∈f,1<=ρ a
theorem aal (hρ:Ren ρ f):Mild (bd ρ f) where
 z:=rfl
 kind v:=by unfold bd;cases aZ v&&decide (v.N∈f)<;>rfl
 num v h:=by
  have:aZ v=false:=by unfold aZ;rw [h];rfl
  unfold bd;rw [this];rfl
 may v h:=by
  cases hb:aZ v&&decide (v.N∈f) with
  |false=>unfold bd;rw [hb];exact h
  |true=>
   have a6:=(XM _ _▸hb:aZ v=true/\decide (v.N∈f)=true);have a8:=a6.1
   have e:bd ρ f v=⟨v.no,ρ v.N,v.S⟩:=by unfold bd;rw [hb];rfl
   have a:aZ (⟨v.no,ρ v.N,v.S⟩:VH)=true:=a8;rw [e,Nd a];rw [Nd a8,XM] at h;rw [XM];exact ⟨h.1,VQ (hρ.pos _ (XG a6.2))⟩
theorem Tv (hρ:Ren ρ f)(h:bT c=true):bT (cU ρ f c)=true:=(aal hρ).right h
theorem z7 (h:bT c=true):c.XQ.all dm=true/\c.XP.all dm=true/\ii c.no c.XP=true:=by
 unfold bT at h;simp only [XM] at h;exact ⟨h.2.1,h.2.2.1,h.2.2.2.2⟩
theorem J2 (h:bT c=true){m:List VH}(d:m.all dm=true)(a:ii c.no m=true):bT ⟨c.no,c.XV,c.XU,c.XW,c.XQ,m⟩=true:=by
 unfold bT at h⊢;simp only [XM] at h;obtain ⟨i,f,l,e,j⟩:=h;simp only [f,d,e,a,Bool.and_true];simp only [XM];exact i
theorem JQ (p:Int->Bool): ∀{l:List VH},iC l=true->iC (ga p l)=true
 | [],_=>rfl
 | [_],h=>by cases h
 |k::v::r,h=>by
  rw [pR] at h;rw [XM] at h;have a:=JQ p h.2;simp only [EK];cases p k.N
  ·exact a
  show iC (k::v::ga p r)=true;simp only [pR];rw [h.1,a];rfl
theorem KD (lv:List Int): ∀{l:List VH},fD l=true->fD (cZ lv l)=true
 | [],_=>rfl
 | [_],h=>by cases h
 | [_,_],h=>by cases h
 | [_,_,_],h=>by cases h
 | t::v::k::s::r,h=>by
  rw [pS] at h;rw [XM,XM,XM,XM] at h;obtain ⟨⟨⟨j,i⟩,f,e⟩,d⟩:=h;have a:=KD lv d;simp only [Ar];cases decide (t.N∈lv)
  ·exact a
  show fD (t::v::(bif decide (k.no=7)&& !decide (k.N∈lv) then jm else k)::s::cZ lv r)=true;simp only [pS]
  have c:noneB (bif decide (k.no=7)&& !decide (k.N∈lv) then jm else k) 7=true:=by
   cases decide (k.no=7)&& !decide (k.N∈lv)
   ·exact f
   rfl
  rw [j,i,c,e,a];rfl
theorem FD (lv:List Int){x:VH}: ∀{l:List VH},x∈cZ lv l->x∈l\/x=jm
 | [],h=>by simp [cZ] at h
 | [_],h=>by simp [cZ] at h
 | [_,_],h=>by simp [cZ] at h
 | [_,_,_],h=>by simp [cZ] at h
 | t::v::k::s::r,h=>by
  simp only [Ar] at h;rcases WY.1 h with h|h
  ·cases c:decide (t.N∈lv) with
   |false=>rw [c] at h;cases h
   |true=>
    rw [c] at h
    cases a:decide (k.no=7)&& !decide (k.N∈lv) with
    |false=>rw [a] at h;simp at h;rcases h with h|h|h|h<;>subst h<;>simp
    |true=>rw [a] at h;simp at h;rcases h with h|h|h|h<;>subst h<;>simp
  rcases FD lv h with h|h
  ·exact .inl (by simp [h])
  exact .inr h
theorem Ux:dm jm=true:=by kernel_rfl
theorem Ta (N:Nat)(lv:List Int)(h:bT c=true):bT (bJ N lv c)=true:=by
 obtain ⟨z,i,j⟩:=z7 h;unfold bJ;by_cases l:c.no=8
 ·rw [fj l,cond_true];unfold md;cases jO N c
  ·exact h
  refine J2 h (m:=ga (fun x=>decide (x∈lv)) c.XP) ?_ ?_
  ·rw [Wi] at i⊢;exact fun v d=>i v (E7 d)
  rw [l] at j⊢;exact JQ _ j
 rw [cE l,cond_false];by_cases e:c.no=10
 ·rw [fj e,cond_true];rw [e] at j;have f:(decide (1<=c.XP.length)&&decide ((cm c.XP 0).no=7)&&fD (c.XP.drop 1))=true:=j;simp only [XM,XE] at f;obtain ⟨⟨t,q⟩,p⟩:=f;refine J2 h (m:=c.XP.take 1++cZ lv (c.XP.drop 1)) ?_ ?_
  ·rw [Wi] at i⊢;intro v d;rcases WY.1 d with d|d
   ·exact i v (W5 d)
   rcases FD lv d with d|rfl
   ·exact i v (List.mem_of_mem_drop d)
   exact Ux
  rw [e];show (decide (1<=(c.XP.take 1++cZ lv (c.XP.drop 1)).length)&&decide ((cm (c.XP.take 1++cZ lv (c.XP.drop 1)) 0).no=7)&&fD ((c.XP.take 1++cZ lv (c.XP.drop 1)).drop 1))=true
  obtain ⟨a,r,hr⟩: ∃a r,c.XP=a::r:=by
   cases hm:c.XP with
   |nil=>rw [hm] at t;simp at t
   |cons a r=>exact ⟨a,r,rfl⟩
  rw [hr] at q p⊢;have u:(a::r).take 1++cZ lv ((a::r).drop 1)=a::cZ lv r:=rfl;rw [u];have n:fD r=true:=p;have o:a.no=7:=q;simp only [XM,XE];exact ⟨⟨by simp,o⟩,KD lv n⟩
 rw [cE e,cond_false];exact h
end
section
open Go.RowKit
def ba {α:Type}(g:α->Nat):List α->Nat
 | []=>0
 |a::l=>g a+ba g l
theorem qe (g:α->Nat): ∀a b:List α,ba g (a++b)=ba g a+ba g b
 | [],b=>by simp [ba]
 |c::a,b=>by rw [Wm,ba,ba,qe g a b];omega
theorem TF (g:α->Nat){a b:List α}(h:a.Perm b):ba g a=ba g b:=by
 induction h with
 |nil=>rfl
 |cons x _ c=>rw [ba,ba,c]
 |swap x y l=>rw [ba,ba,ba,ba];omega
 |trans _ _ e d=>rw [e,d]
theorem oD (g:Int->Nat): ∀{l L:List Int},l.Nodup->(∀x∈l,x∈L)->ba g l<=ba g L
 | [],_,_,_=>Xt _
 |a::l,L,i,d=>by
  obtain ⟨m,j⟩:=List.nodup_cons.1 i;have f:=List.perm_cons_erase (d a (by simp));rw [TF g f,ba,ba]
  have:=oD g (l:=l) (L:=L.erase a) j fun x c=>(List.mem_erase_of_ne (fun e:x=a=>m (by rw [<-e];exact c))).2 (d x (by simp [c]))
  omega
theorem mX (g:β->Nat)(f:α->β): ∀l:List α,ba g (l.map f)=ba (fun x=>g (f x)) l
 | []=>rfl
 |x::l=>by rw [WW,ba,ba,mX g f l]
theorem BI {g h:α->Nat}: ∀{l:List α},(∀x∈l,g x<=h x)->ba g l<=ba h l
 | [],_=>Xm _
 |x::l,a=>by
  rw [ba,ba];have e:=a x (by simp)
  have d:=BI (l:=l) fun y c=>a y (by simp [c])
  omega
theorem EZ (f:α->List β): ∀l:List α,(l.flatMap f).length=ba (fun x=>(f x).length) l
 | []=>rfl
 |x::l=>by rw [Wy,XI,ba,EZ f l]
theorem AR (g h:α->Nat): ∀l:List α,ba (fun x=>g x+h x) l=ba g l+ba h l
 | []=>rfl
 |x::l=>by rw [ba,ba,ba,AR g h l];omega
def wC (c:VL):Nat:=1+c.XQ.length+c.XP.length
theorem oL: ∀l:List VL,wt l=ba wC l
 | []=>rfl
 |c::l=>by rw [wt,ba,oL l];rfl
def jL (m:Vw):List Int:=(List.range m.XS.length).map (fun i:Nat=>2*(i:Int)+1)++(List.range m.XR.length).map (fun i:Nat=>2*(i:Int)+2)
theorem jJ (m:Vw)(i:Nat)(h:i<m.XS.length):am m (2*(i:Int)+1)=m.XS[i]:=by
 unfold am fc;rw [if_neg W,if_pos W,show ((2*(i:Int)+1 - 1) / 2).toNat=i by omega,WF h];rfl
theorem gN (m:Vw)(i:Nat)(h:i<m.XR.length):am m (2*(i:Int)+2)=m.XR[i]:=by
 unfold am fc;rw [if_neg W,if_neg W,show ((2*(i:Int)+2 - 2) / 2).toNat=i by omega,WF h];rfl
theorem qo (m:Vw)(i:Nat):az m (2*(i:Int)+1)=decide (i<m.XS.length):=by
 unfold az fc;rw [if_neg W,if_pos W,show ((2*(i:Int)+1 - 1) / 2).toNat=i by omega];by_cases h:i<m.XS.length
 ·rw [WF h,VQ h];rfl
 rw [WG W,VR h];rfl
theorem ko (m:Vw)(i:Nat):az m (2*(i:Int)+2)=decide (i<m.XR.length):=by
 unfold az fc;rw [if_neg W,if_neg W,show ((2*(i:Int)+2 - 2) / 2).toNat=i by omega];by_cases h:i<m.XR.length
 ·rw [WF h,VQ h];rfl
 rw [WG W,VR h];rfl
theorem FY (m:Vw):(jL m).map (am m)=m.XS++m.XR:=by
 unfold jL;rw [WV,List.map_map,List.map_map]
 congr 1
 ·refine List.ext_getElem (by simp) fun i c a=> ?_
  simp only [WN,List.getElem_range,Function.comp];exact jJ m i a
 refine List.ext_getElem (by simp) fun i c a=> ?_
 simp only [WN,List.getElem_range,Function.comp];exact gN m i a
theorem ip (h:az m a=true):(∃i:Nat,i<m.XS.length/\a=2*(i:Int)+1)\/ ∃i:Nat,i<m.XR.length/\a=2*(i:Int)+2:=by
 rcases JO m a with ⟨c,d⟩|⟨k,c, -⟩|⟨k,c, -⟩
 ·unfold az at h;rw [d] at h;cases h
 ·subst c;rw [qo] at h;exact .inl ⟨k,XG h,J⟩
 subst c;rw [ko] at h;exact .inr ⟨k,XG h,J⟩
theorem sD (h:az m a=true):a∈jL m:=by
 unfold jL;rcases ip h with ⟨i,c,rfl⟩|⟨i,c,rfl⟩
 ·exact VU _ (W3.2 ⟨i,W7.2 c,J⟩)
 exact VV _ (W3.2 ⟨i,W7.2 c,J⟩)
theorem UW (c:l.Nodup)(d:∀a∈l,az m a=true):ba (fun a=>wC (am m a)) l<=wt m.XS+wt m.XR:=by
 have i:=oD (fun a=>wC (am m a)) c fun a e=>sD (d a e)
 have f:=mX wC (am m) (jL m);rw [FY, <-oL,wy] at f;omega
theorem iY (h:az m a=true):am m a∈m.XS++m.XR:=by
 unfold az at h;unfold am
 cases d:fc m a with
 |none=>rw [d] at h;cases h
 |some c=>exact sg d
theorem LJ (h:0<a):a.tmod 2=0\/a.tmod 2=1:=by
 rw [ku W];omega
theorem Sk (d:∀a∈live,0<a)(a:Int):a∈jh live↔a∈live:=by
 unfold jh kA ms;rw [WY,W2,W2,XE,XE];constructor
 ·rintro (h|h)<;>exact h.1
 intro h;rcases LJ (d a h) with c|c
 ·exact .inl ⟨h,c⟩
 exact .inr ⟨h,c⟩
theorem JP: ∀{live:List Int},(∀a∈live,0<a)->(jh live).length=live.length
 | [],_=>rfl
 | a::l,f=>by
  have e:=JP (live:=l) fun b hb=>f b (by simp [hb])
  unfold jh at e⊢;rw [XI] at e⊢;rcases LJ (f a (by simp)) with h|h
  ·have d:kA a=true:=VQ h;have c:ms a=false:=VR W;simp only [Ww,d,c,if_true,Wa,if_false,WP];omega
  have d:kA a=false:=VR W;have c:ms a=true:=VQ h;simp only [Ww,d,c,if_true,Wa,if_false,WP];omega
theorem SX (h:live.Pairwise (· < ·)):(jh live).Pairwise fun a b=> ¬(a.tmod 2=1/\b.tmod 2=0)/\(a.tmod 2=b.tmod 2->a<b):=by
 have e: ∀a∈live.filter kA,a.tmod 2=0:=fun a c=>XG (W2.1 c).2
 have f: ∀a∈live.filter ms,a.tmod 2=1:=fun a c=>XG (W2.1 c).2
 unfold jh;refine List.pairwise_append.2 ⟨(h.filter _).imp_of_mem fun {a b} c hb d=>⟨fun i=> ?_,fun _=>d⟩,(h.filter _).imp_of_mem fun {a b} c hb d=>⟨fun i=> ?_,fun _=>d⟩,fun a c b hb=>⟨fun i=> ?_,fun i=> ?_⟩⟩
 ·have:=e a c;omega
 ·have:=f b hb;omega
 ·have:=e a c;omega
 have:=e a c;have:=f b hb;omega
theorem nc {p:α->Bool}{l:List α}(h:l.all p=true){x:α}(a:x∈l):p x=true:=Wi.1 h x a
theorem Kx {N:Nat}{roots:List VH}(h:iw N m roots=0):(∀c∈m.XS++m.XR,kr N c=true)/\(∀c∈m.XS++m.XR, ∀x∈bH c,az m x=true)/\ ∀x∈cc roots,az m x=true:=by
 unfold iw at h
 cases f:(m.XS++m.XR).all (kr N) with
 |false=>rw [f] at h;cases h
 | true=>
  rw [f] at h
  cases a:dr m ((m.XS++m.XR).flatMap bH++cc roots) with
  |false=>rw [a] at h;cases h
  |true=>
   unfold dr at a;refine ⟨fun c e=>nc f e,fun c e x d=>nc a (VU _ (List.mem_flatMap.2 ⟨c,e,d⟩)),fun x d=>nc a (VV _ d)⟩
theorem BE (h:c.no≠10):dy lv c=[]:=by
 unfold dy;rw [VR h];rfl
theorem sW {N:Nat}(d:c.no≠8)(a:c.no≠10):bJ N lv c=c:=by
 unfold bJ;rw [VR d,VR a];rfl
structure Live (N:Nat) (m:Vw) (roots:List VH) (live f:List Int):Prop where
 ord: ∃b all,IsOrder (pc N m) (cc roots) b all/\live=eQ all/\f=jh live
 prog:rU N m roots=some live
 mem: ∀a,a∈f↔a∈live
 len:f.length=live.length
 small:live.length<=1200
 nd:f.Nodup
 asc:live.Pairwise (· < ·)
 has: ∀a∈live,az m a=true
theorem TS (h:live.Pairwise (· < ·)):(jh live).Nodup:=by
 rw [List.nodup_iff_pairwise_ne];refine (SX h).imp fun {a b} c e=> ?_
 have:=c.2 (by rw [e]);omega
theorem aaU (N:Nat)(l:6500<N){roots:List VH}(i:Small m roots)(hw:W64 m)(hr:∀v∈roots,in64 v.N): ∃live f,Live N m roots live f:=by
 obtain ⟨bg,all,c,hlen, -, -,e⟩:=Tb N l i hw hr;have j:(eQ all).length=all.length:=vC all;have hmem:=qa all;have hasc:=Fk c.nodup.2
 have hhas: ∀a∈eQ all,az m a=true:=fun a d=>c.has.2 a ((hmem a).1 d)
 have hpos: ∀a∈eQ all,0<a:=fun a d=>vK (hhas a d)
 refine ⟨eQ all,jh (eQ all),⟨⟨_,all,c,J,J⟩,abs e W J,Sk hpos,JP hpos,by omega,TS hasc,hasc,hhas⟩⟩
theorem Live.fhas {N:Nat}{roots:List VH}(h:Live N m roots live f)(c:a∈f):az m a=true:=h.has a ((h.mem a).1 c)
theorem UV {N:Nat}{roots:List VH}(h:Live N m roots live f):(f.flatMap fun a=>dy live (am m a)).length+wt (f.map fun a=>cU (cw f) f (bJ N live (am m a)))<=wt m.XS+wt m.XR:=by
 have d:=UW h.nd fun a c=>h.fhas c
 rw [EZ,oL,mX, <-AR];refine Xn (BI fun a c=> ?_) d;have:=oG N live (am m a);unfold wC cU;simp only [XK];omega
def GV (m:Vw)(roots:List VH)(live f:List Int):Vw×List VH×List VH×Int:=
 bif decide (iw N m roots=0) then ((wM N m roots live f).next,(wM N m roots live f).now,(wM N m roots live f).gone,0) else (⟨[],[]⟩,[],[],iw N m roots)
theorem Rz (N:Nat)(j:6500<N){roots:List VH}(i:Small m roots)(E:Wtd m roots)(hw:W64 m)(hr:∀v∈roots,in64 v.N)(l:Live N m roots live f):yO N m roots=some (GV N m roots live f):=by
 apply Sat.eq;have O:=E.le;have hlen:=l.small;have P:=l.len;unfold yO GV;rw [JY N j i E hw hr,bs];by_cases A: ¬iw N m roots=0
 ·rw [cE A];exact ar J
 replace A:iw N m roots=0:=by omega
 rw [fj A];simp only [nt,cf,ct];obtain ⟨c1,c2,c3⟩:=Kx A;obtain ⟨_,_,_,M,d⟩:=l.ord;rw [l.prog,bs];unfold rO;rw [bs];refine Sat.bind (J6 N (fun x st=>yl N roots m live x st) live W j (fun n s=>RhoM s (f.take n)) ?_ [] ?_) ?_
 ·intro n a s c u;rw [<-d] at c;have q:=(WH.1 c).1;rw [WF q,Xy] at c;unfold yl;simp only;rw [r64 W W,r64 W W];refine ar ⟨J,?_⟩;rw [<-c];exact u.add q l.nd
 ·simpa using RhoM.nil
 rintro ⟨e,kv⟩ ⟨z,o⟩;simp only at z o;subst z;rw [<-d,XL] at o;unfold jp;simp only [bs]
 have R: ∀a∈f,(bJ N live (am m a)).XQ.length<=600/\(bJ N live (am m a)).XP.length<=2900:=fun a c=>by
  have u:=oG N live (am m a);have S:=i.at_ a;omega
 refine Sat.bind (J6 N (fun x st=>yo N roots m live (none,kv) x st) live W j (fun n s=>s=(f.take n).map (fun a=>cU (cw f) f (bJ N live (am m a)))) ?_ [] (by simp)) ?_
 ·rintro n a p c u;rw [<-d] at c;have q:=(WH.1 c).1;have C:a∈f:=W4 c;rw [WF q,Xy] at c
  have L:p.length<=2000:=by rw [u,XK,XJ];omega
  have B:=F8 N i a (lZ i (l.fhas C));have H:=i.at_ a;obtain ⟨F,t⟩:=i.kd a;unfold yo;simp only;rw [B,bs,cE F,cf,cE t,cf];unfold Ie;rw [Ao N j _ W kv f o,bs,Ao N j _ W kv f o,bs,rF (by simp;omega)];refine ar ⟨J,?_⟩;show p++_=_;rw [fK q,WV, <-u,c,List.map_singleton,sW F t];rfl
 rintro ⟨e,p⟩ ⟨z,D⟩;simp only at z D;subst z;rw [<-d,XL] at D;have K:=i.roots;simp only;rw [Ao N j _ W kv f o,bs,Ao N j _ (by simp) kv f o,bs];refine ar ?_
 have Q:(f.flatMap fun a=>dy live (am m a))=[]:=by
  rw [List.flatMap_eq_nil_iff];exact fun a _=>BE (i.kd a).2
 unfold wM;rw [D,Q]
theorem mc (h:a∈f):f.idxOf a<f.length:=List.idxOf_lt_length_iff.2 h
theorem lU (h:a∈f):f[f.idxOf a]'(mc h)=a:=List.getElem_idxOf (mc h)
theorem Nn {b:Int}(c:a∈f)(hb:b∈f)(h:cw f a=cw f b):a=b:=by
 unfold cw at h
 have e:f.idxOf a=f.idxOf b:=by omega
 have i:=lU c;have d:=lU hb;rw [<-i, <-d]
 congr 1
theorem F5 (f:List Int):Ren (cw f) f:=⟨fun _ _ e d c=>Nn e d c,fun a _=>by unfold cw;omega⟩
theorem Ga (ρ:Int->Int)(f:List Int)(v:VH):aZ (bd ρ f v)=aZ v:=Tp (by unfold bd;cases aZ v&&decide (v.N∈f)<;>rfl)
theorem jF (c:aZ v=true)(a:v.N∈f):bd ρ f v=⟨v.no,ρ v.N,v.S⟩:=by
 unfold bd;rw [c,VQ a];rfl
theorem BT: ∀{i:Nat} {l:List VH} {j:Nat} {v:VH},l[j]? =some v->F (i+j) v=true->v.N∈pick F i l
 |i,w::l,0,v,h,a=>by
  simp only [WD,Xy] at h;subst h;rw [sm];rw [Nat.add_zero] at a;rw [a];simp
 |i,w::l,j+1,v,h,a=>by
  simp only [WC] at h;rw [sm];exact VV _ (BT (i:=i+1) h (by rw [show i+1+j=i+(j+1) by omega];exact a))
 |i,[],j,v,h,_=>by simp at h
def fA (f:List Int)(l:List VH):Prop:= ∀v∈l,aZ v=true->v.N∈f
theorem LS (h:∀x∈cW c,x∈f):fA f c.XQ:=fun v a hb=>by
 obtain ⟨j,d,e⟩:=WO a;refine h _ (VU _ (BT (j:=j) (by rw [WF d,e]) hb))
theorem Bx (h:∀x∈cW c,x∈f){j:Nat}(a:c.XP[j]? =some v)(hw:iL c.no j=false)(hb:aZ v=true):v.N∈f:=
 h _ (VV _ (BT (j:=j) a (by rw [Xs,hw,hb];rfl)))
theorem Sz {k:Int}(c:k≠8)(a:k≠10)(i:Nat):iL k i=false:=by
 unfold iL;rw [cE c,cE a];rfl
theorem KP (a:∀x,x∈lv↔x∈f): ∀{l:List VH},iC l=true->(∀x∈opens (fun x=>decide (x∈lv)) l,x∈f)->fA f (ga (fun x=>decide (x∈lv)) l)
 | [],_,_=>fun v j=>by simp [ga] at j
 | [_],h,_=>by cases h
 | k::v::r,h,d=>by
  rw [pR] at h;rw [XM] at h;rw [JL] at d
  have e:=KP a h.2 fun x i=>d x (VV _ i)
  intro w hw hb;simp only [EK] at hw;rcases WY.1 hw with hw|hw
  ·cases c:decide (k.N∈lv) with
   |false=>rw [c] at hw;cases hw
   |true=>
    rw [c] at hw;simp only [cond_true,WZ,List.not_mem_nil,or_false] at hw;rcases hw with rfl|rfl
    ·exact (a _).1 (XG c)
    exact d _ (VU _ (by rw [hb,c];simp))
  exact e w hw hb
theorem Mz (c:∀x,x∈lv↔x∈f): ∀{l:List VH},fD l=true->(∀j v,l[4*j+1]? =some v->aZ v=true->v.N∈f)->fA f (cZ lv l)
 | [],_,_=>fun v p=>by simp [cZ] at p
 | [_],h,_=>by cases h
 | [_,_],h,_=>by cases h
 | [_,_,_],h,_=>by cases h
 | t ::a::k::s::r,h,n=>by
  rw [pS] at h;simp only [XM,XE] at h;obtain ⟨⟨⟨z, -⟩,d,m⟩,u⟩:=h
  have o:=Mz c u fun j v q hb=>n (j+1) v (by rw [show 4*(j+1)+1=4*j+1+4 by omega];simpa using q) hb
  intro w hw hb;simp only [Ar] at hw;rcases WY.1 hw with hw|hw
  ·cases i:decide (t.N∈lv) with
   |false=>rw [i] at hw;cases hw
   | true=>
    rw [i] at hw;simp only [cond_true,WZ,List.not_mem_nil,or_false] at hw;rcases hw with rfl|rfl|rfl|rfl
    ·exact (c _).1 (XG i)
    ·exact n 0 w J hb
    ·cases e:decide (k.no=7)&& !decide (k.N∈lv) with
     |true=>rw [e] at hb;cases hb
     | false=>
      rw [e] at hb;simp only [cond_false] at hb⊢
      have a6:k.no=7:=by
       unfold noneB at d;rw [Bool.or_eq_true,XE,XE] at d;rcases d with d|d
       ·unfold aZ at hb;rw [d] at hb;cases hb
       exact d
      rw [VQ a6,Wb] at e;exact (c _).1 (by by_cases hm:k.N∈lv;exact hm;rw [VR hm] at e;cases e)
    have:w.no=3:=by
     unfold numB at m;rw [XM,XE] at m;exact m.1
    unfold aZ at hb;rw [this] at hb;cases hb
  exact o w hw hb
structure CellOk (N:Nat) (lv f:List Int) (c:VL):Prop where
 big:6500<N
 right:bT c=true
 slots:c.XQ.length<=600
 more:c.XP.length<=2900
 leads: ∀x∈cW c,x∈f
 opens: ∀x∈iy N c lv,x∈f
 mem: ∀x,x∈lv↔x∈f
theorem Sa {N:Nat}(a:6500<N)(h:bT c=true)(d:c.XQ.length<=600)(e:c.XP.length<=2900):jO N c=decide (c.no=8):=by
 unfold jO;rw [vu N a c W W,h];cases decide (c.no=8)<;>rfl
theorem LN {N:Nat}(a:6500<N)(d:c.XQ.length<=600)(e:c.XP.length<=2900):kr N c=bT c:=by
 unfold kr;rw [vu N a c W W];rfl
section
variable {N:Nat}
theorem Ma:(bJ N lv c).no=c.no/\(bJ N lv c).XV=c.XV/\(bJ N lv c).XU=c.XU/\(bJ N lv c).XQ=c.XQ:=by
 unfold bJ md;cases decide (c.no=8)<;>cases decide (c.no=10)<;>cases jO N c<;>exact ⟨rfl,rfl,rfl,rfl⟩
theorem CellOk.new (hρ:Ren ρ f)(h:CellOk N lv f c):bT (cU ρ f (bJ N lv c))=true/\(cU ρ f (bJ N lv c)).XQ.length<=600/\(cU ρ f (bJ N lv c)).XP.length<=2900/\(cU ρ f (bJ N lv c)).no=c.no:=by
 have e:=oG N lv c;have d:=h.slots;have a:=h.more;exact ⟨Tv hρ (Ta N lv h.right),by unfold cU;simp only [XK];omega,by unfold cU;simp only [XK];omega,Ma.1⟩
theorem CellOk.ent2 (h:CellOk N lv f c)(a:c.no=8):iC c.XP=true:=by
 have:=(z7 h.right).2.2;rw [a] at this;exact this
theorem CellOk.ent4 (h:CellOk N lv f c)(d:c.no=10):1<=c.XP.length/\(cm c.XP 0).no=7/\fD (c.XP.drop 1)=true:=by
 have:=(z7 h.right).2.2;rw [d] at this;have a:(decide (1<=c.XP.length)&&decide ((cm c.XP 0).no=7)&&fD (c.XP.drop 1))=true:=this;simp only [XM,XE] at a;exact ⟨a.1.1,a.1.2,a.2⟩
theorem CellOk.wm (h:CellOk N lv f c):jO N c=decide (c.no=8):=Sa h.big h.right h.slots h.more
theorem CellOk.clC8 (h:CellOk N lv f c)(a:c.no=8):bJ N lv c=⟨c.no,c.XV,c.XU,c.XW,c.XQ,ga (fun x=>decide (x∈lv)) c.XP⟩:=by
 unfold bJ md;rw [h.wm,VQ a];rfl
theorem CellOk.clC10 (a:c.no=10):bJ N lv c=⟨c.no,c.XV,c.XU,c.XW,c.XQ,c.XP.take 1++cZ lv (c.XP.drop 1)⟩:=by
 unfold bJ;rw [VR (p:=c.no=8) W,VQ a];rfl
theorem CellOk.clC0 (d:c.no≠8)(a:c.no≠10):bJ N lv c=c:=by
 unfold bJ;rw [VR d,VR a];rfl
theorem CellOk.inC (h:CellOk N lv f c):fA f (bJ N lv c).XQ/\fA f (bJ N lv c).XP:=by
 refine ⟨by rw [Ma.2.2.2];exact LS h.leads,?_⟩;by_cases i:c.no=8
 ·rw [h.clC8 i];have n:=h.opens;unfold iy at n;rw [h.wm,VQ i,cond_true] at n;exact KP h.mem (h.ent2 i) n
 by_cases d:c.no=10
 ·rw [CellOk.clC10 d];obtain ⟨q,z,p⟩:=h.ent4 d
  obtain ⟨a,r,hr⟩: ∃a r,c.XP=a::r:=by
   cases hm:c.XP with
   |nil=>rw [hm] at q;simp at q
   |cons a r=>exact ⟨a,r,rfl⟩
  rw [hr] at p;have m:fD r=true:=p;intro v l hb
  have hv':v=a\/v∈cZ lv r:=by
   have:v∈a::cZ lv r:=by rw [hr] at l;exact l
   exact WZ.1 this
  rcases hv' with rfl|hv'
  ·refine Bx h.leads (j:=0) (by rw [hr];rfl) ?_ hb;unfold iL;rw [d];rfl
  refine Mz h.mem m (fun j w o hw=>Bx h.leads (j:=4*j+2) (by rw [hr,show 4*j+2=(4*j+1)+1 by omega,WC];exact o) ?_ hw) v hv' hb;unfold iL;rw [d]
  have u:(((4*j+2:Nat):Int) - 1).tmod 4=1:=by rw [Wf W];omega
  have t:((1:Int)).tmod 2=1:=rfl;rw [u,t];cases decide ((0:Int)<((4*j+2:Nat):Int))<;>rfl
 rw [CellOk.clC0 i d];intro v l hb;obtain ⟨j,o,e⟩:=WO l;exact Bx h.leads (j:=j) (by rw [WF o,e]) (Sz i d j) hb
end
end
section
open Go.RowKit
theorem wg (a:v∈c.XQ++c.XP)(hb:aZ v=true):v.N∈bH c:=by
 unfold bH;rcases WY.1 a with a|a
 ·exact VU _ (LS (f:=cW c) (fun x d=>d) v a hb)
 obtain ⟨j,i,e⟩:=WO a
 cases hw:iL c.no j with
 |false=>exact VU _ (Bx (f:=cW c) (fun x d=>d) (by rw [WF i,e]) hw hb)
 |true=>exact VV _ (BT (j:=j) (by rw [WF i,e]) (by rw [Xs,hw,hb];rfl))
theorem AE: ∀{l:List VH},x∈opens p l-> ∃v∈l,aZ v=true/\v.N=x
 | [],h=>by simp [opens] at h
 | [_],h=>by simp [opens] at h
 | k::v::l,h=>by
  rw [JL] at h;rcases WY.1 h with h|h
  ·cases a:aZ v&&p k.N with
   |false=>rw [a] at h;cases h
   |true=>
    rw [a] at h;rw [XM] at a;exact ⟨v,by simp,a.1,(W8.1 h).symm⟩
  obtain ⟨w,d,c⟩:=AE h;exact ⟨w,by simp [d],c⟩
structure CollCtx (N:Nat) (m:Vw) (roots:List VH) (live f:List Int):Prop where
 big:6500<N
 small:Small m roots
 tot:Wtd m roots
 w64:W64 m
 r64: ∀v∈roots,in64 v.N
 lv:Live N m roots live f
 right: ∀c∈m.XS++m.XR,bT c=true
 addr: ∀c∈m.XS++m.XR, ∀x∈bH c,az m x=true
 roots: ∀x∈cc roots,az m x=true
theorem acA {N:Nat}(j:6500<N){roots:List VH}(a:Small m roots)(e:Wtd m roots)(hw:W64 m)(hr:∀v∈roots,in64 v.N)(i:Live N m roots live f)(p:iw N m roots=0):CollCtx N m roots live f:=by
 obtain ⟨o,n,l⟩:=Kx p;exact ⟨j,a,e,hw,hr,i,fun c d=>by have:=a.cells c d;rw [<-LN (N:=N) W this.1 this.2];exact o c d,n,l⟩
section
variable {N:Nat}{roots:List VH}(h:CollCtx N m roots live f)
include h
theorem CollCtx.mem (x:Int):x∈live↔x∈f:=(h.lv.mem x).symm
theorem CollCtx.cell (i:a∈f):CellOk N live f (am m a):=by
 have hm:=iY (h.lv.fhas i);obtain ⟨b,all,p,d, -⟩:=h.lv.ord
 have hall: ∀x,x∈all↔x∈f:=fun x=>by rw [<-h.mem x,d];exact (qa all x).symm
 obtain ⟨n,l⟩:=p.closed;have j:=h.small.cells _ hm;have t:=h.big;refine ⟨by omega,h.right _ hm,j.1,j.2,fun x c=> ?_,fun x c=> ?_,h.mem⟩
 ·exact (hall x).1 (n a ((hall a).2 i) x c (h.addr _ hm x (VU _ c)))
 have e:iy N (am m a) live=iy N (am m a) all:=by
  unfold iy;rw [RN (q:=fun x=>decide (x∈all)) fun x=>ir (by rw [h.mem x];exact (hall x).symm)]
 rw [e] at c;refine (hall x).1 (l a ((hall a).2 i) x c ?_);unfold iy at c
 cases hw:jO N (am m a) with
 |false=>rw [hw] at c;cases c
 |true=>
  rw [hw] at c;obtain ⟨v,o,hb,rfl⟩:=AE c;exact h.addr _ hm _ (wg (VV _ o) hb)
theorem CollCtx.root (c:x∈cc roots):x∈f:=by
 obtain ⟨b,all,d,a, -⟩:=h.lv.ord;rw [<-h.mem x,a,qa];exact d.sub (d.roots c (h.roots x c))
theorem CollCtx.rootIn:fA f roots:=fun v a hb=>h.root (sj.2 ⟨v,a,hb,rfl⟩)
end
def dE (m:Vw)(live f:List Int):Vw:=⟨[],f.map fun a=>cU (cw f) f (bJ N live (am m a))⟩
theorem LB {N:Nat}(c:a∈f):az (dE N m live f) (cw f a)=true:=by
 unfold cw;rw [ko];exact VQ (by unfold dE;simp only [XK];exact mc c)
theorem aa6 {N:Nat}(c:a∈f):am (dE N m live f) (cw f a)=cU (cw f) f (bJ N live (am m a)):=by
 have e:cw f a=2*((f.idxOf a:Nat):Int)+2:=rfl;rw [e,gN _ _ (by unfold dE;simp only [XK];exact mc c)];unfold dE;simp only [WN];rw [lU c]
theorem Kw (c:f.length<=100000)(a:in64 v.N):in64 (bd (cw f) f v).N:=by
 unfold bd
 cases hb:aZ v&&decide (v.N∈f) with
 |false=>exact a
 |true=>
  rw [XM,XE] at hb;have:=mc hb.2;show in64 (cw f v.N);unfold cw in64;omega
theorem ML {N:Nat}(a:v∈(bJ N lv c).XQ++(bJ N lv c).XP):v∈c.XQ++c.XP\/v=jm:=by
 unfold bJ at a
 cases e:decide (c.no=8) with
 |true=>rw [e] at a;exact .inl (Sl a)
 | false=>
  rw [e] at a
  cases d:decide (c.no=10) with
  |false=>rw [d] at a;exact .inl a
  |true=>
   rw [d] at a;have hv':v∈c.XQ++(c.XP.take 1++cZ lv (c.XP.drop 1)):=a;rcases WY.1 hv' with hv'|hv'
   ·exact .inl (VU _ hv')
   rcases WY.1 hv' with hv'|hv'
   ·exact .inl (VV _ (W5 hv'))
   rcases FD lv hv' with hv'|hv'
   ·exact .inl (VV _ (List.mem_of_mem_drop hv'))
   exact .inr hv'
section
variable {N:Nat}{roots:List VH}(h:CollCtx N m roots live f)
include h
theorem CollCtx.flen:f.length<=1200:=by rw [h.lv.len];exact h.lv.small
theorem CollCtx.flen6:f.length<=600:=by
 have c:=oD (fun _=>1) h.lv.nd fun a i=>sD (h.lv.fhas i)
 have d: ∀l:List Int,ba (fun _=>1) l=l.length:=fun l=>by
  induction l with
  |nil=>rfl
  |cons x l e=>rw [ba,e,WP];omega
 rw [d,d] at c;have j:=h.tot.cnt;unfold jL at c;simp only [XI,XK,List.length_range] at c;omega
theorem CollCtx.nextW:W64 (dE N m live f):=fun c e v d=>by
 have i:=h.flen
 have hc':c∈f.map fun a=>cU (cw f) f (bJ N live (am m a)):=e
 obtain ⟨a,j,rfl⟩:=W3.1 hc'
 have hv':v∈((bJ N live (am m a)).XQ++(bJ N live (am m a)).XP).map (bd (cw f) f):=by rw [WV];exact d
 obtain ⟨w,hw,rfl⟩:=W3.1 hv';refine Kw W ?_;rcases ML hw with hw|rfl
 ·exact h.w64.at_ a w hw
 show in64 0;unfold in64;omega
theorem CollCtx.nextS (l:List VH)(i:l.length<=600):Small (dE N m live f) l:=by
 refine ⟨Xt _,?_,i,fun c d=> ?_,fun c d=> ?_⟩
 ·unfold dE;simp only [XK];exact h.flen6
 ·have hc':c∈f.map fun a=>cU (cw f) f (bJ N live (am m a)):=d
  obtain ⟨a,e,rfl⟩:=W3.1 hc';obtain ⟨-,n,j, -⟩:=(CellOk.new (F5 f) (h.cell e));exact ⟨n,j⟩
 have hc':c∈f.map fun a=>cU (cw f) f (bJ N live (am m a)):=d
 obtain ⟨a,e,rfl⟩:=W3.1 hc';rw [(CellOk.new (F5 f) (h.cell e)).2.2.2];exact h.small.kd a
end
theorem AW (c:∀i v,F i v=true->aZ v=true): ∀{i:Nat} {l:List VH},x∈pick F i l-> ∃v∈l,aZ v=true/\v.N=x
 |_,[],h=>by cases h
 | i,v::l,h=>by
  rw [sm] at h;rcases WY.1 h with h|h
  ·cases a:F i v with
   |false=>rw [a] at h;cases h
   |true=>rw [a] at h;exact ⟨v,by simp,c i v a,(W8.1 h).symm⟩
  obtain ⟨w,e,d⟩:=AW c h;exact ⟨w,by simp [e],d⟩
theorem vH (h:x∈bH c): ∃v∈c.XQ++c.XP,aZ v=true/\v.N=x:=by
 unfold bH cW ja at h;rcases WY.1 h with h|h
 ·rcases WY.1 h with h|h
  ·obtain ⟨v,d,a⟩:=AW (fun _ _ h=>h) h;exact ⟨v,VU _ d,a⟩
  obtain ⟨v,d,a⟩:=AW (fun i v h=>((XM _ _).mp h).2) h;exact ⟨v,VV _ d,a⟩
 obtain ⟨v,d,a⟩:=AW (fun i v h=>((XM _ _).mp h).2) h;exact ⟨v,VV _ d,a⟩
section
variable {N:Nat}{roots:List VH}(h:CollCtx N m roots live f)
include h
theorem CollCtx.now64: ∀v∈roots.map (bd (cw f) f),in64 v.N:=fun v a=>by
 have c:=h.flen;obtain ⟨w,hw,rfl⟩:=W3.1 a;exact Kw W (h.r64 w hw)
theorem CollCtx.newHas {l:List VH}(c:fA f l)(a:v∈l.map (bd (cw f) f))(hb:aZ v=true):az (dE N m live f) v.N=true:=by
 have _:=h;obtain ⟨w,hw,rfl⟩:=W3.1 a;rw [Ga] at hb;have:=c w hw hb;rw [jF hb this];exact LB this
theorem CollCtx.nextAddr (n:c∈f.map fun a=>cU (cw f) f (bJ N live (am m a))):bT c=true/\ ∀x∈bH c,az (dE N m live f) x=true:=by
 obtain ⟨a,e,rfl⟩:=W3.1 n;refine ⟨(CellOk.new (F5 f) (h.cell e)).1,fun x l=> ?_⟩;obtain ⟨v,d,hb,rfl⟩:=vH l;obtain ⟨j,i⟩:=(h.cell e).inC;rcases WY.1 d with d|d
 ·exact h.newHas j d hb
 exact h.newHas i d hb
end
end
section
open Go.RowKit
def bU (n:Nat):List Int:=(List.range n).map fun i:Nat=>2*(i:Int)+2
theorem TB (n:Nat):(bU n).Pairwise (· < ·):=by
 unfold bU;rw [List.pairwise_map];exact List.pairwise_lt_range.imp fun h=>by omega
theorem KB {n:Nat}(h:i<(bU n).length):(bU n)[i]=2*(i:Int)+2:=by simp [bU]
def lm (g:Gr)(live:List Int):List Int->List Int->List Int
 |row,[]=>row
 |row,a::avs=>lm g live (bV g.has row (g.opens live a)) avs
inductive MOrd (g:Gr) (olds kept:List Int):List Int->List Int->Prop
 |done {row:List Int}:lm g (olds++row) row (kept++row)=row->MOrd g olds kept row row
 |step {row r1 r:List Int}:lm g (olds++row) row (kept++row)≠row->Thr g (lm g (olds++row) row (kept++row)) row.length r1->MOrd g olds kept r1 r->MOrd g olds kept row r
structure IsMinor (g:Gr) (olds kept start b l:List Int):Prop where
 strong:Thr g (bV g.has [] start) 0 b
 all:MOrd g olds kept b l
theorem AB (g:Gr)(live:List Int): ∀(row avs:List Int), ∃t,lm g live row avs=row++t
 |row,[]=>⟨[],by simp [lm]⟩
 |row,a::avs=>by
  obtain ⟨t,e, -⟩:=ki g.has row (g.opens live a);obtain ⟨c,d⟩:=AB g live (bV g.has row (g.opens live a)) avs;exact ⟨t++c,by unfold lm;rw [d,e,VT]⟩
theorem KR {g:Gr}: ∀{row avs:List Int},lm g live row avs=row-> ∀a∈avs, ∀x∈g.opens live a,g.has x=true->x∈row
 | row,b::avs,h,a,c,x,d,f=>by
  have i:bV g.has row (g.opens live b)=row:=by
   obtain ⟨t,j, -⟩:=ki g.has row (g.opens live b);obtain ⟨l,p⟩:=AB g live (bV g.has row (g.opens live b)) avs
   have o:row++t++l=row:=by rw [<-j, <-p];exact h
   have n:=congrArg List.length o;simp only [XI] at n;have m:t=[]:=Wt W;rw [j,m,Wj]
  rcases WZ.1 c with e|c
  ·subst e;have:=sG row _ d f;rwa [i] at this
  refine KR (avs:=avs) ?_ a c x d f;unfold lm at h;rw [i] at h;exact h
theorem MOrd.app {g:Gr}{r:List Int}(h:MOrd g olds kept row r): ∃t,r=row++t:=by
 induction h with
 |done _=>exact ⟨[],by simp⟩
 |step _ f _ d=>
  rename_i row r1 _ _ _
  obtain ⟨t,rfl⟩:=d;obtain ⟨c,rfl⟩:=f.app;obtain ⟨a,e⟩:=AB g (olds++row) row (kept++row);exact ⟨a++c++t,by rw [e];simp [VT]⟩
theorem MOrd.closed {g:Gr}{r:List Int}(h:MOrd g olds kept row r)(c:CloG g row row.length):CloG g r r.length/\ ∀a∈kept++r, ∀x∈g.opens (olds++r) a,g.has x=true->x∈r:=by
 induction h with
 |done f=>exact ⟨c,KR f⟩
 |step _ i _ d=>
  rename_i row _ _ _ _
  obtain ⟨t,e⟩:=AB g (olds++row) row (kept++row);refine d (i.clo (by rw [e,XI];omega) ?_);rw [e];exact c.app (Xm _)
theorem IsMinor.start {g:Gr}{start b:List Int}(h:IsMinor g olds kept start b l)(a:x∈start)(c:g.has x=true):x∈l:=by
 obtain ⟨t,e⟩:=h.strong.app;obtain ⟨f,d⟩:=h.all.app;rw [d,e];exact VU _ (VU _ (sG _ _ a c))
theorem IsMinor.closed {g:Gr}{start b:List Int}(h:IsMinor g olds kept start b l):(∀a∈l, ∀x∈g.leads a,g.has x=true->x∈l)/\ ∀a∈kept++l, ∀x∈g.opens (olds++l) a,g.has x=true->x∈l:=by
 obtain ⟨m,j⟩:=h.all.closed (h.strong.clo (Xt _) fun i _ _ hi=>absurd hi W);refine ⟨fun a f x c d=> ?_,j⟩;obtain ⟨i,hi,e⟩:=WO f;exact m i a x hi (by rw [WF hi,e]) c d
def yB (a:Int):Bool:=decide (0<a)&&decide (a.tmod 2=1)
def mu (m:Vw):Gr:=⟨yB,fun a=>cW (am m a),fun live a=>iy N (am m a) live⟩
theorem vm (N:Nat)(a:Int):mL N a=some (yB a):=by
 unfold mL yB;cases decide (0<a)<;>cases decide (a.tmod 2=1)<;>rfl
theorem Gv (k:Nat):yB (2*(k:Int)+1)=true:=by
 unfold yB;rw [ku W,VQ W,VQ W];rfl
theorem Br (k:Nat):yB (2*(k:Int)+2)=false:=by
 unfold yB;rw [ku W,VR (p:=(2*(k:Int)+2)%2=1) W,Bool.and_false]
structure Mt (m:Vw) (met:List Int) (seen:List (Int×Bool)):Prop where
 nd:met.Nodup
 yng: ∀x∈met,yB x=true
 has: ∀x∈met,az m x=true
 mem: ∀x,(lk seen x).getD false=decide (x∈met)
theorem Mt.len {roots:List VH}(c:Small m roots)(h:Mt m met seen):met.length<=1200:=FL 1200 h.nd fun x a=>⟨by have:=vK (h.has x a);omega,by have:=Bz c (h.has x a);omega⟩
theorem Mt.nil (m:Vw):Mt m [] []:=⟨List.nodup_nil,by simp,by simp,fun x=>by simp;rfl⟩
theorem KN (N:Nat){roots:List VH}(i:Small m roots)(f:List Int)(nx:Int)(h:Mt m met seen)(a:Int)(l:yB a=true->az m a=true): ∃seen',mC N ⟨m,f,met,seen,nx⟩ a=some ⟨m,f,bV yB met [a],seen',nx⟩/\Mt m (bV yB met [a]) seen':=by
 have hlen:=h.len i;unfold mC;rw [vm,bs]
 dsimp only;rw [h.mem a];have j:bV yB met [a]=bif yB a&& !decide (a∈met) then met++ [a] else met:=rfl;rw [j]
 cases d:yB a with
 |false=>exact ⟨seen,rfl,h⟩
 | true=>
  by_cases hm:a∈met
  ·rw [VQ hm];exact ⟨seen,J,h⟩
  rw [VR hm];refine ⟨dp seen a true,?_,?_⟩
  ·simp only [ct,bs,nf];rw [rF (by simp;omega)];rfl
  refine ⟨W9.2 ⟨h.nd,by simp,fun x c y d e=>by rw [W8] at d;subst d;subst e;exact hm c⟩,fun x c=> ?_,fun x c=> ?_,fun x=> ?_⟩
  ·rcases WY.1 c with c|c
   ·exact h.yng x c
   rw [W8] at c;subst c;exact d
  ·rcases WY.1 c with c|c
   ·exact h.has x c
   rw [W8] at c;subst c;exact l d
  rw [qt];show _=decide (x∈met++ [a]);by_cases e:a=x
  ·rw [if_pos e,VQ (by simp [e])];rfl
  rw [if_neg e,h.mem x];exact ir ⟨fun c=>VU _ c,fun c=>(WY.1 c).elim id fun c=>absurd (W8.1 c).symm e⟩
theorem K5 {ρ:Type}(N:Nat){roots:List VH}(j:Small m roots)(l:List Int)(t:l.length<N)(a6:l.length<=5000)(o:∀x∈l,yB x=true->az m x=true)(L:Nat->Int->List VL->List VL->List Int->List Int->List (Int×Bool)->Int->Option ρ)(K:List VL->List VL->List Int->List Int->List (Int×Bool)->Int->Option ρ)(hrec:∀k i e O a met seen nx,L (k+1) i e O a met seen nx=bif decide (i<(l.length:Int)) then ((ak l i).bind fun x=>(mC N (⟨(⟨e,O⟩:Vw),a,met,seen,nx⟩:VG) x).bind fun y=>ae (in64 (i+1)) (L k (i+1) y.m_.XS y.m_.XR y.Yv y.Yi y.Yu y.Yn)) else K e O a met seen nx)(a:List Int)(nx:Int)(h:Mt m met seen)(R:ρ->Prop)(n:∀seen',Mt m (bV yB met l) seen'->Sat (K m.XS m.XR a (bV yB met l) seen' nx) R):Sat (L N 0 m.XS m.XR a met seen nx) R:=by
 refine ib (fun k i (s:List Int×List (Int×Bool))=>L k (i:Int) m.XS m.XR a s.1 s.2 nx) l.length (fun i s=>Mt m s.1 s.2/\s.1=bV yB met (l.take i)) R ?_ ?_ N 0 (met,seen) W W ⟨h,J⟩
 ·rintro k i ⟨mt,sn⟩ hi ⟨d,c⟩ go;simp only at d c;show Sat (L (k+1) (i:Int) m.XS m.XR a mt sn nx) R;obtain ⟨sn',q,p⟩:=KN N j a nx d l[i] (o _ (XO _));have f:mC N ⟨⟨m.XS,m.XR⟩,a,mt,sn,nx⟩ l[i]=some ⟨m,a,bV yB mt [l[i]],sn',nx⟩:=q;rw [hrec,bG W,ct,bz hi,bs,f,bs,r64 W W];exact go (bV yB mt [l[i]],sn') ⟨p,by show bV yB mt [l[i]]=_;rw [fK hi,sE, <-c]⟩
 rintro k ⟨mt,sn⟩ ⟨d,c⟩;simp only [XL] at d c;show Sat (L (k+1) _ m.XS m.XR a mt sn nx) R;rw [hrec,bI W,cf];subst c;exact n sn d
theorem vv (N:Nat){roots:List VH}(c:Small m roots)(d met:List Int)(seen:List (Int×Bool))(nx:Int)(e:az m a=true):jV N ⟨m,d,met,seen,nx⟩ a=some (am m a):=by
 have f:=c.young;have j:=c.old;unfold jV;rw [vm,bs];rcases ip e with ⟨i,hi,rfl⟩|⟨i,hi,rfl⟩
 ·rw [Gv,ct,th W,show (2*(i:Int)+1) / 2=i by omega,r64 W W,jJ m i hi,bz hi,bs]
 rw [Br,cf,th W,show (2*(i:Int)+2) / 2=(i:Int)+1 by omega,r64 W W,r64 W W,show (i:Int)+1 - 1=i by omega,gN m i hi,bz hi,bs]
def Whole (m:Vw):Prop:= ∀a,az m a=true-> ∀x∈bH (am m a),az m x=true
theorem Whole.leads (h:Whole m)(d:az m a=true): ∀x∈cW (am m a),az m x=true:=fun x c=>h a d x (VU _ c)
theorem Whole.opens (h:Whole m){N:Nat}(e:az m a=true): ∀x∈iy N (am m a) live,az m x=true:=fun x c=>by
 unfold iy at c
 cases hw:jO N (am m a) with
 |false=>rw [hw] at c;cases c
 |true=>
  rw [hw] at c;obtain ⟨v,d,hb,rfl⟩:=AE c;exact h a e _ (wg (VV _ d) hb)
theorem Rb (N:Nat)(D:6500<N){roots:List VH}(d:Small m roots)(hw:Whole m)(a:List Int)(h:Mt m met seen)(k:Nat)(u:k<=met.length):
  Sat (tY N ⟨m,a,met,seen,(k:Int)⟩) fun r=> ∃seen',r=⟨m,a,r.Yi,seen',(r.Yi.length:Int)⟩/\Mt m r.Yi seen'/\Thr (mu N m) met k r.Yi:=by
 unfold tY;refine Bl (fun f (s:List Int×List (Int×Bool)×Nat)=>mw N f m.XS m.XR a s.1 s.2.1 (s.2.2:Int)) (fun s=>1300 - s.2.2) (fun s=>Mt m s.1 s.2.1/\s.2.2<=s.1.length/\ ∀r,Thr (mu N m) s.1 s.2.2 r->Thr (mu N m) met k r) _ ?_ N (met,seen,k) (by show 1300 - k<N;omega) ⟨h,u,fun _ h=>h⟩;rintro f ⟨mt,sn,j⟩ ⟨c,B,l⟩ go;show Sat (mw N (f+1) m.XS m.XR a mt sn (j:Int)) _;simp only at c B l;have hlen:=c.len d;rw [mw.eq_2];by_cases i:j<mt.length
 ·have n:=c.has _ (XO i);have p:=d.at_ mt[j];have C:jV N ⟨⟨m.XS,m.XR⟩,a,mt,sn,(j:Int)⟩ mt[j]=some (am m mt[j]):=vv N d a mt sn (j:Int) n;have q:=mT (am m mt[j]);rw [bG W,ct,bz i,bs,C,bs,pX N W _ W W,bs]
  refine K5 N d (cW (am m mt[j])) W W (fun x o _=>hw.leads n x o) (xz N (mw N f) (cW (am m mt[j]))) (xy N (mw N f)) (fun _ _ _ _ _ _ _ _=>by rw [xz.eq_2]) a (j:Int) c _ fun sn' A=> ?_
  unfold xy;rw [r64 W W]
  have z:mt.length<=(bV yB mt (cW (am m mt[j]))).length:=by
   obtain ⟨t,e, -⟩:=ki yB mt (cW (am m mt[j]));rw [e,XI];omega
  exact go (bV yB mt (cW (am m mt[j])),sn',j+1) (by show 1300 - (j+1)<1300 - j;omega) ⟨A,by show j+1<=(bV yB mt (cW (am m mt[j]))).length;omega,fun r hr=>l r (.step (WF i) hr)⟩
 have:j=mt.length:=by omega
 subst this;rw [bI W,cf];exact ar ⟨sn,J,c,l _ (.done (Xm _))⟩
theorem Ka (N:Nat)(f:6500<N){roots:List VH}(d:Small m roots)(a:List Int)(nx:Int)(h:Mt m met seen):qU N ⟨m,a,met,seen,nx⟩=some (bU m.XR.length++met):=by
 apply Sat.eq;have e:=d.old;have hlen:=h.len d;unfold qU;refine ib (fun k i (s:List Int)=>qQ N ⟨m,a,met,seen,nx⟩ k s (i:Int)) m.XR.length (fun i s=>s=bU i) _ ?_ ?_ N 0 [] W W J
 ·rintro k i s hi rfl go;show Sat (qQ N ⟨m,a,met,seen,nx⟩ (k+1) (bU i) (i:Int)) _
  have c:(bU i).length=i:=by unfold bU;simp
  rw [qQ.eq_2,bG (by show (i:Int)<(m.XR.length:Int);omega),ct,r64 W W,r64 W W,rF (by simp;omega),r64 W W];refine go _ ?_;unfold bU;rw [List.range_succ,WV];rfl
 rintro k s rfl;show Sat (qQ N ⟨m,a,met,seen,nx⟩ (k+1) _ _) _
 have c:(bU m.XR.length).length=m.XR.length:=by unfold bU;simp
 rw [qQ.eq_2,bI (by show (m.XR.length:Int)<=(m.XR.length:Int);omega),cf];unfold DE;dsimp only;rw [rF W];exact ar J
theorem Jo (N:Nat)(a b:List Int)(c:a.length<=100000)(hb:b.length<=100000):uI N a b=some (a++b):=by
 unfold uI D5 Eb yy D0;rw [r64 W W,bI (a:=0+(a.length:Int)) W,cf,r64 W W,bI (a:=0+(a.length:Int)+(b.length:Int)) W,cf,r64 W W,r64 W W,cf];by_cases h:0<a.length+b.length
 ·rw [bG W,ct,ce ⟨by omega,by omega⟩,bs,rF (by simp;omega),rF (by simp;omega)];rfl
 rw [bI W,cf,bs,rF (by simp;omega),rF (by simp;omega)];rfl
theorem SM {N:Nat}(a:c.no≠8)(l:List Int):zQ N c l=some []:=by
 unfold zQ Fh;rw [cE a];rfl
theorem JW {N:Nat}{roots:List VH}(c:Small m roots)(live row:List Int): ∀l,lm (mu N m) live row l=row
 | []=>rfl
 |a::l=>by
  show lm (mu N m) live (bV yB row (iy N (am m a) live)) l=row;rw [Mi (c.kd a).1];exact JW c live row l
theorem Sc (N:Nat)(o:6500<N){roots:List VH}(c:Small m roots)(a:List Int)(l:∀x∈a,az m x=true)(j:a.length<=1200)(nx:Int)(h:Mt m met seen):uk N ⟨m,a,met,seen,nx⟩=some false:=by
 have hlen:=h.len c;unfold uk;rw [Ka N o c a nx h,bs]
 dsimp only;rw [Jo N a met W W,bs]
 have z:(a++met).length<=2400:=by rw [XI];omega
 have d: ∀x∈a++met,az m x=true:=fun x f=>(WY.1 f).elim (l x) (h.has x)
 generalize bU m.XR.length++met=live;generalize a++met=cs at*
 have key: ∀(k i:Nat),i<=cs.length->cs.length<i+k->qP N ⟨m,a,met,seen,nx⟩ cs live k (i:Int)=some false:=by
  intro k
  induction k with
  |zero=>intro i q p;omega
  | succ k e=>
   intro i q p;rw [qP.eq_2];rcases Xp i cs.length with hi|hi
   ·have u:jV N ⟨m,a,met,seen,nx⟩ cs[i]=some (am m cs[i]):=vv N c a met seen nx (d _ (XO hi));obtain ⟨n,rfl⟩: ∃n,N=n+1:=⟨N - 1,by omega⟩;rw [bG W,ct,bz hi,bs,u,bs,SM (c.kd _).1,bs,HP.eq_2]
    have t:decide ((0:Int)<((([]:List Int).length:Nat):Int))=false:=by decide
    rw [t,cf];unfold Dw;rw [r64 W W];exact e (i+1) W W
   rw [bI W,cf];unfold DC;rw [VR (Int.lt_irrefl _)]
 exact key N 0 (Xt _) W
def wG (m:Vw)(roots:List VH)(kept:List Int):List Int:=cc roots++kept.flatMap fun a=>cW (am m a)
theorem J9 (N:Nat)(v:VH):uF N v=some (v.N,aZ v):=by
 unfold uF;rw [Bi,bs]
theorem SU (N:Nat)(t:6500<N){roots:List VH}(e:Small m roots)(hw:Whole m)(hr:∀x∈cc roots,az m x=true)(kept:List Int)(p:∀x∈kept,az m x=true)(f:kept.length<=1200):
  Sat (r9 N m roots kept) fun r=> ∃seen nx b,r=⟨m,kept,r.Yi,seen,nx⟩/\Mt m r.Yi seen/\IsMinor (mu N m) (bU m.XR.length) kept (wG m roots kept) b r.Yi:=by
 have B:=e.roots
 -- the passes
 have passes: ∀(b:List Int) (seen:List (Int×Bool)),Mt m b seen->Thr (mu N m) (bV yB [] (wG m roots kept)) 0 b->Sat (zk N N m.XS m.XR kept b seen (b.length:Int)) fun r=> ∃seen nx b,r=⟨m,kept,r.Yi,seen,nx⟩/\Mt m r.Yi seen/\IsMinor (mu N m) (bU m.XR.length) kept (wG m roots kept) b r.Yi:=by
  intro b seen h hb;obtain ⟨n,rfl⟩: ∃n,N=n+1:=⟨N - 1,by omega⟩;have F:uk (n+1) ⟨⟨m.XS,m.XR⟩,kept,b,seen,(b.length:Int)⟩=some false:=Sc (n+1) t e kept p f (b.length:Int) h;rw [zk.eq_2,F,bs,cf];exact ar ⟨seen,(b.length:Int),b,J,h,⟨hb,.done (JW e _ _ _)⟩⟩
 -- the kept cells
 have keptL: ∀(row:List Int) (seen:List (Int×Bool)),Mt m row seen->row=bV yB [] (cc roots)->Sat (kM N kept N 0 m.XS m.XR kept row seen 0) fun r=> ∃seen nx b,r=⟨m,kept,r.Yi,seen,nx⟩/\Mt m r.Yi seen/\IsMinor (mu N m) (bU m.XR.length) kept (wG m roots kept) b r.Yi:=by
  intro row seen h hrow;refine ib (fun k i (s:List Int×List (Int×Bool))=>kM N kept k (i:Int) m.XS m.XR kept s.1 s.2 0) kept.length (fun i s=>Mt m s.1 s.2/\s.1=bV yB [] (cc roots++(kept.take i).flatMap fun a=>cW (am m a))) _ ?_ ?_ N 0 (row,seen) W W ⟨h,by simpa using hrow⟩
  ·rintro k i ⟨mt,sn⟩ hi ⟨c,d⟩ go;simp only at c d;show Sat (kM N kept (k+1) (i:Int) m.XS m.XR kept mt sn 0) _;have q:=p _ (XO hi);have A:=e.at_ kept[i];have o:jV N ⟨⟨m.XS,m.XR⟩,kept,mt,sn,0⟩ kept[i]=some (am m kept[i]):=vv N e kept mt sn 0 q;have C:=mT (am m kept[i]);rw [kM.eq_2,bG W,ct,bz hi,bs,o,bs,pX N W _ W W,bs];refine K5 N e (cW (am m kept[i])) W W (fun x z _=>hw.leads q x z) (zx N (kM N kept k) kept (i:Int) (cW (am m kept[i]))) (zr N (kM N kept k) kept (i:Int)) (fun _ _ _ _ _ _ _ _=>by rw [zx.eq_2]) kept 0 c _ fun sn' j=> ?_
   unfold zr;rw [r64 W W];refine go (bV yB mt (cW (am m kept[i])),sn') ⟨j,?_⟩;show bV yB mt (cW (am m kept[i]))=_;rw [fK hi,Wx, <-VT,sE, <-d];simp
  rintro k ⟨mt,sn⟩ ⟨c,d⟩;simp only [XL] at c d;show Sat (kM N kept (k+1) _ m.XS m.XR kept mt sn 0) _;rw [kM.eq_2,bI W,cf];unfold Ew;refine Sat.bind (Rb N t e hw kept c 0 (Xt _)) ?_;rintro r ⟨sn3,D,j,u⟩;rw [D];dsimp only;exact passes r.Yi sn3 j (by rw [d] at u;exact u)
 -- the roots
 unfold r9;refine ib (fun k i (s:List Int×List (Int×Bool))=>nU N roots kept k (i:Int) m.XS m.XR kept s.1 s.2 0) roots.length (fun i s=>Mt m s.1 s.2/\s.1=bV yB [] (cc (roots.take i))) _ ?_ ?_ N 0 ([],[]) W W ⟨Mt.nil m,J⟩
 ·rintro k i ⟨mt,sn⟩ hi ⟨c,d⟩ go;simp only at c d;show Sat (nU N roots kept (k+1) (i:Int) m.XS m.XR kept mt sn 0) _
  have hnext:bV yB [] (cc (roots.take (i+1)))=bV yB mt (cc [roots[i]]):=by
   rw [fK hi,Fw,sE, <-d]
  rw [nU.eq_2,bG W,ct,bz hi,bs,J9,bs];dsimp only;unfold zu;cases hb:aZ roots[i]
  ·rw [cf,r64 W W];refine go (mt,sn) ⟨c,?_⟩;show mt=_;rw [hnext];simp [cc,hb,bV]
  rw [ct];have hroot:az m roots[i].N=true:=hr _ (sj.2 ⟨_,XO _,hb,rfl⟩);obtain ⟨sn',o,E⟩:=KN N e kept 0 c roots[i].N fun _=>hroot
  have l:mC N ⟨⟨m.XS,m.XR⟩,kept,mt,sn,0⟩ roots[i].N=_:=o;rw [l,bs]
  dsimp only;rw [r64 W W];refine go (bV yB mt [roots[i].N],sn') ⟨E,?_⟩;show bV yB mt [roots[i].N]=_;rw [hnext];simp [cc,hb]
 rintro k ⟨mt,sn⟩ ⟨c,d⟩;simp only [XL] at c d;show Sat (nU N roots kept (k+1) _ m.XS m.XR kept mt sn 0) _;rw [nU.eq_2,bI W,cf];unfold EE;exact keptL mt sn c d
def jr (m:Vw)(kept:List Int):Bool:=(List.range m.XR.length).all fun i=> !(bH (am m (2*(i:Int)+2))).any yB||decide ((2*(i:Int)+2)∈kept)
def kV (m:Vw)(kept:List Int):Bool:=kept.all (fun a=> !yB a&&az m a)&&decide (kept.Pairwise (· < ·))
def sV (m:Vw):Bool:=(m.XS++m.XR).all (qq N m)
def lu (m:Vw)(roots:List VH)(kept:List Int):Bool:=dr m (cc roots)&&sV N m&&kV m kept&&jr m kept
theorem Jt (N:Nat)(a:6500<N)(c:VL)(d:c.XQ.length<=600)(e:c.XP.length<=2900):uy N c=some (bH c):=by
 have i:=mT c;have f:=r7 c;unfold uy;rw [pX N a c W W,bs,zU N a c W W,bs,rF W];rfl
theorem wa (N:Nat)(f:Int->Option Bool)(p:Int->Bool)(l:List Int)(n:l.length<N)(a6:l.length<=6500)(m:∀x∈l,f x=some (p x)):kH N l f=some (l.any p):=by
 have key: ∀k i:Nat,l.length<k+i->i<=l.length->Sat (pg N f l k (i:Int)) fun r=>decide (0<=r)=(l.drop i).any p:=by
  intro k
  induction k with
  |zero=>intro i d a;omega
  | succ k j=>
   intro i d a;rw [pg.eq_2];by_cases hi:i<l.length
   ·have e:=j (i+1) W hi;rw [show (((i+1:Nat)):Int)=(i:Int)+1 by omega] at e;rw [bG W,ct,bz hi,bs,Wn hi,List.any_cons,m _ (XO _),bs,r64 W W];cases p l[i]
    ·exact e
    exact ar (by rw [VQ W];rfl)
   rw [bI W,cf,Wo W];exact ar J
 obtain ⟨r,d,a⟩:=key N 0 W W;have c:pg N f l N 0=some r:=d;unfold kH ya;rw [c,bs,a];rfl
theorem Nr (N:Nat)(f:VH->Option Bool)(p:VH->Bool)(l:List VH)(n:l.length<N)(a6:l.length<=6500)(m:∀x∈l,f x=some (p x)):qK N l f=some (l.any p):=by
 have key: ∀k i:Nat,l.length<k+i->i<=l.length->Sat (tT N f l k (i:Int)) fun r=>decide (0<=r)=(l.drop i).any p:=by
  intro k
  induction k with
  |zero=>intro i d a;omega
  | succ k j=>
   intro i d a;rw [tT.eq_2];by_cases hi:i<l.length
   ·have e:=j (i+1) W hi;rw [show (((i+1:Nat)):Int)=(i:Int)+1 by omega] at e;rw [bG W,ct,bz hi,bs,Wn hi,List.any_cons,m _ (XO _),bs,r64 W W];cases p l[i]
    ·exact e
    exact ar (by rw [VQ W];rfl)
   rw [bI W,cf,Wo W];exact ar J
 obtain ⟨r,d,a⟩:=key N 0 W W;have c:tT N f l N 0=some r:=d;unfold qK Dn;rw [c,bs,a];rfl
theorem BR (p:α->Bool): ∀l:List α,l.any (fun x=> !p x)=!l.all p
 | []=>rfl
 |x::l=>by rw [List.any_cons,List.all_cons,BR p l];cases p x<;>rfl
theorem Jf (N:Nat)(a b:List VL)(c:a.length<=100000)(hb:b.length<=100000):ua N a b=some (a++b):=by
 unfold ua Dx DH xE Dq;rw [r64 W W,bI (a:=0+(a.length:Int)) W,cf,r64 W W,bI (a:=0+(a.length:Int)+(b.length:Int)) W,cf,r64 W W,r64 W W,cf];by_cases h:0<a.length+b.length
 ·rw [bG W,ct,ce ⟨by omega,by omega⟩,bs,rF (by simp;omega),rF (by simp;omega)];rfl
 rw [bI W,cf,bs,rF (by simp;omega),rF (by simp;omega)];rfl
theorem SI (N:Nat)(l:6500<N){roots:List VH}(a:Small m roots)(hw:W64 m):zo N m=some (sV N m):=by
 have o:=a.young;have n:=a.old;unfold zo sV;rw [Jf N _ _ W W,bs]
 have j:(m.XS++m.XR).length<=1200:=by rw [XI];omega
 refine Li (fun k i=>zm N (m.XS++m.XR) m k i) (m.XS++m.XR) _ (fun k i h=> ?_) (fun k=> ?_) N W
 ·have hm:(m.XS++m.XR)[i]∈m.XS++m.XR:=XO _;have d:=a.cells _ hm;obtain ⟨⟨a1,a2⟩,p,a4⟩:=Fz a hw hm;rw [zm.eq_2,bG W,ct,bz h,bs];generalize (m.XS++m.XR)[i]=c at*;obtain ⟨b,hb, -⟩:=K8 N W c W W
  rw [FJ N W _ W W,hb,bs,Jt N W c d.1 d.2,bs,wa N _ (fun x=> !az m x) (bH c) (by unfold bH;rw [XI];omega) (by unfold bH;rw [XI];omega) (fun x f=>by
   unfold D4;rw [sx N m x ((WY.1 f).elim (a2 x) (a4 x)),bs]),BR]
  unfold qq;rw [hb,r64 W W]
  have e:(bH c).all (az m)=(dr m (cW c)&&dr m (ja c)):=by unfold bH dr;rw [List.all_append]
  rw [e];cases b<;>cases dr m (cW c)&&dr m (ja c)<;>rfl
 rw [zm.eq_2,bI W,cf];rfl
theorem aay (l:List Int):decide (l.Pairwise (· < ·))=(List.range l.length).all fun i=>decide (i=0)||decide (l.getD (i - 1) 0<l.getD i 0):=by
 rw [Bool.eq_iff_iff,XE,Wi];constructor
 ·intro h i hi;rw [W7] at hi;by_cases f:i=0
  ·rw [VQ f];rfl
  have:=Xb.1 h (i - 1) i W hi W;rw [VQ (p:=l.getD (i - 1) 0<l.getD i 0) (by simpa [List.getD,hi,show i - 1<l.length by omega] using this),Bool.or_true]
 intro h;refine Xb.2 fun i j hi d e=> ?_
 have step: ∀k,i+k+1<l.length->l[i]'hi<l.getD (i+k+1) 0:=by
  intro k
  induction k with
  |zero=>
   intro a;have:=h (i+1) (W7.2 a);rw [VR (p:=i+1=0) W,Bool.false_or,XE,Nat.add_sub_cancel] at this;simpa [List.getD,hi] using this
  |succ k c=>
   intro a;have m:=c W;have:=h (i+k+1+1) (W7.2 W);rw [VR (p:=i+k+1+1=0) W,Bool.false_or,XE,Nat.add_sub_cancel] at this;show l[i]'hi<l.getD (i+k+1+1) 0;omega
 have:=step (j - i - 1) W;rw [show i+(j - i - 1)+1=j by omega] at this;simpa [List.getD,d] using this
theorem KY (N:Nat)(n:6500<N){roots:List VH}(f:Small m roots)(hw:W64 m)(hr:∀v∈roots,in64 v.N)(kept:List Int)(z:kept.length<=5000)(a6:∀x∈kept,in64 x):vi N m roots kept=some (lu N m roots kept):=by
 have D:=f.roots;have C:=f.old
 -- the old cells
 have olds:rK N kept m=some (jr m kept):=by
  unfold rK jr;have c:(List.range m.XR.length).length=m.XR.length:=List.length_range;refine Li (fun k i=>zw N m kept k i) (List.range m.XR.length) _ (fun k i h=> ?_) (fun k=> ?_) N W
  ·rw [c] at h;have hm:m.XR[i]∈m.XS++m.XR:=VV _ (XO _);have j:=f.cells _ hm;obtain ⟨⟨a1,a2⟩,E,a4⟩:=Fz f hw hm;rw [zw.eq_2,bG W,ct,bz h,bs,Jt N W _ j.1 j.2,bs,wa N _ yB (bH m.XR[i]) (by unfold bH;rw [XI];omega) (by unfold bH;rw [XI];omega) (fun x _=>vm N x),bs,r64 (a:=2*(i:Int)) W W,r64 (a:=2*(i:Int)+2) W W,I1 N n kept z,bs,r64 W W,List.getElem_range,gN m i h];cases (bH m.XR[i]).any yB<;>cases decide ((2*(i:Int)+2)∈kept)<;>rfl
  rw [c,zw.eq_2,bI W,cf];rfl
 -- the kept addresses
 have hkept:uU N kept m N 0=bif kV m kept then rK N kept m else some false:=by
  have c:(List.range kept.length).length=kept.length:=List.length_range;have:=AA (fun k i=>uU N kept m k i) (List.range kept.length) (fun i=>(!yB (kept.getD i 0)&&az m (kept.getD i 0))&&(decide (i=0)||decide (kept.getD (i - 1) 0<kept.getD i 0))) (some false) (rK N kept m) (fun k i h=> ?_) (fun k=> ?_) N W
  ·rw [this]
   have e:((List.range kept.length).all fun i=>(!yB (kept.getD i 0)&&az m (kept.getD i 0))&&(decide (i=0)||decide (kept.getD (i - 1) 0<kept.getD i 0)))=kV m kept:=by
    unfold kV;rw [aay]
    have B:kept.all (fun a=> !yB a&&az m a)=(List.range kept.length).all fun i=> !yB (kept.getD i 0)&&az m (kept.getD i 0):=by
     rw [Bool.eq_iff_iff,Wi,Wi];constructor
     ·intro h i hi;rw [W7] at hi
      have:kept.getD i 0=kept[i]:=by simp [List.getD,hi]
      rw [this];exact h _ (XO _)
     intro h x q;obtain ⟨i,hi,rfl⟩:=WO q;have:=h i (W7.2 hi)
     rwa [show kept.getD i 0=kept[i] by simp [List.getD,hi]] at this
    rw [B]
    induction List.range kept.length with
    |nil=>rfl
    |cons a l p=>rw [List.all_cons,List.all_cons,List.all_cons,p];cases (!yB (kept.getD a 0)&&az m (kept.getD a 0))<;>cases (decide (a=0)||decide (kept.getD (a - 1) 0<kept.getD a 0))<;>simp
   rw [e]
  ·rw [c] at h
   have A:kept.getD i 0=kept[i]:=by simp [List.getD,h]
   rw [uU.eq_2,bG W,ct,bz h,bs,vm,bs,sx N m _ (a6 _ (XO _)),r64 (a:=(i:Int)+1) W W,List.getElem_range,A];by_cases o:i=0
   ·subst o;rw [bI (a:=0) (b:=((0:Nat):Int)) W];cases yB kept[0]<;>cases az m kept[0]<;>rfl
   have u:ak kept ((i:Int) - 1)=some (kept.getD (i - 1) 0):=by
    have:=bz (xs:=kept) (i:=i - 1) W;rw [show (((i - 1:Nat)):Int)=(i:Int) - 1 by omega] at this;rw [this];simp [List.getD,show i - 1<kept.length by omega]
   rw [bG (a:=0) (b:=(i:Int)) W,ct,r64 (a:=(i:Int) - 1) W W,u,VR o];simp only [bs];by_cases d:kept.getD (i - 1) 0<kept[i]
   ·rw [G0 d,VQ d];cases yB kept[i]<;>cases az m kept[i]<;>rfl
   rw [G3 W,VR d];cases yB kept[i]<;>cases az m kept[i]<;>rfl
  rw [c,uU.eq_2,bI W,cf]
 have hroots:qK N roots (fun x=>zi N x m)=some (!dr m (cc roots)):=by
  rw [Nr N _ (fun v=> !(!aZ v||az m v.N)) roots W W (fun v t=>by
   unfold zi;rw [J9,bs];dsimp only;rw [sx N m _ (hr v t),bs]
   cases aZ v<;>cases az m v.N<;>rfl),BR]
  unfold dr cc;rw [all_map,Kd]
 unfold vi lu;rw [hroots,bs,SI N n f hw,bs,hkept,olds];cases dr m (cc roots)<;>cases sV N m<;>cases kV m kept<;>rfl
def qr (m:Vw)(roots:List VH):Bool:=dr m (cc roots)&&sV N m
def fE (m:Vw)(i:Nat):Bool:=(bH (am m (2*(i:Int)+2))).any yB
def el (m:Vw):List Int:=((List.range m.XR.length).filter (fE m)).map fun i:Nat=>2*(i:Int)+2
theorem su:x∈el m↔ ∃i:Nat,i<m.XR.length/\fE m i=true/\x=2*(i:Int)+2:=by
 unfold el;simp only [W3,W2,W7];constructor
 ·rintro ⟨i,⟨c,a⟩,rfl⟩;exact ⟨i,c,a,J⟩
 rintro ⟨i,c,a,rfl⟩;exact ⟨i,⟨c,a⟩,J⟩
theorem Th (h:x∈el m):az m x=true/\yB x=false:=by
 obtain ⟨i,a, -,rfl⟩:=su.1 h;exact ⟨by rw [ko];exact VQ a,Br i⟩
theorem Lh (m:Vw):kV m (el m)=true:=by
 unfold kV;rw [XM,XE,Wi];refine ⟨fun x c=> ?_,?_⟩
 ·obtain ⟨e,d⟩:=Th c;rw [e,d];rfl
 unfold el;refine List.Pairwise.map _ (fun a b (h:a<b)=> ?_) ((List.pairwise_lt_range).filter _);omega
theorem Nm (m:Vw):jr m (el m)=true:=by
 unfold jr;rw [Wi];intro i hi;rw [W7] at hi;cases h:(bH (am m (2*(i:Int)+2))).any yB
 ·rfl
 have:(2*(i:Int)+2)∈el m:=su.2 ⟨i,hi,h,rfl⟩;rw [VQ this];rfl
theorem TV (N:Nat)(m:Vw)(roots:List VH):lu N m roots (el m)=qr N m roots:=by
 unfold lu qr;rw [Lh,Nm,Bool.and_true,Bool.and_true]
theorem iR {n:Nat}:x∈bU n↔ ∃i:Nat,i<n/\x=2*(i:Int)+2:=by
 unfold bU;simp only [W3,W7];constructor
 ·rintro ⟨i,h,rfl⟩;exact ⟨i,h,J⟩
 rintro ⟨i,h,rfl⟩;exact ⟨i,h,J⟩
theorem Lq (h:az m a=true)(c:yB a=false): ∃i:Nat,i<m.XR.length/\a=2*(i:Int)+2:=by
 rcases ip h with ⟨i,hi,rfl⟩|h
 ·rw [Gv] at c;cases c
 exact h
theorem Se {N:Nat}(h:x∈iy N c l):x∈bH c:=by
 unfold iy at h
 cases hw:jO N c with
 |false=>rw [hw] at h;cases h
 |true=>
  rw [hw] at h;obtain ⟨v,a,hb,rfl⟩:=AE h;exact wg (VV _ a) hb
theorem AO {N:Nat}{roots:List VH}(h:qr N m roots=true):Whole m/\(∀x∈cc roots,az m x=true)/\ ∀c∈m.XS++m.XR,qq N m c=true:=by
 unfold qr at h;rw [XM] at h
 have j: ∀c∈m.XS++m.XR,qq N m c=true:=fun c e=>nc h.2 e
 refine ⟨fun a i x d=> ?_,fun x d=>nc h.1 d,j⟩
 have f:=j (am m a) (by
  unfold az at i;unfold am
  cases e:fc m a with
  |none=>rw [e] at i;cases i
  |some c=>exact sg e)
 unfold qq at f;rw [XM,XM] at f;rcases WY.1 d with d|d
 ·exact nc f.2.1 d
 exact nc f.2.2 d
def js (met to:List Int)(a:Int):Int:=if a∈met then to.getD (met.idxOf a) 0 else a
theorem MV {g:α->α}{l:List α}(h:i<l.length):ak ((l.take i).map g++l.drop i) (i:Int)=some l[i]:=by
 have a:i<((l.take i).map g++l.drop i).length:=by simp;omega
 rw [bz a]
 congr 1
 rw [List.getElem_append_right (by simp;omega)];simp [Nat.min_eq_left (Nat.le_of_lt h)]
theorem MT {g:α->α}{l:List α}(h:i<l.length):((l.take i).map g++l.drop i).set i (g l[i])=(l.take (i+1)).map g++l.drop (i+1):=by
 rw [fK h,Wn h,WV];rw [List.set_append,if_neg (by simp;omega)];simp [Nat.min_eq_left (Nat.le_of_lt h)];rw [Wn h];rfl
theorem AT {g:α->α}{l:List α}(h:i<l.length)(a:g l[i]=l[i]):(l.take i).map g++l.drop i=(l.take (i+1)).map g++l.drop (i+1):=by
 rw [fK h,Wn h,WV];simp [a]
def Hc (kv:List (Int×Int))(met to:List Int)(i:Nat):Prop:= ∀x,lk kv x=if x∈met.take i then some (js met to x) else none
theorem FA (c:l.Nodup)(h:i<l.length):l.idxOf l[i]=i:=by
 have hm:l[i]∈l:=XO _;rcases Nat.lt_trichotomy (l.idxOf l[i]) i with a|a|a
 ·exact absurd (lU hm) (Xb.1 (List.nodup_iff_pairwise_ne.1 c) _ _ (mc hm) h a)
 ·exact a
 exact absurd (lU hm).symm (Xb.1 (List.nodup_iff_pairwise_ne.1 c) _ _ h (mc hm) a)
theorem JT (a:l.Nodup)(h:i<l.length):l[i]∉l.take i:=fun hm=>by
 obtain ⟨j,c,e⟩:=WO hm;rw [XJ] at c;rw [List.getElem_take] at e;exact absurd e (Xb.1 (List.nodup_iff_pairwise_ne.1 a) _ _ W h W)
theorem Jx (N:Nat)(z:6500<N)(c:VL)(u:c.XQ.length<=4000)(A:c.XP.length<=4000)(met to:List Int)(p:met.Nodup)(t:to.length=met.length)(q:met.length<=1200):lJ N c met to=some (cU (js met to) met c):=by
 apply Sat.eq
 have mv: ∀(kv:List (Int×Int)),Hc kv met to met.length-> ∀v:VH,(lk kv v.N).isSome=decide (v.N∈met)/\(v.N∈met->aZ v=true->(⟨v.no,(lk kv v.N).getD 0,v.S⟩:VH)=bd (js met to) met v):=fun kv j v=>by
  rw [j v.N,XL];by_cases h:v.N∈met
  ·rw [if_pos h,VQ h];refine ⟨J,fun _ hb=> ?_⟩;rw [jF hb h];rfl
  rw [if_neg h,VR h];exact ⟨J,fun d=>absurd d h⟩
 have keep: ∀v:VH,(v.N∉met\/aZ v=false)->bd (js met to) met v=v:=fun v h=>by
  unfold bd;rcases h with h|h
  ·rw [VR h,Bool.and_false];rfl
  rw [h];rfl
 have copy:iP N c=some c:=by
  unfold iP kK;rw [rF (by simp only [WS];omega),rF (by simp only [WS];omega)];rfl
 have body: ∀kv:List (Int×Int),Hc kv met to met.length->Sat (zA N c kv) fun r=>r=cU (js met to) met c:=by
  intro kv j;unfold zA;rw [copy,bs];refine ib (fun k i (s:List VH)=>nQ N c kv k s (i:Int)) c.XQ.length (fun i s=>s=(c.XQ.take i).map (bd (js met to) met)++c.XQ.drop i) _ ?_ ?_ N 0 c.XQ W W (by simp)
  ·rintro k i s hi rfl go;show Sat (nQ N c kv (k+1) _ (i:Int)) _;obtain ⟨o,n⟩:=mv kv j c.XQ[i];rw [nQ.eq_2,bG W,ct,MV hi,bs,o,D8];simp only [bs];unfold ze;rw [r64 W W,r64 W W];by_cases hm:c.XQ[i].N∈met
   ·rw [VQ hm,ct,bs];cases hb:aZ c.XQ[i]
    ·rw [cf];exact go _ (AT hi (keep _ (.inr hb)))
    rw [ct,n hm hb,Wg];exact go _ (MT hi)
   rw [VR hm,cf,bs,cf];exact go _ (AT hi (keep _ (.inl hm)))
  rintro k s rfl;show Sat (nQ N c kv (k+1) _ _) _;rw [nQ.eq_2,bI W,cf,XL,List.drop_length,Wj];unfold En;refine ib (fun k i (s:List VH)=>nR N c kv _ k s (i:Int)) c.XP.length (fun i s=>s=(c.XP.take i).map (bd (js met to) met)++c.XP.drop i) _ ?_ ?_ N 0 c.XP W W (by simp)
  ·rintro k i s hi rfl go;show Sat (nR N c kv _ (k+1) _ (i:Int)) _;obtain ⟨o,n⟩:=mv kv j c.XP[i];rw [nR.eq_2,bG W,ct,MV hi,bs,o,D8];simp only [bs];unfold yT;rw [r64 W W,r64 W W];by_cases hm:c.XP[i].N∈met
   ·rw [VQ hm,ct,bs];cases hb:aZ c.XP[i]
    ·rw [cf];exact go _ (AT hi (keep _ (.inr hb)))
    rw [ct,n hm hb,Wg];exact go _ (MT hi)
   rw [VR hm,cf,bs,cf];exact go _ (AT hi (keep _ (.inl hm)))
  rintro k s rfl;show Sat (nR N c kv _ (k+1) _ _) _;rw [nR.eq_2,bI W,cf,XL,List.drop_length,Wj];unfold Ek Eh;exact ar J
 unfold lJ;refine ib (fun k i (s:List (Int×Int))=>mK N met to c k s (i:Int)) met.length (fun i s=>Hc s met to i) _ ?_ ?_ N 0 [] W W (fun x=>J)
 ·rintro k i s hi l go;show Sat (mK N met to c (k+1) _ (i:Int)) _
  have m:lk s met[i]=none:=by rw [l,if_neg (JT p hi)]
  have a:i<to.length:=by omega
  rw [mK.eq_2,bG W,ct,bz hi,bs,m,Option.isSome_none,cf,bG W,ct,bz a,bs];unfold uO;rw [r64 W W];refine go _ fun x=> ?_
  rw [qt,qt,l x,fK hi];by_cases e:met[i]=x
  ·subst e;rw [if_pos rfl,if_pos (VV _ (W8.2 rfl))];unfold js;rw [if_pos (XO _),FA p hi];simp [List.getD,a]
  rw [if_neg e,if_neg e];by_cases f:x∈met.take i
  ·rw [if_pos f,if_pos (VU _ f)]
  rw [if_neg f,if_neg fun d=>(WY.1 d).elim f fun d=>e (W8.1 d).symm]
 rintro k s l;show Sat (mK N met to c (k+1) _ _) _;rw [mK.eq_2,bI W,cf];exact body s l
theorem Jn (N:Nat)(e:6500<N)(l:List VH)(a6:l.length<=4000)(met to:List Int)(c:met.Nodup)(d:to.length=met.length)(a:met.length<=1200):pD N l met to=some (l.map (bd (js met to) met)):=by
 unfold pD;rw [Jx N e _ (by simp) a6 met to c d a,bs];rfl
def ci (m:Vw)(a:Int):Bool:=decide ((am m a).XW=0)
def fh (p:Int->Bool):List Int->Nat->Nat->List Int
 | [],_,_=> []
 |a::l,s,o=>bif p a then (2*(s:Int)+1)::fh p l (s+1) o else (2*(o:Int)+2)::fh p l s (o+1)
theorem KO (p:Int->Bool)(a:Int)(l:List Int)(s o:Nat):fh p (a::l) s o=bif p a then (2*(s:Int)+1)::fh p l (s+1) o else (2*(o:Int)+2)::fh p l s (o+1):=rfl
theorem AV (p:Int->Bool): ∀(l:List Int) (s o:Nat),(fh p l s o).length=l.length
 | [],_,_=>rfl
 |a::l,s,o=>by unfold fh;cases p a<;>simp [AV p l]
theorem Bf (p:Int->Bool): ∀(l c:List Int) (s o:Nat),fh p (l++c) s o=fh p l s o++fh p c (s+(l.filter p).length) (o+(l.filter fun a=> !p a).length)
 | [],_,_,_=>by simp [fh]
 | a::l,c,s,o=>by
  rw [Wm,KO,KO];cases h:p a
  ·simp only [cond_false];rw [Bf p l c];simp only [Ww,h,Bool.not_false,if_true,Wa,if_false,WP,Wm];rw [Nat.add_right_comm o 1];rfl
  simp only [cond_true];rw [Bf p l c];simp only [Ww,h,Bool.not_true,if_true,Wa,if_false,WP,Wm];rw [Nat.add_right_comm s 1];rfl
theorem FT (p:Int->Bool)(h:i<l.length)(s o:Nat):(fh p l s o).getD i 0=bif p l[i] then 2*((s+((l.take i).filter p).length:Nat):Int)+1 else 2*((o+((l.take i).filter fun a=> !p a).length:Nat):Int)+2:=by
 have e:l=l.take i++(l[i]::l.drop (i+1)):=by rw [<-Wn h,Xe]
 have d:fh p l s o=fh p (l.take i) s o++fh p (l[i]::l.drop (i+1)) (s+((l.take i).filter p).length) (o+((l.take i).filter fun a=> !p a).length):=by
  rw [<-Bf, <-e]
 rw [d]
 have c:(fh p (l.take i) s o).length=i:=by rw [AV,XJ];omega
 unfold List.getD;rw [WB W,c,Xr];unfold fh;cases p l[i]<;>rfl
theorem RG (N:Nat)(u:6500<N){roots:List VH}(l:Small m roots)(d:List Int)(nx:Int)(h:Mt m met seen):t7 N ⟨m,d,met,seen,nx⟩=some (fh (ci m) met 0 m.XR.length):=by
 have o:=h.len l;have t:=l.old;apply Sat.eq;unfold t7;refine ib (fun k i (s:List Int×Nat×Nat)=>nB N ⟨m,d,met,seen,nx⟩ k s.1 (s.2.1:Int) (s.2.2:Int) (i:Int)) met.length (fun i s=>s.1=fh (ci m) (met.take i) 0 m.XR.length/\s.2.1=((met.take i).filter (ci m)).length/\s.2.2=m.XR.length+((met.take i).filter fun a=> !ci m a).length) _ ?_ ?_ N 0 ([],0,m.XR.length) (by show met.length<N+0;omega) W ⟨J,J,J⟩
 ·rintro k i ⟨s,a,b⟩ hi ⟨c,j,f⟩ go;simp only at c j f;have q:((met.take i).filter (ci m)).length<=i:=Xn (WR _ _) (by rw [XJ];omega);have p:((met.take i).filter fun a=> !ci m a).length<=i:=Xn (WR _ _) (by rw [XJ];omega)
  have n:s.length=i:=by rw [c,AV,XJ];omega
  show Sat (nB N ⟨m,d,met,seen,nx⟩ (k+1) s (a:Int) (b:Int) (i:Int)) _
  have hnext:fh (ci m) (met.take (i+1)) 0 m.XR.length=s++ [bif ci m met[i] then 2*(a:Int)+1 else 2*(b:Int)+2]:=by
   rw [fK hi,Bf, <-c,Xs, <-j, <-f];unfold fh;cases ci m met[i]<;>rfl
  have a6:((met.take (i+1)).filter (ci m)).length=a+(bif ci m met[i] then 1 else 0):=by
   rw [fK hi,Wv,XI, <-j];cases hb:ci m met[i]<;>simp [hb]
  have a8:((met.take (i+1)).filter fun a=> !ci m a).length+m.XR.length=b+(bif ci m met[i] then 0 else 1):=by
   rw [fK hi,Wv,XI,f];cases hb:ci m met[i]<;>simp [hb]<;>omega
  have hcell:=vv N l d met seen nx (h.has _ (XO hi));rw [nB.eq_2]
  dsimp only;rw [bG W,ct,bz hi,bs,hcell,bs];unfold xA;have e:decide ((am m met[i]).XW=0)=ci m met[i]:=rfl;rw [e,r64 W W,r64 W W,rF (by simp;omega),r64 W W,r64 W W,r64 W W,r64 W W,rF (by simp;omega),r64 W W,r64 W W];cases hb:ci m met[i]
  ·rw [hb] at hnext a6 a8;rw [cf];exact go (s++ [2*(b:Int)+2],a,b+1) ⟨hnext.symm,a6.symm,by show b+1=_;simp only [cond_false] at a8;omega⟩
  rw [hb] at hnext a6 a8;rw [ct];exact go (s++ [2*(a:Int)+1],a+1,b) ⟨hnext.symm,a6.symm,by show b=_;simp only [cond_true] at a8;omega⟩
 rintro k ⟨s,a,b⟩ ⟨c,j,f⟩;simp only [XL] at c j f;show Sat (nB N ⟨m,d,met,seen,nx⟩ (k+1) s (a:Int) (b:Int) _) _;rw [nB.eq_2];dsimp only;rw [bI W,cf];exact ar c
theorem JU: ∀{l:List VH},iC l=true->fA lv l->ga (fun x=>decide (x∈lv)) l=l
 | [],_,_=>rfl
 | [_],h,_=>by cases h
 |k::v::r,h,a=>by
  rw [pR] at h;simp only [XM,XE] at h;have c:k.N∈lv:=a k (by simp) (by unfold aZ;rw [h.1.1];rfl);rw [EK,VQ c,cond_true,JU h.2 fun w hw=>a w (by simp [hw])];rfl
theorem Mm (d:VH): ∀{l:List VH},fD l=true->fA lv l->cZ lv l=l/\ge lv d l=[]
 | [],_,_=>⟨rfl,rfl⟩
 | [_],h,_=>by cases h
 | [_,_],h,_=>by cases h
 | [_,_,_],h,_=>by cases h
 | t::a::k::s::r,h,c=>by
  rw [pS] at h;simp only [XM,XE] at h;obtain ⟨⟨⟨n, -⟩,p,o⟩,m⟩:=h;obtain ⟨f,e⟩:=Mm d m fun w hw=>c w (by simp [hw])
  have i:t.N∈lv:=c t (by simp) (by unfold aZ;rw [n];rfl)
  have j:(decide (k.no=7)&& !decide (k.N∈lv))=false:=by
   by_cases a6:k.no=7
   ·rw [VQ (c k (by simp) (by unfold aZ;rw [a6];rfl)),Bool.not_true,Bool.and_false]
   rw [VR a6,Bool.false_and]
  rw [Ar,SE,f,e,VQ i,j];exact ⟨J,J⟩
theorem CellOk.id {N:Nat}(h:CellOk N lv f c)(m:∀x∈bH c,x∈lv):bJ N lv c=c/\dy lv c=[]:=by
 have d:fA lv c.XP:=fun v e hb=>m _ (wg (VV _ e) hb)
 by_cases i:c.no=8
 ·rw [h.clC8 i,JU (h.ent2 i) d];exact ⟨J,by unfold dy;rw [VR W];rfl⟩
 by_cases a:c.no=10
 ·obtain ⟨-, -,n⟩:=h.ent4 a;obtain ⟨l,j⟩:=Mm (lv:=lv) (c.XP.headD jm) n fun v e=>d v (List.mem_of_mem_drop e)
  rw [CellOk.clC10 a,l,Xe];refine ⟨J,?_⟩;unfold dy Ca;rw [VQ a];exact j
 exact ⟨CellOk.clC0 i a,by unfold dy;rw [VR a];rfl⟩
theorem Jl (N:Nat)(d:c.no≠8)(a:c.no≠10)(gone:List VH):pB N c lv gone=some (bJ N lv c,gone++dy lv c):=by
 unfold pB;rw [VR d,cf,VR a,cf,sW d a,BE a,Wj]
structure MinCtx (N:Nat) (m:Vw) (roots:List VH) (kept met:List Int):Prop where
 big:6500<N
 small:Small m roots
 w64:W64 m
 r64: ∀v∈roots,in64 v.N
 tot:ba (fun a=>(am m a).XP.length) (jL m)<=3600
 klen:kept.length<=1200
 may:lu N m roots kept=true
 prog: ∃seen nx,r9 N m roots kept=some ⟨m,kept,met,seen,nx⟩/\Mt m met seen
 isM: ∃b,IsMinor (mu N m) (bU m.XR.length) kept (wG m roots kept) b met
theorem sO {N:Nat}{roots:List VH}(h:lu N m roots kept=true):qr N m roots=true/\kV m kept=true/\jr m kept=true:=by
 unfold lu at h;unfold qr;simp only [XM] at h⊢;exact ⟨h.1.1,h.1.2,h.2⟩
theorem J4 (h:kV m kept=true)(d:a∈kept):az m a=true/\yB a=false:=by
 unfold kV at h;rw [XM] at h;have:=nc h.1 d;rw [XM] at this;exact ⟨this.2,by cases c:yB a;rfl;rw [c] at this;cases this.1⟩
theorem aa0 {N:Nat}(f:6500<N){roots:List VH}(c:Small m roots)(hw:W64 m)(hr:∀v∈roots,in64 v.N)(j:ba (fun a=>(am m a).XP.length) (jL m)<=3600)(d:kept.length<=1200)(hm:lu N m roots kept=true): ∃met,MinCtx N m roots kept met:=by
 obtain ⟨p,o, -⟩:=sO hm;obtain ⟨t,q, -⟩:=AO p;obtain ⟨r,e,seen,nx,b,u,n,l⟩:=SU N f c t q kept (fun x i=>(J4 o i).1) d;exact ⟨r.Yi,f,c,hw,hr,j,d,hm,⟨seen,nx,by rw [e, <-u],n⟩,⟨b,l⟩⟩
def bh (m:Vw)(met:List Int):List Int:=bU m.XR.length++met
def fU (m:Vw)(met:List Int):List Int:=fh (ci m) met 0 m.XR.length
def cA (m:Vw)(met:List Int):Int->Int:=js met (fU m met)
def nC (m:Vw)(met:List Int)(a:Int):VL:=cU (cA m met) met (bJ N (bh m met) (am m a))
def nY (m:Vw)(met:List Int)(a:Int):VL:=⟨(nC N m met a).no,(nC N m met a).XV,(nC N m met a).XU,1,(nC N m met a).XQ,(nC N m met a).XP⟩
def dO (m:Vw)(met:List Int):Vw:=⟨(met.filter (ci m)).map (nY N m met),(bU m.XR.length).map (nC N m met)++(met.filter fun a=> !ci m a).map (nY N m met)⟩
def lj (m:Vw)(met:List Int):List VH:=(bh m met).flatMap fun a=>dy (bh m met) (am m a)
section
variable {N:Nat}{roots:List VH}(h:MinCtx N m roots kept met)
include h
theorem MinCtx.whole:Whole m:=(AO (sO h.may).1).1
theorem MinCtx.rootsH: ∀x∈cc roots,az m x=true:=(AO (sO h.may).1).2.1
theorem MinCtx.mt:met.Nodup/\(∀x∈met,yB x=true)/\ ∀x∈met,az m x=true:=by
 obtain ⟨_,_, -,a⟩:=h.prog;exact ⟨a.nd,a.yng,a.has⟩
theorem MinCtx.mlen:met.length<=1200:=by
 obtain ⟨_,_, -,a⟩:=h.prog;exact a.len h.small
theorem MinCtx.f1has (c:a∈bh m met):az m a=true:=by
 unfold bh at c;rcases WY.1 c with c|c
 ·obtain ⟨i,hi,rfl⟩:=iR.1 c;rw [ko];exact VQ hi
 exact h.mt.2.2 a c
theorem MinCtx.keptOf (f:a∈bU m.XR.length)(e:x∈bH (am m a))(d:yB x=true):a∈kept:=by
 obtain ⟨i,hi,rfl⟩:=iR.1 f;have c:=(sO h.may).2.2;unfold jr at c;have:=nc c (W7.2 hi);rw [List.any_eq_true.2 ⟨x,e,d⟩] at this;simpa using this
theorem MinCtx.inF (f:a∈bh m met)(e:az m x=true)(c:yB x=true->x∈met):x∈bh m met:=by
 have _:=h;have _:=f;unfold bh
 cases d:yB x with
 |true=>exact VV _ (c d)
 |false=>
  obtain ⟨i,hi,rfl⟩:=Lq e d;exact VU _ (iR.2 ⟨i,hi,J⟩)
theorem MinCtx.cell (c:a∈bh m met):CellOk N (bh m met) (bh m met) (am m a):=by
 have p:=h.big;have f:=h.f1has c;have hm:=iY f;have j:=h.small.cells _ hm;obtain ⟨b,l⟩:=h.isM;obtain ⟨o,n⟩:=l.closed;have i:=(AO (sO h.may).1).2.2 _ hm;refine ⟨by omega,?_,j.1,j.2,fun x d=> ?_,fun x d=> ?_,fun x=>Iff.rfl⟩
 ·unfold qq at i;rw [vu N W _ W W,XM] at i;exact i.1
 ·refine h.inF c (h.whole.leads f x d) fun e=> ?_
  unfold bh at c;rcases WY.1 c with c|c
  ·exact l.start (VV _ (List.mem_flatMap.2 ⟨a,h.keptOf c (VU _ d) e,d⟩)) e
  exact o a c x d e
 refine h.inF c (h.whole.opens f x d) fun e=> ?_
 refine n a ?_ x d e;unfold bh at c;rcases WY.1 c with c|c
 ·exact VU _ (h.keptOf c (Se d) e)
 exact VV _ c
theorem MinCtx.old (e:a∈bU m.XR.length)(i:a∉kept):bJ N (bh m met) (am m a)=am m a/\dy (bh m met) (am m a)=[]:=by
 have c:a∈bh m met:=VU _ e
 refine (h.cell c).id fun x d=>h.inF c (h.whole a (h.f1has c) x d) fun f=>absurd (h.keptOf e d f) i
theorem MinCtx.nd:(bh m met).Nodup:=by
 unfold bh;refine W9.2 ⟨?_,h.mt.1,fun a d b hb e=> ?_⟩
 ·exact (TB _).imp fun c e=>by omega
 subst e;obtain ⟨i, -,rfl⟩:=iR.1 d;have:=h.mt.2.1 _ hb;rw [Br] at this;cases this
theorem MinCtx.goneLen: ∀l:List Int,l.Nodup->(∀a∈l,a∈bh m met)->(l.flatMap fun a=>dy (bh m met) (am m a)).length<=3600:=by
 intro l c d
 have j:=oD (fun a=>(am m a).XP.length) c fun a e=>sD (h.f1has (d a e))
 have f: ∀l:List Int,(l.flatMap fun a=>dy (bh m met) (am m a)).length<=ba (fun a=>(am m a).XP.length) l:=fun l=>by
  induction l with
  |nil=>simp [ba]
  |cons a l i=>
   have:=(oG N (bh m met) (am m a)).2;rw [Wy,XI,ba];omega
 have:=f l;have:=h.tot;omega
end
end
section
open Go.RowKit
theorem K7 (f:α->List β){l:List α}(h:i<l.length):(l.take (i+1)).flatMap f=(l.take i).flatMap f++f l[i]:=by
 rw [fK h,Wx,Wy,List.flatMap_nil,Wj]
theorem Uw (f:α->β){l:List α}(h:i<l.length):(l.take (i+1)).map f=(l.take i).map f++ [f l[i]]:=by
 rw [fK h,WV];rfl
theorem Js (p:α->Bool){l:List α}(h:i<l.length):(l.take (i+1)).filter p=(l.take i).filter p++(bif p l[i] then [l[i]] else []):=by
 rw [fK h,Wv];cases a:p l[i]<;>simp [a]
section
variable {N:Nat}{roots:List VH}(h:MinCtx N m roots kept met)
include h
theorem MinCtx.f1len:(bh m met).length<=1800:=by
 have c:=h.mlen;have a:=h.small.old;unfold bh bU;rw [XI,XK,List.length_range];omega
theorem UI:rv N m roots kept=some (dO N m met,roots.map (bd (cA m met) met),(lj m met).map (bd (cA m met) met),0):=by
 have u:=h.big;have j:=h.small;have p:=h.mlen;have ho:=j.old;have hrl:=j.roots;have hfl:=h.f1len;obtain ⟨o,hyng,hhas⟩:=h.mt;obtain ⟨seen,nx,hp,E⟩:=h.prog;have n:(fU m met).length=met.length:=AV _ _ _ _
 have hev:(bU m.XR.length).length=m.XR.length:=by unfold bU;simp
 obtain ⟨hfine,hkok, -⟩:=sO h.may
 have b0: ∀x∈kept,in64 x:=fun x hx=>lZ j (J4 hkok hx).1
 have hkl:=h.klen;have H: ∀l:List Int,l.Nodup->(∀a∈l,a∈bh m met)->(l.flatMap fun a=>dy (bh m met) (am m a)).length<=3600:=h.goneLen
 have tk: ∀i,((bU m.XR.length).take i).flatMap (fun a=>dy (bh m met) (am m a))=((bU m.XR.length).take i).flatMap fun a=>dy (bh m met) (am m a):=fun i=>rfl
 have g1: ∀i,(((bU m.XR.length).take i).flatMap fun a=>dy (bh m met) (am m a)).length<=3600:=fun i=>H _ (List.Nodup.sublist (List.take_sublist _ _) (W9.1 h.nd).1) fun a ha=>VU _ (W5 ha)
 have g2: ∀i,((bU m.XR.length++met.take i).flatMap fun a=>dy (bh m met) (am m a)).length<=3600:=fun i=>H _ (List.Nodup.sublist (List.Sublist.append (List.Sublist.refl _) (List.take_sublist i met)) h.nd) fun a ha=>(WY.1 ha).elim (fun h=>VU _ h) fun h=>VV _ (W5 h)
 have moved: ∀a∈bh m met, ∀d:VL,d.XQ.length<=600->d.XP.length<=2900->lJ N d met (fU m met)=some (cU (cA m met) met d):=fun a _ d f c=>Jx N u d W W met (fU m met) o n p
 -- the young cells
 have young: ∀O:List VL,O.length<=600->Sat (nG N ⟨m,kept,met,seen,nx⟩ roots (fU m met) (bh m met) N ((bU m.XR.length).flatMap fun a=>dy (bh m met) (am m a)) 0 [] O) fun r=>r=(⟨(met.filter (ci m)).map (nY N m met),O++(met.filter fun a=> !ci m a).map (nY N m met)⟩,roots.map (bd (cA m met) met),(lj m met).map (bd (cA m met) met),0):=by
  intro O hO;refine ib (fun k i (s:List VH×List VL×List VL)=>nG N ⟨m,kept,met,seen,nx⟩ roots (fU m met) (bh m met) k s.1 (i:Int) s.2.1 s.2.2) met.length (fun i s=>s.1=(bU m.XR.length++met.take i).flatMap (fun a=>dy (bh m met) (am m a))/\s.2.1=((met.take i).filter (ci m)).map (nY N m met)/\s.2.2=O++((met.take i).filter fun a=> !ci m a).map (nY N m met)) _ ?_ ?_ N 0 (_,[],O) W W ⟨by rw [Xh,Wj];rfl,rfl,by simp⟩
  ·rintro k i ⟨g,z,Q⟩ hi ⟨f,c,A⟩ go;simp only at f c A;show Sat (nG N ⟨m,kept,met,seen,nx⟩ roots (fU m met) (bh m met) (k+1) g (i:Int) z Q) _;have hgm:met[i]∈met:=XO hi;have t:met[i]∈bh m met:=VV _ hgm;have B:=h.cell t;have L:=oG N (bh m met) (am m met[i]);have P:=B.slots;have M:=B.more
   have F:g.length<=3600:=by rw [f];exact g2 i
   have hYl:z.length<=i:=by rw [c,XK];exact Xn (WR _ _) (by rw [XJ];omega)
   have hQl:Q.length<=600+i:=by
    rw [A,XI,XK];have:=WR (fun a=> !ci m a) (met.take i);rw [XJ] at this;omega
   have C:i<(fU m met).length:=by omega
   have Z:(fU m met)[i]=bif ci m met[i] then 2*((0+((met.take i).filter (ci m)).length:Nat):Int)+1 else 2*((m.XR.length+((met.take i).filter fun a=> !ci m a).length:Nat):Int)+2:=by
    have:=FT (ci m) hi 0 m.XR.length;unfold List.getD at this;have e:(fh (ci m) met 0 m.XR.length)[i]? =some (fU m met)[i]:=WF C;rw [e] at this;exact this
   have X:yB (fU m met)[i]=ci m met[i]:=by
    rw [Z];cases ci m met[i]
    ·exact Br _
    exact Gv _
   rw [nG.eq_2];dsimp only;rw [bG W,ct,bz hi,bs,vv N j kept met seen nx (h.f1has t),bs,Jl N (j.kd _).1 (j.kd _).2 g,bs];dsimp only;rw [moved _ t _ W W,bs,bz C,bs,vm,bs,X];unfold yq;rw [r64 W W,r64 W W,rF (by simp;omega),rF (by simp;omega)]
   have hg':g++dy (bh m met) (am m met[i])=(bU m.XR.length++met.take (i+1)).flatMap fun a=>dy (bh m met) (am m a):=by
    rw [f,Wx,Wx,K7 _ hi,VT]
   have a6:=Js (ci m) hi;have a8:=Js (fun a=> !ci m a) hi;cases hb:ci m met[i]
   ·rw [hb] at a6;simp only [hb,Bool.not_false,cond_true,cond_false,Wj] at a6 a8;rw [cf];exact go (_,z,_) ⟨hg',by show z=_;rw [a6];exact c,by show Q++ [nY N m met met[i]]=_;rw [a8,WV,A,VT];rfl⟩
   rw [hb] at a6;simp only [hb,Bool.not_true,cond_true,cond_false,Wj] at a6 a8;rw [ct];exact go (_,_,Q) ⟨hg',by show z++ [nY N m met met[i]]=_;rw [a6,WV,c];rfl,by show Q=_;rw [a8];exact A⟩
  rintro k ⟨g,z,Q⟩ ⟨f,c,A⟩;simp only [XL] at f c A;show Sat (nG N ⟨m,kept,met,seen,nx⟩ roots (fU m met) (bh m met) (k+1) g _ z Q) _
  have F:g.length<=3600:=by rw [f];have:=g2 met.length;rwa [XL] at this
  rw [nG.eq_2];dsimp only;rw [bI W,cf];unfold D2;dsimp only;rw [Jn N u roots W met (fU m met) o n p,bs,Jn N u g W met (fU m met) o n p,bs,c,A];refine ar ?_;rw [f];rfl
 apply Sat.eq;unfold rv;rw [KY N u j h.w64 h.r64 kept W b0,h.may,bs,nt,cf,hp,bs,RG N u j kept nx E,bs,Ka N u j kept nx E,bs];refine ib (fun k i (s:List VH×List VL)=>pu N m roots kept (fU m met) ⟨m,kept,met,seen,nx⟩ k s.1 (bh m met) (i:Int) s.2) m.XR.length (fun i s=>s.1=((bU m.XR.length).take i).flatMap (fun a=>dy (bh m met) (am m a))/\s.2=((bU m.XR.length).take i).map (nC N m met)) _ ?_ ?_ N 0 ([],[]) W W ⟨J,J⟩
 ·rintro k i ⟨g,O⟩ hi ⟨f,c⟩ go;simp only at f c;show Sat (pu N m roots kept (fU m met) ⟨m,kept,met,seen,nx⟩ (k+1) g (bh m met) (i:Int) O) _
  have q:i<(bU m.XR.length).length:=by omega
  have K:(bU m.XR.length)[i]=2*(i:Int)+2:=KB q;have S:(2*(i:Int)+2)∈bU m.XR.length:=iR.2 ⟨i,hi,rfl⟩;have R:(2*(i:Int)+2)∈bh m met:=VU _ S;have B:=h.cell R;have L:=oG N (bh m met) (am m (2*(i:Int)+2));have P:=B.slots;have M:=B.more
  have F:g.length<=3600:=by rw [f];exact g1 i
  have T:O.length<=i:=by rw [c,XK,XJ];omega
  have hold:=h.old S
  have U:((bU m.XR.length).take (i+1)).flatMap (fun a=>dy (bh m met) (am m a))=g++dy (bh m met) (am m (2*(i:Int)+2)):=by rw [K7 _ q,K,f]
  have n2:((bU m.XR.length).take (i+1)).map (nC N m met)=O++ [nC N m met (2*(i:Int)+2)]:=by rw [Uw _ q,K,c]
  rw [gN m i hi] at B L P M hold U
  have D:nC N m met (2*(i:Int)+2)=cU (cA m met) met (bJ N (bh m met) m.XR[i]):=by unfold nC;rw [gN m i hi]
  have body: ∀(V:List VH->List Int->Int->List VL->Option (Vw×List VH×List VH×Int)) (g':List VH) (d:VL),d.XQ.length<=600->d.XP.length<=2900->ux N V m (i:Int) roots kept (fU m met) (bh m met) O ⟨m,kept,met,seen,nx⟩ g' d.no d.XV d.XU d.XW d.XQ d.XP=V g' (bh m met) ((i:Int)+1) (O++ [cU (cA m met) met d]):=by
   intro V g' d d1 d2;have:=moved _ R d d1 d2;unfold ux;dsimp only
   have e:lJ N ⟨d.no,d.XV,d.XU,d.XW,d.XQ,d.XP⟩ met (fU m met)=some (cU (cA m met) met d):=this;rw [e,bs,rF (by simp;omega),r64 W W]
  rw [pu.eq_2,bG W,ct,bz hi,bs,r64 W W,r64 W W,I1 N u kept W,bs];by_cases hk:(2*(i:Int)+2)∈kept
  ·rw [VQ hk,ct,Jl N (j.nw _ (VV _ (XO _))).1 (j.nw _ (VV _ (XO _))).2 g,bs];dsimp only;rw [body _ _ _ W W];exact go (_,_) ⟨U.symm,by rw [n2,D]⟩
  obtain ⟨o1,o2⟩:=hold hk;rw [VR hk,cf,body _ _ _ W W];exact go (g,_) ⟨by rw [U,o2,Wj],by rw [n2,D,o1]⟩
 rintro k ⟨g,O⟩ ⟨f,c⟩;have etl:(bU m.XR.length).take m.XR.length=bU m.XR.length:=Xf W;simp only [etl] at f c;show Sat (pu N m roots kept (fU m met) ⟨m,kept,met,seen,nx⟩ (k+1) g (bh m met) _ O) _;rw [pu.eq_2,bI W,cf];unfold D1;rw [f]
 have T:O.length<=600:=by rw [c,XK];omega
 have:=young O T;rw [c] at this⊢;exact this
end
end
section
open Go.RowKit
theorem MC: ∀{A B:List Int} {x:Int},x∉A->(A++x::B).idxOf x=A.length
 | [],B,x,_=>by simp
 |a::A,B,x,h=>by
  have d:a≠x:=fun e=>h (by simp [e])
  rw [Wm,List.idxOf_cons,MC fun c=>h (by simp [c])];have:(a==x)=false:=beq_eq_false_iff_ne.2 d;rw [this];rfl
theorem LI (c:l.Nodup)(p:Int->Bool)(h:i<l.length)(a:p l[i]=true):(l.filter p).idxOf l[i]=((l.take i).filter p).length:=by
 have e:l.filter p=(l.take i).filter p++l[i]::(l.drop (i+1)).filter p:=by
  have f:l=l.take i++(l[i]::l.drop (i+1)):=by rw [<-Wn h,Xe]
  have d:l.filter p=(l.take i).filter p++(l[i]::l.drop (i+1)).filter p:=by rw [<-Wv, <-f]
  rw [d,Ww,a,if_pos rfl]
 rw [e];exact MC fun hm=>JT c h (W2.1 hm).1
def oO (c:VL)(g:Int):VL:=⟨c.no,c.XV,c.XU,g,c.XQ,c.XP⟩
theorem Rw (h:bT c=true):bT (oO c 1)=true:=by
 unfold bT at h⊢;unfold oO;simp only [XM] at h⊢;obtain ⟨⟨⟨⟨⟨⟨⟨j,i⟩,f⟩,e⟩,d⟩, -⟩, -⟩,a⟩:=h;exact ⟨⟨⟨⟨⟨⟨⟨j,i⟩,f⟩,e⟩,d⟩,J⟩,J⟩,a⟩
structure VCell (N:Nat) (c:VL):Prop where
 big:6500<N
 right:bT c=true
 slots:c.XQ.length<=600
 more:c.XP.length<=2900
theorem NM (m:Vw)(h:m.XR[i]? =some c):az m (2*(i:Int)+2)=true/\am m (2*(i:Int)+2)=c:=by
 obtain ⟨a,d⟩:=WH.1 h;exact ⟨by rw [ko];exact VQ a,by rw [gN m i a];exact d⟩
theorem acB (m:Vw)(h:m.XS[i]? =some c):az m (2*(i:Int)+1)=true/\am m (2*(i:Int)+1)=c:=by
 obtain ⟨a,d⟩:=WH.1 h;exact ⟨by rw [qo];exact VQ a,by rw [jJ m i a];exact d⟩
theorem LF (h:a∈f):f[f.idxOf a]? =some a:=WH.2 ⟨mc h,lU h⟩
section
variable {N:Nat}{roots:List VH}(h:MinCtx N m roots kept met)
include h
theorem MinCtx.rhoE (d:a∈bU m.XR.length):cA m met a=a:=by
 have c:a∉met:=fun hm=>(W9.1 h.nd).2.2 a d a hm rfl
 unfold cA js;rw [if_neg c]
theorem MinCtx.rhoY (d:a∈met)(c:ci m a=true):cA m met a=2*(((met.filter (ci m)).idxOf a:Nat):Int)+1:=by
 obtain ⟨i,hi,rfl⟩:=WO d;unfold cA js fU;rw [if_pos d,FA h.mt.1 hi,FT _ hi,c,LI h.mt.1 _ hi c,cond_true,Xs]
theorem MinCtx.rhoO (d:a∈met)(c:ci m a=false):cA m met a=2*((m.XR.length+(met.filter fun a=> !ci m a).idxOf a:Nat):Int)+2:=by
 obtain ⟨i,hi,rfl⟩:=WO d;unfold cA js fU;rw [if_pos d,FA h.mt.1 hi,FT _ hi,c,LI h.mt.1 (fun a=> !ci m a) hi (by rw [c];rfl),cond_false]
theorem MinCtx.cases (c:a∈bh m met):(a∈bU m.XR.length/\cA m met a=a)\/(a∈met/\ci m a=true/\a∈met.filter (ci m))\/(a∈met/\ci m a=false/\a∈met.filter fun a=> !ci m a):=by
 unfold bh at c;rcases WY.1 c with c|c
 ·exact .inl ⟨c,h.rhoE c⟩
 cases d:ci m a with
 |true=>exact .inr (.inl ⟨c,rfl,W2.2 ⟨c,d⟩⟩)
 |false=>exact .inr (.inr ⟨c,rfl,W2.2 ⟨c,by rw [d];rfl⟩⟩)
theorem MinCtx.ren:Ren (cA m met) (bh m met):=by
 refine ⟨fun a b d hb e=> ?_,fun a d=> ?_⟩
 ·rcases h.cases d with ⟨a1,a2⟩|⟨a1,a2,c⟩|⟨a1,a2,c⟩<;>rcases h.cases hb with ⟨b1,b2⟩|⟨b1,b2,b3⟩|⟨b1,b2,b3⟩
  ·rw [a2,b2] at e;exact e
  ·obtain ⟨i, -,rfl⟩:=iR.1 a1;rw [a2,h.rhoY b1 b2] at e;omega
  ·obtain ⟨i,hi,rfl⟩:=iR.1 a1;rw [a2,h.rhoO b1 b2] at e;omega
  ·obtain ⟨i, -,rfl⟩:=iR.1 b1;rw [b2,h.rhoY a1 a2] at e;omega
  ·rw [h.rhoY a1 a2,h.rhoY b1 b2] at e
   have f:(met.filter (ci m)).idxOf a=(met.filter (ci m)).idxOf b:=by omega
   rw [<-lU c, <-lU b3];simp only [f]
  ·rw [h.rhoY a1 a2,h.rhoO b1 b2] at e;omega
  ·obtain ⟨i,hi,rfl⟩:=iR.1 b1;rw [b2,h.rhoO a1 a2] at e;omega
  ·rw [h.rhoO a1 a2,h.rhoY b1 b2] at e;omega
  rw [h.rhoO a1 a2,h.rhoO b1 b2] at e
  have f:(met.filter fun a=> !ci m a).idxOf a=(met.filter fun a=> !ci m a).idxOf b:=by omega
  rw [<-lU c, <-lU b3];simp only [f]
 rcases h.cases d with ⟨a1,a2⟩|⟨a1,a2,c⟩|⟨a1,a2,c⟩
 ·obtain ⟨i, -,rfl⟩:=iR.1 a1;omega
 ·rw [h.rhoY a1 a2];omega
 rw [h.rhoO a1 a2];omega
end
def Cy (m:Vw)(met:List Int)(a:Int):Int:=if a∈met then 1 else (nC N m met a).XW
def gM (m:Vw)(met:List Int)(a:Int):VL:=oO (nC N m met a) (Cy N m met a)
theorem FK (v:VH):bd (cA m met) (bh m met) v=bd (cA m met) met v:=by
 unfold bd bh;cases hb:aZ v
 ·rfl
 rw [Wb,Wb];by_cases h:v.N∈met
 ·rw [VQ h,VQ (VV _ h)]
 rw [VR h]
 have e:cA m met v.N=v.N:=by unfold cA js;rw [if_neg h]
 rw [e];cases decide (v.N∈bU m.XR.length++met)<;>rfl
theorem FF (c:VL):cU (cA m met) met c=cU (cA m met) (bh m met) c:=by
 unfold cU;rw [List.map_congr_left fun v _=>(FK v).symm,List.map_congr_left (l:=c.XP) fun v _=>(FK v).symm]
section
variable {N:Nat}{roots:List VH}(h:MinCtx N m roots kept met)
include h
theorem MinCtx.cellE (d:a∈bU m.XR.length):gM N m met a=nC N m met a:=by
 have c:a∉met:=fun hm=>(W9.1 h.nd).2.2 a d a hm rfl
 unfold gM Cy;rw [if_neg c];rfl
theorem wJ (c:a∈met):gM N m met a=nY N m met a:=by
 have _:=h;unfold gM Cy;rw [if_pos c];rfl
theorem MinCtx.at_ (f:a∈bh m met):az (dO N m met) (cA m met a)=true/\am (dO N m met) (cA m met a)=gM N m met a:=by
 have d:(bU m.XR.length).length=m.XR.length:=by unfold bU;simp
 have c:((bU m.XR.length).map (nC N m met)).length=m.XR.length:=by rw [XK];exact d
 rcases h.cases f with ⟨a1,a2⟩|⟨a1,a2,e⟩|⟨a1,a2,e⟩
 ·rw [a2,h.cellE a1];obtain ⟨i,hi,rfl⟩:=iR.1 a1;refine NM _ ?_;show ((bU m.XR.length).map (nC N m met)++(met.filter fun a=> !ci m a).map (nY N m met))[i]? =_;rw [WA W,WI,WF (by omega:i<(bU m.XR.length).length),KB];rfl
 ·rw [h.rhoY a1 a2,wJ h a1];refine acB _ ?_;show ((met.filter (ci m)).map (nY N m met))[_]? =_;rw [WI,LF e];rfl
 rw [h.rhoO a1 a2,wJ h a1];refine NM _ ?_;show ((bU m.XR.length).map (nC N m met)++(met.filter fun a=> !ci m a).map (nY N m met))[_]? =_;rw [WB W,c,Nat.add_sub_cancel_left,WI,LF e];rfl
theorem MinCtx.okN (i:a∈bh m met):VCell N (nC N m met a)/\VCell N (gM N m met a):=by
 have j:=h.big;obtain ⟨c,f,d, -⟩:=CellOk.new h.ren (h.cell i);have e:nC N m met a=cU (cA m met) (bh m met) (bJ N (bh m met) (am m a)):=FF _;rw [<-e] at c f d;refine ⟨⟨by omega,c,f,d⟩,by omega,?_,f,d⟩;unfold gM Cy;by_cases hm:a∈met
 ·rw [if_pos hm];exact Rw c
 rw [if_neg hm];exact c
end
end
section
open Go.RowKit
theorem K4 (g:α->Nat)(p:α->Bool): ∀l:List α,ba g (l.filter p)+ba g (l.filter fun a=> !p a)=ba g l
 | []=>rfl
 |a::l=>by
  have c:=K4 g p l;rw [Ww,Ww];cases h:p a
  ·simp only [Wa,if_false,Bool.not_false,if_true,ba];omega
  simp only [Wa,if_false,Bool.not_true,if_true,ba];omega
theorem vp {g h:α->Nat}: ∀{l:List α},(∀x∈l,g x=h x)->ba g l=ba h l
 | [],_=>rfl
 |a::l,c=>by rw [ba,ba,c a (by simp),vp fun x d=>c x (by simp [d])]
theorem vT: ∀l:List α,ba (fun _=>1) l=l.length
 | []=>rfl
 |a::l=>by rw [ba,vT l,WP];omega
section
variable {N:Nat}{roots:List VH}(h:MinCtx N m roots kept met)
include h
theorem MinCtx.midSum (g:VL->Nat):ba g (dO N m met).XS+ba g (dO N m met).XR=ba (fun a=>g (gM N m met a)) (bh m met):=by
 have e:ba (fun a=>g (gM N m met a)) (bU m.XR.length)=ba (fun a=>g (nC N m met a)) (bU m.XR.length):=vp fun a c=>by rw [h.cellE c]
 have d:ba (fun a=>g (gM N m met a)) met=ba (fun a=>g (nY N m met a)) met:=vp fun a c=>by rw [wJ h c]
 have f:=K4 (fun a=>g (nY N m met a)) (ci m) met;unfold dO bh;simp only;rw [qe,qe,mX,mX,mX,e,d];omega
theorem MinCtx.midLe (g:VL->Nat)(c:∀a∈bh m met,g (gM N m met a)<=g (am m a)):ba g (dO N m met).XS+ba g (dO N m met).XR<=ba g m.XS+ba g m.XR:=by
 have i:=oD (fun a=>g (am m a)) h.nd fun a d=>sD (h.f1has d)
 have e:=mX g (am m) (jL m);rw [FY,qe] at e;rw [h.midSum];have f:=BI c;omega
theorem MinCtx.cellLe (c:a∈bh m met):(gM N m met a).XQ.length=(am m a).XQ.length/\(gM N m met a).XP.length<=(am m a).XP.length:=by
 have _:=h;have:=oG N (bh m met) (am m a);show ((bJ N (bh m met) (am m a)).XQ.map _).length=_/\((bJ N (bh m met) (am m a)).XP.map _).length<=_;rw [XK,XK];omega
theorem MinCtx.midCnt:(dO N m met).XS.length+(dO N m met).XR.length<=m.XS.length+m.XR.length:=by
 have:=h.midLe (fun _=>1) fun a _=>Xm _
 rw [vT,vT,vT,vT] at this;exact this
theorem MinCtx.midWt:wt (dO N m met).XS+wt (dO N m met).XR<=wt m.XS+wt m.XR:=by
 have:=h.midLe wC fun a c=>by
  have:=h.cellLe c;unfold wC;omega
 rw [<-oL, <-oL, <-oL, <-oL] at this;exact this
theorem MinCtx.midMem (e:c∈(dO N m met).XS++(dO N m met).XR): ∃a∈bh m met,c=gM N m met a:=by
 unfold dO at e;simp only [WY,W3,W2] at e;rcases e with ⟨a,⟨d, -⟩,rfl⟩|⟨a,d,rfl⟩|⟨a,⟨d, -⟩,rfl⟩
 ·exact ⟨a,VV _ d,(wJ h d).symm⟩
 ·exact ⟨a,VU _ d,(h.cellE d).symm⟩
 exact ⟨a,VV _ d,(wJ h d).symm⟩
theorem MinCtx.root (c:x∈cc roots):x∈bh m met:=by
 have d:=h.rootsH x c;obtain ⟨b,e⟩:=h.isM;unfold bh
 cases a:yB x with
 |true=>exact VV _ (e.start (VU _ c) a)
 |false=>
  obtain ⟨i,hi,rfl⟩:=Lq d a;exact VU _ (iR.2 ⟨i,hi,J⟩)
theorem MinCtx.rootIn:fA (bh m met) roots:=fun v a hb=>h.root (sj.2 ⟨v,a,hb,rfl⟩)
theorem MinCtx.rho64 (e:a∈bh m met):in64 (cA m met a):=by
 have f:=h.mlen;have j:=h.small.old
 have d: ∀p:Int->Bool,(met.filter p).length<=1200:=fun p=>Xn (WR _ _) f
 unfold in64;rcases h.cases e with ⟨a1,a2⟩|⟨a1,a2,c⟩|⟨a1,a2,c⟩
 ·obtain ⟨i,hi,rfl⟩:=iR.1 a1;rw [a2];omega
 ·have:=mc c;have:=d (ci m);rw [h.rhoY a1 a2];omega
 have:=mc c
 have:=d fun a=> !ci m a
 rw [h.rhoO a1 a2];omega
theorem MinCtx.mov64 (a:in64 v.N):in64 (bd (cA m met) (bh m met) v).N:=by
 unfold bd
 cases hb:aZ v&&decide (v.N∈bh m met) with
 |false=>exact a
 |true=>
  rw [XM,XE] at hb;exact h.rho64 hb.2
theorem MinCtx.now64: ∀v∈roots.map (bd (cA m met) (bh m met)),in64 v.N:=fun v a=>by
 obtain ⟨w,hw,rfl⟩:=W3.1 a;exact h.mov64 (h.r64 w hw)
theorem MinCtx.nCE (a:Int):nC N m met a=cU (cA m met) (bh m met) (bJ N (bh m met) (am m a)):=by
 have _:=h;exact FF _
theorem MinCtx.midW:W64 (dO N m met):=fun c f v e=>by
 obtain ⟨a,i,rfl⟩:=h.midMem f;have hv':v∈(nC N m met a).XQ++(nC N m met a).XP:=e;rw [h.nCE] at hv'
 have d:v∈((bJ N (bh m met) (am m a)).XQ++(bJ N (bh m met) (am m a)).XP).map (bd (cA m met) (bh m met)):=by rw [WV];exact hv'
 obtain ⟨w,hw,rfl⟩:=W3.1 d;refine h.mov64 ?_;rcases ML hw with hw|rfl
 ·exact h.w64.at_ a w hw
 show in64 0;unfold in64;omega
theorem MinCtx.midS (hcnt:m.XS.length+m.XR.length<=600)(l:List VH)(i:l.length<=600):Small (dO N m met) l:=by
 have:=h.midCnt;refine ⟨by omega,by omega,i,fun c f=> ?_,fun c f=> ?_⟩
 ·obtain ⟨a,d,rfl⟩:=h.midMem f;exact ⟨(h.okN d).2.slots,(h.okN d).2.more⟩
 obtain ⟨a,d,rfl⟩:=h.midMem f;have e:nC N m met a=cU (cA m met) (bh m met) (bJ N (bh m met) (am m a)):=FF _;have j:(gM N m met a).no=(nC N m met a).no:=rfl;rw [j,e,(CellOk.new h.ren (h.cell d)).2.2.2];exact h.small.kd a
theorem MinCtx.newHas {l:List VH}(c:fA (bh m met) l)(a:v∈l.map (bd (cA m met) (bh m met)))(hb:aZ v=true):az (dO N m met) v.N=true:=by
 obtain ⟨w,hw,rfl⟩:=W3.1 a;rw [Ga] at hb;have:=c w hw hb;rw [jF hb this];exact (h.at_ this).1
theorem MinCtx.midAddr (l:c∈(dO N m met).XS++(dO N m met).XR):bT c=true/\ ∀x∈bH c,az (dO N m met) x=true:=by
 obtain ⟨a,e,rfl⟩:=h.midMem l;refine ⟨(h.okN e).2.right,fun x j=> ?_⟩;have hx':x∈bH (nC N m met a):=j;obtain ⟨v,d,hb,rfl⟩:=vH hx';rw [h.nCE] at d;obtain ⟨i,f⟩:=(h.cell e).inC;rcases WY.1 d with d|d
 ·exact h.newHas i d hb
 exact h.newHas f d hb
end
end
section
open Go.RowKit
theorem Eu (N:Nat)(e:6500<N)(c:VL)(d:c.XQ.length<=600)(f:c.XP.length<=2900):uL N c=some ((bH c).any yB):=by
 have j:=mT c;have i:=r7 c
 have a: ∀x,uK N x=some (yB x):=fun x=>by
  unfold uK yB;cases decide (0<x)<;>cases decide (x.tmod 2=1)<;>rfl
 unfold uL bH;rw [pX N W c W W,zU N W c W W,bs,bs,wa N _ yB (cW c) W W (fun x _=>a x),wa N _ yB (ja c) W W (fun x _=>a x),bs,bs,List.any_append];cases (cW c).any yB<;>cases (ja c).any yB<;>rfl
theorem Ty {L:List (Int×Bool)}(h:a∉L.map (·.1)):jM L a=L:=by
 unfold jM;rcases GA a L with ⟨i,c, -,d⟩|⟨e, -⟩
 ·exact absurd (W3.2 ⟨_,W4 d,J⟩) h
 rw [e]
theorem J8 (N:Nat)(n:6500<N){roots:List VH}(d:Small m roots): ∃kv,mF N ⟨[]⟩ m=some ⟨kv⟩/\kv.map Prod.fst=el m:=by
 have o:=d.old
 have key:Sat (mF N ⟨[]⟩ m) fun r=>r.at_.map Prod.fst=el m:=by
  unfold mF DX;rw [bs];refine ib (fun k i (s:List (Int×Bool))=>qT N m k (i:Int) s) m.XR.length (fun i s=>s.map Prod.fst=((List.range i).filter (fE m)).map (fun i:Nat=>2*(i:Int)+2)) _ ?_ ?_ N 0 [] W W J
  ·rintro k i s hi c go;show Sat (qT N m (k+1) (i:Int) s) _;have f:=d.cells _ (VV m.XS (XO hi))
   have hnext:((List.range (i+1)).filter (fE m)).map (fun i:Nat=>2*(i:Int)+2)=((List.range i).filter (fE m)).map (fun i:Nat=>2*(i:Int)+2)++(bif fE m i then [2*(i:Int)+2] else []):=by
    rw [List.range_succ,Wv,WV];cases h:fE m i<;>simp [h]
   have a:(2*(i:Int)+2)∉s.map Prod.fst:=by
    rw [c];intro hm;obtain ⟨j,l,e⟩:=W3.1 hm;have:=W7.1 (W2.1 l).1;omega
   have e:(bH m.XR[i]).any yB=fE m i:=by unfold fE;rw [gN m i hi]
   rw [qT.eq_2,bG W,ct,bz hi,bs,r64 W W,r64 W W];unfold lE xJ rV;rw [Eu N n _ f.1 f.2,e,bG W,ct,ku W,fj W];simp only [bs,nt,cf];cases h:fE m i
   ·simp only [nf,ct,bs];rw [Ty a,r64 W W];exact go s (by rw [hnext,h,c,cf,Wj])
   simp only [nt,cf,bs];rw [r64 W W];refine go (dp s (2*(i:Int)+2) true) ?_;have:=Bk s (2*(i:Int)+2) true;rw [if_neg a] at this;rw [hnext,h,ct, <-c];exact this
  rintro k s c;show Sat (qT N m (k+1) _ s) _;rw [qT.eq_2,bI W,cf];exact ar c
 obtain ⟨r,e,h⟩:=key;exact ⟨r.at_,e,h⟩
theorem Be (m:Vw):(el m).Pairwise (· < ·):=by
 have:=Lh m;unfold kV at this;rw [XM,XE] at this;exact this.2
def kw (m:Vw)(live f:List Int):List VH:=f.flatMap fun a=>dy live (am m a)
section
variable {N:Nat}{roots:List VH}(h:CollCtx N m roots live f)
include h
theorem CollCtx.nextTot:(roots.map (bd (cw f) f)++(kw m live f).map (bd (cw f) f)).length+wt (dE N m live f).XS+wt (dE N m live f).XR<=roots.length+wt m.XS+wt m.XR:=by
 have e:=UV h.lv;have d:(dE N m live f).XS=[]:=rfl
 have c:(dE N m live f).XR=f.map fun a=>cU (cw f) f (bJ N live (am m a)):=rfl
 rw [d,c,XI,XK,XK];unfold kw;have i:wt []=0:=rfl;omega
end
end
section
open Go.RowKit
theorem oK {γ:Type}(o:Option α)(f:α->Option β)(g:β->γ):(o.bind f).map g=o.bind fun x=>(f x).map g:=by cases o<;>rfl
theorem NC {γ:Type}(c:Prop)[Decidable c](o:Option β)(g:β->γ):(ae c o).map g=ae c (o.map g):=by unfold ae;split<;>rfl
theorem BW {γ:Type}(b:Bool)(x y:Option β)(g:β->γ):(bif b then x else y).map g=bif b then x.map g else y.map g:=by cases b<;>rfl
def OD:(Vw×VO×VO×Int) ⊕ (Vw×VO×VO)->Vw×VO×VO×Int
 | .inl x=>x
 | .inr x=>(x.1,x.2.1,x.2.2,0)
theorem acq (N:Nat)(m:Vw)(roots:List VH):yO N m roots=(mI N m roots).map OD:=by
 have a6:xO=yl:=rfl;have a8:xQ=yo:=rfl;unfold yO mI;rw [a6,a8,oK]
 congr 1;funext a
 rw [BW];cases !decide (a=0)
 ·simp only [cond_false,oK]
  congr 1;funext i;congr 1;funext f;congr 1;funext e
  unfold jp;split
  ·simp only [oK]
   congr 1;funext d;congr 1;funext c
   split
   ·simp only [oK];rfl
   ·rfl
   ·rfl
   rfl
  ·rfl
  ·rfl
  rfl
 rfl
def CG:(Vw×VO×VO) ⊕ (Vw×VO×VO)->Vw×VO×VO×Int
 | .inl x=>(x.1,x.2.1,x.2.2,1)
 | .inr x=>(x.1,x.2.1,x.2.2,0)
theorem U5 (N:Nat)(j:Vw)(f:VG)(a1:List VH)(e d:List Int): ∀(k:Nat) (a6:List VH) (a8:Int) (c a:List VL),nG N f a1 e d k a6 a8 c a=(qV N f a1 e d j k a6 a8 c a).map CG:=by
 intro k
 induction k with
 |zero=>intros;rfl
 |succ k i=>
  intro a6 a8 c a;rw [nG.eq_2,qV.eq_2];unfold yq xM D2 DJ;simp only [BW,oK,NC,i];rfl
theorem Un (N:Nat)(d:Vw)(a1:List VH)(a2 f:List Int)(e:VG): ∀(k:Nat) (a6:List VH) (a8:List Int) (c:Int) (a:List VL),pu N d a1 a2 f e k a6 a8 c a=(qX N d a1 a2 f e k a6 a8 c a).map CG:=by
 intro k
 induction k with
 |zero=>intros;rfl
 |succ k i=>
  intro a6 a8 c a;rw [pu.eq_2,qX.eq_2];unfold ux xI D1 DL;simp only [BW,oK,NC,i,U5 N d]
theorem ach (N:Nat)(m:Vw)(roots:List VH)(kept:List Int):rv N m roots kept=(nH N m roots kept).map CG:=by
 unfold rv nH;rw [oK]
 congr 1;funext a
 rw [BW];cases !a
 ·simp only [cond_false,oK,Un]
 rfl
def mS (l:List VL):Nat:=ba (fun c=>c.XP.length) l
theorem vG (n:Nat): ∀l:List α,ba (fun _=>n) l=n*l.length
 | []=>by simp [ba]
 |a::l=>by rw [ba,vG n l,WP,Nat.mul_succ];omega
theorem FM (g:α->Nat)(x:α): ∀(l:List α) (i:Nat),ba g (l.set i x)<=ba g l+g x
 | [],_=>by simp [ba]
 |a::l,0=>by simp only [List.set_cons_zero,ba];omega
 |a::l,i+1=>by have:=FM g x l i;simp only [List.set_cons_succ,ba];omega
structure HInv (k:Nat) (g:Vz):Prop where
 cnt:g.m_.XS.length+g.m_.XR.length<=k
 cells: ∀c∈g.m_.XS++g.m_.XR,c.XQ.length<=20/\c.XP.length<=20
 sum:4*(g.Yb++g.Yg).length+3*(mS g.m_.XS+mS g.m_.XR)<=60*k
 w64:W64 g.m_
 r64: ∀v∈g.Yb++g.Yg,in64 v.N
 nd:(g.Yf.at_.map Prod.fst).Nodup
 keys: ∀x∈g.Yf.at_.map Prod.fst, ∃i:Nat,i<g.m_.XR.length/\x=2*(i:Int)+2
section
variable {g:Vz}(h:HInv k g)
include h
end
structure HB (g:Vz):Prop where
 small:Small g.m_ (g.Yb++g.Yg)
 wtd:Wtd g.m_ (g.Yb++g.Yg)
 tot:ba (fun a=>(am g.m_ a).XP.length) (jL g.m_)<=3600
 four:4*(g.Yb++g.Yg).length+3*(mS g.m_.XS+mS g.m_.XR)<=9000
 w64:W64 g.m_
 r64: ∀v∈g.Yb++g.Yg,in64 v.N
 nd:(g.Yf.at_.map Prod.fst).Nodup
 keys: ∀x∈g.Yf.at_.map Prod.fst, ∃i:Nat,i<g.m_.XR.length/\x=2*(i:Int)+2
theorem Cm (N:Nat)(g:Vz)(c:in64 a):nM N g a=some (az g.m_ a):=by
 unfold nM fJ;rw [bs,nf,ct,sx N _ _ c];rfl
theorem Jm {N:Nat}(d:6500<N)(a:c.XQ.length<=1000/\c.XP.length<=2900):lL N c=some (bT c):=by
 rw [FJ N W c a.1 a.2,vu N W c a.1 a.2]
def ju (c:VL)(a:Int):VL:=⟨c.no,c.XV,c.XU,a,c.XQ,c.XP⟩
def nj (kv:List (Int×Bool))(a:Int)(c:VL):List (Int×Bool):=bif (bH c).any yB then dp kv a true else jM kv a
theorem TX {N:Nat}(d:6500<N)(a:c.XQ.length<=600/\c.XP.length<=2900)(kv:List (Int×Bool))(i:Nat): ∃b,lE N ⟨kv⟩ (2*(i:Int)+2) c=some (b,⟨nj kv (2*(i:Int)+2) c⟩):=by
 unfold lE xJ rV nj;rw [bG W,ct,ku W,fj W,Eu N d c a.1 a.2];simp only [bs,nt,cf];cases (bH c).any yB
 ·exact ⟨false,J⟩
 exact ⟨true,J⟩
theorem UZ (h:(kv.map Prod.fst).Nodup)(a:Int)(c:VL):((nj kv a c).map Prod.fst).Nodup:=by
 unfold nj;cases (bH c).any yB
 ·exact (K1 h a).2.1
 show ((dp kv a true).map (·.1)).Nodup;rw [Bk];split
 ·exact h
 rename_i f
 exact W9.2 ⟨h,by simp,fun x d y e=>by rintro rfl;exact f (by rw [W8.1 e] at d;exact d)⟩
theorem Kj (h:(kv.map Prod.fst).Nodup)(a:Int)(c:VL)(x:Int):x∈(nj kv a c).map Prod.fst↔((bH c).any yB=true/\(x∈kv.map Prod.fst\/x=a))\/((bH c).any yB=false/\x∈kv.map Prod.fst/\x≠a):=by
 unfold nj;cases (bH c).any yB
 ·simp only [Wa,false_and,false_or,true_and];exact (K1 h a).1 x
 simp only [Bool.true_eq_false,false_and,or_false,true_and];show x∈(dp kv a true).map (·.1)↔(x∈kv.map (·.1)\/x=a);rw [Bk];split
 ·rename_i f
  exact ⟨.inl,fun d=>d.elim id fun e=>e▸f⟩
 rw [WY,W8]
def cl (g:Vz)(a:Int)(c:VL):Vz:=
 bif decide (a%2=1) then ⟨⟨g.m_.XS.set (a / 2).toNat (ju c (am g.m_ a).XW),g.m_.XR⟩,g.Yb,g.Yg,g.Yf⟩
 else ⟨⟨g.m_.XS,g.m_.XR.set (a / 2 - 1).toNat (ju c (am g.m_ a).XW)⟩,g.Yb,g.Yg,⟨nj g.Yf.at_ a c⟩⟩
def ta (g:Vz)(i:Int):Bool:=decide (0<=i)&&decide (i<(g.Yb.length:Int))
theorem SO {g:Vz}{i:Int}(h:ta g i=true): ∃j:Nat,i=j/\j<g.Yb.length:=by
 unfold ta at h;rw [XM,XE,XE] at h;exact ⟨i.toNat,by omega,by omega⟩
theorem TH (N:Nat)(g:Vz)(i:Int):jx N g i=some (bif ta g i then g.Yb.getD i.toNat vZ else vZ):=by
 unfold jx fJ
 cases hb:ta g i with
 |true=>
  obtain ⟨j,rfl,a⟩:=SO hb;rw [bs,cf,bs,VR (p:=(j:Int)<0) W,cf,bs,VR (p:=(g.Yb.length:Int)<=(j:Int)) W,cf,bz a,bs,ct,Wg,List.getD_eq_getElem?_getD,WF a];rfl
 |false=>
  unfold ta at hb;rw [bs,cf,bs,cf];by_cases c:i<0
  ·rw [bG c,ct,bs];rfl
  rw [VR c,cf,bs];rw [VQ (p:=(0:Int)<=i) W,Wb,XD] at hb;rw [VQ (p:=(g.Yb.length:Int)<=i) W];rfl
end
section
open Go.RowKit
theorem MA (l:List Int)(a:VH): ∀xs:List VH,4*(ge l a xs).length+3*(cZ l xs).length<=3*xs.length
 | []=>by simp [cZ,ge]
 | [_]=>by simp [cZ,ge]
 | [_,_]=>by simp [cZ,ge]
 | [_,_,_]=>by simp [cZ,ge]
 |t::h::k::s::r=>by
  have:=MA l a r;unfold cZ ge;cases decide (t.N∈l)<;>simp<;>omega
theorem aaa (N:Nat)(l:List Int)(c:VL):4*(dy l c).length+3*(bJ N l c).XP.length<=3*c.XP.length:=by
 have d:=(oG N l c).2;by_cases a:c.no=10
 ·have:=MA l (c.XP.headD jm) (c.XP.drop 1);unfold bJ dy;rw [VQ a,VR (p:=c.no=8) W];show 4*(ge l (c.XP.headD jm) (c.XP.drop 1)).length+3*(c.XP.take 1++cZ l (c.XP.drop 1)).length<=_;rw [XI,XJ];rw [WQ] at this;omega
 have e:dy l c=[]:=by unfold dy;rw [VR a];rfl
 rw [e] at d⊢;simp only [WS] at d⊢;omega
theorem AU (n:Nat)(g:α->Nat): ∀l:List α,ba (fun x=>n*g x) l=n*ba g l
 | []=>by simp [ba]
 |a::l=>by simp only [ba];rw [AU n g l,Nat.mul_add]
theorem Cd (m:Vw):ba (fun a=>(am m a).XP.length) (jL m)=mS m.XS+mS m.XR:=by
 have d:=mX (fun c:VL=>c.XP.length) (am m) (jL m);rw [FY,qe] at d;exact d.symm
theorem Og {N:Nat}(c:f.Nodup)(d:∀a∈f,az m a=true):4*(f.flatMap fun a=>dy lv (am m a)).length+3*ba (fun a=>(bJ N lv (am m a)).XP.length) f<=3*(mS m.XS+mS m.XR):=by
 rw [EZ]
 have j:ba (fun a=>4*(dy lv (am m a)).length+3*(bJ N lv (am m a)).XP.length) f<=ba (fun a=>3*(am m a).XP.length) f:=BI fun a _=>aaa N lv (am m a)
 rw [AR,AU,AU,AU] at j
 have i:=oD (fun a=>(am m a).XP.length) c fun a e=>sD (d a e)
 rw [Cd] at i;omega
theorem zW (N:Nat)(a b:List VH)(c:a.length<=100000)(hb:b.length<=100000):mx N a b=some (a++b):=by
 unfold mx Dp Du xB Do;rw [r64 W W,bI (a:=0+(a.length:Int)) W,cf,r64 W W,bI (a:=0+(a.length:Int)+(b.length:Int)) W,cf,r64 W W,r64 W W,cf];by_cases h:0<a.length+b.length
 ·rw [bG W,ct,ce ⟨by omega,by omega⟩,bs,rF (by simp;omega),rF (by simp;omega)];rfl
 rw [bI W,cf,bs,rF (by simp;omega),rF (by simp;omega)];rfl
theorem J5 (N:Nat)(a:List VH)(c:a.length<=100000):kK N a=some a:=by
 unfold kK;rw [rF (by simp;omega)];rfl
theorem RW (N:Nat)(g:Vz)(h:g.Yb.length<=600):ut N g=some g.Yb:=by
 unfold ut fJ;rw [bs,cf,J5 N _ W,bs]
section
variable {g:Vz}(h:HB g)
include h
theorem HB.klen:g.Yf.at_.length<=g.m_.XR.length:=by
 have a:=oD (fun _=>1) h.nd (L:=bU g.m_.XR.length) fun x c=>iR.2 (h.keys x c)
 rw [vG,vG,XK] at a;unfold bU at a;simp only [XK,List.length_range] at a;omega
theorem HB.keysH (a:x∈di g.Yf.at_):az g.m_ x=true:=by
 obtain ⟨i,hi,rfl⟩:=h.keys x ((qa _ x).1 a);rw [ko,VQ hi]
theorem HB.kslen:(di g.Yf.at_).length<=g.m_.XR.length:=by
 have a:=h.klen;have e:(di g.Yf.at_).length=(g.Yf.at_.map Prod.fst).length:=vC _;rw [e,XK];omega
theorem Kf (N:Nat):uu N g.Yf=some (di g.Yf.at_):=by
 have d:=h.klen;have c:=h.small.old;unfold uu EU D9;rw [bs,ce ⟨fun x a=>lZ h.small (by obtain ⟨i,hi,rfl⟩:=h.keys x a;rw [ko,VQ hi]),h.nd,by show bC g.Yf.at_.length;unfold bC;omega⟩,bs]
end
theorem Lz (h:kv.map Prod.fst=el m):(kv.map Prod.fst).Nodup/\ ∀x∈kv.map Prod.fst, ∃i:Nat,i<m.XR.length/\x=2*(i:Int)+2:=by
 rw [h];refine ⟨(Be m).imp fun c e=>by omega,fun x a=> ?_⟩;obtain ⟨i,hi, -,e⟩:=su.1 a;exact ⟨i,hi,e⟩
theorem Ms {N:Nat}(f:VH->VH)(r p gone:List VH){R:Type}(F:List VH->List VH->Option R)(i:r.length+p.length<=600)(e:gone.length<=3000):
  ae ((0:Int)<=(r.length:Int)/\0<=(r.length:Int).toNat/\(r.length:Int).toNat<=((r++p).map f).length) (ae ((0:Int)<=(r.length:Int)/\(r.length:Int).toNat<=((r++p).map f).length/\((r++p).map f).length<=((r++p).map f).length) ((kK N ((((r++p).map f).drop 0).take ((r.length:Int).toNat - 0))).bind fun a6=>(mx N ((((r++p).map f).drop ((r.length:Int).toNat)).take (((r++p).map f).length - (r.length:Int).toNat)) gone).bind fun a8=>F a6 a8))=F (r.map f) (p.map f++gone):=by
 have c:(((r++p).map f).drop 0).take ((r.length:Int).toNat - 0)=r.map f:=by
  rw [Ws,Nat.sub_zero,Wg,WV,List.take_left' (by simp)]
 have a:(((r++p).map f).drop ((r.length:Int).toNat)).take (((r++p).map f).length - (r.length:Int).toNat)=p.map f:=by
  rw [Wg,WV,List.drop_left' (by simp)];exact Xf (by simp)
 have d:((r++p).map f).length=r.length+p.length:=by simp
 rw [ce ⟨by omega,by omega,by omega⟩,ce ⟨by omega,by omega,by omega⟩,c,a,J5 N _ (by simp;omega),bs,zW N _ _ (by simp;omega) W,bs]
section
variable {N:Nat}{roots:List VH}(h:MinCtx N m roots kept met)
include h
theorem MinCtx.mid4:4*(lj m met).length+3*(mS (dO N m met).XS+mS (dO N m met).XR)<=3*(mS m.XS+mS m.XR):=by
 have i:=Og (N:=N) (lv:=bh m met) h.nd fun a d=>h.f1has d
 have f:=h.midSum fun c=>c.XP.length
 have e:ba (fun a=>(gM N m met a).XP.length) (bh m met)=ba (fun a=>(bJ N (bh m met) (am m a)).XP.length) (bh m met):=vp fun a _=>by
  show ((bJ N (bh m met) (am m a)).XP.map _).length=_;rw [XK]
 unfold mS lj at*;omega
end
section
variable {N:Nat}{roots:List VH}(h:CollCtx N m roots live f)
include h
theorem CollCtx.next4:4*(kw m live f).length+3*(mS (dE N m live f).XS+mS (dE N m live f).XR)<=3*(mS m.XS+mS m.XR):=by
 have j:=Og (N:=N) (lv:=live) h.lv.nd fun a d=>h.lv.fhas d
 have i:mS (dE N m live f).XR=ba (fun a=>(bJ N live (am m a)).XP.length) f:=by
  show ba (fun c:VL=>c.XP.length) (f.map fun a=>cU (cw f) f (bJ N live (am m a)))=_;rw [mX]
  exact vp fun a _=>by show ((bJ N live (am m a)).XP.map _).length=_;rw [XK]
 have e:mS (dE N m live f).XS=0:=rfl;unfold kw at*;omega
theorem CollCtx.nextCnt:(dE N m live f).XR.length<=m.XS.length+m.XR.length:=by
 have c:=oD (fun _=>1) h.lv.nd fun a d=>sD (h.lv.fhas d)
 rw [vG,vG] at c;unfold jL at c;unfold dE;simp only [XI,XK,List.length_range] at c⊢;omega
end
theorem abO {N:Nat}(j:6500<N){g:Vz}(h:HB g):
  (lu N g.m_ (g.Yb++g.Yg) (di g.Yf.at_)=false/\mJ N g=some (1,g))\/
  ∃met kv,MinCtx N g.m_ (g.Yb++g.Yg) (di g.Yf.at_) met/\kv.map Prod.fst=el (dO N g.m_ met)/\
   mJ N g=some (0,⟨dO N g.m_ met,g.Yb.map (bd (cA g.m_ met) met),g.Yg.map (bd (cA g.m_ met) met)++(lj g.m_ met).map (bd (cA g.m_ met) met),⟨kv⟩⟩):=by
 have a:=h.small;have q:=h.kslen;have C:=a.old;have i:=a.roots;have hsum:=h.four;have hcnt:=h.wtd.cnt;rw [XI] at i hsum;have hm:=ach N g.m_ (g.Yb++g.Yg) (di g.Yf.at_)
 have head:mJ N g=((nH N g.m_ (g.Yb++g.Yg) (di g.Yf.at_)).bind fun a6=>dB a6 (fun y13_0=>some (.inl (y13_0.1,y13_0.2.1,y13_0.2.2))) (fun y13_1=>some (.inr (y13_1.1,y13_1.2.1,y13_1.2.2)))).bind fun a8=>(dB a8 (fun y26_0:Vw×VO×VO=>Da N g y26_0.1.XS y26_0.1.XR y26_0.2.1 y26_0.2.2) (fun y26_1:Vw×VO×VO=>xo N g y26_1.1.XS y26_1.1.XR y26_1.2.1 y26_1.2.2)).bind fun l=>some (l.1,l.2):=by
  unfold mJ Dk DA fJ;rw [bs,cf,zW N _ _ W W,bs,Kf h N,bs,Option.bind_assoc]
 cases hmay:lu N g.m_ (g.Yb++g.Yg) (di g.Yf.at_) with
 | false=>
  have t:rv N g.m_ (g.Yb++g.Yg) (di g.Yf.at_)=some (⟨[],[]⟩,[],[],1):=by
   unfold rv;rw [KY N j a h.w64 h.r64 _ W (fun x o=>lZ a (h.keysH o)),hmay,bs,nf,ct]
  rw [t] at hm;refine .inl ⟨J,?_⟩;rw [head]
  cases d:nH N g.m_ (g.Yb++g.Yg) (di g.Yf.at_) with
  |none=>rw [d] at hm;cases hm
  | some y=>
   rw [d] at hm
   cases y with
   |inl y=>rfl
   |inr y=>
    have:=Xx hm;have:=congrArg (fun z:Vw×VO×VO×Int=>z.2.2.2) this;exact absurd this (by show¬(1:Int)=0;omega)
 | true=>
  obtain ⟨met,c⟩:=aa0 j a h.w64 h.r64 h.tot (kept:=di g.Yf.at_) W hmay;have E:=c.mid4;have p:=c.midCnt;obtain ⟨kv,k1,k2⟩:=J8 N j (m:=dO N g.m_ met) (c.midS W [] (by simp));have D:((lj g.m_ met).map (bd (cA g.m_ met) met)).length=(lj g.m_ met).length:=XK _;refine .inr ⟨met,kv,c,k2,?_⟩;rw [UI c] at hm;rw [head]
  have ek:nH N g.m_ (g.Yb++g.Yg) (di g.Yf.at_)=some (.inr (dO N g.m_ met,(g.Yb++g.Yg).map (bd (cA g.m_ met) met),(lj g.m_ met).map (bd (cA g.m_ met) met))):=by
   cases d:nH N g.m_ (g.Yb++g.Yg) (di g.Yf.at_) with
   |none=>rw [d] at hm;cases hm
   | some y=>
    rw [d] at hm;have e:=Xx hm
    cases y with
    |inl y=>
     have:=congrArg (fun z:Vw×VO×VO×Int=>z.2.2.2) e;exact absurd this (by show¬(0:Int)=1;omega)
    |inr y=>
     obtain ⟨B,A,u⟩:=y;have n:=e;simp only [CG,Prod.mk.injEq,and_true] at n;obtain ⟨rfl,rfl,rfl⟩:=n;rfl
  rw [ek,bs];dsimp only [dB];rw [bs];dsimp only;unfold xo Dc;rw [Ms (N:=N) (bd (cA g.m_ met) met) g.Yb g.Yg _ _ W W];have f:mF N g.Yf (⟨(dO N g.m_ met).XS,(dO N g.m_ met).XR⟩:Vw)=some ⟨kv⟩:=k1;rw [f,bs,bs]
theorem Sv {N:Nat}{R:List VH}(a:rJ N m R=some 0){y:Vw×List VH×List VH×Int}(h:mI N m R=some (.inl y)):False:=by
 unfold mI at h;rw [a,bs,VQ (p:=(0:Int)=0) rfl,nt,cf] at h;obtain ⟨a6, -,h⟩:=ad h;obtain ⟨a8, -,h⟩:=ad h;obtain ⟨i, -,h⟩:=ad h;unfold jp at h;split at h
 ·obtain ⟨f, -,h⟩:=ad h;obtain ⟨e, -,h⟩:=ad h;split at h
  ·obtain ⟨d, -,h⟩:=ad h;obtain ⟨c, -,h⟩:=ad h;cases h
  ·cases h
  ·cases h
  cases h
 ·cases h
 ·cases h
 cases h
theorem abz {N:Nat}(l:6500<N){g:Vz}(h:HB g):
  (iw N g.m_ (g.Yb++g.Yg)≠0/\mH N g=some (iw N g.m_ (g.Yb++g.Yg),g))\/
  ∃live f kv,CollCtx N g.m_ (g.Yb++g.Yg) live f/\kv.map Prod.fst=el (dE N g.m_ live f)/\
   mH N g=some (0,⟨dE N g.m_ live f,g.Yb.map (bd (cw f) f),g.Yg.map (bd (cw f) f)++(kw g.m_ live f).map (bd (cw f) f),⟨kv⟩⟩):=by
 have j:=h.small;have o:=j.roots;have hsum:=h.four;have hcnt:=h.wtd.cnt;rw [XI] at o hsum;obtain ⟨live,f,q⟩:=aaU N l j h.w64 h.r64;have E:=Rz N l j h.wtd h.w64 h.r64 q;have hm:=acq N g.m_ (g.Yb++g.Yg);rw [E] at hm;unfold GV at hm
 have head:mH N g=((mI N g.m_ (g.Yb++g.Yg)).bind fun a6=>dB a6 (fun y11_0=>some (.inl (y11_0.1,y11_0.2.1,y11_0.2.2.1,y11_0.2.2.2))) (fun y11_1=>some (.inr (y11_1.1,y11_1.2.1,y11_1.2.2)))).bind fun a8=>(dB a8 (fun y27_0:Vw×VO×VO×Int=>xp N g y27_0.1.XS y27_0.1.XR y27_0.2.1 y27_0.2.2.1 y27_0.2.2.2) (fun y27_1:Vw×VO×VO=>xq N g y27_1.1.XS y27_1.1.XR y27_1.2.1 y27_1.2.2)).bind fun p=>some (p.1,p.2):=by
  unfold mH Dj Dz fJ;rw [bs,cf,zW N _ _ W W,bs,Option.bind_assoc]
 by_cases d: ¬iw N g.m_ (g.Yb++g.Yg)=0
 ·rw [cE d,cond_false] at hm;refine .inl ⟨d,?_⟩;rw [head]
  cases i:mI N g.m_ (g.Yb++g.Yg) with
  |none=>rw [i] at hm;cases hm
  | some y=>
   rw [i] at hm;have e:=congrArg (fun z:Vw×VO×VO×Int=>z.2.2.2) (Xx hm)
   cases y with
   |inl y=>
    obtain ⟨C,B,A,u⟩:=y;have K:iw N g.m_ (g.Yb++g.Yg)=u:=e;rw [bs];dsimp only [dB];rw [bs];dsimp only;unfold xp;rw [<-K,cE d,nf,ct,bs]
   |inr y=>exact absurd e d
 replace d:iw N g.m_ (g.Yb++g.Yg)=0:=by omega
 rw [fj d,cond_true] at hm;have c:=acA l j h.wtd h.w64 h.r64 q d;have H:=c.next4;have F:=c.nextCnt;have h0n:(dE N g.m_ live f).XS.length=0:=rfl;obtain ⟨kv,k1,k2⟩:=J8 N l (m:=dE N g.m_ live f) (c.nextS [] (by simp));have D:mF N g.Yf (⟨(dE N g.m_ live f).XS,(dE N g.m_ live f).XR⟩:Vw)=some ⟨kv⟩:=k1;have t:((kw g.m_ live f).map (bd (cw f) f)).length=(kw g.m_ live f).length:=XK _;refine .inr ⟨live,f,kv,c,k2,?_⟩;rw [head]
 cases i:mI N g.m_ (g.Yb++g.Yg) with
 |none=>rw [i] at hm;cases hm
 | some y=>
  rw [i] at hm;have e:=Xx hm
  cases y with
  |inl y=>exact (Sv (by rw [JY N l j h.wtd h.w64 h.r64,d]) i).elim
  |inr y=>
   obtain ⟨C,B,A⟩:=y;simp only [OD,Prod.mk.injEq,and_true] at e;obtain ⟨rfl,rfl,rfl⟩:=e;rw [bs];dsimp only [dB];rw [bs];dsimp only;unfold xq C8;unfold wM;dsimp only;rw [Ms (N:=N) (bd (cw f) f) g.Yb g.Yg _ _ W (by unfold kw at t;rw [t];unfold kw at H;omega)];have n:mF N g.Yf (⟨[],f.map fun a=>cU (cw f) f (bJ N live (am g.m_ a))⟩:Vw)=some ⟨kv⟩:=k1;rw [n,bs,bs];rfl
end
section
open Go.RowKit
theorem TW (N:Nat)(a b:Int):Al N a b=some (decide (a<b)):=by
 unfold Al pO;rw [bs,fj rfl,Bool.not_true,cond_false,bs,cond_false,bs]
theorem aar {b:Int}(e:0<=a)(d:a<b)(c:b<=100000):IntKind.i64.wrap ((IntKind.u64.wrap (a+b)).fdiv (2 ^ 1))=(a+b) / 2:=by
 rw [IntWalk.u64_in _ ⟨by omega,by omega⟩,Int.fdiv_eq_ediv_of_nonneg _ W,show (2:Int) ^ 1=2 from rfl,IntWalk.i64_in _ ⟨by omega,by omega⟩]
theorem Ru (N:Nat)(E:6500<N)(l:List Int)(x:Int)(D:l.length<=1000)(B:l.Pairwise (· < ·)):Sat (xD N l x) fun r=>r.2=decide (x∈l):=by
 unfold xD;have u:=Xb.1 B;refine Bl (fun m (s:Int×Int)=>qM N x l m s.1 s.2) (fun s=>(s.2 - s.1).toNat) (fun s=>0<=s.1/\s.1<=s.2/\s.2<=l.length/\(∀(j:Nat) (c:j<l.length),(j:Int)<s.1->l[j]<x)/\(∀(j:Nat) (c:j<l.length),s.2<=(j:Int)->x<=l[j])) _ ?_ N (0,(l.length:Int)) (by show ((l.length:Int) - 0).toNat<N;omega) ⟨by omega,by show (0:Int)<=l.length;omega,by show (l.length:Int)<=l.length;omega,fun j c h=>by have:(j:Int)<0:=h;omega,fun j c h=>by have:(l.length:Int)<=j:=h;omega⟩;rintro m ⟨a,b⟩ ⟨q,C,A,p,z⟩ k;dsimp only at q C A p z
 show Sat (qM N x l (m+1) a b) _;rw [qM.eq_2]
 refine bq (fun i=> ?_) fun i=> ?_
 ·have hm:((a+b) / 2).toNat<l.length:=by omega
  rw [r64 W W,aar q i W,Mu W hm,bs,TW,bs];refine bq (fun f=> ?_) fun f=> ?_
  ·rw [r64 W W];refine k ((a+b) / 2+1,b) (by show (b - ((a+b) / 2+1)).toNat<(b - a).toNat;omega) ⟨by show 0<=(a+b) / 2+1;omega,by show (a+b) / 2+1<=b;omega,A,fun j c h=> ?_,z⟩;have h:(j:Int)<(a+b) / 2+1:=h;rcases Xp j ((a+b) / 2).toNat with d|d
   ·have:=u j _ c hm d;omega
   have e:j=((a+b) / 2).toNat:=by omega
   subst e;exact f
  refine k (a,(a+b) / 2) (by show ((a+b) / 2 - a).toNat<(b - a).toNat;omega) ⟨q,by show a<=(a+b) / 2;omega,by show (a+b) / 2<=l.length;omega,p,fun j c h=> ?_⟩;have h:(a+b) / 2<=(j:Int):=h;rcases Xp ((a+b) / 2).toNat j with d|d
  ·have:=u _ j hm c d;omega
  have e:j=((a+b) / 2).toNat:=by omega
  subst e;omega
 obtain rfl:a=b:=by omega
 unfold Dr zc;by_cases f:a<l.length
 ·have n:a.toNat<l.length:=by omega
  rw [bG f,cond_true,Mu q n,bs];by_cases o:l[a.toNat]=x
  ·rw [fj o,cond_true,bs,bs];exact ar (Eq.symm (VQ (o▸XO n)))
  rw [cE o,cond_false,bs,bs,fj rfl,Bool.not_true,cond_false,bs,bs,bs];refine ar (Eq.symm (VR fun t=> ?_));obtain ⟨j,c,rfl⟩:=List.mem_iff_getElem.1 t;rcases Nat.lt_trichotomy j a.toNat with d|d|d
  ·have:=p j c W;omega
  ·subst d;exact o J
  have F:=u _ _ n c d;have:=z a.toNat n W;omega
 rw [bI W,cond_false,bs];refine ar (Eq.symm (VR fun t=> ?_));obtain ⟨j,c,rfl⟩:=List.mem_iff_getElem.1 t;have:=p j c W;omega
theorem U6 (m:Vw)(l:List Int):jr m l=(List.range m.XR.length).all fun i=> !fE m i||decide ((2*(i:Int)+2)∈l):=rfl
theorem Ui (n:Nat)(p:Nat->Bool):(List.range n).all p=true↔ ∀i,i<n->p i=true:=by
 rw [Wi];exact ⟨fun h i hi=>h i (W7.2 hi),fun h i hi=>h i (W7.1 hi)⟩
theorem Q0 {N:Nat}(z:6500<N){roots:List VH}(q:Small m roots)(u:l.Pairwise (· < ·))(C:∀x∈l, ∃i:Nat,i<m.XR.length/\x=2*(i:Int)+2)(A:l.length<=1000):yZ N m l=some (jr m l):=by
 have H:=q.old
 have second:rl N m l N 0=some (jr m l):=by
  rw [U6]
  have key: ∀k i:Nat,m.XR.length<k+i->i<=m.XR.length->Sat (rl N m l k (i:Int)) fun b=>b=true↔ ∀j,i<=j->j<m.XR.length->(!fE m j||decide ((2*(j:Int)+2)∈l))=true:=by
   intro k
   induction k with
   |zero=>intro i c a;omega
   | succ k n=>
    intro i c a;rw [rl.eq_2];by_cases hi:i<m.XR.length
    ·have d:=n (i+1) W hi;rw [show (((i+1:Nat)):Int)=(i:Int)+1 by omega] at d;have t:=q.cells _ (VV m.XS (XO hi))
     have e:(bH m.XR[i]).any yB=fE m i:=by unfold fE;rw [gN m i hi]
     obtain ⟨r,f,o⟩:=Ru N z l (2*(i:Int)+2) A u;rw [bG W,ct,bz hi,bs,r64 W W,r64 W W,f,bs,o,Eu N z _ t.1 t.2,e]
     have E:((bif !decide (2*(i:Int)+2∈l) then (some (fE m i)).bind fun a6=>some a6 else some false):Option Bool)=some (!(!fE m i||decide (2*(i:Int)+2∈l))):=by
      cases decide (2*(i:Int)+2∈l)<;>cases fE m i<;>rfl
     rw [E,bs]
     cases hb:!fE m i||decide (2*(i:Int)+2∈l) with
     |false=>
      rw [nf,ct];refine ar ⟨fun h=>(by cases h),fun h=> ?_⟩;have:=h i (Xm _) hi;rw [hb] at this;cases this
     |true=>
      rw [nt,cf,r64 W W];refine d.mono fun b h=>h.trans ⟨fun h j c a=> ?_,fun h j c a=>h j W a⟩
      rcases Xp i j with D|D
      ·exact h j W a
      obtain rfl:j=i:=by omega
      exact hb
    rw [bI W,cf];exact ar ⟨fun _ j c a=>by omega,fun _=>rfl⟩
  obtain ⟨b,f,o⟩:=key N 0 W W;have p:rl N m l N 0=some b:=f;rw [p]
  congr 1
  rw [Bool.eq_iff_iff,o,Ui];exact ⟨fun h i hi=>h i (Xt _) hi,fun h i _ hi=>h i hi⟩
 have B:=Xb.1 u;unfold yZ
 have key: ∀k i:Nat,l.length<k+i->i<=l.length->yD N l m k (i:Int)=some (jr m l):=by
  intro k
  induction k with
  |zero=>intro i c a;omega
  | succ k n=>
   intro i c a;rw [yD.eq_2];by_cases hi:i<l.length
   ·have d:=n (i+1) W hi;rw [show (((i+1:Nat)):Int)=(i:Int)+1 by omega] at d;obtain ⟨j,K,ej⟩:=C _ (XO hi)
    have ep:((bif decide (0<(i:Int)) then (ae (in64 ((i:Int) - 1)) ((ak l ((i:Int) - 1)).bind fun a8=>some (decide (l[i]<=a8)))) else (some false)).bind fun F=>some F)=some false:=by
     by_cases L:0<i
     ·have f:(i:Int) - 1=((i - 1:Nat):Int):=by omega
      have:=B (i - 1) i W hi W;rw [bG W,ct,r64 W W,f,bz W,bs,bs,VR W]
     rw [bI W,cf,bs]
    unfold rV;rw [bG W,ct,bz hi,bs,ep,ej,bG W,ct,ku W,fj W,bs,bs,nt,cf,r64 (by rw [We W];omega) (by rw [We W];omega),bs,We W,bI W,cf,bs,cf,r64 W W];exact d
   rw [bI W,cf];exact second
 exact key N 0 W W
theorem J3 (m:Vw): ∀l:List VH,l.any (fun v=>aZ v&& !az m v.N)=!dr m (cc l)
 | []=>rfl
 |v::l=>by
  have a:=J3 m l;unfold dr cc at a⊢;rw [List.any_cons,a,Ww]
  cases hb:aZ v with
  |false=>rw [if_neg (by simp)];rfl
  |true=>rw [if_pos rfl,WW,List.all_cons];cases az m v.N<;>rfl
def Cj (g:Vz):Int:=bif !dr g.m_ (cc (g.Yb++g.Yg)) then 50 else bif !((g.m_.XS++g.m_.XR).all fun c=>dr g.m_ (bH c)) then 50 else bif jr g.m_ (di g.Yf.at_) then 0 else 6
theorem TA {N:Nat}(i:6500<N){g:Vz}(h:HB g)(a:c∈g.m_.XS++g.m_.XR):yv N g c=some (!dr g.m_ (bH c)):=by
 have f:=h.small.cells c a;have l:=mT c;have j:=r7 c;unfold yv;rw [pX N W c W W,bs,zU N W c W W,bs,Jo N _ _ W W,bs,wa N _ (fun x=> !az g.m_ x) _ (by rw [XI];omega) (by rw [XI];omega) (fun x d=> ?_),bs,BR]
 ·rfl
 obtain ⟨v,e, -,rfl⟩:=vH (c:=c) d;unfold DI;rw [Cm N g (h.w64 c a v e),bs]
theorem aaP {N:Nat}(o:6500<N){g:Vz}(h:HB g):ri N g=some (Cj g):=by
 have m:=h.small;have a:=m.roots;have hcnt:=h.wtd.cnt;have hrl':=a;rw [XI] at hrl'
 have n: ∀b,uj N g b=some (bif b then 50 else bif jr g.m_ (di g.Yf.at_) then 0 else 6):=fun b=>by
  unfold uj;rw [Kf h N,bs,Q0 o m (l:=di g.Yf.at_) (Fk h.nd) (fun x t=>h.keys x ((qa _ x).1 t)) (by have:=h.kslen;omega),bs];cases b<;>cases jr g.m_ (di g.Yf.at_)<;>rfl
 have z: ∀v∈g.Yb++g.Yg,yb N g v=some (aZ v&& !az g.m_ v.N):=fun v u=>by
  unfold yb
  have e:((bif decide (v.no=7) then (some true) else (some (decide (v.no=9)))):Option Bool)=some (aZ v):=by
   unfold aZ;cases decide (v.no=7)<;>rfl
  rw [e,bs,Cm N g (h.r64 v u),bs];cases aZ v<;>rfl
 have hcells:xj N (g.m_.XS++g.m_.XR) g=some (!(g.m_.XS++g.m_.XR).all fun c=>dr g.m_ (bH c)):=by
  have key: ∀k i:Nat,(g.m_.XS++g.m_.XR).length<k+i->i<=(g.m_.XS++g.m_.XR).length->Sat (tO N (g.m_.XS++g.m_.XR) g k (i:Int)) fun r=>decide (0<=r)=!((g.m_.XS++g.m_.XR).drop i).all fun c=>dr g.m_ (bH c):=by
   intro k
   induction k with
   |zero=>intro i j d;omega
   | succ k q=>
    intro i j d
    have A:(g.m_.XS++g.m_.XR).length<=600:=by rw [XI];omega
    rw [tO.eq_2];by_cases hi:i<(g.m_.XS++g.m_.XR).length
    ·have p:=q (i+1) W hi;rw [show (((i+1:Nat)):Int)=(i:Int)+1 by omega] at p;rw [bG W,ct,bz hi,bs,Wn hi,List.all_cons,TA o h (XO hi),bs,r64 W W];cases dr g.m_ (bH (g.m_.XS++g.m_.XR)[i])
     ·exact ar (by rw [VQ W];rfl)
     exact p
    rw [bI W,cf,Wo W];exact ar J
  obtain ⟨r,j,d⟩:=key N 0 (by rw [XI];omega) W;have f:tO N (g.m_.XS++g.m_.XR) g N 0=some r:=j;unfold xj Di;rw [f,bs,d,Ws]
 unfold ri fJ Cj;rw [bs,cf,zW N _ _ W W,bs,Nr N _ _ _ W W z,bs,J3,Jf N _ _ W W,bs,hcells,bs,n,n]
 cases dr g.m_ (cc (g.Yb++g.Yg))<;>cases (g.m_.XS++g.m_.XR).all fun c=>dr g.m_ (bH c)<;>rfl
theorem Kt {a b:List VH}(h:fA f (a++b)):fA f a:=fun v c hb=>h v (VU _ c) hb
end
