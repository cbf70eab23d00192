/- Merged texts: part 9. No conditions of their own. -/
import Derived.Test.YtmcifcmlojonnaaGreatDoorG8
import Derived.IntWalk
import Derived.KernelRfl
namespace Go.Proofs.YtmcifcmlojonnaaGreatDoor
variable (N:Nat){a i:Int}{ρ:Int->Int}{kv:List (Int×Bool)}{l:List (WX×Int)}{f live lv:List Int}{PL:List WS}{E:List WZ}{M M' j k k' n q q':Nat}{F:Nat->WZ->Bool}{α:Type}{s:W2}{c c':W3}{g:W4}{t:WR}{p:WS}{d:WW}{key:WX}{m:WY}{old v x:WZ}
section
open Go.RowKit
theorem Jg (h:0<a):a.tmod 2=0\/a.tmod 2=1:=by
 rw [uO I];omega
theorem La (hp:∀a∈live,0<a)(a:Int):a∈qy live↔a∈live:=by
 unfold qy xw GT;rw [Yi,Ym,Ym,Y6,Y6];constructor
 ·rintro (h|h)<;>exact h.1
 intro h;rcases Jg (hp a h) with h2|h2
 ·exact .inl ⟨h,h2⟩
 exact .inr ⟨h,h2⟩
theorem FM: ∀{live:List Int},(∀a∈live,0<a)->(qy live).length=live.length
 | [],_=>rfl
 | a::l,hp=>by
  have ih:=FM (live:=l) fun b hb=>hp b (by simp [hb])
  unfold qy at ih⊢;rw [Za] at ih⊢;rcases Jg (hp a (by simp)) with h|h
  ·have e1:xw a=true:=W9 h;have e2:GT a=false:=Xa I;simp only [XN,e1,e2,if_true,Xr,if_false,X9];omega
  have e1:xw a=false:=Xa I;have e2:GT a=true:=W9 h;simp only [XN,e1,e2,if_true,Xr,if_false,X9];omega
theorem NP (h:live.Pairwise (· < ·)):(qy live).Pairwise fun a b=> ¬(a.tmod 2=1/\b.tmod 2=0)/\(a.tmod 2=b.tmod 2->a<b):=by
 have hev: ∀a∈live.filter xw,a.tmod 2=0:=fun a ha=>Y8 (Ym.1 ha).2
 have hod: ∀a∈live.filter GT,a.tmod 2=1:=fun a ha=>Y8 (Ym.1 ha).2
 unfold qy;refine List.pairwise_append.2 ⟨(h.filter _).imp_of_mem fun {a b} ha hb hlt=>⟨fun hh=> ?_,fun _=>hlt⟩,(h.filter _).imp_of_mem fun {a b} ha hb hlt=>⟨fun hh=> ?_,fun _=>hlt⟩,fun a ha b hb=>⟨fun hh=> ?_,fun hh=> ?_⟩⟩
 ·have:=hev a ha;omega
 ·have:=hod b hb;omega
 ·have:=hev a ha;omega
 have:=hev a ha;have:=hod b hb;omega
theorem I4 {p:α->Bool}{l:List α}(h:l.all p=true){x:α}(hx:x∈l):p x=true:=XA.1 h x hx
theorem HY {N:Nat}{roots:List WZ}(h:oB N m roots=0):(∀c∈m.Zp++m.Zr,sx N c=true)/\(∀c∈m.Zp++m.Zr, ∀x∈fP c,aZ m x=true)/\ ∀x∈dJ roots,aZ m x=true:=by
 unfold oB at h
 cases h1:(m.Zp++m.Zr).all (sx N) with
 |false=>rw [h1] at h;cases h
 | true=>
  rw [h1] at h
  cases h2:wz m ((m.Zp++m.Zr).flatMap fP++dJ roots) with
  |false=>rw [h2] at h;cases h
  |true=>
   unfold wz at h2;refine ⟨fun c hc=>I4 h1 hc,fun c hc x hx=>I4 h2 (Xd _ (List.mem_flatMap.2 ⟨c,hc,hx⟩)),fun x hx=>I4 h2 (Xe _ hx)⟩
structure Live (N:Nat) (m:WY) (roots:List WZ) (live f:List Int):Prop where
 ord: ∃b all,IsOrder (GA N m) (dJ roots) b all/\live=kJ all/\f=qy live
 prog:nN N m roots=some live
 ref:Fq N m roots=some live
 mem: ∀a,a∈f↔a∈live
 len:f.length=live.length
 small:live.length<=1200
 nd:f.Nodup
 asc:live.Pairwise (· < ·)
 has: ∀a∈live,aZ m a=true
theorem NQ (h:live.Pairwise (· < ·)):(qy live).Nodup:=by
 rw [List.nodup_iff_pairwise_ne]
 refine (NP h).imp fun {a b} hab e=> ?_
 have:=hab.2 (by rw [e]);omega
theorem Rf (N:Nat)(hN:6500<N){roots:List WZ}(hs:Small m roots)(hw:W64 m)(hr:∀v∈roots,in64 v.N): ∃live f,Live N m roots live f:=by
 obtain ⟨bg,all,ho,hlen, -, -,o0⟩:=NH N hN hs hw hr;obtain ⟨b',all',ho',r0, -⟩:=KF N hN hs hw hr;obtain ⟨-,e2⟩:=ho.det ho';subst e2;have hll:(kJ all).length=all.length:=zp all;have hmem:=vQ all;have hasc:=G7 ho.nodup.2
 have hhas: ∀a∈kJ all,aZ m a=true:=fun a ha=>ho.has.2 a ((hmem a).1 ha)
 have hpos: ∀a∈kJ all,0<a:=fun a ha=>wo (hhas a ha)
 refine ⟨kJ all,qy (kJ all),⟨⟨_,all,ho,J,J⟩,Rg o0 I J,?_,La hpos,FM hpos,by omega,NQ hasc,hasc,hhas⟩⟩;unfold Fq;rw [r0,bs,KG N hN all I ho.nodup.2,bs]
theorem Live.fhas {N:Nat}{roots:List WZ}(h:Live N m roots live f)(ha:a∈f):aZ m a=true:=h.has a ((h.mem a).1 ha)
theorem Jf {N:Nat}{roots:List WZ}(h:Live N m roots live f):(f.flatMap fun a=>uJ live (cp m a)).length+wt (f.map fun a=>sm (tK f) f (qT N live (cp m a)))<=wt m.Zp+wt m.Zr:=by
 have h1:=OK h.nd fun a ha=>h.fhas ha
 rw [yP,H9,xY, <-Bu];refine YN (Ig fun a ha=> ?_) h1;have:=EO N live (cp m a);unfold wC sm;simp only [Zc];omega
theorem CX {N:Nat}{roots:List WZ}(h:Live N m roots live f)(n:Nat):((f.take n).flatMap fun a=>uJ live (cp m a)).length<=wt m.Zp+wt m.Zr:=by
 have h1:=Jf h
 have h2:(f.flatMap fun a=>uJ live (cp m a))=((f.take n).flatMap fun a=>uJ live (cp m a))++((f.drop n).flatMap fun a=>uJ live (cp m a)):=by rw [<-XP,YB]
 rw [h2,Za] at h1;omega
def P4 (m:WY)(roots:List WZ)(live f:List Int):WY×List WZ×List WZ×Int:=
 bif decide (oB N m roots=0) then ((Kb N m roots live f).next,(Kb N m roots live f).now,(Kb N m roots live f).gone,0) else (⟨[],[]⟩,[],[],oB N m roots)
theorem IW (N:Nat)(hN:6500<N){roots:List WZ}(hs:Small m roots)(ht:Wtd m roots)(hw:W64 m)(hr:∀v∈roots,in64 v.N)(hl:Live N m roots live f):pe N m roots=some (P4 N m roots live f):=by
 apply Sat.eq;have hle:=ht.le;have hlen:=hl.small;have hfl:=hl.len;unfold pe P4;rw [Gt N hN hs ht hw hr,bs];by_cases h0: ¬oB N m roots=0
 ·rw [jk h0];exact ad J
 replace h0:oB N m roots=0:=by omega
 rw [tv h0];simp only [nt,cf,ct];obtain ⟨c1,c2,c3⟩:=HY h0;obtain ⟨_,_,_,hlv,hff⟩:=hl.ord;rw [hl.prog,bs];unfold mH;rw [bs];refine Sat.bind (FF N (fun x st=>mY N roots m live x st) live I hN (fun n s=>RhoM s (f.take n)) ?_ [] ?_) ?_
 ·intro n a s ha h1;rw [<-hff] at ha;have hn:=(XZ.1 ha).1;rw [XX hn,YY] at ha;unfold mY;simp only;rw [r64 I I,r64 I I];refine ad ⟨J,?_⟩;rw [<-ha];exact h1.add hn hl.nd
 ·simpa using RhoM.nil
 rintro ⟨e,kv⟩ ⟨g1,g2⟩;simp only at g1 g2;subst g1;rw [<-hff,Zd] at g2;unfold rc;simp only [bs]
 have hG: ∀a∈f,(qT N live (cp m a)).Zj.length<=600/\(qT N live (cp m a)).Zi.length<=2900:=fun a ha=>by
  have h1:=EO N live (cp m a);have h2:=hs.at_ a;omega
 refine Sat.bind (FF N (fun x st=>mX N roots m live (none,kv) x st) live I hN (fun n s=>s.1=(f.take n).map (fun a=>sm (tK f) f (qT N live (cp m a)))/\s.2=(f.take n).flatMap fun a=>uJ live (cp m a)) ?_ ([],[]) ⟨by simp,by simp⟩) ?_
 ·rintro n a ⟨p,q⟩ ha ⟨h1,h2⟩;rw [<-hff] at ha;simp only at h1 h2;have hn:=(XZ.1 ha).1;have ham:a∈f:=Yo ha;rw [XX hn,YY] at ha
  have hpl:p.length<=2000:=by rw [h1,Zc,Zb];omega
  have hql:q.length<=2900:=by have:=CX hl n;rw [h2];omega
  have hq2:=CX hl (n+1);have hat:=I0 N hs a (xa hs (hl.fhas ham));have hsm:=hs.at_ a;have hrt:=c1 _ (pn (hl.fhas ham));have hc:=hG a ham;rw [cn hn,ha,XP, <-h2,Za] at hq2;simp only [XQ,List.flatMap_nil,XB] at hq2
  -- the last part
  have last: ∀q',q'=q++uJ live (cp m a)->Sat (kr N roots m p live (none,kv) q' (qT N live (cp m a)).Zh (qT N live (cp m a)).Zq (qT N live (cp m a)).Zm (qT N live (cp m a)).Zn (qT N live (cp m a)).Zj (qT N live (cp m a)).Zi) fun r=>r.1=none/\r.2.1=(f.take (n+1)).map (fun a=>sm (tK f) f (qT N live (cp m a)))/\r.2.2=(f.take (n+1)).flatMap fun a=>uJ live (cp m a):=by
   intro q' hq';unfold kr;rw [wX N hN _ I kv f g2,bs,wX N hN _ I kv f g2,bs,rF (by simp;omega)];refine ad ⟨J,?_,?_⟩
   ·rw [cn hn,Yf, <-h1,ha];rfl
   rw [cn hn,XP, <-h2,ha,hq'];simp
  unfold mX;simp only;rw [hat,bs];unfold qT uJ at last;unfold uJ at hq2;by_cases h8:(cp m a).Zh=8
  ·have hwm:uy N (cp m a)=true:=by unfold uy;rw [W9 h8];exact hrt
   rw [tv h8,ct,LA N hN live I _ hsm.1 hsm.2,bs,hwm,ct];rw [W9 h8,Xa (p:=(cp m a).Zh=10) I] at last;simp only [cond_true,cond_false,XB] at last;exact last q J
  by_cases h10:(cp m a).Zh=10
  ·have hwm:Lk N (cp m a)=true:=by unfold Lk;rw [W9 h10];exact hrt
   rw [jk h8,cf,tv h10,ct,GW N hN live I _ hsm.1 hsm.2,bs,hwm,ct];rw [W9 h10] at hq2;rw [Xa h8,W9 h10] at last;simp only [cond_true,cond_false] at last hq2;rw [rF I];exact last _ J
  rw [jk h8,cf,jk h10,cf];rw [Xa h8,Xa h10] at last;simp only [cond_true,cond_false,XB] at last;exact last q J
 rintro ⟨e,p,q⟩ ⟨g1,g3,g4⟩;simp only at g1 g3 g4;subst g1;rw [<-hff,Zd] at g3 g4;have hrl:=hs.roots
 have hql:q.length<=2900:=by have:=CX hl f.length;rw [Zd] at this;rw [g4];omega
 simp only;rw [wX N hN _ I kv f g2,bs,wX N hN _ I kv f g2,bs];refine ad ?_;unfold Kb;rw [g3,g4]
theorem F1 (h:a∈f):f.idxOf a<f.length:=List.idxOf_lt_length_iff.2 h
theorem IJ (h:a∈f):f[f.idxOf a]'(F1 h)=a:=List.getElem_idxOf (F1 h)
theorem LY {b:Int}(ha:a∈f)(hb:b∈f)(h:tK f a=tK f b):a=b:=by
 unfold tK at h
 have e:f.idxOf a=f.idxOf b:=by omega
 have h1:=IJ ha;have h2:=IJ hb;rw [<-h1, <-h2]
 congr 1
theorem LX (f:List Int):Ren (tK f) f:=⟨fun _ _ h1 h2 h3=>LY h1 h2 h3,fun a _=>by unfold tK;omega⟩
theorem Ml (ρ:Int->Int)(f:List Int)(v:WZ):bO (fW ρ f v)=bO v:=N4 (by unfold fW;cases bO v&&decide (v.N∈f)<;>rfl)
theorem Df (h1:bO v=true)(h2:v.N∈f):fW ρ f v=⟨v.Zh,ρ v.N,v.S⟩:=by
 unfold fW;rw [h1,W9 h2];rfl
theorem EB: ∀{i:Nat} {l:List WZ} {j:Nat} {v:WZ},l[j]? =some v->F (i+j) v=true->v.N∈pick F i l
 |i,w::l,0,v,h,hF=>by
  simp only [XV,YY] at h;subst h;rw [pN];rw [Nat.add_zero] at hF;rw [hF];simp
 |i,w::l,j+1,v,h,hF=>by
  simp only [XU] at h;rw [pN];exact Xe _ (EB (i:=i+1) h (by rw [show i+1+j=i+(j+1) by omega];exact hF))
 |i,[],j,v,h,_=>by simp at h
def oG (f:List Int)(l:List WZ):Prop:= ∀v∈l,bO v=true->v.N∈f
theorem Jm (h:∀x∈gq c,x∈f):oG f c.Zj:=fun v hv hb=>by
 obtain ⟨j,hj,e⟩:=X8 hv;refine h _ (Xd _ (EB (j:=j) (by rw [XX hj,e]) hb))
theorem EE (h:∀x∈gq c,x∈f)(hj:c.Zi[j]? =some v)(hw:oH c.Zh j=false)(hb:bO v=true):v.N∈f:=
 h _ (Xe _ (EB (j:=j) hj (by rw [YS,hw,hb];rfl)))
theorem Kx {k:Int}(h8:k≠8)(h10:k≠10)(i:Nat):oH k i=false:=by
 unfold oH;rw [jk h8,jk h10];rfl
theorem HX (hlv:∀x,x∈lv↔x∈f): ∀{l:List WZ},uC l=true->(∀x∈opens (fun x=>decide (x∈lv)) l,x∈f)->oG f (jR (fun x=>decide (x∈lv)) l)
 | [],_,_=>fun v hv=>by simp [jR] at hv
 | [_],h,_=>by cases h
 | k::v::r,h,ho=>by
  rw [rH] at h;rw [Ze] at h;rw [rq] at ho
  have ih:=HX hlv h.2 fun x hx=>ho x (Xe _ hx)
  intro w hw hb;simp only [D3] at hw;rcases Yi.1 hw with hw|hw
  ·cases hd:decide (k.N∈lv) with
   |false=>rw [hd] at hw;cases hw
   |true=>
    rw [hd] at hw;simp only [cond_true,Yj,List.not_mem_nil,or_false] at hw;rcases hw with rfl|rfl
    ·exact (hlv _).1 (Y8 hd)
    exact ho _ (Xd _ (by rw [hb,hd];simp))
  exact ih w hw hb
theorem Ms (hlv:∀x,x∈lv↔x∈f): ∀{l:List WZ},oT l=true->(∀j v,l[4*j+1]? =some v->bO v=true->v.N∈f)->oG f (fb lv l)
 | [],_,_=>fun v hv=>by simp [fb] at hv
 | [_],h,_=>by cases h
 | [_,_],h,_=>by cases h
 | [_,_,_],h,_=>by cases h
 | t ::a::k::s::r,h,ho=>by
  rw [rG] at h;simp only [Ze,Y6] at h;obtain ⟨⟨⟨h1, -⟩,h3,h4⟩,h5⟩:=h
  have ih:=Ms hlv h5 fun j v hj hb=>ho (j+1) v (by rw [show 4*(j+1)+1=4*j+1+4 by omega];simpa using hj) hb
  intro w hw hb;simp only [AU] at hw;rcases Yi.1 hw with hw|hw
  ·cases hd:decide (t.N∈lv) with
   |false=>rw [hd] at hw;cases hw
   | true=>
    rw [hd] at hw;simp only [cond_true,Yj,List.not_mem_nil,or_false] at hw;rcases hw with rfl|rfl|rfl|rfl
    ·exact (hlv _).1 (Y8 hd)
    ·exact ho 0 w J hb
    ·cases hk:decide (k.Zh=7)&& !decide (k.N∈lv) with
     |true=>rw [hk] at hb;cases hb
     | false=>
      rw [hk] at hb;simp only [cond_false] at hb⊢
      have a6:k.Zh=7:=by
       unfold noneB at h3;rw [Bool.or_eq_true,Y6,Y6] at h3;rcases h3 with h3|h3
       ·unfold bO at hb;rw [h3] at hb;cases hb
       exact h3
      rw [W9 a6,Xs] at hk;exact (hlv _).1 (by by_cases hm:k.N∈lv;exact hm;rw [Xa hm] at hk;cases hk)
    have:w.Zh=3:=by
     unfold numB at h4;rw [Ze,Y6] at h4;exact h4.1
    unfold bO at hb;rw [this] at hb;cases hb
  exact ih w hw hb
structure CellOk (N:Nat) (lv f:List Int) (c:W3):Prop where
 big:6500<N
 right:bQ c=true
 slots:c.Zj.length<=600
 more:c.Zi.length<=2900
 leads: ∀x∈gq c,x∈f
 opens: ∀x∈iL N c lv,x∈f
 mem: ∀x,x∈lv↔x∈f
theorem Lj {N:Nat}(hN:6500<N)(h:bQ c=true)(hS:c.Zj.length<=600)(hM:c.Zi.length<=2900):uy N c=decide (c.Zh=8):=by
 unfold uy;rw [AH N hN c I I,h];cases decide (c.Zh=8)<;>rfl
theorem Js {N:Nat}(hN:6500<N)(hS:c.Zj.length<=600)(hM:c.Zi.length<=2900):sx N c=bQ c:=by
 unfold sx;rw [AH N hN c I I];rfl
section
variable {N:Nat}
theorem Kc:(qT N lv c).Zh=c.Zh/\(qT N lv c).Zq=c.Zq/\(qT N lv c).Zm=c.Zm/\(qT N lv c).Zj=c.Zj:=by
 unfold qT sK;cases decide (c.Zh=8)<;>cases decide (c.Zh=10)<;>cases uy N c<;>exact ⟨rfl,rfl,rfl,rfl⟩
theorem CellOk.new (hρ:Ren ρ f)(h:CellOk N lv f c):bQ (sm ρ f (qT N lv c))=true/\(sm ρ f (qT N lv c)).Zj.length<=600/\(sm ρ f (qT N lv c)).Zi.length<=2900/\(sm ρ f (qT N lv c)).Zh=c.Zh:=by
 have h1:=EO N lv c;have h2:=h.slots;have h3:=h.more;exact ⟨NS hρ (Ok N lv h.right),by unfold sm;simp only [Zc];omega,by unfold sm;simp only [Zc];omega,Kc.1⟩
theorem CellOk.ent2 (h:CellOk N lv f c)(h8:c.Zh=8):uC c.Zi=true:=by
 have:=(uQ h.right).2.2;rw [h8] at this;exact this
theorem CellOk.ent4 (h:CellOk N lv f c)(h10:c.Zh=10):1<=c.Zi.length/\(rY c.Zi 0).Zh=7/\oT (c.Zi.drop 1)=true:=by
 have:=(uQ h.right).2.2;rw [h10] at this;have h3':(decide (1<=c.Zi.length)&&decide ((rY c.Zi 0).Zh=7)&&oT (c.Zi.drop 1))=true:=this;simp only [Ze,Y6] at h3';exact ⟨h3'.1.1,h3'.1.2,h3'.2⟩
theorem CellOk.wm (h:CellOk N lv f c):uy N c=decide (c.Zh=8):=Lj h.big h.right h.slots h.more
theorem CellOk.clC8 (h:CellOk N lv f c)(h8:c.Zh=8):qT N lv c=⟨c.Zh,c.Zq,c.Zm,c.Zn,c.Zj,jR (fun x=>decide (x∈lv)) c.Zi⟩:=by
 unfold qT sK;rw [h.wm,W9 h8];rfl
theorem CellOk.clC10 (h10:c.Zh=10):qT N lv c=⟨c.Zh,c.Zq,c.Zm,c.Zn,c.Zj,c.Zi.take 1++fb lv (c.Zi.drop 1)⟩:=by
 unfold qT;rw [Xa (p:=c.Zh=8) I,W9 h10];rfl
theorem CellOk.clC0 (h8:c.Zh≠8)(h10:c.Zh≠10):qT N lv c=c:=by
 unfold qT;rw [Xa h8,Xa h10];rfl
theorem CellOk.inC (h:CellOk N lv f c):oG f (qT N lv c).Zj/\oG f (qT N lv c).Zi:=by
 refine ⟨by rw [Kc.2.2.2];exact Jm h.leads,?_⟩;by_cases h8:c.Zh=8
 ·rw [h.clC8 h8];have ho:=h.opens;unfold iL at ho;rw [h.wm,W9 h8,cond_true] at ho;exact HX h.mem (h.ent2 h8) ho
 by_cases h10:c.Zh=10
 ·rw [CellOk.clC10 h10];obtain ⟨q1,q2,q3⟩:=h.ent4 h10
  obtain ⟨a,r,hr⟩: ∃a r,c.Zi=a::r:=by
   cases hm:c.Zi with
   |nil=>rw [hm] at q1;simp at q1
   |cons a r=>exact ⟨a,r,rfl⟩
  rw [hr] at q3;have q3':oT r=true:=q3;intro v hv hb
  have hv':v=a\/v∈fb lv r:=by
   have:v∈a::fb lv r:=by rw [hr] at hv;exact hv
   exact Yj.1 this
  rcases hv' with rfl|hv'
  ·refine EE h.leads (j:=0) (by rw [hr];rfl) ?_ hb;unfold oH;rw [h10];rfl
  refine Ms h.mem q3' (fun j w hj hw=>EE h.leads (j:=4*j+2) (by rw [hr,show 4*j+2=(4*j+1)+1 by omega,XU];exact hj) ?_ hw) v hv' hb;unfold oH;rw [h10]
  have e1:(((4*j+2:Nat):Int) - 1).tmod 4=1:=by rw [Xx I];omega
  have e2:((1:Int)).tmod 2=1:=rfl;rw [e1,e2];cases decide ((0:Int)<((4*j+2:Nat):Int))<;>rfl
 rw [CellOk.clC0 h8 h10];intro v hv hb;obtain ⟨j,hj,e⟩:=X8 hv;exact EE h.leads (j:=j) (by rw [XX hj,e]) (Kx h8 h10 j) hb
end
end
section
open Go.RowKit
theorem MZ (hv:v∈c.Zj++c.Zi)(hb:bO v=true):v.N∈fP c:=by
 unfold fP;rcases Yi.1 hv with hv|hv
 ·exact Xd _ (Jm (f:=gq c) (fun x hx=>hx) v hv hb)
 obtain ⟨j,hj,e⟩:=X8 hv
 cases hw:oH c.Zh j with
 |false=>exact Xd _ (EE (f:=gq c) (fun x hx=>hx) (by rw [XX hj,e]) hw hb)
 |true=>exact Xe _ (EB (j:=j) (by rw [XX hj,e]) (by rw [YS,hw,hb];rfl))
theorem Hp {p:Int->Bool}{x:Int}: ∀{l:List WZ},x∈opens p l-> ∃v∈l,bO v=true/\v.N=x
 | [],h=>by simp [opens] at h
 | [_],h=>by simp [opens] at h
 | k::v::l,h=>by
  rw [rq] at h;rcases Yi.1 h with h|h
  ·cases hv:bO v&&p k.N with
   |false=>rw [hv] at h;cases h
   |true=>
    rw [hv] at h;rw [Ze] at hv;exact ⟨v,by simp,hv.1,(Ys.1 h).symm⟩
  obtain ⟨w,h1,h2⟩:=Hp h;exact ⟨w,by simp [h1],h2⟩
structure CollCtx (N:Nat) (m:WY) (roots:List WZ) (live f:List Int):Prop where
 big:6500<N
 small:Small m roots
 tot:Wtd m roots
 w64:W64 m
 r64: ∀v∈roots,in64 v.N
 lv:Live N m roots live f
 right: ∀c∈m.Zp++m.Zr,bQ c=true
 addr: ∀c∈m.Zp++m.Zr, ∀x∈fP c,aZ m x=true
 roots: ∀x∈dJ roots,aZ m x=true
theorem TF {N:Nat}(hN:6500<N){roots:List WZ}(hs:Small m roots)(ht:Wtd m roots)(hw:W64 m)(hr:∀v∈roots,in64 v.N)(hl:Live N m roots live f)(h0:oB N m roots=0):CollCtx N m roots live f:=by
 obtain ⟨h1,h2,h3⟩:=HY h0;exact ⟨hN,hs,ht,hw,hr,hl,fun c hc=>by have:=hs.cells c hc;rw [<-Js (N:=N) I this.1 this.2];exact h1 c hc,h2,h3⟩
section
variable {N:Nat}{roots:List WZ}(h:CollCtx N m roots live f)
include h
theorem CollCtx.mem (x:Int):x∈live↔x∈f:=(h.lv.mem x).symm
theorem CollCtx.cell (ha:a∈f):CellOk N live f (cp m a):=by
 have hm:=pn (h.lv.fhas ha);obtain ⟨b,all,ho,hlv, -⟩:=h.lv.ord
 have hall: ∀x,x∈all↔x∈f:=fun x=>by rw [<-h.mem x,hlv];exact (vQ all x).symm
 obtain ⟨q1,q2⟩:=ho.closed;have hs:=h.small.cells _ hm;have hN:=h.big;refine ⟨by omega,h.right _ hm,hs.1,hs.2,fun x hx=> ?_,fun x hx=> ?_,h.mem⟩
 ·exact (hall x).1 (q1 a ((hall a).2 ha) x hx (h.addr _ hm x (Xd _ hx)))
 have e:iL N (cp m a) live=iL N (cp m a) all:=by
  unfold iL;rw [JE (q:=fun x=>decide (x∈all)) fun x=>jx (by rw [h.mem x];exact (hall x).symm)]
 rw [e] at hx;refine (hall x).1 (q2 a ((hall a).2 ha) x hx ?_);unfold iL at hx
 cases hw:uy N (cp m a) with
 |false=>rw [hw] at hx;cases hx
 |true=>
  rw [hw] at hx;obtain ⟨v,hv,hb,rfl⟩:=Hp hx;exact h.addr _ hm _ (MZ (Xe _ hv) hb)
theorem CollCtx.root {x:Int}(hx:x∈dJ roots):x∈f:=by
 obtain ⟨b,all,ho,hlv, -⟩:=h.lv.ord;rw [<-h.mem x,hlv,vQ];exact ho.sub (ho.roots hx (h.roots x hx))
theorem CollCtx.rootIn:oG f roots:=fun v hv hb=>h.root (tS.2 ⟨v,hv,hb,rfl⟩)
end
def iD (m:WY)(live f:List Int):WY:=⟨[],f.map fun a=>sm (tK f) f (qT N live (cp m a))⟩
theorem JI {N:Nat}(ha:a∈f):aZ (iD N m live f) (tK f a)=true:=by
 unfold tK;rw [yO];exact W9 (by unfold iD;simp only [Zc];exact F1 ha)
theorem Q9 {N:Nat}(ha:a∈f):cp (iD N m live f) (tK f a)=sm (tK f) f (qT N live (cp m a)):=by
 have e:tK f a=2*((f.idxOf a:Nat):Int)+2:=rfl;rw [e,xz _ _ (by unfold iD;simp only [Zc];exact F1 ha)];unfold iD;simp only [X7];rw [IJ ha]
theorem Hv (hf:f.length<=100000)(hv:in64 v.N):in64 (fW (tK f) f v).N:=by
 unfold fW
 cases hb:bO v&&decide (v.N∈f) with
 |false=>exact hv
 |true=>
  rw [Ze,Y6] at hb;have:=F1 hb.2;show in64 (tK f v.N);unfold tK in64;omega
theorem Sb {N:Nat}(hv:v∈(qT N lv c).Zj++(qT N lv c).Zi):v∈c.Zj++c.Zi\/v=oh:=by
 unfold qT at hv
 cases h8:decide (c.Zh=8) with
 |true=>rw [h8] at hv;exact .inl (LB hv)
 | false=>
  rw [h8] at hv
  cases h10:decide (c.Zh=10) with
  |false=>rw [h10] at hv;exact .inl hv
  |true=>
   rw [h10] at hv;have hv':v∈c.Zj++(c.Zi.take 1++fb lv (c.Zi.drop 1)):=hv;rcases Yi.1 hv' with hv'|hv'
   ·exact .inl (Xd _ hv')
   rcases Yi.1 hv' with hv'|hv'
   ·exact .inl (Xe _ (Yp hv'))
   rcases FY lv hv' with hv'|hv'
   ·exact .inl (Xe _ (List.mem_of_mem_drop hv'))
   exact .inr hv'
section
variable {N:Nat}{roots:List WZ}(h:CollCtx N m roots live f)
include h
theorem CollCtx.flen:f.length<=1200:=by rw [h.lv.len];exact h.lv.small
theorem CollCtx.flen6:f.length<=600:=by
 have h1:=xX (fun _=>1) h.lv.nd fun a ha=>Cd (h.lv.fhas ha)
 have h2: ∀l:List Int,cK (fun _=>1) l=l.length:=fun l=>by
  induction l with
  |nil=>rfl
  |cons x l ih=>rw [cK,ih,X9];omega
 rw [h2,h2] at h1;have h3:=h.tot.cnt;unfold G3 at h1;simp only [Za,Zc,List.length_range] at h1;omega
theorem CollCtx.nextW:W64 (iD N m live f):=fun c hc v hv=>by
 have hl:=h.flen
 have hc':c∈f.map fun a=>sm (tK f) f (qT N live (cp m a)):=hc
 obtain ⟨a,ha,rfl⟩:=Yn.1 hc'
 have hv':v∈((qT N live (cp m a)).Zj++(qT N live (cp m a)).Zi).map (fW (tK f) f):=by rw [Yf];exact hv
 obtain ⟨w,hw,rfl⟩:=Yn.1 hv';refine Hv I ?_;rcases Sb hw with hw|rfl
 ·exact h.w64.at_ a w hw
 show in64 0;unfold in64;omega
theorem CollCtx.nextS (l:List WZ)(hl:l.length<=600):Small (iD N m live f) l:=by
 refine ⟨YT _,?_,hl,fun c hc=> ?_⟩
 ·unfold iD;simp only [Zc];exact h.flen6
 have hc':c∈f.map fun a=>sm (tK f) f (qT N live (cp m a)):=hc
 obtain ⟨a,ha,rfl⟩:=Yn.1 hc';obtain ⟨-,g2,g3, -⟩:=(CellOk.new (LX f) (h.cell ha));exact ⟨g2,g3⟩
end
theorem BV {x:Int}(hB:∀i v,F i v=true->bO v=true): ∀{i:Nat} {l:List WZ},x∈pick F i l-> ∃v∈l,bO v=true/\v.N=x
 |_,[],h=>by cases h
 | i,v::l,h=>by
  rw [pN] at h;rcases Yi.1 h with h|h
  ·cases hf:F i v with
   |false=>rw [hf] at h;cases h
   |true=>rw [hf] at h;exact ⟨v,by simp,hB i v hf,(Ys.1 h).symm⟩
  obtain ⟨w,g1,g2⟩:=BV hB h;exact ⟨w,by simp [g1],g2⟩
theorem DB {x:Int}(h:x∈fP c): ∃v∈c.Zj++c.Zi,bO v=true/\v.N=x:=by
 unfold fP gq pX at h;rcases Yi.1 h with h|h
 ·rcases Yi.1 h with h|h
  ·obtain ⟨v,g1,g2⟩:=BV (fun _ _ h=>h) h;exact ⟨v,Xd _ g1,g2⟩
  obtain ⟨v,g1,g2⟩:=BV (fun i v h=>((Ze _ _).mp h).2) h;exact ⟨v,Xe _ g1,g2⟩
 obtain ⟨v,g1,g2⟩:=BV (fun i v h=>((Ze _ _).mp h).2) h;exact ⟨v,Xe _ g1,g2⟩
section
variable {N:Nat}{roots:List WZ}(h:CollCtx N m roots live f)
include h
theorem CollCtx.now64: ∀v∈roots.map (fW (tK f) f),in64 v.N:=fun v hv=>by
 have hl:=h.flen;obtain ⟨w,hw,rfl⟩:=Yn.1 hv;exact Hv I (h.r64 w hw)
theorem CollCtx.newHas {l:List WZ}(hl:oG f l)(hv:v∈l.map (fW (tK f) f))(hb:bO v=true):aZ (iD N m live f) v.N=true:=by
 have _:=h;obtain ⟨w,hw,rfl⟩:=Yn.1 hv;rw [Ml] at hb;have:=hl w hw hb;rw [Df hb this];exact JI this
theorem CollCtx.nextAddr (hc:c∈f.map fun a=>sm (tK f) f (qT N live (cp m a))):bQ c=true/\ ∀x∈fP c,aZ (iD N m live f) x=true:=by
 obtain ⟨a,ha,rfl⟩:=Yn.1 hc;refine ⟨(CellOk.new (LX f) (h.cell ha)).1,fun x hx=> ?_⟩;obtain ⟨v,hv,hb,rfl⟩:=DB hx;obtain ⟨i1,i2⟩:=(h.cell ha).inC;rcases Yi.1 hv with hv|hv
 ·exact h.newHas i1 hv hb
 exact h.newHas i2 hv hb
end
end
section
open Go.RowKit
def yB (a:Int):Bool:=decide (0<a)&&decide (a.tmod 2=1)
theorem Qz (k:Nat):yB (2*(k:Int)+2)=false:=by
 unfold yB;rw [uO I,Xa (p:=(2*(k:Int)+2)%2=1) I,Xp]
def Lg (m:WY)(kept:List Int):Bool:=kept.all (fun a=> !yB a&&aZ m a)&&decide (kept.Pairwise (· < ·))
theorem MW (N:Nat)(f:Int->Option Bool)(p:Int->Bool)(l:List Int)(hl:l.length<N)(a6:l.length<=6500)(hf:∀x∈l,f x=some (p x)):cI N l f=some (l.any p):=by
 have key: ∀k i:Nat,l.length<k+i->i<=l.length->Sat (dQ N f l k (i:Int)) fun r=>decide (0<=r)=(l.drop i).any p:=by
  intro k
  induction k with
  |zero=>intro i h1 h2;omega
  | succ k ih=>
   intro i h1 h2;rw [dQ.eq_2];by_cases hi:i<l.length
   ·have h3:=ih (i+1) I hi;rw [show (((i+1:Nat)):Int)=(i:Int)+1 by omega] at h3;rw [fJ I,ct,aM hi,bs,XF hi,List.any_cons,hf _ (Zg _),bs,r64 I I];cases p l[i]
    ·exact h3
    exact ad (by rw [W9 I];rfl)
   rw [fz I,cf,XG I];exact ad J
 obtain ⟨r,h1,h2⟩:=key N 0 I I;have h1':dQ N f l N 0=some r:=h1;unfold cI lJ;rw [h1',bs,h2];rfl
def vd (m:WY)(i:Nat):Bool:=(fP (cp m (2*(i:Int)+2))).any yB
def oo (m:WY):List Int:=((List.range m.Zr.length).filter (vd m)).map fun i:Nat=>2*(i:Int)+2
theorem wn {x:Int}:x∈oo m↔ ∃i:Nat,i<m.Zr.length/\vd m i=true/\x=2*(i:Int)+2:=by
 unfold oo;simp only [Yn,Ym,Yr];constructor
 ·rintro ⟨i,⟨h1,h2⟩,rfl⟩;exact ⟨i,h1,h2,J⟩
 rintro ⟨i,h1,h2,rfl⟩;exact ⟨i,⟨h1,h2⟩,J⟩
theorem N0 {x:Int}(h:x∈oo m):aZ m x=true/\yB x=false:=by
 obtain ⟨i,h1, -,rfl⟩:=wn.1 h;exact ⟨by rw [yO];exact W9 h1,Qz i⟩
theorem Pt (m:WY):Lg m (oo m)=true:=by
 unfold Lg;rw [Ze,Y6,XA];refine ⟨fun x hx=> ?_,?_⟩
 ·obtain ⟨h1,h2⟩:=N0 hx;rw [h1,h2];rfl
 unfold oo;refine List.Pairwise.map _ (fun a b (h:a<b)=> ?_) ((List.pairwise_lt_range).filter _);omega
end
section
open Go.RowKit
def Im (c:W3)(g:Int):W3:=⟨c.Zh,c.Zq,c.Zm,g,c.Zj,c.Zi⟩
end
section
open Go.RowKit
theorem EX {g h:α->Nat}: ∀{l:List α},(∀x∈l,g x=h x)->cK g l=cK h l
 | [],_=>rfl
 |a::l,hh=>by rw [cK,cK,hh a (by simp),EX fun x hx=>hh x (by simp [hx])]
end
section
open Go.RowKit
theorem Af (N:Nat)(hN:6500<N)(c:W3)(hS:c.Zj.length<=600)(hM:c.Zi.length<=2900):qg N c=some ((fP c).any yB):=by
 have h1:=ux c;have h2:=uM c
 have hy: ∀x,ns N x=some (yB x):=fun x=>by
  unfold ns yB;cases decide (0<x)<;>cases decide (x.tmod 2=1)<;>rfl
 unfold qg fP;rw [AT N I c I I,DF N I c I I,bs,bs,MW N _ yB (gq c) I I (fun x _=>hy x),MW N _ yB (pX c) I I (fun x _=>hy x),bs,bs,List.any_append];cases (gq c).any yB<;>cases (pX c).any yB<;>rfl
theorem Oe {L:List (Int×Bool)}(h:a∉L.map (·.1)):Dx L a=L:=by
 unfold Dx;rcases Lp a L with ⟨i,c, -,h2⟩|⟨h1, -⟩
 ·exact absurd (Yn.2 ⟨_,Yo h2,J⟩) h
 rw [h1]
theorem KL (N:Nat)(hN:6500<N){roots:List WZ}(hs:Small m roots): ∃kv,eK N ⟨[]⟩ m=some ⟨kv⟩/\kv.map Prod.fst=oo m:=by
 have ho:=hs.old
 have key:Sat (eK N ⟨[]⟩ m) fun r=>r.at_.map Prod.fst=oo m:=by
  unfold eK py;rw [bs];refine jt (fun k i (s:List (Int×Bool))=>fG N m k (i:Int) s) m.Zr.length (fun i s=>s.map Prod.fst=((List.range i).filter (vd m)).map (fun i:Nat=>2*(i:Int)+2)) _ ?_ ?_ N 0 [] I I J
  ·rintro k i s hi h1 go;show Sat (fG N m (k+1) (i:Int) s) _;have hc:=hs.cells _ (Xe m.Zp (Zg hi))
   have hnext:((List.range (i+1)).filter (vd m)).map (fun i:Nat=>2*(i:Int)+2)=((List.range i).filter (vd m)).map (fun i:Nat=>2*(i:Int)+2)++(bif vd m i then [2*(i:Int)+2] else []):=by
    rw [List.range_succ,XM,Yf];cases h:vd m i<;>simp [h]
   have hno:(2*(i:Int)+2)∉s.map Prod.fst:=by
    rw [h1];intro hm;obtain ⟨j,hj,e⟩:=Yn.1 hm;have:=Yr.1 (Ym.1 hj).1;omega
   have e:(fP m.Zr[i]).any yB=vd m i:=by unfold vd;rw [xz m i hi]
   rw [fG.eq_2,fJ I,ct,aM hi,bs,r64 I I,r64 I I];unfold cP kS sW;rw [Af N hN _ hc.1 hc.2,e,fJ I,ct,uO I,tv I];simp only [bs,nt,cf];cases h:vd m i
   ·simp only [nf,ct,bs];rw [Oe hno,r64 I I];exact go s (by rw [hnext,h,h1,cf,XB])
   simp only [nt,cf,bs];rw [r64 I I];refine go (Bq s (2*(i:Int)+2) true) ?_;have:=Bp s (2*(i:Int)+2) true;rw [if_neg hno] at this;rw [hnext,h,ct, <-h1];exact this
  rintro k s h1;show Sat (fG N m (k+1) _ s) _;rw [fG.eq_2,fz I,cf];exact ad h1
 obtain ⟨r,e,h⟩:=key;exact ⟨r.at_,e,h⟩
theorem Co (m:WY):(oo m).Pairwise (· < ·):=by
 have:=Pt m;unfold Lg at this;rw [Ze,Y6] at this;exact this.2
def xu (m:WY)(live f:List Int):List WZ:=f.flatMap fun a=>uJ live (cp m a)
section
variable {N:Nat}{roots:List WZ}(h:CollCtx N m roots live f)
include h
theorem CollCtx.nextTot:(roots.map (fW (tK f) f)++(xu m live f).map (fW (tK f) f)).length+wt (iD N m live f).Zp+wt (iD N m live f).Zr<=roots.length+wt m.Zp+wt m.Zr:=by
 have h1:=Jf h.lv;have e0:(iD N m live f).Zp=[]:=rfl
 have e1:(iD N m live f).Zr=f.map fun a=>sm (tK f) f (qT N live (cp m a)):=rfl
 rw [e0,e1,Za,Zc,Zc];unfold xu;have e2:wt []=0:=rfl;omega
end
end
section
open Go.RowKit
theorem IB {β γ:Type}(o:Option α)(f:α->Option β)(g:β->γ):(o.bind f).map g=o.bind fun x=>(f x).map g:=by cases o<;>rfl
theorem Tm {β γ:Type}(b:Bool)(x y:Option β)(g:β->γ):(bif b then x else y).map g=bif b then x.map g else y.map g:=by cases b<;>rfl
def VQ:(WY×W8×W8×Int) ⊕ (WY×W8×W8)->WY×W8×W8×Int
 | .inl x=>x
 | .inr x=>(x.1,x.2.1,x.2.2,0)
theorem Tn (N:Nat)(m:WY)(roots:List WZ):pe N m roots=(du N m roots).map VQ:=by
 have a6:kW=mY:=rfl;have a7:kV=mX:=rfl;unfold pe du;rw [a6,a7,IB]
 congr 1;funext y7
 rw [Tm];cases !decide (y7=0)
 ·simp only [cond_false,IB]
  congr 1;funext a8;congr 1;funext b0;congr 1;funext b5
  unfold rc;split
  ·simp only [IB]
   congr 1;funext b6;congr 1;funext b7
   split
   ·simp only [IB];rfl
   ·rfl
   ·rfl
   rfl
  ·rfl
  ·rfl
  rfl
 rfl
def mS (l:List W3):Nat:=cK (fun c=>c.Zi.length) l
theorem CY (n:Nat): ∀l:List α,cK (fun _=>n) l=n*l.length
 | []=>by simp [cK]
 |a::l=>by rw [cK,CY n l,X9,Nat.mul_succ];omega
theorem EW (g:α->Nat)(x:α): ∀(l:List α) (i:Nat),cK g (l.set i x)<=cK g l+g x
 | [],_=>by simp [cK]
 |a::l,0=>by simp only [List.set_cons_zero,cK];omega
 |a::l,i+1=>by have:=EW g x l i;simp only [List.set_cons_succ,cK];omega
structure HInv (k:Nat) (g:W4):Prop where
 cnt:g.m_.Zp.length+g.m_.Zr.length<=k
 cells: ∀c∈g.m_.Zp++g.m_.Zr,c.Zj.length<=20/\c.Zi.length<=20
 sum:4*(g.ZA++g.ZC).length+3*(mS g.m_.Zp+mS g.m_.Zr)<=60*k
 w64:W64 g.m_
 r64: ∀v∈g.ZA++g.ZC,in64 v.N
 nd:(g.ZD.at_.map Prod.fst).Nodup
 keys: ∀x∈g.ZD.at_.map Prod.fst, ∃i:Nat,i<g.m_.Zr.length/\x=2*(i:Int)+2
section
variable (h:HInv k g)
include h
end
structure HB (g:W4):Prop where
 small:Small g.m_ (g.ZA++g.ZC)
 wtd:Wtd g.m_ (g.ZA++g.ZC)
 tot:cK (fun a=>(cp g.m_ a).Zi.length) (G3 g.m_)<=3600
 four:4*(g.ZA++g.ZC).length+3*(mS g.m_.Zp+mS g.m_.Zr)<=9000
 w64:W64 g.m_
 r64: ∀v∈g.ZA++g.ZC,in64 v.N
 nd:(g.ZD.at_.map Prod.fst).Nodup
 keys: ∀x∈g.ZD.at_.map Prod.fst, ∃i:Nat,i<g.m_.Zr.length/\x=2*(i:Int)+2
theorem SB (N:Nat)(g:W4)(ha:in64 a):jZ N g a=some (aZ g.m_ a):=by
 unfold jZ aR;rw [bs,nf,ct,F2 N _ _ ha];rfl
theorem yW {N:Nat}(hN:6500<N)(h1:c.Zj.length<=1000/\c.Zi.length<=2900):gG N c=some (bQ c):=by
 rw [BA N I c h1.1 h1.2,AH N I c h1.1 h1.2]
def BS (c:W3)(a:Int):W3:=⟨c.Zh,c.Zq,c.Zm,a,c.Zj,c.Zi⟩
def Cc (kv:List (Int×Bool))(a:Int)(c:W3):List (Int×Bool):=bif (fP c).any yB then Bq kv a true else Dx kv a
theorem NN {N:Nat}(hN:6500<N)(h1:c.Zj.length<=600/\c.Zi.length<=2900)(kv:List (Int×Bool))(i:Nat): ∃b,cP N ⟨kv⟩ (2*(i:Int)+2) c=some (b,⟨Cc kv (2*(i:Int)+2) c⟩):=by
 unfold cP kS sW Cc;rw [fJ I,ct,uO I,tv I,Af N hN c h1.1 h1.2];simp only [bs,nt,cf];cases (fP c).any yB
 ·exact ⟨false,J⟩
 exact ⟨true,J⟩
theorem Pd (h:(kv.map Prod.fst).Nodup)(a:Int)(c:W3):((Cc kv a c).map Prod.fst).Nodup:=by
 unfold Cc;cases (fP c).any yB
 ·exact (HV h a).2.1
 show ((Bq kv a true).map (·.1)).Nodup;rw [Bp];split
 ·exact h
 rename_i hn
 exact Yt.2 ⟨h,by simp,fun x hx y hy=>by rintro rfl;exact hn (by rw [Ys.1 hy] at hx;exact hx)⟩
theorem Ht (h:(kv.map Prod.fst).Nodup)(a:Int)(c:W3)(x:Int):x∈(Cc kv a c).map Prod.fst↔((fP c).any yB=true/\(x∈kv.map Prod.fst\/x=a))\/((fP c).any yB=false/\x∈kv.map Prod.fst/\x≠a):=by
 unfold Cc;cases (fP c).any yB
 ·simp only [Xr,false_and,false_or,true_and];exact (HV h a).1 x
 simp only [Bool.true_eq_false,false_and,or_false,true_and];show x∈(Bq kv a true).map (·.1)↔(x∈kv.map (·.1)\/x=a);rw [Bp];split
 ·rename_i hn
  exact ⟨.inl,fun hx=>hx.elim id fun e=>e▸hn⟩
 rw [Yi,Ys]
def ir (g:W4)(a:Int)(c:W3):W4:=
 bif decide (a%2=1) then ⟨⟨g.m_.Zp.set (a / 2).toNat (BS c (cp g.m_ a).Zn),g.m_.Zr⟩,g.ZA,g.ZC,g.ZD⟩
 else ⟨⟨g.m_.Zp,g.m_.Zr.set (a / 2 - 1).toNat (BS c (cp g.m_ a).Zn)⟩,g.ZA,g.ZC,⟨Cc g.ZD.at_ a c⟩⟩
def Hf (g:W4)(i:Int):Bool:=decide (0<=i)&&decide (i<(g.ZA.length:Int))
theorem Nw (h:Hf g i=true): ∃j:Nat,i=j/\j<g.ZA.length:=by
 unfold Hf at h;rw [Ze,Y6,Y6] at h;exact ⟨i.toNat,by omega,by omega⟩
theorem Nv (N:Nat)(g:W4)(i:Int):di N g i=some (bif Hf g i then g.ZA.getD i.toNat vZ else vZ):=by
 unfold di aR
 cases hb:Hf g i with
 |true=>
  obtain ⟨j,rfl,hj⟩:=Nw hb;rw [bs,cf,bs,Xa (p:=(j:Int)<0) I,cf,bs,Xa (p:=(g.ZA.length:Int)<=(j:Int)) I,cf,aM hj,bs,ct,Xy,List.getD_eq_getElem?_getD,XX hj];rfl
 |false=>
  unfold Hf at hb;rw [bs,cf,bs,cf];by_cases h1:i<0
  ·rw [fJ h1,ct,bs];rfl
  rw [Xa h1,cf,bs];rw [W9 (p:=(0:Int)<=i) I,Xs,Y5] at hb;rw [W9 (p:=(g.ZA.length:Int)<=i) I];rfl
end
section
open Go.RowKit
theorem Mr (l:List Int)(cb:WZ): ∀xs:List WZ,4*(qb l cb xs).length+3*(fb l xs).length<=3*xs.length
 | []=>by simp [fb,qb]
 | [_]=>by simp [fb,qb]
 | [_,_]=>by simp [fb,qb]
 | [_,_,_]=>by simp [fb,qb]
 |t::h::k::s::r=>by
  have:=Mr l cb r;unfold fb qb;cases decide (t.N∈l)<;>simp<;>omega
theorem P6 (N:Nat)(l:List Int)(c:W3):4*(uJ l c).length+3*(qT N l c).Zi.length<=3*c.Zi.length:=by
 have h1:=(EO N l c).2;by_cases h10:c.Zh=10
 ·have:=Mr l (c.Zi.headD oh) (c.Zi.drop 1);unfold qT uJ;rw [W9 h10,Xa (p:=c.Zh=8) I];show 4*(qb l (c.Zi.headD oh) (c.Zi.drop 1)).length+3*(c.Zi.take 1++fb l (c.Zi.drop 1)).length<=_;rw [Za,Zb];rw [Ya] at this;omega
 have e:uJ l c=[]:=by unfold uJ;rw [Xa h10];rfl
 rw [e] at h1⊢;simp only [Yc] at h1⊢;omega
theorem Br (n:Nat)(g:α->Nat): ∀l:List α,cK (fun x=>n*g x) l=n*cK g l
 | []=>by simp [cK]
 |a::l=>by simp only [cK];rw [Br n g l,Nat.mul_add]
theorem IC (m:WY):cK (fun a=>(cp m a).Zi.length) (G3 m)=mS m.Zp+mS m.Zr:=by
 have h3:=xY (fun c:W3=>c.Zi.length) (cp m) (G3 m);rw [Km,Bt] at h3;exact h3.symm
theorem Uk {N:Nat}(hn:f.Nodup)(hf:∀a∈f,aZ m a=true):4*(f.flatMap fun a=>uJ lv (cp m a)).length+3*cK (fun a=>(qT N lv (cp m a)).Zi.length) f<=3*(mS m.Zp+mS m.Zr):=by
 rw [yP]
 have h1:cK (fun a=>4*(uJ lv (cp m a)).length+3*(qT N lv (cp m a)).Zi.length) f<=cK (fun a=>3*(cp m a).Zi.length) f:=Ig fun a _=>P6 N lv (cp m a)
 rw [Bu,Br,Br,Br] at h1
 have h2:=xX (fun a=>(cp m a).Zi.length) hn fun a ha=>Cd (hf a ha)
 rw [IC] at h2;omega
theorem D2 (N:Nat)(a b:List WZ)(ha:a.length<=100000)(hb:b.length<=100000):d9 N a b=some (a++b):=by
 unfold d9 lO mK iK kZ;rw [r64 I I,fz (a:=0+(a.length:Int)) I,cf,r64 I I,fz (a:=0+(a.length:Int)+(b.length:Int)) I,cf,r64 I I,r64 I I,cf];by_cases h:0<a.length+b.length
 ·rw [fJ I,ct,cj ⟨by omega,by omega⟩,bs,rF (by simp;omega),rF (by simp;omega)];rfl
 rw [fz I,cf,bs,rF (by simp;omega),rF (by simp;omega)];rfl
theorem Gp (N:Nat)(a:List WZ)(ha:a.length<=100000):dz N a=some a:=by
 unfold dz;rw [rF (by simp;omega)];rfl
theorem JS (N:Nat)(g:W4)(h:g.ZA.length<=600):ku N g=some g.ZA:=by
 unfold ku aR;rw [bs,cf,Gp N _ I,bs]
section
variable (h:HB g)
include h
end
theorem JP (h:kv.map Prod.fst=oo m):(kv.map Prod.fst).Nodup/\ ∀x∈kv.map Prod.fst, ∃i:Nat,i<m.Zr.length/\x=2*(i:Int)+2:=by
 rw [h];refine ⟨(Co m).imp fun hab e=>by omega,fun x hx=> ?_⟩;obtain ⟨i,hi, -,e⟩:=wn.1 hx;exact ⟨i,hi,e⟩
theorem Q6 {N:Nat}(f:WZ->WZ)(r p gone:List WZ){R:Type}(F:List WZ->List WZ->Option R)(h1:r.length+p.length<=600)(h2:gone.length<=3000):
  aI ((0:Int)<=(r.length:Int)/\0<=(r.length:Int).toNat/\(r.length:Int).toNat<=((r++p).map f).length) (aI ((0:Int)<=(r.length:Int)/\(r.length:Int).toNat<=((r++p).map f).length/\((r++p).map f).length<=((r++p).map f).length) ((dz N ((((r++p).map f).drop 0).take ((r.length:Int).toNat - 0))).bind fun a6=>(d9 N ((((r++p).map f).drop ((r.length:Int).toNat)).take (((r++p).map f).length - (r.length:Int).toNat)) gone).bind fun a7=>F a6 a7))=F (r.map f) (p.map f++gone):=by
 have e1:(((r++p).map f).drop 0).take ((r.length:Int).toNat - 0)=r.map f:=by
  rw [XJ,Nat.sub_zero,Xy,Yf,List.take_left' (by simp)]
 have e2:(((r++p).map f).drop ((r.length:Int).toNat)).take (((r++p).map f).length - (r.length:Int).toNat)=p.map f:=by
  rw [Xy,Yf,List.drop_left' (by simp)];exact YC (by simp)
 have hl:((r++p).map f).length=r.length+p.length:=by simp
 rw [cj ⟨by omega,by omega,by omega⟩,cj ⟨by omega,by omega,by omega⟩,e1,e2,Gp N _ (by simp;omega),bs,D2 N _ _ (by simp;omega) I,bs]
section
variable {N:Nat}{roots:List WZ}(h:CollCtx N m roots live f)
include h
theorem CollCtx.next4:4*(xu m live f).length+3*(mS (iD N m live f).Zp+mS (iD N m live f).Zr)<=3*(mS m.Zp+mS m.Zr):=by
 have h1:=Uk (N:=N) (lv:=live) h.lv.nd fun a ha=>h.lv.fhas ha
 have h3:mS (iD N m live f).Zr=cK (fun a=>(qT N live (cp m a)).Zi.length) f:=by
  show cK (fun c:W3=>c.Zi.length) (f.map fun a=>sm (tK f) f (qT N live (cp m a)))=_;rw [xY]
  exact EX fun a _=>by show ((qT N live (cp m a)).Zi.map _).length=_;rw [Zc]
 have h4:mS (iD N m live f).Zp=0:=rfl;unfold xu at*;omega
theorem CollCtx.nextCnt:(iD N m live f).Zr.length<=m.Zp.length+m.Zr.length:=by
 have h1:=xX (fun _=>1) h.lv.nd fun a ha=>Cd (h.lv.fhas ha)
 rw [CY,CY] at h1;unfold G3 at h1;unfold iD;simp only [Za,Zc,List.length_range] at h1⊢;omega
end
theorem Lb {N:Nat}{R:List WZ}(h0:mI N m R=some 0){y:WY×List WZ×List WZ×Int}(h:du N m R=some (.inl y)):False:=by
 unfold du at h;rw [h0,bs,W9 (p:=(0:Int)=0) rfl,nt,cf] at h;obtain ⟨a6, -,h⟩:=aa h;obtain ⟨a7, -,h⟩:=aa h;obtain ⟨a8, -,h⟩:=aa h;unfold rc at h;split at h
 ·obtain ⟨b0, -,h⟩:=aa h;obtain ⟨b5, -,h⟩:=aa h;split at h
  ·obtain ⟨b6, -,h⟩:=aa h;obtain ⟨b7, -,h⟩:=aa h;cases h
  ·cases h
  ·cases h
  cases h
 ·cases h
 ·cases h
 cases h
theorem Rr {N:Nat}(hN:6500<N)(h:HB g):
  (oB N g.m_ (g.ZA++g.ZC)≠0/\dv N g=some (oB N g.m_ (g.ZA++g.ZC),g))\/
  ∃live f kv,CollCtx N g.m_ (g.ZA++g.ZC) live f/\kv.map Prod.fst=oo (iD N g.m_ live f)/\
   dv N g=some (0,⟨iD N g.m_ live f,g.ZA.map (fW (tK f) f),g.ZC.map (fW (tK f) f)++(xu g.m_ live f).map (fW (tK f) f),⟨kv⟩⟩):=by
 have hs:=h.small;have hrl:=hs.roots;have hsum:=h.four;have hcnt:=h.wtd.cnt;rw [Za] at hrl hsum;obtain ⟨live,f,hl⟩:=Rf N hN hs h.w64 h.r64;have hp:=IW N hN hs h.wtd h.w64 h.r64 hl;have hm:=Tn N g.m_ (g.ZA++g.ZC);rw [hp] at hm;unfold P4 at hm
 have head:dv N g=((du N g.m_ (g.ZA++g.ZC)).bind fun a6=>Er a6 (fun y11_0=>some (.inl (y11_0.1,y11_0.2.1,y11_0.2.2.1,y11_0.2.2.2))) (fun y11_1=>some (.inr (y11_1.1,y11_1.2.1,y11_1.2.2)))).bind fun a7=>(Er a7 (fun y27_0:WY×W8×W8×Int=>d8 N g y27_0.1.Zp y27_0.1.Zr y27_0.2.1 y27_0.2.2.1 y27_0.2.2.2) (fun y27_1:WY×W8×W8=>d7 N g y27_1.1.Zp y27_1.1.Zr y27_1.2.1 y27_1.2.2)).bind fun y9=>some (y9.1,y9.2):=by
  unfold dv iN nD aR;rw [bs,cf,D2 N _ _ I I,bs,Option.bind_assoc]
 by_cases h0: ¬oB N g.m_ (g.ZA++g.ZC)=0
 ·rw [jk h0,cond_false] at hm;refine .inl ⟨h0,?_⟩;rw [head]
  cases hc:du N g.m_ (g.ZA++g.ZC) with
  |none=>rw [hc] at hm;cases hm
  | some y=>
   rw [hc] at hm;have e:=congrArg (fun z:WY×W8×W8×Int=>z.2.2.2) (YX hm)
   cases y with
   |inl y=>
    obtain ⟨y1,y2,y3,y4⟩:=y;have e':oB N g.m_ (g.ZA++g.ZC)=y4:=e;rw [bs]
    dsimp only [Er]
    rw [bs]
    dsimp only
    unfold d8;rw [<-e',jk h0,nf,ct,bs]
   |inr y=>exact absurd e h0
 replace h0:oB N g.m_ (g.ZA++g.ZC)=0:=by omega
 rw [tv h0,cond_true] at hm;have c:=TF hN hs h.wtd h.w64 h.r64 hl h0;have h4:=c.next4;have hnc:=c.nextCnt;have h0n:(iD N g.m_ live f).Zp.length=0:=rfl;obtain ⟨kv,k1,k2⟩:=KL N hN (m:=iD N g.m_ live f) (c.nextS [] (by simp));have k1':eK N g.ZD (⟨(iD N g.m_ live f).Zp,(iD N g.m_ live f).Zr⟩:WY)=some ⟨kv⟩:=k1;have hg:((xu g.m_ live f).map (fW (tK f) f)).length=(xu g.m_ live f).length:=Zc _;refine .inr ⟨live,f,kv,c,k2,?_⟩;rw [head]
 cases hc:du N g.m_ (g.ZA++g.ZC) with
 |none=>rw [hc] at hm;cases hm
 | some y=>
  rw [hc] at hm;have e:=YX hm
  cases y with
  |inl y=>exact (Lb (by rw [Gt N hN hs h.wtd h.w64 h.r64,h0]) hc).elim
  |inr y=>
   obtain ⟨y1,y2,y3⟩:=y;simp only [VQ,Prod.mk.injEq,and_true] at e;obtain ⟨rfl,rfl,rfl⟩:=e;rw [bs]
   dsimp only [Er]
   rw [bs]
   dsimp only
   unfold d7 ia;unfold Kb
   dsimp only
   rw [Q6 (N:=N) (fW (tK f) f) g.ZA g.ZC _ _ I (by unfold xu at hg;rw [hg];unfold xu at h4;omega)];have k2':eK N g.ZD (⟨[],f.map fun a=>sm (tK f) f (qT N live (cp g.m_ a))⟩:WY)=some ⟨kv⟩:=k1;rw [k2',bs,bs];rfl
end
section
open Go.RowKit
theorem Ov {a b:List WZ}(h:oG f (a++b)):oG f a:=fun v hv hb=>h v (Xd _ hv) hb
theorem QH (h:c.Zh≠10):uJ lv c=[]:=by
 unfold uJ;rw [Xa h];rfl
theorem P5 {N:Nat}(h8:c.Zh≠8)(h10:c.Zh≠10):qT N lv c=c:=by
 unfold qT;rw [Xa h8,Xa h10];rfl
theorem Um (h:kv.map Prod.fst=oo m):FW kv=oo m:=by
 have e:FW kv=kJ (kv.map Prod.fst):=rfl;rw [e,h]
 exact E1 ((Co m).imp fun hab e=>by omega) (Co m) fun x=>Iff.rfl
structure Pl (g:W4):Prop where
 hb:HB g
 pend:g.ZC=[]
 cells: ∀c∈g.m_.Zp++g.m_.Zr,bQ c=true/\(∀x∈fP c,aZ g.m_ x=true)/\c.Zh≠8/\c.Zh≠10
 roots: ∀x∈dJ g.ZA,aZ g.m_ x=true
 set:FW g.ZD.at_=oo g.m_
structure Mv (g g':W4) (ρ:Int->Int) (f:List Int):Prop where
 roots:g'.ZA=g.ZA.map (fW ρ f)
 pend:g'.ZC=[]
 at_: ∀a∈f,aZ g'.m_ (ρ a)=true/\ ∃age,cp g'.m_ (ρ a)=Im (sm ρ f (cp g.m_ a)) age
 rin:oG f g.ZA
 has: ∀a∈f,aZ g.m_ a=true
 cells: ∀c∈g'.m_.Zp++g'.m_.Zr,(∃a∈f, ∃age,c=Im (sm ρ f (cp g.m_ a)) age)/\bQ c=true/\ ∀x∈fP c,aZ g'.m_ x=true
 cnt:g'.m_.Zp.length+g'.m_.Zr.length<=g.m_.Zp.length+g.m_.Zr.length
 sum:mS g'.m_.Zp+mS g'.m_.Zr<=mS g.m_.Zp+mS g.m_.Zr
 wts:wt g'.m_.Zp+wt g'.m_.Zr<=wt g.m_.Zp+wt g.m_.Zr
 w64:W64 g'.m_
 r64: ∀v∈g'.ZA,in64 v.N
 set:g'.ZD.at_.map Prod.fst=oo g'.m_
 inj: ∀a∈f, ∀b∈f,ρ a=ρ b->a=b
 cin: ∀a∈f,oG f (cp g.m_ a).Zj/\oG f (cp g.m_ a).Zi
theorem Pl.check {N:Nat}(hN:6500<N)(h:Pl g):oB N g.m_ (g.ZA++g.ZC)=0:=by
 unfold oB
 have e1:(g.m_.Zp++g.m_.Zr).all (sx N)=true:=by
  rw [XA];intro c hc;have:=h.hb.small.cells c hc;rw [Js I I I];exact (h.cells c hc).1
 have e2:wz g.m_ ((g.m_.Zp++g.m_.Zr).flatMap fP++dJ (g.ZA++g.ZC))=true:=by
  unfold wz;rw [XA];intro x hx;rcases Yi.1 hx with hx|hx
  ·obtain ⟨c,hc,hx⟩:=List.mem_flatMap.1 hx;exact (h.cells c hc).2.1 x hx
  rw [h.pend,XB] at hx;exact h.roots x hx
 rw [e1,e2];rfl
theorem Pm {N:Nat}(hN:6500<N)(h:Pl g): ∃g' ρ f,dv N g=some (0,g')/\Mv g g' ρ f:=by
 rcases Rr hN h.hb with ⟨hm, -⟩|⟨live,f,kv,c,k2,e⟩
 ·exact absurd (h.check hN) hm
 have hin:oG f g.ZA:=Ov c.rootIn
 have hk: ∀a∈f,(cp g.m_ a).Zh≠8/\(cp g.m_ a).Zh≠10:=fun a ha=>(h.cells _ (pn (c.lv.fhas ha))).2.2
 have hg:xu g.m_ live f=[]:=by
  unfold xu;rw [List.flatMap_eq_nil_iff]
  exact fun a ha=>QH (hk a ha).2
 have hp:g.ZC.map (fW (tK f) f)++(xu g.m_ live f).map (fW (tK f) f)=[]:=by rw [hg,h.pend];rfl
 rw [hp] at e;have h4:=c.next4;have ht:=c.nextTot;have hnc:=c.nextCnt;rw [hg,Yc] at h4;rw [hg,List.map_nil,XB,Zc] at ht;have h0n:(iD N g.m_ live f).Zp.length=0:=rfl
 have hc: ∀a∈f,sm (tK f) f (qT N live (cp g.m_ a))=Im (sm (tK f) f (cp g.m_ a)) (cp g.m_ a).Zn:=fun a ha=>by
  rw [P5 (hk a ha).1 (hk a ha).2];rfl
 refine ⟨_,tK f,f,e,⟨J,J,fun a ha=> ?_,hin,fun a ha=>c.lv.fhas ha,fun d hd=> ?_,by show (iD N g.m_ live f).Zp.length+(iD N g.m_ live f).Zr.length<=_;omega,by show mS (iD N g.m_ live f).Zp+mS (iD N g.m_ live f).Zr<=_;omega,by show wt (iD N g.m_ live f).Zp+wt (iD N g.m_ live f).Zr<=_;omega,c.nextW,fun v hv=> ?_,k2,fun _ ha _ hb=>LY ha hb,fun a ha=> ?_⟩⟩
 ·exact ⟨JI ha,_,(Q9 ha).trans (hc a ha)⟩
 ·have hd':d∈f.map fun a=>sm (tK f) f (qT N live (cp g.m_ a)):=hd
  obtain ⟨h1,h2⟩:=c.nextAddr hd';obtain ⟨a,ha,rfl⟩:=Yn.1 hd';exact ⟨⟨a,ha,_,hc a ha⟩,h1,h2⟩
 ·exact c.now64 v (by rw [Yf];exact Xd _ hv)
 have:=(c.cell ha).inC;rw [P5 (hk a ha).1 (hk a ha).2] at this;exact this
theorem Mv.pl {g':W4}(m:Mv g g' ρ f)(h:Pl g):Pl g':=by
 obtain ⟨n1,n2⟩:=JP m.set;have hs:=h.hb.small;have hw:=h.hb.wtd
 have hl:g'.ZA.length=g.ZA.length:=by rw [m.roots,Zc]
 have hrl:=hs.roots;have hle:=hw.le;have hf:=h.hb.four;have ht:=h.hb.tot;have hwc:=hw.cnt;have hc:=m.cnt;have hwt:=m.wts;have hsum:=m.sum;rw [IC] at ht;rw [h.pend,XB] at hrl hle hf
 have hsz: ∀c∈g'.m_.Zp++g'.m_.Zr,c.Zj.length<=600/\c.Zi.length<=2900:=fun c hc=>by
  obtain ⟨⟨a,ha,age,rfl⟩, -⟩:=m.cells c hc;have:=hs.cells _ (pn (m.has a ha));show ((cp g.m_ a).Zj.map _).length<=600/\((cp g.m_ a).Zi.map _).length<=2900;rw [Zc,Zc];exact this
 refine ⟨⟨⟨by omega,by omega,?_,hsz⟩,⟨?_,by omega⟩,?_,?_,m.w64,?_,n1,n2⟩,m.pend,fun c hc=> ?_,fun x hx=> ?_,Um m.set⟩
 ·rw [m.pend,XB];omega
 ·rw [m.pend,XB];omega
 ·rw [IC];omega
 ·rw [m.pend,XB];omega
 ·rw [m.pend,XB];exact m.r64
 ·obtain ⟨⟨a,ha,age,rfl⟩,h1,h2⟩:=m.cells c hc;exact ⟨h1,h2,(h.cells _ (pn (m.has a ha))).2.2⟩
 obtain ⟨v,hv,hb,rfl⟩:=tS.1 hx;rw [m.roots] at hv;obtain ⟨w,hw,rfl⟩:=Yn.1 hv;rw [Ml] at hb;rw [Df hb (m.rin w hw hb)];exact (m.at_ _ (m.rin w hw hb)).1
def SP (S:List Int)(c:W3):List WZ:=bif decide (c.Zh=8) then jR (fun x=>decide (x∈S)) c.Zi else c.Zi
structure IsoC (ρ:Int->Int) (S:List Int) (c d:W3):Prop where
 kind:d.Zh=c.Zh
 shape:d.Zq=c.Zq
 flags:d.Zm=c.Zm
 slots:d.Zj=c.Zj.map (fW ρ S)
 more:SP (S.map ρ) d=(SP S c).map (fW ρ S)
 inS:oG S c.Zj
 inM:oG S (SP S c)
structure TVal (m:WY) (R:List WZ):Prop where
 right: ∀c∈m.Zp++m.Zr,bQ c=true
 kind: ∀c∈m.Zp++m.Zr,c.Zh=8\/c.Zh=11
 addr: ∀c∈m.Zp++m.Zr, ∀x∈fP c,aZ m x=true
 size: ∀c∈m.Zp++m.Zr,c.Zj.length<=20/\c.Zi.length<=20
 roots: ∀v∈R,v=oh\/(v.Zh=9/\v.S=⟨#[]⟩/\aZ m v.N=true)
structure Iso (mA mB:WY) (RA RB:List WZ) (S:List Int) (ρ:Int->Int):Prop where
 ren:Ren ρ S
 inA: ∀a∈S,aZ mA a=true
 inB: ∀a∈S,aZ mB (ρ a)=true
 cell: ∀a∈S,IsoC ρ S (cp mA a) (cp mB (ρ a))
 rootIn:oG S RA
 roots:RB=RA.map (fW ρ S)
section
variable {R:List WZ}(h:TVal m R)
include h
end
section
variable {mA mB:WY}{RA RB:List WZ}{S:List Int}(h:Iso mA mB RA RB S ρ)(vA:TVal mA RA)(vB:TVal mB RB)
include h vA vB
end
end
section
open Go.RowKit
def yc (m:WY)(a:Int)(c:W3):WY:=bif decide (a%2=1) then ⟨m.Zp.set (a / 2).toNat c,m.Zr⟩ else ⟨m.Zp,m.Zr.set (a / 2 - 1).toNat c⟩
theorem Qf (c:W3)(h:aZ m a=true):(∀x,aZ (yc m a c) x=aZ m x)/\(∀x,aZ m x=true->cp (yc m a c) x=if x=a then c else cp m x)/\(yc m a c).Zp.length=m.Zp.length/\(yc m a c).Zr.length=m.Zr.length/\(∀d∈(yc m a c).Zp++(yc m a c).Zr,d∈m.Zp++m.Zr\/d=c)/\mS (yc m a c).Zp+mS (yc m a c).Zr<=mS m.Zp+mS m.Zr+c.Zi.length:=by
 have hhas: ∀m':WY,m'.Zp.length=m.Zp.length->m'.Zr.length=m.Zr.length-> ∀x,aZ m' x=aZ m x:=fun m' h1 h2 x=>by
  rw [Bool.eq_iff_iff];constructor
  ·intro hx;rcases jh hx with ⟨i,hi,rfl⟩|⟨i,hi,rfl⟩
   ·rw [Do];exact W9 I
   rw [yO];exact W9 I
  intro hx;rcases jh hx with ⟨i,hi,rfl⟩|⟨i,hi,rfl⟩
  ·rw [Do];exact W9 I
  rw [yO];exact W9 I
 rcases jh h with ⟨j,hj,rfl⟩|⟨j,hj,rfl⟩
 ·have e:yc m (2*(j:Int)+1) c=⟨m.Zp.set j c,m.Zr⟩:=by
   unfold yc;rw [W9 I,cond_true,show ((2*(j:Int)+1) / 2).toNat=j by omega]
  rw [e];refine ⟨hhas _ (Yd ..) J,fun x hx=> ?_,Yd ..,J,fun d hd=> ?_,?_⟩
  ·rcases jh hx with ⟨i,hi,rfl⟩|⟨i,hi,rfl⟩
   ·rw [zc ⟨m.Zp.set j c,m.Zr⟩ i (by simpa using hi),zc m i hi];simp only [List.getElem_set];by_cases hij:j=i
    ·rw [if_pos hij,if_pos I]
    rw [if_neg hij,if_neg I]
   rw [xz ⟨m.Zp.set j c,m.Zr⟩ i hi,xz m i hi,if_neg I]
  ·rcases Yi.1 hd with hd|hd
   ·rcases Yq hd with hd|hd
    ·exact .inl (Xd _ hd)
    exact .inr hd
   exact .inl (Xe _ hd)
  have:=EW (fun c:W3=>c.Zi.length) c m.Zp j;unfold mS;simp only at this⊢;omega
 have e:yc m (2*(j:Int)+2) c=⟨m.Zp,m.Zr.set j c⟩:=by
  unfold yc;rw [Xa I,cond_false,show ((2*(j:Int)+2) / 2 - 1).toNat=j by omega]
 rw [e];refine ⟨hhas _ J (Yd ..),fun x hx=> ?_,J,Yd ..,fun d hd=> ?_,?_⟩
 ·rcases jh hx with ⟨i,hi,rfl⟩|⟨i,hi,rfl⟩
  ·rw [zc ⟨m.Zp,m.Zr.set j c⟩ i hi,zc m i hi,if_neg I]
  rw [xz ⟨m.Zp,m.Zr.set j c⟩ i (by simpa using hi),xz m i hi];simp only [List.getElem_set];by_cases hij:j=i
  ·rw [if_pos hij,if_pos I]
  rw [if_neg hij,if_neg I]
 ·rcases Yi.1 hd with hd|hd
  ·exact .inl (Xd _ hd)
  rcases Yq hd with hd|hd
  ·exact .inl (Xe _ hd)
  exact .inr hd
 have:=EW (fun c:W3=>c.Zi.length) c m.Zr j;unfold mS;simp only at this⊢;omega
theorem yD (g:W4)(a:Int)(c:W3):(ir g a c).m_=yc g.m_ a (BS c (cp g.m_ a).Zn)/\(ir g a c).ZA=g.ZA/\(ir g a c).ZC=g.ZC/\(ir g a c).ZD.at_=bif decide (a%2=1) then g.ZD.at_ else Cc g.ZD.at_ a c:=by
 unfold ir yc;cases decide (a%2=1)<;>exact ⟨rfl,rfl,rfl,rfl⟩
theorem KT (h:bQ c=true)(h0:0<=a)(h1:a<=1):bQ (BS c a)=true:=by
 unfold bQ at h⊢;simp only [Ze,Bool.not_eq_true',Y5] at h⊢;obtain ⟨⟨⟨⟨⟨⟨⟨p1,p2⟩,p3⟩,p4⟩,p5⟩, -⟩, -⟩,h⟩:=h;exact ⟨⟨⟨⟨⟨⟨⟨p1,p2⟩,p3⟩,p4⟩,p5⟩,by show¬a<0;omega⟩,by show¬1<a;omega⟩,h⟩
theorem Nx (h:bQ c=true):0<=c.Zn/\c.Zn<=1:=by
 unfold bQ at h;simp only [Ze,Bool.not_eq_true',Y5] at h;omega
theorem Vq {N:Nat}(hN:6500<N)(hs:Small g.m_ (g.ZA++g.ZC))(hh:aZ g.m_ a=true)(h1:c.Zj.length<=600/\c.Zi.length<=2900):
  mw N g a c=some (bif !bQ c then (51,g) else (0,ir g a c)):=by
 have hy:=hs.young;have ho:=hs.old;unfold mw aR;rw [bs,cf,SB N g (xa hs hh),bs,yW hN I,bs,hh]
 cases bQ c with
 |false=>rfl
 | true=>
  rw [nt,cf,cf];unfold ik;rcases jh hh with ⟨i,hi,rfl⟩|⟨i,hi,rfl⟩
  ·have e1:(2*(i:Int)+1).tmod 2=1:=by rw [uO I];omega
   have e2:(2*(i:Int)+1).tdiv 2=i:=by rw [Xw I];omega
   have e3:(2*(i:Int)+1) / 2=i:=by omega
   have e4:(2*(i:Int)+1)%2=1:=by omega
   unfold ir;rw [e1,e2,e3,e4,W9 (p:=(1:Int)=1) rfl,Xa (p:=(1:Int)=0) I,ct,ct,r64 I I,aM hi,bs,bs]
   dsimp only [Er]
   rw [aM hi,bs,pS N c I,bs,cf,zc g.m_ i hi];unfold na;rw [List.set_set];rfl
  have e1:(2*(i:Int)+2).tmod 2=0:=by rw [uO I];omega
  have e2:(2*(i:Int)+2).tdiv 2=(i:Int)+1:=by rw [Xw I];omega
  have e3:(2*(i:Int)+2) / 2 - 1=i:=by omega
  have e4:(2*(i:Int)+2)%2=0:=by omega
  have e5:(i:Int)+1 - 1=i:=by omega
  obtain ⟨b,hb⟩:=NN hN (c:=c) I g.ZD.at_ i;have hb':cP N g.ZD (2*(i:Int)+2) c=some (b,⟨Cc g.ZD.at_ (2*(i:Int)+2) c⟩):=hb;unfold ir;rw [hb',e1,e2,e3,e4,e5,Xa (p:=(0:Int)=1) I,W9 (p:=(0:Int)=0) rfl,cf,cf,r64 I I,r64 I I,aM hi,bs,bs]
  dsimp only [Er]
  rw [aM hi,bs,pS N c I,bs,ct,bs,xz g.m_ i hi];unfold mZ;rw [List.set_set];rfl
theorem ND (hs:FW g.ZD.at_=oo g.m_)(hnd:(g.ZD.at_.map Prod.fst).Nodup)(ha:aZ g.m_ a=true)(c:W3)(nd:((ir g a c).ZD.at_.map Prod.fst).Nodup):FW (ir g a c).ZD.at_=oo (ir g a c).m_:=by
 obtain ⟨f1, -, -,f4⟩:=yD g a c;obtain ⟨s1,s2,s3,s4, -, -⟩:=Qf (BS c (cp g.m_ a).Zn) ha;have e:FW (ir g a c).ZD.at_=kJ ((ir g a c).ZD.at_.map Prod.fst):=rfl;rw [e]
 refine E1 nd (Co _) fun x=> ?_
 have hkv: ∀x,x∈g.ZD.at_.map Prod.fst↔x∈oo g.m_:=fun x=>by rw [<-hs];exact (vQ _ x).symm
 have hold: ∀i,i<g.m_.Zr.length->vd (ir g a c).m_ i=if 2*(i:Int)+2=a then (fP c).any yB else vd g.m_ i:=fun i hi=>by
  unfold vd;rw [f1,s2 _ (by rw [yO];exact W9 hi)];split<;>rfl
 rw [wn,f1,s4,f4, <-f1];rcases jh ha with ⟨j,hj,rfl⟩|⟨j,hj,rfl⟩
 ·rw [W9 I,cond_true,hkv,wn];refine ⟨fun ⟨i,h1,h2,h3⟩=>⟨i,h1,by rw [hold i h1,if_neg I];exact h2,h3⟩,fun ⟨i,h1,h2,h3⟩=>⟨i,h1,by rw [hold i h1,if_neg I] at h2;exact h2,h3⟩⟩
 rw [Xa I,cond_false,Ht hnd,hkv,wn];constructor
 ·rintro (⟨h1,⟨i,q1,q2,rfl⟩|rfl⟩|⟨h1,⟨i,q1,q2,rfl⟩,hne⟩)
  ·refine ⟨i,q1,?_,J⟩;rw [hold i q1];split
   ·exact h1
   exact q2
  ·exact ⟨j,hj,by rw [hold j hj,if_pos rfl];exact h1,rfl⟩
  exact ⟨i,q1,by rw [hold i q1,if_neg hne];exact q2,rfl⟩
 rintro ⟨i,q1,q2,rfl⟩;rw [hold i q1] at q2;by_cases hij:2*(i:Int)+2=2*(j:Int)+2
 ·rw [if_pos hij] at q2;exact .inl ⟨q2,.inr hij⟩
 rw [if_neg hij] at q2
 cases hb:(fP c).any yB with
 |true=>exact .inl ⟨rfl,.inl ⟨i,q1,q2,rfl⟩⟩
 |false=>exact .inr ⟨rfl,⟨i,q1,q2,rfl⟩,hij⟩
theorem Qh (c:W3):(∀x,aZ m x=true->aZ ⟨m.Zp++ [c],m.Zr⟩ x=true/\cp ⟨m.Zp++ [c],m.Zr⟩ x=cp m x)/\aZ ⟨m.Zp++ [c],m.Zr⟩ (2*(m.Zp.length:Int)+1)=true/\cp ⟨m.Zp++ [c],m.Zr⟩ (2*(m.Zp.length:Int)+1)=c:=by
 refine ⟨fun x hx=> ?_,?_,?_⟩
 ·rcases jh hx with ⟨i,hi,rfl⟩|⟨i,hi,rfl⟩
  ·have h2:i<(m.Zp++ [c]).length:=by simp;omega
   exact ⟨by rw [Do];exact W9 h2,by rw [zc ⟨m.Zp++ [c],m.Zr⟩ i h2,zc m i hi];exact List.getElem_append_left hi⟩
  exact ⟨by rw [yO];exact W9 hi,by rw [xz ⟨m.Zp++ [c],m.Zr⟩ i hi,xz m i hi]⟩
 ·rw [Do];exact W9 (by simp)
 rw [zc ⟨m.Zp++ [c],m.Zr⟩ m.Zp.length (by simp)];simp
theorem Ps (c:W3):oo ⟨m.Zp++ [c],m.Zr⟩=oo m:=by
 unfold oo;show List.map _ ((List.range m.Zr.length).filter _)=_
 congr 1
 refine List.filter_congr fun i hi=> ?_
 unfold vd;rw [((Qh c).1 (2*(i:Int)+2) (by rw [yO];exact W9 (Yr.1 hi))).2]
theorem Tx {N:Nat}(hs:∀c∈g.m_.Zp++g.m_.Zr,c.Zj.length<=600/\c.Zi.length<=2900)(ha:in64 a)(hh:aZ g.m_ a=true):nE N g a=some (cp g.m_ a,true):=by
 unfold nE;rw [SB N g ha,bs,hh];have hc:=hs _ (pn hh);have hi64:in64 a:=ha;unfold ik;rcases jh hh with ⟨i,hi,rfl⟩|⟨i,hi,rfl⟩
 ·have e1:(2*(i:Int)+1).tmod 2=1:=by rw [uO I];omega
  have e2:(2*(i:Int)+1).tdiv 2=i:=by rw [Xw I];omega
  rw [zc g.m_ i hi] at hc⊢;unfold in64 at hi64;rw [nt,cf,e1,e2,W9 (p:=(1:Int)=1) rfl,ct,r64 I I,aM hi,bs,bs]
  dsimp only [Er]
  rw [aM hi,bs,pS N _ I,bs]
 have e1:(2*(i:Int)+2).tmod 2=0:=by rw [uO I];omega
 have e2:(2*(i:Int)+2).tdiv 2=(i:Int)+1:=by rw [Xw I];omega
 have e5:(i:Int)+1 - 1=i:=by omega
 rw [xz g.m_ i hi] at hc⊢;unfold in64 at hi64;rw [nt,cf,e1,e2,e5,Xa (p:=(0:Int)=1) I,cf,r64 I I,r64 I I,aM hi,bs,bs]
 dsimp only [Er]
 rw [aM hi,bs,pS N _ I,bs]
theorem Om {N:Nat}{w:WP}(hs:∀c∈w.Zv.m_.Zp++w.Zv.m_.Zr,c.Zj.length<=600/\c.Zi.length<=2900)(hv:bO v=true)(ha:in64 v.N)(hh:aZ w.Zv.m_ v.N=true):bR N w v=some (cp w.Zv.m_ v.N):=by
 have e:iU N v=some (bO v):=by
  unfold iU bO;cases decide (v.Zh=7)<;>rfl
 unfold bR;rw [e,bs,hv,nt,cf,Tx hs ha hh,bs];rfl
theorem LW (N:Nat)(h:g.ZA[j]? =some v):di N g (j:Int)=some v:=by
 obtain ⟨hj,e⟩:=XZ.1 h;rw [Nv];unfold Hf;rw [W9 (p:=(0:Int)<=(j:Int)) I,W9 (p:=(j:Int)<(g.ZA.length:Int)) I,Xy,List.getD_eq_getElem?_getD,h];rfl
def Il (w:WP)(g:W4):WP:=⟨w.ZI,w.ZB,(),g,w.Zw,w.ZF,w.ZL,w.ZM,w.ZN,w.ZG,w.ZH⟩
theorem NU (N:Nat){w:WP}(h:w.Zv.ZA.length<=600):eO N w=some (w.Zv.ZA.length:Int):=by
 unfold eO;rw [JS N _ h,bs]
theorem cB {ρ σ:Type}{b:Bool}{x y:Option σ}{f:σ->Option ρ}{P:σ->Prop}{R:ρ->Prop}(h1:b=true->Sat x P)(h2:b=false->Sat y P)(k:∀z,P z->Sat (f z) R):Sat ((bif b then x else y).bind f) R:=Sat.bind (dB h1 h2) k
def Tw (k:WX):Prop:=k.Zh=0->0<=k.N/\k.N<=4294967294
def Aa (a:Int):Prop:=0<=a/\a<=15/\ai .i64 a 9≠9
theorem OO (N:Nat)(a:Int):Sat (pC N a) fun b=>b=true->Aa a:=by
 unfold pC
 refine Sat.bind (P:=fun b=>b=true->0<=a/\a<=15) (aC (fun h=>ad fun h1=>⟨h,Y8 h1⟩) fun h=>ad fun h=>by cases h) fun b hb=> ?_
 refine cB (P:=fun c=>c=true->Aa a) (fun e=>ad fun h=>⟨(hb e).1,(hb e).2,fun h1=> ?_⟩) (fun _=>ad fun h=>by cases h) fun c hc=>ad hc
 rw [W9 h1] at h;cases h
theorem Ct {b:ByteArray}(h0:0<=i)(h1:i<(b.size:Int)):Sat (F5 b i) fun x=>0<=x/\x<=255:=by
 have h2:i.toNat<b.size:=by omega
 unfold F5;rw [if_pos h0,getElem?_pos b i.toNat h2];exact ⟨((b[i.toNat]).toNat:Int),J,by omega,by have:=(b[i.toNat]).toNat_lt;omega⟩
theorem Uj (x:Int):0<=IntKind.u8.wrap x/\IntKind.u8.wrap x<=255:=by
 have:IntKind.u8.wrap x=x%256:=by rfl
 omega
theorem F0 (N:Nat)(s:ByteArray)(hs:s.size<=10): ∀(m i:Nat) (p:Int),s.size<m+i->i<=s.size->0<=p->p+29<=29*(10:Int) ^ i->Sat (nW N s m p (i:Int)) fun _=>True
 |0,i,p,h,h1,_,_=>by omega
 | m+1,i,p,h,h1,h2,h3=>by
  rw [nW.eq_2]
  have h10:(10:Int) ^ i<=10 ^ 10:=by
   have:(10:Nat) ^ i<=10 ^ 10:=Nat.pow_le_pow_right I I
   exact_mod_cast this
  rw [show (10:Int) ^ 10=10000000000 from rfl] at h10
  refine aC (fun h7=> ?_) fun h7=> ?_
  ·refine (Ct I h7).bind fun x hx=> ?_
   refine cB (P:=fun _=>True) (fun _=>ad trivial) (fun _=>(Ct I h7).bind fun y _=>ad trivial) fun c _=> ?_
   refine dB (fun _=>ad trivial) fun _=> ?_
   refine av (by constructor<;>omega) ((Ct I h7).bind fun y hy=> ?_);have h8:=Uj (y - 48);rw [show IntKind.i64.wrap (IntKind.u8.wrap (y - 48))=IntKind.u8.wrap (y - 48) from IntWalk.i64_in _ ⟨by omega,by omega⟩];generalize IntKind.u8.wrap (y - 48)=d at h8;refine av (by constructor<;>omega) (av (by constructor<;>omega) ?_);exact F0 N s hs m (i+1) _ I I I (by rw [Int.pow_succ];omega)
  unfold tt
  exact aC (fun _=>ad trivial) fun _=>ad trivial
theorem JR (N:Nat)(hN:5000<=N)(s:ByteArray):Sat (iZ N s) fun _=>True:=by
 unfold iZ;by_cases h10:s.size<=10
 ·cases e:(s.toList==(⟨#[]⟩:ByteArray).toList) with
  |true=>exact ad trivial
  | false=>
   have hs:0<s.size:=by
    rcases YK s.size with h|h
    ·exfalso
     have:s=⟨#[]⟩:=by
      obtain ⟨d⟩:=s;have:d= #[]:=Array.eq_empty_of_size_eq_zero h;rw [this]
     rw [this] at e;rw [beq_self_eq_true] at e;cases e
    exact h
   show Sat (Option.bind (some (decide (10<(s.size:Int)))) _) _;rw [bs,Xa I];show Sat (Option.bind ((F5 s 0).bind _) _) _
   refine Sat.bind (P:=fun _=>True) ((Ct I I).bind fun x _=>cB (P:=fun _=>True) (fun _=>ad trivial) (fun _=>ad trivial) fun _ _=>ad trivial) fun b _=> ?_
   exact dB (fun _=>ad trivial) fun _=>F0 N s h10 N 0 0 I I I (by decide)
 have:(bif s.toList==(⟨#[]⟩:ByteArray).toList then (some true) else (some (decide (10<(s.size:Int)))))=some true:=by
  cases s.toList==(⟨#[]⟩:ByteArray).toList with
  |true=>rfl
  |false=>show some _=_;rw [W9 I]
 rw [this];exact ad trivial
theorem Dl (N:Nat)(hN:5000<=N)(k:WX):Sat (bd N k) fun b=>b=true->Tw k:=by
 unfold bd
 refine aC (fun h=> ?_) fun h=> ?_
 ·refine cB (P:=fun b=>b=true->0<=k.N) (fun _=>ad fun h=>Y8 h) (fun _=>ad fun h=>by cases h) fun b hb=> ?_
  refine cB (P:=fun c=>c=true->Tw k) (fun e=>ad fun h _=>⟨hb e,Y8 h⟩) (fun _=>ad fun h=>by cases h) fun c hc=>ad hc
 refine Sat.mono (R:=fun _=>True) ?_ fun _ _ _ h'=>absurd h' h
 refine aC (fun _=> ?_) fun _=> ?_
 ·refine (JR N hN k.S).bind fun y _=> ?_
  refine cB (P:=fun _=>True) (fun _=>ad trivial) (fun _=>ad trivial) fun b _=> ?_
  exact cB (P:=fun _=>True) (fun _=>ad trivial) (fun _=>ad trivial) fun b _=>ad trivial
 refine aC (fun _=> ?_) fun _=>ad trivial
 exact cB (P:=fun _=>True) (fun _=>ad trivial) (fun _=>ad trivial) fun b _=>ad trivial
theorem Rc (N:Nat)(h:Aa a):pC N a=some true:=by
 unfold pC;rw [W9 h.1,ct,bs,W9 h.2.1,ct,Xa h.2.2];rfl
def keyR (k:WX):Prop:=bd N k=some true
theorem keyR.b {N:Nat}(hN:5000<=N){k:WX}(h:keyR N k):Tw k:=by
 obtain ⟨b,h1,h2⟩:=Dl N hN k;rw [h] at h1;cases h1;exact h2 J
def Tg (x:WX×Int):Prop:=keyR N x.1/\Aa x.2
def ka (s:W2):WX×Int:=(s.Zo,s.Zk)
def Has (t:WR)(i:Int)(s:W2):Prop:=0<=i/\t.Zw[i.toNat]? =some s
theorem Has.lt (h:Has t i s):0<=i/\i<t.Zw.length:=by
 have:=(XZ.1 h.2).1;exact ⟨h.1,by have:=h.1;omega⟩
theorem Has.get (h:Has t i s):aq t.Zw i=some s:=by
 unfold aq;rw [if_neg (by have:=h.1;omega)];exact h.2
theorem Has.one {s':W2}(h:Has t i s)(h':Has t i s'):s=s':=YX (h.2.symm.trans h'.2)
def Le (t t':WR):Prop:= ∀i s,Has t i s->Has t' i s
theorem Le.refl (t:WR):Le t t:=fun _ _ h=>h
theorem Le.trans {a b c:WR}(h:Le a b)(h':Le b c):Le a c:=fun i s x=>h' i s (h i s x)
structure TI (N:Nat) (t:WR):Prop where
 sh: ∀i s,Has t i s->0<=s.ZJ/\s.ZJ<=1024/\(0<s.ZJ->Tg N (ka s)/\ ∃u,Has t s.Up u/\u.ZJ=s.ZJ - 1)
 nx: ∀k j,lk t.ZK k=some j-> ∃a b,Has t k.up_ a/\Has t j b/\b.ZJ=a.ZJ+1/\b.Up=k.up_/\b.Zo=k.ZX/\b.Zk=k.attrs_
inductive Row (t:WR):Int->List (WX×Int)->Prop
 |nil {i:Int} {s:W2}:Has t i s->s.ZJ=0->Row t i []
 |snoc {i:Int} {s:W2} {l:List (WX×Int)}:Has t i s->0<s.ZJ->Row t s.Up l->Row t i (l++ [ka s])
theorem Row.mono {t':WR}(h:Le t t')(r:Row t i l):Row t' i l:=by
 induction r with
 |nil h1 h2=>exact .nil (h _ _ h1) h2
 |snoc h1 h2 _ ih=>exact .snoc (h _ _ h1) h2 ih
theorem Row.has {N:Nat}(ti:TI N t)(r:Row t i l): ∃s,Has t i s/\s.ZJ=l.length:=by
 induction r with
 |nil h1 h2=>exact ⟨_,h1,h2⟩
 |snoc h1 h2 _ ih=>
  obtain ⟨u,u1,u2⟩:=ih;obtain ⟨-, -,a3⟩:=ti.sh _ _ h1;obtain ⟨-,u',b1,b2⟩:=a3 h2;have:=u1.one b1;subst this;exact ⟨_,h1,by rw [Za,Ye];omega⟩
theorem Row.le {N:Nat}(ti:TI N t)(r:Row t i l):l.length<=1024:=by
 obtain ⟨s,s1,s2⟩:=r.has ti;have:=(ti.sh _ _ s1).2.1;omega
theorem Row.ok {N:Nat}(ti:TI N t)(r:Row t i l): ∀x∈l,Tg N x:=by
 induction r with
 |nil h1 h2=>simp
 |snoc h1 h2 _ ih=>
  intro x hx;rcases Yi.1 hx with hx|hx
  ·exact ih x hx
  rw [Ys] at hx;subst hx;exact ((ti.sh _ _ h1).2.2 h2).1
theorem Ty (N:Nat)(t:WR)(i:Int):fm N t i=some (decide (0<=i)&&decide (i<(t.Zw.length:Int))):=by
 unfold fm;cases decide (0<=i)<;>rfl
theorem Has.has (N:Nat)(h:Has t i s):fm N t i=some true:=by
 rw [Ty,W9 h.lt.1,W9 h.lt.2];rfl
theorem US (N:Nat)(h:Has t i s):nM N t i=some (s,true):=by
 unfold nM;rw [h.has N,bs,nt,cf,h.get,bs]
theorem Lc (N:Nat)(h:Has t i s):fo N t i=some s.ZJ:=by
 unfold fo;rw [US N h,bs]
theorem Jr (N:Nat)(ti:TI N t)(lf:List (WX×Int))(hL:lf.length<=1024): ∀(m:Nat) (a7:Int) (a6:List W2) (l0 rest:List (WX×Int)),l0.length<m->lf=l0++rest->a6.length=lf.length->Row t a7 l0->
  (a6.drop l0.length).map ka=rest->Sat (kO N t m a7 a6 ((l0.length:Int) - 1)) fun l=>l.map ka=lf
 |0,_,_,l0,_,h,_,_,_,_=>by omega
 | m+1,a7,a6,l0,rest,h,h1,h2,h3,h4=>by
  rw [kO.eq_2]
  cases h3 with
  |nil h5 h6=>
   rw [Xa (by rw [Yc];omega),cf];exact ad (by rw [h1, <-h4];rfl)
  | @snoc _ s l h5 h6 h7=>
   have e1:((((l++ [ka s]).length:Nat):Int) - 1)=(l.length:Int):=by rw [Za,Ye];omega
   have e2:lf.length=l.length+1+rest.length:=by rw [h1,Za,Za,Ye]
   rw [e1,W9 I,ct,h5.get,bs]
   refine qe I I fun a8 _=> ?_
   refine qe I (by rw [Yd];omega) fun b0 h8=> ?_
   rw [Xy,X4 I] at h8;cases h8;refine av (by constructor<;>omega) ?_;refine Jr N ti lf hL m _ _ l (ka s::rest) (by rw [Za,Ye] at h;omega) (by rw [h1,Xc];rfl) (by rw [Yd];exact h2) h7 ?_;rw [Xy,List.drop_set,if_neg I,YR,XF (show l.length<a6.length by omega)];rw [Za,Ye] at h4;rw [List.set_cons_zero,Yg,h4]
theorem Ip (N:Nat)(hN:5000<=N)(ti:TI N t)(h:Row t i l):Sat (fk N t i) fun r=>r.map ka=l:=by
 obtain ⟨s,s1,s2⟩:=h.has ti;have:=h.le ti;unfold fk;rw [Lc N s1,bs,s2];refine av (by constructor<;>omega) (av (by rw [List.length_replicate];constructor<;>omega) ?_);rw [List.length_replicate,Xy];refine Jr N ti l this N i _ l [] I (by simp) (by simp) h (by simp)
theorem HA (N:Nat)(y:List W2)(hy:y.length<=1024): ∀(m i:Nat) (p:List WX),y.length<m+i->i<=y.length->p=(y.take i).map (·.Zo)->Sat (kQ N y m p (i:Int)) fun l=>l=y.map (·.Zo)
 |0,i,p,h,h1,_=>by omega
 | m+1,i,p,h,h1,h2=>by
  rw [kQ.eq_2]
  have hp:p.length<=i:=by rw [h2,Zc,Zb];omega
  refine aC (fun h7=> ?_) fun h7=> ?_
  ·refine qe I h7 fun x hx=> ?_
   refine av (by unfold bm;rw [Ye];omega) (av (by constructor<;>omega) ?_);refine HA N y hy m (i+1) _ I I ?_;rw [Xy] at hx;rw [h2,List.take_add_one,hx,Yf];rfl
  exact ad (by rw [h2,YC I])
theorem Rm (N:Nat)(hN:5000<=N)(ti:TI N t)(h:Row t i l):gj N t i=some (l.map (·.1)):=by
 have:=h.le ti;refine Sat.eq ?_;unfold gj
 refine (Ip N hN ti h).bind fun r hr=> ?_
 have e:r.length=l.length:=by rw [<-hr,Zc]
 exact (HA N r I N 0 [] I I J).mono fun x hx=>by rw [hx, <-hr,List.map_map];rfl
theorem Gv (N:Nat)(y:List W2)(hy:y.length<=1024): ∀(m i:Nat) (p:List Int),y.length<m+i->i<=y.length->p=(y.take i).map (·.Zk)->Sat (kj N y m p (i:Int)) fun l=>l=y.map (·.Zk)
 |0,i,p,h,h1,_=>by omega
 | m+1,i,p,h,h1,h2=>by
  rw [kj.eq_2]
  have hp:p.length<=i:=by rw [h2,Zc,Zb];omega
  refine aC (fun h7=> ?_) fun h7=> ?_
  ·refine qe I h7 fun x hx=> ?_
   refine av (by unfold bm;rw [Ye];omega) (av (by constructor<;>omega) ?_);refine Gv N y hy m (i+1) _ I I ?_;rw [Xy] at hx;rw [h2,List.take_add_one,hx,Yf];rfl
  exact ad (by rw [h2,YC I])
theorem Qd (N:Nat)(hN:5000<=N)(ti:TI N t)(h:Row t i l):fF N t i=some (l.map (·.2)):=by
 have:=h.le ti;refine Sat.eq ?_;unfold fF
 refine (Ip N hN ti h).bind fun r hr=> ?_
 have e:r.length=l.length:=by rw [<-hr,Zc]
 exact (Gv N r I N 0 [] I I J).mono fun x hx=>by rw [hx, <-hr,List.map_map];rfl
def SO (l:List (WX×Int))(k:WX)(r:Int×Int×Bool):Prop:=(r=(0,0,false)/\ ∀x∈l,x.1≠k)\/ ∃n:Nat,r.1=n/\r.2.2=true/\l[n]? =some (k,r.2.1)
theorem HJ (N:Nat)(ti:TI N t)(k:WX): ∀(m:Nat) (i:Int) (s:W2) (l:List (WX×Int)),l.length<m->Has t i s->Row t i l->Sat (ki N t k m s.Up s.Zo.Zh s.Zo.N s.Zo.S s.Zk s.ZJ) (SO l k)
 |0,i,s,l,h,h1,h2=>by omega
 | m+1,i,s,l,h,h1,h2=>by
  rw [ki.eq_2];have hle:=h2.le ti
  cases h2 with
  |nil h5 h6=>
   have:=h1.one h5;subst this;rw [Xa I,cf];exact ad (.inl ⟨J,by simp⟩)
  | @snoc _ s' l h5 h6 h7=>
   have:=h1.one h5;subst this;rw [Za,Ye] at h hle;obtain ⟨u,u1,u2⟩:=h7.has ti;obtain ⟨a1,a2,a3⟩:=ti.sh _ _ h1;obtain ⟨b1,u',b2,b3⟩:=a3 h6;have:=u1.one b2;subst this;rw [W9 h6,ct]
   refine aC (fun e=>av (by constructor<;>omega) (ad (.inr ⟨l.length,by show s.ZJ - 1=_;omega,rfl,?_⟩))) fun e=> ?_
   ·rw [XT (YM _),YR];show some (ka s)=_;rw [show k=s.Zo from e.symm];rfl
   rw [u1.get,bs]
   refine (HJ N ti k m _ u l I u1 h7).mono fun r hr=> ?_
   rcases hr with ⟨r1,r2⟩|⟨n,r1,r2,r3⟩
   ·refine .inl ⟨r1,fun x hx=> ?_⟩;rcases Yi.1 hx with hx|hx
    ·exact r2 x hx
    rw [Ys] at hx;subst hx;exact e
   exact .inr ⟨n,r1,r2,by rw [XS (XZ.1 r3).1];exact r3⟩
theorem EI (N:Nat)(hN:5000<=N)(ti:TI N t)(h:Row t i l)(k:WX):Sat (dA N t i k) (SO l k):=by
 obtain ⟨s,s1,s2⟩:=h.has ti;have:=h.le ti;unfold dA;rw [s1.has N,bs,nt,cf,s1.get,bs];exact HJ N ti k N i s l I s1 h
theorem D6 (N:Nat)(ti:TI N t)(n:Nat): ∀(m:Nat) (i:Int) (l:List (WX×Int)),l.length<m->Row t i l->n<=l.length->Sat (jF N (n:Int) t m i) fun r=>Row t r (l.take n)
 |0,i,l,h,h1,h2=>by omega
 | m+1,i,l,h,h1,h2=>by
  obtain ⟨s,s1,s2⟩:=h1.has ti;rw [jF.eq_2,s1.get,bs]
  refine aC (fun h7=> ?_) fun h7=>ad (by rw [YC I];exact h1)
  rw [bs]
  cases h1 with
  |nil h5 h6=>rw [Yc] at s2;omega
  | @snoc _ s' l h5 h6 h8=>
   have:=s1.one h5;subst this;rw [Za,Ye] at h s2 h2;rw [List.take_append_of_le_length I];exact D6 N ti n m _ l I h8 I
theorem H1 (N:Nat)(hN:5000<=N)(ti:TI N t)(h:Row t i l)(n:Nat)(h2:n<=l.length):Sat (gM N t i (n:Int)) fun r=>Row t r (l.take n):=by
 have:=h.le ti;unfold gM;exact D6 N ti n N i l I h h2
structure Grow (N:Nat) (t t':WR) (n:Nat):Prop where
 ti:TI N t'
 le:Le t t'
 num:t'.Zw.length<=t.Zw.length+n
def Kr (t:WR)(l:List (WX×Int))(n:Nat)(r:Int×Int×WR):Prop:=r.2.1=0/\Grow N t r.2.2 n/\Row r.2.2 r.1 l
theorem Has.app {x:W2}{n:List (WN×Int)}(h:Has t i s):Has ⟨t.Zw++ [x],n⟩ i s:=
 ⟨h.1,by rw [XS (XZ.1 h.2).1];exact h.2⟩
theorem Mo (N:Nat)(t:WR)(l:List W2)(hl:∀x∈l,Tg N (ka x))(lf:List (WX×Int))(hT:lf.length<=1024)(hb:t.Zw.length+l.length<=1073741824): ∀(m i:Nat) (a6:Int) (t':WR) (l0:List (WX×Int)),l.length<m+i->i<=l.length->TI N t'->Le t t'->t'.Zw.length=t.Zw.length+i->Row t' a6 l0->lf=l0++(l.drop i).map ka->Sat (kP N l m a6 (i:Int) t'.Zw t'.ZK) (Kr N t lf l.length)
 |0,i,_,_,_,h,h1,_,_,_,_,_=>by omega
 | m+1,i,a6,t',l0,h,h1,ti,le,h2,h3,h4=>by
  rw [kP.eq_2]
  refine aC (fun h7=> ?_) fun h7=>ad ⟨J,⟨ti,le,by show t'.Zw.length<=_;omega⟩,by rw [h4,XH I,List.map_nil,XB];exact h3⟩
  obtain ⟨a,h3a,h3b⟩:=h3.has ti;rw [aM (show i<l.length by omega),bs];rw [h3a.get,bs];obtain ⟨a1,a2,a3⟩:=ti.sh _ _ h3a;have hox:=hl l[i] (Zg _);have e4:l.drop i=l[i]::l.drop (i+1):=XF _
  have e5:l0.length+1<=lf.length:=by rw [h4,e4,Za,Yg,X9];omega
  generalize l[i]=x at*
  have e1:(t'.Zw++ [(⟨a6,x.Zo,x.Zk,a.ZJ+1⟩:W2)]).length=t'.Zw.length+1:=by rw [Za,Ye]
  have e2:((((t'.Zw++ [(⟨a6,x.Zo,x.Zk,a.ZJ+1⟩:W2)]).length:Nat):Int) - 1)=(t'.Zw.length:Int):=by omega
  refine av (by constructor<;>omega) (av (by unfold bm;rw [Ye];omega) (av (by rw [e2];constructor<;>omega) (av (by constructor<;>omega) ?_)));rw [e2]
  have hnew:Has ⟨t'.Zw++ [(⟨a6,x.Zo,x.Zk,a.ZJ+1⟩:W2)],Bq t'.ZK ⟨a6,x.Zo,x.Zk⟩ (t'.Zw.length:Int)⟩ (t'.Zw.length:Int) ⟨a6,x.Zo,x.Zk,a.ZJ+1⟩:=
   ⟨by omega,by simp⟩
  refine Mo N t l hl lf hT hb m (i+1) _ ⟨_,Bq t'.ZK ⟨a6,x.Zo,x.Zk⟩ (t'.Zw.length:Int)⟩ (l0++ [ka x]) I I ⟨?_,?_⟩ (fun j s hs=>(le j s hs).app) (by show (t'.Zw++_).length=_;omega) (Row.snoc (s:=⟨a6,x.Zo,x.Zk,a.ZJ+1⟩) hnew (by show 0<a.ZJ+1;omega) (h3.mono fun j s hs=>hs.app)) (by rw [h4,e4,Yg,Xc];rfl)
  ·intro j s hs;by_cases e:j.toNat<t'.Zw.length
   ·have hs':Has t' j s:=⟨hs.1,by have:=hs.2;rwa [XS e] at this⟩;obtain ⟨b1,b2,b3⟩:=ti.sh _ _ hs';exact ⟨b1,b2,fun h=>let ⟨c1,u,c2,c3⟩:=b3 h;⟨c1,u,c2.app,c3⟩⟩
   have hlt:=hs.lt
   have e3:j=(t'.Zw.length:Int):=by
    have:(j.toNat:Int)<(t'.Zw++ [(⟨a6,x.Zo,x.Zk,a.ZJ+1⟩:W2)]).length:=by have:=hlt.2;simp only at this;omega
    have:=hlt.1;omega
   subst e3;have:=hs.one hnew;subst this;exact ⟨by show 0<=a.ZJ+1;omega,by show a.ZJ+1<=1024;omega,fun _=>⟨hox,a,h3a.app,by show a.ZJ=a.ZJ+1 - 1;omega⟩⟩
  intro k j hk;change lk (Bq t'.ZK ⟨a6,x.Zo,x.Zk⟩ (t'.Zw.length:Int)) k=some j at hk;rw [Pp] at hk;split at hk
  ·rename_i e
   cases hk;subst e;exact ⟨a,_,h3a.app,hnew,J,J,J,J⟩
  obtain ⟨c,d,c1,c2,c3⟩:=ti.nx k j hk;exact ⟨c,d,c1.app,c2.app,c3⟩
theorem Tt (N:Nat)(hN:5000<=N)(ti:TI N t)(at_:Int)(l:List W2)(hl:∀x∈l,Tg N (ka x))(l0:List (WX×Int))(hT:l0.length+l.length<=1024)(hb:t.Zw.length+l.length<=1073741824)(h:Row t at_ l0):Sat (gi N t at_ l) (Kr N t (l0++l.map ka) l.length):=by
 unfold gi;refine av (by constructor<;>omega) (aC (fun h7=>by omega) fun h7=> ?_);exact Mo N t l hl _ (by rw [Za,Zc];exact hT) hb N 0 at_ t l0 I I ti (Le.refl t) J h J
theorem JN (N:Nat)(hN:5000<=N)(ti:TI N t)(n:Nat): ∀(m:Nat) (at_:Int) (l:List W2) (l0:List (WX×Int)),l.length<m->l.length<=n->l0.length+l.length<=1024->t.Zw.length+n<=1073741824->(∀x∈l,Tg N (ka x))->Row t at_ l0->Sat (lR N t m at_ l) (Kr N t (l0++l.map ka) n)
 |0,_,_,_,h,_,_,_,_,_=>by omega
 | m +1,at_,l,l0,h,hn,h0,hb,hl,ha=>by
  rw [lR.eq_2]
  have h5:Sat (gi N t at_ l) (Kr N t (l0++l.map ka) n):=(Tt N hN ti at_ l hl l0 h0 I ha).mono fun r hr=>⟨hr.1,⟨hr.2.1.ti,hr.2.1.le,by have:=hr.2.1.num;omega⟩,hr.2.2⟩
  refine aC (fun h7=> ?_) fun h7=>h5
  cases l with
  |nil=>rw [Yc] at h7;omega
  | cons x l=>
   rw [show aq (x::l) 0=some x from rfl,bs,bs]
   cases e:lk t.ZK (⟨at_,x.Zo,x.Zk⟩:WN) with
   |none=>exact h5
   | some j=>
    show Sat (aI _ _) _;refine av ⟨by decide,by show 1<=l.length+1;omega,YM _⟩ ?_;obtain ⟨c,d,c1,c2,c3,c4,c5,c6⟩:=ti.nx _ _ e
    have e5:(((x::l).drop ((1:Int).toNat)).take ((x::l).length - (1:Int).toNat))=l:=by
     show (l.take (l.length+1 - 1))=l;exact YC I
    rw [e5]
    have hd:0<d.ZJ:=by have:=(ti.sh _ _ c1).1;omega
    have hr:Row t j (l0++ [ka x]):=by
     have:=Row.snoc c2 hd (by rw [c4];exact ha)
     rwa [show ka d=ka x by unfold ka;rw [c5,c6]] at this
    rw [X9] at h hn h0;have:=JN N hN ti n m j l (l0++ [ka x]) I I (by rw [Za,Ye];omega) hb (fun z hz=>hl z (Yk _ hz)) hr
    rwa [Xc] at this
theorem Ld (N:Nat)(hN:5000<=N)(ti:TI N t)(at_:Int)(l:List W2)(hl:∀x∈l,Tg N (ka x))(l0:List (WX×Int))(hT:l0.length+l.length<=1024)(hb:t.Zw.length+1024<=1073741824)(ha:Row t at_ l0):Sat (kh N t at_ l) (Kr N t (l0++l.map ka) 1024):=
 JN N hN ti 1024 N at_ l l0 I I hT hb hl ha
theorem Gx (N:Nat)(hN:5000<=N)(h:Has t i s)(k:WX)(a:Int):Sat (fE N t i k a) fun r=>(r=0/\keyR N k/\Aa a)\/(r≠0/\ ¬(keyR N k/\Aa a)):=by
 unfold fE;rw [h.has N,bs,nt,cf];obtain ⟨b,h1, -⟩:=Dl N hN k;obtain ⟨c,h2,h3⟩:=OO N a;rw [h1,bs,h2]
 cases b with
 |false=>exact ad (.inr ⟨by decide,fun h=>by have:=h.1;unfold keyR at this;rw [h1] at this;cases this⟩)
 |true=>
  cases c with
  |false=>exact ad (.inr ⟨by decide,fun h=>by have:=Rc N h.2;rw [h2] at this;cases this⟩)
  |true=>exact ad (.inl ⟨rfl,h1,h3 rfl⟩)
theorem Q8 (N:Nat)(hN:5000<=N)(ti:TI N t)(hb:t.Zw.length+1024<=1073741824)(h:Row t i l)(k:WX)(a:Int)(hk:∀x∈l,x.1≠k)(hl:l.length<1024):Sat (jq N t i k a) fun r=>(keyR N k/\Aa a/\Kr N t (l++ [(k,a)]) 1024 r)\/(¬(keyR N k/\Aa a)/\r.2.1≠0/\r.2.2=t):=by
 obtain ⟨s,s1,s2⟩:=h.has ti;unfold jq
 refine (Gx N hN s1 k a).bind fun y hy=> ?_
 rcases hy with ⟨rfl,h1,h2⟩|⟨h1,h2⟩
 ·show Sat (Option.bind _ _) _
  refine (EI N hN ti h k).bind fun z hz=> ?_
  rcases hz with ⟨rfl, -⟩|⟨n,z1,z2,z3⟩
  ·show Sat (Option.bind _ _) _;rw [Lc N s1,bs]
   refine aC (fun _=>by omega) fun _=> ?_
   refine (Ld N hN ti i [(⟨0,k,a,0⟩:W2)] (fun x hx=>by rw [Ys] at hx;subst hx;exact ⟨h1,h2⟩) l (by rw [Ye];omega) hb h).bind fun r hr=>ad (.inl ⟨h1,h2,hr⟩)
  exact absurd J (hk _ (Yo z3))
 rw [Xa h1,nf,ct];exact ad (.inr ⟨h2,h1,J⟩)
theorem Ol (N:Nat)(hN:5000<=N)(ti:TI N t)(hb:t.Zw.length+1024<=1073741824)(h:Row t i l)(hd:(l.map (·.1)).Nodup)(k:WX)(a:Int)(n:Nat)(a0:Int)(hn:l[n]? =some (k,a0)):Sat (gN N t i k a) fun r=>(Aa a/\Kr N t (l.set n (k,a)) 1024 r)\/(¬Aa a/\r.2.1≠0/\r.2.2=t):=by
 obtain ⟨s,s1,s2⟩:=h.has ti;have hle:=h.le ti;have hlt:=(XZ.1 hn).1;unfold gN
 refine (Gx N hN s1 k a).bind fun y hy=> ?_
 rcases hy with ⟨rfl,h1,h2⟩|⟨h1,h2⟩
 ·show Sat (Option.bind _ _) _
  refine (EI N hN ti h k).bind fun z hz=> ?_
  rcases hz with ⟨rfl,z1⟩|⟨n',z1,z2,z3⟩
  ·exact absurd J (z1 _ (Yo hn))
  have:n'=n:=by
   have g1:(l.map (·.1))[n']? =some k:=by rw [X0,z3];rfl
   have g2:(l.map (·.1))[n]? =some k:=by rw [X0,hn];rfl
   exact (List.getElem?_inj (by rw [Zc];exact (XZ.1 z3).1) hd).1 (g1.trans g2.symm)
  subst this;rw [z2];show Sat (Option.bind _ _) _
  refine (Ip N hN ti h).bind fun r hr=> ?_
  have e:r.length=l.length:=by rw [<-hr,Zc]
  rw [z1,Xy];refine av ⟨by omega,by omega⟩ ?_
  refine qe I (by rw [Ya];omega) fun x hx=> ?_
  refine (H1 N hN ti h n' I).bind fun b hbf=> ?_
  have a6:ka x=(k,z.2.1):=by
   rw [show (0:Int).toNat=0 from rfl,XW,Nat.add_zero] at hx
   have:(r.map ka)[n']? =some (ka x):=by rw [X0,hx];rfl
   rw [hr,z3] at this;exact (YX this).symm
  have hxk:x.Zo=k:=congrArg Prod.fst a6
  have hm: ∀q∈List.set (List.drop n' r) ((0:Int).toNat) (⟨x.Up,(⟨x.Zo.Zh,x.Zo.N,x.Zo.S⟩:WX),a,x.ZJ⟩:W2),Tg N (ka q):=fun q hq=>by
   rcases Yq hq with hq|rfl
   ·exact h.ok ti _ (by rw [<-hr];exact List.mem_map_of_mem (List.mem_of_mem_drop hq))
   exact ⟨by show keyR N x.Zo;rw [hxk];exact h1,h2⟩
  have e6:(List.set (List.drop n' r) ((0:Int).toNat) (⟨x.Up,(⟨x.Zo.Zh,x.Zo.N,x.Zo.S⟩:WX),a,x.ZJ⟩:W2)).map ka=(l.drop n').set 0 (k,a):=by
   rw [show (0:Int).toNat=0 from rfl,List.map_set,List.map_drop,hr];show (l.drop n').set 0 (x.Zo,a)=_;rw [hxk]
  refine (Ld N hN ti b _ hm (l.take n') (by rw [Yd,Ya,Zb];omega) hb hbf).bind fun q hq=>ad (.inl ⟨h2,?_⟩)
  rw [e6] at hq
  have e7:l.take n'++(l.drop n').set 0 (k,a)=l.set n' (k,a):=by
   rw [XF hlt,List.set_cons_zero,List.set_eq_take_append_cons_drop,if_pos hlt]
  rw [e7] at hq;exact hq
 rw [Xa h1,nf,ct];exact ad (.inr ⟨fun h3=>h2 ⟨(h.ok ti _ (Yo hn)).1,h3⟩,h1,J⟩)
theorem Kw (N:Nat)(hN:5000<=N)(ti:TI N t)(hb:t.Zw.length+1024<=1073741824)(h:Row t i l)(hd:(l.map (·.1)).Nodup)(k:WX)(n:Nat)(a0:Int)(hn:l[n]? =some (k,a0)):Sat (ee N t i k) (Kr N t (l.eraseIdx n) 1024):=by
 obtain ⟨s,s1,s2⟩:=h.has ti;have hle:=h.le ti;have hlt:=(XZ.1 hn).1;unfold ee
 refine (Gx N hN s1 k 0).bind fun y hy=> ?_
 rcases hy with ⟨rfl,h1,h2⟩|⟨h1,h2⟩
 ·show Sat (Option.bind _ _) _
  refine (EI N hN ti h k).bind fun z hz=> ?_
  rcases hz with ⟨rfl,z1⟩|⟨n',z1,z2,z3⟩
  ·exact absurd J (z1 _ (Yo hn))
  have:n'=n:=by
   have g1:(l.map (·.1))[n']? =some k:=by rw [X0,z3];rfl
   have g2:(l.map (·.1))[n]? =some k:=by rw [X0,hn];rfl
   exact (List.getElem?_inj (by rw [Zc];exact (XZ.1 z3).1) hd).1 (g1.trans g2.symm)
  subst this;rw [z2,z1];show Sat (Option.bind _ _) _
  refine (H1 N hN ti h n' I).bind fun b hbf=> ?_
  refine (Ip N hN ti h).bind fun r hr=> ?_
  have e:r.length=l.length:=by rw [<-hr,Zc]
  have e8:((n':Int)+1).toNat=n'+1:=by omega
  refine av (by constructor<;>omega) (av ⟨by omega,by omega,YM _⟩ ?_);rw [e8];have e6:((r.drop (n'+1)).take (r.length - (n'+1)))=r.drop (n'+1):=YC (by rw [Ya];omega);rw [e6]
  refine (Ld N hN ti b _ (fun q hq=>h.ok ti _ (by rw [<-hr];exact List.mem_map_of_mem (List.mem_of_mem_drop hq))) (l.take n') (by rw [Ya,Zb];omega) hb hbf).bind fun q hq=>ad ?_
  rw [List.map_drop,hr, <-List.eraseIdx_eq_take_drop_succ] at hq;exact hq
 exact absurd ⟨(h.ok ti _ (Yo hn)).1,by decide,by decide,by decide⟩ h2
theorem pB {b:Int}(h0:0<=a)(h1:a<=b)(h2:b<=100000):IntKind.i64.wrap ((IntKind.u64.wrap (a+b)).fdiv (2 ^ 1))=(a+b) / 2:=by
 rw [IntWalk.u64_in _ ⟨by omega,by omega⟩,Int.fdiv_eq_ediv_of_nonneg _ I,show (2:Int) ^ 1=2 from rfl,IntWalk.i64_in _ ⟨by omega,by omega⟩]
section
variable (N:Nat)(hN:20000<=N)(n:Nat)(hn:n<=6000)
include hN hn
section
variable (a q b:Int)(h0:0<=a)(h1:a<q)(h2:q<b)(h3:b<=n)
include h0 h1 h2 h3
end
end
end
section
open Go.RowKit
def LN (c:W3):Nat:=1+c.Zj.length
def ws (l:List W3):Nat:=cK LN l
theorem G5 (l:List W3):wt l=ws l+mS l:=by
 rw [H9];unfold ws mS;rw [<-Bu];rfl
theorem ub (g:α->Nat): ∀{l:List α} {x:α},x∈l->g x<=cK g l
 |a::l,x,h=>by
  rw [cK];rcases Yj.1 h with rfl|h
  ·omega
  have:=ub g h;omega
theorem Kv: ∀l:List W3,l.length<=ws l
 | []=>YT _
 |c::l=>by
  have:=Kv l;show l.length+1<=LN c+ws l;unfold LN;omega
theorem CZ (g:α->Nat)(x:α): ∀(l:List α) (i:Nat) (h:i<l.length),cK g (l.set i x)+g l[i]=cK g l+g x
 |a::l,0,_=>by simp only [List.set_cons_zero,cK,List.getElem_cons_zero];omega
 |a::l,i+1,h=>by
  have:=CZ g x l i (by simpa using h);simp only [List.set_cons_succ,cK,List.getElem_cons_succ];omega
theorem Jo (g:W3->Nat)(ha:aZ m a=true)(c:W3):cK g (yc m a c).Zp+cK g (yc m a c).Zr+g (cp m a)=cK g m.Zp+cK g m.Zr+g c:=by
 unfold yc;rcases jh ha with ⟨i,hi,rfl⟩|⟨i,hi,rfl⟩
 ·rw [W9 I,cond_true,show (2*(i:Int)+1) / 2=i by omega,zc m i hi];have:=CZ g c m.Zp i hi;show cK g (m.Zp.set i c)+cK g m.Zr+_=_;omega
 rw [Xa I,cond_false,show (2*(i:Int)+2) / 2 - 1=i by omega,xz m i hi];have:=CZ g c m.Zr i hi;show cK g m.Zp+cK g (m.Zr.set i c)+_=_;omega
structure Hb (k M:Nat) (g:W4):Prop where
 hw:ws g.m_.Zp+ws g.m_.Zr<=k
 hm:mS g.m_.Zp+mS g.m_.Zr<=M
 hr:g.ZA.length<=30
theorem Hb.up (h:Hb k M g)(hk:k<=k')(hM:M<=M'):Hb k' M' g:=⟨YN h.hw hk,YN h.hm hM,h.hr⟩
theorem Hb.cell (h:Hb k M g)(hc:c∈g.m_.Zp++g.m_.Zr):1+c.Zj.length<=k/\c.Zi.length<=M:=by
 have h1:=h.hw;have h2:=h.hm;unfold ws at h1;unfold mS at h2;rcases Yi.1 hc with hc|hc
 ·have a:=ub LN hc;have b:=ub (fun c:W3=>c.Zi.length) hc;unfold LN at a h1;exact ⟨by omega,by omega⟩
 have a:=ub LN hc;have b:=ub (fun c:W3=>c.Zi.length) hc;unfold LN at a h1;exact ⟨by omega,by omega⟩
theorem Rs (hk:k<=580)(hM:M<=2200)(s:Hb k M g)(hp:g.ZC=[])(w64:W64 g.m_)(r64:∀v∈g.ZA,in64 v.N)(n1:(g.ZD.at_.map Prod.fst).Nodup)(n2:∀x∈g.ZD.at_.map Prod.fst, ∃i:Nat,i<g.m_.Zr.length/\x=2*(i:Int)+2):HB g:=by
 have h1:=s.hw;have h2:=s.hm;have h3:=s.hr;have h4:=Kv g.m_.Zp;have h5:=Kv g.m_.Zr;have h6:=G5 g.m_.Zp;have h7:=G5 g.m_.Zr
 have hl:(g.ZA++g.ZC).length=g.ZA.length:=by rw [hp,XB]
 exact ⟨⟨by omega,by omega,by omega,fun c hc=>by have:=s.cell hc;omega⟩,⟨by omega,by omega⟩,by rw [IC];omega,by omega,w64,by rw [hp,XB];exact r64,n1,n2⟩
def Oz (m:WY)(c:W3):Prop:= ∀v∈c.Zj++c.Zi,in64 v.N/\(bO v=true->aZ m v.N=true)
theorem Pl.refs (h:Pl g)(hc:c∈g.m_.Zp++g.m_.Zr):Oz g.m_ c:=fun v hv=>⟨h.hb.w64 c hc v hv,fun hb=>(h.cells c hc).2.1 _ (MZ hv hb)⟩
theorem Mf (s:Hb k M g)(ha:aZ g.m_ a=true)(h1:k+c.Zj.length<=k'+(cp g.m_ a).Zj.length)(h2:M+c.Zi.length<=M'+(cp g.m_ a).Zi.length):Hb k' M' (ir g a c):=by
 obtain ⟨f1,f2, -, -⟩:=yD g a c;have e1:=Jo LN ha (BS c (cp g.m_ a).Zn);have e2:=Jo (fun c:W3=>c.Zi.length) ha (BS c (cp g.m_ a).Zn);have s1:=s.hw;have s2:=s.hm;unfold ws at s1;unfold mS at s2;refine ⟨?_,?_,by rw [f2];exact s.hr⟩
 ·rw [f1];unfold ws;have:LN (BS c (cp g.m_ a).Zn)=1+c.Zj.length:=rfl;have:LN (cp g.m_ a)=1+(cp g.m_ a).Zj.length:=rfl;omega
 rw [f1];unfold mS;have:(BS c (cp g.m_ a).Zn).Zi.length=c.Zi.length:=rfl;omega
theorem Pl.putK (hk:k<=580)(hM:M<=2200)(h:Pl g)(ha:aZ g.m_ a=true)(hr:bQ c=true)(hkd:c.Zh≠8/\c.Zh≠10)(hc:Oz g.m_ c)(b:Hb k M (ir g a c)):
  Pl (ir g a c)/\(∀x,aZ (ir g a c).m_ x=aZ g.m_ x)/\(∀x,aZ g.m_ x=true->cp (ir g a c).m_ x=if x=a then BS c (cp g.m_ a).Zn else cp g.m_ x):=by
 obtain ⟨f1,f2,f3,f4⟩:=yD g a c;obtain ⟨s1,s2,s3,s4,s5, -⟩:=Qf (BS c (cp g.m_ a).Zn) ha;have hage:=Nx (h.cells _ (pn ha)).1;have hr':bQ (BS c (cp g.m_ a).Zn)=true:=KT hr hage.1 hage.2
 have hhas: ∀x,aZ (ir g a c).m_ x=aZ g.m_ x:=fun x=>by rw [f1];exact s1 x
 have hmem: ∀d∈(ir g a c).m_.Zp++(ir g a c).m_.Zr,d∈g.m_.Zp++g.m_.Zr\/d=BS c (cp g.m_ a).Zn:=fun d hd=>by rw [f1] at hd;exact s5 d hd
 have nd:((ir g a c).ZD.at_.map Prod.fst).Nodup:=by
  rw [f4];cases decide (a%2=1)
  ·exact Pd h.hb.nd _ _
  exact h.hb.nd
 have keys: ∀x∈(ir g a c).ZD.at_.map Prod.fst, ∃i:Nat,i<(ir g a c).m_.Zr.length/\x=2*(i:Int)+2:=fun x hx=>by
  rw [f1,s4];rw [f4] at hx
  cases hd:decide (a%2=1) with
  |true=>rw [hd] at hx;exact h.hb.keys x hx
  | false=>
   rw [hd] at hx;rcases (Ht h.hb.nd _ _ x).1 hx with ⟨-,hx|rfl⟩|⟨-,hx, -⟩
   ·exact h.hb.keys x hx
   ·rcases jh ha with ⟨j,hj,rfl⟩|⟨j,hj,rfl⟩
    ·rw [W9 I] at hd;cases hd
    exact ⟨j,hj,J⟩
   exact h.hb.keys x hx
 have hp:(ir g a c).ZC=[]:=f3.trans h.pend
 have w64:W64 (ir g a c).m_:=fun d hd=>by
  rcases hmem d hd with hd|rfl
  ·exact h.hb.w64 d hd
  exact fun v hv=>(hc v hv).1
 refine ⟨⟨Rs hk hM b hp w64 (fun v hv=> ?_) nd keys,hp,fun d hd=> ?_,fun x hx=> ?_,ND h.set h.hb.nd ha c nd⟩,hhas,fun x hx=>by rw [f1];exact s2 x hx⟩
 ·rw [f2] at hv;exact h.hb.r64 v (Xd _ hv)
 ·rcases hmem d hd with hd|rfl
  ·exact ⟨(h.cells d hd).1,fun x hx=>(hhas x).trans ((h.cells d hd).2.1 x hx),(h.cells d hd).2.2⟩
  refine ⟨hr',fun x hx=> ?_,hkd⟩;obtain ⟨v,hv,hb,rfl⟩:=DB hx;exact (hhas _).trans ((hc v hv).2 hb)
 rw [f2] at hx;exact (hhas x).trans (h.roots x hx)
def xO (g:W4)(c:W3):W4:=⟨⟨g.m_.Zp++ [c],g.m_.Zr⟩,g.ZA,g.ZC,g.ZD⟩
def om (g:W4):Int:=2*(g.m_.Zp.length:Int)+1
theorem NO (g:W4):aZ g.m_ (om g)=false:=by
 unfold om;rw [Do];exact Xa I
theorem Na (s:Hb k M g)(c:W3)(h1:k+1+c.Zj.length<=k')(h2:M+c.Zi.length<=M'):Hb k' M' (xO g c):=by
 have s1:=s.hw;have s2:=s.hm;refine ⟨?_,?_,s.hr⟩
 ·show ws (g.m_.Zp++ [c])+_<=k';unfold ws at s1⊢;rw [Bt];simp only [cK];have:LN c=1+c.Zj.length:=rfl;show cK LN g.m_.Zp+(LN c+0)+cK LN g.m_.Zr<=k';omega
 show mS (g.m_.Zp++ [c])+_<=M';unfold mS at s2⊢;rw [Bt];simp only [cK];show _+(c.Zi.length+0)+cK _ g.m_.Zr<=M';omega
theorem Pl.addK (hk:k<=580)(hM:M<=2200)(p:Pl g)(hr:bQ c=true)(hkd:c.Zh≠8/\c.Zh≠10)(hc:Oz g.m_ c)(s:Hb k M (xO g c)):
  Pl (xO g c)/\(∀x,aZ g.m_ x=true->aZ (xO g c).m_ x=true/\cp (xO g c).m_ x=cp g.m_ x)/\aZ (xO g c).m_ (om g)=true/\cp (xO g c).m_ (om g)=c:=by
 obtain ⟨a1,a2,a3⟩:=Qh (m:=g.m_) c
 have hmem: ∀d∈(xO g c).m_.Zp++(xO g c).m_.Zr,d∈g.m_.Zp++g.m_.Zr\/d=c:=fun d hd=>by
  have hd:d∈(g.m_.Zp++ [c])++g.m_.Zr:=hd;simp only [Yi,Yj,List.not_mem_nil,or_false] at hd⊢;rcases hd with (hd|hd)|hd
  ·exact .inl (.inl hd)
  ·exact .inr hd
  exact .inl (.inr hd)
 have hset:FW g.ZD.at_=oo ⟨g.m_.Zp++ [c],g.m_.Zr⟩:=by rw [Ps];exact p.set
 have hW:W64 (xO g c).m_:=fun d hd=>by
  rcases hmem d hd with hd|rfl
  ·exact p.hb.w64 d hd
  exact fun v hv=>(hc v hv).1
 refine ⟨⟨Rs hk hM s p.pend hW (fun v hv=>p.hb.r64 v (Xd _ hv)) p.hb.nd p.hb.keys,p.pend,fun d hd=> ?_,fun x hx=>(a1 x (p.roots x hx)).1,hset⟩,a1,a2,a3⟩;rcases hmem d hd with hd|rfl
 ·exact ⟨(p.cells d hd).1,fun x hx=>(a1 _ ((p.cells d hd).2.1 x hx)).1,(p.cells d hd).2.2⟩
 refine ⟨hr,fun x hx=> ?_,hkd⟩;obtain ⟨v,hv,hb,rfl⟩:=DB hx;exact (a1 _ ((hc v hv).2 hb)).1
def v0:WZ:=⟨0,0,⟨#[]⟩⟩
def KA (w:WP)(t:WR):WP:=⟨w.ZI,w.ZB,(),w.Zv,t,w.ZF,w.ZL,w.ZM,w.ZN,w.ZG,w.ZH⟩
theorem SA:ln v0=true:=by kernel_rfl
theorem lS (h:bQ c=true):0<=c.Zq/\(0<=c.Zm/\c.Zm<=63)/\0<=c.Zn/\c.Zn<=1:=by
 unfold bQ at h;simp only [Ze,Bool.not_eq_true',Y5] at h;omega
theorem zt (hk:c.Zh=1\/c.Zh=2)(h0:0<=c.Zq)(hf:0<=c.Zm/\c.Zm<=63)(ha:0<=c.Zn/\c.Zn<=1)(hs:∀x∈c.Zj,ln x=true)(hm:∀x∈c.Zi,ln x=true)(hn:c.Zj.length<=1025){z:WZ}(hz:c.Zj[0]? =some z)(hz1:z.Zh=1\/z.Zh=7)(hml:c.Zi.length<=4096)(hp:c.Zh=1->c.Zi=[]):bQ c=true:=by
 have h1:=(XZ.1 hz).1
 have e0:rY c.Zj 0=z:=by unfold rY;rw [List.getD_eq_getElem?_getD,hz];rfl
 have e1:ot c.Zh c.Zq c.Zm c.Zj=true:=by
  unfold ot Fz;rw [e0,W9 (p:=1<=c.Zj.length) I,W9 hn];rcases hk with h|h<;>rcases hz1 with h2|h2<;>rw [h,h2]<;>rfl
 have e2:sn c.Zh c.Zi=true:=by
  unfold sn;rcases hk with h|h
  ·rw [hp h,h];rfl
  rw [h,W9 (p:=(2:Int)=2) rfl,cond_true];exact W9 hml
 unfold bQ;rw [e1,e2,XA.2 hs,XA.2 hm,Xa (p:=c.Zh<1) I,Xa (p:=11<c.Zh) I,Xa (p:=c.Zq<0) I,Xa (p:=c.Zm<0) I,Xa (p:=63<c.Zm) I,Xa (p:=c.Zn<0) I,Xa (p:=1<c.Zn) I];rfl
structure ValW (m:WY) (x:WZ):Prop where
 may:ln x=true
 i64:in64 x.N
 ref:bO x=true->aZ m x.N=true
theorem QD (m:WY):ValW m v0:=⟨SA,by decide,fun h=>by cases h⟩
def si (g s:WZ):W3:=⟨5,0,0,0,[g,s],[]⟩
def Mw (x:WZ):Prop:=x.Zh=0\/x.Zh=7
theorem KV {g s:WZ}(hg:ValW m g)(hs:ValW m s)(kg:Mw g)(ks:Mw s):bQ (si g s)=true:=by
 have e1:noneB g 7=true:=by unfold noneB;rcases kg with h|h<;>rw [h]<;>rfl
 have e2:noneB s 7=true:=by unfold noneB;rcases ks with h|h<;>rw [h]<;>rfl
 have e3:ot 5 0 0 [g,s]=true:=by
  unfold ot;show (decide ([g,s].length=2)&&noneB g 7&&noneB s 7)=true;rw [e1,e2];rfl
 unfold bQ si;simp only [List.all_cons,List.all_nil];rw [hg.may,hs.may,e3];rfl
def Gy (m:WY)(x g s:WZ):Prop:= ∃(a ag:Int),x=⟨9,a,⟨#[]⟩⟩/\aZ m a=true/\cp m a=⟨5,0,0,ag,[g,s],[]⟩
def SlotP (m:WY)(p:WS)(x:WZ):Prop:=
 (ai .i64 p.Zk 8=0/\p.Value=x/\p.Zx=v0/\p.Zy=v0/\x.Zh≠9)\/
 (ai .i64 p.Zk 8≠0/\p.Value=v0/\Gy m x p.Zx p.Zy)
structure Wd (N k q M:Nat) (w:WP):Prop where
 pl:Pl w.Zv
 hb:Hb k M w.Zv
 ti:TI N w.Zw
 tb:w.Zw.Zw.length<=q
theorem Wd.up {N:Nat}{w:WP}(h:Wd N k q M w)(h1:k<=k')(h2:q<=q')(h3:M<=M'):Wd N k' q' M' w:=⟨h.pl,h.hb.up h1 h3,h.ti,YN h.tb h2⟩
theorem Wd.sz {N:Nat}{w:WP}(h:Wd N k q M w)(hk:k<=580)(hM:M<=2200): ∀c∈w.Zv.m_.Zp++w.Zv.m_.Zr,c.Zj.length<=600/\c.Zi.length<=2900:=fun c hc=>by have:=h.hb.cell hc;omega
theorem Pl.valW (h:Pl g)(ha:aZ g.m_ a=true)(hx:x∈(cp g.m_ a).Zj++(cp g.m_ a).Zi):ValW g.m_ x:=by
 have hc:=pn ha;have h1:=h.refs hc x hx;have h2:=uQ (h.cells _ hc).1;refine ⟨?_,h1.1,h1.2⟩;rcases Yi.1 hx with hx|hx
 ·exact XA.1 h2.1 x hx
 exact XA.1 h2.2.1 x hx
theorem OE {N:Nat}{w:WP}(h:Wd N k q M w)(hk:k<=580)(hM:M<=2200)(hx:bO x=true)(hi:in64 x.N)(ha:aZ w.Zv.m_ x.N=true):bR N w x=some (cp w.Zv.m_ x.N):=Om (h.sz hk hM) hx hi ha
def JQ (p:WS):WX×Int:=(p.Zo,p.Zk)
structure ObjC (t:WR) (c:W3) (l:List (WX×Int)):Prop where
 kind:c.Zh=1\/c.Zh=2
 proto: ∃z,c.Zj[0]? =some z/\(z.Zh=1\/z.Zh=7)
 plain:c.Zh=1->c.Zi=[]
 row:Row t c.Zq l
 num:c.Zj.length=l.length+1
 nd:(l.map (·.1)).Nodup
 noP:ai .i64 c.Zm 16=0
structure Obj (N:Nat) (i:Int) (k q:Nat) (w:WP) (c:W3) (PL:List WS):Prop where
 wd:Wd N k q c.Zi.length w
 has:aZ w.Zv.m_ i=true
 at_:cp w.Zv.m_ i=c
 oc:ObjC w.Zw c (PL.map JQ)
 each: ∀(n:Nat) p,PL[n]? =some p-> ∃x,c.Zj[n+1]? =some x/\SlotP w.Zv.m_ p x
 inj: ∀(n m:Nat) x y,n≠m->c.Zj[n+1]? =some x->c.Zj[m+1]? =some y->x.Zh=9->y.Zh=9->x.N≠y.N
theorem Obj.up {N:Nat}{w:WP}(h:Obj N i k q w c PL)(h1:k<=k')(h2:q<=q'):Obj N i k' q' w c PL:=⟨h.wd.up h1 h2 (YM _),h.has,h.at_,h.oc,h.each,h.inj⟩
theorem Obj.len {N:Nat}{w:WP}(h:Obj N i k q w c PL):PL.length<=1024:=by
 have:=h.oc.row.le h.wd.ti
 rwa [Zc] at this
theorem Obj.num {N:Nat}{w:WP}(h:Obj N i k q w c PL):c.Zj.length=PL.length+1:=by
 have:=h.oc.num
 rwa [Zc] at this
theorem Obj.right {N:Nat}{w:WP}(h:Obj N i k q w c PL):bQ c=true:=by
 have:=(h.wd.pl.cells _ (pn h.has)).1
 rwa [h.at_] at this
theorem Obj.val {N:Nat}{w:WP}(h:Obj N i k q w c PL)(hx:x∈c.Zj++c.Zi):ValW w.Zv.m_ x:=h.wd.pl.valW h.has (by rw [h.at_];exact hx)
theorem Obj.nodup {N:Nat}{w:WP}(h:Obj N i k q w c PL):(PL.map (·.Zo)).Nodup:=by
 have:=h.oc.nd;rw [List.map_map] at this;exact this
def mW (p:WS):WS:=bif decide (ai .i64 p.Zk 8=0) then ⟨p.Zo,p.Zk,p.Value,v0,v0⟩ else ⟨p.Zo,p.Zk,v0,p.Zx,p.Zy⟩
def zeroP:WS:=⟨⟨0,0,⟨#[]⟩⟩,0,v0,v0,v0⟩
def nh (PL:List WS)(key:WX):WS×Bool:=match PL.find? (fun p=>decide (p.Zo=key)) with
 |some p=>(p,true)
 |none=>(zeroP,false)
theorem BW (h:∀p∈PL,p.Zo≠key):nh PL key=(zeroP,false):=by
 unfold nh;rw [List.find?_eq_none.2 fun p hp=>by simp [h p hp]]
theorem rS (hn:(PL.map (·.Zo)).Nodup)(hp:PL[n]? =some p):nh PL p.Zo=(p,true):=by
 have hm:=Yo hp
 cases e:PL.find? (fun x=>decide (x.Zo=p.Zo)) with
 |none=>exact absurd (List.find?_eq_none.1 e p hm) (by simp)
 |some x=>
  have h1:x.Zo=p.Zo:=by simpa using List.find?_some e
  have h2:=List.mem_of_find?_eq_some e;obtain ⟨m,hmm⟩:=List.getElem?_of_mem h2;have h3:=XZ.1 hmm;have h4:=XZ.1 hp;have:m=n:=(List.getElem_inj (h₀:=by rw [Zc];exact h3.1) (h₁:=by rw [Zc];exact h4.1) hn).1 (by rw [X7,X7,h3.2,h4.2,h1]);subst this;have:x=p:=YX (hmm.symm.trans hp);subst this;unfold nh;rw [e]
section
variable {N:Nat}(hv:v.Zh=7)(hvN:v.N=i)(hk:k<=580){w:WP}(hM:c.Zi.length<=2200)(h:Obj N i k q w c PL)
include hv hvN hk hM h
theorem Sz:bR N w v=some c:=by
 have hi:=xa (h.wd.pl.hb.small) h.has;rw [OE h.wd hk hM (x:=v) (by unfold bO;rw [hv];rfl) (by rw [hvN];exact hi) (by rw [hvN];exact h.has),hvN,h.at_]
theorem Hr:gF N w v=some (.inr ⟨c,w,v⟩):=by
 obtain ⟨z,z1,z2⟩:=h.oc.proto;have hl:=(XZ.1 z1).1
 have hg:aq c.Zj 0=some z:=by unfold aq;exact z1
 unfold gF;rw [W9 hv,nt,cf,Sz hv hvN hk hM h,bs,Xa (show¬(c.Zj.length:Int)=0 by omega),cf,hg,bs,bs];rcases z2 with z2|z2<;>rw [z2]<;>rfl
theorem SK:ca N w v=some (c,decide (c.Zh=2)):=by
 unfold ca;rw [W9 hv,nt,cf,Sz hv hvN hk hM h,bs]
omit hv hvN in
theorem LS (hn:PL[n]? =some p):fH N ⟨c,w,v⟩ (n:Int) p.Zo p.Zk=some p:=by
 have hlt:=(XZ.1 hn).1;have hnum:=h.num;have hl:=h.len;obtain ⟨x,hx,hs⟩:=h.each n p hn
 have hg:aq c.Zj ((n:Int)+1)=some x:=by
  unfold aq;rw [if_neg I,show ((n:Int)+1).toNat=n+1 by omega];exact hx
 unfold fH;rw [r64 I I];show (bif decide ((c.Zj.length:Int)<=(n:Int)+1) then _ else _)=_;rw [Xa I,cf,r64 I I];show Option.bind (aq c.Zj ((n:Int)+1)) _=_;rw [hg,bs];rcases hs with ⟨s1,s2,s3,s4, -⟩|⟨s1,s2,a,ag,s3,s4,s5⟩
 ·rw [W9 s1,ct];refine congrArg some ?_;rw [<-s2,show (⟨0,0,⟨#[]⟩⟩:WZ)=p.Zx from s3.symm];have:p.Zx=p.Zy:=s3.trans s4.symm
  conv=>lhs;arg 5;rw [this]
 have hi:=xa (h.wd.pl.hb.small) s4;subst s3;rw [Xa s1,cf];show Option.bind (bR N w _) _=_;rw [OE h.wd hk hM (x:=⟨9,a,⟨#[]⟩⟩) rfl hi s4,bs,s5];show some (⟨p.Zo,p.Zk,v0,p.Zx,p.Zy⟩:WS)=some p;rw [<-s2]
end
end
section
open Go.RowKit
set_option maxRecDepth 20000
section
variable {N:Nat}(hN:20000<=N)(hv:v.Zh=7)(hvN:v.N=i)(hk:k<=580){w:WP}(hM:c.Zi.length<=2200)(h:Obj N i k q w c PL)
include hN hk hM h
def UV (PL:List WS)(key:WX)(r:WS×Int×Bool):Prop:=(r=(zeroP,0,false)/\ ∀p∈PL,p.Zo≠key)\/ ∃(n:Nat) (p:WS),r=(p,(n:Int),true)/\PL[n]? =some p/\p.Zo=key
theorem Ie (key:WX):Sat (ci N ⟨c,w,v⟩ key) (UV PL key):=by
 unfold ci cU;rw [bs];have hle:=h.len
 refine (EI N I h.wd.ti h.oc.row key).bind fun z hz=> ?_
 rcases hz with ⟨rfl,hz⟩|⟨n,z1,z2,z3⟩
 ·show Sat (some ((zeroP,0,false):WS×Int×Bool)) _;refine ad ?_;left;refine ⟨J,fun p hp e=> ?_⟩;exact hz (JQ p) (List.mem_map_of_mem hp) e
 rw [X0] at z3;obtain ⟨p,hp,e⟩:=Option.map_eq_some_iff.1 z3;have e1:p.Zo=key:=congrArg Prod.fst e;have e2:p.Zk=z.2.1:=congrArg Prod.snd e
 have e3:fH N ⟨c,w,v⟩ z.1 key z.2.1=some p:=by rw [z1, <-e2, <-e1];exact LS hk hM h hp
 rw [z2];show Sat (Option.bind _ _) _
 refine Sat.bind (P:=(· =p)) ⟨p,e3,J⟩ fun y hy=> ?_
 subst hy;refine ad ?_;right;exact ⟨n,y,by rw [z1],hp,e1⟩
include hv hvN
theorem Pa (key:WX):qv N w v key=some (nh PL key):=by
 unfold qv;rw [Hr hv hvN hk hM h,bs];show Option.bind (ci N ⟨c,w,v⟩ key) _=_;obtain ⟨r,e,hr⟩:=Ie (v:=v) hN hk hM h key;rw [e,bs];rcases hr with ⟨rfl,hr⟩|⟨n,p,rfl,hp,rfl⟩
 ·rw [BW hr]
 rw [rS h.nodup hp]
omit hv hvN in
theorem Mg: ∀(m j:Nat),PL.length<m+j->j<=PL.length->nT N ((PL.map JQ).map (·.1)) ((PL.map JQ).map (·.2)) ⟨c,w,v⟩ w m (PL.take j) (j:Int)=some PL
 |0,j,h1,h2=>by have _:=hN;omega
 | m+1,j,h1,h2=>by
  have hle:=h.len;rw [nT.eq_2];rcases YP j PL.length with hj|hj
  ·have e0:PL[j]? =some PL[j]:=XX hj
   have e1:aq ((PL.map JQ).map (·.1)) (j:Int)=some PL[j].Zo:=by rw [aM (by rw [Zc,Zc];exact hj),X7,X7];rfl
   have e2:aq ((PL.map JQ).map (·.2)) (j:Int)=some PL[j].Zk:=by rw [aM (by rw [Zc,Zc];exact hj),X7,X7];rfl
   rw [Zc,Zc,fJ I,ct,e1,bs,e2,bs,LS (v:=v) hk hM h e0,bs,cj (by rw [Zb,Ye];omega),r64 I I]
   have e3:PL.take j++([PL[j]]:List WS)=PL.take (j+1):=by rw [List.take_add_one,e0];rfl
   rw [e3];exact Mg m (j+1) I hj
  rw [Zc,Zc,fz I,cf,YC I];rfl
theorem BY:js N w v=some PL:=by
 unfold js;have hle:=h.len;rw [Hr hv hvN hk hM h,bs];show Option.bind (fF N w.Zw c.Zq) _=_;rw [Qd N I h.wd.ti h.oc.row,bs];show Option.bind (gj N w.Zw c.Zq) _=_;rw [Rm N I h.wd.ti h.oc.row,bs];exact Mg hN hk hM h N 0 I I
end
structure PropW (m:WY) (p:WS):Prop where
 v:ValW m p.Value/\p.Value.Zh≠9
 g:ValW m p.Zx/\Mw p.Zx
 s:ValW m p.Zy/\Mw p.Zy
structure FrW (w w':WP):Prop where
 roots:w'.Zv.ZA=w.Zv.ZA
 has: ∀a,aZ w.Zv.m_ a=true->aZ w'.Zv.m_ a=true
 spent:w'.ZI=w.ZI
 config:w'.ZB=w.ZB
 epoch:w'.ZL=w.ZL
theorem FrW.refl (w:WP):FrW w w:=⟨rfl,fun _ h=>h,rfl,rfl,rfl⟩
theorem FrW.trans {a b c:WP}(h:FrW a b)(h':FrW b c):FrW a c:=⟨h'.roots.trans h.roots,fun x hx=>h'.has x (h.has x hx),h'.spent.trans h.spent,h'.config.trans h.config,h'.epoch.trans h.epoch⟩
theorem ValW.mono {m':WY}(hm:∀a,aZ m a=true->aZ m' a=true)(h:ValW m x):ValW m' x:=⟨h.may,h.i64,fun hb=>hm _ (h.ref hb)⟩
structure Slotted (N k q M:Nat) (w:WP) (p:WS) (old:WZ) (r:WZ×WP):Prop where
 wd:Wd N (k+3) q M r.2
 fr:FrW w r.2
 tab:r.2.Zw=w.Zw
 val:ValW r.2.Zv.m_ r.1
 slot:SlotP r.2.Zv.m_ (mW p) r.1
 fresh:r.1.Zh=9->r.1=old\/aZ w.Zv.m_ r.1.N=false
 rest: ∀a,aZ w.Zv.m_ a=true->(old.Zh=9->old.N≠a)->cp r.2.Zv.m_ a=cp w.Zv.m_ a
theorem UC (h:1<=a):ln ⟨9,a,⟨#[]⟩⟩=true:=by
 unfold ln dN;rw [show ((⟨9,a,⟨#[]⟩⟩:WZ).S.toList==(⟨#[]⟩:ByteArray).toList)=true from beq_self_eq_true _];show (Option.getD (some (decide (1<=a))) false)=true;rw [W9 h];rfl
theorem FK (h:¬ai .i64 p.Zk 8=0):mW p=⟨p.Zo,p.Zk,v0,p.Zx,p.Zy⟩:=by
 unfold mW;rw [Xa h];rfl
theorem De (h:ai .i64 p.Zk 8=0):mW p=⟨p.Zo,p.Zk,p.Value,v0,v0⟩:=by
 unfold mW;rw [W9 h];rfl
theorem Uf {N:Nat}(hN:20000<=N){w:WP}(hp:Pl w.Zv)(hx:bO x=true)(ha:aZ w.Zv.m_ x.N=true)(h1:c.Zj.length<=600/\c.Zi.length<=2900)(hr:bQ c=true):aA N w x c=some (Il w (ir w.Zv x.N c)):=by
 have e:iU N x=some (bO x):=by
  unfold iU bO;cases decide (x.Zh=7)<;>rfl
 unfold aA;rw [e,bs,hx,ct,Vq I hp.hb.small ha h1,hr];rfl
theorem Ug {N:Nat}(hN:20000<=N){w:WP}(hp:Pl w.Zv)(h1:c.Zj.length<=600/\c.Zi.length<=2900)(hr:bQ c=true)(h0:c.Zn=0):cV N w c=some (⟨9,om w.Zv,⟨#[]⟩⟩,Il w (xO w.Zv c)):=by
 have ec:(⟨c.Zh,c.Zq,c.Zm,0,c.Zj,c.Zi⟩:W3)=c:=by rw [<-h0]
 have hl:=hp.hb.small.young
 have e:(((w.Zv.m_.Zp++ [(⟨c.Zh,c.Zq,c.Zm,0,c.Zj,c.Zi⟩:W3)]).length:Nat):Int)=(w.Zv.m_.Zp.length:Int)+1:=by simp
 unfold cV eU aR;rw [bs,cf,yW I I,bs,hr,nt,cf,pS N c I,bs,rF (by simp only [X9,Yc];omega),e,r64 I I,r64 I I,ec,show 2*((w.Zv.m_.Zp.length:Int)+1) - 1=om w.Zv by unfold om;omega,bs];rfl
theorem ON {N:Nat}(hN:20000<=N)(hk:k+3<=580)(hM:M<=2200){w:WP}(h:Wd N k q M w){v':WZ}(hp:PropW w.Zv.m_ p)(hold:old.Zh≠9\/ ∃g s,Gy w.Zv.m_ old g s):Sat (iC N ⟨c',w,v'⟩ p old) (Slotted N k q M w p old):=by
 unfold iC
 refine aC (fun h8=>ad ?_) fun h8=> ?_
 ·refine ⟨h.up I (YM _) (YM _),FrW.refl w,J,hp.v.1,?_,fun e=>absurd e hp.v.2,fun _ _ _=>J⟩;rw [De h8];exact .inl ⟨h8,J,J,J,hp.v.2⟩
 have hr:bQ (si p.Zx p.Zy)=true:=KV hp.g.1 hp.s.1 hp.g.2 hp.s.2
 have hrf:Oz w.Zv.m_ (si p.Zx p.Zy):=fun x hx=>by
  have hx:x=p.Zx\/x=p.Zy:=by simpa [si] using hx
  rcases hx with rfl|rfl
  ·exact ⟨hp.g.1.i64,hp.g.1.ref⟩
  exact ⟨hp.s.1.i64,hp.s.1.ref⟩
 have hide:old.Zh≠9->Sat ((cV N w (⟨5,0,0,0,([p.Zx,p.Zy]:List WZ),[]⟩:W3)).bind fun a6=>some (a6.1,a6.2)) (Slotted N k q M w p old):=fun hne=>by
  have hb:Hb (k+3) M (xO w.Zv (si p.Zx p.Zy)):=Na h.hb _ (by show k+1+2<=k+3;omega) (by show M+0<=M;omega);obtain ⟨p1,p2,p3,p4⟩:=h.pl.addK hk hM hr ⟨by show (5:Int)≠8;decide,by show (5:Int)≠10;decide⟩ hrf hb;have e:=Ug (c:=si p.Zx p.Zy) hN h.pl (by constructor<;>(show _<=_;simp [si])) hr rfl;show Sat (Option.bind (cV N w (si p.Zx p.Zy)) _) _;rw [e,bs];have hi:=xa p1.hb.small p3;refine ad ⟨⟨p1,hb,h.ti,h.tb⟩,⟨J,fun a ha=>(p2 a ha).1,J,J,J⟩,J,⟨?_,hi,fun _=>p3⟩,?_,fun _=> .inr (NO _),fun a ha _=>(p2 a ha).2⟩
  ·show ln ⟨9,om w.Zv,⟨#[]⟩⟩=true
   have:(1:Int)<=om w.Zv:=by unfold om;omega
   exact UC this
  rw [FK h8];exact .inr ⟨h8,J,om w.Zv,0,J,p3,p4⟩
 by_cases h9:old.Zh=9
 ·obtain ⟨g,s,a,ag,rfl,ha,hat⟩: ∃g s,Gy w.Zv.m_ old g s:=hold.resolve_left fun hne=>hne h9
  have hi:=xa h.pl.hb.small ha;rw [W9 h9,ct];show Sat (Option.bind (Option.bind (bR N w ⟨9,a,⟨#[]⟩⟩) _) _) _;rw [OE h I hM (x:=⟨9,a,⟨#[]⟩⟩) rfl hi ha,bs,bs];show Sat (bif decide ((cp w.Zv.m_ a).Zh=5) then _ else _) _;rw [hat,W9 (p:=(5:Int)=5) rfl,ct];have hb:Hb k M (ir w.Zv a (si p.Zx p.Zy)):=Mf h.hb ha (by rw [hat];exact YM _) (by rw [hat];exact YM _);obtain ⟨p1,p2,p3⟩:=h.pl.putK I hM ha hr ⟨by show (5:Int)≠8;decide,by show (5:Int)≠10;decide⟩ hrf hb;have e:=Uf (x:=⟨9,a,⟨#[]⟩⟩) (c:=si p.Zx p.Zy) hN h.pl rfl ha (by constructor<;>(show _<=_;simp [si])) hr;show Sat (Option.bind (aA N w ⟨9,a,⟨#[]⟩⟩ (si p.Zx p.Zy)) _) _;rw [e,bs];have hold':=h.pl.cells _ (pn ha);refine ad ⟨⟨p1,hb.up I (YM _),h.ti,h.tb⟩,⟨(yD _ _ _).2.1,fun b hb'=>by rw [show (Il w (ir w.Zv a (si p.Zx p.Zy))).Zv.m_=(ir w.Zv a (si p.Zx p.Zy)).m_ from rfl,p2];exact hb',rfl,rfl,rfl⟩,J,⟨?_,hi,fun _=>(p2 a).trans ha⟩,?_,fun _=> .inl J,fun b hb' hne=> ?_⟩
  ·have:(1:Int)<=a:=by
    rcases jh ha with ⟨j, -,rfl⟩|⟨j, -,rfl⟩<;>omega
   exact UC this
  ·rw [FK h8];refine .inr ⟨h8,J,a,ag,J,(p2 a).trans ha,?_⟩;show cp (ir w.Zv a (si p.Zx p.Zy)).m_ a=_;rw [p3 a ha,if_pos rfl,hat];rfl
  show cp (ir w.Zv a (si p.Zx p.Zy)).m_ b=_;rw [p3 b hb',if_neg fun e=>hne rfl e.symm]
 rw [Xa h9,cf,bs,cf];exact hide h9
end
section
open Go.RowKit
set_option maxRecDepth 20000
theorem SlotP.move {m':WY}(h:SlotP m p x)(hh:∀a,x.Zh=9->x.N=a->aZ m a=true->(cp m a).Zh=5->aZ m' a=true/\cp m' a=cp m a):SlotP m' p x:=by
 rcases h with h|⟨h1,h2,a,ag,rfl,h4,h5⟩
 ·exact .inl h
 obtain ⟨g1,g2⟩:=hh a rfl rfl h4 (by rw [h5]);exact .inr ⟨h1,h2,a,ag,J,g1,g2.trans h5⟩
theorem SlotP.has9 (h:SlotP m p x)(h9:x.Zh=9):(∃g s,Gy m x g s)/\aZ m x.N=true:=by
 rcases h with ⟨-, -, -, -,h⟩|⟨-, -,a,ag,rfl,h4,h5⟩
 ·exact absurd h9 h
 exact ⟨⟨_,_,a,ag,J,h4,h5⟩,h4⟩
theorem Obj.pair9 {N:Nat}{w:WP}(h:Obj N i k q w c PL)(hx:c.Zj[n+1]? =some x)(h9:x.Zh=9):(∃g s,Gy w.Zv.m_ x g s)/\aZ w.Zv.m_ x.N=true:=by
 have hlt:=(XZ.1 hx).1
 have hn:n<PL.length:=by have:=h.num;omega
 obtain ⟨y,hy,hs⟩:=h.each n PL[n] (XX hn);have:y=x:=YX (hy.symm.trans hx);subst this;exact hs.has9 h9
structure FrO (i:Int) (w w':WP) (c c':W3):Prop where
 fr:FrW w w'
 le:Le w.Zw w'.Zw
 rest: ∀a,aZ w.Zv.m_ a=true->a≠i->(∀(n:Nat) x,c.Zj[n+1]? =some x->x.Zh=9->x.N≠a)->cp w'.Zv.m_ a=cp w.Zv.m_ a
 new: ∀(n:Nat) x,c'.Zj[n+1]? =some x->x.Zh=9->(∃n':Nat,c.Zj[n'+1]? =some x)\/aZ w.Zv.m_ x.N=false
theorem FrO.trans {w w' w'':WP}{c'':W3}(h:FrO i w w' c c')(h':FrO i w' w'' c' c''):FrO i w w'' c c'':=by
 refine ⟨h.fr.trans h'.fr,h.le.trans h'.le,fun a ha hne hp=> ?_,fun n x hx h9=> ?_⟩
 ·rw [h'.rest a (h.fr.has a ha) hne fun n x hx h9 e=> ?_,h.rest a ha hne hp];rcases h.new n x hx h9 with ⟨n',hn'⟩|hn
  ·exact hp n' x hn' h9 e
  rw [e,ha] at hn;cases hn
 rcases h'.new n x hx h9 with ⟨n',hn'⟩|hn
 ·exact h.new n' x hn' h9
 right
 cases e:aZ w.Zv.m_ x.N with
 |false=>rfl
 |true=>rw [h.fr.has _ e] at hn;cases hn
structure Same (c c':W3):Prop where
 kind:c'.Zh=c.Zh
 more:c'.Zi=c.Zi
 flags:c'.Zm=c.Zm
 head:c'.Zj[0]? =c.Zj[0]?
theorem Same.refl (c:W3):Same c c:=⟨rfl,rfl,rfl,rfl⟩
theorem Same.trans {a b:W3}(h:Same a b)(h':Same b c):Same a c:=⟨h'.kind.trans h.kind,h'.more.trans h.more,h'.flags.trans h.flags,h'.head.trans h.head⟩
theorem Ih {N:Nat}(hN:20000<=N)(hv:v.Zh=7)(hvN:v.N=i)(hk:k'<=580)(hM:M'<=2200){w:WP}(hw:Wd N k q M w)(ha:aZ w.Zv.m_ i=true)(hc:cp w.Zv.m_ i=c)(hage:c'.Zn=c.Zn)(hkd:c'.Zh=1\/c'.Zh=2)(hr:bQ c'=true)(hrf:Oz w.Zv.m_ c')(h1:k+c'.Zj.length<=k'+c.Zj.length)(h2:M+c'.Zi.length<=M'+c.Zi.length):
  aA N w v c'=some (Il w (ir w.Zv i c'))/\Wd N k' q M' (Il w (ir w.Zv i c'))/\FrW w (Il w (ir w.Zv i c'))/\(∀x,aZ w.Zv.m_ x=true->cp (ir w.Zv i c').m_ x=if x=i then c' else cp w.Zv.m_ x):=by
 have hb:Hb k' M' (ir w.Zv i c'):=Mf hw.hb ha (by rw [hc];exact h1) (by rw [hc];exact h2);obtain ⟨p1,p2,p3⟩:=hw.pl.putK hk hM ha hr (by rcases hkd with h|h<;>constructor<;>omega) hrf hb
 have ec:BS c' (cp w.Zv.m_ i).Zn=c':=by rw [hc, <-hage];rfl
 have hsz:c'.Zj.length<=600/\c'.Zi.length<=2900:=by
  have hh:aZ (ir w.Zv i c').m_ i=true:=(p2 i).trans ha;have:=hb.cell (pn hh);rw [p3 i ha,if_pos rfl,ec] at this;omega
 refine ⟨?_,⟨p1,hb,hw.ti,hw.tb⟩,⟨(yD _ _ _).2.1,fun x hx=>(p2 x).trans hx,J,J,J⟩,fun x hx=>by rw [p3 x hx,ec]⟩;have:=Uf (x:=v) hN hw.pl (by unfold bO;rw [hv];rfl) (by rw [hvN];exact ha) hsz hr;rw [this,hvN]
theorem IX {N:Nat}{w w':WP}(hp:aA N w v c'=some w')(hf:ai .i64 c'.Zm 16=0)(b:Bool):bN N ⟨c',w,v⟩ b=some ⟨c',w',v⟩:=by
 unfold bN;have e:iz N w v c'=some w':=hp;show Option.bind (iz N w v c') _=_;rw [e,bs]
 have e:(!decide (ai .i64 (⟨c',w,v⟩:WV).Zu.Zm 16=0))=false:=by
  show (!decide (ai .i64 c'.Zm 16=0))=false;rw [W9 hf];rfl
 rw [e];cases b<;>rfl
def uK (PL:List WS)(p:WS):List WS:=match PL.findIdx? (fun x=>decide (x.Zo=p.Zo)) with
 |some n=>PL.set n p
 |none=>PL++ [p]
theorem EA (h:∀x∈PL,x.Zo≠p.Zo):uK PL p=PL++ [p]:=by
 unfold uK;rw [List.findIdx?_eq_none_iff.2 fun x hx=>by simp [h x hx]]
theorem zy (hn:(PL.map (·.Zo)).Nodup){x:WS}(hp:PL[n]? =some x)(e:x.Zo=p.Zo):uK PL p=PL.set n p:=by
 have h4:=XZ.1 hp
 cases e1:PL.findIdx? (fun x=>decide (x.Zo=p.Zo)) with
 |none=>exact absurd e (by simpa using List.findIdx?_eq_none_iff.1 e1 x (Yo hp))
 |some m=>
  obtain ⟨h1,h2, -⟩:=List.findIdx?_eq_some_iff_getElem.1 e1
  have h2:PL[m].Zo=p.Zo:=by simpa using h2
  have:m=n:=(List.getElem_inj (h₀:=by rw [Zc];exact h1) (h₁:=by rw [Zc];exact h4.1) hn).1 (by rw [X7,X7,h2,h4.2,e]);subst this;unfold uK;rw [e1]
section
variable {N:Nat}(hN:20000<=N)(hv:v.Zh=7)(hvN:v.N=i){w:WP}(h:Obj N i k q w c PL)
include hN hv hvN h
theorem SJ (hk:k+4<=580)(hM:c.Zi.length<=2200)(ht:TI N t)(hle:Le w.Zw t)(htb:t.Zw.length<=q'){r:WZ×WP}(hr:Slotted N k q' c.Zi.length (KA w t) p old r)(hold:old.Zh≠9\/c.Zj[n+1]? =some old)(sh:Int)(sl:List WZ)(PL':List WS)(hrow:Row t sh (PL'.map JQ))(hnd:(PL'.map (·.Zo)).Nodup)(hnum:sl.length=PL'.length+1)(hn:PL'.length<=PL.length+1)(hn2:PL'.length<=1024)(h0:sl[0]? =c.Zj[0]?)(h1:sl[n+1]? =some r.1)(h2:PL'[n]? =some (mW p))(h3:∀m,m≠n->sl[m+1]? =c.Zj[m+1]?)(h4:∀m,m≠n->PL'[m]? =PL[m]?)(b:Bool):
  ∃w',bN N ⟨⟨c.Zh,sh,c.Zm,c.Zn,sl,c.Zi⟩,r.2,v⟩ b=some ⟨⟨c.Zh,sh,c.Zm,c.Zn,sl,c.Zi⟩,w',v⟩/\Obj N i (k+4) q' w' ⟨c.Zh,sh,c.Zm,c.Zn,sl,c.Zi⟩ PL'/\FrO i w w' c ⟨c.Zh,sh,c.Zm,c.Zn,sl,c.Zi⟩:=by
 have hrc:=lS h.right;have hnum0:=h.num;have hi:aZ r.2.Zv.m_ i=true:=hr.fr.has i h.has
 have hne:old.Zh=9->old.N≠i:=fun h9 e=>by
  rcases hold with ho|ho
  ·exact ho h9
  obtain ⟨⟨g,s,a,ag,e1,e2,e3⟩, -⟩:=h.pair9 ho h9;rw [e1] at e;have e:a=i:=e;rw [e,h.at_] at e3;rcases h.oc.kind with hkd|hkd<;>rw [e3] at hkd<;>cases hkd
 have hat:cp r.2.Zv.m_ i=c:=(hr.rest i h.has hne).trans h.at_;obtain ⟨z,z1,z2⟩:=h.oc.proto
 have hmem: ∀x∈sl,x∈c.Zj\/x=r.1:=fun x hx=>by
  obtain ⟨m,hm⟩:=List.getElem?_of_mem hx
  cases m with
  |zero=>rw [h0] at hm;exact .inl (Yo hm)
  |succ m=>
   by_cases e:m=n
   ·subst e;exact .inr (YX (hm.symm.trans h1))
   rw [h3 m e] at hm;exact .inl (Yo hm)
 have hval: ∀x∈sl++c.Zi,ValW r.2.Zv.m_ x:=fun x hx=>by
  rcases Yi.1 hx with hx|hx
  ·rcases hmem x hx with hx|rfl
   ·exact (h.val (Xd _ hx)).mono hr.fr.has
   exact hr.val
  exact (h.val (Xe _ hx)).mono hr.fr.has
 have hR:bQ (⟨c.Zh,sh,c.Zm,c.Zn,sl,c.Zi⟩:W3)=true:=by
  obtain ⟨s',s1', -⟩:=hrow.has ht;refine zt h.oc.kind s1'.1 hrc.2.1 hrc.2.2 (fun x hx=>(hval x (Xd _ hx)).may) (fun x hx=>(hval x (Xe _ hx)).may) (by show sl.length<=1025;omega) (z:=z) (by show sl[0]? =some z;rw [h0];exact z1) z2 (by show c.Zi.length<=4096;omega) h.oc.plain
 obtain ⟨e1,e2,e3,e4⟩:=Ih (k':=k+4) (M':=c.Zi.length) hN hv hvN I hM hr.wd hi hat (c':=⟨c.Zh,sh,c.Zm,c.Zn,sl,c.Zi⟩) rfl h.oc.kind hR (fun x hx=>⟨(hval x hx).i64,(hval x hx).ref⟩) (by show k+3+sl.length<=k+4+c.Zj.length;omega) (YM _);have hfr:FrW w (Il r.2 (ir r.2.Zv i ⟨c.Zh,sh,c.Zm,c.Zn,sl,c.Zi⟩)):=FrW.trans (b:=r.2) ⟨hr.fr.roots,hr.fr.has,hr.fr.spent,hr.fr.config,hr.fr.epoch⟩ e3
 -- cells of pairs that are not written stay
 have hkeep: ∀a,aZ w.Zv.m_ a=true->a≠i->(old.Zh=9->old.N≠a)->cp (ir r.2.Zv i (⟨c.Zh,sh,c.Zm,c.Zn,sl,c.Zi⟩:W3)).m_ a=cp w.Zv.m_ a:=fun a ha hni ho=>by
  rw [e4 a (hr.fr.has a ha),if_neg hni,hr.rest a ha ho];rfl
 refine ⟨_,IX e1 h.oc.noP b,⟨⟨e2.pl,e2.hb,?_,?_⟩,hfr.has i h.has,?_,⟨h.oc.kind,⟨z,by show sl[0]? =some z;rw [h0];exact z1,z2⟩,h.oc.plain,?_,?_,?_,h.oc.noP⟩,fun m p' hp'=> ?_,fun m m' x y hmm hx hy h9 h9'=> ?_⟩,⟨hfr,?_,fun a ha hni hp=> ?_,fun m x hx h9=> ?_⟩⟩
 ·show TI N r.2.Zw;rw [hr.tab];exact ht
 ·show r.2.Zw.Zw.length<=q';rw [hr.tab];exact htb
 ·show cp (ir r.2.Zv i _).m_ i=_;rw [e4 i hi,if_pos rfl]
 ·show Row r.2.Zw sh _;rw [hr.tab];exact hrow
 ·show sl.length=(PL'.map JQ).length+1;rw [Zc];exact hnum
 ·rw [List.map_map];exact hnd
 ·show∃x,sl[m+1]? =some x/\SlotP (ir r.2.Zv i _).m_ p' x;by_cases e:m=n
  ·subst e;have:p'=mW p:=YX (hp'.symm.trans h2);subst this;refine ⟨r.1,h1,hr.slot.move fun a _ _ ha h5=>⟨e3.has a ha,?_⟩⟩;show cp (ir r.2.Zv i _).m_ a=_;rw [e4 a ha,if_neg fun e=> ?_];subst e;rw [hat] at h5;rcases h.oc.kind with hkd|hkd<;>rw [h5] at hkd<;>cases hkd
  rw [h4 m e] at hp';obtain ⟨x,hx,hs⟩:=h.each m p' hp';refine ⟨x,(h3 m e).trans hx,hs.move fun a h9 hxa ha h5=>⟨hfr.has a ha,hkeep a ha (fun e=> ?_) fun ho9 e'=> ?_⟩⟩
  ·subst e;rw [h.at_] at h5;rcases h.oc.kind with hkd|hkd<;>rw [h5] at hkd<;>cases hkd
  rcases hold with ho|ho
  ·exact ho ho9
  exact h.inj n m old x (fun e2=>e e2.symm) ho hx ho9 h9 (e'.trans hxa.symm)
 ·have hx:sl[m+1]? =some x:=hx;have hy:sl[m'+1]? =some y:=hy
  have aux: ∀(a b:Nat) (x y:WZ),a=n->b≠n->sl[a+1]? =some x->sl[b+1]? =some y->x.Zh=9->y.Zh=9->x.N≠y.N:=fun a b x y ea eb hx hy h9 h9' e=>by
   subst ea;rw [h3 b eb] at hy;have:r.1=x:=YX (h1.symm.trans hx);subst this;have a6:=(h.pair9 hy h9').2;rcases hr.fresh h9 with hf|hf
   ·rcases hold with ho|ho
    ·rw [hf] at h9;exact ho h9
    exact h.inj a b old y (fun e2=>eb e2.symm) ho hy (by rw [<-hf];exact h9) h9' (by rw [<-hf];exact e)
   have hf:aZ w.Zv.m_ r.1.N=false:=hf;rw [e,a6] at hf;cases hf
  by_cases e:m=n
  ·exact aux m m' x y e (fun e'=>hmm (e.trans e'.symm)) hx hy h9 h9'
  by_cases e':m'=n
  ·exact fun h=>aux m' m y x e' e hy hx h9' h9 h.symm
  rw [h3 m e] at hx;rw [h3 m' e'] at hy;exact h.inj m m' x y hmm hx hy h9 h9'
 ·show Le w.Zw r.2.Zw;rw [hr.tab];exact hle
 ·refine hkeep a ha hni fun ho9 e=> ?_
  rcases hold with ho|ho
  ·exact ho ho9
  exact hp n old ho ho9 e
 have hx:sl[m+1]? =some x:=hx;by_cases e:m=n
 ·subst e;have:r.1=x:=YX (h1.symm.trans hx);subst this;rcases hr.fresh h9 with hf|hf
  ·rcases hold with ho|ho
   ·rw [hf] at h9;exact absurd h9 ho
   exact .inl ⟨m,by rw [hf];exact ho⟩
  exact .inr hf
 rw [h3 m e] at hx;exact .inl ⟨m,hx⟩
end
end
section
open Go.RowKit
set_option maxRecDepth 20000
theorem By {q:List α}{a:α}(h:q[n]? =some a):q.set n a=q:=by
 apply XL;intro j;by_cases e:n=j
 ·subst e;rw [X4 (XZ.1 h).1,h]
 rw [X3 e]
theorem JH (p:WS):(mW p).Zo=p.Zo/\(mW p).Zk=p.Zk:=by
 unfold mW;cases decide (ai .i64 p.Zk 8=0)<;>exact ⟨rfl,rfl⟩
def Uc (i:Int)(k q:Nat)(w:WP)(c:W3)(PL':List WS)(w':WP):Prop:= ∃c',Obj N i k q w' c' PL'/\Same c c'/\FrO i w w' c c'
theorem Fy {N:Nat}{w:WP}(h:Obj N i k q w c PL)(p:WS):(uK PL p).length<=PL.length+1:=by
 unfold uK;split
 ·rw [Yd];omega
 rw [Za,Ye];omega
section
variable {N:Nat}(hN:20000<=N)(hv:v.Zh=7)(hvN:v.N=i){w:WP}(h:Obj N i k q w c PL)(hk:k+4<=580)(hq:q+1024<=1000000000)(hM:c.Zi.length<=2200)
include hN hv hvN h hk hq hM
theorem OI (hp:PropW w.Zv.m_ p)(hR:keyR N p.Zo)(hA:Aa p.Zk)(hlen:PL.length<1024):Sat (gn N ⟨c,w,v⟩ p) fun r=>r.1=true/\Uc N i (k+4) (q+1024) w c (uK PL (mW p)) r.2.w_:=by
 have hb:w.Zw.Zw.length+1024<=1073741824:=by have:=h.wd.tb;omega
 have hnum:=h.num
 have hwd: ∀t:WR,Le w.Zw t->TI N t->t.Zw.length<=q+1024->Wd N k (q+1024) c.Zi.length (KA w t):=fun t _ h2 h3=>⟨h.wd.pl,h.wd.hb,h2,h3⟩
 unfold gn;show Sat (Option.bind (ci N ⟨c,w,v⟩ p.Zo) _) _
 refine (Ie (v:=v) hN I hM h p.Zo).bind fun y hy=> ?_
 rcases hy with ⟨a6,hno⟩|⟨n,u,a6,hn,hu⟩
 ·have y3:y.2.2=false:=by rw [a6]
  rw [y3,nf,ct];obtain ⟨s,s1,s2⟩:=h.oc.row.has h.wd.ti;rw [Zc] at s2
  refine Sat.bind (P:=(· =s.ZJ)) ⟨_,Lc N s1,J⟩ fun z hz=> ?_
  subst hz
  refine aC (fun h3=>by omega) fun h3=> ?_
  refine (Q8 N I h.wd.ti hb h.oc.row p.Zo p.Zk (fun x hx=> ?_) (by rw [Zc];omega)).bind fun r hr=> ?_
  ·obtain ⟨x',h1,rfl⟩:=Yn.1 hx;exact hno x' h1
  rcases hr with ⟨-, -,r3,r4,r5⟩|⟨r1, -, -⟩
  ·rw [r3];show Sat (Option.bind _ _) _
   have htb:r.2.2.Zw.length<=q+1024:=by have:=r4.num;have:=h.wd.tb;omega
   refine (ON (w:=KA w r.2.2) (k:=k) hN I hM (hwd _ r4.le r4.ti htb) (c':=⟨c.Zh,r.1,c.Zm,c.Zn,c.Zj,c.Zi⟩) (v':=v) hp (old:=⟨0,0,⟨#[]⟩⟩) (.inl (by show (0:Int)≠9;decide))).bind fun x hx=> ?_
   refine av (by unfold bm;rw [Ye];show c.Zj.length+1<=_;have:=h.len;omega) ?_;unfold nA;have hnk:=JH p
   obtain ⟨w',e1,e2,e3⟩:=SJ hN hv hvN h hk hM r4.ti r4.le htb hx (n:=PL.length) (.inl (by show (0:Int)≠9;decide)) r.1 (c.Zj++ [x.1]) (PL++ [mW p])
    (by rw [Yf];show Row r.2.2 r.1 (PL.map JQ++ [((mW p).Zo,(mW p).Zk)]);rw [hnk.1,hnk.2];exact r5)
    (by
     rw [Yf];refine Yt.2 ⟨h.nodup,by simp,fun a ha b hb' e=> ?_⟩;rw [List.map_singleton,Ys,hnk.1] at hb';obtain ⟨u,u1,u2⟩:=Yn.1 ha
     exact hno u u1 (by rw [u2,e,hb']))
    (by rw [Za,Za,Ye,Ye];omega)
    (by rw [Za,Ye];omega) (by rw [Za,Ye];omega)
    (by rw [XS I])
    (by rw [XT I,show PL.length+1 - c.Zj.length=0 by omega];rfl)
    (by rw [XT (YM _),YR];rfl)
    (fun m hm=>by
     by_cases hlt:m<PL.length
     ·rw [XS I]
     ·rw [XY (by rw [Za,Ye];omega),XY I])
    (fun m hm=>by
     by_cases hlt:m<PL.length
     ·rw [XS hlt]
     ·rw [XY (by rw [Za,Ye];omega),XY I]) true
   have e1':bN N ⟨⟨c.Zh,r.1,c.Zm,c.Zn,c.Zj++ [x.1],c.Zi⟩,x.2,v⟩ true=some ⟨⟨c.Zh,r.1,c.Zm,c.Zn,c.Zj++ [x.1],c.Zi⟩,w',v⟩:=e1
   refine Sat.bind ⟨_,e1',J⟩ fun u hu=> ?_
   subst hu;refine ad ⟨J,⟨c.Zh,r.1,c.Zm,c.Zn,c.Zj++ [x.1],c.Zi⟩,?_,⟨J,J,J,?_⟩,e3⟩
   ·rw [EA fun a ha=>by rw [hnk.1];exact hno a ha];exact e2
   show (c.Zj++ [x.1])[0]? =c.Zj[0]?;rw [XS I]
  exact absurd ⟨hR,hA⟩ r1
 have y1:y.1=u:=by rw [a6]
 have y2:y.2.1=(n:Int):=by rw [a6]
 have y3:y.2.2=true:=by rw [a6]
 rw [y3,nt,cf];have hlt:=(XZ.1 hn).1;have hnk:=JH p;have hl:=h.len
 have e0:(PL.map JQ)[n]? =some (p.Zo,u.Zk):=by rw [X0,hn, <-hu];rfl
 have hset:(PL.set n (mW p)).map JQ=(PL.map JQ).set n (p.Zo,p.Zk):=by
  rw [List.map_set];show (PL.map JQ).set n ((mW p).Zo,(mW p).Zk)=_;rw [hnk.1,hnk.2]
 have hj81: ∀(sh:Int) (t':WR),Grow N w.Zw t' 1024->Row t' sh ((PL.map JQ).set n (p.Zo,p.Zk))->Sat (gX N y p ⟨c,w,v⟩ sh (KA w t')) fun r=>r.1=true/\Uc N i (k+4) (q+1024) w c (uK PL (mW p)) r.2.w_:=by
  intro sh t' hgr hrow
  have htb:t'.Zw.length<=q+1024:=by have:=hgr.num;have:=h.wd.tb;omega
  unfold gX;rw [y1,y2];refine av (by show in64 ((n:Int)+1);constructor<;>omega) (av (by show in64 ((n:Int)+1);constructor<;>omega) (qe (by show 0<=(n:Int)+1;omega) (by show (n:Int)+1<c.Zj.length;omega) fun x hx=> ?_));have hx:c.Zj[((n:Int)+1).toNat]? =some x:=hx;rw [show ((n:Int)+1).toNat=n+1 by omega] at hx
  refine (ON (w:=KA w t') (k:=k) hN I hM (hwd _ hgr.le hgr.ti htb) (c':=⟨c.Zh,sh,c.Zm,c.Zn,c.Zj,c.Zi⟩) (v':=v) hp (old:=x) ?_).bind fun r hr=> ?_
  ·by_cases h9:x.Zh=9
   ·exact .inr (h.pair9 hx h9).1
   exact .inl h9
  refine qe (by show 0<=(n:Int)+1;omega) (by show (n:Int)+1<c.Zj.length;omega) fun x' _=> ?_
  have hlen:(c.Zj.set (n+1) r.1).length=c.Zj.length:=Yd ..
  obtain ⟨w',e1,e2,e3⟩:=SJ hN hv hvN h hk hM hgr.ti hgr.le htb hr (n:=n) (.inr hx) sh (c.Zj.set (n+1) r.1) (PL.set n (mW p))
   (by rw [hset];exact hrow)
   (by
    have:(PL.set n (mW p)).map (·.Zo)=PL.map (·.Zo):=by
     rw [List.map_set];refine By ?_;rw [X0,hn,hnk.1, <-hu];rfl
    rw [this];exact h.nodup)
   (by rw [hlen,Yd];omega) (by rw [Yd];omega) (by rw [Yd];omega)
   (by rw [X3 I]) (X4 I) (X4 hlt)
   (fun m hm=>by rw [X3 I]) (fun m hm=>by rw [X3 I]) (!decide (u.Zk=p.Zk))
  have e1':bN N ⟨⟨c.Zh,sh,c.Zm,c.Zn,List.set c.Zj (((n:Int)+1).toNat) (⟨r.1.Zh,r.1.N,r.1.S⟩:WZ),c.Zi⟩,r.2,v⟩ (!decide (u.Zk=p.Zk))=some ⟨⟨c.Zh,sh,c.Zm,c.Zn,c.Zj.set (n+1) r.1,c.Zi⟩,w',v⟩:=by
   rw [show ((n:Int)+1).toNat=n+1 by omega];exact e1
  refine Sat.bind ⟨_,e1',J⟩ fun z hz=> ?_
  subst hz;refine ad ⟨J,⟨c.Zh,sh,c.Zm,c.Zn,c.Zj.set (n+1) r.1,c.Zi⟩,?_,⟨J,J,J,?_⟩,e3⟩
  ·rw [zy h.nodup hn (by rw [hnk.1];exact hu)];exact e2
  show (c.Zj.set (n+1) r.1)[0]? =c.Zj[0]?;rw [X3 I]
 rw [y1]
 refine Eu (fun e=> ?_) fun e=> ?_
 ·refine (Ol N I h.wd.ti hb h.oc.row h.oc.nd p.Zo p.Zk n u.Zk e0).bind fun r hr=> ?_
  rcases hr with ⟨-,r3,r4,r5⟩|⟨r1, -, -⟩
  ·rw [r3,W9 (p:=(0:Int)=0) rfl,nt,cf];exact hj81 r.1 r.2.2 r4 r5
  exact absurd hA r1
 refine hj81 c.Zq w.Zw ⟨h.wd.ti,Le.refl _,by omega⟩ ?_;rw [By (by rw [e0,Y8 e])];exact h.oc.row
end
end
section
open Go.RowKit
set_option maxRecDepth 20000
def IQ (c:W3):Bool:=!decide (ai .i64 c.Zm 1=0)
def pW (PL:List WS)(key:WX):List WS:=PL.filter fun p=> !decide (p.Zo=key)
theorem MO (h:∀p∈PL,p.Zo≠key):pW PL key=PL:=XO.2 fun p hp=>by simp [h p hp]
theorem MQ: ∀{PL:List WS} {n:Nat} {p:WS},(PL.map (·.Zo)).Nodup->PL[n]? =some p->p.Zo=key->PL.eraseIdx n=pW PL key
 |a::PL,0,p,hn,hp,e=>by
  have:a=p:=YX hp;subst this;rw [Yg,Yu] at hn
  have h2:pW PL key=PL:=MO fun x hx e'=>hn.1 (Yn.2 ⟨x,hx,e'.trans e.symm⟩)
  unfold pW at h2⊢;rw [XN,W9 e,h2];rfl
 |a::PL,n+1,p,hn,hp,e=>by
  rw [Yg,Yu] at hn;have hp:PL[n]? =some p:=hp
  have ha:a.Zo≠key:=fun e'=>hn.1 (Yn.2 ⟨p,Yo hp,e.trans e'.symm⟩)
  have:=MQ hn.2 hp e;unfold pW at this⊢;rw [List.eraseIdx_cons_succ,this,XN,Xa ha];rfl
section
variable {N:Nat}(hN:20000<=N)(hv:v.Zh=7)(hvN:v.N=i){w:WP}(h:Obj N i k q w c PL)
include hN hv hvN h
theorem KK (hk:k<=580)(m:List WZ)(hm:m.length<=2200)(hmv:∀x∈m,ValW w.Zv.m_ x)(a6:c.Zh=1->m=[])(f:Int)(hf:0<=f/\f<=63)(a7:ai .i64 f 16=0):
  ∃w',aA N w v ⟨c.Zh,c.Zq,f,c.Zn,c.Zj,m⟩=some w'/\Obj N i k q w' ⟨c.Zh,c.Zq,f,c.Zn,c.Zj,m⟩ PL/\FrO i w w' c ⟨c.Zh,c.Zq,f,c.Zn,c.Zj,m⟩:=by
 have hrc:=lS h.right;have hnum:=h.num;have hl:=h.len;obtain ⟨z,z1,z2⟩:=h.oc.proto
 have hval: ∀x∈c.Zj++m,ValW w.Zv.m_ x:=fun x hx=>by
  rcases Yi.1 hx with hx|hx
  ·exact h.val (Xd _ hx)
  exact hmv x hx
 have hR:bQ (⟨c.Zh,c.Zq,f,c.Zn,c.Zj,m⟩:W3)=true:=zt h.oc.kind hrc.1 hf hrc.2.2 (fun x hx=>(hval x (Xd _ hx)).may) (fun x hx=>(hval x (Xe _ hx)).may) (by show c.Zj.length<=1025;omega) z1 z2 (by show m.length<=4096;omega) a6;obtain ⟨e1,e2,e3,e4⟩:=Ih (k':=k) (M':=m.length) hN hv hvN hk hm h.wd h.has h.at_ (c':=⟨c.Zh,c.Zq,f,c.Zn,c.Zj,m⟩) rfl h.oc.kind hR (fun x hx=>⟨(hval x hx).i64,(hval x hx).ref⟩) (YM _) (by show c.Zi.length+m.length<=m.length+c.Zi.length;omega);refine ⟨_,e1,⟨e2,e3.has i h.has,?_,⟨h.oc.kind,⟨z,z1,z2⟩,a6,h.oc.row,h.oc.num,h.oc.nd,a7⟩,fun n p hp=> ?_,h.inj⟩,⟨e3,Le.refl _,fun a ha hne _=> ?_,fun n x hx _=> .inl ⟨n,hx⟩⟩⟩
 ·show cp (ir w.Zv i _).m_ i=_;rw [e4 i h.has,if_pos rfl]
 ·obtain ⟨x,hx,hs⟩:=h.each n p hp;refine ⟨x,hx,hs.move fun a _ _ ha h5=>⟨e3.has a ha,?_⟩⟩;show cp (ir w.Zv i _).m_ a=_;rw [e4 a ha,if_neg fun e=> ?_];subst e;rw [h.at_] at h5;rcases h.oc.kind with hkd|hkd<;>rw [h5] at hkd<;>cases hkd
 show cp (ir w.Zv i _).m_ a=_;rw [e4 a ha,if_neg hne]
variable (hk:k+4<=580)(hq:q+1024<=1000000000)(hM:c.Zi.length<=2200)
include hk hq hM
theorem Hs (hR:keyR N key){ok:Bool}(ha:dw N (nh PL key).1 (nh PL key).2 (IQ c) key d=some (p,ok))(hg:ok=true->PropW w.Zv.m_ p/\p.Zo=key/\Aa p.Zk)(hlen:PL.length<1024):
  Sat (jW N w v key d) fun r=>r.1=ok/\(ok=false->r.2=w)/\(ok=true->Uc N i (k+4) (q+1024) w c (uK PL (mW p)) r.2):=by
 unfold jW;rw [Hr hv hvN I hM h,bs];show Sat (Option.bind (bd N key) _) _;rw [show bd N key=some true from hR,bs,nt,cf];show Sat (Option.bind (ci N ⟨c,w,v⟩ key) _) _
 refine (Ie (v:=v) hN I hM h key).bind fun y hy=> ?_
 have e:y.1=(nh PL key).1/\y.2.2=(nh PL key).2:=by
  rcases hy with ⟨rfl,hno⟩|⟨n,u,rfl,hn,rfl⟩
  ·rw [BW hno];exact ⟨J,J⟩
  rw [rS h.nodup hn];exact ⟨J,J⟩
 have ha':dw N y.1 y.2.2 (!decide (ai .i64 c.Zm 1=0)) key d=some (p,ok):=by rw [e.1,e.2];exact ha
 refine Sat.bind (P:=(· =(p,ok))) ⟨_,ha',J⟩ fun z hz=> ?_
 subst hz
 cases ok with
 |false=>exact ad ⟨rfl,fun _=>rfl,fun h=>by cases h⟩
 |true=>
  obtain ⟨g1,g2,g3⟩:=hg rfl;show Sat (Option.bind (gn N ⟨c,w,v⟩ p) _) _
  exact (OI hN hv hvN h hk hq hM g1 (by rw [g2];exact hR) g3 hlen).bind fun r hr=>ad ⟨hr.1,(fun h=>by cases h),fun _=>hr.2⟩
theorem SY (hR:keyR N key)(hx:ValW w.Zv.m_ x)(h9:x.Zh≠9)(ha:0<=a/\a<=7)(hA:Aa a)(hlen:PL.length<1024):
  Sat (tq N w v key x a) fun r=>r.1=true/\Uc N i (k+4) (q+1024) w c (uK PL (mW ⟨key,a,x,v0,v0⟩)) r.2:=by
 unfold tq;rw [Hr hv hvN I hM h,bs];show Sat (Option.bind (bd N key) _) _;rw [show bd N key=some true from hR,bs,nt,cf,bs,Xa (show¬a<0 by omega),cf,bs,Xa (show¬7<a by omega),cf];have hz:=QD w.Zv.m_
 exact (OI hN hv hvN h hk hq hM (p:=⟨key,a,x,v0,v0⟩) ⟨⟨hx,h9⟩,⟨hz,.inl J⟩,⟨hz,.inl J⟩⟩ hR hA hlen).bind fun r hr=>ad hr
theorem Dd (key:WX):Sat (fM N w v key) fun r=>
  ((nh PL key).2=false/\r=(true,w))\/((nh PL key).2=true/\ai .i64 (nh PL key).1.Zk 4=0/\r=(false,w))\/
  ((nh PL key).2=true/\ai .i64 (nh PL key).1.Zk 4≠0/\r.1=true/\Uc N i k (q+1024) w c (pW PL key) r.2):=by
 have hb:w.Zw.Zw.length+1024<=1073741824:=by have:=h.wd.tb;omega
 have hrc:=lS h.right;have hnum:=h.num;have hl:=h.len;obtain ⟨z,z1,z2⟩:=h.oc.proto;unfold fM;rw [Hr hv hvN I hM h,bs];show Sat (Option.bind (ci N ⟨c,w,v⟩ key) _) _
 refine (Ie (v:=v) hN I hM h key).bind fun y hy=> ?_
 rcases hy with ⟨a6,hno⟩|⟨n,u,a6,hn,hu⟩
 ·have y3:y.2.2=false:=by rw [a6]
  rw [y3,nf,ct];exact ad (.inl ⟨by rw [BW hno],rfl⟩)
 have y1:y.1=u:=by rw [a6]
 have y2:y.2.1=(n:Int):=by rw [a6]
 have y3:y.2.2=true:=by rw [a6]
 have hown:nh PL key=(u,true):=by rw [<-hu];exact rS h.nodup hn
 rw [y3,nt,cf,y1,y2,hown];have hlt:=(XZ.1 hn).1
 refine aC (fun h4=>ad (.inr (.inl ⟨J,h4,J⟩))) fun h4=> ?_
 have hnl:(PL.map JQ)[n]? =some (key,u.Zk):=by rw [X0,hn, <-hu];rfl
 show Sat (Option.bind (ee N w.Zw c.Zq key) _) _
 refine (Kw N I h.wd.ti hb h.oc.row h.oc.nd key n _ hnl).bind fun r hr=> ?_
 obtain ⟨r3,r4,r5⟩:=hr;rw [r3,W9 (p:=(0:Int)=0) rfl,nt,cf];refine av (by constructor<;>omega) (av (by constructor<;>omega) ?_)
 have e3:c.Zj.take ((n:Int)+1).toNat++c.Zj.drop ((n:Int)+2).toNat=c.Zj.eraseIdx (n+1):=by
  rw [List.eraseIdx_eq_take_drop_succ];congr 1
 have e4:oZ N c.Zj ((n:Int)+1) ((n:Int)+2)=some (c.Zj.eraseIdx (n+1)):=by
  unfold oZ;rw [cj I,e3]
 refine Sat.bind (P:=(· =c.Zj.eraseIdx (n+1))) ⟨_,e4,J⟩ fun s hs=> ?_
 subst hs;have hlen:(c.Zj.eraseIdx (n+1)).length=c.Zj.length - 1:=List.length_eraseIdx_of_lt I;have hlen2:(PL.eraseIdx n).length=PL.length - 1:=List.length_eraseIdx_of_lt hlt
 have hmap:(PL.eraseIdx n).map JQ=(PL.map JQ).eraseIdx n:=by
  rw [List.eraseIdx_eq_take_drop_succ,Yf,List.map_take,List.map_drop, <-List.eraseIdx_eq_take_drop_succ]
 rw [<-hmap] at r5
 have hm: ∀x∈c.Zj.eraseIdx (n+1)++c.Zi,ValW w.Zv.m_ x:=fun x hx=>by
  rcases Yi.1 hx with hx|hx
  ·exact h.val (Xd _ (List.mem_of_mem_eraseIdx hx))
  exact h.val (Xe _ hx)
 have h00:(c.Zj.eraseIdx (n+1))[0]? =c.Zj[0]? :=List.getElem?_eraseIdx_of_lt I
 have hS: ∀m:Nat,(c.Zj.eraseIdx (n+1))[m+1]? =c.Zj[(if m<n then m else m+1)+1]? :=fun m=>by
  rw [List.getElem?_eraseIdx];by_cases e:m<n
  ·rw [if_pos I,if_pos e]
  rw [if_neg I,if_neg e]
 obtain ⟨s',s1', -⟩:=r5.has r4.ti;have hR:bQ (⟨c.Zh,r.1,c.Zm,c.Zn,c.Zj.eraseIdx (n+1),c.Zi⟩:W3)=true:=zt h.oc.kind s1'.1 hrc.2.1 hrc.2.2 (fun x hx=>(hm x (Xd _ hx)).may) (fun x hx=>(hm x (Xe _ hx)).may) (by show (c.Zj.eraseIdx (n+1)).length<=1025;omega) (z:=z) (h00.trans z1) z2 (by show c.Zi.length<=4096;omega) h.oc.plain
 have htb:r.2.2.Zw.length<=q+1024:=by have:=r4.num;have:=h.wd.tb;omega
 have hwd:Wd N k (q+1024) c.Zi.length (KA w r.2.2):=⟨h.wd.pl,h.wd.hb,r4.ti,htb⟩;obtain ⟨e5,e6,e7,e8⟩:=Ih (k':=k) (M':=c.Zi.length) hN hv hvN I hM hwd h.has h.at_ (c':=⟨c.Zh,r.1,c.Zm,c.Zn,c.Zj.eraseIdx (n+1),c.Zi⟩) rfl h.oc.kind hR (fun x hx=>⟨(hm x hx).i64,(hm x hx).ref⟩) (by show k+(c.Zj.eraseIdx (n+1)).length<=k+c.Zj.length;omega) (YM _)
 have e8: ∀x,aZ w.Zv.m_ x=true->cp (ir w.Zv i (⟨c.Zh,r.1,c.Zm,c.Zn,c.Zj.eraseIdx (n+1),c.Zi⟩:W3)).m_ x=if x=i then ⟨c.Zh,r.1,c.Zm,c.Zn,c.Zj.eraseIdx (n+1),c.Zi⟩ else cp w.Zv.m_ x:=e8
 have e9:=IX (c':=⟨c.Zh,r.1,c.Zm,c.Zn,c.Zj.eraseIdx (n+1),c.Zi⟩) e5 h.oc.noP true
 refine Sat.bind ⟨_,e9,J⟩ fun u' hu'=> ?_
 subst hu';refine ad (.inr (.inr ⟨J,h4,J,⟨c.Zh,r.1,c.Zm,c.Zn,c.Zj.eraseIdx (n+1),c.Zi⟩,?_,⟨J,J,J,h00⟩,?_⟩))
 ·rw [<-MQ h.nodup hn hu];refine ⟨e6,e7.has i h.has,?_,⟨h.oc.kind,⟨z,h00.trans z1,z2⟩,h.oc.plain,r5,?_,?_,h.oc.noP⟩,fun m p hp=> ?_,fun m1 m2 x y hne h1 h2=> ?_⟩
  ·show cp (ir w.Zv i _).m_ i=_;rw [e8 i h.has,if_pos rfl]
  ·show (c.Zj.eraseIdx (n+1)).length=_;rw [Zc];omega
  ·rw [hmap,List.eraseIdx_eq_take_drop_succ,Yf,List.map_take,List.map_drop, <-List.eraseIdx_eq_take_drop_succ];exact List.Nodup.sublist (List.eraseIdx_sublist ..) h.oc.nd
  ·have hP:(PL.eraseIdx n)[m]? =PL[if m<n then m else m+1]? :=by
    rw [List.getElem?_eraseIdx];split<;>rfl
   rw [hP] at hp;obtain ⟨x,hx,hsl⟩:=h.each _ p hp;refine ⟨x,(hS m).trans hx,hsl.move fun a _ _ ha h5=>⟨e7.has a ha,?_⟩⟩;show cp (ir w.Zv i _).m_ a=_;rw [e8 a ha,if_neg fun e=> ?_];subst e;rw [h.at_] at h5;rcases h.oc.kind with hkd|hkd<;>rw [h5] at hkd<;>cases hkd
  rw [hS] at h1 h2;refine h.inj _ _ x y (fun e=>hne ?_) h1 h2;split at e<;>split at e<;>omega
 refine ⟨FrW.trans (b:=KA w r.2.2) ⟨J,fun _ h=>h,J,J,J⟩ e7,r4.le,fun a ha hne _=> ?_,fun m x hx _=> .inl ⟨_,(hS m).symm.trans hx⟩⟩;show cp (ir w.Zv i _).m_ a=_;rw [e8 a ha,if_neg hne]
end
end
section
open Go.RowKit
set_option maxRecDepth 20000
def cN:WZ:=⟨8,0,⟨#[]⟩⟩
def lenK:WX:=⟨1,0,(⟨#[108,101,110,103,116,104]⟩:ByteArray)⟩
def lD (n:Int):WX:=⟨0,n,⟨#[]⟩⟩
def wk (d:W6):WS:=⟨lenK,bif d.Zz then 0 else 1,⟨3,(d.Zs.length:Int),⟨#[]⟩⟩,v0,v0⟩
def sT (E:List WZ)(k:WX):Option WZ:=bif decide (k=lD k.N)&&decide (0<=k.N) then (match E[k.N.toNat]? with
 |some x=>bif decide (x=cN) then none else some x
 |none=>none) else none
def ni (d:W6)(k:WX):WS×Bool:=bif decide (k=lenK) then (wk d,true) else match sT d.Zs k with
 |some x=>(⟨k,7,x,v0,v0⟩,true)
 |none=>nh d.Zt k
def dI (E:List WZ)(n:Int):List WZ:=E++List.replicate (n.toNat - E.length) cN
def qW (s:Int)(p:WS):Int:=bif decide (p.Zo.Zh=0)&&decide (ai .i64 p.Zk 4=0) then max s (p.Zo.N+1) else s
def oI (PL:List WS)(n:Int):Int:=PL.foldl qW n
def iQ (s:Int)(p:WS):Bool:=!(decide (p.Zo.Zh=0)&&decide (s<=p.Zo.N))
def Lw (d:W6)(n:Int):W6:=⟨d.Ext,d.Zz,d.Zs.take (oI d.Zt n).toNat,d.Zt.filter (iQ (oI d.Zt n))⟩
structure Wf (d:W6):Prop where
 idx: ∀p∈d.Zt,p.Zo.Zh=0->p.Zo=lD p.Zo.N/\0<=p.Zo.N/\d.Zs[p.Zo.N.toNat]? =some cN
 len: ∀p∈d.Zt,p.Zo≠lenK
 nd:(d.Zt.map (·.Zo)).Nodup
 hole: ∀x∈d.Zs,x.Zh=8->x=cN
theorem yR {k:WX}:(∃(n:Nat) (p:WS),PL[n]? =some p/\p.Zo=k/\ ∀m,m<n-> ∀r,PL[m]? =some r->r.Zo≠k)\/ ∀p∈PL,p.Zo≠k:=by
 induction PL with
 |nil=>right;intro p hp;cases hp
 | cons a PL ih=>
  by_cases e:a.Zo=k
  ·left;exact ⟨0,a,J,e,fun m hm=>by omega⟩
  rcases ih with ⟨n,p,h1,h2,h3⟩|h
  ·left;refine ⟨n+1,p,h1,h2,fun m hm r hr=> ?_⟩
   cases m with
   |zero=>obtain rfl:a=r:=YX hr;exact e
   |succ m=>exact h3 m I r hr
  right;intro p hp;rcases Yj.1 hp with rfl|hp
  ·exact e
  exact h p hp
section
variable {N:Nat}(hN:20000<=N){d:W6}(hE:d.Zs.length<=5000)(hP:d.Zt.length<=1024)
include hN hP
theorem FD {k:WX}(h1:d.Zt[n]? =some p)(h2:p.Zo=k)(h3:∀m,m<n-> ∀r,d.Zt[m]? =some r->r.Zo≠k):lE N d k=some (n:Int):=by
 have hlt:=(XZ.1 h1).1
 have key: ∀m i:Nat,n<m+i->i<=n->qj N d k m (i:Int)=some (n:Int):=by
  intro m
  induction m with
  |zero=>intro i a b;omega
  | succ m ih=>
   intro i a b;rw [qj.eq_2,fJ I,ct,aM (by omega:i<d.Zt.length),bs];by_cases e:i=n
   ·subst e;rw [(XZ.1 h1).2,W9 h2,ct]
   rw [Xa (h3 i I _ (XX I)),cf,r64 I I];exact ih (i+1) I I
 exact key N 0 I I
theorem FC {k:WX}(h:∀p∈d.Zt,p.Zo≠k):lE N d k=some (-1):=by
 have key: ∀m i:Nat,d.Zt.length<m+i->i<=d.Zt.length->qj N d k m (i:Int)=some (-1):=by
  intro m
  induction m with
  |zero=>intro i a b;omega
  | succ m ih=>
   intro i a b;rw [qj.eq_2];by_cases e:i<d.Zt.length
   ·rw [fJ I,ct,aM e,bs,Xa (h _ (Zg e)),cf,r64 I I];exact ih (i+1) I I
   rw [fz I,cf];rfl
 exact key N 0 I I
theorem O3 {k:WX}(hnd:(d.Zt.map (·.Zo)).Nodup)(h1:d.Zt[n]? =some p)(h2:p.Zo=k):nh d.Zt k=(p,true):=by
 have _:=hN;have _:=hP;rw [<-h2];exact rS hnd h1
include hE
theorem Fj (hw:Wf d)(k:WX):ll N d k=some (ni d k):=by
 have _:=hE
 have hrest:((lE N d k).bind fun a6=>bif decide (a6<0) then (some ((⟨(⟨0,0,⟨#[]⟩⟩:WX),0,(⟨0,0,⟨#[]⟩⟩:WZ),(⟨0,0,⟨#[]⟩⟩:WZ),(⟨0,0,⟨#[]⟩⟩:WZ)⟩:WS),false)) else ((aq d.Zt a6).bind fun a7=>some (a7,true)))=some (nh d.Zt k):=by
  rcases yR (PL:=d.Zt) (k:=k) with ⟨n,p,h1,h2,h3⟩|h
  ·have hlt:=(XZ.1 h1);rw [FD hN hP h1 h2 h3,bs,fz I,cf,aM hlt.1,bs,hlt.2,O3 hN hP hw.nd h1 h2]
  rw [FC hN hP h,bs,BW h];rfl
 have e0:cE N=some lenK:=rfl;unfold ll;rw [e0,bs];unfold ni;by_cases hl:k=lenK
 ·rw [W9 hl,ct,ct];unfold wM wk;cases d.Zz<;>rw [hl]<;>rfl
 rw [Xa hl,cf,cf,hrest];unfold sT;by_cases h0:k.Zh=0
 ·rw [W9 h0,ct,bs];by_cases hS:k=lD k.N
  ·have hS':(k.S.toList==(⟨#[]⟩:ByteArray).toList)=true:=by rw [hS];exact beq_self_eq_true _
   rw [hS',ct,bs,W9 hS];by_cases hn:0<=k.N
   ·rw [W9 hn,ct,bs,Xs,cond_true];by_cases hlt:k.N<(d.Zs.length:Int)
    ·have hlt':k.N.toNat<d.Zs.length:=by omega
     have hg:aq d.Zs k.N=some d.Zs[k.N.toNat]:=by
      have:=aM hlt'
      rwa [show ((k.N.toNat:Nat):Int)=k.N by omega] at this
     rw [W9 hlt,ct,hg,bs,bs,XX hlt'];by_cases h8:d.Zs[k.N.toNat].Zh=8
     ·have e:=hw.hole _ (Zg hlt') h8;rw [W9 h8,e];rfl
     have e:d.Zs[k.N.toNat]≠cN:=fun e=>h8 (by rw [e];rfl)
     rw [Xa h8,nf,ct,bs];simp only [Xa e,cond_false];rfl
    rw [Xa hlt,cf,bs,cf,XY I]
   rw [Xa hn,cf,bs,cf,bs,cf,Xp,cond_false]
  have hS':(k.S.toList==(⟨#[]⟩:ByteArray).toList)=false:=by
   cases e:(k.S.toList==(⟨#[]⟩:ByteArray).toList) with
   |false=>rfl
   |true=>
    refine absurd ?_ hS;have:k.S=⟨#[]⟩:=oY.1 (eq_of_beq e);obtain ⟨a,b,s⟩:=k;simp only at this h0;subst this h0;rfl
  rw [hS',cf,bs,cf,bs,cf,Xa hS,Xq,cond_false];rfl
 rw [Xa h0,cf,bs,cf,bs,cf,bs,cf,Xa (fun e=>h0 (by rw [e];rfl)),Xq,cond_false];rfl
end
section
variable {N:Nat}(hN:20000<=N){d:W6}(hE:d.Zs.length<=5000)(hP:d.Zt.length<=1024)
include hN hP
theorem Mc (hnd:(d.Zt.map (·.Zo)).Nodup)(p:WS):nv N d p=some ⟨d.Ext,d.Zz,d.Zs,uK d.Zt p⟩:=by
 unfold nv;rcases yR (PL:=d.Zt) (k:=p.Zo) with ⟨n,u,h1,h2,h3⟩|h
 ·have hlt:=(XZ.1 h1);rw [FD hN hP h1 h2 h3,bs,cj (by simp only [Yc];omega),fz I,cf,Zf,aM hlt.1,bs,Xy,zy hnd h1 h2];rfl
 rw [FC hN hP h,bs,cj (by simp only [Yc];omega)];show (aI _ _)=_;rw [Zf,cj (by simp only [X9,Yc];omega),EA h];rfl
theorem uj (k:WX):ej N d k=some ⟨d.Ext,d.Zz,d.Zs,pW d.Zt k⟩:=by
 have key: ∀(m i:Nat) (p:List WS),d.Zt.length<m+i->i<=d.Zt.length->p.length<=i->lj N d k m p (i:Int)=some ⟨d.Ext,d.Zz,d.Zs,p++pW (d.Zt.drop i) k⟩:=by
  intro m
  induction m with
  |zero=>intro i p a b;omega
  | succ m ih=>
   intro i p a b hp;rw [lj.eq_2];by_cases e:i<d.Zt.length
   ·have hdrop:d.Zt.drop i=d.Zt[i]::d.Zt.drop (i+1):=XF e;rw [fJ I,ct,aM e,bs];unfold o4;by_cases hk:d.Zt[i].Zo=k
    ·rw [W9 hk,nt,cf,r64 I I];refine (ih (i+1) p I I I).trans ?_;rw [hdrop];unfold pW;rw [XN,W9 hk];rfl
    rw [Xa hk,nf,ct,bs,cj (by rw [Ye];omega),r64 I I];refine (ih (i+1) (p++ [d.Zt[i]]) I I (by rw [Za,Ye];omega)).trans ?_;rw [hdrop];unfold pW;rw [XN,Xa hk,Xc];rfl
   rw [fz I,cf,XH I];unfold ul pW;rw [List.filter_nil,XB]
 exact key N 0 [] I I (YM _)
omit hP in
include hE in
theorem Ir (n:Int)(hn:n<=5000):nw N d n=some ⟨d.Ext,d.Zz,dI d.Zs n,d.Zt⟩:=by
 have key: ∀(m:Nat) (p:List WZ),5001<m+p.length->p.length<=5000->tc N n d m p=some ⟨d.Ext,d.Zz,dI p n,d.Zt⟩:=by
  intro m
  induction m with
  |zero=>intro p a b;omega
  | succ m ih=>
   intro p a b;have e0:iq N=some cN:=rfl;rw [tc.eq_2];by_cases e:(p.length:Int)<n
   ·rw [W9 e,ct,e0,bs,rF (by rw [Ye];omega),ih (p++ [cN]) (by rw [Za,Ye];omega) (by rw [Za,Ye];omega)];unfold dI;rw [Xc,show n.toNat - p.length=(n.toNat - (p++ [cN]).length)+1 by rw [Za,Ye];omega];rfl
   rw [Xa e,cf];unfold yp dI;rw [show n.toNat - p.length=0 by omega,List.replicate_zero,XB]
 unfold nw;rw [rF (by simp only [Yc];omega),Zf];exact key N d.Zs I hE
end
theorem Dk (E:List WZ)(n:Int):(dI E n).length=max E.length n.toNat:=by
 unfold dI;rw [Za,List.length_replicate];omega
theorem Di {n:Int}{i:Nat}(h:E[i]? =some x):(dI E n)[i]? =some x:=by
 unfold dI;rw [XS (XZ.1 h).1];exact h
theorem Dj {n:Int}(h:x∈dI E n):x∈E\/x=cN:=by
 unfold dI at h;rcases Yi.1 h with h|h
 ·exact .inl h
 exact .inr (List.eq_of_mem_replicate h)
theorem FS {n:Int}(h:n<=E.length):dI E n=E:=by
 unfold dI;rw [show n.toNat - E.length=0 by omega,List.replicate_zero,XB]
end
section
open Go.RowKit
set_option maxRecDepth 20000
def F7 (p:WS):Prop:=p.Zo.Zh=0/\ai .i64 p.Zk 4=0
theorem AD {s:Int}(h:F7 p):qW s p=max s (p.Zo.N+1):=by
 unfold qW;rw [W9 h.1,W9 h.2];rfl
theorem EZ {s:Int}(h:¬F7 p):qW s p=s:=by
 unfold qW;by_cases h0:p.Zo.Zh=0
 ·rw [Xa (p:=ai .i64 p.Zk 4=0) (fun e=>h ⟨h0,e⟩),Xp,cond_false]
 rw [Xa h0,Xq,cond_false]
theorem Bw: ∀(PL:List WS) (n:Int),n<=oI PL n
 | [],n=>Xu _
 |p::PL,n=>by
  have h:=Bw PL (qW n p);show n<=PL.foldl qW (qW n p);refine Int.le_trans ?_ h;by_cases hf:F7 p
  ·rw [AD hf];omega
  rw [EZ hf];omega
theorem Bv: ∀(PL:List WS) (n s:Int),n<=s->(∀p∈PL,F7 p->p.Zo.N+1<=s)->oI PL n<=s
 | [],n,s,h,_=>h
 |p::PL,n,s,h,hp=>by
  refine Bv PL (qW n p) s ?_ fun x hx=>hp x (Yk _ hx)
  by_cases hf:F7 p
  ·rw [AD hf];have:=hp p (Yl ..) hf;omega
  rw [EZ hf];exact h
theorem EY: ∀(PL:List WS) (n:Int) {p:WS},p∈PL->F7 p->p.Zo.N+1<=oI PL n
 | x::PL,n,p,hp,hf=>by
  rcases Yj.1 hp with rfl|hp
  ·show p.Zo.N+1<=PL.foldl qW (qW n p);refine Int.le_trans ?_ (Bw PL (qW n p));rw [AD hf];omega
  exact EY PL (qW n x) hp hf
theorem Jl {k:WX}: ∀(PL:List WS) (n:Int),(∀p∈PL,p.Zo=k-> ¬F7 p)->oI (pW PL k) n=oI PL n
 | [],_,_=>rfl
 | p::PL,n,h=>by
  have ih:=Jl PL (qW n p) fun x hx=>h x (Yk _ hx)
  unfold pW at ih⊢;rw [XN];by_cases hk:p.Zo=k
  ·rw [W9 hk];show oI (PL.filter _) n=PL.foldl qW (qW n p);have h2:=EZ (s:=n) (h p (Yl ..) hk);rw [h2] at ih⊢;exact ih
  rw [Xa hk];exact ih
theorem qM {k:WX}:p∈pW PL k↔p∈PL/\p.Zo≠k:=by
 unfold pW;rw [Ym];simp
theorem IV (h:(PL.map (·.Zo)).Nodup)(k:WX):((pW PL k).map (·.Zo)).Nodup:=List.Nodup.sublist (List.Sublist.map _ List.filter_sublist) h
theorem zz (hn:(PL.map (·.Zo)).Nodup)(k:WX):(∃p∈PL,p.Zo=k/\nh PL k=(p,true))\/((∀p∈PL,p.Zo≠k)/\nh PL k=(zeroP,false)):=by
 rcases yR (PL:=PL) (k:=k) with ⟨n,p,h1,h2, -⟩|h
 ·exact .inl ⟨p,Yo h1,h2,by rw [<-h2];exact rS hn h1⟩
 exact .inr ⟨h,BW h⟩
theorem Rb (hn:(PL.map (·.Zo)).Nodup){r:WS}(hp:p∈PL)(hr:r∈PL)(e:p.Zo=r.Zo):p=r:=by
 obtain ⟨n,hn'⟩:=List.getElem?_of_mem hp;obtain ⟨m,hm'⟩:=List.getElem?_of_mem hr;have h1:=rS hn hn';have h2:=rS hn hm';rw [e] at h1;exact congrArg Prod.fst (h1.symm.trans h2)
theorem PT {i:Nat}(h:E[i]? =some x):sT E (lD i)=bif decide (x=cN) then none else some x:=by
 unfold sT;rw [W9 (show lD (i:Int)=lD (lD (i:Int)).N from rfl),W9 (show 0<=(lD (i:Int)).N by show (0:Int)<=(i:Int);omega)];show (match E[((i:Int)).toNat]? with|some x=>bif decide (x=cN) then none else some x|none=>none)=_;rw [Xy,h]
theorem Rq (n:Int):lD n≠lenK:=fun e=>by cases congrArg WX.Zh e
section
variable {N:Nat}(hN:20000<=N)(n:Nat)
include hN
theorem SG (e f:Bool): ∀(m:Nat) (E:List WZ) (PL:List WS),E.length<n+m->n<=E.length->E.length<=5000->PL.length<=1024->Wf ⟨e,f,E,PL⟩->pI N (n:Int) m e f E PL=some (Lw ⟨e,f,E,PL⟩ n,decide (oI PL n=n))
 |0,E,PL,h0,h1,_,_,_=>by omega
 | m + 1,E,PL,h0,h1,h2,h3,hw=>by
  rw [pI.eq_2];by_cases hlt:n<E.length
  ·obtain ⟨L,hL⟩: ∃L:Nat,E.length=L+1:=⟨E.length - 1,by omega⟩
   have hk:(⟨0,(E.length:Int) - 1,⟨#[]⟩⟩:WX)=lD (L:Int):=by rw [hL];show (⟨0,_,_⟩:WX)=⟨0,_,_⟩;congr 1;omega
   have eL:((E.length:Int) - 1)=(L:Int):=by omega
   have hx:E[L]? =some E[L]:=XX I;have hown:=Fj hN (d:=⟨e,f,E,PL⟩) h2 h3 hw (lD (L:Int));have hwo:=uj hN (d:=⟨e,f,E,PL⟩) h3 (lD (L:Int));rw [fJ I,ct,r64 I I,hk,hown,bs]
   have hA:ni ⟨e,f,E,PL⟩ (lD (L:Int))=match (bif decide (E[L]=cN) then none else some E[L]) with
     |some x=>(⟨lD (L:Int),7,x,v0,v0⟩,true)
     |none=>nh PL (lD (L:Int)):=by
    unfold ni;rw [Xa (Rq _),cond_false];show (match sT E (lD (L:Int)) with|some x=>_|none=>_)=_;rw [PT hx]
   -- going on below
   have go:(∀p∈PL,p.Zo=lD (L:Int)-> ¬F7 p)->((ej N (⟨e,f,E,PL⟩:W6) (lD (L:Int))).bind fun a6=>aI ((0:Int)<=(E.length:Int) - 1/\0<=((E.length:Int) - 1).toNat/\((E.length:Int) - 1).toNat<=a6.Zs.length) ((pI N n m) a6.Ext a6.Zz ((a6.Zs.drop 0).take (((E.length:Int) - 1).toNat - 0)) a6.Zt))=some (Lw ⟨e,f,E,PL⟩ n,decide (oI PL n=n)):=fun hnf=>by
    have hidx: ∀p∈PL,F7 p->p.Zo.N+1<=(L:Int):=fun p hp hf=>by
     obtain ⟨g1,g2,g3⟩:=hw.idx p hp hf.1;have g4:=(XZ.1 g3).1;have g4:p.Zo.N.toNat<E.length:=g4;rcases Int.lt_or_le p.Zo.N (L:Int) with h|h
     ·omega
     exact absurd hf (hnf p hp (g1.trans (congrArg lD I)))
    have hs1:=Jl (k:=lD (L:Int)) PL n hnf;have hs2:=Bv PL n (L:Int) I hidx;have hs3:=Bw PL n;rw [hwo,bs,eL,Xy,cj (by refine ⟨by omega,by omega,?_⟩;show L<=E.length;omega)];show pI N n m e f ((E.drop 0).take (L - 0)) (pW PL (lD (L:Int)))=_;rw [XJ,Nat.sub_zero]
    have hlen:(E.take L).length=L:=by rw [Zb];omega
    have hcl:(pW PL (lD (L:Int))).length<=PL.length:=Yb ..;rw [SG e f m (E.take L) (pW PL (lD (L:Int))) I I I I ⟨fun p hp h0=> ?_,fun p hp=>hw.len p (qM.1 hp).1,IV hw.nd _,fun x hx=>hw.hole x (Yp hx)⟩,hs1]
    ·unfold Lw;simp only [hs1];rw [List.take_take,Nat.min_eq_left I]
     have e2:(pW PL (lD (L:Int))).filter (iQ (oI PL n))=PL.filter (iQ (oI PL n)):=by
      unfold pW;rw [List.filter_filter]
      refine List.filter_congr fun p hp=> ?_
      by_cases hk:p.Zo=lD (L:Int)
      ·have:iQ (oI PL n) p=false:=by
        unfold iQ;rw [hk,W9 (show (lD (L:Int)).Zh=0 from rfl),W9 (show oI PL n<=(lD (L:Int)).N from hs2)];rfl
       rw [this];rfl
      rw [Xa hk];simp
     rw [e2]
    obtain ⟨hp1,hp2⟩:=qM.1 hp;obtain ⟨g1,g2,g3⟩:=hw.idx p hp1 h0;have g3:E[p.Zo.N.toNat]? =some cN:=g3;have g4:=(XZ.1 g3).1
    have:p.Zo.N≠(L:Int):=fun e'=>hp2 (g1.trans (congrArg lD e'))
    refine ⟨g1,g2,?_⟩;show (E.take L)[p.Zo.N.toNat]? =some cN;rw [List.getElem?_take_of_lt I];exact g3
   rw [hA];by_cases hh:E[L]=cN
   ·rw [W9 hh,cond_true];show (Option.bind (bif (nh PL (lD (L:Int))).2 then some (decide (ai .i64 (nh PL (lD (L:Int))).1.Zk 4=0)) else some false) _)=_;rcases zz hw.nd (lD (L:Int)) with ⟨p,hp,hpk,ho⟩|⟨hno,ho⟩
    ·rw [ho,ct,bs];by_cases h4:ai .i64 p.Zk 4=0
     ·rw [W9 h4,ct];have hf:F7 p:=⟨by rw [hpk];rfl,h4⟩
      have s1:oI PL n=(L:Int)+1:=by
       have a:=EY PL n hp hf;rw [hpk] at a
       have b:=Bv PL n ((L:Int)+1) I fun r hr hf'=>by
        obtain ⟨g1,g2,g3⟩:=hw.idx r hr hf'.1;have g4:=(XZ.1 g3).1;have g4:r.Zo.N.toNat<E.length:=g4;omega
       exact Int.le_antisymm b a
      unfold Lw;rw [s1,Xa I,show ((L:Int)+1).toNat=E.length by omega];simp only
      rw [Zd,XO.2 fun r hr=>by
       unfold iQ;by_cases h0:r.Zo.Zh=0
       ·obtain ⟨g1,g2,g3⟩:=hw.idx r hr h0;have g4:=(XZ.1 g3).1;have g4:r.Zo.N.toNat<E.length:=g4;rw [Xa (p:=(L:Int)+1<=r.Zo.N) I,Xp];rfl
       ·rw [Xa h0];rfl]
     rw [Xa h4,cf]
     exact go fun r hr hk' hf=>h4 (by rw [Rb hw.nd hp hr (hpk.trans hk'.symm)];exact hf.2)
    rw [ho,cf,bs,cf]
    exact go fun r hr hk' _=>hno r hr hk'
   rw [Xa hh,cond_false];show (Option.bind (some (decide (ai .i64 7 4=0))) _)=_;rw [bs,Xa (by decide),cf]
   refine go fun r hr hk' _=>hh ?_
   obtain ⟨g1,g2,g3⟩:=hw.idx r hr (by rw [hk'];rfl);rw [hk'] at g3;have g3:E[((L:Int)).toNat]? =some cN:=g3;rw [Xy,hx] at g3;exact YX g3
  have hEn:E.length=n:=by omega
  have hid: ∀p∈PL,p.Zo.Zh=0->p.Zo.N+1<=(n:Int):=fun p hp h0=>by
   obtain ⟨g1,g2,g3⟩:=hw.idx p hp h0;have g4:=(XZ.1 g3).1;have g4:p.Zo.N.toNat<E.length:=g4;omega
  have s1:oI PL n=n:=Int.le_antisymm (Bv PL n n (Xu _) fun p hp hf=>hid p hp hf.1) (Bw PL n);rw [fz I,cf];unfold AM Lw;rw [s1,W9 rfl];simp only
  rw [Xy, <-hEn,Zd,XO.2 fun r hr=>by
   unfold iQ;by_cases h0:r.Zo.Zh=0
   ·have:=hid r hr h0;rw [Xa (p:=((E.length:Nat):Int)<=r.Zo.N) I,Xp];rfl
   ·rw [Xa h0];rfl]
end
def Es (d:W6)(n:Int):W6×Bool:=bif decide (n<0)||decide (4096<n)||(d.Zz&& !decide (n=(d.Zs.length:Int))) then (d,false) else
 (Lw ⟨d.Ext,d.Zz,dI d.Zs n,d.Zt⟩ n,decide (oI d.Zt n=n))
theorem Wf.long {d:W6}(h:Wf d)(n:Int):Wf ⟨d.Ext,d.Zz,dI d.Zs n,d.Zt⟩:=⟨fun p hp h0=>⟨(h.idx p hp h0).1,(h.idx p hp h0).2.1,Di (h.idx p hp h0).2.2⟩,h.len,h.nd,fun x hx h8=>by
 rcases Dj hx with hx|rfl
 ·exact h.hole x hx h8
 ·rfl⟩
theorem Hh {N:Nat}(hN:20000<=N){d:W6}(hE:d.Zs.length<=5000)(hP:d.Zt.length<=1024)(hw:Wf d)(n:Int):lW N d n=some (Es d n):=by
 unfold lW Es;by_cases h0:n<0
 ·rw [W9 h0];rfl
 by_cases h1:4096<n
 ·rw [W9 h1,Xa h0];rfl
 rw [Xa h0,Xa h1,cf,bs,cf,Bool.false_or,Bool.false_or]
 have e:((bif d.Zz then (some (!decide (n=(d.Zs.length:Int)))) else (some false)).bind fun b7=>some b7)=some (d.Zz&& !decide (n=(d.Zs.length:Int))):=by
  cases d.Zz<;>rfl
 rw [e,bs]
 cases hb:(d.Zz&& !decide (n=(d.Zs.length:Int))) with
 |true=>rfl
 |false=>
  rw [cf,cond_false,Ir hN hE n I,bs];obtain ⟨m,rfl⟩: ∃m:Nat,n=m:=⟨n.toNat,by omega⟩;have hl:=Dk d.Zs (m:Int);rw [Xy] at hl;unfold C8;have:=SG hN m d.Ext d.Zz N (dI d.Zs m) d.Zt I I I hP (hw.long m);rw [this,bs]
end
section
open Go.RowKit
set_option maxRecDepth 20000
theorem QC (N:Nat){x:Int}(h0:0<=x)(h1:x<=255):vc N x 10=some (bif decide (48<=x)&&decide (x<=57) then x - 48 else -1):=by
 have hw:IntKind.i64.wrap x=x:=IntWalk.i64_in _ ⟨by omega,by omega⟩
 have a6: ∀p:Int,oP N 10 p=some (bif decide (10<=p) then -1 else p):=fun p=>by
  unfold oP;cases decide (10<=p)<;>rfl
 have e6: ∀p:Int,p<=15->qr N x 10 p=some (bif decide (65<=x)&&decide (x<=70) then -1 else bif decide (10<=p) then -1 else p):=fun p hp=>by
  unfold qr;rw [hw];by_cases a:65<=x
  ·by_cases b:x<=70
   ·rw [W9 a,W9 b,ct,bs,ct,r64 I I,r64 I I,a6,W9 (show 10<=x - 65+10 by omega)];rfl
   rw [W9 a,Xa b,ct,bs,cf,a6];rfl
  rw [Xa a,cf,bs,cf,a6];rfl
 have e1: ∀p:Int,p<=15->qt N x 10 p=some (bif decide (97<=x)&&decide (x<=102) then -1 else bif decide (65<=x)&&decide (x<=70) then -1 else bif decide (10<=p) then -1 else p):=fun p hp=>by
  unfold qt;rw [hw];by_cases a:97<=x
  ·by_cases b:x<=102
   ·rw [W9 a,W9 b,ct,bs,ct,r64 I I,r64 I I,e6 _ I,W9 (show 10<=x - 97+10 by omega),Xa (show¬x<=70 by omega),Xp,cf];rfl
   rw [W9 a,Xa b,ct,bs,cf,e6 _ hp];rfl
  rw [Xa a,cf,bs,cf,e6 _ hp];rfl
 unfold vc;rw [hw];by_cases a:48<=x
 ·by_cases b:x<=57
  ·rw [W9 a,W9 b,ct,bs,ct,r64 I I,e1 _ I,Xa (show¬97<=x by omega),Xa (show¬65<=x by omega),Xa (show¬10<=x - 48 by omega)];rfl
  rw [W9 a,Xa b,ct,bs,cf,e1 _ I];show some (bif decide (97<=x)&&decide (x<=102) then (-1:Int) else bif decide (65<=x)&&decide (x<=70) then -1 else -1)=some (-1);cases decide (97<=x)&&decide (x<=102)<;>cases decide (65<=x)&&decide (x<=70)<;>rfl
 rw [Xa a,cf,bs,cf,e1 _ I];show some (bif decide (97<=x)&&decide (x<=102) then (-1:Int) else bif decide (65<=x)&&decide (x<=70) then -1 else -1)=some (-1);cases decide (97<=x)&&decide (x<=102)<;>cases decide (65<=x)&&decide (x<=70)<;>rfl
def O0 (y:Int×Bool):Option (Int×Bool):=(bif !y.2 then (some true) else (some (decide (4294967294<y.1)))).bind fun b7=>bif b7 then (some (0,false)) else (some (y.1,true))
theorem MR (N:Nat)(s:ByteArray)(hs:s.size<=10)(hne:(s.toList==(⟨#[]⟩:ByteArray).toList)=false): ∀(m i:Nat) (p:Int),s.size<m+i->i<=s.size->0<=p->p+1<=(10:Int) ^ i->(mc N s 10 m p (i:Int)).bind O0=nW N s m p (i:Int)
 |0,i,p,h,h1,_,_=>by omega
 | m + 1,i,p,h,h1,h2,h3=>by
  have h10:(10:Int) ^ i<=10 ^ 10:=by
   have:(10:Nat) ^ i<=10 ^ 10:=Nat.pow_le_pow_right I I
   exact_mod_cast this
  rw [show (10:Int) ^ 10=10000000000 from rfl] at h10
  have hb:p<=10000000000:=by omega
  rw [mc.eq_2,nW.eq_2];by_cases hi:i<s.size
  ·obtain ⟨x,hx,a6,a7⟩:=Ct (b:=s) (i:=(i:Int)) I I;rw [fJ I,ct,ct,hx,bs,bs,QC N a6 a7,bs];by_cases a:48<=x
   ·by_cases b:x<=57
    ·have ew:IntKind.i64.wrap (IntKind.u8.wrap (x - 48))=x - 48:=by
      have e1:IntKind.u8.wrap (x - 48)=x - 48:=by
       show (x - 48)%256=x - 48;omega
      rw [e1];exact IntWalk.i64_in _ ⟨by omega,by omega⟩
     rw [W9 a,W9 b,Bool.and_self,ct,Xa (show¬x - 48<0 by omega),cf,W9 h2,ct,r64 I I,r64 I I];unfold rR tp;rw [Xa (show¬9007199254740992<p*10+(x - 48) by omega),cf,r64 I I,Xa (show¬x<48 by omega),cf,bs,bs,Xa (show¬57<x by omega),cf,r64 I I,bs,ew,r64 I I,r64 I I,show p*10+(x - 48)=10*p+(x - 48) by omega];exact MR N s hs hne m (i+1) _ I I I (by rw [Int.pow_succ];omega)
    rw [W9 a,Xa b,Xp,cond_false,W9 (show (-1:Int)<0 by omega),ct,Xa (show¬x<48 by omega),cf,bs,bs,W9 (show 57<x by omega),bs,ct];rfl
   rw [Xa a,Xq,cond_false,W9 (show (-1:Int)<0 by omega),ct,W9 (show x<48 by omega),ct,bs,bs,ct];rfl
  rw [fz I,cf,cf];unfold wT tt;rw [hne,bs];unfold O0;rw [show (!((p,!false):Int×Bool).2)=false from rfl,cf,bs]
theorem Rp (N:Nat)(hN:20000<=N)(s:ByteArray):uY N s=iZ N s:=by
 unfold uY iZ
 cases e:(s.toList==(⟨#[]⟩:ByteArray).toList) with
 |true=>rfl
 |false=>
  rw [cf,bs];by_cases h:10<(s.size:Int)
  ·rw [W9 h];rfl
  rw [Xa h,cf];have:=MR N s I e N 0 0 I I I (by decide);have e2:((yC N s 10).bind fun y6=>(bif !y6.2 then (some true) else (some (decide (4294967294<y6.1)))).bind fun b7=>bif b7 then (some (0,false)) else (some (y6.1,true)))=nW N s N 0 0:=this;rw [e2,bs,cf]
theorem Ew (N:Nat)(hN:20000<=N)(k:WX):pM N k=bd N k:=by
 unfold pM bd;rw [Rp N hN];obtain ⟨y,hy, -⟩:=JR N I k.S;rw [hy,bs,bs];cases decide (k.Zh=0)<;>cases decide (k.Zh=1)<;>cases decide (k.Zh=2)<;>cases (k.S.toList==(⟨#[]⟩:ByteArray).toList)<;>cases decide (0<=k.N)<;>cases decide (k.N<=4294967294)<;>cases decide (k.N=0)<;>cases y.2<;>cases decide ((k.S.size:Int)<=65536)<;>cases decide (1<=k.N)<;>rfl
theorem Pr {N:Nat}{k:WX}(h:keyR N k)(h0:k.Zh=0):k=lD k.N:=by
 unfold keyR bd at h;rw [W9 h0,ct] at h
 have hs:k.S=⟨#[]⟩:=by
  cases e:(k.S.toList==(⟨#[]⟩:ByteArray).toList) with
  |true=>exact oY.1 (eq_of_beq e)
  |false=>rw [e] at h;cases h
 obtain ⟨a,b,s⟩:=k;simp only at h0 hs;subst h0 hs;rfl
set_option maxRecDepth 20000
theorem CQ {m:Int}(ha:in64 a)(hm:0<=m)(hmn:m<2 ^ n)(hn:n<=10)(h:bi .i64 a m=0):0<=a/\a<2 ^ n:=by
 unfold in64 at ha;have hp:(2:Nat) ^ n<=2 ^ 10:=Nat.pow_le_pow_right I hn
 have hpi:((2:Nat) ^ n:Nat)=((2:Int) ^ n):=by simp
 have hp2:(2:Int) ^ n<=1024:=by rw [<-hpi];exact_mod_cast hp
 have hx:(BitVec.ofInt 64 a&&& ~~~BitVec.ofInt 64 m)=0#64:=by
  apply BitVec.eq_of_toNat_eq;have h':IntKind.i64.wrap ((BitVec.ofInt 64 a&&& ~~~BitVec.ofInt 64 m).toNat:Int)=0:=h;have hlt:=(BitVec.ofInt 64 a&&& ~~~BitVec.ofInt 64 m).isLt;generalize (BitVec.ofInt 64 a&&& ~~~BitVec.ofInt 64 m).toNat=y at h' hlt;rw [IntKind.wrap_i64] at h'
  have hy:y=0:=by omega
  rw [hy];rfl
 have hmt:(BitVec.ofInt 64 m).toNat=m.toNat:=by
  rw [BitVec.toNat_ofInt];have:m%((2 ^ 64:Nat):Int)=m:=Int.emod_eq_of_lt hm (by rw [show ((2 ^ 64:Nat):Int)=18446744073709551616 by decide];omega);rw [this]
 have hlt:(BitVec.ofInt 64 a).toNat<2 ^ n:=by
  refine Nat.lt_pow_two_of_testBit _ fun i hi=> ?_
  have e:=congrArg (fun b=>b.getLsbD i) hx;simp only [BitVec.getLsbD_and,BitVec.getLsbD_not,BitVec.getLsbD_zero] at e
  have hmi:(BitVec.ofInt 64 m).getLsbD i=false:=by
   show (BitVec.ofInt 64 m).toNat.testBit i=false;rw [hmt];refine Nat.testBit_lt_two_pow ?_
   have h1:m.toNat<2 ^ n:=by
    have:(m.toNat:Int)<((2 ^ n:Nat):Int):=by rw [hpi];omega
    exact_mod_cast this
   exact YO h1 (Nat.pow_le_pow_right I hi)
  rw [hmi] at e;show (BitVec.ofInt 64 a).getLsbD i=false;by_cases h64:i<64
  ·rw [W9 h64] at e;simpa only [Bool.not_false,Bool.and_true,Xs] using e
  exact BitVec.getLsbD_of_ge _ _ I
 rw [BitVec.toNat_ofInt] at hlt;rw [show ((2 ^ 64:Nat):Int)=18446744073709551616 by decide] at hlt;have h3:(((a%18446744073709551616).toNat:Nat):Int)<((2 ^ n:Nat):Int):=Int.ofNat_lt.2 hlt;rw [hpi] at h3;omega
def sB (n b:Int):Bool:=decide ((n.tdiv b).tmod 2=1)
theorem Oq (N:Nat)(h0:0<=a)(h1:a<=63){b:Int}(hb:1<=b):bP N a b=some (sB a b):=by
 unfold bP;refine cj ⟨by omega,?_⟩;rw [Xw h0];have:=Int.ediv_nonneg h0 (show 0<=b by omega);have:=Int.ediv_le_self b h0;constructor<;>omega
theorem Em {b:Bool}{x y:α}:(bif b then some x else some y)=some (bif b then x else y):=by cases b<;>rfl
theorem Rt: ∀n:_root_.Fin 64,bi .i64 (n.val:Int) 63=0/\(!decide (ai .i64 (n.val:Int) 3=0))=(sB (n.val:Int) 1||sB (n.val:Int) 2)/\(!decide (ai .i64 (n.val:Int) 12=0))=(sB (n.val:Int) 4||sB (n.val:Int) 8)/\(!decide (ai .i64 (n.val:Int) 1=0))=sB (n.val:Int) 1/\(!decide (ai .i64 (n.val:Int) 2=0))=sB (n.val:Int) 2/\(!decide (ai .i64 (n.val:Int) 4=0))=sB (n.val:Int) 4/\(!decide (ai .i64 (n.val:Int) 8=0))=sB (n.val:Int) 8/\(!decide (ai .i64 (n.val:Int) 16=0))=sB (n.val:Int) 16/\(!decide (ai .i64 (n.val:Int) 32=0))=sB (n.val:Int) 32:=by decide+kernel
structure Six (n:Int):Prop where
 z:bi .i64 n 63=0
 b3:(!decide (ai .i64 n 3=0))=(sB n 1||sB n 2)
 b12:(!decide (ai .i64 n 12=0))=(sB n 4||sB n 8)
 b1:(!decide (ai .i64 n 1=0))=sB n 1
 b2:(!decide (ai .i64 n 2=0))=sB n 2
 b4:(!decide (ai .i64 n 4=0))=sB n 4
 b8:(!decide (ai .i64 n 8=0))=sB n 8
 b16:(!decide (ai .i64 n 16=0))=sB n 16
 b32:(!decide (ai .i64 n 32=0))=sB n 32
theorem six {n:Int}(h0:0<=n)(h1:n<=63):Six n:=by
 have hf:=Rt ⟨n.toNat,by omega⟩;simp only [Xz h0] at hf;obtain ⟨f1,f2,f3,f4,f5,f6,f7,f8,f9⟩:=hf;exact ⟨f1,f2,f3,f4,f5,f6,f7,f8,f9⟩
def En (x y z:Bool):Int:=
 let p:=bif x then cO .i64 0 1 else 0
 let q:=bif y then cO .i64 p 2 else p
 bif z then cO .i64 q 4 else q
theorem Sf: ∀a:_root_.Fin 8, ∀x y z:Bool,(!decide (bi .i64 (a.val:Int) (En x y z)=0))=((sB (a.val:Int) 1&& !x)||(sB (a.val:Int) 2&& !y)||(sB (a.val:Int) 4&& !z)):=by decide+kernel
theorem TL: ∀x y z:Bool,0<=En x y z/\En x y z<2 ^ 3:=by decide+kernel
section
variable (N:Nat)
theorem HU (h:Six d.Has):aU N d 1=some (sB d.Has 1)/\aU N d 2=some (sB d.Has 2)/\aU N d 4=some (sB d.Has 4)/\aU N d 8=some (sB d.Has 8)/\aU N d 16=some (sB d.Has 16)/\aU N d 32=some (sB d.Has 32)/\aU N d 3=some (sB d.Has 1||sB d.Has 2)/\aU N d 12=some (sB d.Has 4||sB d.Has 8):=by
 unfold aU;rw [h.b1,h.b2,h.b4,h.b8,h.b16,h.b32,h.b3,h.b12];exact ⟨J,J,J,J,J,J,J,J⟩
theorem UN (h:Six d.Has):qK N d=some (En (sB d.Has 2) (sB d.Has 16) (sB d.Has 32)):=by
 obtain ⟨-,s2, -, -,a6,a7, -, -⟩:=HU N h;unfold qK rX rW qJ En;rw [s2,bs,a6,bs,bs,a7,bs,bs,bs,bs];cases sB d.Has 2<;>cases sB d.Has 16<;>cases sB d.Has 32<;>rfl
theorem E9 (h0:0<=d.Has)(h1:d.Has<=63){b:Int}(hb:1<=b):bc N d b=some (sB d.Has b):=by
 unfold bc;rw [Oq N h0 h1 hb,bs]
end
theorem LZ (N:Nat)(h:¬((0<=d.Has/\d.Has<=63)/\0<=d.Zk/\d.Zk<=7)):dZ N d=some false:=by
 unfold dZ
 have: ∀(x y z u:Bool) (k:Bool->Option Bool),((x||y)||z)||u=true->(((bif x then (some true) else (some y)).bind fun b2=>(bif b2 then (some true) else (some z)).bind fun b3=>(bif b3 then (some true) else (some u)).bind k):Option Bool)=k true:=fun x y z u k h=>by
  cases x<;>cases y<;>cases z<;>cases u<;>first|rfl|cases h
 rw [this _ _ _ _ _ (by
  simp only [Bool.or_eq_true,Y6]
  omega)]
 rfl
theorem Qc {x y:Bool}:(bif x then y else false)=(x&&y):=by cases x<;>rfl
theorem Sd {x y:Bool}:(bif x then true else y)=(x||y):=by cases x<;>rfl
theorem VJ {x y:Bool}:(bif x then false else y)=(!x&&y):=by cases x<;>rfl
theorem UH: ∀e1 e2 x1 vz k0 k7 x4 gz gh x8 sz sh:Bool,(gz=true->gh=true)->(sz=true->sh=true)->(!e1&&(!e2&&(!(!x1&& !vz||k0||k7)&&((bif !x4 then gz else gh)&&(bif !x8 then sz else sh)))))=(!(e1||e2)&&(!((k0||k7|| !gh)|| !sh)&&(((x1||vz)&&(x4||gz))&&(x8||sz)))):=by decide+kernel
theorem KI (N:Nat)(hi:in64 d.Has)(ha:in64 d.Zk):dZ N d=fA N d:=by
 by_cases hH:0<=d.Has/\d.Has<=63
 ·have h6:=six hH.1 hH.2;obtain ⟨s1,s2,s4,s8,a7,a8,s3,a6⟩:=HU N h6;have hask:=UN N h6;by_cases hA:0<=d.Zk/\d.Zk<=7
  ·have hat: ∀b:Int,1<=b->bP N d.Zk b=some (sB d.Zk b):=fun b hb=>Oq N hA.1 I hb
   have hf:=Sf ⟨d.Zk.toNat,by omega⟩ (sB d.Has 2) (sB d.Has 16) (sB d.Has 32);simp only [Xz hA.1] at hf
   have hg:d.Zx=v0->(bif decide (d.Zx.Zh=0) then true else decide (d.Zx.Zh=7))=true:=fun e=>by rw [e];rfl
   have hs:d.Zy=v0->(bif decide (d.Zy.Zh=0) then true else decide (d.Zy.Zh=7))=true:=fun e=>by rw [e];rfl
   unfold dZ fA kE dE rj vj;simp only [E9 N hH.1 hH.2 (show (1:Int)<=1 by omega),E9 N hH.1 hH.2 (show (1:Int)<=2 by omega),E9 N hH.1 hH.2 (show (1:Int)<=4 by omega),E9 N hH.1 hH.2 (show (1:Int)<=8 by omega),E9 N hH.1 hH.2 (show (1:Int)<=16 by omega),E9 N hH.1 hH.2 (show (1:Int)<=32 by omega),hat 1 I,hat 2 I,hat 4 I,s1,s2,s4,s8,a7,a8,s3,a6,hask,bs,Em,hf];rw [W9 h6.z,Xa (show¬d.Has<0 by omega),Xa (show¬63<d.Has by omega),Xa (show¬d.Zk<0 by omega),Xa (show¬7<d.Zk by omega)];change _=v0->_ at hg;change _=v0->_ at hs
   have hgz:decide (d.Zx=(⟨0,0,⟨#[]⟩⟩:WZ))=true->(bif decide (d.Zx.Zh=0) then true else decide (d.Zx.Zh=7))=true:=fun e=>hg (Y8 e)
   have hsz:decide (d.Zy=(⟨0,0,⟨#[]⟩⟩:WZ))=true->(bif decide (d.Zy.Zh=0) then true else decide (d.Zy.Zh=7))=true:=fun e=>hs (Y8 e)
   generalize (bif decide (d.Zx.Zh=0) then true else decide (d.Zx.Zh=7))=gh at hgz⊢;generalize (bif decide (d.Zy.Zh=0) then true else decide (d.Zy.Zh=7))=sh at hsz⊢;generalize decide (d.Zx=(⟨0,0,⟨#[]⟩⟩:WZ))=gz at hgz⊢;generalize decide (d.Zy=(⟨0,0,⟨#[]⟩⟩:WZ))=sz at hsz⊢;generalize decide (d.Value=(⟨0,0,⟨#[]⟩⟩:WZ))=vz;generalize decide (d.Value.Zh<0)=k0;generalize decide (7<d.Value.Zh)=k7;simp only [Qc,Sd,VJ,Bool.not_true,Bool.false_or];generalize ((sB d.Has 1||sB d.Has 2)&&(sB d.Has 4||sB d.Has 8))=e1;generalize (sB d.Zk 1&& !sB d.Has 2||sB d.Zk 2&& !sB d.Has 16||sB d.Zk 4&& !sB d.Has 32)=e2;generalize sB d.Has 1=x1;generalize sB d.Has 4=x4;generalize sB d.Has 8=x8;exact congrArg some (UH e1 e2 x1 vz k0 k7 x4 gz gh x8 sz sh hgz hsz)
  rw [LZ N fun h=>hA h.2]
  have hb:bi .i64 d.Zk (En (sB d.Has 2) (sB d.Has 16) (sB d.Has 32))≠0:=fun e=>by
   obtain ⟨q1,q2⟩:=TL (sB d.Has 2) (sB d.Has 16) (sB d.Has 32);have:=CQ (n:=3) ha q1 q2 I e;omega
  unfold fA;rw [hask,bs,Xa hb]
  have: ∀b2:Option Bool,(∃b,b2=some b)-> ∀k:Bool->Option Bool,k true=some false->(b2.bind fun b2=>(bif b2 then (some true) else (some (!false))).bind k)=some false:=fun b2 ⟨b,e⟩ k hk=>by
   rw [e,bs];cases b<;>exact hk
  refine (this _ ?_ _ J).symm;rw [s3,bs,a6,bs];cases decide (bi .i64 d.Has 63=0)<;>cases (sB d.Has 1||sB d.Has 2)<;>exact ⟨_,rfl⟩
 rw [LZ N fun h=>hH h.1]
 have hb:bi .i64 d.Has 63≠0:=fun e=>by
  have:=CQ (n:=6) hi I (by decide) I e;omega
 unfold fA;rw [Xa hb];rfl
end
end Go.Proofs.YtmcifcmlojonnaaGreatDoor