/- Merged texts: part 9. No conditions of their own. -/
import Derived.Test.YthhiddkljcacaaaGreatG8
import Derived.IntWalk
namespace Go.Proofs.YthhiddkljcacaaaGreat
variable (N:Nat){i x:Int}{ρ:Int->Int}{kv seen:List (Int×Bool)}{l:List (Vs×Int)}{f kept live lv met olds:List Int}{M j k:Nat}{F:Nat->Vp->Bool}{α β:Type}{c:Vd}{m:Ve}{t:Vi}{v:Vp}{s:Vq}{g:Vv}
section
open Go.RowKit
def bz {α:Type}(g:α->Nat):List α->Nat
 | []=>0
 |a::l=>g a+bz g l
theorem ts (g:α->Nat): ∀a b:List α,bz g (a++b)=bz g a+bz g b
 | [],b=>by simp [bz]
 |c::a,b=>by rw [V2,bz,bz,ts g a b];omega
theorem LV (g:α->Nat){a b:List α}(h:a.Perm b):bz g a=bz g b:=by
 induction h with
 |nil=>rfl
 |cons x _ ih=>rw [bz,bz,ih]
 |swap x y l=>rw [bz,bz,bz,bz];omega
 |trans _ _ h1 h2=>rw [h1,h2]
theorem rj (g:Int->Nat): ∀{l L:List Int},l.Nodup->(∀x∈l,x∈L)->bz g l<=bz g L
 | [],_,_,_=>Xa _
 |a::l,L,hn,hs=>by
  obtain ⟨h1,h2⟩:=List.nodup_cons.1 hn;have hp:=List.perm_cons_erase (hs a (by simp));rw [LV g hp,bz,bz]
  have:=rj g (l:=l) (L:=L.erase a) h2 fun x hx=>(List.mem_erase_of_ne (fun e:x=a=>h1 (by rw [<-e];exact hx))).2 (hs x (by simp [hx]))
  omega
theorem pp (g:β->Nat)(f:α->β): ∀l:List α,bz g (l.map f)=bz (fun x=>g (f x)) l
 | []=>rfl
 |x::l=>by rw [WC,bz,bz,pp g f l]
theorem DW {g h:α->Nat}: ∀{l:List α},(∀x∈l,g x<=h x)->bz g l<=bz h l
 | [],_=>W4 _
 |x::l,hh=>by
  rw [bz,bz];have h1:=hh x (by simp)
  have h2:=DW (l:=l) fun y hy=>hh y (by simp [hy])
  omega
theorem yl (f:α->List β): ∀l:List α,(l.flatMap f).length=bz (fun x=>(f x).length) l
 | []=>rfl
 |x::l=>by rw [Wb,Xp,bz,yl f l]
theorem AP (g h:α->Nat): ∀l:List α,bz (fun x=>g x+h x) l=bz g l+bz h l
 | []=>rfl
 |x::l=>by rw [bz,bz,bz,AP g h l];omega
def wC (c:Vd):Nat:=1+c.Xy.length+c.Xx.length
theorem xj: ∀l:List Vd,wt l=bz wC l
 | []=>rfl
 |c::l=>by rw [wt,bz,xj l];rfl
def C5 (m:Ve):List Int:=(List.range m.XA.length).map (fun i:Nat=>2*(i:Int)+1)++(List.range m.Xz.length).map (fun i:Nat=>2*(i:Int)+2)
theorem vS (m:Ve)(i:Nat)(h:i<m.XA.length):aJ m (2*(i:Int)+1)=m.XA[i]:=by
 unfold aJ jl;rw [if_neg U,if_pos U,show ((2*(i:Int)+1 - 1) / 2).toNat=i by omega,Wj h];rfl
theorem rM (m:Ve)(i:Nat)(h:i<m.Xz.length):aJ m (2*(i:Int)+2)=m.Xz[i]:=by
 unfold aJ jl;rw [if_neg U,if_neg U,show ((2*(i:Int)+2 - 2) / 2).toNat=i by omega,Wj h];rfl
theorem AA (m:Ve)(i:Nat):aw m (2*(i:Int)+1)=decide (i<m.XA.length):=by
 unfold aw jl;rw [if_neg U,if_pos U,show ((2*(i:Int)+1 - 1) / 2).toNat=i by omega];by_cases h:i<m.XA.length
 ·rw [Wj h,Vy h];rfl
 rw [Wk U,Vz h];rfl
theorem sd (m:Ve)(i:Nat):aw m (2*(i:Int)+2)=decide (i<m.Xz.length):=by
 unfold aw jl;rw [if_neg U,if_neg U,show ((2*(i:Int)+2 - 2) / 2).toNat=i by omega];by_cases h:i<m.Xz.length
 ·rw [Wj h,Vy h];rfl
 rw [Wk U,Vz h];rfl
theorem FS (m:Ve):(C5 m).map (aJ m)=m.XA++m.Xz:=by
 unfold C5;rw [WB,List.map_map,List.map_map]
 congr 1
 ·refine List.ext_getElem (by simp) fun i h1 h2=> ?_
  simp only [Wt,List.getElem_range,Function.comp];exact vS m i h2
 refine List.ext_getElem (by simp) fun i h1 h2=> ?_
 simp only [Wt,List.getElem_range,Function.comp];exact rM m i h2
theorem fq {a:Int}(h:aw m a=true):(∃i:Nat,i<m.XA.length/\a=2*(i:Int)+1)\/ ∃i:Nat,i<m.Xz.length/\a=2*(i:Int)+2:=by
 rcases wE m a with ⟨h1,h2⟩|⟨k,h1, -⟩|⟨k,h1, -⟩
 ·unfold aw at h;rw [h2] at h;cases h
 ·subst h1;rw [AA] at h;exact .inl ⟨k,Xn h,J⟩
 subst h1;rw [sd] at h;exact .inr ⟨k,Xn h,J⟩
theorem vN {a:Int}(h:aw m a=true):a∈C5 m:=by
 unfold C5;rcases fq h with ⟨i,h1,rfl⟩|⟨i,h1,rfl⟩
 ·exact VC _ (WI.2 ⟨i,WK.2 h1,J⟩)
 exact VD _ (WI.2 ⟨i,WK.2 h1,J⟩)
theorem Nv {l:List Int}(hn:l.Nodup)(hh:∀a∈l,aw m a=true):bz (fun a=>wC (aJ m a)) l<=wt m.XA+wt m.Xz:=by
 have h1:=rj (fun a=>wC (aJ m a)) hn fun a ha=>vN (hh a ha)
 have h2:=pp wC (aJ m) (C5 m);rw [FS, <-xj,Ef] at h2;omega
theorem mK {a:Int}(h:aw m a=true):aJ m a∈m.XA++m.Xz:=by
 unfold aw at h;unfold aJ
 cases hc:jl m a with
 |none=>rw [hc] at h;cases h
 |some c=>exact uv hc
theorem Iz {a:Int}(h:0<a):a.tmod 2=0\/a.tmod 2=1:=by
 rw [tl U];omega
theorem Ku (hp:∀a∈live,0<a)(a:Int):a∈pF live↔a∈live:=by
 unfold pF wP F8;rw [WE,WH,WH,Xl,Xl];constructor
 ·rintro (h|h)<;>exact h.1
 intro h;rcases Iz (hp a h) with h2|h2
 ·exact .inl ⟨h,h2⟩
 exact .inr ⟨h,h2⟩
theorem E5: ∀{live:List Int},(∀a∈live,0<a)->(pF live).length=live.length
 | [],_=>rfl
 | a::l,hp=>by
  have ih:=E5 (live:=l) fun b hb=>hp b (by simp [hb])
  unfold pF at ih⊢;rw [Xp] at ih⊢;rcases Iz (hp a (by simp)) with h|h
  ·have e1:wP a=true:=Vy h;have e2:F8 a=false:=Vz U;simp only [V9,e1,e2,if_true,VQ,if_false,Wv];omega
  have e1:wP a=false:=Vz U;have e2:F8 a=true:=Vy h;simp only [V9,e1,e2,if_true,VQ,if_false,Wv];omega
theorem MB (h:live.Pairwise (· < ·)):(pF live).Pairwise fun a b=> ¬(a.tmod 2=1/\b.tmod 2=0)/\(a.tmod 2=b.tmod 2->a<b):=by
 have hev: ∀a∈live.filter wP,a.tmod 2=0:=fun a ha=>Xn (WH.1 ha).2
 have hod: ∀a∈live.filter F8,a.tmod 2=1:=fun a ha=>Xn (WH.1 ha).2
 unfold pF;refine List.pairwise_append.2 ⟨(h.filter _).imp_of_mem fun {a b} ha hb hlt=>⟨fun hh=> ?_,fun _=>hlt⟩,(h.filter _).imp_of_mem fun {a b} ha hb hlt=>⟨fun hh=> ?_,fun _=>hlt⟩,fun a ha b hb=>⟨fun hh=> ?_,fun hh=> ?_⟩⟩
 ·have:=hev a ha;omega
 ·have:=hod b hb;omega
 ·have:=hev a ha;omega
 have:=hev a ha;have:=hod b hb;omega
theorem sT {p:α->Bool}{l:List α}(h:l.all p=true){x:α}(hx:x∈l):p x=true:=VY.1 h x hx
theorem G8 {N:Nat}{roots:List Vp}(h:nW N m roots=0):(∀c∈m.XA++m.Xz,rT N c=true)/\(∀c∈m.XA++m.Xz, ∀x∈cp c,aw m x=true)/\ ∀x∈bR roots,aw m x=true:=by
 unfold nW at h
 cases h1:(m.XA++m.Xz).all (rT N) with
 |false=>rw [h1] at h;cases h
 | true=>
  rw [h1] at h
  cases h2:iP m ((m.XA++m.Xz).flatMap cp++bR roots) with
  |false=>rw [h2] at h;cases h
  |true=>
   unfold iP at h2;refine ⟨fun c hc=>sT h1 hc,fun c hc x hx=>sT h2 (VC _ (List.mem_flatMap.2 ⟨c,hc,hx⟩)),fun x hx=>sT h2 (VD _ hx)⟩
structure Live (N:Nat) (m:Ve) (roots:List Vp) (live f:List Int):Prop where
 ord: ∃b all,IsOrder (FW N m) (bR roots) b all/\live=kk all/\f=pF live
 prog:nB N m roots=some live
 ref:EI N m roots=some live
 mem: ∀a,a∈f↔a∈live
 len:f.length=live.length
 small:live.length<=1200
 nd:f.Nodup
 asc:live.Pairwise (· < ·)
 has: ∀a∈live,aw m a=true
theorem MC (h:live.Pairwise (· < ·)):(pF live).Nodup:=by
 rw [List.nodup_iff_pairwise_ne]
 refine (MB h).imp fun {a b} hab e=> ?_
 have:=hab.2 (by rw [e]);omega
theorem PY (N:Nat)(hN:6500<N){roots:List Vp}(hs:Small m roots)(hw:W64 m)(hr:∀v∈roots,in64 v.N): ∃live f,Live N m roots live f:=by
 obtain ⟨bg,all,ho,hlen, -, -,o0⟩:=Mq N hN hs hw hr;obtain ⟨b',all',ho',r0, -⟩:=Kb N hN hs hw hr;obtain ⟨-,e2⟩:=ho.det ho';subst e2;have hll:(kk all).length=all.length:=vu all;have hmem:=sW all;have hasc:=Gq ho.nodup.2
 have hhas: ∀a∈kk all,aw m a=true:=fun a ha=>ho.has.2 a ((hmem a).1 ha)
 have hpos: ∀a∈kk all,0<a:=fun a ha=>ue (hhas a ha)
 refine ⟨kk all,pF (kk all),⟨⟨_,all,ho,J,J⟩,PZ o0 U J,?_,Ku hpos,E5 hpos,by omega,MC hasc,hasc,hhas⟩⟩;unfold EI;rw [r0,bs,Kd N hN all U ho.nodup.2,bs]
theorem Live.fhas {N:Nat}{roots:List Vp}(h:Live N m roots live f){a:Int}(ha:a∈f):aw m a=true:=h.has a ((h.mem a).1 ha)
theorem Iy {N:Nat}{roots:List Vp}(h:Live N m roots live f):(f.flatMap fun a=>iR live (aJ m a)).length+wt (f.map fun a=>lF (sX f) f (mI N live (aJ m a)))<=wt m.XA+wt m.Xz:=by
 have h1:=Nv h.nd fun a ha=>h.fhas ha
 rw [yl,xj,pp, <-AP];refine W5 (DW fun a ha=> ?_) h1;have:=sS N live (aJ m a);unfold wC lF;simp only [Xr];omega
theorem Cm {N:Nat}{roots:List Vp}(h:Live N m roots live f)(n:Nat):((f.take n).flatMap fun a=>iR live (aJ m a)).length<=wt m.XA+wt m.Xz:=by
 have h1:=Iy h
 have h2:(f.flatMap fun a=>iR live (aJ m a))=((f.take n).flatMap fun a=>iR live (aJ m a))++((f.drop n).flatMap fun a=>iR live (aJ m a)):=by rw [<-Wa,WS]
 rw [h2,Xp] at h1;omega
def OX (m:Ve)(roots:List Vp)(live f:List Int):Ve×List Vp×List Vp×Int:=
 bif decide (nW N m roots=0) then ((Jy N m roots live f).next,(Jy N m roots live f).now,(Jy N m roots live f).gone,0) else (⟨[],[]⟩,[],[],nW N m roots)
theorem If (N:Nat)(hN:6500<N){roots:List Vp}(hs:Small m roots)(ht:Wtd m roots)(hw:W64 m)(hr:∀v∈roots,in64 v.N)(hl:Live N m roots live f):oF N m roots=some (OX N m roots live f):=by
 apply Sat.eq;have hle:=ht.le;have hlen:=hl.small;have hfl:=hl.len;unfold oF OX;rw [FN N hN hs ht hw hr,bs];by_cases h0: ¬nW N m roots=0
 ·rw [iO h0];exact ad J
 replace h0:nW N m roots=0:=by omega
 rw [sP h0];simp only [nt,cf,ct];obtain ⟨c1,c2,c3⟩:=G8 h0;obtain ⟨_,_,_,hlv,hff⟩:=hl.ord;rw [hl.prog,bs];unfold md;rw [bs];refine Sat.bind (ER N (fun x st=>mE N roots m live x st) live U hN (fun n s=>RhoM s (f.take n)) ?_ [] ?_) ?_
 ·intro n a s ha h1;rw [<-hff] at ha;have hn:=(Wl.1 ha).1;rw [Wj hn,Xf] at ha;unfold mE;simp only;rw [r64 U U,r64 U U];refine ad ⟨J,?_⟩;rw [<-ha];exact h1.add hn hl.nd
 ·simpa using RhoM.nil
 rintro ⟨e,kv⟩ ⟨g1,g2⟩;simp only at g1 g2;subst g1;rw [<-hff,Xs] at g2;unfold sE;simp only [bs]
 have hG: ∀a∈f,(mI N live (aJ m a)).Xy.length<=600/\(mI N live (aJ m a)).Xx.length<=2900:=fun a ha=>by
  have h1:=sS N live (aJ m a);have h2:=hs.at_ a;omega
 refine Sat.bind (ER N (fun x st=>mD N roots m live (none,kv) x st) live U hN (fun n s=>s.1=(f.take n).map (fun a=>lF (sX f) f (mI N live (aJ m a)))/\s.2=(f.take n).flatMap fun a=>iR live (aJ m a)) ?_ ([],[]) ⟨by simp,by simp⟩) ?_
 ·rintro n a ⟨p,q⟩ ha ⟨h1,h2⟩;rw [<-hff] at ha;simp only at h1 h2;have hn:=(Wl.1 ha).1;have ham:a∈f:=WJ ha;rw [Wj hn,Xf] at ha
  have hpl:p.length<=2000:=by rw [h1,Xr,Xq];omega
  have hql:q.length<=2900:=by have:=Cm hl n;rw [h2];omega
  have hq2:=Cm hl (n+1);have hat:=Im N hs a (qW hs (hl.fhas ham));have hsm:=hs.at_ a;have hrt:=c1 _ (mK (hl.fhas ham));have hc:=hG a ham;rw [ay hn,ha,Wa, <-h2,Xp] at hq2;simp only [Wb,List.flatMap_nil,VZ] at hq2
  -- the last part
  have last: ∀q',q'=q++iR live (aJ m a)->Sat (jP N roots m p live (none,kv) q' (mI N live (aJ m a)).Xw (mI N live (aJ m a)).XD (mI N live (aJ m a)).XB (mI N live (aJ m a)).XC (mI N live (aJ m a)).Xy (mI N live (aJ m a)).Xx) fun r=>r.1=none/\r.2.1=(f.take (n+1)).map (fun a=>lF (sX f) f (mI N live (aJ m a)))/\r.2.2=(f.take (n+1)).flatMap fun a=>iR live (aJ m a):=by
   intro q' hq';unfold jP;rw [wl N hN _ U kv f g2,bs,wl N hN _ U kv f g2,bs,rF (by simp;omega)];refine ad ⟨J,?_,?_⟩
   ·rw [ay hn,WB, <-h1,ha];rfl
   rw [ay hn,Wa, <-h2,ha,hq'];simp
  unfold mD;simp only;rw [hat,bs];unfold mI iR at last;unfold iR at hq2;by_cases h8:(aJ m a).Xw=8
  ·have hwm:sa N (aJ m a)=true:=by unfold sa;rw [Vy h8];exact hrt
   rw [sP h8,ct,FK N hN live U _ hsm.1 hsm.2,bs,hwm,ct];rw [Vy h8,Vz (p:=(aJ m a).Xw=10) U] at last;simp only [cond_true,cond_false,VZ] at last;exact last q J
  by_cases h10:(aJ m a).Xw=10
  ·have hwm:Ga N (aJ m a)=true:=by unfold Ga;rw [Vy h10];exact hrt
   rw [iO h8,cf,sP h10,ct,zW N hN live U _ hsm.1 hsm.2,bs,hwm,ct];rw [Vy h10] at hq2;rw [Vz h8,Vy h10] at last;simp only [cond_true,cond_false] at last hq2;rw [rF U];exact last _ J
  rw [iO h8,cf,iO h10,cf];rw [Vz h8,Vz h10] at last;simp only [cond_true,cond_false,VZ] at last;exact last q J
 rintro ⟨e,p,q⟩ ⟨g1,g3,g4⟩;simp only at g1 g3 g4;subst g1;rw [<-hff,Xs] at g3 g4;have hrl:=hs.roots
 have hql:q.length<=2900:=by have:=Cm hl f.length;rw [Xs] at this;rw [g4];omega
 simp only;rw [wl N hN _ U kv f g2,bs,wl N hN _ U kv f g2,bs];refine ad ?_;unfold Jy;rw [g3,g4]
theorem vd {a:Int}(h:a∈f):f.idxOf a<f.length:=List.idxOf_lt_length_iff.2 h
theorem qX {a:Int}(h:a∈f):f[f.idxOf a]'(vd h)=a:=List.getElem_idxOf (vd h)
theorem Lc {a b:Int}(ha:a∈f)(hb:b∈f)(h:sX f a=sX f b):a=b:=by
 unfold sX at h
 have e:f.idxOf a=f.idxOf b:=by omega
 have h1:=qX ha;have h2:=qX hb;rw [<-h1, <-h2]
 congr 1
theorem Lb (f:List Int):Ren (sX f) f:=⟨fun _ _ h1 h2 h3=>Lc h1 h2 h3,fun a _=>by unfold sX;omega⟩
theorem HK (ρ:Int->Int)(f:List Int)(v:Vp):bd (bI ρ f v)=bd v:=MR (by unfold bI;cases bd v&&decide (v.N∈f)<;>rfl)
theorem tO (h1:bd v=true)(h2:v.N∈f):bI ρ f v=⟨v.Xw,ρ v.N,v.S⟩:=by
 unfold bI;rw [h1,Vy h2];rfl
theorem D0: ∀{i:Nat} {l:List Vp} {j:Nat} {v:Vp},l[j]? =some v->F (i+j) v=true->v.N∈pick F i l
 |i,w::l,0,v,h,hF=>by
  simp only [Wh,Xf] at h;subst h;rw [pf];rw [Nat.add_zero] at hF;rw [hF];simp
 |i,w::l,j+1,v,h,hF=>by
  simp only [Wg] at h;rw [pf];exact VD _ (D0 (i:=i+1) h (by rw [show i+1+j=i+(j+1) by omega];exact hF))
 |i,[],j,v,h,_=>by simp at h
def jm (f:List Int)(l:List Vp):Prop:= ∀v∈l,bd v=true->v.N∈f
theorem IE (h:∀x∈ce c,x∈f):jm f c.Xy:=fun v hv hb=>by
 obtain ⟨j,hj,e⟩:=Wu hv;refine h _ (VC _ (D0 (j:=j) (by rw [Wj hj,e]) hb))
theorem D3 (h:∀x∈ce c,x∈f)(hj:c.Xx[j]? =some v)(hw:nX c.Xw j=false)(hb:bd v=true):v.N∈f:=
 h _ (VD _ (D0 (j:=j) hj (by rw [W9,hw,hb];rfl)))
theorem JW {k:Int}(h8:k≠8)(h10:k≠10)(i:Nat):nX k i=false:=by
 unfold nX;rw [iO h8,iO h10];rfl
theorem G7 (hlv:∀x,x∈lv↔x∈f): ∀{l:List Vp},sD l=true->(∀x∈opens (fun x=>decide (x∈lv)) l,x∈f)->jm f (i3 (fun x=>decide (x∈lv)) l)
 | [],_,_=>fun v hv=>by simp [i3] at hv
 | [_],h,_=>by cases h
 | k::v::r,h,ho=>by
  rw [o6] at h;rw [Xt] at h;rw [qx] at ho
  have ih:=G7 hlv h.2 fun x hx=>ho x (VD _ hx)
  intro w hw hb;simp only [yu] at hw;rcases WE.1 hw with hw|hw
  ·cases hd:decide (k.N∈lv) with
   |false=>rw [hd] at hw;cases hw
   |true=>
    rw [hd] at hw;simp only [cond_true,WF,List.not_mem_nil,or_false] at hw;rcases hw with rfl|rfl
    ·exact (hlv _).1 (Xn hd)
    exact ho _ (VC _ (by rw [hb,hd];simp))
  exact ih w hw hb
theorem Lr (hlv:∀x,x∈lv↔x∈f): ∀{l:List Vp},nM l=true->(∀j v,l[4*j+1]? =some v->bd v=true->v.N∈f)->jm f (er lv l)
 | [],_,_=>fun v hv=>by simp [er] at hv
 | [_],h,_=>by cases h
 | [_,_],h,_=>by cases h
 | [_,_,_],h,_=>by cases h
 | t ::a::k::s::r,h,ho=>by
  rw [oZ] at h;simp only [Xt,Xl] at h;obtain ⟨⟨⟨h1, -⟩,h3,h4⟩,h5⟩:=h
  have ih:=Lr hlv h5 fun j v hj hb=>ho (j+1) v (by rw [show 4*(j+1)+1=4*j+1+4 by omega];simpa using hj) hb
  intro w hw hb;simp only [wv] at hw;rcases WE.1 hw with hw|hw
  ·cases hd:decide (t.N∈lv) with
   |false=>rw [hd] at hw;cases hw
   | true=>
    rw [hd] at hw;simp only [cond_true,WF,List.not_mem_nil,or_false] at hw;rcases hw with rfl|rfl|rfl|rfl
    ·exact (hlv _).1 (Xn hd)
    ·exact ho 0 w J hb
    ·cases hk:decide (k.Xw=7)&& !decide (k.N∈lv) with
     |true=>rw [hk] at hb;cases hb
     | false=>
      rw [hk] at hb;simp only [cond_false] at hb⊢
      have a6:k.Xw=7:=by
       unfold noneB at h3;rw [Bool.or_eq_true,Xl,Xl] at h3;rcases h3 with h3|h3
       ·unfold bd at hb;rw [h3] at hb;cases hb
       exact h3
      rw [Vy a6,VR] at hk;exact (hlv _).1 (by by_cases hm:k.N∈lv;exact hm;rw [Vz hm] at hk;cases hk)
    have:w.Xw=3:=by
     unfold numB at h4;rw [Xt,Xl] at h4;exact h4.1
    unfold bd at hb;rw [this] at hb;cases hb
  exact ih w hw hb
structure CellOk (N:Nat) (lv f:List Int) (c:Vd):Prop where
 big:6500<N
 right:bm c=true
 slots:c.Xy.length<=600
 more:c.Xx.length<=2900
 leads: ∀x∈ce c,x∈f
 opens: ∀x∈dJ N c lv,x∈f
 mem: ∀x,x∈lv↔x∈f
theorem KE {N:Nat}(hN:6500<N)(h:bm c=true)(hS:c.Xy.length<=600)(hM:c.Xx.length<=2900):sa N c=decide (c.Xw=8):=by
 unfold sa;rw [qr N hN c U U,h];cases decide (c.Xw=8)<;>rfl
theorem KF {N:Nat}(hN:6500<N)(h:bm c=true)(hS:c.Xy.length<=600)(hM:c.Xx.length<=2900):Ga N c=decide (c.Xw=10):=by
 unfold Ga;rw [qr N hN c U U,h];cases decide (c.Xw=10)<;>rfl
theorem IK {N:Nat}(hN:6500<N)(hS:c.Xy.length<=600)(hM:c.Xx.length<=2900):rT N c=bm c:=by
 unfold rT;rw [qr N hN c U U];rfl
section
variable {N:Nat}
theorem Jz:(mI N lv c).Xw=c.Xw/\(mI N lv c).XD=c.XD/\(mI N lv c).XB=c.XB/\(mI N lv c).Xy=c.Xy:=by
 unfold mI sf;cases decide (c.Xw=8)<;>cases decide (c.Xw=10)<;>cases sa N c<;>exact ⟨rfl,rfl,rfl,rfl⟩
theorem CellOk.new (hρ:Ren ρ f)(h:CellOk N lv f c):bm (lF ρ f (mI N lv c))=true/\(lF ρ f (mI N lv c)).Xy.length<=600/\(lF ρ f (mI N lv c)).Xx.length<=2900/\(lF ρ f (mI N lv c)).Xw=c.Xw:=by
 have h1:=sS N lv c;have h2:=h.slots;have h3:=h.more;exact ⟨ME hρ (Nd N lv h.right),by unfold lF;simp only [Xr];omega,by unfold lF;simp only [Xr];omega,Jz.1⟩
theorem CellOk.ent2 (h:CellOk N lv f c)(h8:c.Xw=8):sD c.Xx=true:=by
 have:=(uB h.right).2.2;rw [h8] at this;exact this
theorem CellOk.ent4 (h:CellOk N lv f c)(h10:c.Xw=10):1<=c.Xx.length/\(rc c.Xx 0).Xw=7/\nM (c.Xx.drop 1)=true:=by
 have:=(uB h.right).2.2;rw [h10] at this;have h3':(decide (1<=c.Xx.length)&&decide ((rc c.Xx 0).Xw=7)&&nM (c.Xx.drop 1))=true:=this;simp only [Xt,Xl] at h3';exact ⟨h3'.1.1,h3'.1.2,h3'.2⟩
theorem CellOk.wm (h:CellOk N lv f c):sa N c=decide (c.Xw=8):=KE h.big h.right h.slots h.more
theorem CellOk.fr (h:CellOk N lv f c):Ga N c=decide (c.Xw=10):=KF h.big h.right h.slots h.more
theorem CellOk.clC8 (h:CellOk N lv f c)(h8:c.Xw=8):mI N lv c=⟨c.Xw,c.XD,c.XB,c.XC,c.Xy,i3 (fun x=>decide (x∈lv)) c.Xx⟩:=by
 unfold mI sf;rw [h.wm,Vy h8];rfl
theorem CellOk.clC10 (h10:c.Xw=10):mI N lv c=⟨c.Xw,c.XD,c.XB,c.XC,c.Xy,c.Xx.take 1++er lv (c.Xx.drop 1)⟩:=by
 unfold mI;rw [Vz (p:=c.Xw=8) U,Vy h10];rfl
theorem CellOk.clC0 (h8:c.Xw≠8)(h10:c.Xw≠10):mI N lv c=c:=by
 unfold mI;rw [Vz h8,Vz h10];rfl
theorem CellOk.inC (h:CellOk N lv f c):jm f (mI N lv c).Xy/\jm f (mI N lv c).Xx:=by
 refine ⟨by rw [Jz.2.2.2];exact IE h.leads,?_⟩;by_cases h8:c.Xw=8
 ·rw [h.clC8 h8];have ho:=h.opens;unfold dJ at ho;rw [h.wm,Vy h8,cond_true] at ho;exact G7 h.mem (h.ent2 h8) ho
 by_cases h10:c.Xw=10
 ·rw [CellOk.clC10 h10];obtain ⟨q1,q2,q3⟩:=h.ent4 h10
  obtain ⟨a,r,hr⟩: ∃a r,c.Xx=a::r:=by
   cases hm:c.Xx with
   |nil=>rw [hm] at q1;simp at q1
   |cons a r=>exact ⟨a,r,rfl⟩
  rw [hr] at q3;have q3':nM r=true:=q3;intro v hv hb
  have hv':v=a\/v∈er lv r:=by
   have:v∈a::er lv r:=by rw [hr] at hv;exact hv
   exact WF.1 this
  rcases hv' with rfl|hv'
  ·refine D3 h.leads (j:=0) (by rw [hr];rfl) ?_ hb;unfold nX;rw [h10];rfl
  refine Lr h.mem q3' (fun j w hj hw=>D3 h.leads (j:=4*j+2) (by rw [hr,show 4*j+2=(4*j+1)+1 by omega,Wg];exact hj) ?_ hw) v hv' hb;unfold nX;rw [h10]
  have e1:(((4*j+2:Nat):Int) - 1).tmod 4=1:=by rw [VV U];omega
  have e2:((1:Int)).tmod 2=1:=rfl;rw [e1,e2];cases decide ((0:Int)<((4*j+2:Nat):Int))<;>rfl
 rw [CellOk.clC0 h8 h10];intro v hv hb;obtain ⟨j,hj,e⟩:=Wu hv;exact D3 h.leads (j:=j) (by rw [Wj hj,e]) (JW h8 h10 j) hb
end
end
section
open Go.RowKit
theorem Cf (hv:v∈c.Xy++c.Xx)(hb:bd v=true):v.N∈cp c:=by
 unfold cp;rcases WE.1 hv with hv|hv
 ·exact VC _ (IE (f:=ce c) (fun x hx=>hx) v hv hb)
 obtain ⟨j,hj,e⟩:=Wu hv
 cases hw:nX c.Xw j with
 |false=>exact VC _ (D3 (f:=ce c) (fun x hx=>hx) (by rw [Wj hj,e]) hw hb)
 |true=>exact VD _ (D0 (j:=j) (by rw [Wj hj,e]) (by rw [W9,hw,hb];rfl))
theorem yU {p:Int->Bool}: ∀{l:List Vp},x∈opens p l-> ∃v∈l,bd v=true/\v.N=x
 | [],h=>by simp [opens] at h
 | [_],h=>by simp [opens] at h
 | k::v::l,h=>by
  rw [qx] at h;rcases WE.1 h with h|h
  ·cases hv:bd v&&p k.N with
   |false=>rw [hv] at h;cases h
   |true=>
    rw [hv] at h;rw [Xt] at hv;exact ⟨v,by simp,hv.1,(WL.1 h).symm⟩
  obtain ⟨w,h1,h2⟩:=yU h;exact ⟨w,by simp [h1],h2⟩
structure CollCtx (N:Nat) (m:Ve) (roots:List Vp) (live f:List Int):Prop where
 big:6500<N
 small:Small m roots
 tot:Wtd m roots
 w64:W64 m
 r64: ∀v∈roots,in64 v.N
 lv:Live N m roots live f
 right: ∀c∈m.XA++m.Xz,bm c=true
 addr: ∀c∈m.XA++m.Xz, ∀x∈cp c,aw m x=true
 roots: ∀x∈bR roots,aw m x=true
theorem R6 {N:Nat}(hN:6500<N){roots:List Vp}(hs:Small m roots)(ht:Wtd m roots)(hw:W64 m)(hr:∀v∈roots,in64 v.N)(hl:Live N m roots live f)(h0:nW N m roots=0):CollCtx N m roots live f:=by
 obtain ⟨h1,h2,h3⟩:=G8 h0;exact ⟨hN,hs,ht,hw,hr,hl,fun c hc=>by have:=hs.cells c hc;rw [<-IK (N:=N) U this.1 this.2];exact h1 c hc,h2,h3⟩
section
variable {N:Nat}{roots:List Vp}(h:CollCtx N m roots live f)
include h
theorem CollCtx.mem (x:Int):x∈live↔x∈f:=(h.lv.mem x).symm
theorem CollCtx.cell {a:Int}(ha:a∈f):CellOk N live f (aJ m a):=by
 have hm:=mK (h.lv.fhas ha);obtain ⟨b,all,ho,hlv, -⟩:=h.lv.ord
 have hall: ∀x,x∈all↔x∈f:=fun x=>by rw [<-h.mem x,hlv];exact (sW all x).symm
 obtain ⟨q1,q2⟩:=ho.closed;have hs:=h.small.cells _ hm;have hN:=h.big;refine ⟨by omega,h.right _ hm,hs.1,hs.2,fun x hx=> ?_,fun x hx=> ?_,h.mem⟩
 ·exact (hall x).1 (q1 a ((hall a).2 ha) x hx (h.addr _ hm x (VC _ hx)))
 have e:dJ N (aJ m a) live=dJ N (aJ m a) all:=by
  unfold dJ;rw [IT (q:=fun x=>decide (x∈all)) fun x=>iq (by rw [h.mem x];exact (hall x).symm)]
 rw [e] at hx;refine (hall x).1 (q2 a ((hall a).2 ha) x hx ?_);unfold dJ at hx
 cases hw:sa N (aJ m a) with
 |false=>rw [hw] at hx;cases hx
 |true=>
  rw [hw] at hx;obtain ⟨v,hv,hb,rfl⟩:=yU hx;exact h.addr _ hm _ (Cf (VD _ hv) hb)
theorem CollCtx.root (hx:x∈bR roots):x∈f:=by
 obtain ⟨b,all,ho,hlv, -⟩:=h.lv.ord;rw [<-h.mem x,hlv,sW];exact ho.sub (ho.roots hx (h.roots x hx))
theorem CollCtx.rootIn:jm f roots:=fun v hv hb=>h.root (qJ.2 ⟨v,hv,hb,rfl⟩)
end
def io (m:Ve)(live f:List Int):Ve:=⟨[],f.map fun a=>lF (sX f) f (mI N live (aJ m a))⟩
theorem IY {N:Nat}{a:Int}(ha:a∈f):aw (io N m live f) (sX f a)=true:=by
 unfold sX;rw [sd];exact Vy (by unfold io;simp only [Xr];exact vd ha)
theorem PT {N:Nat}{a:Int}(ha:a∈f):aJ (io N m live f) (sX f a)=lF (sX f) f (mI N live (aJ m a)):=by
 have e:sX f a=2*((f.idxOf a:Nat):Int)+2:=rfl;rw [e,rM _ _ (by unfold io;simp only [Xr];exact vd ha)];unfold io;simp only [Wt];rw [qX ha]
theorem GK (hf:f.length<=100000)(hv:in64 v.N):in64 (bI (sX f) f v).N:=by
 unfold bI
 cases hb:bd v&&decide (v.N∈f) with
 |false=>exact hv
 |true=>
  rw [Xt,Xl] at hb;have:=vd hb.2;show in64 (sX f v.N);unfold sX in64;omega
theorem LH {N:Nat}(hv:v∈(mI N lv c).Xy++(mI N lv c).Xx):v∈c.Xy++c.Xx\/v=mO:=by
 unfold mI at hv
 cases h8:decide (c.Xw=8) with
 |true=>rw [h8] at hv;exact .inl (KQ hv)
 | false=>
  rw [h8] at hv
  cases h10:decide (c.Xw=10) with
  |false=>rw [h10] at hv;exact .inl hv
  |true=>
   rw [h10] at hv;have hv':v∈c.Xy++(c.Xx.take 1++er lv (c.Xx.drop 1)):=hv;rcases WE.1 hv' with hv'|hv'
   ·exact .inl (VC _ hv')
   rcases WE.1 hv' with hv'|hv'
   ·exact .inl (VD _ (List.mem_of_mem_take hv'))
   rcases Fi lv hv' with hv'|hv'
   ·exact .inl (VD _ (List.mem_of_mem_drop hv'))
   exact .inr hv'
section
variable {N:Nat}{roots:List Vp}(h:CollCtx N m roots live f)
include h
theorem CollCtx.flen:f.length<=1200:=by rw [h.lv.len];exact h.lv.small
theorem CollCtx.flen6:f.length<=600:=by
 have h1:=rj (fun _=>1) h.lv.nd fun a ha=>vN (h.lv.fhas ha)
 have h2: ∀l:List Int,bz (fun _=>1) l=l.length:=fun l=>by
  induction l with
  |nil=>rfl
  |cons x l ih=>rw [bz,ih,Wv];omega
 rw [h2,h2] at h1;have h3:=h.tot.cnt;unfold C5 at h1;simp only [Xp,Xr,List.length_range] at h1;omega
theorem CollCtx.nextW:W64 (io N m live f):=fun c hc v hv=>by
 have hl:=h.flen
 have hc':c∈f.map fun a=>lF (sX f) f (mI N live (aJ m a)):=hc
 obtain ⟨a,ha,rfl⟩:=WI.1 hc'
 have hv':v∈((mI N live (aJ m a)).Xy++(mI N live (aJ m a)).Xx).map (bI (sX f) f):=by rw [WB];exact hv
 obtain ⟨w,hw,rfl⟩:=WI.1 hv';refine GK U ?_;rcases LH hw with hw|rfl
 ·exact h.w64.at_ a w hw
 show in64 0;unfold in64;omega
theorem CollCtx.nextS (l:List Vp)(hl:l.length<=600):Small (io N m live f) l:=by
 refine ⟨Xa _,?_,hl,fun c hc=> ?_⟩
 ·unfold io;simp only [Xr];exact h.flen6
 have hc':c∈f.map fun a=>lF (sX f) f (mI N live (aJ m a)):=hc
 obtain ⟨a,ha,rfl⟩:=WI.1 hc';obtain ⟨-,g2,g3, -⟩:=(CellOk.new (Lb f) (h.cell ha));exact ⟨g2,g3⟩
end
theorem Bk (hB:∀i v,F i v=true->bd v=true): ∀{i:Nat} {l:List Vp},x∈pick F i l-> ∃v∈l,bd v=true/\v.N=x
 |_,[],h=>by cases h
 | i,v::l,h=>by
  rw [pf] at h;rcases WE.1 h with h|h
  ·cases hf:F i v with
   |false=>rw [hf] at h;cases h
   |true=>rw [hf] at h;exact ⟨v,by simp,hB i v hf,(WL.1 h).symm⟩
  obtain ⟨w,g1,g2⟩:=Bk hB h;exact ⟨w,by simp [g1],g2⟩
theorem zk (h:x∈cp c): ∃v∈c.Xy++c.Xx,bd v=true/\v.N=x:=by
 unfold cp ce mq at h;rcases WE.1 h with h|h
 ·rcases WE.1 h with h|h
  ·obtain ⟨v,g1,g2⟩:=Bk (fun _ _ h=>h) h;exact ⟨v,VC _ g1,g2⟩
  obtain ⟨v,g1,g2⟩:=Bk (fun i v h=>((Xt _ _).mp h).2) h;exact ⟨v,VD _ g1,g2⟩
 obtain ⟨v,g1,g2⟩:=Bk (fun i v h=>((Xt _ _).mp h).2) h;exact ⟨v,VD _ g1,g2⟩
section
variable {N:Nat}{roots:List Vp}(h:CollCtx N m roots live f)
include h
theorem CollCtx.now64: ∀v∈roots.map (bI (sX f) f),in64 v.N:=fun v hv=>by
 have hl:=h.flen;obtain ⟨w,hw,rfl⟩:=WI.1 hv;exact GK U (h.r64 w hw)
theorem CollCtx.newHas {l:List Vp}(hl:jm f l)(hv:v∈l.map (bI (sX f) f))(hb:bd v=true):aw (io N m live f) v.N=true:=by
 have _:=h;obtain ⟨w,hw,rfl⟩:=WI.1 hv;rw [HK] at hb;have:=hl w hw hb;rw [tO hb this];exact IY this
theorem CollCtx.nextAddr (hc:c∈f.map fun a=>lF (sX f) f (mI N live (aJ m a))):bm c=true/\ ∀x∈cp c,aw (io N m live f) x=true:=by
 obtain ⟨a,ha,rfl⟩:=WI.1 hc;refine ⟨(CellOk.new (Lb f) (h.cell ha)).1,fun x hx=> ?_⟩;obtain ⟨v,hv,hb,rfl⟩:=zk hx;obtain ⟨i1,i2⟩:=(h.cell ha).inC;rcases WE.1 hv with hv|hv
 ·exact h.newHas i1 hv hb
 exact h.newHas i2 hv hb
end
end
section
open Go.RowKit
def bP (n:Nat):List Int:=(List.range n).map fun i:Nat=>2*(i:Int)+2
theorem MW (n:Nat):(bP n).Pairwise (· < ·):=by
 unfold bP;rw [List.pairwise_map]
 exact List.pairwise_lt_range.imp fun h=>by omega
theorem GU {n i:Nat}(h:i<(bP n).length):(bP n)[i]=2*(i:Int)+2:=by simp [bP]
def tK (g:Gr)(live:List Int):List Int->List Int->List Int
 |row,[]=>row
 |row,a::avs=>tK g live (dy g.has row (g.opens live a)) avs
inductive MOrd (g:Gr) (olds kept:List Int):List Int->List Int->Prop
 |done {row:List Int}:tK g (olds++row) row (kept++row)=row->MOrd g olds kept row row
 |step {row r1 r:List Int}:tK g (olds++row) row (kept++row)≠row->Thr g (tK g (olds++row) row (kept++row)) row.length r1->MOrd g olds kept r1 r->MOrd g olds kept row r
structure IsMinor (g:Gr) (olds kept start b l:List Int):Prop where
 strong:Thr g (dy g.has [] start) 0 b
 all:MOrd g olds kept b l
theorem vG (g:Gr)(live:List Int): ∀(row avs:List Int), ∃t,tK g live row avs=row++t
 |row,[]=>⟨[],by simp [tK]⟩
 |row,a::avs=>by
  obtain ⟨t,h1, -⟩:=iY g.has row (g.opens live a);obtain ⟨t2,h2⟩:=vG g live (dy g.has row (g.opens live a)) avs;exact ⟨t++t2,by unfold tK;rw [h2,h1,VB]⟩
theorem GB (g:Gr)(live:List Int): ∀(row avs bs:List Int),tK g live row (avs++bs)=tK g live (tK g live row avs) bs
 |_,[],_=>rfl
 |row,a::avs,bs=>by
  show tK g live _ (avs++bs)=_;rw [GB g live _ avs bs];rfl
theorem GC {g:Gr}: ∀{row avs:List Int},tK g live row avs=row-> ∀a∈avs, ∀x∈g.opens live a,g.has x=true->x∈row
 | row,b::avs,h,a,ha,x,hx,hh=>by
  have h1:dy g.has row (g.opens live b)=row:=by
   obtain ⟨t,e1, -⟩:=iY g.has row (g.opens live b);obtain ⟨t2,e2⟩:=vG g live (dy g.has row (g.opens live b)) avs
   have h3:row++t++t2=row:=by rw [<-e1, <-e2];exact h
   have h4:=congrArg List.length h3;simp only [Xp] at h4;have h5:t=[]:=V7 U;rw [e1,h5,VZ]
  rcases WF.1 ha with e|ha
  ·subst e;have:=vP row _ hx hh;rwa [h1] at this
  refine GC (avs:=avs) ?_ a ha x hx hh;unfold tK at h;rw [h1] at h;exact h
theorem MOrd.app {g:Gr}{row r:List Int}(h:MOrd g olds kept row r): ∃t,r=row++t:=by
 induction h with
 |done _=>exact ⟨[],by simp⟩
 |step _ h1 _ ih=>
  rename_i row r1 _ _ _
  obtain ⟨t,rfl⟩:=ih;obtain ⟨t1,rfl⟩:=h1.app;obtain ⟨t2,h2⟩:=vG g (olds++row) row (kept++row);exact ⟨t2++t1++t,by rw [h2];simp [VB]⟩
theorem MOrd.closed {g:Gr}{row r:List Int}(h:MOrd g olds kept row r)(hc:CloG g row row.length):CloG g r r.length/\ ∀a∈kept++r, ∀x∈g.opens (olds++r) a,g.has x=true->x∈r:=by
 induction h with
 |done hp=>exact ⟨hc,GC hp⟩
 |step _ h1 _ ih=>
  rename_i row _ _ _ _
  obtain ⟨t,e⟩:=vG g (olds++row) row (kept++row);refine ih (h1.clo (by rw [e,Xp];omega) ?_);rw [e];exact hc.app (W4 _)
theorem IsMinor.start {g:Gr}{start b l:List Int}(h:IsMinor g olds kept start b l)(hx:x∈start)(hh:g.has x=true):x∈l:=by
 obtain ⟨t,e⟩:=h.strong.app;obtain ⟨t2,e2⟩:=h.all.app;rw [e2,e];exact VC _ (VC _ (vP _ _ hx hh))
theorem IsMinor.closed {g:Gr}{start b l:List Int}(h:IsMinor g olds kept start b l):(∀a∈l, ∀x∈g.leads a,g.has x=true->x∈l)/\ ∀a∈kept++l, ∀x∈g.opens (olds++l) a,g.has x=true->x∈l:=by
 obtain ⟨h1,h2⟩:=h.all.closed (h.strong.clo (Xa _) fun i _ _ hi=>absurd hi U);refine ⟨fun a ha x hx hh=> ?_,h2⟩;obtain ⟨i,hi,e⟩:=Wu ha;exact h1 i a x hi (by rw [Wj hi,e]) hx hh
def yB (a:Int):Bool:=decide (0<a)&&decide (a.tmod 2=1)
def MS (m:Ve):Gr:=⟨yB,fun a=>ce (aJ m a),fun live a=>dJ N (aJ m a) live⟩
theorem te (N:Nat)(a:Int):fW N a=some (yB a):=by
 unfold fW yB;cases decide (0<a)<;>cases decide (a.tmod 2=1)<;>rfl
theorem JT (k:Nat):yB (2*(k:Int)+1)=true:=by
 unfold yB;rw [tl U,Vy U,Vy U];rfl
theorem DV (k:Nat):yB (2*(k:Int)+2)=false:=by
 unfold yB;rw [tl U,Vz (p:=(2*(k:Int)+2)%2=1) U,Bool.and_false]
structure Mt (m:Ve) (met:List Int) (seen:List (Int×Bool)):Prop where
 nd:met.Nodup
 yng: ∀x∈met,yB x=true
 has: ∀x∈met,aw m x=true
 mem: ∀x,(lk seen x).getD false=decide (x∈met)
theorem Mt.len {roots:List Vp}(hs:Small m roots)(h:Mt m met seen):met.length<=1200:=Br 1200 h.nd fun x hx=>⟨by have:=ue (h.has x hx);omega,by have:=zc hs (h.has x hx);omega⟩
theorem Mt.nil (m:Ve):Mt m [] []:=⟨List.nodup_nil,by simp,by simp,fun x=>by simp;rfl⟩
theorem GL (N:Nat){roots:List Vp}(hs:Small m roots)(kp:List Int)(nx:Int)(h:Mt m met seen)(a:Int)(ha:yB a=true->aw m a=true): ∃seen',bV N ⟨m,kp,met,seen,nx⟩ a=some ⟨m,kp,dy yB met [a],seen',nx⟩/\Mt m (dy yB met [a]) seen':=by
 have hlen:=h.len hs;unfold bV;rw [te,bs]
 dsimp only
 rw [h.mem a];have hl:dy yB met [a]=bif yB a&& !decide (a∈met) then met++ [a] else met:=rfl;rw [hl]
 cases hy:yB a with
 |false=>exact ⟨seen,rfl,h⟩
 | true=>
  by_cases hm:a∈met
  ·rw [Vy hm];exact ⟨seen,J,h⟩
  rw [Vz hm];refine ⟨wI seen a true,?_,?_⟩
  ·simp only [ct,bs,nf];rw [rF (by simp;omega)];rfl
  refine ⟨WM.2 ⟨h.nd,by simp,fun x hx y hy e=>by rw [WL] at hy;subst hy;subst e;exact hm hx⟩,fun x hx=> ?_,fun x hx=> ?_,fun x=> ?_⟩
  ·rcases WE.1 hx with hx|hx
   ·exact h.yng x hx
   rw [WL] at hx;subst hx;exact hy
  ·rcases WE.1 hx with hx|hx
   ·exact h.has x hx
   rw [WL] at hx;subst hx;exact ha hy
  rw [Dq];show _=decide (x∈met++ [a]);by_cases e:a=x
  ·rw [if_pos e,Vy (by simp [e])];rfl
  rw [if_neg e,h.mem x];exact iq ⟨fun hx=>VC _ hx,fun hx=>(WE.1 hx).elim id fun hx=>absurd (WL.1 hx).symm e⟩
theorem CN {ρ:Type}(N:Nat){roots:List Vp}(hs:Small m roots)(l:List Int)(hl:l.length<N)(a6:l.length<=5000)(hh:∀x∈l,yB x=true->aw m x=true)(L:Nat->Int->List Vd->List Vd->List Int->List Int->List (Int×Bool)->Int->Option ρ)(K:List Vd->List Vd->List Int->List Int->List (Int×Bool)->Int->Option ρ)(hrec:∀k i hU O kp met seen nx,L (k+1) i hU O kp met seen nx=bif decide (i<(l.length:Int)) then ((ao l i).bind fun x=>(bV N (⟨(⟨hU,O⟩:Ve),kp,met,seen,nx⟩:Vl) x).bind fun y=>aD (in64 (i+1)) (L k (i+1) y.m_.XA y.m_.Xz y.Yc y.XN y.Yb y.XV)) else K hU O kp met seen nx)(kp:List Int)(nx:Int)(h:Mt m met seen)(R:ρ->Prop)(hk:∀seen',Mt m (dy yB met l) seen'->Sat (K m.XA m.Xz kp (dy yB met l) seen' nx) R):Sat (L N 0 m.XA m.Xz kp met seen nx) R:=by
 refine cG (fun k i (s:List Int×List (Int×Bool))=>L k (i:Int) m.XA m.Xz kp s.1 s.2 nx) l.length (fun i s=>Mt m s.1 s.2/\s.1=dy yB met (l.take i)) R ?_ ?_ N 0 (met,seen) U U ⟨h,J⟩
 ·rintro k i ⟨mt,sn⟩ hi ⟨h1,h2⟩ go;simp only at h1 h2;show Sat (L (k+1) (i:Int) m.XA m.Xz kp mt sn nx) R;obtain ⟨sn',e1,e2⟩:=GL N hs kp nx h1 l[i] (hh _ (Xv _));have e1':bV N ⟨⟨m.XA,m.Xz⟩,kp,mt,sn,nx⟩ l[i]=some ⟨m,kp,dy yB mt [l[i]],sn',nx⟩:=e1;rw [hrec,dn U,ct,aG hi,bs,e1',bs,r64 U U];exact go (dy yB mt [l[i]],sn') ⟨e2,by show dy yB mt [l[i]]=_;rw [ay hi,t7, <-h2]⟩
 rintro k ⟨mt,sn⟩ ⟨h1,h2⟩;simp only [Xs] at h1 h2;show Sat (L (k+1) _ m.XA m.Xz kp mt sn nx) R;rw [hrec,cY U,cf];subst h2;exact hk sn h1
theorem tV (N:Nat){roots:List Vp}(hs:Small m roots)(kp met:List Int)(seen:List (Int×Bool))(nx:Int){a:Int}(ha:aw m a=true):bv N ⟨m,kp,met,seen,nx⟩ a=some (aJ m a):=by
 have hy:=hs.young;have ho:=hs.old;unfold bv;rw [te,bs];rcases fq ha with ⟨i,hi,rfl⟩|⟨i,hi,rfl⟩
 ·rw [JT,ct,zA U,show (2*(i:Int)+1) / 2=i by omega,r64 U U,vS m i hi,aG hi,bs]
 rw [DV,cf,zA U,show (2*(i:Int)+2) / 2=(i:Int)+1 by omega,r64 U U,r64 U U,show (i:Int)+1 - 1=i by omega,rM m i hi,aG hi,bs]
def Whole (m:Ve):Prop:= ∀a,aw m a=true-> ∀x∈cp (aJ m a),aw m x=true
theorem Whole.leads (h:Whole m){a:Int}(ha:aw m a=true): ∀x∈ce (aJ m a),aw m x=true:=fun x hx=>h a ha x (VC _ hx)
theorem Whole.opens (h:Whole m){N:Nat}{a:Int}(ha:aw m a=true): ∀x∈dJ N (aJ m a) live,aw m x=true:=fun x hx=>by
 unfold dJ at hx
 cases hw:sa N (aJ m a) with
 |false=>rw [hw] at hx;cases hx
 |true=>
  rw [hw] at hx;obtain ⟨v,hv,hb,rfl⟩:=yU hx;exact h a ha _ (Cf (VD _ hv) hb)
theorem zS (N:Nat)(hN:6500<N){roots:List Vp}(hs:Small m roots)(hw:Whole m)(kp:List Int)(h:Mt m met seen)(k:Nat)(hk:k<=met.length):
  Sat (eS N ⟨m,kp,met,seen,(k:Int)⟩) fun r=> ∃seen',r=⟨m,kp,r.XN,seen',(r.XN.length:Int)⟩/\Mt m r.XN seen'/\Thr (MS N m) met k r.XN:=by
 unfold eS;refine rB (fun f (s:List Int×List (Int×Bool)×Nat)=>bC N f m.XA m.Xz kp s.1 s.2.1 (s.2.2:Int)) (fun s=>1300 - s.2.2) (fun s=>Mt m s.1 s.2.1/\s.2.2<=s.1.length/\ ∀r,Thr (MS N m) s.1 s.2.2 r->Thr (MS N m) met k r) _ ?_ N (met,seen,k) (by show 1300 - k<N;omega) ⟨h,hk,fun _ h=>h⟩;rintro f ⟨mt,sn,j⟩ ⟨h1,h3,h4⟩ go;show Sat (bC N (f+1) m.XA m.Xz kp mt sn (j:Int)) _;simp only at h1 h3 h4;have hlen:=h1.len hs;rw [bC.eq_2];by_cases hj:j<mt.length
 ·have hh:=h1.has _ (Xv hj);have hsm:=hs.at_ mt[j];have e1:bv N ⟨⟨m.XA,m.Xz⟩,kp,mt,sn,(j:Int)⟩ mt[j]=some (aJ m mt[j]):=tV N hs kp mt sn (j:Int) hh;have hll:=nj (aJ m mt[j]);rw [dn U,ct,aG hj,bs,e1,bs,qz N U _ U U,bs]
  refine CN N hs (ce (aJ m mt[j])) U U (fun x hx _=>hw.leads hh x hx) (fX N (bC N f) (ce (aJ m mt[j]))) (fY N (bC N f)) (fun _ _ _ _ _ _ _ _=>by rw [fX.eq_2]) kp (j:Int) h1 _ fun sn' h5=> ?_
  unfold fY;rw [r64 U U]
  have hge:mt.length<=(dy yB mt (ce (aJ m mt[j]))).length:=by
   obtain ⟨t,e, -⟩:=iY yB mt (ce (aJ m mt[j]));rw [e,Xp];omega
  exact go (dy yB mt (ce (aJ m mt[j])),sn',j+1) (by show 1300 - (j+1)<1300 - j;omega) ⟨h5,by show j+1<=(dy yB mt (ce (aJ m mt[j]))).length;omega,fun r hr=>h4 r (.step (Wj hj) hr)⟩
 have:j=mt.length:=by omega
 subst this;rw [cY U,cf];exact ad ⟨sn,J,h1,h4 _ (.done (W4 _))⟩
theorem E7 (N:Nat)(hN:6500<N){roots:List Vp}(hs:Small m roots)(kp:List Int)(nx:Int)(h:Mt m met seen):fi N ⟨m,kp,met,seen,nx⟩=some (bP m.Xz.length++met):=by
 apply Sat.eq;have ho:=hs.old;have hlen:=h.len hs;unfold fi;refine cG (fun k i (s:List Int)=>eo N ⟨m,kp,met,seen,nx⟩ k s (i:Int)) m.Xz.length (fun i s=>s=bP i) _ ?_ ?_ N 0 [] U U J
 ·rintro k i s hi rfl go;show Sat (eo N ⟨m,kp,met,seen,nx⟩ (k+1) (bP i) (i:Int)) _
  have hev:(bP i).length=i:=by unfold bP;simp
  rw [eo.eq_2,dn (by show (i:Int)<(m.Xz.length:Int);omega),ct,r64 U U,r64 U U,rF (by simp;omega),r64 U U];refine go _ ?_;unfold bP;rw [List.range_succ,WB];rfl
 rintro k s rfl;show Sat (eo N ⟨m,kp,met,seen,nx⟩ (k+1) _ _) _
 have hev:(bP m.Xz.length).length=m.Xz.length:=by unfold bP;simp
 rw [eo.eq_2,cY (by show (m.Xz.length:Int)<=(m.Xz.length:Int);omega),cf];unfold nh
 dsimp only
 rw [rF U];exact ad J
theorem Jx (N:Nat)(a b:List Int)(ha:a.length<=100000)(hb:b.length<=100000):ox N a b=some (a++b):=by
 unfold ox qp rR nz pv;rw [r64 U U,cY (a:=0+(a.length:Int)) U,cf,r64 U U,cY (a:=0+(a.length:Int)+(b.length:Int)) U,cf,r64 U U,r64 U U,cf];by_cases h:0<a.length+b.length
 ·rw [dn U,ct,gi ⟨by omega,by omega⟩,bs,rF (by simp;omega),rF (by simp;omega)];rfl
 rw [cY U,cf,bs,rF (by simp;omega),rF (by simp;omega)];rfl
theorem Kw (N:Nat)(hN:6500<N){roots:List Vp}(hs:Small m roots)(hw:Whole m)(kp:List Int)(hk:∀x∈kp,aw m x=true)(hkl:kp.length<=1200)(nx:Int)(h:Mt m met seen):
  Sat (ip N ⟨m,kp,met,seen,nx⟩) fun r=> ∃seen',r=(decide ((met.length:Int)<(r.2.XN.length:Int)),⟨m,kp,r.2.XN,seen',nx⟩)/\Mt m r.2.XN seen'/\r.2.XN=tK (MS N m) (bP m.Xz.length++met) met (kp++met):=by
 have hlen:=h.len hs;have ho:=hs.old
 have hev:(bP m.Xz.length).length=m.Xz.length:=by unfold bP;simp
 unfold ip;rw [E7 N hN hs kp nx h,bs]
 dsimp only
 rw [Jx N kp met U U,bs]
 have hL:(bP m.Xz.length++met).length<=5000:=by rw [Xp];omega
 have hC:(kp++met).length<=2400:=by rw [Xp];omega
 generalize hlv:bP m.Xz.length++met=live at*
 have hcm: ∀x∈kp++met,aw m x=true:=fun x hx=>(WE.1 hx).elim (hk x) (h.has x)
 generalize hcc:kp++met=cs at*;refine cG (fun k i (s:List Int×List (Int×Bool))=>bE N ⟨m,kp,met,seen,nx⟩ cs live k (i:Int) m.XA m.Xz kp s.1 s.2 nx) cs.length (fun i s=>Mt m s.1 s.2/\s.1=tK (MS N m) live met (cs.take i)) _ ?_ ?_ N 0 (met,seen) U U ⟨h,J⟩
 ·rintro k i ⟨mt,sn⟩ hi ⟨h1,h2⟩ go;simp only at h1 h2;show Sat (bE N ⟨m,kp,met,seen,nx⟩ cs live (k+1) (i:Int) m.XA m.Xz kp mt sn nx) _;have hh:=hcm _ (Xv hi);have hsm:=hs.at_ cs[i];have e1:bv N ⟨⟨m.XA,m.Xz⟩,kp,mt,sn,nx⟩ cs[i]=some (aJ m cs[i]):=tV N hs kp mt sn nx hh;have hol:=ET N (aJ m cs[i]) live;rw [bE.eq_2,dn U,ct,aG hi,bs,e1,bs,ES N hN live U _ U U,bs]
  refine CN N hs (dJ N (aJ m cs[i]) live) U U (fun x hx _=>hw.opens hh x hx) (jb N (bE N ⟨m,kp,met,seen,nx⟩ cs live k) ⟨m,kp,met,seen,nx⟩ cs (i:Int) (dJ N (aJ m cs[i]) live) live) (jc N (bE N ⟨m,kp,met,seen,nx⟩ cs live k) ⟨m,kp,met,seen,nx⟩ cs (i:Int) live) (fun _ _ _ _ _ _ _ _=>by rw [jb.eq_2]) kp nx h1 _ fun sn' h5=> ?_
  unfold jc;rw [r64 U U];refine go (dy yB mt (dJ N (aJ m cs[i]) live),sn') ⟨h5,?_⟩;show dy yB mt (dJ N (aJ m cs[i]) live)=_;rw [ay hi,GB, <-h2];rfl
 rintro k ⟨mt,sn⟩ ⟨h1,h2⟩;simp only [Xs] at h1 h2;show Sat (bE N ⟨m,kp,met,seen,nx⟩ cs live (k+1) _ m.XA m.Xz kp mt sn nx) _;rw [bE.eq_2,cY U,cf];unfold ng;exact ad ⟨sn,J,h1,h2⟩
def Em (m:Ve)(roots:List Vp)(kept:List Int):List Int:=bR roots++kept.flatMap fun a=>ce (aJ m a)
theorem Fb (N:Nat)(v:Vp):lR N v=some (v.N,bd v):=by
 unfold lR;rw [t8,bs]
theorem MJ (N:Nat)(hN:6500<N){roots:List Vp}(hs:Small m roots)(hw:Whole m)(hr:∀x∈bR roots,aw m x=true)(kept:List Int)(hk:∀x∈kept,aw m x=true)(hkl:kept.length<=1200):
  Sat (pi N m roots kept) fun r=> ∃seen nx b,r=⟨m,kept,r.XN,seen,nx⟩/\Mt m r.XN seen/\IsMinor (MS N m) (bP m.Xz.length) kept (Em m roots kept) b r.XN:=by
 have hrl:=hs.roots
 -- the passes
 have passes: ∀(b:List Int) (seen:List (Int×Bool)),Mt m b seen->Thr (MS N m) (dy yB [] (Em m roots kept)) 0 b->Sat (kT N N m.XA m.Xz kept b seen (b.length:Int)) fun r=> ∃seen nx b,r=⟨m,kept,r.XN,seen,nx⟩/\Mt m r.XN seen/\IsMinor (MS N m) (bP m.Xz.length) kept (Em m roots kept) b r.XN:=by
  intro b seen h hb;have h0:=h.len hs;refine rB (fun f (s:List Int×List (Int×Bool))=>kT N f m.XA m.Xz kept s.1 s.2 (s.1.length:Int)) (fun s=>1300 - s.1.length) (fun s=>Mt m s.1 s.2/\ ∀r,MOrd (MS N m) (bP m.Xz.length) kept s.1 r->MOrd (MS N m) (bP m.Xz.length) kept b r) _ ?_ N (b,seen) (by show 1300 - b.length<N;omega) ⟨h,fun _ h=>h⟩;rintro f ⟨mt,sn⟩ ⟨h1,h2⟩ go;simp only at h1 h2;show Sat (kT N (f+1) m.XA m.Xz kept mt sn (mt.length:Int)) _;have hlen:=h1.len hs;obtain ⟨⟨p,x⟩,e0,sn',e1,h3,h4⟩:=Kw N hN hs hw kept hk hkl (mt.length:Int) h1;simp only at e1 h3 h4;obtain ⟨e1,e2⟩:=Xg e1;obtain ⟨t,ht⟩:=vG (MS N m) (bP m.Xz.length++mt) mt (kept++mt);have hlen3:=h3.len hs;have e0':ip N ⟨⟨m.XA,m.Xz⟩,kept,mt,sn,(mt.length:Int)⟩=some (p,x):=e0;rw [kT.eq_2,e0',bs]
  dsimp only
  rw [e1];generalize hm':x.XN=mt' at*;subst e2
  refine aK (fun hlt=> ?_) fun hge=> ?_
  ·refine Sat.bind (zS N hN hs hw kept h3 mt.length (by rw [h4,ht,Xp];omega)) ?_;rintro r ⟨sn3,e3,h5,h6⟩;have hlen5:=h5.len hs;rw [e3]
   dsimp only
   refine go (r.XN,sn3) ?_ ⟨h5,fun r' hr'=>h2 r' (.step ?_ (by rw [<-h4];exact h6) hr')⟩
   ·obtain ⟨t3,e4⟩:=h6.app;show 1300 - r.XN.length<1300 - mt.length
    have:mt'.length<=r.XN.length:=by rw [e4,Xp];omega
    omega
   rw [<-h4];intro e;rw [e] at hlt;omega
  have e:mt'=mt:=by
   rw [ht] at h4;have h0:t=[]:=V7 (by rw [h4,Xp] at hge;omega);rw [h4,h0,VZ]
  subst e;unfold vb;exact ad ⟨sn',(mt'.length:Int),b,J,h3,⟨hb,h2 _ (.done h4.symm)⟩⟩
 -- the kept cells
 have keptL: ∀(row:List Int) (seen:List (Int×Bool)),Mt m row seen->row=dy yB [] (bR roots)->Sat (d5 N kept N 0 m.XA m.Xz kept row seen 0) fun r=> ∃seen nx b,r=⟨m,kept,r.XN,seen,nx⟩/\Mt m r.XN seen/\IsMinor (MS N m) (bP m.Xz.length) kept (Em m roots kept) b r.XN:=by
  intro row seen h hrow;refine cG (fun k i (s:List Int×List (Int×Bool))=>d5 N kept k (i:Int) m.XA m.Xz kept s.1 s.2 0) kept.length (fun i s=>Mt m s.1 s.2/\s.1=dy yB [] (bR roots++(kept.take i).flatMap fun a=>ce (aJ m a))) _ ?_ ?_ N 0 (row,seen) U U ⟨h,by simpa using hrow⟩
  ·rintro k i ⟨mt,sn⟩ hi ⟨h1,h2⟩ go;simp only at h1 h2;show Sat (d5 N kept (k+1) (i:Int) m.XA m.Xz kept mt sn 0) _;have hh:=hk _ (Xv hi);have hsm:=hs.at_ kept[i];have e1:bv N ⟨⟨m.XA,m.Xz⟩,kept,mt,sn,0⟩ kept[i]=some (aJ m kept[i]):=tV N hs kept mt sn 0 hh;have hll:=nj (aJ m kept[i]);rw [d5.eq_2,dn U,ct,aG hi,bs,e1,bs,qz N U _ U U,bs]
   refine CN N hs (ce (aJ m kept[i])) U U (fun x hx _=>hw.leads hh x hx) (qT N (d5 N kept k) kept (i:Int) (ce (aJ m kept[i]))) (qU N (d5 N kept k) kept (i:Int)) (fun _ _ _ _ _ _ _ _=>by rw [qT.eq_2]) kept 0 h1 _ fun sn' h5=> ?_
   unfold qU;rw [r64 U U];refine go (dy yB mt (ce (aJ m kept[i])),sn') ⟨h5,?_⟩;show dy yB mt (ce (aJ m kept[i]))=_;rw [ay hi,Wa, <-VB,t7, <-h2];simp
  rintro k ⟨mt,sn⟩ ⟨h1,h2⟩;simp only [Xs] at h1 h2;show Sat (d5 N kept (k+1) _ m.XA m.Xz kept mt sn 0) _;rw [d5.eq_2,cY U,cf];unfold vc;refine Sat.bind (zS N hN hs hw kept h1 0 (Xa _)) ?_;rintro r ⟨sn3,e3,h5,h6⟩;rw [e3]
  dsimp only
  exact passes r.XN sn3 h5 (by rw [h2] at h6;exact h6)
 -- the roots
 unfold pi;refine cG (fun k i (s:List Int×List (Int×Bool))=>iE N roots kept k (i:Int) m.XA m.Xz kept s.1 s.2 0) roots.length (fun i s=>Mt m s.1 s.2/\s.1=dy yB [] (bR (roots.take i))) _ ?_ ?_ N 0 ([],[]) U U ⟨Mt.nil m,J⟩
 ·rintro k i ⟨mt,sn⟩ hi ⟨h1,h2⟩ go;simp only at h1 h2;show Sat (iE N roots kept (k+1) (i:Int) m.XA m.Xz kept mt sn 0) _
  have hnext:dy yB [] (bR (roots.take (i+1)))=dy yB mt (bR [roots[i]]):=by
   rw [ay hi,zj,t7, <-h2]
  rw [iE.eq_2,dn U,ct,aG hi,bs,Fb,bs]
  dsimp only
  unfold qV;cases hb:bd roots[i]
  ·rw [cf,r64 U U];refine go (mt,sn) ⟨h1,?_⟩;show mt=_;rw [hnext];simp [bR,hb,dy]
  rw [ct];have hroot:aw m roots[i].N=true:=hr _ (qJ.2 ⟨_,Xv _,hb,rfl⟩)
  obtain ⟨sn',e1,e2⟩:=GL N hs kept 0 h1 roots[i].N fun _=>hroot
  have e1':bV N ⟨⟨m.XA,m.Xz⟩,kept,mt,sn,0⟩ roots[i].N=_:=e1;rw [e1',bs]
  dsimp only
  rw [r64 U U];refine go (dy yB mt [roots[i].N],sn') ⟨e2,?_⟩;show dy yB mt [roots[i].N]=_;rw [hnext];simp [bR,hb]
 rintro k ⟨mt,sn⟩ ⟨h1,h2⟩;simp only [Xs] at h1 h2;show Sat (iE N roots kept (k+1) _ m.XA m.Xz kept mt sn 0) _;rw [iE.eq_2,cY U,cf];unfold wo;exact keptL mt sn h1 h2
def EY (m:Ve)(kept:List Int):Bool:=(List.range m.Xz.length).all fun i=> !(cp (aJ m (2*(i:Int)+2))).any yB||decide ((2*(i:Int)+2)∈kept)
def ua (m:Ve)(kept:List Int):Bool:=kept.all (fun a=> !yB a&&aw m a)&&decide (kept.Pairwise (· < ·))
def Co (m:Ve):Bool:=(m.XA++m.Xz).all (Fv N m)
def E9 (m:Ve)(roots:List Vp)(kept:List Int):Bool:=iP m (bR roots)&&Co N m&&ua m kept&&EY m kept
theorem Dp (N:Nat)(hN:6500<N)(c:Vd)(hS:c.Xy.length<=600)(hM:c.Xx.length<=2900):jM N c=some (cp c):=by
 have h1:=nj c;have h2:=ri c;unfold jM;rw [qz N hN c U U,bs,xm N hN c U U,bs,rF U];rfl
theorem Ed (N:Nat)(f:Int->Option Bool)(p:Int->Bool)(l:List Int)(hl:l.length<N)(a6:l.length<=6500)(hf:∀x∈l,f x=some (p x)):bD N l f=some (l.any p):=by
 have key: ∀k i:Nat,l.length<k+i->i<=l.length->Sat (dG N f l k (i:Int)) fun r=>decide (0<=r)=(l.drop i).any p:=by
  intro k
  induction k with
  |zero=>intro i h1 h2;omega
  | succ k ih=>
   intro i h1 h2;rw [dG.eq_2];by_cases hi:i<l.length
   ·have h3:=ih (i+1) U hi;rw [show (((i+1:Nat)):Int)=(i:Int)+1 by omega] at h3;rw [dn U,ct,aG hi,bs,V3 hi,List.any_cons,hf _ (Xv _),bs,r64 U U];cases p l[i]
    ·exact h3
    exact ad (by rw [Vy U];rfl)
   rw [cY U,cf,V4 U];exact ad J
 obtain ⟨r,h1,h2⟩:=key N 0 U U;have h1':dG N f l N 0=some r:=h1;unfold bD lq;rw [h1',bs,h2];rfl
theorem QY (N:Nat)(f:Vp->Option Bool)(p:Vp->Bool)(l:List Vp)(hl:l.length<N)(a6:l.length<=6500)(hf:∀x∈l,f x=some (p x)):dc N l f=some (l.any p):=by
 have key: ∀k i:Nat,l.length<k+i->i<=l.length->Sat (dC N f l k (i:Int)) fun r=>decide (0<=r)=(l.drop i).any p:=by
  intro k
  induction k with
  |zero=>intro i h1 h2;omega
  | succ k ih=>
   intro i h1 h2;rw [dC.eq_2];by_cases hi:i<l.length
   ·have h3:=ih (i+1) U hi;rw [show (((i+1:Nat)):Int)=(i:Int)+1 by omega] at h3;rw [dn U,ct,aG hi,bs,V3 hi,List.any_cons,hf _ (Xv _),bs,r64 U U];cases p l[i]
    ·exact h3
    exact ad (by rw [Vy U];rfl)
   rw [cY U,cf,V4 U];exact ad J
 obtain ⟨r,h1,h2⟩:=key N 0 U U;have h1':dC N f l N 0=some r:=h1;unfold dc jZ;rw [h1',bs,h2];rfl
theorem In (p:α->Bool): ∀l:List α,l.any (fun x=> !p x)=!l.all p
 | []=>rfl
 |x::l=>by rw [List.any_cons,List.all_cons,In p l];cases p x<;>rfl
theorem Ie (N:Nat)(a b:List Vd)(ha:a.length<=100000)(hb:b.length<=100000):jB N a b=some (a++b):=by
 unfold jB mj mV i7 lu;rw [r64 U U,cY (a:=0+(a.length:Int)) U,cf,r64 U U,cY (a:=0+(a.length:Int)+(b.length:Int)) U,cf,r64 U U,r64 U U,cf];by_cases h:0<a.length+b.length
 ·rw [dn U,ct,gi ⟨by omega,by omega⟩,bs,rF (by simp;omega),rF (by simp;omega)];rfl
 rw [cY U,cf,bs,rF (by simp;omega),rF (by simp;omega)];rfl
theorem J4 (N:Nat)(hN:6500<N){roots:List Vp}(hs:Small m roots)(hw:W64 m):qQ N m=some (Co N m):=by
 have h1:=hs.young;have h2:=hs.old;unfold qQ Co;rw [Ie N _ _ U U,bs]
 have hl:(m.XA++m.Xz).length<=1200:=by rw [Xp];omega
 refine I4 (fun k i=>pG N (m.XA++m.Xz) m k i) (m.XA++m.Xz) _ (fun k i h=> ?_) (fun k=> ?_) N U
 ·have hm:(m.XA++m.Xz)[i]∈m.XA++m.Xz:=Xv _;have hc:=hs.cells _ hm;obtain ⟨⟨a1,a2⟩,a3,a4⟩:=Ck hs hw hm;rw [pG.eq_2,dn U,ct,aG h,bs];generalize (m.XA++m.Xz)[i]=c at*;obtain ⟨b,hb, -⟩:=Cy N U c U U
  rw [xA N U _ U U,hb,bs,Dp N U c hc.1 hc.2,bs,Ed N _ (fun x=> !aw m x) (cp c) (by unfold cp;rw [Xp];omega) (by unfold cp;rw [Xp];omega) (fun x hx=>by
   unfold qy
   rw [vQ N m x ((WE.1 hx).elim (a2 x) (a4 x)),bs]),In]
  unfold Fv;rw [hb,r64 U U]
  have e:(cp c).all (aw m)=(iP m (ce c)&&iP m (mq c)):=by unfold cp iP;rw [List.all_append]
  rw [e];cases b<;>cases iP m (ce c)&&iP m (mq c)<;>rfl
 rw [pG.eq_2,cY U,cf];rfl
theorem NO (l:List Int):decide (l.Pairwise (· < ·))=(List.range l.length).all fun i=>decide (i=0)||decide (l.getD (i - 1) 0<l.getD i 0):=by
 rw [Bool.eq_iff_iff,Xl,VY];constructor
 ·intro h i hi;rw [WK] at hi;by_cases h0:i=0
  ·rw [Vy h0];rfl
  have:=WN.1 h (i - 1) i U hi U;rw [Vy (p:=l.getD (i - 1) 0<l.getD i 0) (by simpa [List.getD,hi,show i - 1<l.length by omega] using this),Bool.or_true]
 intro h
 refine WN.2 fun i j hi hj hij=> ?_
 have step: ∀k,i+k+1<l.length->l[i]'hi<l.getD (i+k+1) 0:=by
  intro k
  induction k with
  |zero=>
   intro hk;have:=h (i+1) (WK.2 hk);rw [Vz (p:=i+1=0) U,Bool.false_or,Xl,Nat.add_sub_cancel] at this;simpa [List.getD,hi] using this
  |succ k ih=>
   intro hk;have h1:=ih U;have:=h (i+k+1+1) (WK.2 U);rw [Vz (p:=i+k+1+1=0) U,Bool.false_or,Xl,Nat.add_sub_cancel] at this;show l[i]'hi<l.getD (i+k+1+1) 0;omega
 have:=step (j - i - 1) U;rw [show i+(j - i - 1)+1=j by omega] at this;simpa [List.getD,hj] using this
theorem GM (N:Nat)(hN:6500<N){roots:List Vp}(hs:Small m roots)(hw:W64 m)(hr:∀v∈roots,in64 v.N)(kept:List Int)(hk:kept.length<=5000)(a6:∀x∈kept,in64 x):rA N m roots kept=some (E9 N m roots kept):=by
 have h3:=hs.roots;have ho:=hs.old
 -- the old cells
 have olds:mc N kept m=some (EY m kept):=by
  unfold mc EY;have hlr:(List.range m.Xz.length).length=m.Xz.length:=List.length_range;refine I4 (fun k i=>qS N m kept k i) (List.range m.Xz.length) _ (fun k i h=> ?_) (fun k=> ?_) N U
  ·rw [hlr] at h;have hm:m.Xz[i]∈m.XA++m.Xz:=VD _ (Xv _);have hc:=hs.cells _ hm;obtain ⟨⟨a1,a2⟩,a3,a4⟩:=Ck hs hw hm;rw [qS.eq_2,dn U,ct,aG h,bs,Dp N U _ hc.1 hc.2,bs,Ed N _ yB (cp m.Xz[i]) (by unfold cp;rw [Xp];omega) (by unfold cp;rw [Xp];omega) (fun x _=>te N x),bs,r64 (a:=2*(i:Int)) U U,r64 (a:=2*(i:Int)+2) U U,ra N hN kept hk,bs,r64 U U,List.getElem_range,rM m i h];cases (cp m.Xz[i]).any yB<;>cases decide ((2*(i:Int)+2)∈kept)<;>rfl
  rw [hlr,qS.eq_2,cY U,cf];rfl
 -- the kept addresses
 have hkept:oo N kept m N 0=bif ua m kept then mc N kept m else some false:=by
  have hlr:(List.range kept.length).length=kept.length:=List.length_range;have:=yZ (fun k i=>oo N kept m k i) (List.range kept.length) (fun i=>(!yB (kept.getD i 0)&&aw m (kept.getD i 0))&&(decide (i=0)||decide (kept.getD (i - 1) 0<kept.getD i 0))) (some false) (mc N kept m) (fun k i h=> ?_) (fun k=> ?_) N U
  ·rw [this]
   have e:((List.range kept.length).all fun i=>(!yB (kept.getD i 0)&&aw m (kept.getD i 0))&&(decide (i=0)||decide (kept.getD (i - 1) 0<kept.getD i 0)))=ua m kept:=by
    unfold ua;rw [NO]
    have e2:kept.all (fun a=> !yB a&&aw m a)=(List.range kept.length).all fun i=> !yB (kept.getD i 0)&&aw m (kept.getD i 0):=by
     rw [Bool.eq_iff_iff,VY,VY];constructor
     ·intro h i hi;rw [WK] at hi
      have:kept.getD i 0=kept[i]:=by simp [List.getD,hi]
      rw [this];exact h _ (Xv _)
     intro h x hx;obtain ⟨i,hi,rfl⟩:=Wu hx;have:=h i (WK.2 hi)
     rwa [show kept.getD i 0=kept[i] by simp [List.getD,hi]] at this
    rw [e2]
    induction List.range kept.length with
    |nil=>rfl
    |cons a l ih=>rw [List.all_cons,List.all_cons,List.all_cons,ih];cases (!yB (kept.getD a 0)&&aw m (kept.getD a 0))<;>cases (decide (a=0)||decide (kept.getD (a - 1) 0<kept.getD a 0))<;>simp
   rw [e]
  ·rw [hlr] at h
   have hg:kept.getD i 0=kept[i]:=by simp [List.getD,h]
   rw [oo.eq_2,dn U,ct,aG h,bs,te,bs,vQ N m _ (a6 _ (Xv _)),r64 (a:=(i:Int)+1) U U,List.getElem_range,hg];by_cases h0:i=0
   ·subst h0;rw [cY (a:=0) (b:=((0:Nat):Int)) U];cases yB kept[0]<;>cases aw m kept[0]<;>rfl
   have hp:ao kept ((i:Int) - 1)=some (kept.getD (i - 1) 0):=by
    have:=aG (xs:=kept) (i:=i - 1) U;rw [show (((i - 1:Nat)):Int)=(i:Int) - 1 by omega] at this;rw [this];simp [List.getD,show i - 1<kept.length by omega]
   rw [dn (a:=0) (b:=(i:Int)) U,ct,r64 (a:=(i:Int) - 1) U U,hp,Vz h0];simp only [bs];by_cases hlt:kept.getD (i - 1) 0<kept[i]
   ·rw [Oj hlt,Vy hlt];cases yB kept[i]<;>cases aw m kept[i]<;>rfl
   rw [Oi U,Vz hlt];cases yB kept[i]<;>cases aw m kept[i]<;>rfl
  rw [hlr,oo.eq_2,cY U,cf]
 have hroots:dc N roots (fun x=>pI N x m)=some (!iP m (bR roots)):=by
  rw [QY N _ (fun v=> !(!bd v||aw m v.N)) roots U U (fun v hv=>by
   unfold pI;rw [Fb,bs]
   dsimp only
   rw [vQ N m _ (hr v hv),bs]
   cases bd v<;>cases aw m v.N<;>rfl),In]
  unfold iP bR;rw [all_map,FR]
 unfold rA E9;rw [hroots,bs,J4 N hN hs hw,bs,hkept,olds];cases iP m (bR roots)<;>cases Co N m<;>cases ua m kept<;>rfl
def Fu (m:Ve)(roots:List Vp):Bool:=iP m (bR roots)&&Co N m
def uI (m:Ve)(i:Nat):Bool:=(cp (aJ m (2*(i:Int)+2))).any yB
def ln (m:Ve):List Int:=((List.range m.Xz.length).filter (uI m)).map fun i:Nat=>2*(i:Int)+2
theorem tc:x∈ln m↔ ∃i:Nat,i<m.Xz.length/\uI m i=true/\x=2*(i:Int)+2:=by
 unfold ln;simp only [WI,WH,WK];constructor
 ·rintro ⟨i,⟨h1,h2⟩,rfl⟩;exact ⟨i,h1,h2,J⟩
 rintro ⟨i,h1,h2,rfl⟩;exact ⟨i,⟨h1,h2⟩,J⟩
theorem MO (h:x∈ln m):aw m x=true/\yB x=false:=by
 obtain ⟨i,h1, -,rfl⟩:=tc.1 h;exact ⟨by rw [sd];exact Vy h1,DV i⟩
theorem I9 (m:Ve):ua m (ln m)=true:=by
 unfold ua;rw [Xt,Xl,VY];refine ⟨fun x hx=> ?_,?_⟩
 ·obtain ⟨h1,h2⟩:=MO hx;rw [h1,h2];rfl
 unfold ln;refine List.Pairwise.map _ (fun a b (h:a<b)=> ?_) ((List.pairwise_lt_range).filter _);omega
theorem PP (m:Ve):EY m (ln m)=true:=by
 unfold EY;rw [VY];intro i hi;rw [WK] at hi;cases h:(cp (aJ m (2*(i:Int)+2))).any yB
 ·rfl
 have:(2*(i:Int)+2)∈ln m:=tc.2 ⟨i,hi,h,rfl⟩;rw [Vy this];rfl
theorem MG (N:Nat)(m:Ve)(roots:List Vp):E9 N m roots (ln m)=Fu N m roots:=by
 unfold E9 Fu;rw [I9,PP,Bool.and_true,Bool.and_true]
theorem gT {n:Nat}:x∈bP n↔ ∃i:Nat,i<n/\x=2*(i:Int)+2:=by
 unfold bP;simp only [WI,WK];constructor
 ·rintro ⟨i,h,rfl⟩;exact ⟨i,h,J⟩
 rintro ⟨i,h,rfl⟩;exact ⟨i,h,J⟩
theorem Je {a:Int}(h:aw m a=true)(hy:yB a=false): ∃i:Nat,i<m.Xz.length/\a=2*(i:Int)+2:=by
 rcases fq h with ⟨i,hi,rfl⟩|h
 ·rw [JT] at hy;cases hy
 exact h
theorem Ko {N:Nat}{l:List Int}(h:x∈dJ N c l):x∈cp c:=by
 unfold dJ at h
 cases hw:sa N c with
 |false=>rw [hw] at h;cases h
 |true=>
  rw [hw] at h;obtain ⟨v,hv,hb,rfl⟩:=yU h;exact Cf (VD _ hv) hb
theorem BO {N:Nat}{roots:List Vp}(h:Fu N m roots=true):Whole m/\(∀x∈bR roots,aw m x=true)/\ ∀c∈m.XA++m.Xz,Fv N m c=true:=by
 unfold Fu at h;rw [Xt] at h
 have h2: ∀c∈m.XA++m.Xz,Fv N m c=true:=fun c hc=>sT h.2 hc
 refine ⟨fun a ha x hx=> ?_,fun x hx=>sT h.1 hx,h2⟩
 have h3:=h2 (aJ m a) (by
  unfold aw at ha;unfold aJ
  cases hc:jl m a with
  |none=>rw [hc] at ha;cases ha
  |some c=>exact uv hc)
 unfold Fv at h3;rw [Xt,Xt] at h3;rcases WE.1 hx with hx|hx
 ·exact sT h3.2.1 hx
 exact sT h3.2.2 hx
def AT (met to:List Int)(a:Int):Int:=if a∈met then to.getD (met.idxOf a) 0 else a
theorem K4 {g:α->α}{l:List α}{i:Nat}(h:i<l.length):ao ((l.take i).map g++l.drop i) (i:Int)=some l[i]:=by
 have h1:i<((l.take i).map g++l.drop i).length:=by simp;omega
 rw [aG h1]
 congr 1
 rw [List.getElem_append_right (by simp;omega)];simp [Nat.min_eq_left (Nat.le_of_lt h)]
theorem K2 {g:α->α}{l:List α}{i:Nat}(h:i<l.length):((l.take i).map g++l.drop i).set i (g l[i])=(l.take (i+1)).map g++l.drop (i+1):=by
 rw [ay h,V3 h,WB];rw [List.set_append,if_neg (by simp;omega)];simp [Nat.min_eq_left (Nat.le_of_lt h)];rw [V3 h];rfl
theorem AM {g:α->α}{l:List α}{i:Nat}(h:i<l.length)(he:g l[i]=l[i]):(l.take i).map g++l.drop i=(l.take (i+1)).map g++l.drop (i+1):=by
 rw [ay h,V3 h,WB];simp [he]
def Sh (kv:List (Int×Int))(met to:List Int)(i:Nat):Prop:= ∀x,lk kv x=if x∈met.take i then some (AT met to x) else none
theorem CK {l:List Int}(hn:l.Nodup){i:Nat}(h:i<l.length):l.idxOf l[i]=i:=by
 have hm:l[i]∈l:=Xv _;rcases Nat.lt_trichotomy (l.idxOf l[i]) i with h2|h2|h2
 ·exact absurd (qX hm) (WN.1 (List.nodup_iff_pairwise_ne.1 hn) _ _ (vd hm) h h2)
 ·exact h2
 exact absurd (qX hm).symm (WN.1 (List.nodup_iff_pairwise_ne.1 hn) _ _ h (vd hm) h2)
theorem E4 {l:List Int}(hn:l.Nodup){i:Nat}(h:i<l.length):l[i]∉l.take i:=fun hm=>by
 obtain ⟨j,hj,e⟩:=Wu hm;rw [Xq] at hj;rw [List.getElem_take] at e;exact absurd e (WN.1 (List.nodup_iff_pairwise_ne.1 hn) _ _ U h U)
theorem Dy (N:Nat)(hN:6500<N)(c:Vd)(hS:c.Xy.length<=4000)(hM:c.Xx.length<=4000)(met to:List Int)(hn:met.Nodup)(hl:to.length=met.length)(hml:met.length<=1200):fZ N c met to=some (lF (AT met to) met c):=by
 apply Sat.eq
 have mv: ∀(kv:List (Int×Int)),Sh kv met to met.length-> ∀v:Vp,(lk kv v.N).isSome=decide (v.N∈met)/\(v.N∈met->bd v=true->(⟨v.Xw,(lk kv v.N).getD 0,v.S⟩:Vp)=bI (AT met to) met v):=fun kv hk v=>by
  rw [hk v.N,Xs];by_cases h:v.N∈met
  ·rw [if_pos h,Vy h];refine ⟨J,fun _ hb=> ?_⟩;rw [tO hb h];rfl
  rw [if_neg h,Vz h];exact ⟨J,fun h2=>absurd h2 h⟩
 have keep: ∀v:Vp,(v.N∉met\/bd v=false)->bI (AT met to) met v=v:=fun v h=>by
  unfold bI;rcases h with h|h
  ·rw [Vz h,Bool.and_false];rfl
  rw [h];rfl
 have copy:dx N c=some c:=by
  unfold dx cx;rw [rF (by simp only [Wy];omega),rF (by simp only [Wy];omega)];rfl
 have body: ∀kv:List (Int×Int),Sh kv met to met.length->Sat (rb N c kv) fun r=>r=lF (AT met to) met c:=by
  intro kv hk;unfold rb;rw [copy,bs];refine cG (fun k i (s:List Vp)=>gI N c kv k s (i:Int)) c.Xy.length (fun i s=>s=(c.Xy.take i).map (bI (AT met to) met)++c.Xy.drop i) _ ?_ ?_ N 0 c.Xy U U (by simp)
  ·rintro k i s hi rfl go;show Sat (gI N c kv (k+1) _ (i:Int)) _;obtain ⟨e1,e2⟩:=mv kv hk c.Xy[i];rw [gI.eq_2,dn U,ct,K4 hi,bs,e1,sg];simp only [bs];unfold qb;rw [r64 U U,r64 U U];by_cases hm:c.Xy[i].N∈met
   ·rw [Vy hm,ct,bs];cases hb:bd c.Xy[i]
    ·rw [cf];exact go _ (AM hi (keep _ (.inr hb)))
    rw [ct,e2 hm hb,VW];exact go _ (K2 hi)
   rw [Vz hm,cf,bs,cf];exact go _ (AM hi (keep _ (.inl hm)))
  rintro k s rfl;show Sat (gI N c kv (k+1) _ _) _;rw [gI.eq_2,cY U,cf,Xs,List.drop_length,VZ];unfold ut;refine cG (fun k i (s:List Vp)=>gG N c kv _ k s (i:Int)) c.Xx.length (fun i s=>s=(c.Xx.take i).map (bI (AT met to) met)++c.Xx.drop i) _ ?_ ?_ N 0 c.Xx U U (by simp)
  ·rintro k i s hi rfl go;show Sat (gG N c kv _ (k+1) _ (i:Int)) _;obtain ⟨e1,e2⟩:=mv kv hk c.Xx[i];rw [gG.eq_2,dn U,ct,K4 hi,bs,e1,sg];simp only [bs];unfold qa;rw [r64 U U,r64 U U];by_cases hm:c.Xx[i].N∈met
   ·rw [Vy hm,ct,bs];cases hb:bd c.Xx[i]
    ·rw [cf];exact go _ (AM hi (keep _ (.inr hb)))
    rw [ct,e2 hm hb,VW];exact go _ (K2 hi)
   rw [Vz hm,cf,bs,cf];exact go _ (AM hi (keep _ (.inl hm)))
  rintro k s rfl;show Sat (gG N c kv _ (k+1) _ _) _;rw [gG.eq_2,cY U,cf,Xs,List.drop_length,VZ];unfold ur uu;exact ad J
 unfold fZ;refine cG (fun k i (s:List (Int×Int))=>fb N met to c k s (i:Int)) met.length (fun i s=>Sh s met to i) _ ?_ ?_ N 0 [] U U (fun x=>J)
 ·rintro k i s hi h1 go;show Sat (fb N met to c (k+1) _ (i:Int)) _
  have hno:lk s met[i]=none:=by rw [h1,if_neg (E4 hn hi)]
  have hto:i<to.length:=by omega
  rw [fb.eq_2,dn U,ct,aG hi,bs,hno,Option.isSome_none,cf,dn U,ct,aG hto,bs];unfold nu;rw [r64 U U]
  refine go _ fun x=> ?_
  rw [Dq,Dq,h1 x,ay hi];by_cases e:met[i]=x
  ·subst e;rw [if_pos rfl,if_pos (VD _ (WL.2 rfl))];unfold AT;rw [if_pos (Xv _),CK hn hi];simp [List.getD,hto]
  rw [if_neg e,if_neg e];by_cases hx:x∈met.take i
  ·rw [if_pos hx,if_pos (VC _ hx)]
  rw [if_neg hx,if_neg fun h2=>(WE.1 h2).elim hx fun h2=>e (WL.1 h2).symm]
 rintro k s h1;show Sat (fb N met to c (k+1) _ _) _;rw [fb.eq_2,cY U,cf];exact body s h1
theorem Dn (N:Nat)(hN:6500<N)(l:List Vp)(a6:l.length<=4000)(met to:List Int)(hn:met.Nodup)(hl:to.length=met.length)(hml:met.length<=1200):kf N l met to=some (l.map (bI (AT met to) met)):=by
 unfold kf;rw [Dy N hN _ (by simp) a6 met to hn hl hml,bs];rfl
def fV (m:Ve)(a:Int):Bool:=decide ((aJ m a).XC=0)
def tJ (p:Int->Bool):List Int->Nat->Nat->List Int
 | [],_,_=> []
 |a::l,s,o=>bif p a then (2*(s:Int)+1)::tJ p l (s+1) o else (2*(o:Int)+2)::tJ p l s (o+1)
theorem Gx (p:Int->Bool)(a:Int)(l:List Int)(s o:Nat):tJ p (a::l) s o=bif p a then (2*(s:Int)+1)::tJ p l (s+1) o else (2*(o:Int)+2)::tJ p l s (o+1):=rfl
theorem Bg (p:Int->Bool): ∀(l:List Int) (s o:Nat),(tJ p l s o).length=l.length
 | [],_,_=>rfl
 |a::l,s,o=>by unfold tJ;cases p a<;>simp [Bg p l]
theorem Bh (p:Int->Bool): ∀(l l':List Int) (s o:Nat),tJ p (l++l') s o=tJ p l s o++tJ p l' (s+(l.filter p).length) (o+(l.filter fun a=> !p a).length)
 | [],_,_,_=>by simp [tJ]
 | a::l,l',s,o=>by
  rw [V2,Gx,Gx];cases h:p a
  ·simp only [cond_false];rw [Bh p l l'];simp only [V9,h,Bool.not_false,if_true,VQ,if_false,Wv,V2];rw [Nat.add_right_comm o 1];rfl
  simp only [cond_true];rw [Bh p l l'];simp only [V9,h,Bool.not_true,if_true,VQ,if_false,Wv,V2];rw [Nat.add_right_comm s 1];rfl
theorem EO (p:Int->Bool){l:List Int}{i:Nat}(h:i<l.length)(s o:Nat):(tJ p l s o).getD i 0=bif p l[i] then 2*((s+((l.take i).filter p).length:Nat):Int)+1 else 2*((o+((l.take i).filter fun a=> !p a).length:Nat):Int)+2:=by
 have e:l=l.take i++(l[i]::l.drop (i+1)):=by rw [<-V3 h,WS]
 have e2:tJ p l s o=tJ p (l.take i) s o++tJ p (l[i]::l.drop (i+1)) (s+((l.take i).filter p).length) (o+((l.take i).filter fun a=> !p a).length):=by
  rw [<-Bh, <-e]
 rw [e2]
 have hl:(tJ p (l.take i) s o).length=i:=by rw [Bg,Xq];omega
 unfold List.getD;rw [Wf U,hl,Nat.sub_self];unfold tJ;cases p l[i]<;>rfl
theorem HI (N:Nat)(hN:6500<N){roots:List Vp}(hs:Small m roots)(kp:List Int)(nx:Int)(h:Mt m met seen):fG N ⟨m,kp,met,seen,nx⟩=some (tJ (fV m) met 0 m.Xz.length):=by
 have hml:=h.len hs;have ho:=hs.old;apply Sat.eq;unfold fG;refine cG (fun k i (s:List Int×Nat×Nat)=>ca N ⟨m,kp,met,seen,nx⟩ k s.1 (s.2.1:Int) (s.2.2:Int) (i:Int)) met.length (fun i s=>s.1=tJ (fV m) (met.take i) 0 m.Xz.length/\s.2.1=((met.take i).filter (fV m)).length/\s.2.2=m.Xz.length+((met.take i).filter fun a=> !fV m a).length) _ ?_ ?_ N 0 ([],0,m.Xz.length) (by show met.length<N+0;omega) U ⟨J,J,J⟩
 ·rintro k i ⟨s,a,b⟩ hi ⟨h1,h2,h3⟩ go;simp only at h1 h2 h3;have l1:((met.take i).filter (fV m)).length<=i:=W5 (Wx _ _) (by rw [Xq];omega);have l2:((met.take i).filter fun a=> !fV m a).length<=i:=W5 (Wx _ _) (by rw [Xq];omega)
  have hsl:s.length=i:=by rw [h1,Bg,Xq];omega
  show Sat (ca N ⟨m,kp,met,seen,nx⟩ (k+1) s (a:Int) (b:Int) (i:Int)) _
  have hnext:tJ (fV m) (met.take (i+1)) 0 m.Xz.length=s++ [bif fV m met[i] then 2*(a:Int)+1 else 2*(b:Int)+2]:=by
   rw [ay hi,Bh, <-h1,W9, <-h2, <-h3];unfold tJ;cases fV m met[i]<;>rfl
  have a6:((met.take (i+1)).filter (fV m)).length=a+(bif fV m met[i] then 1 else 0):=by
   rw [ay hi,List.filter_append,Xp, <-h2];cases hb:fV m met[i]<;>simp [hb]
  have a8:((met.take (i+1)).filter fun a=> !fV m a).length+m.Xz.length=b+(bif fV m met[i] then 0 else 1):=by
   rw [ay hi,List.filter_append,Xp,h3];cases hb:fV m met[i]<;>simp [hb]<;>omega
  have hcell:=tV N hs kp met seen nx (h.has _ (Xv hi));rw [ca.eq_2]
  dsimp only
  rw [dn U,ct,aG hi,bs,hcell,bs];unfold gP;have e:decide ((aJ m met[i]).XC=0)=fV m met[i]:=rfl;rw [e,r64 U U,r64 U U,rF (by simp;omega),r64 U U,r64 U U,r64 U U,r64 U U,rF (by simp;omega),r64 U U,r64 U U];cases hb:fV m met[i]
  ·rw [hb] at hnext a6 a8;rw [cf];exact go (s++ [2*(b:Int)+2],a,b+1) ⟨hnext.symm,a6.symm,by show b+1=_;simp only [cond_false] at a8;omega⟩
  rw [hb] at hnext a6 a8;rw [ct];exact go (s++ [2*(a:Int)+1],a+1,b) ⟨hnext.symm,a6.symm,by show b=_;simp only [cond_true] at a8;omega⟩
 rintro k ⟨s,a,b⟩ ⟨h1,h2,h3⟩;simp only [Xs] at h1 h2 h3;show Sat (ca N ⟨m,kp,met,seen,nx⟩ (k+1) s (a:Int) (b:Int) _) _;rw [ca.eq_2]
 dsimp only
 rw [cY U,cf];exact ad h1
theorem FM: ∀{l:List Vp},sD l=true->jm lv l->i3 (fun x=>decide (x∈lv)) l=l
 | [],_,_=>rfl
 | [_],h,_=>by cases h
 |k::v::r,h,ha=>by
  rw [o6] at h;simp only [Xt,Xl] at h;have hk:k.N∈lv:=ha k (by simp) (by unfold bd;rw [h.1.1];rfl);rw [yu,Vy hk,cond_true,FM h.2 fun w hw=>ha w (by simp [hw])];rfl
theorem I8 (cb:Vp): ∀{l:List Vp},nM l=true->jm lv l->er lv l=l/\nK lv cb l=[]
 | [],_,_=>⟨rfl,rfl⟩
 | [_],h,_=>by cases h
 | [_,_],h,_=>by cases h
 | [_,_,_],h,_=>by cases h
 | t::a::k::s::r,h,ha=>by
  rw [oZ] at h;simp only [Xt,Xl] at h;obtain ⟨⟨⟨h1, -⟩,h3,h4⟩,h5⟩:=h
  obtain ⟨i1,i2⟩:=I8 cb h5 fun w hw=>ha w (by simp [hw])
  have ht:t.N∈lv:=ha t (by simp) (by unfold bd;rw [h1];rfl)
  have hk:(decide (k.Xw=7)&& !decide (k.N∈lv))=false:=by
   by_cases a6:k.Xw=7
   ·rw [Vy (ha k (by simp) (by unfold bd;rw [a6];rfl)),Bool.not_true,Bool.and_false]
   rw [Vz a6,VP]
  rw [wv,J0,i1,i2,Vy ht,hk];exact ⟨J,J⟩
theorem CellOk.id {N:Nat}(h:CellOk N lv f c)(ha:∀x∈cp c,x∈lv):mI N lv c=c/\iR lv c=[]:=by
 have hin:jm lv c.Xx:=fun v hv hb=>ha _ (Cf (VD _ hv) hb)
 by_cases h8:c.Xw=8
 ·rw [h.clC8 h8,FM (h.ent2 h8) hin];exact ⟨J,by unfold iR;rw [Vz U];rfl⟩
 by_cases h10:c.Xw=10
 ·obtain ⟨-, -,h4⟩:=h.ent4 h10
  obtain ⟨i1,i2⟩:=I8 (lv:=lv) (c.Xx.headD mO) h4 fun v hv=>hin v (List.mem_of_mem_drop hv)
  rw [CellOk.clC10 h10,i1,WS];refine ⟨J,?_⟩;unfold iR yv;rw [Vy h10];exact i2
 exact ⟨CellOk.clC0 h8 h10,by unfold iR;rw [Vz h10];rfl⟩
theorem Do (N:Nat)(hN:6500<N)(h:CellOk N lv f c)(hl:lv.length<=5000)(gone:List Vp)(hg:gone.length<=10000):kh N c lv gone=some (mI N lv c,gone++iR lv c):=by
 have hlen:=(sS N lv c).2;have hm:=h.more;unfold kh;by_cases h8:c.Xw=8
 ·rw [Vy h8,ct,FK N hN lv hl c h.slots h.more,h.wm,bs];unfold mI iR;rw [Vy h8,Vz (p:=c.Xw=10) U,cond_true,cond_true,cond_false,VZ]
 rw [Vz h8,cf];by_cases h10:c.Xw=10
 ·have e1:mI N lv c=(yv lv c).1:=by unfold mI;rw [Vz h8,Vy h10];rfl
  have e2:iR lv c=(yv lv c).2:=by unfold iR;rw [Vy h10];rfl
  rw [Vy h10,ct,zW N hN lv hl c h.slots h.more,h.fr,Vy h10,cond_true,bs, <-e1, <-e2,rF U]
 rw [Vz h10,cf,CellOk.clC0 h8 h10];unfold iR;rw [Vz h10,cond_false,VZ]
structure MinCtx (N:Nat) (m:Ve) (roots:List Vp) (kept met:List Int):Prop where
 big:6500<N
 small:Small m roots
 w64:W64 m
 r64: ∀v∈roots,in64 v.N
 tot:bz (fun a=>(aJ m a).Xx.length) (C5 m)<=3600
 klen:kept.length<=1200
 may:E9 N m roots kept=true
 prog: ∃seen nx,pi N m roots kept=some ⟨m,kept,met,seen,nx⟩/\Mt m met seen
 isM: ∃b,IsMinor (MS N m) (bP m.Xz.length) kept (Em m roots kept) b met
theorem CO {N:Nat}{roots:List Vp}(h:E9 N m roots kept=true):Fu N m roots=true/\ua m kept=true/\EY m kept=true:=by
 unfold E9 at h;unfold Fu;simp only [Xt] at h⊢;exact ⟨h.1.1,h.1.2,h.2⟩
theorem Fj (h:ua m kept=true){a:Int}(ha:a∈kept):aw m a=true/\yB a=false:=by
 unfold ua at h;rw [Xt] at h;have:=sT h.1 ha;rw [Xt] at this;exact ⟨this.2,by cases hy:yB a;rfl;rw [hy] at this;cases this.1⟩
theorem PW {N:Nat}(hN:6500<N){roots:List Vp}(hs:Small m roots)(hw:W64 m)(hr:∀v∈roots,in64 v.N)(ht:bz (fun a=>(aJ m a).Xx.length) (C5 m)<=3600)(hk:kept.length<=1200)(hm:E9 N m roots kept=true): ∃met,MinCtx N m roots kept met:=by
 obtain ⟨h1,h2, -⟩:=CO hm;obtain ⟨g1,g2, -⟩:=BO h1;obtain ⟨r,e,seen,nx,b,e2,h3,h4⟩:=MJ N hN hs g1 g2 kept (fun x hx=>(Fj h2 hx).1) hk;exact ⟨r.XN,hN,hs,hw,hr,ht,hk,hm,⟨seen,nx,by rw [e, <-e2],h3⟩,⟨b,h4⟩⟩
def iZ (m:Ve)(met:List Int):List Int:=bP m.Xz.length++met
def FX (m:Ve)(met:List Int):List Int:=tJ (fV m) met 0 m.Xz.length
def jf (m:Ve)(met:List Int):Int->Int:=AT met (FX m met)
def nC (m:Ve)(met:List Int)(a:Int):Vd:=lF (jf m met) met (mI N (iZ m met) (aJ m a))
def nY (m:Ve)(met:List Int)(a:Int):Vd:=⟨(nC N m met a).Xw,(nC N m met a).XD,(nC N m met a).XB,1,(nC N m met a).Xy,(nC N m met a).Xx⟩
def oV (m:Ve)(met:List Int):Ve:=⟨(met.filter (fV m)).map (nY N m met),(bP m.Xz.length).map (nC N m met)++(met.filter fun a=> !fV m a).map (nY N m met)⟩
def yb (m:Ve)(met:List Int):List Vp:=(iZ m met).flatMap fun a=>iR (iZ m met) (aJ m a)
section
variable {N:Nat}{roots:List Vp}(h:MinCtx N m roots kept met)
include h
theorem MinCtx.whole:Whole m:=(BO (CO h.may).1).1
theorem MinCtx.rootsH: ∀x∈bR roots,aw m x=true:=(BO (CO h.may).1).2.1
theorem MinCtx.mt:met.Nodup/\(∀x∈met,yB x=true)/\ ∀x∈met,aw m x=true:=by
 obtain ⟨_,_, -,h2⟩:=h.prog;exact ⟨h2.nd,h2.yng,h2.has⟩
theorem MinCtx.mlen:met.length<=1200:=by
 obtain ⟨_,_, -,h2⟩:=h.prog;exact h2.len h.small
theorem MinCtx.f1has {a:Int}(ha:a∈iZ m met):aw m a=true:=by
 unfold iZ at ha;rcases WE.1 ha with ha|ha
 ·obtain ⟨i,hi,rfl⟩:=gT.1 ha;rw [sd];exact Vy hi
 exact h.mt.2.2 a ha
theorem MinCtx.keptOf {a:Int}(ha:a∈bP m.Xz.length)(hx:x∈cp (aJ m a))(hy:yB x=true):a∈kept:=by
 obtain ⟨i,hi,rfl⟩:=gT.1 ha;have h3:=(CO h.may).2.2;unfold EY at h3;have:=sT h3 (WK.2 hi);rw [List.any_eq_true.2 ⟨x,hx,hy⟩] at this;simpa using this
theorem MinCtx.inF {a:Int}(ha:a∈iZ m met)(hx:aw m x=true)(hyx:yB x=true->x∈met):x∈iZ m met:=by
 have _:=h;have _:=ha;unfold iZ
 cases hy:yB x with
 |true=>exact VD _ (hyx hy)
 |false=>
  obtain ⟨i,hi,rfl⟩:=Je hx hy;exact VC _ (gT.2 ⟨i,hi,J⟩)
theorem MinCtx.cell {a:Int}(ha:a∈iZ m met):CellOk N (iZ m met) (iZ m met) (aJ m a):=by
 have hN:=h.big;have hh:=h.f1has ha;have hm:=mK hh;have hs:=h.small.cells _ hm;obtain ⟨b,hM⟩:=h.isM;obtain ⟨q1,q2⟩:=hM.closed;have hf:=(BO (CO h.may).1).2.2 _ hm;refine ⟨by omega,?_,hs.1,hs.2,fun x hx=> ?_,fun x hx=> ?_,fun x=>Iff.rfl⟩
 ·unfold Fv at hf;rw [qr N U _ U U,Xt] at hf;exact hf.1
 ·refine h.inF ha (h.whole.leads hh x hx) fun hy=> ?_
  unfold iZ at ha;rcases WE.1 ha with ha|ha
  ·exact hM.start (VD _ (List.mem_flatMap.2 ⟨a,h.keptOf ha (VC _ hx) hy,hx⟩)) hy
  exact q1 a ha x hx hy
 refine h.inF ha (h.whole.opens hh x hx) fun hy=> ?_
 refine q2 a ?_ x hx hy;unfold iZ at ha;rcases WE.1 ha with ha|ha
 ·exact VC _ (h.keptOf ha (Ko hx) hy)
 exact VD _ ha
theorem MinCtx.old {a:Int}(ha:a∈bP m.Xz.length)(hk:a∉kept):mI N (iZ m met) (aJ m a)=aJ m a/\iR (iZ m met) (aJ m a)=[]:=by
 have hf:a∈iZ m met:=VC _ ha
 refine (h.cell hf).id fun x hx=>h.inF hf (h.whole a (h.f1has hf) x hx) fun hy=>absurd (h.keptOf ha hx hy) hk
theorem MinCtx.nd:(iZ m met).Nodup:=by
 unfold iZ;refine WM.2 ⟨?_,h.mt.1,fun a ha b hb e=> ?_⟩
 ·exact (MW _).imp fun hab e=>by omega
 subst e;obtain ⟨i, -,rfl⟩:=gT.1 ha;have:=h.mt.2.1 _ hb;rw [DV] at this;cases this
theorem MinCtx.goneLen: ∀l:List Int,l.Nodup->(∀a∈l,a∈iZ m met)->(l.flatMap fun a=>iR (iZ m met) (aJ m a)).length<=3600:=by
 intro l hn hl
 have h1:=rj (fun a=>(aJ m a).Xx.length) hn fun a ha=>vN (h.f1has (hl a ha))
 have h2: ∀l:List Int,(l.flatMap fun a=>iR (iZ m met) (aJ m a)).length<=bz (fun a=>(aJ m a).Xx.length) l:=fun l=>by
  induction l with
  |nil=>simp [bz]
  |cons a l ih=>
   have:=(sS N (iZ m met) (aJ m a)).2;rw [Wb,Xp,bz];omega
 have:=h2 l;have:=h.tot;omega
end
end
section
open Go.RowKit
theorem Gm (f:α->List β){l:List α}{i:Nat}(h:i<l.length):(l.take (i+1)).flatMap f=(l.take i).flatMap f++f l[i]:=by
 rw [ay h,Wa,Wb,List.flatMap_nil,VZ]
theorem Nu (f:α->β){l:List α}{i:Nat}(h:i<l.length):(l.take (i+1)).map f=(l.take i).map f++ [f l[i]]:=by
 rw [ay h,WB];rfl
theorem Dd (p:α->Bool){l:List α}{i:Nat}(h:i<l.length):(l.take (i+1)).filter p=(l.take i).filter p++(bif p l[i] then [l[i]] else []):=by
 rw [ay h,List.filter_append];cases hp:p l[i]<;>simp [hp]
section
variable {N:Nat}{roots:List Vp}(h:MinCtx N m roots kept met)
include h
theorem MinCtx.f1len:(iZ m met).length<=1800:=by
 have h1:=h.mlen;have h2:=h.small.old;unfold iZ bP;rw [Xp,Xr,List.length_range];omega
theorem Oa:jr N m roots kept=some (oV N m met,roots.map (bI (jf m met) met),(yb m met).map (bI (jf m met) met),0):=by
 have hN:=h.big;have hs:=h.small;have hml:=h.mlen;have ho:=hs.old;have hrl:=hs.roots;have hfl:=h.f1len;obtain ⟨hnd,hyng,hhas⟩:=h.mt;obtain ⟨seen,nx,hp,hmt⟩:=h.prog;have hto:(FX m met).length=met.length:=Bg _ _ _ _
 have hev:(bP m.Xz.length).length=m.Xz.length:=by unfold bP;simp
 obtain ⟨hfine,hkok, -⟩:=CO h.may
 have b0: ∀x∈kept,in64 x:=fun x hx=>qW hs (Fj hkok hx).1
 have hkl:=h.klen;have hgl: ∀l:List Int,l.Nodup->(∀a∈l,a∈iZ m met)->(l.flatMap fun a=>iR (iZ m met) (aJ m a)).length<=3600:=h.goneLen
 have tk: ∀i,((bP m.Xz.length).take i).flatMap (fun a=>iR (iZ m met) (aJ m a))=((bP m.Xz.length).take i).flatMap fun a=>iR (iZ m met) (aJ m a):=fun i=>rfl
 have g1: ∀i,(((bP m.Xz.length).take i).flatMap fun a=>iR (iZ m met) (aJ m a)).length<=3600:=fun i=>hgl _ (List.Nodup.sublist (List.take_sublist _ _) (WM.1 h.nd).1) fun a ha=>VC _ (List.mem_of_mem_take ha)
 have g2: ∀i,((bP m.Xz.length++met.take i).flatMap fun a=>iR (iZ m met) (aJ m a)).length<=3600:=fun i=>hgl _ (List.Nodup.sublist (List.Sublist.append (List.Sublist.refl _) (List.take_sublist i met)) h.nd) fun a ha=>(WE.1 ha).elim (fun h=>VC _ h) fun h=>VD _ (List.mem_of_mem_take h)
 have moved: ∀a∈iZ m met, ∀d:Vd,d.Xy.length<=600->d.Xx.length<=2900->fZ N d met (FX m met)=some (lF (jf m met) met d):=fun a _ d h1 h2=>Dy N hN d U U met (FX m met) hnd hto hml
 -- the young cells
 have young: ∀O:List Vd,O.length<=600->Sat (dP N ⟨m,kept,met,seen,nx⟩ roots (FX m met) (iZ m met) N ((bP m.Xz.length).flatMap fun a=>iR (iZ m met) (aJ m a)) 0 [] O) fun r=>r=(⟨(met.filter (fV m)).map (nY N m met),O++(met.filter fun a=> !fV m a).map (nY N m met)⟩,roots.map (bI (jf m met) met),(yb m met).map (bI (jf m met) met),0):=by
  intro O hO;refine cG (fun k i (s:List Vp×List Vd×List Vd)=>dP N ⟨m,kept,met,seen,nx⟩ roots (FX m met) (iZ m met) k s.1 (i:Int) s.2.1 s.2.2) met.length (fun i s=>s.1=(bP m.Xz.length++met.take i).flatMap (fun a=>iR (iZ m met) (aJ m a))/\s.2.1=((met.take i).filter (fV m)).map (nY N m met)/\s.2.2=O++((met.take i).filter fun a=> !fV m a).map (nY N m met)) _ ?_ ?_ N 0 (_,[],O) U U ⟨by rw [WV,VZ];rfl,rfl,by simp⟩
  ·rintro k i ⟨g,hU,Q⟩ hi ⟨h1,h2,h3⟩ go;simp only at h1 h2 h3;show Sat (dP N ⟨m,kept,met,seen,nx⟩ roots (FX m met) (iZ m met) (k+1) g (i:Int) hU Q) _;have hgm:met[i]∈met:=Xv hi;have hgf:met[i]∈iZ m met:=VD _ hgm;have hc:=h.cell hgf;have hcl:=sS N (iZ m met) (aJ m met[i]);have hc1:=hc.slots;have hc2:=hc.more
   have hgt:g.length<=3600:=by rw [h1];exact g2 i
   have hYl:hU.length<=i:=by rw [h2,Xr];exact W5 (Wx _ _) (by rw [Xq];omega)
   have hQl:Q.length<=600+i:=by
    rw [h3,Xp,Xr];have:=Wx (fun a=> !fV m a) (met.take i);rw [Xq] at this;omega
   have hti:i<(FX m met).length:=by omega
   have htv:(FX m met)[i]=bif fV m met[i] then 2*((0+((met.take i).filter (fV m)).length:Nat):Int)+1 else 2*((m.Xz.length+((met.take i).filter fun a=> !fV m a).length:Nat):Int)+2:=by
    have:=EO (fV m) hi 0 m.Xz.length;unfold List.getD at this;have e:(tJ (fV m) met 0 m.Xz.length)[i]? =some (FX m met)[i]:=Wj hti;rw [e] at this;exact this
   have hyt:yB (FX m met)[i]=fV m met[i]:=by
    rw [htv];cases fV m met[i]
    ·exact DV _
    exact JT _
   rw [dP.eq_2]
   dsimp only
   rw [dn U,ct,aG hi,bs,tV N hs kept met seen nx (h.f1has hgf),bs,Do N hN hc U g U,bs]
   dsimp only
   rw [moved _ hgf _ U U,bs,aG hti,bs,te,bs,hyt];unfold mC;rw [r64 U U,r64 U U,rF (by simp;omega),rF (by simp;omega)]
   have hg':g++iR (iZ m met) (aJ m met[i])=(bP m.Xz.length++met.take (i+1)).flatMap fun a=>iR (iZ m met) (aJ m a):=by
    rw [h1,Wa,Wa,Gm _ hi,VB]
   have a6:=Dd (fV m) hi;have a8:=Dd (fun a=> !fV m a) hi;cases hb:fV m met[i]
   ·rw [hb] at a6;simp only [hb,Bool.not_false,cond_true,cond_false,VZ] at a6 a8;rw [cf];exact go (_,hU,_) ⟨hg',by show hU=_;rw [a6];exact h2,by show Q++ [nY N m met met[i]]=_;rw [a8,WB,h3,VB];rfl⟩
   rw [hb] at a6;simp only [hb,Bool.not_true,cond_true,cond_false,VZ] at a6 a8;rw [ct];exact go (_,_,Q) ⟨hg',by show hU++ [nY N m met met[i]]=_;rw [a6,WB,h2];rfl,by show Q=_;rw [a8];exact h3⟩
  rintro k ⟨g,hU,Q⟩ ⟨h1,h2,h3⟩;simp only [Xs] at h1 h2 h3;show Sat (dP N ⟨m,kept,met,seen,nx⟩ roots (FX m met) (iZ m met) (k+1) g _ hU Q) _
  have hgt:g.length<=3600:=by rw [h1];have:=g2 met.length;rwa [Xs] at this
  rw [dP.eq_2]
  dsimp only
  rw [cY U,cf];unfold pJ
  dsimp only
  rw [Dn N hN roots U met (FX m met) hnd hto hml,bs,Dn N hN g U met (FX m met) hnd hto hml,bs,h2,h3];refine ad ?_;rw [h1];rfl
 apply Sat.eq;unfold jr;rw [GM N hN hs h.w64 h.r64 kept U b0,h.may,bs,nt,cf,hp,bs,HI N hN hs kept nx hmt,bs,E7 N hN hs kept nx hmt,bs];refine cG (fun k i (s:List Vp×List Vd)=>eU N m roots kept (FX m met) ⟨m,kept,met,seen,nx⟩ k s.1 (iZ m met) (i:Int) s.2) m.Xz.length (fun i s=>s.1=((bP m.Xz.length).take i).flatMap (fun a=>iR (iZ m met) (aJ m a))/\s.2=((bP m.Xz.length).take i).map (nC N m met)) _ ?_ ?_ N 0 ([],[]) U U ⟨J,J⟩
 ·rintro k i ⟨g,O⟩ hi ⟨h1,h2⟩ go;simp only at h1 h2;show Sat (eU N m roots kept (FX m met) ⟨m,kept,met,seen,nx⟩ (k+1) g (iZ m met) (i:Int) O) _
  have hie:i<(bP m.Xz.length).length:=by omega
  have hei:(bP m.Xz.length)[i]=2*(i:Int)+2:=GU hie;have hae:(2*(i:Int)+2)∈bP m.Xz.length:=gT.2 ⟨i,hi,rfl⟩;have haf:(2*(i:Int)+2)∈iZ m met:=VC _ hae;have hc:=h.cell haf;have hcl:=sS N (iZ m met) (aJ m (2*(i:Int)+2));have hc1:=hc.slots;have hc2:=hc.more
  have hgt:g.length<=3600:=by rw [h1];exact g1 i
  have hOl:O.length<=i:=by rw [h2,Xr,Xq];omega
  have hold:=h.old hae
  have n1:((bP m.Xz.length).take (i+1)).flatMap (fun a=>iR (iZ m met) (aJ m a))=g++iR (iZ m met) (aJ m (2*(i:Int)+2)):=by rw [Gm _ hie,hei,h1]
  have n2:((bP m.Xz.length).take (i+1)).map (nC N m met)=O++ [nC N m met (2*(i:Int)+2)]:=by rw [Nu _ hie,hei,h2]
  rw [rM m i hi] at hc hcl hc1 hc2 hold n1
  have hnc:nC N m met (2*(i:Int)+2)=lF (jf m met) met (mI N (iZ m met) m.Xz[i]):=by unfold nC;rw [rM m i hi]
  have body: ∀(kb:List Vp->List Int->Int->List Vd->Option (Ve×List Vp×List Vp×Int)) (g':List Vp) (d:Vd),d.Xy.length<=600->d.Xx.length<=2900->jO N kb m (i:Int) roots kept (FX m met) (iZ m met) O ⟨m,kept,met,seen,nx⟩ g' d.Xw d.XD d.XB d.XC d.Xy d.Xx=kb g' (iZ m met) ((i:Int)+1) (O++ [lF (jf m met) met d]):=by
   intro kb g' d d1 d2;have:=moved _ haf d d1 d2;unfold jO
   dsimp only
   have e:fZ N ⟨d.Xw,d.XD,d.XB,d.XC,d.Xy,d.Xx⟩ met (FX m met)=some (lF (jf m met) met d):=this;rw [e,bs,rF (by simp;omega),r64 U U]
  rw [eU.eq_2,dn U,ct,aG hi,bs,r64 U U,r64 U U,ra N hN kept U,bs];by_cases hk:(2*(i:Int)+2)∈kept
  ·rw [Vy hk,ct,Do N hN hc U g U,bs]
   dsimp only
   rw [body _ _ _ U U];exact go (_,_) ⟨n1.symm,by rw [n2,hnc]⟩
  obtain ⟨o1,o2⟩:=hold hk;rw [Vz hk,cf,body _ _ _ U U];exact go (g,_) ⟨by rw [n1,o2,VZ],by rw [n2,hnc,o1]⟩
 rintro k ⟨g,O⟩ ⟨h1,h2⟩;have etl:(bP m.Xz.length).take m.Xz.length=bP m.Xz.length:=WT U;simp only [etl] at h1 h2;show Sat (eU N m roots kept (FX m met) ⟨m,kept,met,seen,nx⟩ (k+1) g (iZ m met) _ O) _;rw [eU.eq_2,cY U,cf];unfold pK;rw [h1]
 have hOl:O.length<=600:=by rw [h2,Xr];omega
 have:=young O hOl;rw [h2] at this⊢;exact this
end
end
section
open Go.RowKit
theorem Ls: ∀{A B:List Int} {x:Int},x∉A->(A++x::B).idxOf x=A.length
 | [],B,x,_=>by simp
 |a::A,B,x,h=>by
  have h1:a≠x:=fun e=>h (by simp [e])
  rw [V2,List.idxOf_cons,Ls fun hx=>h (by simp [hx])];have:(a==x)=false:=beq_eq_false_iff_ne.2 h1;rw [this];rfl
theorem Jj {l:List Int}(hn:l.Nodup)(p:Int->Bool){i:Nat}(h:i<l.length)(hp:p l[i]=true):(l.filter p).idxOf l[i]=((l.take i).filter p).length:=by
 have e:l.filter p=(l.take i).filter p++l[i]::(l.drop (i+1)).filter p:=by
  have e1:l=l.take i++(l[i]::l.drop (i+1)):=by rw [<-V3 h,WS]
  have e2:l.filter p=(l.take i).filter p++(l[i]::l.drop (i+1)).filter p:=by rw [<-List.filter_append, <-e1]
  rw [e2,V9,hp,if_pos rfl]
 rw [e]
 exact Ls fun hm=>E4 hn h (WH.1 hm).1
def xx (c:Vd)(g:Int):Vd:=⟨c.Xw,c.XD,c.XB,g,c.Xy,c.Xx⟩
theorem Hw (h:bm c=true):bm (xx c 1)=true:=by
 unfold bm at h⊢;unfold xx;simp only [Xt] at h⊢;obtain ⟨⟨⟨⟨⟨⟨⟨h1,h2⟩,h3⟩,h4⟩,h5⟩, -⟩, -⟩,h8⟩:=h;exact ⟨⟨⟨⟨⟨⟨⟨h1,h2⟩,h3⟩,h4⟩,h5⟩,J⟩,J⟩,h8⟩
structure VCell (N:Nat) (c:Vd):Prop where
 big:6500<N
 right:bm c=true
 slots:c.Xy.length<=600
 more:c.Xx.length<=2900
theorem Pa (m:Ve){i:Nat}(h:m.Xz[i]? =some c):aw m (2*(i:Int)+2)=true/\aJ m (2*(i:Int)+2)=c:=by
 obtain ⟨h1,h2⟩:=Wl.1 h;exact ⟨by rw [sd];exact Vy h1,by rw [rM m i h1];exact h2⟩
theorem Sc (m:Ve){i:Nat}(h:m.XA[i]? =some c):aw m (2*(i:Int)+1)=true/\aJ m (2*(i:Int)+1)=c:=by
 obtain ⟨h1,h2⟩:=Wl.1 h;exact ⟨by rw [AA];exact Vy h1,by rw [vS m i h1];exact h2⟩
theorem Jb {a:Int}(h:a∈f):f[f.idxOf a]? =some a:=Wl.2 ⟨vd h,qX h⟩
section
variable {N:Nat}{roots:List Vp}(h:MinCtx N m roots kept met)
include h
theorem MinCtx.rhoE {a:Int}(ha:a∈bP m.Xz.length):jf m met a=a:=by
 have hn:a∉met:=fun hm=>(WM.1 h.nd).2.2 a ha a hm rfl
 unfold jf AT;rw [if_neg hn]
theorem MinCtx.rhoY {a:Int}(ha:a∈met)(hp:fV m a=true):jf m met a=2*(((met.filter (fV m)).idxOf a:Nat):Int)+1:=by
 obtain ⟨i,hi,rfl⟩:=Wu ha;unfold jf AT FX;rw [if_pos ha,CK h.mt.1 hi,EO _ hi,hp,Jj h.mt.1 _ hi hp,cond_true,W9]
theorem MinCtx.rhoO {a:Int}(ha:a∈met)(hp:fV m a=false):jf m met a=2*((m.Xz.length+(met.filter fun a=> !fV m a).idxOf a:Nat):Int)+2:=by
 obtain ⟨i,hi,rfl⟩:=Wu ha;unfold jf AT FX;rw [if_pos ha,CK h.mt.1 hi,EO _ hi,hp,Jj h.mt.1 (fun a=> !fV m a) hi (by rw [hp];rfl),cond_false]
theorem MinCtx.cases {a:Int}(ha:a∈iZ m met):(a∈bP m.Xz.length/\jf m met a=a)\/(a∈met/\fV m a=true/\a∈met.filter (fV m))\/(a∈met/\fV m a=false/\a∈met.filter fun a=> !fV m a):=by
 unfold iZ at ha;rcases WE.1 ha with ha|ha
 ·exact .inl ⟨ha,h.rhoE ha⟩
 cases hp:fV m a with
 |true=>exact .inr (.inl ⟨ha,rfl,WH.2 ⟨ha,hp⟩⟩)
 |false=>exact .inr (.inr ⟨ha,rfl,WH.2 ⟨ha,by rw [hp];rfl⟩⟩)
theorem MinCtx.ren:Ren (jf m met) (iZ m met):=by
 refine ⟨fun a b ha hb e=> ?_,fun a ha=> ?_⟩
 ·rcases h.cases ha with ⟨a1,a2⟩|⟨a1,a2,a3⟩|⟨a1,a2,a3⟩<;>rcases h.cases hb with ⟨b1,b2⟩|⟨b1,b2,b3⟩|⟨b1,b2,b3⟩
  ·rw [a2,b2] at e;exact e
  ·obtain ⟨i, -,rfl⟩:=gT.1 a1;rw [a2,h.rhoY b1 b2] at e;omega
  ·obtain ⟨i,hi,rfl⟩:=gT.1 a1;rw [a2,h.rhoO b1 b2] at e;omega
  ·obtain ⟨i, -,rfl⟩:=gT.1 b1;rw [b2,h.rhoY a1 a2] at e;omega
  ·rw [h.rhoY a1 a2,h.rhoY b1 b2] at e
   have e2:(met.filter (fV m)).idxOf a=(met.filter (fV m)).idxOf b:=by omega
   rw [<-qX a3, <-qX b3];simp only [e2]
  ·rw [h.rhoY a1 a2,h.rhoO b1 b2] at e;omega
  ·obtain ⟨i,hi,rfl⟩:=gT.1 b1;rw [b2,h.rhoO a1 a2] at e;omega
  ·rw [h.rhoO a1 a2,h.rhoY b1 b2] at e;omega
  rw [h.rhoO a1 a2,h.rhoO b1 b2] at e
  have e2:(met.filter fun a=> !fV m a).idxOf a=(met.filter fun a=> !fV m a).idxOf b:=by omega
  rw [<-qX a3, <-qX b3];simp only [e2]
 rcases h.cases ha with ⟨a1,a2⟩|⟨a1,a2,a3⟩|⟨a1,a2,a3⟩
 ·obtain ⟨i, -,rfl⟩:=gT.1 a1;omega
 ·rw [h.rhoY a1 a2];omega
 rw [h.rhoO a1 a2];omega
end
def QZ (m:Ve)(met:List Int)(a:Int):Int:=if a∈met then 1 else (nC N m met a).XC
def rK (m:Ve)(met:List Int)(a:Int):Vd:=xx (nC N m met a) (QZ N m met a)
theorem E6 (v:Vp):bI (jf m met) (iZ m met) v=bI (jf m met) met v:=by
 unfold bI iZ;cases hb:bd v
 ·rfl
 rw [VR,VR];by_cases h:v.N∈met
 ·rw [Vy h,Vy (VD _ h)]
 rw [Vz h]
 have e:jf m met v.N=v.N:=by unfold jf AT;rw [if_neg h]
 rw [e];cases decide (v.N∈bP m.Xz.length++met)<;>rfl
theorem I0 (c:Vd):lF (jf m met) met c=lF (jf m met) (iZ m met) c:=by
 unfold lF;rw [List.map_congr_left fun v _=>(E6 v).symm,List.map_congr_left (l:=c.Xx) fun v _=>(E6 v).symm]
section
variable {N:Nat}{roots:List Vp}(h:MinCtx N m roots kept met)
include h
theorem MinCtx.cellE {a:Int}(ha:a∈bP m.Xz.length):rK N m met a=nC N m met a:=by
 have hn:a∉met:=fun hm=>(WM.1 h.nd).2.2 a ha a hm rfl
 unfold rK QZ;rw [if_neg hn];rfl
theorem JG {a:Int}(ha:a∈met):rK N m met a=nY N m met a:=by
 have _:=h;unfold rK QZ;rw [if_pos ha];rfl
theorem MinCtx.at_ {a:Int}(ha:a∈iZ m met):aw (oV N m met) (jf m met a)=true/\aJ (oV N m met) (jf m met a)=rK N m met a:=by
 have hev:(bP m.Xz.length).length=m.Xz.length:=by unfold bP;simp
 have hml:((bP m.Xz.length).map (nC N m met)).length=m.Xz.length:=by rw [Xr];exact hev
 rcases h.cases ha with ⟨a1,a2⟩|⟨a1,a2,a3⟩|⟨a1,a2,a3⟩
 ·rw [a2,h.cellE a1];obtain ⟨i,hi,rfl⟩:=gT.1 a1;refine Pa _ ?_;show ((bP m.Xz.length).map (nC N m met)++(met.filter fun a=> !fV m a).map (nY N m met))[i]? =_;rw [We U,Wm,Wj (by omega:i<(bP m.Xz.length).length),GU];rfl
 ·rw [h.rhoY a1 a2,JG h a1];refine Sc _ ?_;show ((met.filter (fV m)).map (nY N m met))[_]? =_;rw [Wm,Jb a3];rfl
 rw [h.rhoO a1 a2,JG h a1];refine Pa _ ?_;show ((bP m.Xz.length).map (nC N m met)++(met.filter fun a=> !fV m a).map (nY N m met))[_]? =_;rw [Wf U,hml,Nat.add_sub_cancel_left,Wm,Jb a3];rfl
theorem MinCtx.okN {a:Int}(ha:a∈iZ m met):VCell N (nC N m met a)/\VCell N (rK N m met a):=by
 have hN:=h.big;obtain ⟨g1,g2,g3, -⟩:=CellOk.new h.ren (h.cell ha);have e:nC N m met a=lF (jf m met) (iZ m met) (mI N (iZ m met) (aJ m a)):=I0 _;rw [<-e] at g1 g2 g3;refine ⟨⟨by omega,g1,g2,g3⟩,by omega,?_,g2,g3⟩;unfold rK QZ;by_cases hm:a∈met
 ·rw [if_pos hm];exact Hw g1
 rw [if_neg hm];exact g1
end
end
section
open Go.RowKit
theorem Gp (g:α->Nat)(p:α->Bool): ∀l:List α,bz g (l.filter p)+bz g (l.filter fun a=> !p a)=bz g l
 | []=>rfl
 |a::l=>by
  have ih:=Gp g p l;rw [V9,V9];cases h:p a
  ·simp only [VQ,if_false,Bool.not_false,if_true,bz];omega
  simp only [VQ,if_false,Bool.not_true,if_true,bz];omega
theorem tq {g h:α->Nat}: ∀{l:List α},(∀x∈l,g x=h x)->bz g l=bz h l
 | [],_=>rfl
 |a::l,hh=>by rw [bz,bz,hh a (by simp),tq fun x hx=>hh x (by simp [hx])]
theorem xp: ∀l:List α,bz (fun _=>1) l=l.length
 | []=>rfl
 |a::l=>by rw [bz,xp l,Wv];omega
section
variable {N:Nat}{roots:List Vp}(h:MinCtx N m roots kept met)
include h
theorem MinCtx.midSum (g:Vd->Nat):bz g (oV N m met).XA+bz g (oV N m met).Xz=bz (fun a=>g (rK N m met a)) (iZ m met):=by
 have e1:bz (fun a=>g (rK N m met a)) (bP m.Xz.length)=bz (fun a=>g (nC N m met a)) (bP m.Xz.length):=tq fun a ha=>by rw [h.cellE ha]
 have e2:bz (fun a=>g (rK N m met a)) met=bz (fun a=>g (nY N m met a)) met:=tq fun a ha=>by rw [JG h ha]
 have e3:=Gp (fun a=>g (nY N m met a)) (fV m) met;unfold oV iZ;simp only;rw [ts,ts,pp,pp,pp,e1,e2];omega
theorem MinCtx.midLe (g:Vd->Nat)(hg:∀a∈iZ m met,g (rK N m met a)<=g (aJ m a)):bz g (oV N m met).XA+bz g (oV N m met).Xz<=bz g m.XA+bz g m.Xz:=by
 have h1:=rj (fun a=>g (aJ m a)) h.nd fun a ha=>vN (h.f1has ha)
 have h2:=pp g (aJ m) (C5 m);rw [FS,ts] at h2;rw [h.midSum];have h3:=DW hg;omega
theorem MinCtx.cellLe {a:Int}(ha:a∈iZ m met):(rK N m met a).Xy.length=(aJ m a).Xy.length/\(rK N m met a).Xx.length<=(aJ m a).Xx.length:=by
 have _:=h;have:=sS N (iZ m met) (aJ m a);show ((mI N (iZ m met) (aJ m a)).Xy.map _).length=_/\((mI N (iZ m met) (aJ m a)).Xx.map _).length<=_;rw [Xr,Xr];omega
theorem MinCtx.midCnt:(oV N m met).XA.length+(oV N m met).Xz.length<=m.XA.length+m.Xz.length:=by
 have:=h.midLe (fun _=>1) fun a _=>W4 _
 rw [xp,xp,xp,xp] at this;exact this
theorem MinCtx.midWt:wt (oV N m met).XA+wt (oV N m met).Xz<=wt m.XA+wt m.Xz:=by
 have:=h.midLe wC fun a ha=>by
  have:=h.cellLe ha;unfold wC;omega
 rw [<-xj, <-xj, <-xj, <-xj] at this;exact this
theorem MinCtx.midMem (hc:c∈(oV N m met).XA++(oV N m met).Xz): ∃a∈iZ m met,c=rK N m met a:=by
 unfold oV at hc;simp only [WE,WI,WH] at hc;rcases hc with ⟨a,⟨h1, -⟩,rfl⟩|⟨a,h1,rfl⟩|⟨a,⟨h1, -⟩,rfl⟩
 ·exact ⟨a,VD _ h1,(JG h h1).symm⟩
 ·exact ⟨a,VC _ h1,(h.cellE h1).symm⟩
 exact ⟨a,VD _ h1,(JG h h1).symm⟩
theorem MinCtx.root (hx:x∈bR roots):x∈iZ m met:=by
 have hh:=h.rootsH x hx;obtain ⟨b,hM⟩:=h.isM;unfold iZ
 cases hy:yB x with
 |true=>exact VD _ (hM.start (VC _ hx) hy)
 |false=>
  obtain ⟨i,hi,rfl⟩:=Je hh hy;exact VC _ (gT.2 ⟨i,hi,J⟩)
theorem MinCtx.rootIn:jm (iZ m met) roots:=fun v hv hb=>h.root (qJ.2 ⟨v,hv,hb,rfl⟩)
theorem MinCtx.rho64 {a:Int}(ha:a∈iZ m met):in64 (jf m met a):=by
 have h1:=h.mlen;have h2:=h.small.old
 have h3: ∀p:Int->Bool,(met.filter p).length<=1200:=fun p=>W5 (Wx _ _) h1
 unfold in64;rcases h.cases ha with ⟨a1,a2⟩|⟨a1,a2,a3⟩|⟨a1,a2,a3⟩
 ·obtain ⟨i,hi,rfl⟩:=gT.1 a1;rw [a2];omega
 ·have:=vd a3;have:=h3 (fV m);rw [h.rhoY a1 a2];omega
 have:=vd a3
 have:=h3 fun a=> !fV m a
 rw [h.rhoO a1 a2];omega
theorem MinCtx.mov64 (hv:in64 v.N):in64 (bI (jf m met) (iZ m met) v).N:=by
 unfold bI
 cases hb:bd v&&decide (v.N∈iZ m met) with
 |false=>exact hv
 |true=>
  rw [Xt,Xl] at hb;exact h.rho64 hb.2
theorem MinCtx.now64: ∀v∈roots.map (bI (jf m met) (iZ m met)),in64 v.N:=fun v hv=>by
 obtain ⟨w,hw,rfl⟩:=WI.1 hv;exact h.mov64 (h.r64 w hw)
theorem MinCtx.nCE (a:Int):nC N m met a=lF (jf m met) (iZ m met) (mI N (iZ m met) (aJ m a)):=by
 have _:=h;exact I0 _
theorem MinCtx.midW:W64 (oV N m met):=fun c hc v hv=>by
 obtain ⟨a,ha,rfl⟩:=h.midMem hc;have hv':v∈(nC N m met a).Xy++(nC N m met a).Xx:=hv;rw [h.nCE] at hv'
 have hv2:v∈((mI N (iZ m met) (aJ m a)).Xy++(mI N (iZ m met) (aJ m a)).Xx).map (bI (jf m met) (iZ m met)):=by rw [WB];exact hv'
 obtain ⟨w,hw,rfl⟩:=WI.1 hv2;refine h.mov64 ?_;rcases LH hw with hw|rfl
 ·exact h.w64.at_ a w hw
 show in64 0;unfold in64;omega
theorem MinCtx.midS (hcnt:m.XA.length+m.Xz.length<=600)(l:List Vp)(hl:l.length<=600):Small (oV N m met) l:=by
 have:=h.midCnt;refine ⟨by omega,by omega,hl,fun c hc=> ?_⟩;obtain ⟨a,ha,rfl⟩:=h.midMem hc;exact ⟨(h.okN ha).2.slots,(h.okN ha).2.more⟩
theorem MinCtx.newHas {l:List Vp}(hl:jm (iZ m met) l)(hv:v∈l.map (bI (jf m met) (iZ m met)))(hb:bd v=true):aw (oV N m met) v.N=true:=by
 obtain ⟨w,hw,rfl⟩:=WI.1 hv;rw [HK] at hb;have:=hl w hw hb;rw [tO hb this];exact (h.at_ this).1
theorem MinCtx.midAddr (hc:c∈(oV N m met).XA++(oV N m met).Xz):bm c=true/\ ∀x∈cp c,aw (oV N m met) x=true:=by
 obtain ⟨a,ha,rfl⟩:=h.midMem hc;refine ⟨(h.okN ha).2.right,fun x hx=> ?_⟩;have hx':x∈cp (nC N m met a):=hx;obtain ⟨v,hv,hb,rfl⟩:=zk hx';rw [h.nCE] at hv;obtain ⟨i1,i2⟩:=(h.cell ha).inC;rcases WE.1 hv with hv|hv
 ·exact h.newHas i1 hv hb
 exact h.newHas i2 hv hb
end
end
section
open Go.RowKit
theorem zC (N:Nat)(hN:6500<N)(c:Vd)(hS:c.Xy.length<=600)(hM:c.Xx.length<=2900):px N c=some ((cp c).any yB):=by
 have h1:=nj c;have h2:=ri c
 have hy: ∀x,mZ N x=some (yB x):=fun x=>by
  unfold mZ yB;cases decide (0<x)<;>cases decide (x.tmod 2=1)<;>rfl
 unfold px cp;rw [qz N U c U U,xm N U c U U,bs,bs,Ed N _ yB (ce c) U U (fun x _=>hy x),Ed N _ yB (mq c) U U (fun x _=>hy x),bs,bs,List.any_append];cases (ce c).any yB<;>cases (mq c).any yB<;>rfl
theorem Nb {L:List (Int×Bool)}{a:Int}(h:a∉L.map (·.1)):C1 L a=L:=by
 unfold C1;rcases KK a L with ⟨i,c, -,h2⟩|⟨h1, -⟩
 ·exact absurd (WI.2 ⟨_,WJ h2,J⟩) h
 rw [h1]
theorem EA (N:Nat)(hN:6500<N){roots:List Vp}(hs:Small m roots): ∃kv,cI N ⟨[]⟩ m=some ⟨kv⟩/\kv.map Prod.fst=ln m:=by
 have ho:=hs.old
 have key:Sat (cI N ⟨[]⟩ m) fun r=>r.at_.map Prod.fst=ln m:=by
  unfold cI oS;rw [bs];refine cG (fun k i (s:List (Int×Bool))=>fe N m k (i:Int) s) m.Xz.length (fun i s=>s.map Prod.fst=((List.range i).filter (uI m)).map (fun i:Nat=>2*(i:Int)+2)) _ ?_ ?_ N 0 [] U U J
  ·rintro k i s hi h1 go;show Sat (fe N m (k+1) (i:Int) s) _;have hc:=hs.cells _ (VD m.XA (Xv hi))
   have hnext:((List.range (i+1)).filter (uI m)).map (fun i:Nat=>2*(i:Int)+2)=((List.range i).filter (uI m)).map (fun i:Nat=>2*(i:Int)+2)++(bif uI m i then [2*(i:Int)+2] else []):=by
    rw [List.range_succ,List.filter_append,WB];cases h:uI m i<;>simp [h]
   have hno:(2*(i:Int)+2)∉s.map Prod.fst:=by
    rw [h1];intro hm;obtain ⟨j,hj,e⟩:=WI.1 hm;have:=WK.1 (WH.1 hj).1;omega
   have e:(cp m.Xz[i]).any yB=uI m i:=by unfold uI;rw [rM m i hi]
   rw [fe.eq_2,dn U,ct,aG hi,bs,r64 U U,r64 U U];unfold cB kz sH;rw [zC N hN _ hc.1 hc.2,e,dn U,ct,tl U,sP U];simp only [bs,nt,cf];cases h:uI m i
   ·simp only [nf,ct,bs];rw [Nb hno,r64 U U];exact go s (by rw [hnext,h,h1,cf,VZ])
   simp only [nt,cf,bs];rw [r64 U U];refine go (wI s (2*(i:Int)+2) true) ?_;have:=AN s (2*(i:Int)+2) true;rw [if_neg hno] at this;rw [hnext,h,ct, <-h1];exact this
  rintro k s h1;show Sat (fe N m (k+1) _ s) _;rw [fe.eq_2,cY U,cf];exact ad h1
 obtain ⟨r,e,h⟩:=key;exact ⟨r.at_,e,h⟩
theorem BC (m:Ve):(ln m).Pairwise (· < ·):=by
 have:=I9 m;unfold ua at this;rw [Xt,Xl] at this;exact this.2
def wN (m:Ve)(live f:List Int):List Vp:=f.flatMap fun a=>iR live (aJ m a)
section
variable {N:Nat}{roots:List Vp}(h:CollCtx N m roots live f)
include h
theorem CollCtx.nextTot:(roots.map (bI (sX f) f)++(wN m live f).map (bI (sX f) f)).length+wt (io N m live f).XA+wt (io N m live f).Xz<=roots.length+wt m.XA+wt m.Xz:=by
 have h1:=Iy h.lv;have e0:(io N m live f).XA=[]:=rfl
 have e1:(io N m live f).Xz=f.map fun a=>lF (sX f) f (mI N live (aJ m a)):=rfl
 rw [e0,e1,Xp,Xr,Xr];unfold wN;have e2:wt []=0:=rfl;omega
end
end
section
open Go.RowKit
theorem yd {γ:Type}(o:Option α)(f:α->Option β)(g:β->γ):(o.bind f).map g=o.bind fun x=>(f x).map g:=by cases o<;>rfl
theorem Oc {γ:Type}(c:Prop)[Decidable c](o:Option β)(g:β->γ):(aD c o).map g=aD c (o.map g):=by unfold aD;split<;>rfl
theorem HP {γ:Type}(b:Bool)(x y:Option β)(g:β->γ):(bif b then x else y).map g=bif b then x.map g else y.map g:=by cases b<;>rfl
def Uo:(Ve×Vw×Vw×Int) ⊕ (Ve×Vw×Vw)->Ve×Vw×Vw×Int
 | .inl x=>x
 | .inr x=>(x.1,x.2.1,x.2.2,0)
theorem RS (N:Nat)(m:Ve)(roots:List Vp):oF N m roots=(dh N m roots).map Uo:=by
 have a6:kE=mE:=rfl;have a8:kD=mD:=rfl;unfold oF dh;rw [a6,a8,yd]
 congr 1;funext y7
 rw [HP];cases !decide (y7=0)
 ·simp only [cond_false,yd]
  congr 1;funext b0;congr 1;funext b5;congr 1;funext b6
  unfold sE;split
  ·simp only [yd]
   congr 1;funext b7;congr 1;funext b9
   split
   ·simp only [yd];rfl
   ·rfl
   ·rfl
   rfl
  ·rfl
  ·rfl
  rfl
 rfl
def Th:(Ve×Vw×Vw) ⊕ (Ve×Vw×Vw)->Ve×Vw×Vw×Int
 | .inl x=>(x.1,x.2.1,x.2.2,1)
 | .inr x=>(x.1,x.2.1,x.2.2,0)
theorem N7 (N:Nat)(a0:Ve)(b6:Vl)(a1:List Vp)(b7 b9:List Int): ∀(k:Nat) (a6:List Vp) (a8:Int) (b0 b5:List Vd),dP N b6 a1 b7 b9 k a6 a8 b0 b5=(fj N b6 a1 b7 b9 a0 k a6 a8 b0 b5).map Th:=by
 intro k
 induction k with
 |zero=>intros;rfl
 |succ k ih=>
  intro a6 a8 b0 b5;rw [dP.eq_2,fj.eq_2];unfold mC kA pJ nQ;simp only [HP,yd,Oc,ih];rfl
theorem N8 (N:Nat)(a0:Ve)(a1:List Vp)(a2 b6:List Int)(b7:Vl): ∀(k:Nat) (a6:List Vp) (a8:List Int) (b0:Int) (b5:List Vd),eU N a0 a1 a2 b6 b7 k a6 a8 b0 b5=(fk N a0 a1 a2 b6 b7 k a6 a8 b0 b5).map Th:=by
 intro k
 induction k with
 |zero=>intros;rfl
 |succ k ih=>
  intro a6 a8 b0 b5;rw [eU.eq_2,fk.eq_2];unfold jO kB pK nR;simp only [HP,yd,Oc,ih,N7 N a0]
theorem RP (N:Nat)(m:Ve)(roots:List Vp)(kept:List Int):jr N m roots kept=(dQ N m roots kept).map Th:=by
 unfold jr dQ;rw [yd]
 congr 1;funext y7
 rw [HP];cases !y7
 ·simp only [cond_false,yd,N8]
 rfl
def mS (l:List Vd):Nat:=bz (fun c=>c.Xx.length) l
theorem vt (n:Nat): ∀l:List α,bz (fun _=>n) l=n*l.length
 | []=>by simp [bz]
 |a::l=>by rw [bz,vt n l,Wv,Nat.mul_succ];omega
theorem El (g:α->Nat)(x:α): ∀(l:List α) (i:Nat),bz g (l.set i x)<=bz g l+g x
 | [],_=>by simp [bz]
 |a::l,0=>by simp only [List.set_cons_zero,bz];omega
 |a::l,i+1=>by have:=El g x l i;simp only [List.set_cons_succ,bz];omega
structure HInv (k:Nat) (g:Vv):Prop where
 cnt:g.m_.XA.length+g.m_.Xz.length<=k
 cells: ∀c∈g.m_.XA++g.m_.Xz,c.Xy.length<=20/\c.Xx.length<=20
 sum:4*(g.XJ++g.XP).length+3*(mS g.m_.XA+mS g.m_.Xz)<=60*k
 w64:W64 g.m_
 r64: ∀v∈g.XJ++g.XP,in64 v.N
 nd:(g.XO.at_.map Prod.fst).Nodup
 keys: ∀x∈g.XO.at_.map Prod.fst, ∃i:Nat,i<g.m_.Xz.length/\x=2*(i:Int)+2
section
variable (h:HInv k g)
include h
end
structure HB (g:Vv):Prop where
 small:Small g.m_ (g.XJ++g.XP)
 wtd:Wtd g.m_ (g.XJ++g.XP)
 tot:bz (fun a=>(aJ g.m_ a).Xx.length) (C5 g.m_)<=3600
 four:4*(g.XJ++g.XP).length+3*(mS g.m_.XA+mS g.m_.Xz)<=9000
 w64:W64 g.m_
 r64: ∀v∈g.XJ++g.XP,in64 v.N
 nd:(g.XO.at_.map Prod.fst).Nodup
 keys: ∀x∈g.XO.at_.map Prod.fst, ∃i:Nat,i<g.m_.Xz.length/\x=2*(i:Int)+2
theorem Rg (N:Nat)(g:Vv){a:Int}(ha:in64 a):js N g a=some (aw g.m_ a):=by
 unfold js aF;rw [bs,nf,ct,vQ N _ _ ha];rfl
theorem Dx {N:Nat}(hN:6500<N)(h1:c.Xy.length<=1000/\c.Xx.length<=2900):fa N c=some (bm c):=by
 rw [xA N U c h1.1 h1.2,qr N U c h1.1 h1.2]
def Bf (c:Vd)(a:Int):Vd:=⟨c.Xw,c.XD,c.XB,a,c.Xy,c.Xx⟩
def Bq (kv:List (Int×Bool))(a:Int)(c:Vd):List (Int×Bool):=bif (cp c).any yB then wI kv a true else C1 kv a
theorem My {N:Nat}(hN:6500<N)(h1:c.Xy.length<=600/\c.Xx.length<=2900)(kv:List (Int×Bool))(i:Nat): ∃b,cB N ⟨kv⟩ (2*(i:Int)+2) c=some (b,⟨Bq kv (2*(i:Int)+2) c⟩):=by
 unfold cB kz sH Bq;rw [dn U,ct,tl U,sP U,zC N hN c h1.1 h1.2];simp only [bs,nt,cf];cases (cp c).any yB
 ·exact ⟨false,J⟩
 exact ⟨true,J⟩
theorem N3 (h:(kv.map Prod.fst).Nodup)(a:Int)(c:Vd):((Bq kv a c).map Prod.fst).Nodup:=by
 unfold Bq;cases (cp c).any yB
 ·exact (G5 h a).2.1
 show ((wI kv a true).map (·.1)).Nodup;rw [AN];split
 ·exact h
 rename_i hn
 exact WM.2 ⟨h,by simp,fun x hx y hy=>by rintro rfl;exact hn (by rw [WL.1 hy] at hx;exact hx)⟩
theorem GJ (h:(kv.map Prod.fst).Nodup)(a:Int)(c:Vd)(x:Int):x∈(Bq kv a c).map Prod.fst↔((cp c).any yB=true/\(x∈kv.map Prod.fst\/x=a))\/((cp c).any yB=false/\x∈kv.map Prod.fst/\x≠a):=by
 unfold Bq;cases (cp c).any yB
 ·simp only [VQ,false_and,false_or,true_and];exact (G5 h a).1 x
 simp only [Bool.true_eq_false,false_and,or_false,true_and];show x∈(wI kv a true).map (·.1)↔(x∈kv.map (·.1)\/x=a);rw [AN];split
 ·rename_i hn
  exact ⟨.inl,fun hx=>hx.elim id fun e=>e▸hn⟩
 rw [WE,WL]
def ic (g:Vv)(a:Int)(c:Vd):Vv:=
 bif decide (a%2=1) then ⟨⟨g.m_.XA.set (a / 2).toNat (Bf c (aJ g.m_ a).XC),g.m_.Xz⟩,g.XJ,g.XP,g.XO⟩
 else ⟨⟨g.m_.XA,g.m_.Xz.set (a / 2 - 1).toNat (Bf c (aJ g.m_ a).XC)⟩,g.XJ,g.XP,⟨Bq g.XO.at_ a c⟩⟩
def Gv (g:Vv)(i:Int):Bool:=decide (0<=i)&&decide (i<(g.XJ.length:Int))
theorem Mf (h:Gv g i=true): ∃j:Nat,i=j/\j<g.XJ.length:=by
 unfold Gv at h;rw [Xt,Xl,Xl] at h;exact ⟨i.toNat,by omega,by omega⟩
theorem Me (N:Nat)(g:Vv)(i:Int):bL N g i=some (bif Gv g i then g.XJ.getD i.toNat vZ else vZ):=by
 unfold bL aF
 cases hb:Gv g i with
 |true=>
  obtain ⟨j,rfl,hj⟩:=Mf hb;rw [bs,cf,bs,Vz (p:=(j:Int)<0) U,cf,bs,Vz (p:=(g.XJ.length:Int)<=(j:Int)) U,cf,aG hj,bs,ct,VW,List.getD_eq_getElem?_getD,Wj hj];rfl
 |false=>
  unfold Gv at hb;rw [bs,cf,bs,cf];by_cases h1:i<0
  ·rw [dn h1,ct,bs];rfl
  rw [Vz h1,cf,bs];rw [Vy (p:=(0:Int)<=i) U,VR,Xk] at hb;rw [Vy (p:=(g.XJ.length:Int)<=i) U];rfl
end
section
open Go.RowKit
theorem Lq (l:List Int)(cb:Vp): ∀xs:List Vp,4*(nK l cb xs).length+3*(er l xs).length<=3*xs.length
 | []=>by simp [er,nK]
 | [_]=>by simp [er,nK]
 | [_,_]=>by simp [er,nK]
 | [_,_,_]=>by simp [er,nK]
 |t::h::k::s::r=>by
  have:=Lq l cb r;unfold er nK;cases decide (t.N∈l)<;>simp<;>omega
theorem OY (N:Nat)(l:List Int)(c:Vd):4*(iR l c).length+3*(mI N l c).Xx.length<=3*c.Xx.length:=by
 have h1:=(sS N l c).2;by_cases h10:c.Xw=10
 ·have:=Lq l (c.Xx.headD mO) (c.Xx.drop 1);unfold mI iR;rw [Vy h10,Vz (p:=c.Xw=8) U];show 4*(nK l (c.Xx.headD mO) (c.Xx.drop 1)).length+3*(c.Xx.take 1++er l (c.Xx.drop 1)).length<=_;rw [Xp,Xq];rw [Ww] at this;omega
 have e:iR l c=[]:=by unfold iR;rw [Vz h10];rfl
 rw [e] at h1⊢;simp only [Wy] at h1⊢;omega
theorem AO (n:Nat)(g:α->Nat): ∀l:List α,bz (fun x=>n*g x) l=n*bz g l
 | []=>by simp [bz]
 |a::l=>by simp only [bz];rw [AO n g l,Nat.mul_add]
theorem HQ (m:Ve):bz (fun a=>(aJ m a).Xx.length) (C5 m)=mS m.XA+mS m.Xz:=by
 have h3:=pp (fun c:Vd=>c.Xx.length) (aJ m) (C5 m);rw [FS,ts] at h3;exact h3.symm
theorem Rc {N:Nat}(hn:f.Nodup)(hf:∀a∈f,aw m a=true):4*(f.flatMap fun a=>iR lv (aJ m a)).length+3*bz (fun a=>(mI N lv (aJ m a)).Xx.length) f<=3*(mS m.XA+mS m.Xz):=by
 rw [yl]
 have h1:bz (fun a=>4*(iR lv (aJ m a)).length+3*(mI N lv (aJ m a)).Xx.length) f<=bz (fun a=>3*(aJ m a).Xx.length) f:=DW fun a _=>OY N lv (aJ m a)
 rw [AP,AO,AO,AO] at h1
 have h2:=rj (fun a=>(aJ m a).Xx.length) hn fun a ha=>vN (hf a ha)
 rw [HQ] at h2;omega
theorem yq (N:Nat)(a b:List Vp)(ha:a.length<=100000)(hb:b.length<=100000):cm N a b=some (a++b):=by
 unfold cm ls mi iu kI;rw [r64 U U,cY (a:=0+(a.length:Int)) U,cf,r64 U U,cY (a:=0+(a.length:Int)+(b.length:Int)) U,cf,r64 U U,r64 U U,cf];by_cases h:0<a.length+b.length
 ·rw [dn U,ct,gi ⟨by omega,by omega⟩,bs,rF (by simp;omega),rF (by simp;omega)];rfl
 rw [cY U,cf,bs,rF (by simp;omega),rF (by simp;omega)];rfl
theorem FJ (N:Nat)(a:List Vp)(ha:a.length<=100000):cx N a=some a:=by
 unfold cx;rw [rF (by simp;omega)];rfl
theorem Jc (N:Nat)(g:Vv)(h:g.XJ.length<=600):jR N g=some g.XJ:=by
 unfold jR aF;rw [bs,cf,FJ N _ U,bs]
section
variable (h:HB g)
include h
theorem HB.klen:g.XO.at_.length<=g.m_.Xz.length:=by
 have h1:=rj (fun _=>1) h.nd (L:=bP g.m_.Xz.length) fun x hx=>gT.2 (h.keys x hx)
 rw [vt,vt,Xr] at h1;unfold bP at h1;simp only [Xr,List.length_range] at h1;omega
theorem HB.keysH (hx:x∈iF g.XO.at_):aw g.m_ x=true:=by
 obtain ⟨i,hi,rfl⟩:=h.keys x ((sW _ x).1 hx);rw [sd,Vy hi]
theorem HB.kslen:(iF g.XO.at_).length<=g.m_.Xz.length:=by
 have h1:=h.klen;have e:(iF g.XO.at_).length=(g.XO.at_.map Prod.fst).length:=vu _;rw [e,Xr];omega
theorem KG (N:Nat):mw N g.XO=some (iF g.XO.at_):=by
 have h1:=h.klen;have h2:=h.small.old;unfold mw yc rQ;rw [bs,gi ⟨fun x hx=>qW h.small (by obtain ⟨i,hi,rfl⟩:=h.keys x hx;rw [sd,Vy hi]),h.nd,by show bY g.XO.at_.length;unfold bY;omega⟩,bs]
end
theorem I7 (h:kv.map Prod.fst=ln m):(kv.map Prod.fst).Nodup/\ ∀x∈kv.map Prod.fst, ∃i:Nat,i<m.Xz.length/\x=2*(i:Int)+2:=by
 rw [h];refine ⟨(BC m).imp fun hab e=>by omega,fun x hx=> ?_⟩;obtain ⟨i,hi, -,e⟩:=tc.1 hx;exact ⟨i,hi,e⟩
theorem Ll {N:Nat}(f:Vp->Vp)(r p gone:List Vp){R:Type}(F:List Vp->List Vp->Option R)(h1:r.length+p.length<=600)(h2:gone.length<=3000):
  aD ((0:Int)<=(r.length:Int)/\0<=(r.length:Int).toNat/\(r.length:Int).toNat<=((r++p).map f).length) (aD ((0:Int)<=(r.length:Int)/\(r.length:Int).toNat<=((r++p).map f).length/\((r++p).map f).length<=((r++p).map f).length) ((cx N ((((r++p).map f).drop 0).take ((r.length:Int).toNat - 0))).bind fun a6=>(cm N ((((r++p).map f).drop ((r.length:Int).toNat)).take (((r++p).map f).length - (r.length:Int).toNat)) gone).bind fun a8=>F a6 a8))=F (r.map f) (p.map f++gone):=by
 have e1:(((r++p).map f).drop 0).take ((r.length:Int).toNat - 0)=r.map f:=by
  rw [V6,Nat.sub_zero,VW,WB,List.take_left' (by simp)]
 have e2:(((r++p).map f).drop ((r.length:Int).toNat)).take (((r++p).map f).length - (r.length:Int).toNat)=p.map f:=by
  rw [VW,WB,List.drop_left' (by simp)];exact WT (by simp)
 have hl:((r++p).map f).length=r.length+p.length:=by simp
 rw [gi ⟨by omega,by omega,by omega⟩,gi ⟨by omega,by omega,by omega⟩,e1,e2,FJ N _ (by simp;omega),bs,yq N _ _ (by simp;omega) U,bs]
section
variable {N:Nat}{roots:List Vp}(h:MinCtx N m roots kept met)
include h
theorem MinCtx.mid4:4*(yb m met).length+3*(mS (oV N m met).XA+mS (oV N m met).Xz)<=3*(mS m.XA+mS m.Xz):=by
 have h1:=Rc (N:=N) (lv:=iZ m met) h.nd fun a ha=>h.f1has ha
 have h2:=h.midSum fun c=>c.Xx.length
 have h3:bz (fun a=>(rK N m met a).Xx.length) (iZ m met)=bz (fun a=>(mI N (iZ m met) (aJ m a)).Xx.length) (iZ m met):=tq fun a _=>by
  show ((mI N (iZ m met) (aJ m a)).Xx.map _).length=_;rw [Xr]
 unfold mS yb at*;omega
end
section
variable {N:Nat}{roots:List Vp}(h:CollCtx N m roots live f)
include h
theorem CollCtx.next4:4*(wN m live f).length+3*(mS (io N m live f).XA+mS (io N m live f).Xz)<=3*(mS m.XA+mS m.Xz):=by
 have h1:=Rc (N:=N) (lv:=live) h.lv.nd fun a ha=>h.lv.fhas ha
 have h3:mS (io N m live f).Xz=bz (fun a=>(mI N live (aJ m a)).Xx.length) f:=by
  show bz (fun c:Vd=>c.Xx.length) (f.map fun a=>lF (sX f) f (mI N live (aJ m a)))=_;rw [pp]
  exact tq fun a _=>by show ((mI N live (aJ m a)).Xx.map _).length=_;rw [Xr]
 have h4:mS (io N m live f).XA=0:=rfl;unfold wN at*;omega
theorem CollCtx.nextCnt:(io N m live f).Xz.length<=m.XA.length+m.Xz.length:=by
 have h1:=rj (fun _=>1) h.lv.nd fun a ha=>vN (h.lv.fhas ha)
 rw [vt,vt] at h1;unfold C5 at h1;unfold io;simp only [Xp,Xr,List.length_range] at h1⊢;omega
end
theorem P7 {N:Nat}(hN:6500<N)(h:HB g):
  (E9 N g.m_ (g.XJ++g.XP) (iF g.XO.at_)=false/\di N g=some (1,g))\/
  ∃met kv,MinCtx N g.m_ (g.XJ++g.XP) (iF g.XO.at_) met/\kv.map Prod.fst=ln (oV N g.m_ met)/\
   di N g=some (0,⟨oV N g.m_ met,g.XJ.map (bI (jf g.m_ met) met),g.XP.map (bI (jf g.m_ met) met)++(yb g.m_ met).map (bI (jf g.m_ met) met),⟨kv⟩⟩):=by
 have hs:=h.small;have hkl:=h.kslen;have ho:=hs.old;have hrl:=hs.roots;have hsum:=h.four;have hcnt:=h.wtd.cnt;rw [Xp] at hrl hsum;have hm:=RP N g.m_ (g.XJ++g.XP) (iF g.XO.at_)
 have head:di N g=((dQ N g.m_ (g.XJ++g.XP) (iF g.XO.at_)).bind fun a6=>yL a6 (fun y13_0=>some (.inl (y13_0.1,y13_0.2.1,y13_0.2.2))) (fun y13_1=>some (.inr (y13_1.1,y13_1.2.1,y13_1.2.2)))).bind fun a8=>(yL a8 (fun y26_0:Ve×Vw×Vw=>gy N g y26_0.1.XA y26_0.1.Xz y26_0.2.1 y26_0.2.2) (fun y26_1:Ve×Vw×Vw=>dR N g y26_1.1.XA y26_1.1.Xz y26_1.2.1 y26_1.2.2)).bind fun y9=>some (y9.1,y9.2):=by
  unfold di iw nk aF;rw [bs,cf,yq N _ _ U U,bs,KG h N,bs,Option.bind_assoc]
 cases hmay:E9 N g.m_ (g.XJ++g.XP) (iF g.XO.at_) with
 | false=>
  have e1:jr N g.m_ (g.XJ++g.XP) (iF g.XO.at_)=some (⟨[],[]⟩,[],[],1):=by
   unfold jr;rw [GM N hN hs h.w64 h.r64 _ U (fun x hx=>qW hs (h.keysH hx)),hmay,bs,nf,ct]
  rw [e1] at hm;refine .inl ⟨J,?_⟩;rw [head]
  cases hc:dQ N g.m_ (g.XJ++g.XP) (iF g.XO.at_) with
  |none=>rw [hc] at hm;cases hm
  | some y=>
   rw [hc] at hm
   cases y with
   |inl y=>rfl
   |inr y=>
    have:=Xe hm;have:=congrArg (fun z:Ve×Vw×Vw×Int=>z.2.2.2) this;exact absurd this (by show¬(1:Int)=0;omega)
 | true=>
  obtain ⟨met,c⟩:=PW hN hs h.w64 h.r64 h.tot (kept:=iF g.XO.at_) U hmay;have h4:=c.mid4;have hmc:=c.midCnt;obtain ⟨kv,k1,k2⟩:=EA N hN (m:=oV N g.m_ met) (c.midS U [] (by simp));have hg:((yb g.m_ met).map (bI (jf g.m_ met) met)).length=(yb g.m_ met).length:=Xr _;refine .inr ⟨met,kv,c,k2,?_⟩;rw [Oa c] at hm;rw [head]
  have ek:dQ N g.m_ (g.XJ++g.XP) (iF g.XO.at_)=some (.inr (oV N g.m_ met,(g.XJ++g.XP).map (bI (jf g.m_ met) met),(yb g.m_ met).map (bI (jf g.m_ met) met))):=by
   cases hc:dQ N g.m_ (g.XJ++g.XP) (iF g.XO.at_) with
   |none=>rw [hc] at hm;cases hm
   | some y=>
    rw [hc] at hm;have e:=Xe hm
    cases y with
    |inl y=>
     have:=congrArg (fun z:Ve×Vw×Vw×Int=>z.2.2.2) e;exact absurd this (by show¬(0:Int)=1;omega)
    |inr y=>
     obtain ⟨y1,y2,y3⟩:=y;have e':=e;simp only [Th,Prod.mk.injEq,and_true] at e';obtain ⟨rfl,rfl,rfl⟩:=e';rfl
  rw [ek,bs]
  dsimp only [yL]
  rw [bs]
  dsimp only
  unfold dR gx;rw [Ll (N:=N) (bI (jf g.m_ met) met) g.XJ g.XP _ _ U U];have k1':cI N g.XO (⟨(oV N g.m_ met).XA,(oV N g.m_ met).Xz⟩:Ve)=some ⟨kv⟩:=k1;rw [k1',bs,bs]
theorem Kx {N:Nat}{R:List Vp}(h0:me N m R=some 0){y:Ve×List Vp×List Vp×Int}(h:dh N m R=some (.inl y)):False:=by
 unfold dh at h;rw [h0,bs,Vy (p:=(0:Int)=0) rfl,nt,cf] at h;obtain ⟨a6, -,h⟩:=aa h;obtain ⟨a8, -,h⟩:=aa h;obtain ⟨b0, -,h⟩:=aa h;unfold sE at h;split at h
 ·obtain ⟨b5, -,h⟩:=aa h;obtain ⟨b6, -,h⟩:=aa h;split at h
  ·obtain ⟨b7, -,h⟩:=aa h;obtain ⟨b9, -,h⟩:=aa h;cases h
  ·cases h
  ·cases h
  cases h
 ·cases h
 ·cases h
 cases h
theorem P8 {N:Nat}(hN:6500<N)(h:HB g):
  (nW N g.m_ (g.XJ++g.XP)≠0/\dj N g=some (nW N g.m_ (g.XJ++g.XP),g))\/
  ∃live f kv,CollCtx N g.m_ (g.XJ++g.XP) live f/\kv.map Prod.fst=ln (io N g.m_ live f)/\
   dj N g=some (0,⟨io N g.m_ live f,g.XJ.map (bI (sX f) f),g.XP.map (bI (sX f) f)++(wN g.m_ live f).map (bI (sX f) f),⟨kv⟩⟩):=by
 have hs:=h.small;have hrl:=hs.roots;have hsum:=h.four;have hcnt:=h.wtd.cnt;rw [Xp] at hrl hsum;obtain ⟨live,f,hl⟩:=PY N hN hs h.w64 h.r64;have hp:=If N hN hs h.wtd h.w64 h.r64 hl;have hm:=RS N g.m_ (g.XJ++g.XP);rw [hp] at hm;unfold OX at hm
 have head:dj N g=((dh N g.m_ (g.XJ++g.XP)).bind fun a6=>yL a6 (fun y11_0=>some (.inl (y11_0.1,y11_0.2.1,y11_0.2.2.1,y11_0.2.2.2))) (fun y11_1=>some (.inr (y11_1.1,y11_1.2.1,y11_1.2.2)))).bind fun a8=>(yL a8 (fun y27_0:Ve×Vw×Vw×Int=>dT N g y27_0.1.XA y27_0.1.Xz y27_0.2.1 y27_0.2.2.1 y27_0.2.2.2) (fun y27_1:Ve×Vw×Vw=>dS N g y27_1.1.XA y27_1.1.Xz y27_1.2.1 y27_1.2.2)).bind fun y9=>some (y9.1,y9.2):=by
  unfold dj iy nl aF;rw [bs,cf,yq N _ _ U U,bs,Option.bind_assoc]
 by_cases h0: ¬nW N g.m_ (g.XJ++g.XP)=0
 ·rw [iO h0,cond_false] at hm;refine .inl ⟨h0,?_⟩;rw [head]
  cases hc:dh N g.m_ (g.XJ++g.XP) with
  |none=>rw [hc] at hm;cases hm
  | some y=>
   rw [hc] at hm;have e:=congrArg (fun z:Ve×Vw×Vw×Int=>z.2.2.2) (Xe hm)
   cases y with
   |inl y=>
    obtain ⟨y1,y2,y3,y4⟩:=y;have e':nW N g.m_ (g.XJ++g.XP)=y4:=e;rw [bs]
    dsimp only [yL]
    rw [bs]
    dsimp only
    unfold dT;rw [<-e',iO h0,nf,ct,bs]
   |inr y=>exact absurd e h0
 replace h0:nW N g.m_ (g.XJ++g.XP)=0:=by omega
 rw [sP h0,cond_true] at hm;have c:=R6 hN hs h.wtd h.w64 h.r64 hl h0;have h4:=c.next4;have hnc:=c.nextCnt;have h0n:(io N g.m_ live f).XA.length=0:=rfl;obtain ⟨kv,k1,k2⟩:=EA N hN (m:=io N g.m_ live f) (c.nextS [] (by simp));have k1':cI N g.XO (⟨(io N g.m_ live f).XA,(io N g.m_ live f).Xz⟩:Ve)=some ⟨kv⟩:=k1;have hg:((wN g.m_ live f).map (bI (sX f) f)).length=(wN g.m_ live f).length:=Xr _;refine .inr ⟨live,f,kv,c,k2,?_⟩;rw [head]
 cases hc:dh N g.m_ (g.XJ++g.XP) with
 |none=>rw [hc] at hm;cases hm
 | some y=>
  rw [hc] at hm;have e:=Xe hm
  cases y with
  |inl y=>exact (Kx (by rw [FN N hN hs h.wtd h.w64 h.r64,h0]) hc).elim
  |inr y=>
   obtain ⟨y1,y2,y3⟩:=y;simp only [Uo,Prod.mk.injEq,and_true] at e;obtain ⟨rfl,rfl,rfl⟩:=e;rw [bs]
   dsimp only [yL]
   rw [bs]
   dsimp only
   unfold dS gz;unfold Jy
   dsimp only
   rw [Ll (N:=N) (bI (sX f) f) g.XJ g.XP _ _ U (by unfold wN at hg;rw [hg];unfold wN at h4;omega)];have k2':cI N g.XO (⟨[],f.map fun a=>lF (sX f) f (mI N live (aJ g.m_ a))⟩:Ve)=some ⟨kv⟩:=k1;rw [k2',bs,bs];rfl
end
section
open Go.RowKit
theorem Hf {a b:List Vp}(h:jm f (a++b)):jm f a:=fun v hv hb=>h v (VC _ hv) hb
theorem K9 (h:c.Xw≠10):iR lv c=[]:=by
 unfold iR;rw [Vz h];rfl
theorem Ih {N:Nat}(h8:c.Xw≠8)(h10:c.Xw≠10):mI N lv c=c:=by
 unfold mI;rw [Vz h8,Vz h10];rfl
theorem Sy (h:kv.map Prod.fst=ln m):iF kv=ln m:=by
 have e:iF kv=kk (kv.map Prod.fst):=rfl;rw [e,h]
 exact Eo ((BC m).imp fun hab e=>by omega) (BC m) fun x=>Iff.rfl
structure Pl (g:Vv):Prop where
 hb:HB g
 pend:g.XP=[]
 cells: ∀c∈g.m_.XA++g.m_.Xz,bm c=true/\(∀x∈cp c,aw g.m_ x=true)/\c.Xw≠8/\c.Xw≠10
 roots: ∀x∈bR g.XJ,aw g.m_ x=true
 set:iF g.XO.at_=ln g.m_
structure Mv (g g':Vv) (ρ:Int->Int) (f:List Int):Prop where
 roots:g'.XJ=g.XJ.map (bI ρ f)
 pend:g'.XP=[]
 at_: ∀a∈f,aw g'.m_ (ρ a)=true/\ ∃age,aJ g'.m_ (ρ a)=xx (lF ρ f (aJ g.m_ a)) age
 rin:jm f g.XJ
 has: ∀a∈f,aw g.m_ a=true
 cells: ∀c∈g'.m_.XA++g'.m_.Xz,(∃a∈f, ∃age,c=xx (lF ρ f (aJ g.m_ a)) age)/\bm c=true/\ ∀x∈cp c,aw g'.m_ x=true
 cnt:g'.m_.XA.length+g'.m_.Xz.length<=g.m_.XA.length+g.m_.Xz.length
 sum:mS g'.m_.XA+mS g'.m_.Xz<=mS g.m_.XA+mS g.m_.Xz
 wts:wt g'.m_.XA+wt g'.m_.Xz<=wt g.m_.XA+wt g.m_.Xz
 w64:W64 g'.m_
 r64: ∀v∈g'.XJ,in64 v.N
 set:g'.XO.at_.map Prod.fst=ln g'.m_
 inj: ∀a∈f, ∀b∈f,ρ a=ρ b->a=b
 cin: ∀a∈f,jm f (aJ g.m_ a).Xy/\jm f (aJ g.m_ a).Xx
theorem Pl.check {N:Nat}(hN:6500<N)(h:Pl g):nW N g.m_ (g.XJ++g.XP)=0:=by
 unfold nW
 have e1:(g.m_.XA++g.m_.Xz).all (rT N)=true:=by
  rw [VY];intro c hc;have:=h.hb.small.cells c hc;rw [IK U U U];exact (h.cells c hc).1
 have e2:iP g.m_ ((g.m_.XA++g.m_.Xz).flatMap cp++bR (g.XJ++g.XP))=true:=by
  unfold iP;rw [VY];intro x hx;rcases WE.1 hx with hx|hx
  ·obtain ⟨c,hc,hx⟩:=List.mem_flatMap.1 hx;exact (h.cells c hc).2.1 x hx
  rw [h.pend,VZ] at hx;exact h.roots x hx
 rw [e1,e2];rfl
theorem Pl.may {N:Nat}(hN:6500<N)(h:Pl g):E9 N g.m_ (g.XJ++g.XP) (iF g.XO.at_)=true:=by
 rw [h.set,MG,h.pend,VZ];unfold Fu Co iP;rw [Xt,VY,VY];refine ⟨fun x hx=>h.roots x hx,fun c hc=> ?_⟩;have:=h.hb.small.cells c hc;have ha:=(h.cells c hc).2.1;unfold Fv;rw [qr N U c U U,(h.cells c hc).1];show (true&&_)=true;rw [VR,Xt];unfold iP;rw [VY,VY];exact ⟨fun x hx=>ha x (VC _ hx),fun x hx=>ha x (VD _ hx)⟩
theorem N9 {N:Nat}(hN:6500<N)(h:Pl g): ∃g' ρ f,di N g=some (0,g')/\Mv g g' ρ f:=by
 have hcnt:=h.hb.wtd.cnt;rcases P7 hN h.hb with ⟨hm, -⟩|⟨met,kv,c,k2,e⟩
 ·rw [h.may hN] at hm;cases hm
 have ef:bI (jf g.m_ met) met=bI (jf g.m_ met) (iZ g.m_ met):=funext fun v=>(E6 v).symm
 have hin:jm (iZ g.m_ met) g.XJ:=Hf c.rootIn
 have hk: ∀a∈iZ g.m_ met,(aJ g.m_ a).Xw≠8/\(aJ g.m_ a).Xw≠10:=fun a ha=>(h.cells _ (mK (c.f1has ha))).2.2
 have hg:yb g.m_ met=[]:=by
  unfold yb;rw [List.flatMap_eq_nil_iff]
  exact fun a ha=>K9 (hk a ha).2
 have hp:g.XP.map (bI (jf g.m_ met) met)++(yb g.m_ met).map (bI (jf g.m_ met) met)=[]:=by rw [hg,h.pend];rfl
 rw [hp] at e
 have hc: ∀a∈iZ g.m_ met, ∃age,rK N g.m_ met a=xx (lF (jf g.m_ met) (iZ g.m_ met) (aJ g.m_ a)) age:=fun a ha=>⟨_,by
  unfold rK
  rw [c.nCE a,Ih (hk a ha).1 (hk a ha).2]⟩
 have h4:=c.mid4;rw [hg,Wy] at h4;refine ⟨_,jf g.m_ met,iZ g.m_ met,e,⟨by rw [<-ef],rfl,fun a ha=> ?_,hin,fun a ha=>c.f1has ha,fun d hd=> ?_,c.midCnt,by show mS (oV N g.m_ met).XA+mS (oV N g.m_ met).Xz<=_;omega,c.midWt,c.midW,fun v hv=> ?_,k2,fun a ha b hb=>c.ren.inj a b ha hb,fun a ha=> ?_⟩⟩
 ·obtain ⟨h1,h2⟩:=c.at_ ha;obtain ⟨age,h3⟩:=hc a ha;exact ⟨h1,age,h2.trans h3⟩
 ·obtain ⟨a,ha,rfl⟩:=c.midMem hd;obtain ⟨h1,h2⟩:=c.midAddr hd;exact ⟨⟨a,ha,hc a ha⟩,h1,h2⟩
 ·have hv':v∈g.XJ.map (bI (jf g.m_ met) met):=hv;rw [ef] at hv';exact c.now64 v (by rw [WB];exact VC _ hv')
 have:=(c.cell ha).inC;rw [Ih (hk a ha).1 (hk a ha).2] at this;exact this
theorem Od {N:Nat}(hN:6500<N)(h:Pl g): ∃g' ρ f,dj N g=some (0,g')/\Mv g g' ρ f:=by
 rcases P8 hN h.hb with ⟨hm, -⟩|⟨live,f,kv,c,k2,e⟩
 ·exact absurd (h.check hN) hm
 have hin:jm f g.XJ:=Hf c.rootIn
 have hk: ∀a∈f,(aJ g.m_ a).Xw≠8/\(aJ g.m_ a).Xw≠10:=fun a ha=>(h.cells _ (mK (c.lv.fhas ha))).2.2
 have hg:wN g.m_ live f=[]:=by
  unfold wN;rw [List.flatMap_eq_nil_iff]
  exact fun a ha=>K9 (hk a ha).2
 have hp:g.XP.map (bI (sX f) f)++(wN g.m_ live f).map (bI (sX f) f)=[]:=by rw [hg,h.pend];rfl
 rw [hp] at e;have h4:=c.next4;have ht:=c.nextTot;have hnc:=c.nextCnt;rw [hg,Wy] at h4;rw [hg,List.map_nil,VZ,Xr] at ht;have h0n:(io N g.m_ live f).XA.length=0:=rfl
 have hc: ∀a∈f,lF (sX f) f (mI N live (aJ g.m_ a))=xx (lF (sX f) f (aJ g.m_ a)) (aJ g.m_ a).XC:=fun a ha=>by
  rw [Ih (hk a ha).1 (hk a ha).2];rfl
 refine ⟨_,sX f,f,e,⟨J,J,fun a ha=> ?_,hin,fun a ha=>c.lv.fhas ha,fun d hd=> ?_,by show (io N g.m_ live f).XA.length+(io N g.m_ live f).Xz.length<=_;omega,by show mS (io N g.m_ live f).XA+mS (io N g.m_ live f).Xz<=_;omega,by show wt (io N g.m_ live f).XA+wt (io N g.m_ live f).Xz<=_;omega,c.nextW,fun v hv=> ?_,k2,fun _ ha _ hb=>Lc ha hb,fun a ha=> ?_⟩⟩
 ·exact ⟨IY ha,_,(PT ha).trans (hc a ha)⟩
 ·have hd':d∈f.map fun a=>lF (sX f) f (mI N live (aJ g.m_ a)):=hd
  obtain ⟨h1,h2⟩:=c.nextAddr hd';obtain ⟨a,ha,rfl⟩:=WI.1 hd';exact ⟨⟨a,ha,_,hc a ha⟩,h1,h2⟩
 ·exact c.now64 v (by rw [WB];exact VC _ hv)
 have:=(c.cell ha).inC;rw [Ih (hk a ha).1 (hk a ha).2] at this;exact this
theorem Mv.pl {g':Vv}(m:Mv g g' ρ f)(h:Pl g):Pl g':=by
 obtain ⟨n1,n2⟩:=I7 m.set;have hs:=h.hb.small;have hw:=h.hb.wtd
 have hl:g'.XJ.length=g.XJ.length:=by rw [m.roots,Xr]
 have hrl:=hs.roots;have hle:=hw.le;have hf:=h.hb.four;have ht:=h.hb.tot;have hwc:=hw.cnt;have hc:=m.cnt;have hwt:=m.wts;have hsum:=m.sum;rw [HQ] at ht;rw [h.pend,VZ] at hrl hle hf
 have hsz: ∀c∈g'.m_.XA++g'.m_.Xz,c.Xy.length<=600/\c.Xx.length<=2900:=fun c hc=>by
  obtain ⟨⟨a,ha,age,rfl⟩, -⟩:=m.cells c hc;have:=hs.cells _ (mK (m.has a ha));show ((aJ g.m_ a).Xy.map _).length<=600/\((aJ g.m_ a).Xx.map _).length<=2900;rw [Xr,Xr];exact this
 refine ⟨⟨⟨by omega,by omega,?_,hsz⟩,⟨?_,by omega⟩,?_,?_,m.w64,?_,n1,n2⟩,m.pend,fun c hc=> ?_,fun x hx=> ?_,Sy m.set⟩
 ·rw [m.pend,VZ];omega
 ·rw [m.pend,VZ];omega
 ·rw [HQ];omega
 ·rw [m.pend,VZ];omega
 ·rw [m.pend,VZ];exact m.r64
 ·obtain ⟨⟨a,ha,age,rfl⟩,h1,h2⟩:=m.cells c hc;exact ⟨h1,h2,(h.cells _ (mK (m.has a ha))).2.2⟩
 obtain ⟨v,hv,hb,rfl⟩:=qJ.1 hx;rw [m.roots] at hv;obtain ⟨w,hw,rfl⟩:=WI.1 hv;rw [HK] at hb;rw [tO hb (m.rin w hw hb)];exact (m.at_ _ (m.rin w hw hb)).1
def Rs (S:List Int)(c:Vd):List Vp:=bif decide (c.Xw=8) then i3 (fun x=>decide (x∈S)) c.Xx else c.Xx
structure IsoC (ρ:Int->Int) (S:List Int) (c d:Vd):Prop where
 kind:d.Xw=c.Xw
 shape:d.XD=c.XD
 flags:d.XB=c.XB
 slots:d.Xy=c.Xy.map (bI ρ S)
 more:Rs (S.map ρ) d=(Rs S c).map (bI ρ S)
 inS:jm S c.Xy
 inM:jm S (Rs S c)
structure TVal (m:Ve) (R:List Vp):Prop where
 right: ∀c∈m.XA++m.Xz,bm c=true
 kind: ∀c∈m.XA++m.Xz,c.Xw=8\/c.Xw=11
 addr: ∀c∈m.XA++m.Xz, ∀x∈cp c,aw m x=true
 size: ∀c∈m.XA++m.Xz,c.Xy.length<=20/\c.Xx.length<=20
 roots: ∀v∈R,v=mO\/(v.Xw=9/\v.S=⟨#[]⟩/\aw m v.N=true)
structure Iso (mA mB:Ve) (RA RB:List Vp) (S:List Int) (ρ:Int->Int):Prop where
 ren:Ren ρ S
 inA: ∀a∈S,aw mA a=true
 inB: ∀a∈S,aw mB (ρ a)=true
 cell: ∀a∈S,IsoC ρ S (aJ mA a) (aJ mB (ρ a))
 rootIn:jm S RA
 roots:RB=RA.map (bI ρ S)
section
variable {R:List Vp}(h:TVal m R)
include h
end
section
variable {mA mB:Ve}{RA RB:List Vp}{S:List Int}(h:Iso mA mB RA RB S ρ)(vA:TVal mA RA)(vB:TVal mB RB)
include h vA vB
end
end
section
open Go.RowKit
def xw (m:Ve)(a:Int)(c:Vd):Ve:=bif decide (a%2=1) then ⟨m.XA.set (a / 2).toNat c,m.Xz⟩ else ⟨m.XA,m.Xz.set (a / 2 - 1).toNat c⟩
theorem O7 {a:Int}(c:Vd)(h:aw m a=true):(∀x,aw (xw m a c) x=aw m x)/\(∀x,aw m x=true->aJ (xw m a c) x=if x=a then c else aJ m x)/\(xw m a c).XA.length=m.XA.length/\(xw m a c).Xz.length=m.Xz.length/\(∀d∈(xw m a c).XA++(xw m a c).Xz,d∈m.XA++m.Xz\/d=c)/\mS (xw m a c).XA+mS (xw m a c).Xz<=mS m.XA+mS m.Xz+c.Xx.length:=by
 have hhas: ∀m':Ve,m'.XA.length=m.XA.length->m'.Xz.length=m.Xz.length-> ∀x,aw m' x=aw m x:=fun m' h1 h2 x=>by
  rw [Bool.eq_iff_iff];constructor
  ·intro hx;rcases fq hx with ⟨i,hi,rfl⟩|⟨i,hi,rfl⟩
   ·rw [AA];exact Vy U
   rw [sd];exact Vy U
  intro hx;rcases fq hx with ⟨i,hi,rfl⟩|⟨i,hi,rfl⟩
  ·rw [AA];exact Vy U
  rw [sd];exact Vy U
 rcases fq h with ⟨j,hj,rfl⟩|⟨j,hj,rfl⟩
 ·have e:xw m (2*(j:Int)+1) c=⟨m.XA.set j c,m.Xz⟩:=by
   unfold xw;rw [Vy U,cond_true,show ((2*(j:Int)+1) / 2).toNat=j by omega]
  rw [e];refine ⟨hhas _ (Wz ..) J,fun x hx=> ?_,Wz ..,J,fun d hd=> ?_,?_⟩
  ·rcases fq hx with ⟨i,hi,rfl⟩|⟨i,hi,rfl⟩
   ·rw [vS ⟨m.XA.set j c,m.Xz⟩ i (by simpa using hi),vS m i hi];simp only [List.getElem_set];by_cases hij:j=i
    ·rw [if_pos hij,if_pos U]
    rw [if_neg hij,if_neg U]
   rw [rM ⟨m.XA.set j c,m.Xz⟩ i hi,rM m i hi,if_neg U]
  ·rcases WE.1 hd with hd|hd
   ·rcases List.mem_or_eq_of_mem_set hd with hd|hd
    ·exact .inl (VC _ hd)
    exact .inr hd
   exact .inl (VD _ hd)
  have:=El (fun c:Vd=>c.Xx.length) c m.XA j;unfold mS;simp only at this⊢;omega
 have e:xw m (2*(j:Int)+2) c=⟨m.XA,m.Xz.set j c⟩:=by
  unfold xw;rw [Vz U,cond_false,show ((2*(j:Int)+2) / 2 - 1).toNat=j by omega]
 rw [e];refine ⟨hhas _ J (Wz ..),fun x hx=> ?_,J,Wz ..,fun d hd=> ?_,?_⟩
 ·rcases fq hx with ⟨i,hi,rfl⟩|⟨i,hi,rfl⟩
  ·rw [vS ⟨m.XA,m.Xz.set j c⟩ i hi,vS m i hi,if_neg U]
  rw [rM ⟨m.XA,m.Xz.set j c⟩ i (by simpa using hi),rM m i hi];simp only [List.getElem_set];by_cases hij:j=i
  ·rw [if_pos hij,if_pos U]
  rw [if_neg hij,if_neg U]
 ·rcases WE.1 hd with hd|hd
  ·exact .inl (VC _ hd)
  rcases List.mem_or_eq_of_mem_set hd with hd|hd
  ·exact .inl (VD _ hd)
  exact .inr hd
 have:=El (fun c:Vd=>c.Xx.length) c m.Xz j;unfold mS;simp only at this⊢;omega
theorem xO (g:Vv)(a:Int)(c:Vd):(ic g a c).m_=xw g.m_ a (Bf c (aJ g.m_ a).XC)/\(ic g a c).XJ=g.XJ/\(ic g a c).XP=g.XP/\(ic g a c).XO.at_=bif decide (a%2=1) then g.XO.at_ else Bq g.XO.at_ a c:=by
 unfold ic xw;cases decide (a%2=1)<;>exact ⟨rfl,rfl,rfl,rfl⟩
theorem Kj (h:bm c=true){a:Int}(h0:0<=a)(h1:a<=1):bm (Bf c a)=true:=by
 unfold bm at h⊢;simp only [Xt,Bool.not_eq_true',Xk] at h⊢;obtain ⟨⟨⟨⟨⟨⟨⟨p1,p2⟩,p3⟩,p4⟩,p5⟩, -⟩, -⟩,h⟩:=h;exact ⟨⟨⟨⟨⟨⟨⟨p1,p2⟩,p3⟩,p4⟩,p5⟩,by show¬a<0;omega⟩,by show¬1<a;omega⟩,h⟩
theorem Mg (h:bm c=true):0<=c.XC/\c.XC<=1:=by
 unfold bm at h;simp only [Xt,Bool.not_eq_true',Xk] at h;omega
theorem TK {N:Nat}(hN:6500<N)(hs:Small g.m_ (g.XJ++g.XP)){a:Int}(hh:aw g.m_ a=true)(h1:c.Xy.length<=600/\c.Xx.length<=2900):
  lT N g a c=some (bif !bm c then (51,g) else (0,ic g a c)):=by
 have hy:=hs.young;have ho:=hs.old;unfold lT aF;rw [bs,cf,Rg N g (qW hs hh),bs,Dx hN U,bs,hh]
 cases bm c with
 |false=>rfl
 | true=>
  rw [nt,cf,cf];unfold gQ;rcases fq hh with ⟨i,hi,rfl⟩|⟨i,hi,rfl⟩
  ·have e1:(2*(i:Int)+1).tmod 2=1:=by rw [tl U];omega
   have e2:(2*(i:Int)+1).tdiv 2=i:=by rw [VU U];omega
   have e3:(2*(i:Int)+1) / 2=i:=by omega
   have e4:(2*(i:Int)+1)%2=1:=by omega
   unfold ic;rw [e1,e2,e3,e4,Vy (p:=(1:Int)=1) rfl,Vz (p:=(1:Int)=0) U,ct,ct,r64 U U,aG hi,bs,bs]
   dsimp only [yL]
   rw [aG hi,bs,qI N c U,bs,cf,vS g.m_ i hi];unfold mG;rw [List.set_set];rfl
  have e1:(2*(i:Int)+2).tmod 2=0:=by rw [tl U];omega
  have e2:(2*(i:Int)+2).tdiv 2=(i:Int)+1:=by rw [VU U];omega
  have e3:(2*(i:Int)+2) / 2 - 1=i:=by omega
  have e4:(2*(i:Int)+2)%2=0:=by omega
  have e5:(i:Int)+1 - 1=i:=by omega
  obtain ⟨b,hb⟩:=My hN (c:=c) U g.XO.at_ i;have hb':cB N g.XO (2*(i:Int)+2) c=some (b,⟨Bq g.XO.at_ (2*(i:Int)+2) c⟩):=hb;unfold ic;rw [hb',e1,e2,e3,e4,e5,Vz (p:=(0:Int)=1) U,Vy (p:=(0:Int)=0) rfl,cf,cf,r64 U U,r64 U U,aG hi,bs,bs]
  dsimp only [yL]
  rw [aG hi,bs,qI N c U,bs,ct,bs,rM g.m_ i hi];unfold mF;rw [List.set_set];rfl
theorem Ml (hs:iF g.XO.at_=ln g.m_)(hnd:(g.XO.at_.map Prod.fst).Nodup){a:Int}(ha:aw g.m_ a=true)(c:Vd)(nd:((ic g a c).XO.at_.map Prod.fst).Nodup):iF (ic g a c).XO.at_=ln (ic g a c).m_:=by
 obtain ⟨f1, -, -,f4⟩:=xO g a c;obtain ⟨s1,s2,s3,s4, -, -⟩:=O7 (Bf c (aJ g.m_ a).XC) ha;have e:iF (ic g a c).XO.at_=kk ((ic g a c).XO.at_.map Prod.fst):=rfl;rw [e]
 refine Eo nd (BC _) fun x=> ?_
 have hkv: ∀x,x∈g.XO.at_.map Prod.fst↔x∈ln g.m_:=fun x=>by rw [<-hs];exact (sW _ x).symm
 have hold: ∀i,i<g.m_.Xz.length->uI (ic g a c).m_ i=if 2*(i:Int)+2=a then (cp c).any yB else uI g.m_ i:=fun i hi=>by
  unfold uI;rw [f1,s2 _ (by rw [sd];exact Vy hi)];split<;>rfl
 rw [tc,f1,s4,f4, <-f1];rcases fq ha with ⟨j,hj,rfl⟩|⟨j,hj,rfl⟩
 ·rw [Vy U,cond_true,hkv,tc];refine ⟨fun ⟨i,h1,h2,h3⟩=>⟨i,h1,by rw [hold i h1,if_neg U];exact h2,h3⟩,fun ⟨i,h1,h2,h3⟩=>⟨i,h1,by rw [hold i h1,if_neg U] at h2;exact h2,h3⟩⟩
 rw [Vz U,cond_false,GJ hnd,hkv,tc];constructor
 ·rintro (⟨h1,⟨i,q1,q2,rfl⟩|rfl⟩|⟨h1,⟨i,q1,q2,rfl⟩,hne⟩)
  ·refine ⟨i,q1,?_,J⟩;rw [hold i q1];split
   ·exact h1
   exact q2
  ·exact ⟨j,hj,by rw [hold j hj,if_pos rfl];exact h1,rfl⟩
  exact ⟨i,q1,by rw [hold i q1,if_neg hne];exact q2,rfl⟩
 rintro ⟨i,q1,q2,rfl⟩;rw [hold i q1] at q2;by_cases hij:2*(i:Int)+2=2*(j:Int)+2
 ·rw [if_pos hij] at q2;exact .inl ⟨q2,.inr hij⟩
 rw [if_neg hij] at q2
 cases hb:(cp c).any yB with
 |true=>exact .inl ⟨rfl,.inl ⟨i,q1,q2,rfl⟩⟩
 |false=>exact .inr ⟨rfl,⟨i,q1,q2,rfl⟩,hij⟩
theorem O9 (c:Vd):(∀x,aw m x=true->aw ⟨m.XA++ [c],m.Xz⟩ x=true/\aJ ⟨m.XA++ [c],m.Xz⟩ x=aJ m x)/\aw ⟨m.XA++ [c],m.Xz⟩ (2*(m.XA.length:Int)+1)=true/\aJ ⟨m.XA++ [c],m.Xz⟩ (2*(m.XA.length:Int)+1)=c:=by
 refine ⟨fun x hx=> ?_,?_,?_⟩
 ·rcases fq hx with ⟨i,hi,rfl⟩|⟨i,hi,rfl⟩
  ·have h2:i<(m.XA++ [c]).length:=by simp;omega
   exact ⟨by rw [AA];exact Vy h2,by rw [vS ⟨m.XA++ [c],m.Xz⟩ i h2,vS m i hi];exact List.getElem_append_left hi⟩
  exact ⟨by rw [sd];exact Vy hi,by rw [rM ⟨m.XA++ [c],m.Xz⟩ i hi,rM m i hi]⟩
 ·rw [AA];exact Vy (by simp)
 rw [vS ⟨m.XA++ [c],m.Xz⟩ m.XA.length (by simp)];simp
theorem Ol (c:Vd):ln ⟨m.XA++ [c],m.Xz⟩=ln m:=by
 unfold ln;show List.map _ ((List.range m.Xz.length).filter _)=_
 congr 1
 refine List.filter_congr fun i hi=> ?_
 unfold uI;rw [((O9 c).1 (2*(i:Int)+2) (by rw [sd];exact Vy (WK.1 hi))).2]
theorem RY {N:Nat}(hs:∀c∈g.m_.XA++g.m_.Xz,c.Xy.length<=600/\c.Xx.length<=2900){a:Int}(ha:in64 a)(hh:aw g.m_ a=true):nm N g a=some (aJ g.m_ a,true):=by
 unfold nm;rw [Rg N g ha,bs,hh];have hc:=hs _ (mK hh);have hi64:in64 a:=ha;unfold gQ;rcases fq hh with ⟨i,hi,rfl⟩|⟨i,hi,rfl⟩
 ·have e1:(2*(i:Int)+1).tmod 2=1:=by rw [tl U];omega
  have e2:(2*(i:Int)+1).tdiv 2=i:=by rw [VU U];omega
  rw [vS g.m_ i hi] at hc⊢;unfold in64 at hi64;rw [nt,cf,e1,e2,Vy (p:=(1:Int)=1) rfl,ct,r64 U U,aG hi,bs,bs]
  dsimp only [yL]
  rw [aG hi,bs,qI N _ U,bs]
 have e1:(2*(i:Int)+2).tmod 2=0:=by rw [tl U];omega
 have e2:(2*(i:Int)+2).tdiv 2=(i:Int)+1:=by rw [VU U];omega
 have e5:(i:Int)+1 - 1=i:=by omega
 rw [rM g.m_ i hi] at hc⊢;unfold in64 at hi64;rw [nt,cf,e1,e2,e5,Vz (p:=(0:Int)=1) U,cf,r64 U U,r64 U U,aG hi,bs,bs]
 dsimp only [yL]
 rw [aG hi,bs,qI N _ U,bs]
theorem C2 {N:Nat}{w:Vj}(hs:∀c∈w.XF.m_.XA++w.XF.m_.Xz,c.Xy.length<=600/\c.Xx.length<=2900)(hv:bd v=true)(ha:in64 v.N)(hh:aw w.XF.m_ v.N=true):aE N w v=some (aJ w.XF.m_ v.N):=by
 have e:iA N v=some (bd v):=by
  unfold iA bd;cases decide (v.Xw=7)<;>rfl
 unfold aE;rw [e,bs,hv,nt,cf,RY hs ha hh,bs];rfl
theorem HA (N:Nat)(h:g.XJ[j]? =some v):bL N g (j:Int)=some v:=by
 obtain ⟨hj,e⟩:=Wl.1 h;rw [Me];unfold Gv;rw [Vy (p:=(0:Int)<=(j:Int)) U,Vy (p:=(j:Int)<(g.XJ.length:Int)) U,VW,List.getD_eq_getElem?_getD,h];rfl
theorem Jw (N:Nat)(g:Vv):fz N g (g.XJ.length:Int)=some g:=by
 unfold fz aF;rw [bs,nf,ct,Vz (p:=max (g.XJ.length:Int) 0<(g.XJ.length:Int)) U,bs,cf]
def Et (w:Vj)(g:Vv):Vj:=⟨w.XQ,w.XK,(),g,w.XH,w.XS,w.XR,w.XY,w.XZ,w.XT,w.XU⟩
theorem GN (N:Nat){w:Vj}(h:w.XF.XJ.length<=600):ci N w=some (w.XF.XJ.length:Int):=by
 unfold ci;rw [Jc N _ h,bs]
theorem Ju (N:Nat)(a:Int)(w:Vj): ∃b,fD N a w=some b:=by
 unfold fD;by_cases h:0<a
 ·rw [dn h,ct,gi U,bs];exact ⟨_,J⟩
 rw [cY U,cf,bs];exact ⟨_,J⟩
theorem bN {ρ σ:Type}{b:Bool}{x y:Option σ}{f:σ->Option ρ}{P:σ->Prop}{R:ρ->Prop}(h1:b=true->Sat x P)(h2:b=false->Sat y P)(k:∀z,P z->Sat (f z) R):Sat ((bif b then x else y).bind f) R:=Sat.bind (kL h1 h2) k
def SH (k:Vs):Prop:=k.Xw=0->0<=k.N/\k.N<=4294967294
def xg (a:Int):Prop:=0<=a/\a<=15/\aq .i64 a 9≠9
theorem Nz (N:Nat)(a:Int):Sat (o9 N a) fun b=>b=true->xg a:=by
 unfold o9
 refine Sat.bind (P:=fun b=>b=true->0<=a/\a<=15) (aK (fun h=>ad fun h1=>⟨h,Xn h1⟩) fun h=>ad fun h=>by cases h) fun b hb=> ?_
 refine bN (P:=fun c=>c=true->xg a) (fun e=>ad fun h=>⟨(hb e).1,(hb e).2,fun h1=> ?_⟩) (fun _=>ad fun h=>by cases h) fun c hc=>ad hc
 rw [Vy h1] at h;cases h
theorem D7 {b:ByteArray}(h0:0<=i)(h1:i<(b.size:Int)):Sat (HZ b i) fun x=>0<=x/\x<=255:=by
 have h2:i.toNat<b.size:=by omega
 unfold HZ;rw [if_pos h0,getElem?_pos b i.toNat h2];exact ⟨((b[i.toNat]).toNat:Int),J,by omega,by have:=(b[i.toNat]).toNat_lt;omega⟩
theorem Sx (x:Int):0<=IntKind.u8.wrap x/\IntKind.u8.wrap x<=255:=by
 have:IntKind.u8.wrap x=x%256:=by rfl
 omega
theorem Fl (N:Nat)(s:ByteArray)(hs:s.size<=10): ∀(m i:Nat) (p:Int),s.size<m+i->i<=s.size->0<=p->p+29<=29*(10:Int) ^ i->Sat (sM N s m p (i:Int)) fun _=>True
 |0,i,p,h,h1,_,_=>by omega
 | m+1,i,p,h,h1,h2,h3=>by
  rw [sM.eq_2]
  have h10:(10:Int) ^ i<=10 ^ 10:=by
   have:(10:Nat) ^ i<=10 ^ 10:=Nat.pow_le_pow_right U U
   exact_mod_cast this
  rw [show (10:Int) ^ 10=10000000000 from rfl] at h10
  refine aK (fun h7=> ?_) fun h7=> ?_
  ·refine (D7 U h7).bind fun x hx=> ?_
   refine bN (P:=fun _=>True) (fun _=>ad trivial) (fun _=>(D7 U h7).bind fun y _=>ad trivial) fun c _=> ?_
   refine kL (fun _=>ad trivial) fun _=> ?_
   refine cQ (by constructor<;>omega) ((D7 U h7).bind fun y hy=> ?_);have h8:=Sx (y - 48);rw [show IntKind.i64.wrap (IntKind.u8.wrap (y - 48))=IntKind.u8.wrap (y - 48) from IntWalk.i64_in _ ⟨by omega,by omega⟩];generalize IntKind.u8.wrap (y - 48)=d at h8;refine cQ (by constructor<;>omega) (cQ (by constructor<;>omega) ?_);exact Fl N s hs m (i+1) _ U U U (by rw [Int.pow_succ];omega)
  unfold wu
  exact aK (fun _=>ad trivial) fun _=>ad trivial
theorem Om (N:Nat)(hN:5000<=N)(s:ByteArray):Sat (uL N s) fun _=>True:=by
 unfold uL;by_cases h10:s.size<=10
 ·cases e:(s.toList==(⟨#[]⟩:ByteArray).toList) with
  |true=>exact ad trivial
  | false=>
   have hs:0<s.size:=by
    rcases W2 s.size with h|h
    ·exfalso
     have:s=⟨#[]⟩:=by
      obtain ⟨d⟩:=s;have:d= #[]:=Array.eq_empty_of_size_eq_zero h;rw [this]
     rw [this] at e;rw [beq_self_eq_true] at e;cases e
    exact h
   show Sat (Option.bind (some (decide (10<(s.size:Int)))) _) _;rw [bs,Vz U];show Sat (Option.bind ((HZ s 0).bind _) _) _
   refine Sat.bind (P:=fun _=>True) ((D7 U U).bind fun x _=>bN (P:=fun _=>True) (fun _=>ad trivial) (fun _=>ad trivial) fun _ _=>ad trivial) fun b _=> ?_
   exact kL (fun _=>ad trivial) fun _=>Fl N s h10 N 0 0 U U U (by decide)
 have:(bif s.toList==(⟨#[]⟩:ByteArray).toList then (some true) else (some (decide (10<(s.size:Int)))))=some true:=by
  cases s.toList==(⟨#[]⟩:ByteArray).toList with
  |true=>rfl
  |false=>show some _=_;rw [Vy U]
 rw [this];exact ad trivial
theorem GO (N:Nat)(hN:5000<=N)(k:Vs):Sat (cW N k) fun b=>b=true->SH k:=by
 unfold cW
 refine aK (fun h=> ?_) fun h=> ?_
 ·refine bN (P:=fun b=>b=true->0<=k.N) (fun _=>ad fun h=>Xn h) (fun _=>ad fun h=>by cases h) fun b hb=> ?_
  refine bN (P:=fun c=>c=true->SH k) (fun e=>ad fun h _=>⟨hb e,Xn h⟩) (fun _=>ad fun h=>by cases h) fun c hc=>ad hc
 refine Sat.mono (R:=fun _=>True) ?_ fun _ _ _ h'=>absurd h' h
 refine aK (fun _=> ?_) fun _=> ?_
 ·refine (Om N hN k.S).bind fun y _=> ?_
  refine bN (P:=fun _=>True) (fun _=>ad trivial) (fun _=>ad trivial) fun b _=> ?_
  exact bN (P:=fun _=>True) (fun _=>ad trivial) (fun _=>ad trivial) fun b _=>ad trivial
 refine aK (fun _=> ?_) fun _=>ad trivial
 exact bN (P:=fun _=>True) (fun _=>ad trivial) (fun _=>ad trivial) fun b _=>ad trivial
theorem PX (N:Nat){a:Int}(h:xg a):o9 N a=some true:=by
 unfold o9;rw [Vy h.1,ct,bs,Vy h.2.1,ct,Vz h.2.2];rfl
def CR (k:Vs):Prop:=cW N k=some true
def RL (x:Vs×Int):Prop:=CR N x.1/\xg x.2
def ka (s:Vq):Vs×Int:=(s.XI,s.XE)
def Has (t:Vi)(i:Int)(s:Vq):Prop:=0<=i/\t.XH[i.toNat]? =some s
theorem Has.lt (h:Has t i s):0<=i/\i<t.XH.length:=by
 have:=(Wl.1 h.2).1;exact ⟨h.1,by have:=h.1;omega⟩
theorem Has.get (h:Has t i s):ao t.XH i=some s:=by
 unfold ao;rw [if_neg (by have:=h.1;omega)];exact h.2
theorem Has.one {s':Vq}(h:Has t i s)(h':Has t i s'):s=s':=Xe (h.2.symm.trans h'.2)
structure TU (t:Vi):Prop where
 nx: ∀i s,Has t i s->0<s.XX->lk t.XV (⟨s.Up,s.XI,s.XE⟩:Vu)=some i
 root: ∀i s,Has t i s->s.XX=0->i=0
structure Le (t t':Vi):Prop where
 sub: ∀i s,Has t i s->Has t' i s
 tu:TU t->TU t'
theorem Le.refl (t:Vi):Le t t:=⟨fun _ _ h=>h,fun h=>h⟩
structure TI (N:Nat) (t:Vi):Prop where
 sh: ∀i s,Has t i s->0<=s.XX/\s.XX<=1024/\(0<s.XX->RL N (ka s)/\ ∃u,Has t s.Up u/\u.XX=s.XX - 1)
 nx: ∀k j,lk t.XV k=some j-> ∃a b,Has t k.Yn a/\Has t j b/\b.XX=a.XX+1/\b.Up=k.Yn/\b.XI=k.Ym/\b.XE=k.Yo
inductive Row (t:Vi):Int->List (Vs×Int)->Prop
 |nil {i:Int} {s:Vq}:Has t i s->s.XX=0->Row t i []
 |snoc {i:Int} {s:Vq} {l:List (Vs×Int)}:Has t i s->0<s.XX->Row t s.Up l->Row t i (l++ [ka s])
theorem Row.mono {t':Vi}(h:Le t t')(r:Row t i l):Row t' i l:=by
 induction r with
 |nil h1 h2=>exact .nil (h.sub _ _ h1) h2
 |snoc h1 h2 _ ih=>exact .snoc (h.sub _ _ h1) h2 ih
theorem Row.uniq (tu:TU t)(r:Row t i l): ∀{j:Int},Row t j l->i=j:=by
 induction r with
 |nil h1 h2=>
  intro j r;generalize hl:([]:List (Vs×Int))=l at r
  cases r with
  |nil h3 h4=>rw [tu.root _ _ h1 h2,tu.root _ _ h3 h4]
  |snoc h3 h4 _=>simp at hl
 | @snoc i s l h1 h2 _ ih=>
  intro j r;generalize hl:l++ [ka s]=l2 at r
  cases r with
  |nil h3 h4=>simp at hl
  | @snoc _ s' l' h3 h4 r'=>
   obtain ⟨e1,e2⟩:=List.append_inj' hl rfl;subst e1;have e3:=ih r';have e4:ka s=ka s':=List.singleton_inj.1 e2;have e5:s.XI=s'.XI:=congrArg Prod.fst e4;have e6:s.XE=s'.XE:=congrArg Prod.snd e4;have h5:=tu.nx _ _ h1 h2;rw [e3,e5,e6,tu.nx _ _ h3 h4] at h5;exact (Xe h5).symm
theorem Row.has {N:Nat}(ti:TI N t)(r:Row t i l): ∃s,Has t i s/\s.XX=l.length:=by
 induction r with
 |nil h1 h2=>exact ⟨_,h1,h2⟩
 |snoc h1 h2 _ ih=>
  obtain ⟨u,u1,u2⟩:=ih;obtain ⟨-, -,a3⟩:=ti.sh _ _ h1;obtain ⟨-,u',b1,b2⟩:=a3 h2;have:=u1.one b1;subst this;exact ⟨_,h1,by rw [Xp,WA];omega⟩
theorem Row.le {N:Nat}(ti:TI N t)(r:Row t i l):l.length<=1024:=by
 obtain ⟨s,s1,s2⟩:=r.has ti;have:=(ti.sh _ _ s1).2.1;omega
theorem Row.ok {N:Nat}(ti:TI N t)(r:Row t i l): ∀x∈l,RL N x:=by
 induction r with
 |nil h1 h2=>simp
 |snoc h1 h2 _ ih=>
  intro x hx;rcases WE.1 hx with hx|hx
  ·exact ih x hx
  rw [WL] at hx;subst hx;exact ((ti.sh _ _ h1).2.2 h2).1
theorem RZ (N:Nat)(t:Vi)(i:Int):eP N t i=some (decide (0<=i)&&decide (i<(t.XH.length:Int))):=by
 unfold eP;cases decide (0<=i)<;>rfl
theorem Has.has (N:Nat)(h:Has t i s):eP N t i=some true:=by
 rw [RZ,Vy h.lt.1,Vy h.lt.2];rfl
theorem Tb (N:Nat)(h:Has t i s):nA N t i=some (s,true):=by
 unfold nA;rw [h.has N,bs,nt,cf,h.get,bs]
theorem Ky (N:Nat)(h:Has t i s):eQ N t i=some s.XX:=by
 unfold eQ;rw [Tb N h,bs]
theorem IJ (N:Nat)(ti:TI N t)(lf:List (Vs×Int))(hL:lf.length<=1024): ∀(m:Nat) (a8:Int) (a6:List Vq) (l0 rest:List (Vs×Int)),l0.length<m->lf=l0++rest->a6.length=lf.length->Row t a8 l0->
  (a6.drop l0.length).map ka=rest->Sat (kq N t m a8 a6 ((l0.length:Int) - 1)) fun l=>l.map ka=lf
 |0,_,_,l0,_,h,_,_,_,_=>by omega
 | m+1,a8,a6,l0,rest,h,h1,h2,h3,h4=>by
  rw [kq.eq_2]
  cases h3 with
  |nil h5 h6=>
   rw [Vz (by rw [Wy];omega),cf];exact ad (by rw [h1, <-h4];rfl)
  | @snoc _ s l h5 h6 h7=>
   have e1:((((l++ [ka s]).length:Nat):Int) - 1)=(l.length:Int):=by rw [Xp,WA];omega
   have e2:lf.length=l.length+1+rest.length:=by rw [h1,Xp,Xp,WA]
   rw [e1,Vy U,ct,h5.get,bs]
   refine rq U U fun b0 _=> ?_
   refine rq U (by rw [Wz];omega) fun b5 h8=> ?_
   rw [VW,Wo U] at h8;cases h8;refine cQ (by constructor<;>omega) ?_;refine IJ N ti lf hL m _ _ l (ka s::rest) (by rw [Xp,WA] at h;omega) (by rw [h1,VB];rfl) (by rw [Wz];exact h2) h7 ?_;rw [VW,List.drop_set,if_neg U,Nat.sub_self,V3 (show l.length<a6.length by omega)];rw [Xp,WA] at h4;rw [List.set_cons_zero,WC,h4]
theorem Hz (N:Nat)(hN:5000<=N)(ti:TI N t)(h:Row t i l):Sat (eO N t i) fun r=>r.map ka=l:=by
 obtain ⟨s,s1,s2⟩:=h.has ti;have:=h.le ti;unfold eO;rw [Ky N s1,bs,s2];refine cQ (by constructor<;>omega) (cQ (by rw [List.length_replicate];constructor<;>omega) ?_);rw [List.length_replicate,VW];refine IJ N ti l this N i _ l [] U (by simp) (by simp) h (by simp)
theorem GP (N:Nat)(y:List Vq)(hy:y.length<=1024): ∀(m i:Nat) (p:List Vs),y.length<m+i->i<=y.length->p=(y.take i).map (·.XI)->Sat (ku N y m p (i:Int)) fun l=>l=y.map (·.XI)
 |0,i,p,h,h1,_=>by omega
 | m+1,i,p,h,h1,h2=>by
  rw [ku.eq_2]
  have hp:p.length<=i:=by rw [h2,Xr,Xq];omega
  refine aK (fun h7=> ?_) fun h7=> ?_
  ·refine rq U h7 fun x hx=> ?_
   refine cQ (by unfold bY;rw [WA];omega) (cQ (by constructor<;>omega) ?_);refine GP N y hy m (i+1) _ U U ?_;rw [VW] at hx;rw [h2,List.take_add_one,hx,WB];rfl
  exact ad (by rw [h2,WT U])
theorem P4 (N:Nat)(hN:5000<=N)(ti:TI N t)(h:Row t i l):eh N t i=some (l.map (·.1)):=by
 have:=h.le ti;refine Sat.eq ?_;unfold eh
 refine (Hz N hN ti h).bind fun r hr=> ?_
 have e:r.length=l.length:=by rw [<-hr,Xr]
 exact (GP N r U N 0 [] U U J).mono fun x hx=>by rw [hx, <-hr,List.map_map];rfl
theorem FP (N:Nat)(y:List Vq)(hy:y.length<=1024): ∀(m i:Nat) (p:List Int),y.length<m+i->i<=y.length->p=(y.take i).map (·.XE)->Sat (jE N y m p (i:Int)) fun l=>l=y.map (·.XE)
 |0,i,p,h,h1,_=>by omega
 | m+1,i,p,h,h1,h2=>by
  rw [jE.eq_2]
  have hp:p.length<=i:=by rw [h2,Xr,Xq];omega
  refine aK (fun h7=> ?_) fun h7=> ?_
  ·refine rq U h7 fun x hx=> ?_
   refine cQ (by unfold bY;rw [WA];omega) (cQ (by constructor<;>omega) ?_);refine FP N y hy m (i+1) _ U U ?_;rw [VW] at hx;rw [h2,List.take_add_one,hx,WB];rfl
  exact ad (by rw [h2,WT U])
theorem O5 (N:Nat)(hN:5000<=N)(ti:TI N t)(h:Row t i l):fd N t i=some (l.map (·.2)):=by
 have:=h.le ti;refine Sat.eq ?_;unfold fd
 refine (Hz N hN ti h).bind fun r hr=> ?_
 have e:r.length=l.length:=by rw [<-hr,Xr]
 exact (FP N r U N 0 [] U U J).mono fun x hx=>by rw [hx, <-hr,List.map_map];rfl
def Rq (l:List (Vs×Int))(k:Vs)(r:Int×Int×Bool):Prop:=(r=(0,0,false)/\ ∀x∈l,x.1≠k)\/ ∃n:Nat,r.1=n/\r.2.2=true/\l[n]? =some (k,r.2.1)
theorem GT (N:Nat)(ti:TI N t)(k:Vs): ∀(m:Nat) (i:Int) (s:Vq) (l:List (Vs×Int)),l.length<m->Has t i s->Row t i l->Sat (jD N t k m s.Up s.XI.Xw s.XI.N s.XI.S s.XE s.XX) (Rq l k)
 |0,i,s,l,h,h1,h2=>by omega
 | m+1,i,s,l,h,h1,h2=>by
  rw [jD.eq_2];have hle:=h2.le ti
  cases h2 with
  |nil h5 h6=>
   have:=h1.one h5;subst this;rw [Vz U,cf];exact ad (.inl ⟨J,by simp⟩)
  | @snoc _ s' l h5 h6 h7=>
   have:=h1.one h5;subst this;rw [Xp,WA] at h hle;obtain ⟨u,u1,u2⟩:=h7.has ti;obtain ⟨a1,a2,a3⟩:=ti.sh _ _ h1;obtain ⟨b1,u',b2,b3⟩:=a3 h6;have:=u1.one b2;subst this;rw [Vy h6,ct]
   refine aK (fun e=>cQ (by constructor<;>omega) (ad (.inr ⟨l.length,by show s.XX - 1=_;omega,rfl,?_⟩))) fun e=> ?_
   ·rw [Wf (W4 _),Nat.sub_self];show some (ka s)=_;rw [show k=s.XI from e.symm];rfl
   rw [u1.get,bs]
   refine (GT N ti k m _ u l U u1 h7).mono fun r hr=> ?_
   rcases hr with ⟨r1,r2⟩|⟨n,r1,r2,r3⟩
   ·refine .inl ⟨r1,fun x hx=> ?_⟩;rcases WE.1 hx with hx|hx
    ·exact r2 x hx
    rw [WL] at hx;subst hx;exact e
   exact .inr ⟨n,r1,r2,by rw [We (Wl.1 r3).1];exact r3⟩
theorem D8 (N:Nat)(hN:5000<=N)(ti:TI N t)(h:Row t i l)(k:Vs):Sat (dr N t i k) (Rq l k):=by
 obtain ⟨s,s1,s2⟩:=h.has ti;have:=h.le ti;unfold dr;rw [s1.has N,bs,nt,cf,s1.get,bs];exact GT N ti k N i s l U s1 h
theorem DB (N:Nat)(ti:TI N t)(n:Nat): ∀(m:Nat) (i:Int) (l:List (Vs×Int)),l.length<m->Row t i l->n<=l.length->Sat (i9 N (n:Int) t m i) fun r=>Row t r (l.take n)
 |0,i,l,h,h1,h2=>by omega
 | m+1,i,l,h,h1,h2=>by
  obtain ⟨s,s1,s2⟩:=h1.has ti;rw [i9.eq_2,s1.get,bs]
  refine aK (fun h7=> ?_) fun h7=>ad (by rw [WT U];exact h1)
  rw [bs]
  cases h1 with
  |nil h5 h6=>rw [Wy] at s2;omega
  | @snoc _ s' l h5 h6 h8=>
   have:=s1.one h5;subst this;rw [Xp,WA] at h s2 h2;rw [List.take_append_of_le_length U];exact DB N ti n m _ l U h8 U
theorem Hc (N:Nat)(hN:5000<=N)(ti:TI N t)(h:Row t i l)(n:Nat)(h2:n<=l.length):Sat (gg N t i (n:Int)) fun r=>Row t r (l.take n):=by
 have:=h.le ti;unfold gg;exact DB N ti n N i l U h h2
structure Grow (N:Nat) (t t':Vi) (n:Nat):Prop where
 ti:TI N t'
 le:Le t t'
 num:t'.XH.length<=t.XH.length+n
def JQ (t:Vi)(l:List (Vs×Int))(n:Nat)(r:Int×Int×Vi):Prop:=r.2.1=0/\Grow N t r.2.2 n/\Row r.2.2 r.1 l
theorem Has.app {x:Vq}{n:List (Vu×Int)}(h:Has t i s):Has ⟨t.XH++ [x],n⟩ i s:=
 ⟨h.1,by rw [We (Wl.1 h.2).1];exact h.2⟩
theorem Row.app {x:Vq}{n:List (Vu×Int)}(r:Row t i l):Row ⟨t.XH++ [x],n⟩ i l:=by
 induction r with
 |nil h1 h2=>exact .nil h1.app h2
 |snoc h1 h2 _ ih=>exact .snoc h1.app h2 ih
theorem Lp (N:Nat)(t:Vi)(l:List Vq)(hl:∀x∈l,RL N (ka x))(lf:List (Vs×Int))(hT:lf.length<=1024)(hb:t.XH.length+l.length<=1073741824): ∀(m i:Nat) (a6:Int) (t':Vi) (l0:List (Vs×Int)),l.length<m+i->i<=l.length->TI N t'->Le t t'->t'.XH.length=t.XH.length+i->Row t' a6 l0->lf=l0++(l.drop i).map ka->(TU t-> ∀x,l[i]? =some x->lk t'.XV (⟨a6,x.XI,x.XE⟩:Vu)=none)->Sat (kr N l m a6 (i:Int) t'.XH t'.XV) (JQ N t lf l.length)
 |0,i,_,_,_,h,h1,_,_,_,_,_,_=>by omega
 | m +1,i,a6,t',l0,h,h1,ti,le,h2,h3,h4,hno=>by
  rw [kr.eq_2]
  refine aK (fun h7=> ?_) fun h7=>ad ⟨J,⟨ti,le,by show t'.XH.length<=_;omega⟩,by rw [h4,List.drop_of_length_le U,List.map_nil,VZ];exact h3⟩
  obtain ⟨a,h3a,h3b⟩:=h3.has ti;rw [aG (show i<l.length by omega),bs];rw [h3a.get,bs];obtain ⟨a1,a2,a3⟩:=ti.sh _ _ h3a;have hox:=hl l[i] (Xv _);have e4:l.drop i=l[i]::l.drop (i+1):=V3 _
  have e5:l0.length+1<=lf.length:=by rw [h4,e4,Xp,WC,Wv];omega
  have hno:=fun hu=>hno hu l[i] (Wj _)
  generalize l[i]=x at*
  have e1:(t'.XH++ [(⟨a6,x.XI,x.XE,a.XX+1⟩:Vq)]).length=t'.XH.length+1:=by rw [Xp,WA]
  have e2:((((t'.XH++ [(⟨a6,x.XI,x.XE,a.XX+1⟩:Vq)]).length:Nat):Int) - 1)=(t'.XH.length:Int):=by omega
  refine cQ (by constructor<;>omega) (cQ (by unfold bY;rw [WA];omega) (cQ (by rw [e2];constructor<;>omega) (cQ (by constructor<;>omega) ?_)));rw [e2]
  have hnew:Has ⟨t'.XH++ [(⟨a6,x.XI,x.XE,a.XX+1⟩:Vq)],wI t'.XV ⟨a6,x.XI,x.XE⟩ (t'.XH.length:Int)⟩ (t'.XH.length:Int) ⟨a6,x.XI,x.XE,a.XX+1⟩:=
   ⟨by omega,by simp⟩
  have hsplit: ∀j s,Has ⟨t'.XH++ [(⟨a6,x.XI,x.XE,a.XX+1⟩:Vq)],wI t'.XV ⟨a6,x.XI,x.XE⟩ (t'.XH.length:Int)⟩ j s->Has t' j s\/(j=(t'.XH.length:Int)/\s=⟨a6,x.XI,x.XE,a.XX+1⟩):=fun j s hs=>by
   by_cases e:j.toNat<t'.XH.length
   ·exact .inl ⟨hs.1,by have:=hs.2;rwa [We e] at this⟩
   have hlt:=hs.lt
   have e3:j=(t'.XH.length:Int):=by
    have:(j.toNat:Int)<(t'.XH++ [(⟨a6,x.XI,x.XE,a.XX+1⟩:Vq)]).length:=by have:=hlt.2;simp only at this;omega
    have:=hlt.1;omega
   subst e3;exact .inr ⟨J,hs.one hnew⟩
  have hTU:TU t->TU ⟨t'.XH++ [(⟨a6,x.XI,x.XE,a.XX+1⟩:Vq)],wI t'.XV ⟨a6,x.XI,x.XE⟩ (t'.XH.length:Int)⟩:=fun hu=>by
   have hu':=le.tu hu;have hn:=hno hu;refine ⟨fun j s hs hp=> ?_,fun j s hs hz=> ?_⟩
   ·show lk (wI t'.XV ⟨a6,x.XI,x.XE⟩ (t'.XH.length:Int)) ⟨s.Up,s.XI,s.XE⟩=some j;rw [Dq];rcases hsplit j s hs with hs'|⟨rfl,rfl⟩
    ·have h9:=hu'.nx j s hs' hp;rw [if_neg fun e=> ?_]
     ·exact h9
     first|rw [e,h9] at hn|rw [<-e,h9] at hn
     cases hn
    rw [if_pos rfl]
   rcases hsplit j s hs with hs'|⟨rfl,rfl⟩
   ·exact hu'.root j s hs' hz
   exfalso;have:a.XX+1=0:=hz;omega
  refine Lp N t l hl lf hT hb m (i+1) _ ⟨_,wI t'.XV ⟨a6,x.XI,x.XE⟩ (t'.XH.length:Int)⟩ (l0++ [ka x]) U U ⟨?_,?_⟩ ⟨fun j s hs=>(le.sub j s hs).app,hTU⟩ (by show (t'.XH++_).length=_;omega) (Row.snoc (s:=⟨a6,x.XI,x.XE,a.XX+1⟩) hnew (by show 0<a.XX+1;omega) (h3.app)) (by rw [h4,e4,WC,VB];rfl) (fun hu y hy=>by
   show lk (wI t'.XV ⟨a6,x.XI,x.XE⟩ (t'.XH.length:Int)) ⟨(t'.XH.length:Int),y.XI,y.XE⟩=none;rw [Dq,if_neg fun e=> ?_]
   ·cases e:lk t'.XV (⟨(t'.XH.length:Int),y.XI,y.XE⟩:Vu) with
    |none=>rfl
    |some j=>
     obtain ⟨c,d,c1, -⟩:=ti.nx _ j e;have h8:Has t' (t'.XH.length:Int) c:=c1;have:=h8.lt.2;omega
   ·have e8:a6=(t'.XH.length:Int):=by first|exact congrArg Vu.Yn e|exact (congrArg Vu.Yn e).symm
    have:=h3a.lt.2
    omega)
  ·intro j s hs;rcases hsplit j s hs with hs'|⟨rfl,rfl⟩
   ·obtain ⟨b1,b2,b3⟩:=ti.sh _ _ hs';exact ⟨b1,b2,fun h=>let ⟨c1,u,c2,c3⟩:=b3 h;⟨c1,u,c2.app,c3⟩⟩
   exact ⟨by show 0<=a.XX+1;omega,by show a.XX+1<=1024;omega,fun _=>⟨hox,a,h3a.app,by show a.XX=a.XX+1 - 1;omega⟩⟩
  intro k j hk;change lk (wI t'.XV ⟨a6,x.XI,x.XE⟩ (t'.XH.length:Int)) k=some j at hk;rw [Dq] at hk;split at hk
  ·rename_i e
   cases hk;subst e;exact ⟨a,_,h3a.app,hnew,J,J,J,J⟩
  obtain ⟨c,d,c1,c2,c3⟩:=ti.nx k j hk;exact ⟨c,d,c1.app,c2.app,c3⟩
theorem RW (N:Nat)(hN:5000<=N)(ti:TI N t)(at_:Int)(l:List Vq)(hl:∀x∈l,RL N (ka x))(l0:List (Vs×Int))(hT:l0.length+l.length<=1024)(hb:t.XH.length+l.length<=1073741824)(h:Row t at_ l0)(hno:TU t-> ∀x,l[0]? =some x->lk t.XV (⟨at_,x.XI,x.XE⟩:Vu)=none):Sat (fN N t at_ l) (JQ N t (l0++l.map ka) l.length):=by
 unfold fN;refine cQ (by constructor<;>omega) (aK (fun h7=>by omega) fun h7=> ?_);exact Lp N t l hl _ (by rw [Xp,Xr];exact hT) hb N 0 at_ t l0 U U ti (Le.refl t) J h J hno
theorem I6 (N:Nat)(hN:5000<=N)(ti:TI N t)(n:Nat): ∀(m:Nat) (at_:Int) (l:List Vq) (l0:List (Vs×Int)),l.length<m->l.length<=n->l0.length+l.length<=1024->t.XH.length+n<=1073741824->(∀x∈l,RL N (ka x))->Row t at_ l0->Sat (ly N t m at_ l) (JQ N t (l0++l.map ka) n)
 |0,_,_,_,h,_,_,_,_,_=>by omega
 | m +1,at_,l,l0,h,hn,h0,hb,hl,ha=>by
  rw [ly.eq_2]
  have h5:(TU t-> ∀x,l[0]? =some x->lk t.XV (⟨at_,x.XI,x.XE⟩:Vu)=none)->Sat (fN N t at_ l) (JQ N t (l0++l.map ka) n):=fun hno=>(RW N hN ti at_ l hl l0 h0 U ha hno).mono fun r hr=>⟨hr.1,⟨hr.2.1.ti,hr.2.1.le,by have:=hr.2.1.num;omega⟩,hr.2.2⟩
  refine aK (fun h7=> ?_) fun h7=>h5 fun _ x hx=>by
   have:=(Wl.1 hx).1;omega
  cases l with
  |nil=>rw [Wy] at h7;omega
  | cons x l=>
   rw [show ao (x::l) 0=some x from rfl,bs,bs]
   cases e:lk t.XV (⟨at_,x.XI,x.XE⟩:Vu) with
   |none=>
    refine h5 fun _ y hy=> ?_
    obtain rfl:x=y:=Xe hy;exact e
   | some j=>
    show Sat (aD _ _) _;refine cQ ⟨by decide,by show 1<=l.length+1;omega,W4 _⟩ ?_;obtain ⟨c,d,c1,c2,c3,c4,c5,c6⟩:=ti.nx _ _ e
    have e5:(((x::l).drop ((1:Int).toNat)).take ((x::l).length - (1:Int).toNat))=l:=by
     show (l.take (l.length+1 - 1))=l;exact WT U
    rw [e5]
    have hd:0<d.XX:=by have:=(ti.sh _ _ c1).1;omega
    have hr:Row t j (l0++ [ka x]):=by
     have:=Row.snoc c2 hd (by rw [c4];exact ha)
     rwa [show ka d=ka x by unfold ka;rw [c5,c6]] at this
    rw [Wv] at h hn h0;have:=I6 N hN ti n m j l (l0++ [ka x]) U U (by rw [Xp,WA];omega) hb (fun z hz=>hl z (WG _ hz)) hr
    rwa [VB] at this
theorem Kz (N:Nat)(hN:5000<=N)(ti:TI N t)(at_:Int)(l:List Vq)(hl:∀x∈l,RL N (ka x))(l0:List (Vs×Int))(hT:l0.length+l.length<=1024)(hb:t.XH.length+1024<=1073741824)(ha:Row t at_ l0):Sat (jC N t at_ l) (JQ N t (l0++l.map ka) 1024):=
 I6 N hN ti 1024 N at_ l l0 U U hT hb hl ha
theorem FQ (N:Nat)(hN:5000<=N)(h:Has t i s)(k:Vs)(a:Int):Sat (fc N t i k a) fun r=>(r=0/\CR N k/\xg a)\/(r≠0/\ ¬(CR N k/\xg a)):=by
 unfold fc;rw [h.has N,bs,nt,cf];obtain ⟨b,h1, -⟩:=GO N hN k;obtain ⟨c,h2,h3⟩:=Nz N a;rw [h1,bs,h2]
 cases b with
 |false=>exact ad (.inr ⟨by decide,fun h=>by have:=h.1;unfold CR at this;rw [h1] at this;cases this⟩)
 |true=>
  cases c with
  |false=>exact ad (.inr ⟨by decide,fun h=>by have:=PX N h.2;rw [h2] at this;cases this⟩)
  |true=>exact ad (.inl ⟨rfl,h1,h3 rfl⟩)
theorem PS (N:Nat)(hN:5000<=N)(ti:TI N t)(hb:t.XH.length+1024<=1073741824)(h:Row t i l)(k:Vs)(a:Int)(hk:∀x∈l,x.1≠k)(hl:l.length<1024):Sat (iS N t i k a) fun r=>(CR N k/\xg a/\JQ N t (l++ [(k,a)]) 1024 r)\/(¬(CR N k/\xg a)/\r.2.1≠0/\r.2.2=t):=by
 obtain ⟨s,s1,s2⟩:=h.has ti;unfold iS
 refine (FQ N hN s1 k a).bind fun y hy=> ?_
 rcases hy with ⟨rfl,h1,h2⟩|⟨h1,h2⟩
 ·show Sat (Option.bind _ _) _
  refine (D8 N hN ti h k).bind fun z hz=> ?_
  rcases hz with ⟨rfl, -⟩|⟨n,z1,z2,z3⟩
  ·show Sat (Option.bind _ _) _;rw [Ky N s1,bs]
   refine aK (fun _=>by omega) fun _=> ?_
   refine (Kz N hN ti i [(⟨0,k,a,0⟩:Vq)] (fun x hx=>by rw [WL] at hx;subst hx;exact ⟨h1,h2⟩) l (by rw [WA];omega) hb h).bind fun r hr=>ad (.inl ⟨h1,h2,hr⟩)
  exact absurd J (hk _ (WJ z3))
 rw [Vz h1,nf,ct];exact ad (.inr ⟨h2,h1,J⟩)
theorem Nf (N:Nat)(hN:5000<=N)(ti:TI N t)(hb:t.XH.length+1024<=1073741824)(h:Row t i l)(hd:(l.map (·.1)).Nodup)(k:Vs)(a:Int)(n:Nat)(a0:Int)(hn:l[n]? =some (k,a0)):Sat (gh N t i k a) fun r=>(xg a/\JQ N t (l.set n (k,a)) 1024 r)\/(¬xg a/\r.2.1≠0/\r.2.2=t):=by
 obtain ⟨s,s1,s2⟩:=h.has ti;have hle:=h.le ti;have hlt:=(Wl.1 hn).1;unfold gh
 refine (FQ N hN s1 k a).bind fun y hy=> ?_
 rcases hy with ⟨rfl,h1,h2⟩|⟨h1,h2⟩
 ·show Sat (Option.bind _ _) _
  refine (D8 N hN ti h k).bind fun z hz=> ?_
  rcases hz with ⟨rfl,z1⟩|⟨n',z1,z2,z3⟩
  ·exact absurd J (z1 _ (WJ hn))
  have:n'=n:=by
   have g1:(l.map (·.1))[n']? =some k:=by rw [Wm,z3];rfl
   have g2:(l.map (·.1))[n]? =some k:=by rw [Wm,hn];rfl
   exact (List.getElem?_inj (by rw [Xr];exact (Wl.1 z3).1) hd).1 (g1.trans g2.symm)
  subst this;rw [z2];show Sat (Option.bind _ _) _
  refine (Hz N hN ti h).bind fun r hr=> ?_
  have e:r.length=l.length:=by rw [<-hr,Xr]
  rw [z1,VW];refine cQ ⟨by omega,by omega⟩ ?_
  refine rq U (by rw [Ww];omega) fun x hx=> ?_
  refine (Hc N hN ti h n' U).bind fun b hbf=> ?_
  have a6:ka x=(k,z.2.1):=by
   rw [show (0:Int).toNat=0 from rfl,Wi,Nat.add_zero] at hx
   have:(r.map ka)[n']? =some (ka x):=by rw [Wm,hx];rfl
   rw [hr,z3] at this;exact (Xe this).symm
  have hxk:x.XI=k:=congrArg Prod.fst a6
  have hm: ∀q∈List.set (List.drop n' r) ((0:Int).toNat) (⟨x.Up,(⟨x.XI.Xw,x.XI.N,x.XI.S⟩:Vs),a,x.XX⟩:Vq),RL N (ka q):=fun q hq=>by
   rcases List.mem_or_eq_of_mem_set hq with hq|rfl
   ·exact h.ok ti _ (by rw [<-hr];exact List.mem_map_of_mem (List.mem_of_mem_drop hq))
   exact ⟨by show CR N x.XI;rw [hxk];exact h1,h2⟩
  have e6:(List.set (List.drop n' r) ((0:Int).toNat) (⟨x.Up,(⟨x.XI.Xw,x.XI.N,x.XI.S⟩:Vs),a,x.XX⟩:Vq)).map ka=(l.drop n').set 0 (k,a):=by
   rw [show (0:Int).toNat=0 from rfl,List.map_set,List.map_drop,hr];show (l.drop n').set 0 (x.XI,a)=_;rw [hxk]
  refine (Kz N hN ti b _ hm (l.take n') (by rw [Wz,Ww,Xq];omega) hb hbf).bind fun q hq=>ad (.inl ⟨h2,?_⟩)
  rw [e6] at hq
  have e7:l.take n'++(l.drop n').set 0 (k,a)=l.set n' (k,a):=by
   rw [V3 hlt,List.set_cons_zero,List.set_eq_take_append_cons_drop,if_pos hlt]
  rw [e7] at hq;exact hq
 rw [Vz h1,nf,ct];exact ad (.inr ⟨fun h3=>h2 ⟨(h.ok ti _ (WJ hn)).1,h3⟩,h1,J⟩)
theorem JV (N:Nat)(hN:5000<=N)(ti:TI N t)(hb:t.XH.length+1024<=1073741824)(h:Row t i l)(hd:(l.map (·.1)).Nodup)(k:Vs)(n:Nat)(a0:Int)(hn:l[n]? =some (k,a0)):Sat (dW N t i k) (JQ N t (l.eraseIdx n) 1024):=by
 obtain ⟨s,s1,s2⟩:=h.has ti;have hle:=h.le ti;have hlt:=(Wl.1 hn).1;unfold dW
 refine (FQ N hN s1 k 0).bind fun y hy=> ?_
 rcases hy with ⟨rfl,h1,h2⟩|⟨h1,h2⟩
 ·show Sat (Option.bind _ _) _
  refine (D8 N hN ti h k).bind fun z hz=> ?_
  rcases hz with ⟨rfl,z1⟩|⟨n',z1,z2,z3⟩
  ·exact absurd J (z1 _ (WJ hn))
  have:n'=n:=by
   have g1:(l.map (·.1))[n']? =some k:=by rw [Wm,z3];rfl
   have g2:(l.map (·.1))[n]? =some k:=by rw [Wm,hn];rfl
   exact (List.getElem?_inj (by rw [Xr];exact (Wl.1 z3).1) hd).1 (g1.trans g2.symm)
  subst this;rw [z2,z1];show Sat (Option.bind _ _) _
  refine (Hc N hN ti h n' U).bind fun b hbf=> ?_
  refine (Hz N hN ti h).bind fun r hr=> ?_
  have e:r.length=l.length:=by rw [<-hr,Xr]
  have e8:((n':Int)+1).toNat=n'+1:=by omega
  refine cQ (by constructor<;>omega) (cQ ⟨by omega,by omega,W4 _⟩ ?_);rw [e8];have e6:((r.drop (n'+1)).take (r.length - (n'+1)))=r.drop (n'+1):=WT (by rw [Ww];omega);rw [e6]
  refine (Kz N hN ti b _ (fun q hq=>h.ok ti _ (by rw [<-hr];exact List.mem_map_of_mem (List.mem_of_mem_drop hq))) (l.take n') (by rw [Ww,Xq];omega) hb hbf).bind fun q hq=>ad ?_
  rw [List.map_drop,hr, <-List.eraseIdx_eq_take_drop_succ] at hq;exact hq
 exact absurd ⟨(h.ok ti _ (WJ hn)).1,by decide,by decide,by decide⟩ h2
section
variable (N:Nat)(hN:20000<=N)(n:Nat)(hn:n<=6000)
include hN hn
section
variable (a q b:Int)(h0:0<=a)(h1:a<q)(h2:q<b)(h3:b<=n)
include h0 h1 h2 h3
end
end
end
section
open Go.RowKit
def K0 (c:Vd):Nat:=1+c.Xy.length
def ws (l:List Vd):Nat:=bz K0 l
theorem Gk (l:List Vd):wt l=ws l+mS l:=by
 rw [xj];unfold ws mS;rw [<-AP];rfl
theorem xq (g:α->Nat): ∀{l:List α} {x:α},x∈l->g x<=bz g l
 |a::l,x,h=>by
  rw [bz];rcases WF.1 h with rfl|h
  ·omega
  have:=xq g h;omega
theorem JU: ∀l:List Vd,l.length<=ws l
 | []=>Xa _
 |c::l=>by
  have:=JU l;show l.length+1<=K0 c+ws l;unfold K0;omega
theorem Cn (g:α->Nat)(x:α): ∀(l:List α) (i:Nat) (h:i<l.length),bz g (l.set i x)+g l[i]=bz g l+g x
 |a::l,0,_=>by simp only [List.set_cons_zero,bz,List.getElem_cons_zero];omega
 |a::l,i+1,h=>by
  have:=Cn g x l i (by simpa using h);simp only [List.set_cons_succ,bz,List.getElem_cons_succ];omega
theorem IH (g:Vd->Nat){a:Int}(ha:aw m a=true)(c:Vd):bz g (xw m a c).XA+bz g (xw m a c).Xz+g (aJ m a)=bz g m.XA+bz g m.Xz+g c:=by
 unfold xw;rcases fq ha with ⟨i,hi,rfl⟩|⟨i,hi,rfl⟩
 ·rw [Vy U,cond_true,show (2*(i:Int)+1) / 2=i by omega,vS m i hi];have:=Cn g c m.XA i hi;show bz g (m.XA.set i c)+bz g m.Xz+_=_;omega
 rw [Vz U,cond_false,show (2*(i:Int)+2) / 2 - 1=i by omega,rM m i hi];have:=Cn g c m.Xz i hi;show bz g m.XA+bz g (m.Xz.set i c)+_=_;omega
structure Hb (k M:Nat) (g:Vv):Prop where
 hw:ws g.m_.XA+ws g.m_.Xz<=k
 hm:mS g.m_.XA+mS g.m_.Xz<=M
 hr:g.XJ.length<=30
theorem Hb.up {k' M':Nat}(h:Hb k M g)(hk:k<=k')(hM:M<=M'):Hb k' M' g:=⟨W5 h.hw hk,W5 h.hm hM,h.hr⟩
theorem Hb.cell (h:Hb k M g)(hc:c∈g.m_.XA++g.m_.Xz):1+c.Xy.length<=k/\c.Xx.length<=M:=by
 have h1:=h.hw;have h2:=h.hm;unfold ws at h1;unfold mS at h2;rcases WE.1 hc with hc|hc
 ·have a:=xq K0 hc;have b:=xq (fun c:Vd=>c.Xx.length) hc;unfold K0 at a h1;exact ⟨by omega,by omega⟩
 have a:=xq K0 hc;have b:=xq (fun c:Vd=>c.Xx.length) hc;unfold K0 at a h1;exact ⟨by omega,by omega⟩
theorem RX (hk:k<=580)(hM:M<=2200)(s:Hb k M g)(hp:g.XP=[])(w64:W64 g.m_)(r64:∀v∈g.XJ,in64 v.N)(n1:(g.XO.at_.map Prod.fst).Nodup)(n2:∀x∈g.XO.at_.map Prod.fst, ∃i:Nat,i<g.m_.Xz.length/\x=2*(i:Int)+2):HB g:=by
 have h1:=s.hw;have h2:=s.hm;have h3:=s.hr;have h4:=JU g.m_.XA;have h5:=JU g.m_.Xz;have h6:=Gk g.m_.XA;have h7:=Gk g.m_.Xz
 have hl:(g.XJ++g.XP).length=g.XJ.length:=by rw [hp,VZ]
 exact ⟨⟨by omega,by omega,by omega,fun c hc=>by have:=s.cell hc;omega⟩,⟨by omega,by omega⟩,by rw [HQ];omega,by omega,w64,by rw [hp,VZ];exact r64,n1,n2⟩
def Ph (m:Ve)(c:Vd):Prop:= ∀v∈c.Xy++c.Xx,in64 v.N/\(bd v=true->aw m v.N=true)
theorem Pl.refs (h:Pl g)(hc:c∈g.m_.XA++g.m_.Xz):Ph g.m_ c:=fun v hv=>⟨h.hb.w64 c hc v hv,fun hb=>(h.cells c hc).2.1 _ (Cf hv hb)⟩
theorem Lf (s:Hb k M g){a:Int}(ha:aw g.m_ a=true){k' M':Nat}(h1:k+c.Xy.length<=k'+(aJ g.m_ a).Xy.length)(h2:M+c.Xx.length<=M'+(aJ g.m_ a).Xx.length):Hb k' M' (ic g a c):=by
 obtain ⟨f1,f2, -, -⟩:=xO g a c;have e1:=IH K0 ha (Bf c (aJ g.m_ a).XC);have e2:=IH (fun c:Vd=>c.Xx.length) ha (Bf c (aJ g.m_ a).XC);have s1:=s.hw;have s2:=s.hm;unfold ws at s1;unfold mS at s2;refine ⟨?_,?_,by rw [f2];exact s.hr⟩
 ·rw [f1];unfold ws;have:K0 (Bf c (aJ g.m_ a).XC)=1+c.Xy.length:=rfl;have:K0 (aJ g.m_ a)=1+(aJ g.m_ a).Xy.length:=rfl;omega
 rw [f1];unfold mS;have:(Bf c (aJ g.m_ a).XC).Xx.length=c.Xx.length:=rfl;omega
theorem Pl.putK (hk:k<=580)(hM:M<=2200)(h:Pl g){a:Int}(ha:aw g.m_ a=true)(hr:bm c=true)(hkd:c.Xw≠8/\c.Xw≠10)(hc:Ph g.m_ c)(b:Hb k M (ic g a c)):
  Pl (ic g a c)/\(∀x,aw (ic g a c).m_ x=aw g.m_ x)/\(∀x,aw g.m_ x=true->aJ (ic g a c).m_ x=if x=a then Bf c (aJ g.m_ a).XC else aJ g.m_ x):=by
 obtain ⟨f1,f2,f3,f4⟩:=xO g a c;obtain ⟨s1,s2,s3,s4,s5, -⟩:=O7 (Bf c (aJ g.m_ a).XC) ha;have hage:=Mg (h.cells _ (mK ha)).1;have hr':bm (Bf c (aJ g.m_ a).XC)=true:=Kj hr hage.1 hage.2
 have hhas: ∀x,aw (ic g a c).m_ x=aw g.m_ x:=fun x=>by rw [f1];exact s1 x
 have hmem: ∀d∈(ic g a c).m_.XA++(ic g a c).m_.Xz,d∈g.m_.XA++g.m_.Xz\/d=Bf c (aJ g.m_ a).XC:=fun d hd=>by rw [f1] at hd;exact s5 d hd
 have nd:((ic g a c).XO.at_.map Prod.fst).Nodup:=by
  rw [f4];cases decide (a%2=1)
  ·exact N3 h.hb.nd _ _
  exact h.hb.nd
 have keys: ∀x∈(ic g a c).XO.at_.map Prod.fst, ∃i:Nat,i<(ic g a c).m_.Xz.length/\x=2*(i:Int)+2:=fun x hx=>by
  rw [f1,s4];rw [f4] at hx
  cases hd:decide (a%2=1) with
  |true=>rw [hd] at hx;exact h.hb.keys x hx
  | false=>
   rw [hd] at hx;rcases (GJ h.hb.nd _ _ x).1 hx with ⟨-,hx|rfl⟩|⟨-,hx, -⟩
   ·exact h.hb.keys x hx
   ·rcases fq ha with ⟨j,hj,rfl⟩|⟨j,hj,rfl⟩
    ·rw [Vy U] at hd;cases hd
    exact ⟨j,hj,J⟩
   exact h.hb.keys x hx
 have hp:(ic g a c).XP=[]:=f3.trans h.pend
 have w64:W64 (ic g a c).m_:=fun d hd=>by
  rcases hmem d hd with hd|rfl
  ·exact h.hb.w64 d hd
  exact fun v hv=>(hc v hv).1
 refine ⟨⟨RX hk hM b hp w64 (fun v hv=> ?_) nd keys,hp,fun d hd=> ?_,fun x hx=> ?_,Ml h.set h.hb.nd ha c nd⟩,hhas,fun x hx=>by rw [f1];exact s2 x hx⟩
 ·rw [f2] at hv;exact h.hb.r64 v (VC _ hv)
 ·rcases hmem d hd with hd|rfl
  ·exact ⟨(h.cells d hd).1,fun x hx=>(hhas x).trans ((h.cells d hd).2.1 x hx),(h.cells d hd).2.2⟩
  refine ⟨hr',fun x hx=> ?_,hkd⟩;obtain ⟨v,hv,hb,rfl⟩:=zk hx;exact (hhas _).trans ((hc v hv).2 hb)
 rw [f2] at hx;exact (hhas x).trans (h.roots x hx)
def DR (g:Vv)(c:Vd):Vv:=⟨⟨g.m_.XA++ [c],g.m_.Xz⟩,g.XJ,g.XP,g.XO⟩
def xV (g:Vv):Int:=2*(g.m_.XA.length:Int)+1
theorem MA (g:Vv):aw g.m_ (xV g)=false:=by
 unfold xV;rw [AA];exact Vz U
theorem Q0 (s:Hb k M g)(c:Vd){k' M':Nat}(h1:k+1+c.Xy.length<=k')(h2:M+c.Xx.length<=M'):Hb k' M' (DR g c):=by
 have s1:=s.hw;have s2:=s.hm;refine ⟨?_,?_,s.hr⟩
 ·show ws (g.m_.XA++ [c])+_<=k';unfold ws at s1⊢;rw [ts];simp only [bz];have:K0 c=1+c.Xy.length:=rfl;show bz K0 g.m_.XA+(K0 c+0)+bz K0 g.m_.Xz<=k';omega
 show mS (g.m_.XA++ [c])+_<=M';unfold mS at s2⊢;rw [ts];simp only [bz];show _+(c.Xx.length+0)+bz _ g.m_.Xz<=M';omega
theorem Pl.addK (hk:k<=580)(hM:M<=2200)(p:Pl g)(hr:bm c=true)(hkd:c.Xw≠8/\c.Xw≠10)(hc:Ph g.m_ c)(s:Hb k M (DR g c)):
  Pl (DR g c)/\(∀x,aw g.m_ x=true->aw (DR g c).m_ x=true/\aJ (DR g c).m_ x=aJ g.m_ x)/\aw (DR g c).m_ (xV g)=true/\aJ (DR g c).m_ (xV g)=c:=by
 obtain ⟨a1,a2,a3⟩:=O9 (m:=g.m_) c
 have hmem: ∀d∈(DR g c).m_.XA++(DR g c).m_.Xz,d∈g.m_.XA++g.m_.Xz\/d=c:=fun d hd=>by
  have hd:d∈(g.m_.XA++ [c])++g.m_.Xz:=hd;simp only [WE,WF,List.not_mem_nil,or_false] at hd⊢;rcases hd with (hd|hd)|hd
  ·exact .inl (.inl hd)
  ·exact .inr hd
  exact .inl (.inr hd)
 have hset:iF g.XO.at_=ln ⟨g.m_.XA++ [c],g.m_.Xz⟩:=by rw [Ol];exact p.set
 have hW:W64 (DR g c).m_:=fun d hd=>by
  rcases hmem d hd with hd|rfl
  ·exact p.hb.w64 d hd
  exact fun v hv=>(hc v hv).1
 refine ⟨⟨RX hk hM s p.pend hW (fun v hv=>p.hb.r64 v (VC _ hv)) p.hb.nd p.hb.keys,p.pend,fun d hd=> ?_,fun x hx=>(a1 x (p.roots x hx)).1,hset⟩,a1,a2,a3⟩;rcases hmem d hd with hd|rfl
 ·exact ⟨(p.cells d hd).1,fun x hx=>(a1 _ ((p.cells d hd).2.1 x hx)).1,(p.cells d hd).2.2⟩
 refine ⟨hr,fun x hx=> ?_,hkd⟩;obtain ⟨v,hv,hb,rfl⟩:=zk hx;exact (a1 _ ((hc v hv).2 hb)).1
end
end Go.Proofs.YthhiddkljcacaaaGreat