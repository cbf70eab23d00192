/- Merged texts: part 8. No conditions of their own. -/
import Derived.Test.YtmimkglhbmcokaaGreatG7
import Derived.Test.YtmimkglhbmcokaaGreatG3
namespace Go.Proofs.YtmimkglhbmcokaaGreat
open Go.RowKit
structure Tq (m:Gx) (all:List Int):Prop where
 nd:all.Nodup
 has: ∀x∈all,ci m x=true
theorem Tq.len {m:Gx}{roots:List Gu}(hs:Small m roots){all:List Int}(h:Tq m all):all.length≤1200:=tD 1200 h.nd fun x hx=>⟨by have:=me (h.has x hx);omega,by have:=qD hs (h.has x hx);omega⟩
theorem Tq.in64 {m:Gx}{roots:List Gu}(hs:Small m roots){all:List Int}(h:Tq m all){x:Int}(hx:x∈all):in64 x:=by
 have h1:=me (h.has x hx);have h2:=qD hs (h.has x hx);unfold Go.Proofs.YtmimkglhbmcokaaGreat.in64;omega
theorem Tq.lay {m:Gx}{all:List Int}(h:Tq m all)(l:List Int):Tq m (gb (ci m) all l):=⟨i7 l h.nd,fun x hx=>(qB hx).elim (h.has x) (·.1)⟩
theorem sU (N:Nat){m:Gx}{roots:List Gu}(hN:5000<N)(hs:Small m roots)(l:List Int)(hl:l.length≤2000)(h64: ∀x∈l,in64 x){all:List Int}(ht:Tq m all):ia N m all l=some (gb (ci m) all l):=by
 apply Sat.eq;unfold ia;refine cm (fun k i (s:List Int)=>f4 N l m k s (i:Int)) l.length (fun i s=>Tq m s∧s=gb (ci m) all (l.take i)) _ ?_ ?_ N 0 all Y Y ⟨ht,J⟩
 ·rintro k i s hi ⟨h0,h1⟩ go;show Sat (f4 N l m (k+1) s (i:Int)) _;have hx64:=h64 l[i] (List.getElem_mem _);have hsl:=h0.len hs
  have hnext:gb (ci m) all (l.take (i+1))=(bif ci m l[i]&& !decide (l[i]∈s) then s++ [l[i]] else s):=by
   rw [aY hi,qA, ←h1];rfl
  have hT:Tq m (gb (ci m) all (l.take (i+1))):=ht.lay _;rw [f4.eq_2,cN Y,ct];simp only [bj hi,bs,wl N m _ hx64,Fw N hN s Y l[i]];unfold lf;cases hh:ci m l[i]
  ·simp only [cf,bs];rw [di Y Y];exact go s ⟨h0,by rw [hnext,hh];rfl⟩
  simp only [ct,bs];by_cases hm:l[i]∈s
  ·rw [GB hm];simp only [nt,cf];rw [di Y Y];exact go s ⟨h0,by rw [hnext,hh,GB hm];rfl⟩
  have e:gb (ci m) all (l.take (i+1))=s++ [l[i]]:=by rw [hnext,hh,GC hm];rfl
  rw [GC hm];simp only [nf,ct];rw [rF (by simp;omega),di Y Y];exact go (s++ [l[i]]) ⟨e▸hT,e.symm⟩
 rintro k s ⟨h0,h1⟩;show Sat (f4 N l m (k+1) s _) _;rw [f4.eq_2,cU Y,cf];exact aK (by simpa using h1)
theorem Ap (N:Nat)(hN:5000<N)(l:List Gu)(hl:l.length≤2000):dG N l=some (bF l):=by
 apply Sat.eq;unfold dG;refine cm (fun k i (s:List Int)=>cV N l k s (i:Int)) l.length (fun i s=>s=bF (l.take i)) _ ?_ ?_ N 0 [] Y Y J
 ·rintro k i s hi h1 go;show Sat (cV N l (k+1) s (i:Int)) _
  have hsl:s.length≤2000:=by
   rw [h1];unfold bF;rw [List.length_map];exact Nat.le_trans (List.length_filter_le _ _) (by rw [List.length_take];omega)
  have hnext:bF (l.take (i+1))=s++bF [l[i]]:=by rw [aY hi,rt,h1]
  rw [cV.eq_2,cN Y,ct];simp only [bj hi,bs,md];unfold gg;cases hb:cH l[i]
  ·simp only [cf];rw [di Y Y];exact go s (by rw [hnext];simp [bF,hb])
  simp only [ct];rw [rF (by simp;omega),di Y Y];exact go (s++ [l[i].N]) (by rw [hnext];simp [bF,hb])
 rintro k s h1;show Sat (cV N l (k+1) s _) _;rw [cV.eq_2,cU Y,cf];exact aK (by simpa using h1)
theorem qb (N:Nat)(hN:5000<N){m:Gx}{roots:List Gu}(hs:Small m roots)(hw:W64 m){all:List Int}(ht:Tq m all)(k:Nat)(hk:k≤all.length):
  Sat (dU N m all (k:Int)) fun r=>Tq m r∧Thr (uh N m) all k r:=by
 unfold dU;refine jC (fun f (s:List Int×Nat)=>f0 N m f s.1 (s.2:Int)) (fun s=>1300 - s.2) (fun s=>Tq m s.1∧s.2≤s.1.length∧ ∀r,Thr (uh N m) s.1 s.2 r→Thr (uh N m) all k r) _ ?_ N (all,k) (by show 1300 - k<N;omega) ⟨ht,hk,fun _ h=>h⟩;rintro f ⟨al,j⟩ ⟨h1,h3,h4⟩ go;show Sat (f0 N m (f+1) al (j:Int)) _;simp only at h1 h3 h4;have hlen:=h1.len hs;rw [f0.eq_2];by_cases hj:j<al.length
 ·have hx:=List.getElem_mem hj;have hsm:=hs.at_ al[j];obtain ⟨hl1,hl2⟩:=xx hs hw al[j];rw [cN Y,ct,bj hj,bs,yY N m _ (h1.in64 hs hx),bs,rg N Y _ Y Y,bs,sU N hN hs _ hl1 hl2 h1,bs,di Y Y]
  have hge:al.length≤(gb (ci m) al (ei (el m al[j]))).length:=by
   obtain ⟨t,e, -⟩:=iJ (ci m) al (ei (el m al[j]));rw [e,List.length_append];omega
  exact go (gb (ci m) al (ei (el m al[j])),j+1) (by show 1300 - (j+1)<1300 - j;omega) ⟨h1.lay _,by show j+1≤(gb (ci m) al (ei (el m al[j]))).length;omega,fun r hr=>h4 r (.step (List.getElem?_eq_getElem hj) hr)⟩
 have:j=al.length:=by omega
 subst this;rw [cU Y,cf];exact aK ⟨h1,h4 _ (.done (Nat.le_refl _))⟩
theorem yj (N:Nat)(hN:5000<N){m:Gx}{roots:List Gu}(hs:Small m roots)(hw:W64 m)(hr: ∀v∈roots,in64 v.N):
  ∃b all,IsOrder (uh N m) (bF roots) b all∧f5 N m roots=some all∧((dG N roots).bind fun y5=>(ia N m ([]:List Int) y5).bind fun y8=>dU N m y8 0)=some b:=by
 have hrl:=hs.roots;have ha:=Ap N hN roots Y
 have h64: ∀x∈bF roots,in64 x:=fun x hx=>by
  obtain ⟨v,h1, -,rfl⟩:=rq.1 hx;exact hr v h1
 have hal:(bF roots).length≤2000:=by
  unfold bF;rw [List.length_map];exact Nat.le_trans (List.length_filter_le _ _) Y
 have hT0:Tq m []:=⟨List.nodup_nil,by simp⟩;have hlay:=sU N hN hs (bF roots) hal h64 hT0;obtain ⟨b,b0,b1,b2⟩:=qb N hN hs hw (hT0.lay (bF roots)) 0 (Nat.zero_le _);have b0':dU N m (gb (ci m) [] (bF roots)) 0=some b:=b0
 have key:Sat (f5 N m roots) fun all=>Ord (uh N m) b all:=by
  unfold f5;rw [ha,bs,hlay,bs,b0',bs];refine jC (fun f (s:List Int)=>cX N m f s) (fun s=>1300 - s.length) (fun s=>Tq m s∧ ∀r,Ord (uh N m) s r→Ord (uh N m) b r) _ ?_ N b (by show 1300 - b.length<N;omega) ⟨b1,fun _ h=>h⟩;rintro f al ⟨h4,h5⟩ go;show Sat (cX N m (f+1) al) _;have hlen:=h4.len hs;rw [cX.eq_2];refine cm (fun k i (s:List Int)=>fK N (cX N m f) al m k s (i:Int)) al.length (fun i s=>Tq m s∧(∃t,s=al++t)∧s=iU (uh N m) al (al.take i)) _ ?_ ?_ N 0 al Y Y ⟨h4,⟨[],by simp⟩,J⟩
  ·rintro k i s hi ⟨h0,⟨t,h1⟩,h2⟩ go2;show Sat (fK N (cX N m f) al m (k+1) s (i:Int)) _;have hsl:=h0.len hs
   have hg:aH s (i:Int)=some al[i]:=by
    rw [eE,h1,List.getElem?_append_left hi,List.getElem?_eq_getElem hi]
   have hx:=List.getElem_mem hi;have hsm:=hs.at_ al[i];obtain ⟨hl1,hl2⟩:=xl N hs hw al[i] s
   have hnext:iU (uh N m) al (al.take (i+1))=gb (ci m) s (fR N (el m al[i]) s):=by
    rw [aY hi,rb, ←h2];rfl
   rw [fK.eq_2,cN Y,ct,hg,bs,yY N m _ (h4.in64 hs hx),bs,Ax N hN s Y _ Y Y,bs,sU N hN hs _ hl1 hl2 h0,bs,di Y Y];obtain ⟨t',e', -⟩:=iJ (ci m) s (fR N (el m al[i]) s);exact go2 _ ⟨h0.lay _,⟨t++t',by rw [e',h1,GE]⟩,hnext.symm⟩
  rintro k s ⟨h0,⟨t,h1⟩,h2⟩;show Sat (fK N (cX N m f) al m (k+1) s _) _;have hsl:=h0.len hs;simp only [List.take_length] at h2;rw [fK.eq_2,cU Y,cf];unfold lD
  refine cG (fun he=> ?_) fun hne=> ?_
  ·have h6:t=[]:=List.eq_nil_of_length_eq_zero (by rw [h1,List.length_append] at he;omega)
   have h7:s=al:=by rw [h1,h6,List.append_nil]
   exact aK (by rw [h7] at h2⊢;exact h5 _ (.done h2.symm))
  have hle:al.length≤s.length:=by rw [h1,List.length_append];omega
  refine Sat.bind (qb N hN hs hw h0 al.length hle) fun r ⟨r1,r2⟩=> ?_
  obtain ⟨t3,e3⟩:=r2.app;have hl3:=r1.len hs;refine go r ?_ ⟨r1,fun r' hr'=>h5 r' (.step ?_ (by rw [←h2];exact r2) hr')⟩
  ·show 1300 - r.length<1300 - al.length
   have:s.length≤r.length:=by rw [e3,List.length_append];omega
   omega
  rw [←h2];intro e;rw [e] at hne;omega
 obtain ⟨all,k1,k2⟩:=key;exact ⟨b,all,⟨b2,k2⟩,k1,by rw [ha,bs,hlay,bs];exact b0'⟩
theorem uI: ∀{s:List Int} {k:Nat} (h:k+1<s.length),((s.set (k+1) (s[k]'Y)).set k s[k+1]).Perm s
 |a::b::r,0,_=>List.Perm.swap a b r
 |a::r,k+1,h=>by
  have ih:=uI (s:=r) (k:=k) (by simpa using h);simp only [List.set_cons_succ,List.getElem_cons_succ];exact ih.cons a
def FH (s:List Int)(i k:Nat):Prop:= ∀a b:Nat,a<b→b≤i→b≠k→s.getD a 0≤s.getD b 0
theorem qE (s:List Int)(i j:Nat)(x:Int)(hi:i<s.length):(s.set i x).getD j 0=if j=i then x else s.getD j 0:=by
 by_cases e:j=i
 ·subst e;simp [List.getD,hi]
 rw [if_neg e];simp only [List.getD];rw [List.getElem?_set_ne (fun h=>e h.symm)]
theorem oD (s:List Int)(i:Nat)(hi:i<s.length):s.getD i 0=s[i]:=by simp [List.getD,hi]
theorem yk (N:Nat)(hN:5000<N)(l:List Int)(hl:l.length≤2000)(hn:l.Nodup):iv N l=some (fi l):=by
 apply Sat.eq;unfold iv;rw [rF (by simp;omega),List.nil_append]
 have fin: ∀s:List Int,s.Perm l→FH s (l.length - 1) l.length→s=fi l:=fun s hp hi=>by
  have hlen:=hp.length_eq;have hnd:s.Nodup:=hp.nodup_iff.2 hn;refine (sR hn (List.pairwise_iff_getElem.2 fun a b ha hb hab=> ?_) fun x=>(hp.mem_iff).symm).symm;have h1:=hi a b hab Y Y;rw [oD s a ha,oD s b hb] at h1;have h2:=List.pairwise_iff_getElem.1 (List.nodup_iff_pairwise_ne.1 hnd) a b ha hb hab;omega
 by_cases h0:l.length=0
 ·have e:l=[]:=List.eq_nil_of_length_eq_zero h0;subst e;obtain ⟨n,rfl⟩: ∃n,N=n+1:=⟨N - 1,by omega⟩;rw [cL.eq_2,cU (by simp),cf];exact aK (by unfold fi;simp)
 refine cm (fun k i (s:List Int)=>cL N k s (i:Int)) l.length (fun i s=>s.Perm l∧FH s (i - 1) l.length) _ ?_ ?_ N 1 l Y Y ⟨List.Perm.refl _,fun a b h1 h2=>absurd h2 Y⟩
 ·rintro f i s hi ⟨h1,h2⟩ go;show Sat (cL N (f+1) s (i:Int)) _;have hlen:=h1.length_eq;rw [cL.eq_2,hlen,cN Y,ct]
  have hi0:i≤l.length:=by omega
  refine jC (fun k (st:List Int×Nat)=>f3 N (cL N f) (i:Int) k st.1 (st.2:Int)) (fun st=>st.2) (fun st=>st.1.Perm l∧st.2≤i∧FH st.1 i st.2) _ ?_ N (s,i) (by show i<N;omega) ⟨h1,Nat.le_refl _,fun a b q1 q2 q3=>h2 a b q1 (by show b≤i - 1;simp only at q3;omega) Y⟩;rintro k ⟨t,j⟩ ⟨g1,g2,g3⟩ go2;simp only at g1 g2 g3;show Sat (f3 N (cL N f) (i:Int) (k+1) t (j:Int)) _;have hlt:=g1.length_eq
  have stop:(j=0∨t.getD (j - 1) 0≤t.getD j 0)→Sat (iu N (cL N f) (i:Int) t) (· =fi l):=fun hst=>by
   unfold iu;rw [di Y Y];refine go t ⟨g1,fun a b q1 q2 q3=> ?_⟩
   have q2':b≤i:=by omega
   by_cases e:b=j
   ·subst e;rcases hst with h|h
    ·omega
    by_cases e2:a=b - 1
    ·subst e2;exact h
    have:=g3 a (b - 1) Y Y Y;omega
   exact g3 a b q1 q2' e
  rw [f3.eq_2];by_cases hj:0<j
  ·have hp:aH t ((j:Int) - 1)=some (t[j - 1]'Y):=by
    have:=bj (xs:=t) (i:=j - 1) Y;rw [show (((j - 1:Nat)):Int)=(j:Int) - 1 by omega] at this;exact this
   have hq:aH t (j:Int)=some (t[j]'Y):=bj Y;rw [cN Y,ct,di Y Y,hp,bs,hq,bs,bs];by_cases hc:t[j]'Y<t[j - 1]'Y
   ·rw [cN hc,ct,bs,di (a:=(j:Int) - 1) Y Y,bs,bs,di (a:=(j:Int) - 1) Y Y]
    have hs2:aH (List.set t (j:Int).toNat (t[j - 1]'Y)) ((j:Int) - 1)=some ((List.set t (j:Int).toNat (t[j - 1]'Y))[j - 1]'(by simp;omega)):=by
     have:=bj (xs:=List.set t (j:Int).toNat (t[j - 1]'Y)) (i:=j - 1) (by simp;omega);rw [show (((j - 1:Nat)):Int)=(j:Int) - 1 by omega] at this;exact this
    rw [hs2,bs,di (a:=(j:Int) - 1) Y Y,Int.toNat_natCast,show ((j:Int) - 1).toNat=j - 1 by omega,show (j:Int) - 1=((j - 1:Nat):Int) by omega];obtain ⟨q,rfl⟩: ∃q,j=q+1:=⟨j - 1,by omega⟩;simp only [Nat.add_sub_cancel] at*;refine go2 ((t.set (q+1) (t[q]'Y)).set q (t[q+1]'Y),q) (by show q<q+1;omega) ⟨(uI Y).trans g1,by show q≤i;omega,fun a b q1 q2 q3=> ?_⟩;have q3':b≠q:=q3;have hqa:=oD t q Y;have hqb:=oD t (q+1) Y;show ((t.set (q+1) (t[q]'Y)).set q (t[q+1]'Y)).getD a 0≤((t.set (q+1) (t[q]'Y)).set q (t[q+1]'Y)).getD b 0;rw [qE _ q _ _ (by simp;omega),qE _ q _ _ (by simp;omega),qE t (q+1) _ _ Y,qE t (q+1) _ _ Y,if_neg q3'];by_cases b1:b=q+1
    ·rw [if_pos b1];by_cases a1:a=q
     ·rw [if_pos a1];omega
     rw [if_neg a1,if_neg Y, ←hqa];exact g3 a q Y Y Y
    rw [if_neg b1];by_cases a1:a=q
    ·rw [if_pos a1, ←hqb];exact g3 (q+1) b Y q2 b1
    rw [if_neg a1];by_cases a2:a=q+1
    ·rw [if_pos a2, ←hqa];exact g3 q b Y q2 b1
    rw [if_neg a2];exact g3 a b q1 q2 b1
   rw [cU Y,cf];refine stop (.inr ?_);rw [oD t (j - 1) Y,oD t j Y];omega
  rw [cU Y,cf,bs,cf];exact stop (.inl Y)
 rintro f s ⟨h1,h2⟩;show Sat (cL N (f+1) s _) _;rw [cL.eq_2,h1.length_eq,cU Y,cf];unfold lC;exact aK (fin s h1 h2)
abbrev wL {ρ:Type}(m:Option ρ):Prop:=Sat m fun _=>True
theorem bi {ρ:Type}(x:ρ):wL (some x):=aK trivial
theorem fT {ρ:Type}{b:Bool}{x y:Option ρ}(hx:b=true→wL x)(hy:b=false→wL y):wL (bif b then x else y):=ku hx hy
theorem qt (N:Nat)(v:Gu)(a b:Int):wL (dZ N v a b):=by
 unfold dZ
 refine Sat.bind (P:=fun _=>True) (fT (fun _=>bi _) fun _=>bi _) fun x _=>Sat.bind (P:=fun _=>True) (fT (fun _=>bi _) fun _=>bi _) fun y _=>bi _
theorem nR (N:Nat)(v:Gu)(a:Int):wL (dp N v a):=by
 unfold dp
 exact Sat.bind (P:=fun _=>True) (fT (fun _=>bi _) fun _=>bi _) fun x _=>bi _
theorem om {c:Bool}{m:Option Bool}(h:c=true→wL m):wL (bif c then m else some false):=fT h fun _=>bi _
theorem nu {l:List Gu}{i:Nat}{f:Gu→Option Bool}(hi:i<l.length)(h: ∀v,wL (f v)):wL ((aH l (i:Int)).bind f):=by
 rw [bj hi,bs];exact h _
theorem db {m:Option Bool}{f:Bool→Option Bool}(h:wL m)(k: ∀b,wL (f b)):wL (m.bind f):=Sat.bind h fun b _=>k b
theorem ki {m:Option Bool}{p:Prop}{f:Bool→Option Bool}(h:Sat m fun b=>b=true→p)(k: ∀b,(b=true→p)→wL (f b)):wL (m.bind f):=Sat.bind h k
theorem Al (N:Nat)(c:Gw):wL (fj N c):=by
 unfold fj
 have hp:wL (f9 N c.Kind):=by
  unfold f9
  iterate 6 refine db (fT (fun _=>bi _) fun _=>bi _) fun _=> ?_
  exact bi _
 refine db hp fun y=>db (fT (fun _=>bi _) fun _=>db (fT (fun _=>bi _) fun _=>bi _) fun _=>bi _) fun b=> ?_
 refine fT (fun _=> ?_) fun _=> ?_
 ·refine ki (p:=0<c.Slots.length) (cG (fun h=>aK fun _=>by omega) fun _=>aK fun h=>by cases h) fun b hb=>db (om fun h=> ?_) fun _=>bi _
  have h0:=hb h
  refine nu (i:=0) h0 fun v=>db (fT (fun _=>bi _) fun _=>nu (i:=0) h0 fun _=>bi _) fun _=>bi _
 refine fT (fun _=>bi _) fun _=>db (fT (fun _=>bi _) fun _=>bi _) fun _=>fT (fun _=>bi _) fun _=>ku (fun _=> ?_) fun _=>bi _
 refine ki (p:=1<c.Slots.length) (cG (fun h=> ?_) fun _=>aK fun h=>by cases h) fun b hb=>db (om fun h=> ?_) fun _=>bi _
 ·rw [show ((0:Int))=((0:Nat):Int) from rfl,bj Y,bs];obtain ⟨x,hx, -⟩:=nR N c.Slots[0] 7
  rw [hx,bs];exact aK fun _=>by omega
 refine nu (i:=1) (hb h) fun v=>db (nR N v 7) fun _=>bi _
theorem yX {l:List Gu}{i:Nat}{m:Gu→Option Bool}(hi:i<l.length)(h: ∀v,wL (m v)){p:Prop}(hp:p):Sat ((aH l (i:Int)).bind fun x=>(m x).bind fun y=>some y) fun b=>b=true→p:=by
 rw [bj hi,bs];obtain ⟨x,hx, -⟩:=h l[i]
 rw [hx,bs];exact aK fun _=>hp
def pT (c:Gw):Prop:=(c.Kind=8→c.More.length%2=0)∧(c.Kind=10→1≤c.More.length∧(c.More.length - 1)%4=0)
theorem BH (N:Nat)(hN:2000<N)(c:Gw)(hc:c.More.length≤1000):Sat (f8 N c) fun b=>b=true→pT c:=by
 have j6: ∀p,(p=true→c.Kind=1∨c.Kind=5)→Sat (f7 N c p) fun b=>b=true→pT c:=by
  intro p hp
  have other: ∀{m:Option Bool},c.Kind≠8→c.Kind≠10→wL m→Sat m fun b=>b=true→pT c:=fun h8 h10 h=>h.mono fun _ _ _=>⟨fun e=>absurd e h8,fun e=>absurd e h10⟩
  unfold f7
  refine ku (fun h=>other (by rcases hp h with e|e<;>omega) (by rcases hp h with e|e<;>omega) (bi _)) fun _=> ?_
  refine cG (fun hk=>other Y Y ?_) fun _=> ?_
  ·refine ki (p:=1<c.More.length) (cG (fun h=>yX (i:=0) Y (fun v=>qt N v _ _) Y) fun _=>aK fun h=>by cases h) fun b hb=>db (om fun h=>nu (i:=1) (hb h) fun v=>db (nR N v 9) fun _=>bi _) fun _=>bi _
  refine cG (fun hk=>other Y Y ?_) fun _=> ?_
  ·refine ki (p:=0<c.More.length) (cG (fun h=>aK fun _=>by omega) fun _=>aK fun h=>by cases h) fun b hb=>db (om fun h=>nu (i:=0) (hb h) fun v=>db (nR N v 9) fun _=>bi _) fun _=>bi _
  refine cG (fun hk=>other Y Y ?_) fun _=> ?_
  ·refine ki (p:=1<c.More.length) (cG (fun h=>yX (i:=0) Y (fun v=>qt N v _ _) Y) fun _=>aK fun h=>by cases h) fun b hb=>db (om fun h=>nu (i:=1) (hb h) fun v=>db (nR N v 9) fun _=>bi _) fun _=>bi _
  refine cG (fun hk=>other Y Y ?_) fun _=> ?_
  ·refine ki (p:=3<c.More.length) (cG (fun h=>yX (i:=2) Y (fun v=>qt N v _ _) Y) fun _=>aK fun h=>by cases h) fun b hb=>db (om fun h=>nu (i:=3) (hb h) fun v=>db (qt N v _ _) fun _=>bi _) fun _=>bi _
  refine cG (fun hk=> ?_) fun hk8=> ?_
  ·obtain ⟨b, -,h2,h3⟩:=kM N hN 2 (.inl rfl) c.More hc;have h2':cY N c.More 2=some b:=h2;rw [h2',bs]
   exact aK fun hb=>⟨fun _=>h3 hb,fun e=>absurd e Y⟩
  refine cG (fun hk=> ?_) fun hk10=> ?_
  ·refine Sat.bind (P:=fun b=>b=true→1≤c.More.length) (cG (fun h=> ?_) fun _=>aK fun h=>by cases h) fun b hb=> ?_
   ·rw [show ((0:Int))=((0:Nat):Int) from rfl,bj Y,bs];exact aK fun _=>by omega
   refine Sat.bind (P:=fun b=>b=true→pT c) (ku (fun h=> ?_) fun _=>aK fun h=>by cases h) fun b' hb'=>aK hb'
   have h1:=hb h;rw [sy ⟨by omega,by show (1:Int).toNat≤_;exact h1,Nat.le_refl _⟩]
   have hl:((c.More.drop ((1:Int).toNat)).take (c.More.length - (1:Int).toNat)).length=c.More.length - 1:=by
    rw [List.length_take,List.length_drop];show min (c.More.length - 1) (c.More.length - 1)=_;omega
   obtain ⟨b2, -,h2,h3⟩:=kM N hN 4 (.inr rfl) ((c.More.drop ((1:Int).toNat)).take (c.More.length - (1:Int).toNat)) (by rw [hl];omega);have h2':cY N ((c.More.drop ((1:Int).toNat)).take (c.More.length - (1:Int).toNat)) 4=some b2:=h2;rw [h2',bs]
   exact aK fun hb2=>⟨fun e=>absurd e Y,fun _=>⟨h1,by have:=h3 hb2;rw [hl] at this;exact this⟩⟩
  refine cG (fun hk=>other Y Y ?_) fun _=>other hk8 hk10 (bi _)
  refine db ?_ fun _=>bi _
  exact fT (fun h=>nu (i:=0) (by have:=of_decide_eq_true h;omega) fun v=>db (qt N v _ _) fun _=>bi _) fun _=>bi _
 unfold f8
 refine cG (fun _=>aK fun h=>by cases h) fun _=>cG (fun hk=>aK fun _=>⟨fun e=>absurd e Y,fun e=>absurd e Y⟩) fun _=>cG (fun hk=>j6 _ fun _=> .inl hk) fun _=>j6 _ fun h=> .inr (of_decide_eq_true h)
theorem ot (N:Nat)(hN:2000<N)(c:Gw)(hS:c.Slots.length≤1000)(hc:c.More.length≤1000):Sat (bP N c) fun b=>b=true→pT c:=by
 obtain ⟨b1,g1, -⟩:=kY N hN c hS hc N 0 Y Y;have g1':eK N c N 0=(bif b1 then cq N c else some false):=g1
 have hj:Sat (cq N c) fun b=>b=true→pT c:=by
  unfold cq
  refine Sat.bind (Al N c) fun y _=> ?_
  refine Sat.bind (P:=fun b=>b=true→pT c) (ku (fun _=>Sat.bind (BH N hN c hc) fun _ h=>aK h) fun _=>aK fun h=>by cases h) fun _ h=>aK h
 unfold bP;rw [g1']
 iterate 6 refine Sat.bind (P:=fun _=>True) (fT (fun _=>bi _) fun _=>bi _) fun _ _=> ?_
 refine ku (fun _=>aK fun h=>by cases h) fun _=>ku (fun _=>hj) fun _=>aK fun h=>by cases h
theorem vc {α ρ:Type}(L:Nat→Int→Option ρ)(l:List α)(p:α→Bool)(bad k:Option ρ)
  (step: ∀m (i:Nat) (h:i<l.length),L (m+1) (i:Int)=bif p l[i] then L m ((i:Int)+1) else bad)
  (fin: ∀m,L (m+1) (l.length:Int)=k) (N:Nat) (hN:l.length<N):L N 0=bif l.all p then k else bad:=by
 have key: ∀m i:Nat,l.length<m+i→i≤l.length→L m (i:Int)=bif (l.drop i).all p then k else bad:=by
  intro m
  induction m with
  |zero=>intro i h1 h2;omega
  | succ m ih=>
   intro i h1 h2;by_cases hi:i<l.length
   ·rw [step m i hi,List.drop_eq_getElem_cons hi,List.all_cons];have h3:=ih (i+1) Y hi;rw [show (((i+1:Nat)):Int)=(i:Int)+1 by omega] at h3;rw [h3];cases p l[i]<;>rfl
   have e:i=l.length:=by omega
   subst e;rw [fin,List.drop_length];rfl
 have:=key N 0 Y Y;simpa using this
theorem BK {α ρ:Type}[DecidableEq α](L:Nat→Int→Option ρ)(a b:List α)(bad k:Option ρ)(hl:a.length=b.length)
  (step: ∀m (i:Nat) (h:i<a.length) (h':i<b.length),L (m+1) (i:Int)=bif decide (a[i]=b[i]) then L m ((i:Int)+1) else bad)
  (fin: ∀m,L (m+1) (a.length:Int)=k) (N:Nat) (hN:a.length<N):L N 0=bif decide (a=b) then k else bad:=by
 have key: ∀m i:Nat,a.length<m+i→i≤a.length→L m (i:Int)=bif decide (a.drop i=b.drop i) then k else bad:=by
  intro m
  induction m with
  |zero=>intro i h1 h2;omega
  | succ m ih=>
   intro i h1 h2;by_cases hi:i<a.length
   ·have hi':i<b.length:=by omega
    rw [step m i hi hi',List.drop_eq_getElem_cons hi,List.drop_eq_getElem_cons hi'];have h3:=ih (i+1) Y hi;rw [show (((i+1:Nat)):Int)=(i:Int)+1 by omega] at h3;rw [h3];by_cases e:a[i]=b[i]
    ·rw [GB e,cond_true,e];by_cases e2:a.drop (i+1)=b.drop (i+1)
     ·rw [GB e2,e2,GB rfl]
     rw [GC e2,GC (fun h=>e2 (List.cons.inj h).2)]
    rw [GC e,GC (fun h=>e (List.cons.inj h).1)];rfl
   have e:i=a.length:=by omega
   subst e;rw [fin,List.drop_length,hl,List.drop_length,GB rfl];rfl
 have:=key N 0 Y Y;simpa using this
theorem ws {α:Type}[DecidableEq α](L:Nat→Int→Option Bool)(a b:List α)
  (step:a.length=b.length→ ∀m (i:Nat) (h:i<a.length) (h':i<b.length),L (m+1) (i:Int)=bif decide (a[i]=b[i]) then L m ((i:Int)+1) else some false)
  (fin: ∀m,L (m+1) (a.length:Int)=some true) (N:Nat) (hN:a.length<N):(bif !decide ((a.length:Int)=(b.length:Int)) then some false else L N 0)=some (decide (a=b)):=by
 by_cases hl:a.length=b.length
 ·rw [GB (p:=((a.length:Int)=(b.length:Int))) Y,nt,cf,BK L a b (some false) (some true) hl (step hl) fin N hN];cases decide (a=b)<;>rfl
 rw [GC (p:=((a.length:Int)=(b.length:Int))) Y,nf,ct,GC (fun e=>hl (by rw [e]))]
def CJ {α β:Type}[DecidableEq α](a:α)(b:β):List (α×β)→List (α×β)
 | []=> [(a,b)]
 |p::l=>if p.1=a then (a,b)::l else p::CJ a b l
theorem CK {α β:Type}[DecidableEq α](L:List (α×β))(a:α)(b:β):uf L a b=CJ a b L:=by
 have key: ∀(L:List (α×β)) (j:Nat),(∃i c,fp a L j=some (i,c)∧j≤i∧L.set (i - j) (a,b)=CJ a b L)∨(fp a L j=none∧L++ [(a,b)]=CJ a b L):=by
  intro L
  induction L with
  |nil=>intro j;exact .inr ⟨J,J⟩
  | cons p l ih=>
   intro j;obtain ⟨x,y⟩:=p;by_cases e:a=x
   ·refine .inl ⟨j,y,by simp [fp,e],Nat.le_refl _,?_⟩;rw [Nat.sub_self];simp [CJ,e]
   have e': ¬x=a:=fun h=>e h.symm
   rcases ih (j+1) with ⟨i,c,h1,h2,h3⟩|⟨h1,h2⟩
   ·refine .inl ⟨i,c,by simp [fp,e,h1],by omega,?_⟩;rw [show i - j=(i - (j+1))+1 by omega,List.set_cons_succ,h3];simp [CJ,e']
   exact .inr ⟨by simp [fp,e,h1],by simp [CJ,e',h2]⟩
 unfold uf;rcases key L 0 with ⟨i,c,h1, -,h3⟩|⟨h1,h2⟩
 ·rw [h1];exact h3
 rw [h1];exact h2
theorem qx {α β:Type}[DecidableEq α](p:α×β)(l:List (α×β))(x:α):lk (p::l) x=if p.1=x then some p.2 else lk l x:=by
 unfold lk;rw [List.find?_cons];by_cases e:p.1=x<;>simp [e]
theorem D5 {α β:Type}[DecidableEq α](L:List (α×β))(a:α)(b:β)(x:α):lk (uf L a b) x=if a=x then some b else lk L x:=by
 rw [CK]
 induction L with
 |nil=>rw [CJ,qx]
 | cons p l ih=>
  unfold CJ;by_cases e:p.1=a
  ·rw [if_pos e,qx,qx,e];by_cases e2:a=x<;>simp [e2]
  rw [if_neg e,qx,qx,ih];by_cases e2:p.1=x
  ·rw [if_pos e2,if_pos e2,if_neg (fun h=>e (by rw [e2,h]))]
  rw [if_neg e2,if_neg e2]
def ij (c:Gw):List Int:=pick (fun i v=>gy c.Kind i&&cH v) 0 c.More
theorem wO (N:Nat)(hN:2000<N)(c:Gw)(hS:c.Slots.length≤1000)(hc:c.More.length≤1000):gM N c=some (ij c):=by
 unfold gM ij;rw [oc N hN false c hS hc,bs]
 have e1:(fun (_:Nat) (v:Gu)=>(true==false)&&cH v)=fun _ _=>false:=by funext i v;rfl
 have e2:(fun (i:Nat) (v:Gu)=>(fU c.Kind i==false)&&cH v)=fun i v=>gy c.Kind i&&cH v:=by funext i v;rw [rB];cases gy c.Kind i<;>rfl
 rw [e1,e2,uU,List.nil_append]
theorem kV (c:Gw):(ij c).length≤c.More.length:=qq _ 0 c.More
theorem wP {c:Gw}{x:Int}(h:x∈ij c): ∃v∈c.Slots++c.More,v.N=x:=by
 obtain ⟨v,h1,h2⟩:=qp h;exact ⟨v,GG _ h1,h2⟩
theorem ye (N:Nat)(hN:2000<N)(c:Gw)(hc:c.More.length≤1000):iC N c=some (ij c):=by
 apply Sat.eq;unfold iC ij;refine cm (fun m i s=>dV N c m s (i:Int)) c.More.length (fun i t=>t++pick (fun i v=>gy c.Kind i&&cH v) i (c.More.drop i)=pick (fun i v=>gy c.Kind i&&cH v) 0 c.More∧t.length≤i) _ ?_ ?_ N 0 [] Y Y ⟨by simp,by simp⟩
 ·rintro m i s hi ⟨h1,h2⟩ k;show Sat (dV N c (m+1) s i) _;rw [List.drop_eq_getElem_cons hi,i4] at h1;rw [dV.eq_2,cN Y,ct,bj hi,bs,jX,bs,uG _ _ _ Y];unfold iB;simp only [bs];rw [di (a:=(i:Int)+1) Y Y];cases hh:cH c.More[i]<;>cases hw:gy c.Kind i<;>simp only [hh,hw,Bool.and_true,Bool.and_false,Bool.and_self,ct,cf,bs,List.nil_append] at h1⊢
  ·rw [di Y Y];exact k s ⟨h1,by omega⟩
  ·rw [di Y Y];exact k s ⟨h1,by omega⟩
  ·rw [di Y Y];exact k s ⟨h1,by omega⟩
  rw [rF (by simp;omega)];exact k _ ⟨by rw [GE];exact h1,by simp;omega⟩
 rintro m s ⟨h1,h2⟩;show Sat (dV N c (m+1) s _) _;rw [List.drop_length] at h1;rw [dV.eq_2,cU Y,cf];exact aK (by rw [←h1];simp [pick])
theorem Ek (N:Nat)(a b:List Int)(ha:a.length<N)(ha2:a.length≤5000):ck N a b=some (decide (a=b)):=by
 unfold ck;refine ws _ a b (fun hl m i h h'=> ?_) (fun m=> ?_) N ha
 ·rw [nI.eq_2,cN Y,ct,bj h,bs,bj h',bs,di Y Y];cases decide (a[i]=b[i])<;>rfl
 rw [nI.eq_2,cU Y,cf];rfl
theorem Bj (N:Nat)(a b:List Gu)(ha:a.length<N)(ha2:a.length≤5000):bM N a b=some (decide (a=b)):=by
 unfold bM;refine ws _ a b (fun hl m i h h'=> ?_) (fun m=> ?_) N ha
 ·rw [iD.eq_2,cN Y,ct,bj h,bs,bj h',bs,di Y Y];cases decide (a[i]=b[i])<;>rfl
 rw [iD.eq_2,cU Y,cf];rfl
theorem Di (a b:Gw):decide (a=b)=(decide (a.Kind=b.Kind)&&decide (a.Shape=b.Shape)&&decide (a.Flags=b.Flags)&&decide (a.Age=b.Age)&&decide (a.Slots=b.Slots)&&decide (a.More=b.More)):=by
 obtain ⟨a1,a2,a3,a4,a5,a6⟩:=a;obtain ⟨b1,b2,b3,b4,b5,b6⟩:=b;rw [Bool.eq_iff_iff];simp only [Bool.and_eq_true,decide_eq_true_eq,Gw.mk.injEq,and_assoc]
theorem E2 (N:Nat)(a b:Gw)(h1:a.Slots.length<N)(h2:a.Slots.length≤5000)(h3:a.More.length<N)(h4:a.More.length≤5000):kE N a b=some (decide (a=b)):=by
 unfold kE;rw [Bj N a.Slots b.Slots h1 h2,Bj N a.More b.More h3 h4,Di];simp only [bs];cases decide (a.Kind=b.Kind)<;>cases decide (a.Shape=b.Shape)<;>cases decide (a.Flags=b.Flags)<;>cases decide (a.Age=b.Age)<;>cases decide (a.Slots=b.Slots)<;>cases decide (a.More=b.More)<;>rfl
theorem Dh (N:Nat)(a b:List Gw)(ha:a.length<N)(ha2:a.length≤5000)(hN:5000<N)(hc: ∀c∈a,c.Slots.length≤5000∧c.More.length≤5000):dv N a b=some (decide (a=b)):=by
 unfold dv;refine ws _ a b (fun hl m i h h'=> ?_) (fun m=> ?_) N ha
 ·have h1:=hc a[i] (List.getElem_mem _);rw [mx.eq_2,cN Y,ct,bj h,bs,bj h',bs,E2 N _ _ Y Y Y Y,bs,di Y Y];cases decide (a[i]=b[i])<;>rfl
 rw [mx.eq_2,cU Y,cf];rfl
def ii (m:Gx)(l:List Int):Bool:=l.all (ci m)
def D6 (N:Nat)(m:Gx)(c:Gw):Bool:=(bP N c).getD false&&(ii m (ei c)&&ii m (ij c))
def Fs (N:Nat)(m:Gx)(roots:List Gu):Bool:=m.Young.all (D6 N m)&&(m.Old.all (D6 N m)&&ii m (bF roots))
theorem uF {m:Gx}{roots:List Gu}(hs:Small m roots)(hw:W64 m){c:Gw}(hc:c∈m.Young++m.Old):((ei c).length≤1200∧ ∀x∈ei c,in64 x)∧(ij c).length≤1200∧ ∀x∈ij c,in64 x:=by
 have h1:=hs.cells c hc;have h2:=kI c;have h3:=kV c;refine ⟨⟨by omega,fun x hx=> ?_⟩,by omega,fun x hx=> ?_⟩
 ·obtain ⟨v,h4,rfl⟩:=tL hx;exact hw c hc v h4
 obtain ⟨v,h4,rfl⟩:=wP hx;exact hw c hc v h4
structure Bnd (B:Nat) (m:Gx) (roots:List Gu):Prop where
 young:m.Young.length≤B
 old:m.Old.length≤B
 roots:roots.length≤B
 cells: ∀c∈m.Young++m.Old,c.Slots.length≤B∧c.More.length≤B
def wt:List Gw→Nat
 | []=>0
 |c::l=>1+c.Slots.length+c.More.length+wt l
theorem po: ∀a b:List Gw,wt (a++b)=wt a+wt b
 | [],b=>by simp [wt]
 |c::a,b=>by rw [List.cons_append,wt,wt,po a b];omega
theorem sK: ∀l:List Gw,l.length≤wt l
 | []=>Nat.le_refl _
 |c::l=>by have:=sK l;rw [wt,List.length_cons];omega
theorem yd: ∀{l:List Gw} {c:Gw},c∈l→1+c.Slots.length+c.More.length≤wt l
 |d::l,c,h=>by
  rw [wt];rcases List.mem_cons.1 h with rfl|h
  ·omega
  have:=yd h;omega
theorem vF {l:List Gw}{i:Nat}(h:i<l.length):wt (l.take (i+1))=wt (l.take i)+(1+l[i].Slots.length+l[i].More.length):=by
 rw [aY h,po];simp [wt]
def W6 (m:Gx)(roots:List Gu):Prop:=roots.length+wt m.Young+wt m.Old≤600
structure Wtd (m:Gx) (roots:List Gu):Prop where
 le:roots.length+wt m.Young+wt m.Old≤2400
 cnt:m.Young.length+m.Old.length≤600
theorem W6.wtd {m:Gx}{roots:List Gu}(h:W6 m roots):Wtd m roots:=by
 have h1:roots.length+wt m.Young+wt m.Old≤600:=h;have h2:=sK m.Young;have h3:=sK m.Old;exact ⟨by omega,by omega⟩
theorem W6.small {m:Gx}{roots:List Gu}(h:W6 m roots):Small m roots:=by
 have h1:roots.length+wt m.Young+wt m.Old≤600:=h;have h2:=sK m.Young;have h3:=sK m.Old;refine ⟨by omega,by omega,by omega,fun c hc=> ?_⟩;rcases List.mem_append.1 hc with hc|hc
 ·have:=yd hc;omega
 have:=yd hc;omega
theorem Db (N:Nat)(hN:5000<N){m:Gx}{roots:List Gu}(hb:Bnd 140737488355328 m roots):Sat (gh N m roots) fun b=>b=true→W6 m roots:=by
 have hy:=hb.young;have ho:=hb.old;have hr:=hb.roots
 have old: ∀p:Nat,p≤300000000000000→(p≤600→p=roots.length+wt m.Young)→Sat (mw N m (p:Int)) fun b=>b=true→W6 m roots:=by
  intro p hp hY;unfold mw;refine jC (fun f (s:Nat×Nat)=>jv N m f (s.1:Int) (s.2:Int)) (fun s=>700 - s.1) (fun s=>s.1≤300000000000000∧s.2≤m.Old.length∧(s.1≤600→s.1=roots.length+wt m.Young+wt (m.Old.take s.2))) _ ?_ N (p,0) (by show 700 - p<N;omega) ⟨hp,Nat.zero_le _,fun h=>by have:=hY h;simp [wt];omega⟩;rintro f ⟨p,i⟩ ⟨h1,h2,h3⟩ go;show Sat (jv N m (f+1) (p:Int) (i:Int)) _;simp only at h1 h2 h3;rw [jv.eq_2]
  have fin:(i=m.Old.length∨600<p)→Sat (nJ N (p:Int)) fun b=>b=true→W6 m roots:=fun hh=>aK fun hb2=>by
   have hp6:(p:Int)≤600:=of_decide_eq_true hb2;have h4:=h3 Y
   have hi:i=m.Old.length:=by omega
   subst hi;rw [List.take_length] at h4;exact (show roots.length+wt m.Young+wt m.Old≤600 by omega)
  by_cases hi:i<m.Old.length
  ·rw [cN Y,ct,bs]
   refine cG (fun h6=> ?_) fun h6=>fin (.inr Y)
   have hc:=hb.cells m.Old[i] (by simp);rw [di (a:=(p:Int)+1) Y Y,bj hi,bs,di (a:=(p:Int)+1+(m.Old[i].Slots.length:Int)) Y Y,bs,di (a:=(p:Int)+1+(m.Old[i].Slots.length:Int)+(m.Old[i].More.length:Int)) Y Y,di (a:=(i:Int)+1) Y Y]
   have hg:=go (p+1+m.Old[i].Slots.length+m.Old[i].More.length,i+1) (by show 700 - (p+1+m.Old[i].Slots.length+m.Old[i].More.length)<700 - p;omega) ⟨by show p+1+m.Old[i].Slots.length+m.Old[i].More.length≤300000000000000;omega,hi,fun h7=>by
    simp only at h7⊢;have:=h3 Y
    rw [vF hi];omega⟩
   simpa using hg
  rw [cU Y,cf,bs,cf];exact fin (.inl Y)
 unfold gh;refine jC (fun f (s:Nat×Nat)=>kC N m f (s.1:Int) (s.2:Int)) (fun s=>700 - s.1) (fun s=>s.1≤300000000000000∧s.2≤m.Young.length∧(s.1≤600→s.1=roots.length+wt (m.Young.take s.2))) _ ?_ N (roots.length,0) (by show 700 - roots.length<N;omega) ⟨by show roots.length≤300000000000000;omega,Nat.zero_le _,fun h=>by simp [wt]⟩;rintro f ⟨p,i⟩ ⟨h1,h2,h3⟩ go;show Sat (kC N m (f+1) (p:Int) (i:Int)) _;simp only at h1 h2 h3;rw [kC.eq_2];by_cases hi:i<m.Young.length
 ·rw [cN Y,ct,bs]
  refine cG (fun h6=> ?_) fun h6=>old p h1 fun h7=>absurd h7 Y
  have hc:=hb.cells m.Young[i] (by simp);rw [di (a:=(p:Int)+1) Y Y,bj hi,bs,di (a:=(p:Int)+1+(m.Young[i].Slots.length:Int)) Y Y,bs,di (a:=(p:Int)+1+(m.Young[i].Slots.length:Int)+(m.Young[i].More.length:Int)) Y Y,di (a:=(i:Int)+1) Y Y]
  have hg:=go (p+1+m.Young[i].Slots.length+m.Young[i].More.length,i+1) (by show 700 - (p+1+m.Young[i].Slots.length+m.Young[i].More.length)<700 - p;omega) ⟨by show p+1+m.Young[i].Slots.length+m.Young[i].More.length≤300000000000000;omega,hi,fun h7=>by
   simp only at h7⊢;have:=h3 Y
   rw [vF hi];omega⟩
  simpa using hg
 rw [cU Y,cf,bs,cf]
 have hie:i=m.Young.length:=by omega
 subst hie
 refine old p h1 fun h7=> ?_
 have:=h3 h7;rw [List.take_length] at this;exact this
def jc (p:Int→Bool):List Gu→List Gu
 |k::v::r=>(bif p k.N then [k,v] else [])++jc p r
 |_=> []
theorem tY (p:Int→Bool): ∀l:List Gu,(jc p l).length≤l.length
 | []=>by simp [jc]
 | [_]=>by simp [jc]
 |k::v::r=>by
  have:=tY p r;unfold jc;cases p k.N<;>simp<;>omega
def jO (N:Nat)(l:List Int)(c:Gw):Gw:=bif lI N c then ⟨c.Kind,c.Shape,c.Flags,c.Age,c.Slots,jc (fun x=>decide (x∈l)) c.More⟩ else c
theorem AE (N:Nat)(hN:5000<N)(l:List Int)(hl:l.length≤5000)(y:Gw)(k v:Gu)(s:List Gu)(hs:s.length≤5000):bW (fun x st=>eI N (fun x=>ep N x l) y x st) (k,v) (none,s)=some (true,(none,s++(bif decide (k.N∈l) then [k,v] else []))):=by
 unfold bW eI ep;simp only [bs,pk N hN l hl];cases decide (k.N∈l)
 ·simp only [cf,List.append_nil];rfl
 simp only [ct];rw [rF (by simp;omega)];rfl
theorem ve (N:Nat)(hN:5000<N)(l:List Int)(hl:l.length≤5000)(y c:Gw)(hc:c.More.length≤1000)(he:c.More.length%2=0): ∀(m i:Nat) (s:List Gu),c.More.length<m+i→i≤c.More.length→i%2=0→s.length≤i→cT N (bW (fun x st=>eI N (fun x=>ep N x l) y x st)) c m (i:Int) (none,s)=some (none,s++jc (fun x=>decide (x∈l)) (c.More.drop i))
 |0,i,s,h,h2,_,_=>by omega
 | m+1,i,s,h,h2,h3,h4=>by
  rw [cT.eq_2,di (a:=(i:Int)+1) Y Y];by_cases hi:i<c.More.length
  ·have hi1:i+1<c.More.length:=by omega
   have hl1:aH c.More ((i:Int)+1)=some c.More[i+1]:=by
    have:=bj hi1;simpa using this
   rw [cN Y,ct,bj hi,bs,di (a:=(i:Int)+1) Y Y,hl1,bs,AE N hN l hl y _ _ s Y,bs];simp only [nt,cf];rw [di Y Y]
   have hlen:(s++(bif decide (c.More[i].N∈l) then [c.More[i],c.More[i+1]] else [])).length≤i+2:=by
    cases decide (c.More[i].N∈l)<;>simp<;>omega
   have:=ve N hN l hl y c hc he m (i+2) _ Y Y Y hlen;simp only [Int.natCast_add,Int.cast_ofNat_Int] at this;rw [this,List.drop_eq_getElem_cons hi,List.drop_eq_getElem_cons hi1,GE];rfl
  rw [cU Y,cf,List.drop_eq_nil_of_le Y];simp [jc]
theorem yL (N:Nat)(hN:5000<N)(l:List Int)(hl:l.length≤5000)(c:Gw)(hS:c.Slots.length≤600)(hc:c.More.length≤600):ik N c l=some (bif lI N c then jO N l c else rx):=by
 obtain ⟨-,h1,h2⟩:=wj N Y c Y Y;unfold ik nq ex jO;rw [h1,bs];cases hw:lI N c
 ·rfl
 have e:fX N c=some ():=rfl;have:=ve N hN l hl c c Y (h2 hw) N 0 [] Y Y rfl (by simp);simp only [nt,cf,ct,e,bs,vy N c ⟨hS,hc⟩];have h3:cT N (bW (fun x st=>eI N (fun x=>ep N x l) c x st)) c N 0 (none,[])=some (none,[]++jc (fun x=>decide (x∈l)) (c.More.drop 0)):=this;rw [h3,bs];rfl
theorem yM (N:Nat)(l:List Int)(c:Gw):(jO N l c).Slots.length=c.Slots.length∧(jO N l c).More.length≤c.More.length:=by
 unfold jO;cases lI N c
 ·exact ⟨J,Nat.le_refl _⟩
 exact ⟨J,tY _ _⟩
def qC (N:Nat)(c:Gw):Bool:=decide (c.Kind=10)&&(bP N c).getD false
def Ec (N:Nat)(c:Gw):Gw:=bif qC N c then ⟨c.Kind,c.Shape,c.Flags,c.Age,c.Slots,c.More.take 1⟩ else c
def FV (N:Nat)(m:Gx):Gx:=⟨m.Young.map (Ec N),m.Old.map (Ec N)⟩
theorem Small.cell {m:Gx}{roots:List Gu}(hs:Small m roots){c:Gw}(h:c∈m.Young++m.Old):c.Slots.length≤600∧c.More.length≤600:=hs.cells c h
theorem rX (N:Nat)(hN:5000<N)(l:List Gw)(hl:l.length≤1000)(hc: ∀c∈l,c.Slots.length≤600∧c.More.length≤600):iw N l=some l:=by
 apply Sat.eq;unfold iw;refine cm (fun k i (s:List Gw)=>fJ N l k s (i:Int)) l.length (fun i s=>s=l.take i) _ ?_ ?_ N 0 [] Y Y (by simp)
 ·rintro k i s hi h1 go;subst h1;have hci:=hc l[i] (List.getElem_mem _);show Sat (fJ N l (k+1) (l.take i) (i:Int)) _;rw [fJ.eq_2,cN Y,ct,bj hi,bs];rw [rF (by simp;omega),rF (by simp;omega),rF (by simp;omega),di Y Y];refine go _ ?_;rw [aY hi];rfl
 rintro k s h1;subst h1;show Sat (fJ N l (k+1) _ _) _;rw [fJ.eq_2,cU Y,cf];exact aK (by simp)
theorem yJ (N:Nat)(hN:5000<N){m:Gx}{roots:List Gu}(hs:Small m roots):iy N m=some m:=by
 have h1:=hs.young;have h2:=hs.old;unfold iy;rw [rX N hN m.Young Y fun c hc=>hs.cell (GF _ hc),bs,rX N hN m.Old Y fun c hc=>hs.cell (GG _ hc),bs]
theorem zo {m:Gx}{roots:List Gu}(hs:Small m roots){x:Int}(h:ci m x=true):in64 x:=by
 have h2:=me h;have h3:=qD hs h;unfold in64;omega
def gY:Gu:=⟨0,0,⟨#[]⟩⟩
def jU (l:List Int):List Gu→List Gu
 |t::h::k::s::r=>(bif decide (t.N∈l) then [t,h,(bif decide (k.Kind=7)&& !decide (k.N∈l) then gY else k),s] else [])++jU l r
 |_=> []
def jR (l:List Int)(cb:Gu):List Gu→List Gu
 |t::h::_::s::r=>(bif decide (t.N∈l) then [] else [cb,h,s])++jR l cb r
 |_=> []
theorem yz (l:List Int)(t h k s:Gu)(r:List Gu):jU l (t::h::k::s::r)=(bif decide (t.N∈l) then [t,h,(bif decide (k.Kind=7)&& !decide (k.N∈l) then gY else k),s] else [])++jU l r:=Eq.trans rfl rfl
theorem yf (l:List Int)(cb t h k s:Gu)(r:List Gu):jR l cb (t::h::k::s::r)=(bif decide (t.N∈l) then [] else [cb,h,s])++jR l cb r:=Eq.trans rfl rfl
theorem BN (l:List Int)(cb:Gu): ∀xs:List Gu,(jU l xs).length+(jR l cb xs).length≤xs.length
 | []=>by simp [jU,jR]
 | [_]=>by simp [jU,jR]
 | [_,_]=>by simp [jU,jR]
 | [_,_,_]=>by simp [jU,jR]
 |t::h::k::s::r=>by
  have:=BN l cb r;unfold jU jR;cases decide (t.N∈l)<;>simp<;>omega
def pL (l:List Int)(c:Gw):Gw×List Gu:=(⟨c.Kind,c.Shape,c.Flags,c.Age,c.Slots,c.More.take 1++jU l (c.More.drop 1)⟩,jR l (c.More.headD gY) (c.More.drop 1))
theorem E9 {l:List Gu}(h:4≤l.length): ∃t a k s r,l=t::a::k::s::r:=by
 match l,h with
 |t::a::k::s::r,_=>exact ⟨t,a,k,s,r,rfl⟩
theorem xB (N:Nat)(hN:5000<N)(l:List Int)(p:List (Int×Bool))(hp: ∀x,(lk p x).getD false=decide (x∈l))(c y:Gw)(cb:Gu)(hcb:c.More[0]? =some cb)(hc:c.More.length≤1000): ∀(m i:Nat) (o t:List Gu),c.More.length<m+i→i≤c.More.length→(c.More.length - i)%4=0→o.length≤i→t.length≤i→dy N (bW (fun x st=>dq N c p y x st)) c m (i:Int) (none,(o,t))=some (none,(o++jU l (c.More.drop i),t++jR l cb (c.More.drop i)))
 |0,i,o,t,h,h2,_,_,_=>by omega
 | m +1,i,o,t,h,h2,h3,h4,h5=>by
  rw [dy.eq_2,di (a:=(i:Int)+4) Y Y];by_cases hi:i+4≤c.More.length
  ·obtain ⟨v1,v2,v3,v4,r,hd⟩:=E9 (l:=c.More.drop i) (by rw [List.length_drop];omega)
   have hd4:c.More.drop (i+4)=r:=by rw [←List.drop_drop,hd];rfl
   have hx:(c.More.drop (i:Int).toNat).take (((i:Int)+4).toNat - (i:Int).toNat)=[v1,v2,v3,v4]:=by
    rw [Int.toNat_natCast,show ((i:Int)+4).toNat - i=4 by omega,hd];rfl
   have h0:aH c.More 0=some cb:=by
    have:=eE c.More 0;rw [hcb] at this;exact this
   have e0:aH [v1,v2,v3,v4] 0=some v1:=rfl;have e1:aH [v1,v2,v3,v4] 1=some v2:=rfl;have e2:aH [v1,v2,v3,v4] 2=some v3:=rfl;have e3:aH [v1,v2,v3,v4] 3=some v4:=rfl;rw [C5 Y,ct,di Y Y,di Y Y,kx ⟨by omega,by omega,by omega,by omega⟩,hx]
   have hb:bW (fun x st=>dq N c p y x st) ((i:Int),[v1,v2,v3,v4]) (none,(o,t))=some (true,(none,(o++(bif decide (v1.N∈l) then [v1,v2,(bif decide (v3.Kind=7)&& !decide (v3.N∈l) then gY else v3),v4] else []),t++(bif decide (v1.N∈l) then [] else [cb,v2,v4])))):=by
    unfold bW dq;simp only [e0,e1,e2,e3,bs,hp,h0];unfold gp;simp only [e0,e1,e2,e3,bs];cases decide (v1.N∈l)
    ·simp only [nf,ct,cf,List.append_nil];rw [rF (by simp;omega)];rfl
    simp only [nt,ct,cf,List.append_nil];rw [rF (by simp;omega),rF (by simp;omega)];cases decide (v3.Kind=7)<;>cases decide (v3.N∈l)<;>rfl
   rw [hb,bs];simp only [nt,cf];rw [di Y Y];have:=xB N hN l p hp c y cb hcb hc m (i+4) (o++(bif decide (v1.N∈l) then [v1,v2,(bif decide (v3.Kind=7)&& !decide (v3.N∈l) then gY else v3),v4] else [])) (t++(bif decide (v1.N∈l) then [] else [cb,v2,v4])) Y hi Y (by cases decide (v1.N∈l)<;>simp<;>omega) (by cases decide (v1.N∈l)<;>simp<;>omega);rw [show (((i+4:Nat)):Int)=(i:Int)+4 by omega] at this;rw [this,hd4,hd,GE,GE];rfl
  rw [C6 Y,cf,List.drop_eq_nil_of_le Y];simp [jU,jR]
theorem zn (N:Nat)(hN:2000<N)(c:Gw)(hS:c.Slots.length≤1000)(hc:c.More.length≤1000):lr N c=some (qC N c)∧(qC N c=true→1≤c.More.length∧(c.More.length - 1)%4=0):=by
 obtain ⟨b,hb,hb2⟩:=ot N hN c hS hc;unfold lr qC;rw [sX N hN c hS hc,hb];refine ⟨by cases decide (c.Kind=10)<;>cases b<;>rfl,fun h=> ?_⟩;rw [Bool.and_eq_true,decide_eq_true_eq] at h;exact (hb2 h.2).2 h.1
theorem uz (N:Nat)(hN:5000<N)(l:List Int)(hl:l.length≤5000)(c:Gw)(hS:c.Slots.length≤600)(hc:c.More.length≤600):iK N c l=some (bif qC N c then pL l c else (rx,[])):=by
 obtain ⟨h1,h2⟩:=zn N Y c Y Y;unfold iK;rw [h1,bs];cases hw:qC N c
 ·rfl
 obtain ⟨g1,g2⟩:=h2 hw;simp only [nt,cf,ct]
 have hcb:c.More[0]? =some (c.More.headD gY):=by
  cases hm:c.More with
  |nil=>rw [hm] at g1;simp at g1
  |cons a r=>rfl
 apply Sat.eq;refine cm (fun k i (s:List (Int×Bool))=>d9 N l c k (i:Int) s) l.length (fun i s=> ∀x,(lk s x).getD false=decide (x∈l.take i)) _ ?_ ?_ N 0 [] Y Y (fun x=>by simp;rfl)
 ·intro k i s hi h3 go;show Sat (d9 N l c (k+1) (i:Int) s) _;rw [d9.eq_2,cN Y,ct,bj hi,bs,di Y Y]
  refine go _ fun x=> ?_
  rw [D5,aY hi];by_cases e:l[i]=x
  ·rw [if_pos e,GB (by simp [e])];rfl
  rw [if_neg e,h3 x];by_cases hm:x∈l.take i
  ·rw [GB hm,GB (GF _ hm)]
  rw [GC hm,GC (by simp only [List.mem_append,List.mem_singleton];exact fun h=>h.elim hm fun h=>e h.symm)]
 intro k s h3;show Sat (d9 N l c (k+1) _ s) _;rw [List.take_length] at h3;rw [d9.eq_2,cU Y,cf];unfold jb lK eT ja gv
 have h0:aH c.More 0=some (c.More.headD gY):=by
  have:=eE c.More 0;rw [hcb] at this;exact this
 rw [rF (by simp;omega),bs,h0,bs,bs,bs];have:=xB N hN l s h3 c ⟨c.Kind,c.Shape,c.Flags,c.Age,[]++c.Slots,[c.More.headD gY]⟩ _ hcb Y N 1 [c.More.headD gY] [] Y g1 g2 (by simp) (by simp);have this':dy N (bW (fun x st=>dq N c s ⟨c.Kind,c.Shape,c.Flags,c.Age,[]++c.Slots,[c.More.headD gY]⟩ x st)) c N 1 (none,([c.More.headD gY],[]))=_:=this;rw [this',bs];refine aK ?_
 have ht:c.More.take 1=[c.More.headD gY]:=by
  cases hm:c.More with
  |nil=>rw [hm] at g1;simp at g1
  |cons a r=>rfl
 unfold pL;rw [ht];rfl
def kL (a:Int):Bool:=decide (a.tmod 2=0)
def rd (a:Int):Bool:=decide (a.tmod 2=1)
def dR (live:List Int):List Int:=live.filter kL++live.filter rd
theorem oE {p:Int→Bool}: ∀{l:List Int} {i:Nat} (hi:i<l.length),p l[i]=true→(l.filter p)[((l.take i).filter p).length]? =some l[i]
 |x::l,0,hi,h=>by
  simp only [List.getElem_cons_zero] at h;simp [h]
 |x::l,i+1,hi,h=>by
  simp only [List.getElem_cons_succ] at h;have ih:=oE (l:=l) (i:=i) (by simpa using hi) h;rw [List.take_succ_cons]
  cases hx:p x with
  |true=>simp only [List.filter_cons,hx,if_true,List.length_cons,List.getElem?_cons_succ,List.getElem_cons_succ];exact ih
  |false=>simp only [List.filter_cons,hx,Bool.false_eq_true,if_false,List.getElem_cons_succ];exact ih
theorem xC {p:Int→Bool}{l:List Int}{i:Nat}(hi:i<l.length):((l.take (i+1)).filter p).length=((l.take i).filter p).length+(bif p l[i] then 1 else 0):=by
 rw [aY hi,List.filter_append,List.length_append];cases h:p l[i]<;>simp [h]
theorem tx (N:Nat){σ:Type}(φ:Int×Int→σ→Option (Option Exit×σ))(live:List Int)(hl:live.length≤2000)(hN:5000<N)(kb:Int→Int→Option Exit×σ→Option (Option Exit×σ))(b:Int)(p:Int→Bool)(hp: ∀a,p a=decide (a.tmod 2=b))(p6:Int)(h6:0≤p6∧p6≤2)(n0:Nat)(hn0:n0≤2000)
  (Inv:Nat→σ→Prop) (R:Option Exit×σ→Prop)
  (hstep: ∀i (hi:i<live.length) s,p live[i]=true→Inv (n0+((live.take i).filter p).length) s→Sat (φ (((n0+((live.take i).filter p).length:Nat):Int),live[i]) s) fun r=>r.1=none∧Inv (n0+((live.take i).filter p).length+1) r.2)
  (hk: ∀s,Inv (n0+(live.filter p).length) s→Sat (kb ((n0+(live.filter p).length:Nat):Int) (p6+1) (none,s)) R) (s:σ) (hs:Inv n0 s):Sat (bS N kb (bW φ) b p6 live N (n0:Int) 0 (none,s)) R:=by
 have hfl: ∀i,((live.take i).filter p).length≤2000:=fun i=>Nat.le_trans (List.length_filter_le _ _) (by rw [List.length_take];omega)
 refine cm (fun k i (st:Nat×σ)=>bS N kb (bW φ) b p6 live k (st.1:Int) (i:Int) (none,st.2)) live.length (fun i st=>st.1=n0+((live.take i).filter p).length∧Inv st.1 st.2) _ ?_ ?_ N 0 (n0,s) Y Y ⟨by simp,hs⟩
 ·rintro k i ⟨n,st⟩ hi ⟨h1,h2⟩ go;simp only at h1 h2;have hb:=hfl i;show Sat (bS N kb (bW φ) b p6 live (k+1) (n:Int) (i:Int) (none,st)) _;have hnx:=xC (p:=p) hi;rw [bS.eq_2,cN Y,ct,bj hi,bs, ←hp];unfold fw;rw [di (a:=(i:Int)+1) Y Y];cases hq:p live[i]
  ·simp only [nf,ct];rw [hq] at hnx;have hg:=go (n,st) ⟨by show n=_;rw [hnx];exact h1,h2⟩
   first|rw [di (a:=(i:Int)+1) Y Y]|skip
   exact hg
  simp only [nt,cf];rw [hq] at hnx;obtain ⟨⟨e,s'⟩,g1,g2,g3⟩:=hstep i hi st hq (by rw [←h1];exact h2);simp only at g2 g3;subst g2
  have hf:bW φ ((n:Int),live[i]) (none,st)=some (true,(none,s')):=by
   unfold bW;simp only;rw [h1,g1];rfl
  rw [hf,bs];simp only [nt,cf];rw [di (a:=(n:Int)+1) Y Y];have hg:=go (n+1,s') ⟨by show n+1=_;rw [hnx];show n+1=_+(_+1);omega,by show Inv (n+1) s';rw [h1];exact g3⟩
  first|rw [di (a:=(i:Int)+1) Y Y]|skip
  exact hg
 rintro k ⟨n,st⟩ ⟨h1,h2⟩;simp only [List.take_length] at h1 h2;show Sat (bS N kb (bW φ) b p6 live (k+1) (n:Int) _ (none,st)) _;rw [bS.eq_2,cU Y,cf];unfold iF;rw [di Y Y,h1];exact hk st (by rw [←h1];exact h2)
theorem pF (N:Nat){σ:Type}(φ:Int×Int→σ→Option (Option Exit×σ))(live:List Int)(hl:live.length≤2000)(hN:5000<N)
  (Inv:Nat→σ→Prop) (hstep: ∀n a s,(dR live)[n]? =some a→Inv n s→Sat (φ ((n:Int),a) s) fun r=>r.1=none∧Inv (n+1) r.2) (s:σ) (hs:Inv 0 s):Sat (d7 N live (bW φ) (none,s)) fun r=>r.1=none∧Inv (dR live).length r.2:=by
 obtain ⟨k,rfl⟩: ∃k,N=k+3:=⟨N - 3,by omega⟩;have hev:(live.filter kL).length≤2000:=Nat.le_trans (List.length_filter_le _ _) hl;unfold d7;rw [df.eq_2,show ((([0,1]:List Int).length:Int))=2 from rfl,cN Y,ct,show aH ([0,1]:List Int) 0=some 0 from rfl,bs];refine tx (k+3) φ live hl Y _ 0 kL (fun _=>J) 0 Y 0 Y Inv _ (fun i hi st hp hi2=> ?_) (fun st hst=> ?_) s hs
 ·refine hstep _ _ _ ?_ hi2;unfold dR;rw [List.getElem?_append_left]
  ·rw [Nat.zero_add];exact oE hi hp
  have:=(List.getElem?_eq_some_iff.1 (oE hi hp)).1;omega
 rw [df.eq_2,show ((([0,1]:List Int).length:Int))=2 from rfl,cN Y,ct,show aH ([0,1]:List Int) (0+1)=some 1 from rfl,bs];refine tx (k+3) φ live hl Y _ 1 rd (fun _=>J) (0+1) Y (0+(live.filter kL).length) Y Inv _ (fun i hi st hp hi2=> ?_) (fun st hst=> ?_) st hst
 ·refine hstep _ _ _ ?_ hi2;unfold dR;rw [List.getElem?_append_right Y,show 0+(live.filter kL).length+((live.take i).filter rd).length - (live.filter kL).length=((live.take i).filter rd).length by omega];exact oE hi hp
 rw [df.eq_2,show ((([0,1]:List Int).length:Int))=2 from rfl,cU Y,cf];refine aK ⟨J,?_⟩;unfold dR;rw [List.length_append]
 have e:0+(live.filter kL).length+(live.filter rd).length=(live.filter kL).length+(live.filter rd).length:=by omega
 rw [←e];exact hst
theorem xh (N:Nat)(hN:5000<N){m:Gx}{roots:List Gu}{live:List Int}(hlive:cv N m roots=some live)(hl:live.length≤2000):
  Sat (dx N m roots) fun r=>r.1=dR live∧r.2.length=(dR live).length∧ ∀n,n<(dR live).length→r.2[n]? =some (2*(n:Int)+2):=by
 have hno:(dR live).length≤4000:=by
  unfold dR;rw [List.length_append];have h1:=List.length_filter_le kL live;have h2:=List.length_filter_le rd live;omega
 unfold dx fO;rw [hlive,bs,bs];refine Sat.bind (pF N (fun x st=>eZ N x st) live hl hN (fun n s=>s.1=(dR live).take n∧s.2.length=n∧ ∀j,j<n→s.2[j]? =some (2*(j:Int)+2)) ?_ ([],[]) ⟨by simp,rfl,fun j hj=>absurd hj Y⟩) ?_
 ·rintro n a ⟨f,t⟩ ha ⟨h1,h2,h3⟩;simp only at h1 h2 h3;have hn:=(List.getElem?_eq_some_iff.1 ha).1;unfold eZ;simp only
  have hfl:f.length≤4000:=by rw [h1,List.length_take];omega
  rw [rF (by simp;omega),di Y Y,di Y Y,rF (by simp;omega)];refine aK ⟨J,?_,by simp [h2],fun j hj=> ?_⟩
  ·show f++ [a]=_;rw [aY hn, ←h1];rw [List.getElem?_eq_getElem hn,Option.some.injEq] at ha;rw [ha]
  show (t++ [2*(n:Int)+2])[j]? =_;by_cases e:j<n
  ·rw [List.getElem?_append_left Y];exact h3 j e
  have:j=n:=by omega
  subst this;rw [List.getElem?_append_right Y,h2];simp
 rintro ⟨e,f,t⟩ ⟨h0,h1,h2,h3⟩;simp only at h0 h1 h2 h3;subst h0;exact aK ⟨by rw [h1,List.take_length],h2,h3⟩
def FA (ha hb:Int→Bool)(A B:List Int)(v w:Gu):Bool:=
 bif !cH v|| !cH w then decide (v=w)
 else decide (v.Kind=w.Kind)&&(v.S.toList==w.S.toList)&&(bif !decide (v.N∈A)|| !decide (w.N∈B) then !decide (v.N∈A)&& !decide (w.N∈B)&&(ha v.N==hb w.N) else decide (A.idxOf v.N=B.idxOf w.N))
def Cb (ha hb:Int→Bool)(A B:List Int)(x y:List Gu):Bool:=decide (x.length=y.length)&&(x.zip y).all fun p=>FA ha hb A B p.1 p.2
def Fg (ha hb:Int→Bool)(A B:List Int)(c d:Gw):Bool:=decide (c.Kind=d.Kind)&&decide (c.Shape=d.Shape)&&decide (c.Flags=d.Flags)&&Cb ha hb A B c.Slots d.Slots&&Cb ha hb A B c.More d.More
def FB (N:Nat)(a:Gx)(x:List Gu)(A:List Int)(b:Gx)(y:List Gu)(B:List Int):Bool:=
 decide (A.length=B.length)&&Cb (ci a) (ci b) A B x y&&(A.zip B).all fun p=>Fg (ci a) (ci b) A B (jO N A (el a p.1)) (jO N B (el b p.2))
def F3 (kv:List (Int×Int))(l:List Int):Prop:= ∀x,lk kv x=if x∈l then some (l.idxOf x:Int) else none
structure SideOk (m:Gx) (x:List Gu) (A:List Int):Prop where
 small:Small m x
 w64:W64 m
 x64: ∀v∈x,in64 v.N
 len:A.length≤1200
 nd:A.Nodup
 has: ∀a∈A,ci m a=true
def pj (p:Int→Bool):List Gu→List Bool
 |k::_::r=>p k.N::pj p r
 |_=> []
theorem vh (p:Int→Bool): ∀l:List Gu,l.length%2=0→2*(pj p l).length=l.length
 | [],_=>rfl
 | [_],h=>by simp at h
 |k::v::r,h=>by
  have:=vh p r (by simp at h;omega);simp [pj];omega
theorem sV (N:Nat)(hN:5000<N)(l:List Int)(hl:l.length≤5000)(c:Gw)(hc:c.More.length≤1000)(he:c.More.length%2=0): ∀(m i:Nat) (s:List Bool),c.More.length<m+i→i≤c.More.length→i%2=0→s.length≤i→gH N l c m s (i:Int)=jq N c (s++pj (fun x=>decide (x∈l)) (c.More.drop i))
 |0,i,s,h,h2,_,_=>by omega
 | m+1,i,s,h,h2,h3,h4=>by
  rw [gH.eq_2];by_cases hi:i<c.More.length
  ·have hi1:i+1<c.More.length:=by omega
   rw [cN Y,ct,bj hi,bs,E8 N hN l hl,bs,rF (by simp;omega),di Y Y];have:=sV N hN l hl c hc he m (i+2) (s++ [decide (c.More[i].N∈l)]) Y Y Y (by simp;omega);rw [show (((i+2:Nat)):Int)=(i:Int)+2 by omega] at this;rw [this,List.drop_eq_getElem_cons hi,List.drop_eq_getElem_cons hi1,GE];rfl
  rw [cU Y,cf,List.drop_eq_nil_of_le Y];simp [pj]
theorem xy (p:Int→Bool): ∀(l:List Gu) (j:Nat) (h:2*j+1<l.length),(pj p l)[j]? =some (p (l[2*j]'Y).N)
 |k::v::r,0,_=>rfl
 |k::v::r,j+1,h=>by
  have:=xy p r j (by simp at h;omega);simp only [pj,List.getElem?_cons_succ];rw [this];simp only [show 2*(j+1)=2*j+1+1 by omega,List.getElem_cons_succ]
 | [_],j,h=>by simp at h
 | [],j,h=>by simp at h
theorem oX (N:Nat)(p:Int→Bool)(c y:Gw)(hc:c.More.length≤1000)(he:c.More.length%2=0)(hN:5000<N): ∀(m j:Nat) (s:List Gu),c.More.length<2*(m+j)→2*j≤c.More.length→s.length≤2*j→dH N (pj p c.More) c y m (j:Int) s=jK N y (s++jc p (c.More.drop (2*j)))
 |0,j,s,h,h2,_=>by omega
 | m+1,j,s,h,h2,h3=>by
  have hk:=vh p c.More he;rw [dH.eq_2];by_cases hj:2*j<c.More.length
  ·have hj1:2*j+1<c.More.length:=by omega
   have hjk:j<(pj p c.More).length:=by omega
   have e0:=xy p c.More j hj1;rw [List.getElem?_eq_getElem hjk,Option.some.injEq] at e0;rw [cN Y,ct,bj hjk,bs,e0]
   have g0:aH c.More (2*(j:Int))=some c.More[2*j]:=by
    have:=bj hj;rwa [show (((2*j:Nat)):Int)=2*(j:Int) by omega] at this
   have g1:aH c.More (2*(j:Int)+1)=some c.More[2*j+1]:=by
    have:=bj hj1;rwa [show (((2*j+1:Nat)):Int)=2*(j:Int)+1 by omega] at this
   unfold gQ
   have step:=fun s' (hs':s'.length≤2*(j+1))=>oX N p c y hc he hN m (j+1) s' Y Y hs'
   rw [show (((j+1:Nat)):Int)=(j:Int)+1 by omega] at step
   have hd:jc p (c.More.drop (2*j))=(bif p c.More[2*j].N then [c.More[2*j],c.More[2*j+1]] else [])++jc p (c.More.drop (2*(j+1))):=by
    rw [List.drop_eq_getElem_cons hj,List.drop_eq_getElem_cons hj1];rfl
   rw [hd];cases p c.More[2*j].N
   ·rw [cf,cf,di Y Y,step s Y];rfl
   rw [ct,ct,di (a:=2*(j:Int)) Y Y,g0,bs,di (a:=2*(j:Int)) Y Y,di (a:=2*(j:Int)+1) Y Y,g1,bs,rF (by simp;omega),di Y Y,step _ (by simp;omega),GE]
  rw [cU Y,cf,List.drop_eq_nil_of_le Y];simp [jc]
theorem AQ (N:Nat)(hN:5000<N)(l:List Int)(hl:l.length≤5000)(c:Gw)(hS:c.Slots.length≤600)(hc:c.More.length≤600):jx N c l=some (bif lI N c then jO N l c else rx):=by
 obtain ⟨h1, -,h2⟩:=wj N Y c Y Y;unfold jx jO;rw [h1,bs];cases hw:lI N c
 ·rfl
 have e1:=sV N hN l hl c Y (h2 hw) N 0 [] Y Y rfl (by simp);have e2:=oX N (fun x=>decide (x∈l)) c c Y (h2 hw) hN N 0 [] Y Y (by simp);have e1':gH N l c N [] 0=_:=e1;have e2':dH N (pj (fun x=>decide (x∈l)) c.More) c c N 0 []=_:=e2
 have ec:ka N c=some c:=by
  unfold ka;rw [rF (by simp;omega),rF (by simp;omega)];rfl
 simp only [nt,cf,ct];rw [e1'];unfold jq lE;rw [ec,bs];simp only [List.drop_zero,List.nil_append];rw [e2'];rfl
def fh (c:Gw):List Int:=ei c++ij c
def iY (N:Nat)(c:Gw):Bool:=(bP N c).getD false
theorem AV (c:Gw):(fh c).length≤c.Slots.length+2*c.More.length:=by
 have h1:=kI c;have h2:=kV c;unfold fh;rw [List.length_append];omega
theorem nU: ∀l:List Gw,(l.flatMap fh).length≤2*wt l
 | []=>by simp [wt]
 |c::l=>by
  have h1:=nU l;have h2:=AV c;rw [List.flatMap_cons,List.length_append,wt];omega
theorem yx (N:Nat)(m:Gx)(l:List Int)(hl:l.length<N)(hl2:l.length≤5000)(h64: ∀x∈l,in64 x):cJ N l (fun x=>d8 N x m)=some (!ii m l):=by
 have key: ∀k i:Nat,l.length<k+i→i≤l.length→Sat (dI N (fun x=>d8 N x m) l k (i:Int)) fun r=>decide (0≤r)=!(l.drop i).all (ci m):=by
  intro k
  induction k with
  |zero=>intro i h1 h2;omega
  | succ k ih=>
   intro i h1 h2;rw [dI.eq_2];by_cases hi:i<l.length
   ·have h3:=ih (i+1) Y hi;rw [show (((i+1:Nat)):Int)=(i:Int)+1 by omega] at h3;rw [cN Y,ct,bj hi,bs,List.drop_eq_getElem_cons hi,List.all_cons];unfold d8;rw [xz N m _ (h64 _ (List.getElem_mem _)),bs,bs,di Y Y];cases ci m l[i]
    ·exact aK (by rw [GB Y];rfl)
    exact h3
   rw [cU Y,cf,List.drop_eq_nil_of_le Y];exact aK J
 obtain ⟨r,h1,h2⟩:=key N 0 Y Y;have h1':dI N (fun x=>d8 N x m) l N 0=some r:=h1;unfold cJ gW;rw [h1',bs,h2];unfold ii;simp
def jd (N:Nat)(m:Gx)(roots:List Gu):Int:=
 bif (m.Young++m.Old).all (iY N) then bif ii m ((m.Young++m.Old).flatMap fh++bF roots) then 0 else 50 else 51
theorem yO (N:Nat)(hN:5000<N){m:Gx}{roots:List Gu}(hs:Small m roots)(ht:Wtd m roots)(hw:W64 m)(hr: ∀v∈roots,in64 v.N):js N m roots=some (jd N m roots):=by
 have hle:=ht.le;have h1:=hs.young;have h2:=hs.old;have h3:=hs.roots
 have a64: ∀(l:List Gw),(∀c∈l,c∈m.Young++m.Old)→ ∀x∈l.flatMap fh,in64 x:=fun l hl x hx=>by
  obtain ⟨c,hc,hx⟩:=List.mem_flatMap.1 hx;obtain ⟨⟨-,g1⟩, -,g2⟩:=uF hs hw (hl c hc);exact (List.mem_append.1 hx).elim (g1 x) (g2 x)
 have r64': ∀x∈bF roots,in64 x:=fun x hx=>by
  obtain ⟨v,h1, -,rfl⟩:=rq.1 hx;exact hr v h1
 have hal: ∀k,(bF (roots.take k)).length≤roots.length:=fun k=>by
  unfold bF;rw [List.length_map];exact Nat.le_trans (List.length_filter_le _ _) (by rw [List.length_take];omega)
 -- the roots
 have hroots: ∀q:List Int,q.length+roots.length≤4800→(∀x∈q,in64 x)→iH N roots m q=some (bif ii m (q++bF roots) then 0 else 50):=by
  intro q hq q64;apply Sat.eq;unfold iH;refine cm (fun k i (s:List Int)=>dk N roots m k s (i:Int)) roots.length (fun i s=>s=q++bF (roots.take i)) _ ?_ ?_ N 0 q Y Y (by simp [bF])
  ·rintro k i s hi h1 go;show Sat (dk N roots m (k+1) s (i:Int)) _
   have hnext:q++bF (roots.take (i+1))=s++bF [roots[i]]:=by rw [aY hi,rt,h1,GE]
   have hsl:s.length≤4800:=by have:=hal i;rw [h1,List.length_append];omega
   rw [dk.eq_2,cN Y,ct,bj hi,bs,md,bs];unfold gT;cases hb:cH roots[i]
   ·rw [cf,di Y Y];exact go s (by rw [hnext];simp [bF,hb])
   rw [ct,rF (by simp;omega),di Y Y];exact go _ (by rw [hnext];simp [bF,hb])
  rintro k s h1;show Sat (dk N roots m (k+1) s _) _;rw [List.take_length] at h1
  have hsl:s.length≤4800:=by have:=hal roots.length;rw [List.take_length] at this;rw [h1,List.length_append];omega
  rw [dk.eq_2,cU Y,cf];unfold jL;rw [yx N m s Y Y (fun x hx=>by rw [h1] at hx;exact (List.mem_append.1 hx).elim (q64 x) (r64' x)),bs, ←h1];cases ii m s<;>exact aK rfl
 -- one row
 have row: ∀(kb:List Int→Int→Option Int) (p:Int) (l:List Gw) (q:List Int),in64 (p+1)→l.length≤600→wt l≤2400→(∀c∈l,c∈m.Young++m.Old)→q.length≤5000→fE N kb m p l roots N q 0=bif l.all (iY N) then kb (q++l.flatMap fh) (p+1) else some 51:=by
  intro kb p l q hp hll hl hl2 hq
  have key: ∀(k i:Nat),l.length<k+i→i≤l.length→fE N kb m p l roots k (q++(l.take i).flatMap fh) (i:Int)=bif (l.drop i).all (iY N) then kb (q++l.flatMap fh) (p+1) else some 51:=by
   intro k
   induction k with
   |zero=>intro i h1 h2;omega
   | succ k ih=>
    intro i h4 h5;have hfl:=nU (l.take i)
    have hwt:wt (l.take i)≤wt l:=by
     have:=po (l.take i) (l.drop i);rw [List.take_append_drop] at this;omega
    by_cases hi:i<l.length
    ·have hm:=hl2 l[i] (List.getElem_mem _);have hc:=hs.cells _ hm;have hwi:=vF hi
     have hwt2:wt (l.take (i+1))≤wt l:=by
      have:=po (l.take (i+1)) (l.drop (i+1));rw [List.take_append_drop] at this;omega
     obtain ⟨b,hb, -⟩:=ot N Y l[i] Y Y
     have hrc:iY N l[i]=b:=by unfold iY;rw [hb];rfl
     have e1:=kI l[i];have e2:=kV l[i];have h6:=ih (i+1) Y hi;rw [show (((i+1:Nat)):Int)=(i:Int)+1 by omega] at h6;rw [fE.eq_2,cN Y,ct,bj hi,bs,sX N Y _ Y Y,hb,bs,tK N Y _ Y Y,bs,List.length_append,rF Y,wO N Y _ Y Y,bs,List.length_append,List.length_append,rF Y,di Y Y]
     have hap:q++(l.take i).flatMap fh++ei l[i]++ij l[i]=q++(l.take (i+1)).flatMap fh:=by
      rw [aY hi,List.flatMap_append];simp [fh,GE]
     rw [hap,h6,List.drop_eq_getElem_cons hi,List.all_cons,hrc];cases b<;>rfl
    have e:i=l.length:=by omega
    subst e;rw [fE.eq_2,cU Y,cf,List.drop_length,List.take_length];unfold jM;rw [kx hp];rfl
  have:=key N 0 Y Y;simpa using this
 have hwy:wt m.Young≤2400:=by omega
 have hwo:wt m.Old≤2400:=by omega
 have hfy:=nU m.Young;have hfo:=nU m.Old;obtain ⟨k,rfl⟩: ∃k,N=k+3:=⟨N - 3,by omega⟩;unfold js jd;rw [ga.eq_2,show ((([m.Young,m.Old]:List (List Gw)).length:Int))=2 from rfl,cN Y,ct,show aH ([m.Young,m.Old]:List (List Gw)) 0=some m.Young from rfl,bs,row _ 0 m.Young [] (by unfold in64;omega) h1 hwy (fun c hc=>GF _ hc) (by simp)];rw [ga.eq_2,show ((([m.Young,m.Old]:List (List Gw)).length:Int))=2 from rfl,cN Y,ct,show aH ([m.Young,m.Old]:List (List Gw)) (0+1)=some m.Old from rfl,bs,List.nil_append,row _ (0+1) m.Old (m.Young.flatMap fh) (by unfold in64;omega) h2 hwo (fun c hc=>GG _ hc) Y]
 rw [ga.eq_2,show ((([m.Young,m.Old]:List (List Gw)).length:Int))=2 from rfl,cU Y,cf,hroots _ (by rw [List.length_append];omega) (fun x hx=>by
  rw [←List.flatMap_append] at hx
  exact a64 _ (fun c hc=>hc) x hx),List.all_append,List.flatMap_append]
 cases m.Young.all (iY (k+3))<;>cases m.Old.all (iY (k+3))<;>rfl
def uk (f:List Int)(a:Int):Int:=2*((f.idxOf a:Nat):Int)+2
def nS (ρ:Int→Int)(f:List Int)(v:Gu):Gu:=bif cH v&&decide (v.N∈f) then ⟨v.Kind,ρ v.N,v.S⟩ else v
def wd (ρ:Int→Int)(f:List Int)(c:Gw):Gw:=⟨c.Kind,c.Shape,c.Flags,c.Age,c.Slots.map (nS ρ f),c.More.map (nS ρ f)⟩
def RhoM (kv:List (Int×Int))(f:List Int):Prop:= ∀x,lk kv x=if x∈f then some (uk f x) else none
theorem mI (N:Nat)(hN:5000<N)(l:List Gu)(hl:l.length≤5000)(kv:List (Int×Int))(f:List Int)(hk:RhoM kv f):eL N l kv=some (l.map (nS (uk f) f)):=by
 apply Sat.eq;unfold eL;refine cm (fun k i (s:List Gu)=>dw N l kv k s (i:Int)) l.length (fun i s=>s=(l.take i).map (nS (uk f) f)) _ ?_ ?_ N 0 [] Y Y J
 ·rintro k i s hi h1 go;show Sat (dw N l kv (k+1) s (i:Int)) _
  have hsl:s.length≤i:=by rw [h1,List.length_map,List.length_take];omega
  have hnext:(l.take (i+1)).map (nS (uk f) f)=s++ [nS (uk f) f l[i]]:=by rw [aY hi,List.map_append,h1];rfl
  rw [dw.eq_2,cN Y,ct,bj hi,bs,hk l[i].N,md];unfold gS;by_cases hm:l[i].N∈f
  ·rw [if_pos hm];simp only [bs,Option.isSome_some,ct];cases hb:cH l[i]
   ·rw [cf,rF (by simp;omega),di Y Y];refine go _ ?_;rw [hnext];unfold nS;rw [hb];rfl
   rw [ct,rF (by simp;omega),di Y Y];refine go _ ?_;rw [hnext];unfold nS;rw [hb,GB hm];rfl
  rw [if_neg hm];simp only [bs,Option.isSome_none,cf];rw [rF (by simp;omega),di Y Y];refine go _ ?_;rw [hnext];unfold nS;rw [GC hm,Bool.and_false];rfl
 rintro k s h1;show Sat (dw N l kv (k+1) s _) _;rw [dw.eq_2,cU Y,cf];exact aK (by rw [h1,List.take_length])
def qL (N:Nat)(l:List Int)(c:Gw):Gw:=bif decide (c.Kind=8) then jO N l c else bif decide (c.Kind=10) then (pL l c).1 else c
def ni (l:List Int)(c:Gw):List Gu:=bif decide (c.Kind=10) then (pL l c).2 else []
theorem sE (N:Nat)(l:List Int)(c:Gw):(qL N l c).Slots.length=c.Slots.length∧(qL N l c).More.length+(ni l c).length≤c.More.length:=by
 unfold qL ni;by_cases h8:c.Kind=8
 ·rw [GB h8,GC (p:=c.Kind=10) Y];have:=yM N l c;simp only [cond_true,cond_false,List.length_nil];omega
 rw [GC h8];by_cases h10:c.Kind=10
 ·rw [GB h10];have:=BN l (c.More.headD gY) (c.More.drop 1);rw [List.length_drop] at this;unfold pL;refine ⟨J,?_⟩;show (c.More.take 1++jU l (c.More.drop 1)).length+(jR l (c.More.headD gY) (c.More.drop 1)).length≤c.More.length;rw [List.length_append,List.length_take]
  cases hm:c.More with
  |nil=>rw [hm] at this;simp [jU,jR]
  |cons a r=>rw [hm] at this;simp only [List.length_cons] at this⊢;omega
 rw [GC h10];simp
theorem RhoM.nil:RhoM [] []:=fun x=>rfl
theorem RhoM.add {kv:List (Int×Int)}{i:Nat}{f:List Int}(hi:i<f.length)(h:RhoM kv (f.take i))(hn:f.Nodup):RhoM (uf kv f[i] (2*(i:Int)+2)) (f.take (i+1)):=by
 intro x
 have hlen:(f.take i).length=i:=by rw [List.length_take];omega
 have hni:f[i]∉f.take i:=by
  intro hm;obtain ⟨j,hj,e⟩:=List.getElem_of_mem hm;rw [List.length_take] at hj;rw [List.getElem_take] at e;exact List.pairwise_iff_getElem.1 (List.nodup_iff_pairwise_ne.1 hn) j i Y hi Y e
 rw [D5,aY hi];unfold uk;rw [List.idxOf_append];by_cases e:f[i]=x
 ·rw [if_pos e, ←e,if_pos (GG _ (by simp)),if_neg hni];simp [hlen]
 rw [if_neg e,h x];by_cases hm:x∈f.take i
 ·rw [if_pos hm,if_pos (GF _ hm),if_pos hm];rfl
 rw [if_neg hm,if_neg (by simp only [List.mem_append,List.mem_singleton];exact fun hh=>hh.elim hm fun hh=>e hh.symm)]
structure Coll where
 next:Gx
 now:List Gu
 gone:List Gu
def xK (N:Nat)(m:Gx)(roots:List Gu)(live f:List Int):Coll:=
 ⟨⟨[],f.map fun a=>wd (uk f) f (qL N live (el m a))⟩,roots.map (nS (uk f) f),(f.flatMap fun a=>ni live (el m a)).map (nS (uk f) f)⟩
def gz {α:Type}(g:α→Nat):List α→Nat
 | []=>0
 |a::l=>g a+gz g l
theorem Ai {α:Type}(g:α→Nat){a b:List α}(h:a.Perm b):gz g a=gz g b:=by
 induction h with
 |nil=>rfl
 |cons x _ ih=>rw [gz,gz,ih]
 |swap x y l=>rw [gz,gz,gz,gz];omega
 |trans _ _ h1 h2=>rw [h1,h2]
theorem wU (g:Int→Nat): ∀{l L:List Int},l.Nodup→(∀x∈l,x∈L)→gz g l≤gz g L
 | [],_,_,_=>Nat.zero_le _
 |a::l,L,hn,hs=>by
  obtain ⟨h1,h2⟩:=List.nodup_cons.1 hn;have hp:=List.perm_cons_erase (hs a (by simp));rw [Ai g hp,gz,gz]
  have:=wU g (l:=l) (L:=L.erase a) h2 fun x hx=>(List.mem_erase_of_ne (fun e:x=a=>h1 (by rw [←e];exact hx))).2 (hs x (by simp [hx]))
  omega
theorem sQ {α β:Type}(g:β→Nat)(f:α→β): ∀l:List α,gz g (l.map f)=gz (fun x=>g (f x)) l
 | []=>rfl
 |x::l=>by rw [List.map_cons,gz,gz,sQ g f l]
theorem zg {α:Type}{g h:α→Nat}: ∀{l:List α},(∀x∈l,g x≤h x)→gz g l≤gz h l
 | [],_=>Nat.le_refl _
 |x::l,hh=>by
  rw [gz,gz];have h1:=hh x (by simp)
  have h2:=zg (l:=l) fun y hy=>hh y (by simp [hy])
  omega
theorem rV {α β:Type}(f:α→List β): ∀l:List α,(l.flatMap f).length=gz (fun x=>(f x).length) l
 | []=>rfl
 |x::l=>by rw [List.flatMap_cons,List.length_append,gz,rV f l]
theorem wV {α:Type}(g h:α→Nat): ∀l:List α,gz (fun x=>g x+h x) l=gz g l+gz h l
 | []=>rfl
 |x::l=>by rw [gz,gz,gz,wV g h l];omega
def wC (c:Gw):Nat:=1+c.Slots.length+c.More.length
theorem yc: ∀l:List Gw,wt l=gz wC l
 | []=>rfl
 |c::l=>by rw [wt,gz,yc l];rfl
def Cu (m:Gx):List Int:=(List.range m.Young.length).map (fun i:Nat=>2*(i:Int)+1)++(List.range m.Old.length).map (fun i:Nat=>2*(i:Int)+2)
theorem Fj (m:Gx)(i:Nat)(h:i<m.Young.length):el m (2*(i:Int)+1)=m.Young[i]:=by
 unfold el eN;rw [if_neg Y,if_pos Y,show ((2*(i:Int)+1 - 1) / 2).toNat=i by omega,List.getElem?_eq_getElem h];rfl
theorem Fk (m:Gx)(i:Nat)(h:i<m.Old.length):el m (2*(i:Int)+2)=m.Old[i]:=by
 unfold el eN;rw [if_neg Y,if_neg Y,show ((2*(i:Int)+2 - 2) / 2).toNat=i by omega,List.getElem?_eq_getElem h];rfl
theorem Ew (m:Gx)(i:Nat):ci m (2*(i:Int)+1)=decide (i<m.Young.length):=by
 unfold ci eN;rw [if_neg Y,if_pos Y,show ((2*(i:Int)+1 - 1) / 2).toNat=i by omega];by_cases h:i<m.Young.length
 ·rw [List.getElem?_eq_getElem h,GB h];rfl
 rw [List.getElem?_eq_none Y,GC h];rfl
theorem Ey (m:Gx)(i:Nat):ci m (2*(i:Int)+2)=decide (i<m.Old.length):=by
 unfold ci eN;rw [if_neg Y,if_neg Y,show ((2*(i:Int)+2 - 2) / 2).toNat=i by omega];by_cases h:i<m.Old.length
 ·rw [List.getElem?_eq_getElem h,GB h];rfl
 rw [List.getElem?_eq_none Y,GC h];rfl
theorem Ct (m:Gx):(Cu m).map (el m)=m.Young++m.Old:=by
 unfold Cu;rw [List.map_append,List.map_map,List.map_map]
 congr 1
 ·refine List.ext_getElem (by simp) fun i h1 h2=> ?_
  simp only [List.getElem_map,List.getElem_range,Function.comp];exact Fj m i h2
 refine List.ext_getElem (by simp) fun i h1 h2=> ?_
 simp only [List.getElem_map,List.getElem_range,Function.comp];exact Fk m i h2
theorem AH {m:Gx}{a:Int}(h:ci m a=true):(∃i:Nat,i<m.Young.length∧a=2*(i:Int)+1)∨ ∃i:Nat,i<m.Old.length∧a=2*(i:Int)+2:=by
 rcases mP m a with ⟨h1,h2⟩|⟨k,h1, -⟩|⟨k,h1, -⟩
 ·unfold ci at h;rw [h2] at h;cases h
 ·subst h1;rw [Ew] at h;exact .inl ⟨k,of_decide_eq_true h,J⟩
 subst h1;rw [Ey] at h;exact .inr ⟨k,of_decide_eq_true h,J⟩
theorem BI {m:Gx}{a:Int}(h:ci m a=true):a∈Cu m:=by
 unfold Cu;rcases AH h with ⟨i,h1,rfl⟩|⟨i,h1,rfl⟩
 ·exact GF _ (List.mem_map.2 ⟨i,List.mem_range.2 h1,J⟩)
 exact GG _ (List.mem_map.2 ⟨i,List.mem_range.2 h1,J⟩)
theorem Bf {m:Gx}{l:List Int}(hn:l.Nodup)(hh: ∀a∈l,ci m a=true):gz (fun a=>wC (el m a)) l≤wt m.Young+wt m.Old:=by
 have h1:=wU (fun a=>wC (el m a)) hn fun a ha=>BI (hh a ha)
 have h2:=sQ wC (el m) (Cu m);rw [Ct, ←yc,po] at h2;omega
theorem zY {m:Gx}{a:Int}(h:ci m a=true):el m a∈m.Young++m.Old:=by
 unfold ci at h;unfold el
 cases hc:eN m a with
 |none=>rw [hc] at h;cases h
 |some c=>exact mN hc
def Fq:Gx:=⟨[⟨11,0,0,0,[],[⟨7,2,⟨#[]⟩⟩]⟩,⟨11,0,0,0,[],[]⟩],[⟨11,0,0,0,[],[]⟩,⟨11,0,0,0,[],[]⟩]⟩
def Fy:Gx:=⟨[],[⟨10,0,0,0,[⟨1,0,⟨#[]⟩⟩],[⟨7,4,⟨#[]⟩⟩,⟨7,6,⟨#[]⟩⟩,⟨7,8,⟨#[]⟩⟩,⟨0,0,⟨#[]⟩⟩,⟨3,7,⟨#[]⟩⟩]⟩,⟨11,0,0,0,[],[]⟩,⟨11,0,0,0,[],[]⟩,⟨11,0,0,0,[],[]⟩]⟩
theorem oP:co 6000 Fq [⟨7,1,⟨#[]⟩⟩]=some [1,2]:=by kernel_rfl
theorem oF:co 6000 Fy [⟨7,2,⟨#[]⟩⟩]=some [2,4,8]:=by kernel_rfl
theorem lP:cv 6000 Fq [⟨7,1,⟨#[]⟩⟩]=some [1,2]:=wg oP (by decide) (sR (by decide) (by decide) (by intro x;simp))
theorem lF:cv 6000 Fy [⟨7,2,⟨#[]⟩⟩]=some [2,4,8]:=wg oF (by decide) (sR (by decide) (by decide) (by intro x;simp))
theorem pP:dx 6000 Fq [⟨7,1,⟨#[]⟩⟩]=some ([2,1],[2,4]):=by
 unfold dx;rw [lP,bs];kernel_rfl
theorem wR {a:Int}(h:0<a):a.tmod 2=0∨a.tmod 2=1:=by
 rw [sO Y];omega
theorem yy {live:List Int}(hp: ∀a∈live,0<a)(a:Int):a∈dR live↔a∈live:=by
 unfold dR kL rd;rw [List.mem_append,List.mem_filter,List.mem_filter,decide_eq_true_eq,decide_eq_true_eq];constructor
 ·rintro (h|h)<;>exact h.1
 intro h;rcases wR (hp a h) with h2|h2
 ·exact .inl ⟨h,h2⟩
 exact .inr ⟨h,h2⟩
theorem tG: ∀{live:List Int},(∀a∈live,0<a)→(dR live).length=live.length
 | [],_=>rfl
 | a::l,hp=>by
  have ih:=tG (live:=l) fun b hb=>hp b (by simp [hb])
  unfold dR at ih⊢;rw [List.length_append] at ih⊢;rcases wR (hp a (by simp)) with h|h
  ·have e1:kL a=true:=GB h;have e2:rd a=false:=GC Y;simp only [List.filter_cons,e1,e2,if_true,Bool.false_eq_true,if_false,List.length_cons];omega
  have e1:kL a=false:=GC Y;have e2:rd a=true:=GB h;simp only [List.filter_cons,e1,e2,if_true,Bool.false_eq_true,if_false,List.length_cons];omega
theorem Az {live:List Int}(h:live.Pairwise (· < ·)):(dR live).Pairwise fun a b=> ¬(a.tmod 2=1∧b.tmod 2=0)∧(a.tmod 2=b.tmod 2→a<b):=by
 have hev: ∀a∈live.filter kL,a.tmod 2=0:=fun a ha=>of_decide_eq_true (List.mem_filter.1 ha).2
 have hod: ∀a∈live.filter rd,a.tmod 2=1:=fun a ha=>of_decide_eq_true (List.mem_filter.1 ha).2
 unfold dR;refine List.pairwise_append.2 ⟨(h.filter _).imp_of_mem fun {a b} ha hb hlt=>⟨fun hh=> ?_,fun _=>hlt⟩,(h.filter _).imp_of_mem fun {a b} ha hb hlt=>⟨fun hh=> ?_,fun _=>hlt⟩,fun a ha b hb=>⟨fun hh=> ?_,fun hh=> ?_⟩⟩
 ·have:=hev a ha;omega
 ·have:=hod b hb;omega
 ·have:=hev a ha;omega
 have:=hev a ha;have:=hod b hb;omega
theorem cP:bw 6000 Fq [⟨7,1,⟨#[]⟩⟩]=some (⟨[],[⟨11,0,0,0,[],[]⟩,⟨11,0,0,0,[],[⟨7,2,⟨#[]⟩⟩]⟩]⟩,[⟨7,4,⟨#[]⟩⟩],[],0):=by
 unfold bw;rw [lP];kernel_rfl
theorem cF:bw 6000 Fy [⟨7,2,⟨#[]⟩⟩]=some (⟨[],[⟨10,0,0,0,[⟨1,0,⟨#[]⟩⟩],[⟨7,4,⟨#[]⟩⟩]⟩,⟨11,0,0,0,[],[]⟩,⟨11,0,0,0,[],[]⟩]⟩,[⟨7,2,⟨#[]⟩⟩],[⟨7,4,⟨#[]⟩⟩,⟨7,6,⟨#[]⟩⟩,⟨3,7,⟨#[]⟩⟩],0):=by
 unfold bw;rw [lF];kernel_rfl
theorem rT:ef 6000=some true:=by
 have h1:dx 6000 (⟨([⟨11,0,0,0,[],[⟨7,2,⟨#[]⟩⟩]⟩,⟨11,0,0,0,[],[]⟩]:List Gw),([⟨11,0,0,0,[],[]⟩,⟨11,0,0,0,[],[]⟩]:List Gw)⟩:Gx) ([⟨7,1,⟨#[]⟩⟩]:List Gu)=some ([2,1],[2,4]):=pP;have h2:bw 6000 (⟨([⟨11,0,0,0,[],[⟨7,2,⟨#[]⟩⟩]⟩,⟨11,0,0,0,[],[]⟩]:List Gw),([⟨11,0,0,0,[],[]⟩,⟨11,0,0,0,[],[]⟩]:List Gw)⟩:Gx) ([⟨7,1,⟨#[]⟩⟩]:List Gu)=_:=cP;have h3:bw 6000 (⟨[],([⟨10,0,0,0,([(⟨1,0,⟨#[]⟩⟩:Gu)]:List Gu),([⟨7,4,⟨#[]⟩⟩,⟨7,6,⟨#[]⟩⟩,⟨7,8,⟨#[]⟩⟩,(⟨0,0,⟨#[]⟩⟩:Gu),(⟨3,7,⟨#[]⟩⟩:Gu)]:List Gu)⟩,⟨11,0,0,0,[],[]⟩,⟨11,0,0,0,[],[]⟩,⟨11,0,0,0,[],[]⟩]:List Gw)⟩:Gx) ([⟨7,2,⟨#[]⟩⟩]:List Gu)=_:=cF;unfold ef bG dr;simp only [bs];rw [h1,bs,h2,bs,h3,bs];clear h1 h2 h3;refine Eq.trans ?_ (Eq.refl (some true));kernel_rfl
theorem wK {α:Type}{p:α→Bool}{l:List α}(h:l.all p=true){x:α}(hx:x∈l):p x=true:=List.all_eq_true.1 h x hx
theorem vz {N:Nat}{m:Gx}{roots:List Gu}(h:jd N m roots=0):(∀c∈m.Young++m.Old,iY N c=true)∧(∀c∈m.Young++m.Old, ∀x∈fh c,ci m x=true)∧ ∀x∈bF roots,ci m x=true:=by
 unfold jd at h
 cases h1:(m.Young++m.Old).all (iY N) with
 |false=>rw [h1] at h;cases h
 | true=>
  rw [h1] at h
  cases h2:ii m ((m.Young++m.Old).flatMap fh++bF roots) with
  |false=>rw [h2] at h;cases h
  |true=>
   unfold ii at h2;refine ⟨fun c hc=>wK h1 hc,fun c hc x hx=>wK h2 (GF _ (List.mem_flatMap.2 ⟨c,hc,hx⟩)),fun x hx=>wK h2 (GG _ hx)⟩
structure Live (N:Nat) (m:Gx) (roots:List Gu) (live f:List Int):Prop where
 ord: ∃b all,IsOrder (uh N m) (bF roots) b all∧live=fi all∧f=dR live
 prog:cv N m roots=some live
 ref:fu N m roots=some live
 mem: ∀a,a∈f↔a∈live
 len:f.length=live.length
 small:live.length≤1200
 nd:f.Nodup
 asc:live.Pairwise (· < ·)
 has: ∀a∈live,ci m a=true
theorem AA {live:List Int}(h:live.Pairwise (· < ·)):(dR live).Nodup:=by
 rw [List.nodup_iff_pairwise_ne]
 refine (Az h).imp fun {a b} hab e=> ?_
 have:=hab.2 (by rw [e]);omega
theorem C3 (N:Nat)(hN:5000<N){m:Gx}{roots:List Gu}(hs:Small m roots)(hw:W64 m)(hr: ∀v∈roots,in64 v.N): ∃live f,Live N m roots live f:=by
 obtain ⟨bg,all,ho,hlen, -, -,o0⟩:=Au N hN hs hw hr;obtain ⟨b',all',ho',r0, -⟩:=yj N hN hs hw hr;obtain ⟨-,e2⟩:=ho.det ho';subst e2;have hll:(fi all).length=all.length:=oq all;have hmem:=uJ all;have hasc:=uK ho.nodup.2
 have hhas: ∀a∈fi all,ci m a=true:=fun a ha=>ho.has.2 a ((hmem a).1 ha)
 have hpos: ∀a∈fi all,0<a:=fun a ha=>me (hhas a ha)
 refine ⟨fi all,dR (fi all),⟨⟨_,all,ho,J,J⟩,wg o0 Y J,?_,yy hpos,tG hpos,by omega,AA hasc,hasc,hhas⟩⟩;unfold fu;rw [r0,bs,yk N hN all Y ho.nodup.2,bs]
theorem Live.fhas {N:Nat}{m:Gx}{roots:List Gu}{live f:List Int}(h:Live N m roots live f){a:Int}(ha:a∈f):ci m a=true:=h.has a ((h.mem a).1 ha)
theorem Be {N:Nat}{m:Gx}{roots:List Gu}{live f:List Int}(h:Live N m roots live f):(f.flatMap fun a=>ni live (el m a)).length+wt (f.map fun a=>wd (uk f) f (qL N live (el m a)))≤wt m.Young+wt m.Old:=by
 have h1:=Bf h.nd fun a ha=>h.fhas ha
 rw [rV,yc,sQ, ←wV];refine Nat.le_trans (zg fun a ha=> ?_) h1;have:=sE N live (el m a);unfold wC wd;simp only [List.length_map];omega
theorem iW {N:Nat}{m:Gx}{roots:List Gu}{live f:List Int}(h:Live N m roots live f)(n:Nat):((f.take n).flatMap fun a=>ni live (el m a)).length≤wt m.Young+wt m.Old:=by
 have h1:=Be h
 have h2:(f.flatMap fun a=>ni live (el m a))=((f.take n).flatMap fun a=>ni live (el m a))++((f.drop n).flatMap fun a=>ni live (el m a)):=by rw [←List.flatMap_append,List.take_append_drop]
 rw [h2,List.length_append] at h1;omega
def lu (N:Nat)(m:Gx)(roots:List Gu)(live f:List Int):Gx×List Gu×List Gu×Int:=
 bif decide (jd N m roots=0) then ((xK N m roots live f).next,(xK N m roots live f).now,(xK N m roots live f).gone,0) else (⟨[],[]⟩,[],[],jd N m roots)
theorem wv (N:Nat)(hN:5000<N){m:Gx}{roots:List Gu}(hs:Small m roots)(ht:Wtd m roots)(hw:W64 m)(hr: ∀v∈roots,in64 v.N){live f:List Int}(hl:Live N m roots live f):bw N m roots=some (lu N m roots live f):=by
 apply Sat.eq;have hle:=ht.le;have hlen:=hl.small;have hfl:=hl.len;unfold bw lu;rw [yO N hN hs ht hw hr,bs];by_cases h0: ¬jd N m roots=0
 ·rw [fF h0];exact aK J
 replace h0:jd N m roots=0:=by omega
 rw [pI h0];simp only [nt,cf,ct];obtain ⟨c1,c2,c3⟩:=vz h0;obtain ⟨_,_,_,hlv,hff⟩:=hl.ord;rw [hl.prog,bs];unfold fO;rw [bs];refine Sat.bind (pF N (fun x st=>eD N roots m live x st) live Y hN (fun n s=>RhoM s (f.take n)) ?_ [] ?_) ?_
 ·intro n a s ha h1;rw [←hff] at ha;have hn:=(List.getElem?_eq_some_iff.1 ha).1;rw [List.getElem?_eq_getElem hn,Option.some.injEq] at ha;unfold eD;simp only;rw [di Y Y,di Y Y];refine aK ⟨J,?_⟩;rw [←ha];exact h1.add hn hl.nd
 ·simpa using RhoM.nil
 rintro ⟨e,kv⟩ ⟨g1,g2⟩;simp only at g1 g2;subst g1;rw [←hff,List.take_length] at g2;unfold lw;simp only [bs]
 have hG: ∀a∈f,(qL N live (el m a)).Slots.length≤600∧(qL N live (el m a)).More.length≤600:=fun a ha=>by
  have h1:=sE N live (el m a);have h2:=hs.at_ a;omega
 refine Sat.bind (pF N (fun x st=>eC N roots m live (none,kv) x st) live Y hN (fun n s=>s.1=(f.take n).map (fun a=>wd (uk f) f (qL N live (el m a)))∧s.2=(f.take n).flatMap fun a=>ni live (el m a)) ?_ ([],[]) ⟨by simp,by simp⟩) ?_
 ·rintro n a ⟨p,q⟩ ha ⟨h1,h2⟩;rw [←hff] at ha;simp only at h1 h2;have hn:=(List.getElem?_eq_some_iff.1 ha).1;have ham:a∈f:=List.mem_of_getElem? ha;rw [List.getElem?_eq_getElem hn,Option.some.injEq] at ha
  have hpl:p.length≤2000:=by rw [h1,List.length_map,List.length_take];omega
  have hql:q.length≤2400:=by have:=iW hl n;rw [h2];omega
  have hq2:=iW hl (n+1);have hat:=wJ N hs a (zo hs (hl.fhas ham));have hsm:=hs.at_ a;have hrt:=c1 _ (zY (hl.fhas ham));have hc:=hG a ham;rw [aY hn,ha,List.flatMap_append, ←h2,List.length_append] at hq2;simp only [List.flatMap_cons,List.flatMap_nil,List.append_nil] at hq2
  -- the last part
  have last: ∀q',q'=q++ni live (el m a)→Sat (dC N roots m p live (none,kv) q' (qL N live (el m a)).Kind (qL N live (el m a)).Shape (qL N live (el m a)).Flags (qL N live (el m a)).Age (qL N live (el m a)).Slots (qL N live (el m a)).More) fun r=>r.1=none∧r.2.1=(f.take (n+1)).map (fun a=>wd (uk f) f (qL N live (el m a)))∧r.2.2=(f.take (n+1)).flatMap fun a=>ni live (el m a):=by
   intro q' hq';unfold dC;rw [mI N hN _ Y kv f g2,bs,mI N hN _ Y kv f g2,bs,rF (by simp;omega)];refine aK ⟨J,?_,?_⟩
   ·rw [aY hn,List.map_append, ←h1,ha];rfl
   rw [aY hn,List.flatMap_append, ←h2,ha,hq'];simp
  unfold eC;simp only;rw [hat,bs];unfold qL ni at last;unfold ni at hq2;by_cases h8:(el m a).Kind=8
  ·have hwm:lI N (el m a)=true:=by unfold lI;rw [GB h8];exact hrt
   rw [pI h8,ct,yL N hN live Y _ hsm.1 hsm.2,bs,hwm,ct];rw [GB h8,GC (p:=(el m a).Kind=10) Y] at last;simp only [cond_true,cond_false,List.append_nil] at last;exact last q J
  by_cases h10:(el m a).Kind=10
  ·have hwm:qC N (el m a)=true:=by unfold qC;rw [GB h10];exact hrt
   rw [fF h8,cf,pI h10,ct,uz N hN live Y _ hsm.1 hsm.2,bs,hwm,ct];rw [GB h10] at hq2;rw [GC h8,GB h10] at last;simp only [cond_true,cond_false] at last hq2;rw [rF Y];exact last _ J
  rw [fF h8,cf,fF h10,cf];rw [GC h8,GC h10] at last;simp only [cond_true,cond_false,List.append_nil] at last;exact last q J
 rintro ⟨e,p,q⟩ ⟨g1,g3,g4⟩;simp only at g1 g3 g4;subst g1;rw [←hff,List.take_length] at g3 g4;have hrl:=hs.roots
 have hql:q.length≤2400:=by have:=iW hl f.length;rw [List.take_length] at this;rw [g4];omega
 simp only;rw [mI N hN _ Y kv f g2,bs,mI N hN _ Y kv f g2,bs];refine aK ?_;unfold xK;rw [g3,g4]
theorem Bp:reachBytes≤140737488355328:=by decide
theorem Bo (m:Gx)(roots:List Gu)(hm:mm m)(hr:Ef (fun z=>kh z) roots):Bnd 140737488355328 m roots∧W64 m∧ ∀v∈roots,in64 v.N:=by
 have hb:=Bp;obtain ⟨⟨y1,y2⟩,o1,o2⟩:=hm
 have hc: ∀c∈m.Young++m.Old,pX c:=fun c hc=>(List.mem_append.1 hc).elim (y2 c) (o2 c)
 refine ⟨⟨Nat.le_trans y1 hb,Nat.le_trans o1 hb,Nat.le_trans hr.1 hb,fun c h=> ?_⟩,fun c h v hv=> ?_,fun v hv=>(hr.2 v hv).2.1⟩
 ·obtain ⟨-, -, -, -,s,t⟩:=hc c h;exact ⟨Nat.le_trans s.1 hb,Nat.le_trans t.1 hb⟩
 obtain ⟨-, -, -, -,s,t⟩:=hc c h;rcases List.mem_append.1 hv with hv|hv
 ·exact (s.2 v hv).2.1
 exact (t.2 v hv).2.1
theorem z6 (N:Nat)(hN:5000<N)(l:List Int)(hl:l.length≤5000)(x:Int):jw N l x=some (decide (x∈l)):=by
 apply Sat.eq;unfold jw
 have key: ∀(m i:Nat),l.length<m+i→i≤l.length→Sat (jZ N x l m (i:Int)) (· =decide (x∈l.drop i)):=by
  intro m
  induction m with
  |zero=>intro i h h2;omega
  | succ m ih=>
   intro i h h2;rw [jZ.eq_2];by_cases hi:i<l.length
   ·rw [cN Y,ct,bj hi,bs,List.drop_eq_getElem_cons hi]
    refine cG (fun e=> ?_) fun e=> ?_
    ·exact aK (by rw [GB];rw [e];exact List.mem_cons_self ..)
    rw [di Y Y];have:=ih (i+1) Y hi;simp only [Int.natCast_add,Int.cast_ofNat_Int] at this
    refine this.mono fun r hr=> ?_
    rw [hr];have:(x∈l[i]::l.drop (i+1))↔x∈l.drop (i+1):=⟨fun h=>(List.mem_cons.1 h).resolve_left (fun e2=>e e2.symm),List.mem_cons_of_mem _⟩;rw [decide_eq_decide];exact this.symm
   rw [cU Y,cf,List.drop_eq_nil_of_le Y];unfold my;exact aK (by simp)
 exact key N 0 Y Y
theorem uP (N:Nat)(hN:5000<N)(l:List Int)(hl:l.length≤5000)(c:Gw)(cb:Gu)(hcb:c.More[0]? =some cb)(hc:c.More.length≤1000): ∀(m i:Nat) (o t:List Gu),c.More.length<m+i→i≤c.More.length→(c.More.length - i)%4=0→o.length≤i→t.length≤i→dt N l c m o t (i:Int)=jo N c (o++jU l (c.More.drop i)) (t++jR l cb (c.More.drop i))
 |0,i,o,t,h,h2,_,_,_=>by omega
 | m+1,i,o,t,h,h2,h3,h4,h5=>by
  rw [dt.eq_2];by_cases hi:i+4≤c.More.length
  ·obtain ⟨v1,v2,v3,v4,r,hd⟩:=E9 (l:=c.More.drop i) (by rw [List.length_drop];omega)
   have hd4:c.More.drop (i+4)=r:=by rw [←List.drop_drop,hd];rfl
   have g: ∀k:Nat,aH c.More ((i:Int)+(k:Int))=(v1::v2::v3::v4::r)[k]? :=fun k=>by
    rw [←hd,List.getElem?_drop, ←eE,Int.natCast_add]
   have h0:aH c.More 0=some cb:=by
    have:=eE c.More 0;rw [hcb] at this;exact this
   have e0:aH c.More (i:Int)=some v1:=by have:=g 0;simpa using this
   have e1:aH c.More ((i:Int)+1)=some v2:=g 1;have e2:aH c.More ((i:Int)+2)=some v3:=g 2;have e3:aH c.More ((i:Int)+3)=some v4:=g 3
   have step:=fun o' t' (q1:o'.length≤i+4) (q2:t'.length≤i+4)=>uP N hN l hl c cb hcb hc m (i+4) o' t' Y hi Y q1 q2
   rw [show (((i+4:Nat)):Int)=(i:Int)+4 by omega] at step;rw [cN Y,ct,e0,bs,z6 N hN l hl,bs,hd,yz,yf];unfold jm jn;cases decide (v1.N∈l)
   ·simp only [nf,ct,cf,List.nil_append,h0,bs,e1,e3];rw [di Y Y,di Y Y,rF (by simp;omega),di Y Y,step _ _ Y (by simp;omega),hd4,GE]
   simp only [nt,cf,ct,bs,e0,e1,e2,e3,List.nil_append];rw [di Y Y,z6 N hN l hl];cases decide (v3.Kind=7)<;>cases decide (v3.N∈l)<;>simp only [bs,ct,cf,nt,nf,Bool.and_true,Bool.and_false,Bool.true_and,Bool.false_and]<;>(rw [di Y Y,di Y Y,rF (by simp;omega),di Y Y,step _ _ (by simp;omega) Y,hd4];simp [gY])
  rw [cU Y,cf,List.drop_eq_nil_of_le Y];simp [jU,jR]
theorem wq (N:Nat)(hN:5000<N)(l:List Int)(hl:l.length≤5000)(c:Gw)(hS:c.Slots.length≤600)(hc:c.More.length≤600):lh N c l=some (bif qC N c then pL l c else (rx,[])):=by
 obtain ⟨b,hb, -⟩:=ot N Y c Y Y;obtain ⟨-,h2⟩:=zn N Y c Y Y
 have h1:qk N c=some (qC N c):=by
  unfold qk qC;rw [hb];cases decide (c.Kind=10)<;>cases b<;>rfl
 unfold lh;rw [h1,bs];cases hw:qC N c
 ·rfl
 obtain ⟨g1,g2⟩:=h2 hw;simp only [nt,cf,ct]
 have hcb:c.More[0]? =some (c.More.headD gY):=by
  cases hm:c.More with
  |nil=>rw [hm] at g1;simp at g1
  |cons a r=>rfl
 have h0:aH c.More 0=some (c.More.headD gY):=by
  have:=eE c.More 0;rw [hcb] at this;exact this
 have hh:=uP N hN l hl c _ hcb Y N 1 [c.More.headD gY] [] Y g1 g2 (by simp) (by simp);have hh':dt N l c N [c.More.headD gY] [] 1=_:=hh;rw [h0,bs,hh'];unfold jo pE;rw [rF (by simp;omega),bs]
 have ht:c.More.take 1=[c.More.headD gY]:=by
  cases hm:c.More with
  |nil=>rw [hm] at g1;simp at g1
  |cons a r=>rfl
 unfold pL;rw [ht];rfl
def ya (f to:List Int):Prop:=to.length=f.length∧ ∀i,i<f.length→to[i]? =some (2*(i:Int)+2)
theorem zk (N:Nat)(hN:5000<N)(f to:List Int)(hf:f.length≤5000)(ht:ya f to)(v:Gu):jy N v f to=some (nS (uk f) f v):=by
 have key: ∀(m i:Nat),f.length<m+i→i≤f.length→fv N f to v m (i:Int)=some (bif decide (v.N∈f.drop i) then ⟨v.Kind,2*((i+(f.drop i).idxOf v.N:Nat):Int)+2,v.S⟩ else v):=by
  intro m
  induction m with
  |zero=>intro i h h2;omega
  | succ m ih=>
   intro i h h2;rw [fv.eq_2];by_cases hi:i<f.length
   ·have h3:=ih (i+1) Y hi;rw [show (((i+1:Nat)):Int)=(i:Int)+1 by omega] at h3;rw [cN Y,ct,bj hi,bs,List.drop_eq_getElem_cons hi,List.idxOf_cons];by_cases e:f[i]=v.N
    ·have hto:aH to (i:Int)=some (2*(i:Int)+2):=by rw [eE,ht.2 i hi]
     rw [pI e,ct,cN (by rw [ht.1];omega),ct,hto,bs,GB (by rw [e];simp),ct,beq_iff_eq.2 e,ct,Nat.add_zero];rfl
    rw [fF e,cf,di Y Y,h3,beq_eq_false_iff_ne.2 e,cf];by_cases hm:v.N∈f.drop (i+1)
    ·rw [GB hm,GB (List.mem_cons_of_mem _ hm),ct,ct,show i+1+(f.drop (i+1)).idxOf v.N=i+((f.drop (i+1)).idxOf v.N+1) by omega]
    rw [GC hm,GC (fun h=>(List.mem_cons.1 h).elim (fun h=>e h.symm) hm),cf,cf]
   rw [cU Y,cf,List.drop_eq_nil_of_le Y];unfold mB;simp
 have h0:=key N 0 Y Y;unfold jy nS uk;rw [jX,bs];cases cH v
 ·rfl
 rw [nt,cf];rw [List.drop_zero,Nat.zero_add] at h0;rw [show ((0:Nat):Int)=0 from rfl] at h0;rw [h0,Bool.true_and]
theorem xt (N:Nat)(hN:5000<N)(f to:List Int)(hf:f.length≤5000)(ht:ya f to)(c:Gw)(hS:c.Slots.length≤4000)(hc:c.More.length≤4000):jz N c f to=some (wd (uk f) f c):=by
 apply Sat.eq
 have more: ∀p:List Gu,Sat (kd N f to c p) (· =⟨c.Kind,c.Shape,c.Flags,c.Age,p,c.More.map (nS (uk f) f)⟩):=fun p=>by
  unfold kd;refine cm (fun k i (s:List Gu)=>fM N f to c p k (i:Int) s) c.More.length (fun i s=>s=(c.More.take i).map (nS (uk f) f)) _ ?_ ?_ N 0 [] Y Y J
  ·rintro k i s hi h1 go;show Sat (fM N f to c p (k+1) (i:Int) s) _
   have hsl:s.length≤i:=by rw [h1,List.length_map,List.length_take];omega
   rw [fM.eq_2,cN Y,ct,bj hi,bs,zk N hN f to hf ht,bs,rF (by simp;omega),di Y Y];exact go _ (by rw [aY hi,List.map_append,h1];rfl)
  rintro k s h1;show Sat (fM N f to c p (k+1) _ s) _;rw [fM.eq_2,cU Y,cf];unfold lH;exact aK (by rw [h1,List.take_length])
 unfold jz;refine cm (fun k i (s:List Gu)=>fN N f to c k (i:Int) s) c.Slots.length (fun i s=>s=(c.Slots.take i).map (nS (uk f) f)) _ ?_ ?_ N 0 [] Y Y J
 ·rintro k i s hi h1 go;show Sat (fN N f to c (k+1) (i:Int) s) _
  have hsl:s.length≤i:=by rw [h1,List.length_map,List.length_take];omega
  rw [fN.eq_2,cN Y,ct,bj hi,bs,zk N hN f to hf ht,bs,rF (by simp;omega),di Y Y];exact go _ (by rw [aY hi,List.map_append,h1];rfl)
 rintro k s h1;show Sat (fN N f to c (k+1) _ s) _;rw [fN.eq_2,cU Y,cf,h1,List.take_length];exact more _
theorem wQ (N:Nat)(hN:5000<N)(f to:List Int)(hf:f.length≤5000)(ht:ya f to)(l:List Gu)(hl:l.length≤4000):ip N l f to=some (l.map (nS (uk f) f)):=by
 unfold ip;rw [xt N hN f to hf ht _ (by simp) hl,bs];rfl
theorem xi (N:Nat)(hN:5000<N){m:Gx}{roots:List Gu}{live:List Int}(hlive:fu N m roots=some live)(hl:live.length≤2000):
  Sat (ir N m roots) fun r=>r.1=dR live∧ya (dR live) r.2:=by
 obtain ⟨k,rfl⟩: ∃k,N=k+3:=⟨N - 3,by omega⟩;have h1:(live.filter kL).length≤live.length:=List.length_filter_le _ _;have h2:(live.filter rd).length≤live.length:=List.length_filter_le _ _
 have fin: ∀f:List Int,f.length≤4000→Sat (ji (k+3) f) fun r=>r.1=f∧ya f r.2:=fun f hf=>by
  unfold ji;refine cm (fun q i (s:List Int)=>eX (k+3) f q s (i:Int)) f.length (fun i s=>s.length=i∧ ∀j,j<i→s[j]? =some (2*(j:Int)+2)) _ ?_ ?_ (k+3) 0 [] Y Y ⟨J,fun j hj=>absurd hj Y⟩
  ·rintro q i s hi ⟨g1,g2⟩ go;show Sat (eX (k+3) f (q+1) s (i:Int)) _;rw [eX.eq_2,cN Y,ct,di Y Y,di Y Y,rF (by simp;omega),di Y Y];refine go _ ⟨by simp [g1],fun j hj=> ?_⟩;by_cases e:j<i
   ·rw [List.getElem?_append_left Y];exact g2 j e
   have e2:j=i:=by omega
   subst e2;rw [List.getElem?_append_right Y,g1];simp
  rintro q s ⟨g1,g2⟩;show Sat (eX (k+3) f (q+1) s _) _;rw [eX.eq_2,cU Y,cf];unfold kA;exact aK ⟨J,g1,g2⟩
 have pass: ∀(kb:List Int→Int→Option (List Int×List Int)) (b:Int) (hb:0≤b∧b≤2) (f:List Int) (hf:f.length≤2000) (p:Int→Bool) (hp: ∀a,p a=decide (a.tmod 2=b)) (R:List Int×List Int→Prop),Sat (kb (f++live.filter p) (b+1)) R→Sat (dc (k+3) kb b live (k+3) f 0) R:=fun kb b hb f hf p hp R hk=>by
  refine cm (fun q i (s:List Int)=>dc (k+3) kb b live q s (i:Int)) live.length (fun i s=>s=f++(live.take i).filter p) _ ?_ ?_ (k+3) 0 f Y Y (by simp)
  ·rintro q i s hi g1 go;show Sat (dc (k+3) kb b live (q+1) s (i:Int)) _
   have hsl:s.length≤4000:=by
    have h9:((live.take i).filter p).length≤(live.take i).length:=List.length_filter_le _ _;rw [List.length_take] at h9;rw [g1,List.length_append];omega
   rw [dc.eq_2,cN Y,ct,bj hi,bs];unfold iq;rw [←hp live[i]];cases hpi:p live[i]
   ·rw [cf,di Y Y];exact go s (by rw [aY hi,List.filter_append,g1];simp [hpi])
   rw [ct,bs,rF (by simp;omega),di Y Y];exact go _ (by rw [aY hi,List.filter_append,g1];simp [hpi])
  rintro q s g1;show Sat (dc (k+3) kb b live (q+1) s _) _;rw [dc.eq_2,cU Y,cf];unfold kB;rw [di Y Y,g1,List.take_length];exact hk
 unfold ir;rw [hlive,bs,eg.eq_2,cN Y,ct];refine pass _ 0 Y [] (by simp) kL (fun _=>J) _ ?_;rw [eg.eq_2,cN Y,ct];refine pass _ (0+1) Y _ (by simp;omega) rd (fun _=>J) _ ?_;rw [eg.eq_2,cU Y,cf,List.nil_append];have:=fin (dR live) (by unfold dR;rw [List.length_append];omega);exact this
theorem xj: ∀(i:Nat) (l:List Gu),pick (fun i v=> !gy 11 i&&cH v) i l=bF l
 |_,[]=>rfl
 | i,v::l=>by
  have h1:gy 11 i=false:=by unfold gy;rw [fF Y,fF Y];rfl
  have h2:bF (v::l)=(bif cH v then [v.N] else [])++bF l:=by
   unfold bF;rw [List.filter_cons];cases cH v<;>rfl
  rw [i4,xj (i+1) l,h1,h2];rfl
theorem Dg (N:Nat)(hN:5000<N){m:Gx}{roots:List Gu}(hs:Small m roots)(ht:Wtd m roots)(hw:W64 m)(hr: ∀v∈roots,in64 v.N):ld N m roots=some (jd N m roots):=by
 have hle:=ht.le;have hcnt:=ht.cnt;have h3:=hs.roots
 have hall:(m.Young++m.Old).length≤600:=by rw [List.length_append];exact hcnt
 have hwt:wt (m.Young++m.Old)=wt m.Young+wt m.Old:=po _ _
 have a64: ∀x∈(m.Young++m.Old).flatMap fh,in64 x:=fun x hx=>by
  obtain ⟨c,hc,hx⟩:=List.mem_flatMap.1 hx;obtain ⟨⟨-,g1⟩, -,g2⟩:=uF hs hw hc;exact (List.mem_append.1 hx).elim (g1 x) (g2 x)
 have r64': ∀x∈bF roots,in64 x:=fun x hx=>by
  obtain ⟨v,h1, -,rfl⟩:=rq.1 hx;exact hr v h1
 have hal:(bF roots).length≤roots.length:=by
  unfold bF;rw [List.length_map];exact List.length_filter_le _ _
 have hfl: ∀i,((((m.Young++m.Old).take i).flatMap fh).length)≤2*(wt m.Young+wt m.Old):=fun i=>by
  have h1:=nU ((m.Young++m.Old).take i);have h2:=po ((m.Young++m.Old).take i) ((m.Young++m.Old).drop i);rw [List.take_append_drop] at h2;omega
 have last:jg N m (bF roots++(m.Young++m.Old).flatMap fh)=some (bif ii m ((m.Young++m.Old).flatMap fh++bF roots) then 0 else 50):=by
  have hl:=hfl (m.Young++m.Old).length;rw [List.take_length] at hl;unfold jg;rw [vc (fun k i=>gF N (bF roots++(m.Young++m.Old).flatMap fh) m k i) (bF roots++(m.Young++m.Old).flatMap fh) (ci m) (some 50) (some 0) (fun k i h=> ?_) (fun k=> ?_) N (by rw [List.length_append];omega)]
  ·unfold ii;rw [List.all_append,List.all_append,Bool.and_comm];cases ((m.Young++m.Old).flatMap fh).all (ci m)&&(bF roots).all (ci m)<;>rfl
  ·have h6:in64 (bF roots++(m.Young++m.Old).flatMap fh)[i]:=(List.mem_append.1 (List.getElem_mem h)).elim (r64' _) (a64 _);rw [List.length_append] at h;rw [gF.eq_2,cN (by rw [List.length_append];omega),ct,bj (by rw [List.length_append];omega),bs,wl N m _ h6,bs,di Y Y];cases ci m (bF roots++(m.Young++m.Old).flatMap fh)[i]<;>rfl
  show gF N _ m (k+1) _=_;rw [gF.eq_2,cU Y,cf];rfl
 have mid:jh N roots m=some (bif ii m ((m.Young++m.Old).flatMap fh++bF roots) then 0 else 50):=by
  unfold jh;rw [rg N Y _ (by simp) (by show roots.length≤1000;omega),bs]
  have e0:ei (⟨11,0,0,0,[],roots⟩:Gw)=bF roots:=by
   unfold ei;exact xj 0 roots
  rw [e0];apply Sat.eq;refine cm (fun k i (s:List Int)=>fI N m k s (i:Int)) (m.Young++m.Old).length (fun i s=>s=bF roots++((m.Young++m.Old).take i).flatMap fh) _ ?_ ?_ N 0 _ Y Y (by simp)
  ·rintro k i s hi h1 go;show Sat (fI N m (k+1) s (i:Int)) _;have hm:=List.getElem_mem hi;have hc:=hs.cells _ hm;have e1:=kI (m.Young++m.Old)[i];have e2:=kV (m.Young++m.Old)[i]
   have hsl:s.length≤5400:=by have:=hfl i;rw [h1,List.length_append];omega
   rw [fI.eq_2];simp only [List.nil_append];rw [cN Y,ct,bj hi];simp only [bs];rw [rg N Y _ Y Y,bs,rF Y,ye N Y _ Y,bs,rF (by rw [List.length_append];omega),di Y Y];refine go _ ?_;rw [aY hi,List.flatMap_append,h1];simp [fh,GE]
  rintro k s h1;show Sat (fI N m (k+1) s _) _;rw [fI.eq_2];simp only [List.nil_append];rw [cU Y,cf,h1,List.take_length];exact Bi last J
 unfold ld jd;rw [rF (by simp;omega),rF (by simp;omega)];rw [vc (fun k i=>gG N roots m k i) (m.Young++m.Old) (iY N) (some 51) (some (bif ii m ((m.Young++m.Old).flatMap fh++bF roots) then 0 else 50)) (fun k i h=> ?_) (fun k=> ?_) N Y]
 ·cases (m.Young++m.Old).all (iY N)<;>rfl
 ·have hc:=hs.cells _ (List.getElem_mem h);obtain ⟨b,hb, -⟩:=ot N Y (m.Young++m.Old)[i] Y Y
  have hrc:iY N (m.Young++m.Old)[i]=b:=by unfold iY;rw [hb];rfl
  rw [gG.eq_2];simp only [List.nil_append];rw [cN Y,ct,bj h,bs,hb,bs,di Y Y,hrc];cases b<;>rfl
 show gG N roots m (k+1) _=_;rw [gG.eq_2];simp only [List.nil_append];rw [cU Y,cf,mid]
theorem xL (N:Nat)(l:List Int)(c:Gw):(jO N l c).Kind=c.Kind:=by
 unfold jO;cases lI N c<;>rfl
theorem AP (N:Nat)(hN:5000<N){m:Gx}{roots:List Gu}(hs:Small m roots)(ht:Wtd m roots)(hw:W64 m)(hr: ∀v∈roots,in64 v.N){live f:List Int}(hl:Live N m roots live f):jk N m roots=some (lu N m roots live f):=by
 apply Sat.eq;have hle:=ht.le;have hlen:=hl.small;have hfl:=hl.len;unfold jk lu;rw [Dg N hN hs ht hw hr,bs];by_cases h0: ¬jd N m roots=0
 ·rw [fF h0];exact aK J
 replace h0:jd N m roots=0:=by omega
 rw [pI h0];simp only [nt,cf,ct];obtain ⟨c1,c2,c3⟩:=vz h0;obtain ⟨_,_,_,hlv,hff⟩:=hl.ord;obtain ⟨⟨f',to⟩,hp,e1,hev⟩:=xi N hN hl.ref Y;simp only at e1 hev;rw [←hff] at e1 hev;subst e1;rw [hp,bs,hl.ref,bs]
 have hG: ∀a∈f',(qL N live (el m a)).Slots.length≤600∧(qL N live (el m a)).More.length≤600:=fun a ha=>by
  have h1:=sE N live (el m a);have h2:=hs.at_ a;omega
 refine cm (fun k i (s:List Gu×List Gw)=>cp N roots (f',to) m k live s.1 (i:Int) s.2) f'.length (fun i s=>s.2=(f'.take i).map (fun a=>wd (uk f') f' (qL N live (el m a)))∧s.1=(f'.take i).flatMap fun a=>ni live (el m a)) _ ?_ ?_ N 0 ([],[]) Y Y ⟨by simp,by simp⟩
 ·rintro k i ⟨q,p⟩ hi ⟨h1,h2⟩ go;simp only at h1 h2;show Sat (cp N roots (f',to) m (k+1) live q (i:Int) p) _;have ham:f'[i]∈f':=List.getElem_mem hi
  have hpl:p.length≤2000:=by rw [h1,List.length_map,List.length_take];omega
  have hql:q.length≤2400:=by have:=iW hl i;rw [h2];omega
  have hq2:=iW hl (i+1);have hat:=yY N m f'[i] (zo hs (hl.fhas ham));have hsm:=hs.at_ f'[i];have hrt:=c1 _ (zY (hl.fhas ham));have hc:=hG _ ham;rw [aY hi,List.flatMap_append, ←h2,List.length_append] at hq2;simp only [List.flatMap_cons,List.flatMap_nil,List.append_nil] at hq2
  -- the last part
  have last:Sat (fC N (cp N roots (f',to) m k) (i:Int) roots (f',to) live m p (q++ni live (el m f'[i])) (qL N live (el m f'[i])).Kind (qL N live (el m f'[i])).Shape (qL N live (el m f'[i])).Flags (qL N live (el m f'[i])).Age (qL N live (el m f'[i])).Slots (qL N live (el m f'[i])).More) (· =lu N m roots live f'):=by
   unfold fC;rw [xt N hN f' to Y hev _ (by show (qL N live (el m f'[i])).Slots.length≤4000;omega) (by show (qL N live (el m f'[i])).More.length≤4000;omega),bs,rF (by simp;omega),di Y Y];unfold lu;rw [pI h0];refine go (_,_) ⟨?_,?_⟩
   ·rw [aY hi,List.map_append, ←h1];rfl
   rw [aY hi,List.flatMap_append, ←h2];simp
  rw [cp.eq_2,cN (by show (i:Int)<(f'.length:Int);omega),ct,bj hi,bs,hat,bs];unfold lu at last;rw [pI h0] at last;unfold qL ni at last;unfold ni at hq2;by_cases h8:(el m f'[i]).Kind=8
  ·have hwm:lI N (el m f'[i])=true:=by unfold lI;rw [GB h8];exact hrt
   rw [pI h8,ct,AQ N hN live Y _ hsm.1 hsm.2,bs,hwm,ct];rw [GB h8,GC (p:=(el m f'[i]).Kind=10) Y] at last;simp only [cond_true,cond_false,List.append_nil] at last;unfold fD;rw [fF (by rw [xL];omega),cf];exact last
  rw [fF h8,cf];unfold fD;by_cases h10:(el m f'[i]).Kind=10
  ·have hwm:qC N (el m f'[i])=true:=by unfold qC;rw [GB h10];exact hrt
   rw [pI h10,ct,wq N hN live Y _ hsm.1 hsm.2,bs,hwm,ct];rw [GB h10] at hq2;rw [GC h8,GB h10] at last;simp only [cond_true,cond_false] at last hq2;rw [rF Y];exact last
  rw [fF h10,cf];rw [GC h8,GC h10] at last;simp only [cond_true,cond_false,List.append_nil] at last;exact last
 rintro k ⟨q,p⟩ ⟨h1,h2⟩;simp only at h1 h2;show Sat (cp N roots (f',to) m (k+1) live q _ p) _;rw [List.take_length] at h1 h2;have hrl:=hs.roots
 have hql:q.length≤2400:=by have:=iW hl f'.length;rw [List.take_length] at this;rw [h2];omega
 rw [cp.eq_2,cU (by show (f'.length:Int)≤_;omega),cf];unfold jJ;rw [wQ N hN f' to Y hev roots Y,bs,wQ N hN f' to Y hev q Y,bs];refine aK ?_;unfold xK;rw [h1,h2]
theorem uy {m:Gx}{roots:List Gu}(hb:Bnd 140737488355328 m roots)(hw:W64 m)(hr: ∀v∈roots,in64 v.N):eP 6000 m roots=some true:=by
 have hN:5000<6000:=by decide
 unfold eP;obtain ⟨b,hfew,hbs⟩:=Db 6000 hN hb;rw [hfew,bs]
 cases b with
 |false=>rw [nf,ct,rT];rfl
 |true=>
 have h6:=hbs rfl;have hs:=h6.small;have ht:=h6.wtd;have hle:=ht.le;have hcnt:=ht.cnt;obtain ⟨live,f,hl⟩:=C3 6000 hN hs hw hr;have hlen:=hl.small;have hfl:=hl.len;obtain ⟨_,_,_,hlv,hff⟩:=hl.ord;obtain ⟨⟨p1,p2⟩,hp,e1,e2,e3⟩:=xh 6000 hN hl.prog Y;obtain ⟨⟨q1,q2⟩,hq,g1,g2,g3⟩:=xi 6000 hN hl.ref Y;simp only at e1 e2 e3 g1 g2 g3;rw [←hff] at e1 e2 e3 g1 g2 g3
 have epq:p2=q2:=by
  apply List.ext_getElem?;intro i;by_cases hi:i<f.length
  ·rw [e3 i hi,g3 i hi]
  rw [List.getElem?_eq_none Y,List.getElem?_eq_none Y]
 subst epq e1 g1;rw [nt,cf,yJ 6000 hN hs,bs,wv 6000 hN hs ht hw hr hl,bs,AP 6000 hN hs ht hw hr hl,bs,hp,bs,hq,bs]
 -- sizes
 have hsz:(lu 6000 m roots live q1).1.Young=[]∧(lu 6000 m roots live q1).1.Old.length≤2000∧(∀c∈(lu 6000 m roots live q1).1.Old,c.Slots.length≤5000∧c.More.length≤5000)∧(lu 6000 m roots live q1).2.1.length≤5000∧(lu 6000 m roots live q1).2.2.1.length≤5000:=by
  unfold lu;cases decide (jd 6000 m roots=0)
  ·simp
  have h5:=iW hl q1.length;rw [List.take_length] at h5;have h7:=hs.roots;refine ⟨J,?_,fun c hc=> ?_,?_,?_⟩
  ·show (q1.map _).length≤2000;rw [List.length_map];omega
  ·obtain ⟨a,ha,rfl⟩:=List.mem_map.1 (show c∈q1.map fun a=>wd (uk q1) q1 (qL 6000 live (el m a)) from hc);have h8:=sE 6000 live (el m a);have h9:=hs.at_ a;unfold wd;simp only [List.length_map];omega
  ·show (roots.map _).length≤5000;rw [List.length_map];omega
  show ((q1.flatMap fun a=>ni live (el m a)).map _).length≤5000;rw [List.length_map];omega
 generalize lu 6000 m roots live q1=C at*;obtain ⟨z1,z2,z3,z4,z5⟩:=hsz
 have k1: ∀l:List Gw,l.length≤5000→(∀c∈l,c.Slots.length≤5000∧c.More.length≤5000)→dv 6000 l l=some true:=fun l h1 h2=>by
  rw [Dh 6000 l l Y h1 hN h2,GB rfl]
 have k2: ∀l:List Gu,l.length≤5000→bM 6000 l l=some true:=fun l h1=>by
  rw [Bj 6000 l l Y h1,GB rfl]
 have k3: ∀l:List Int,l.length≤5000→ck 6000 l l=some true:=fun l h1=>by
  rw [Ek 6000 l l Y h1,GB rfl]
 rw [pI (a:=C.2.2.2) (b:=C.2.2.2) rfl,nt,cf,z1,k1 [] (by simp) (fun c hc=>by cases hc)];simp only [bs,nt,cf];rw [k1 _ Y z3];simp only [bs,nt,cf];rw [k2 _ z4];simp only [bs,nt,cf];rw [k2 _ z5];simp only [bs,nt,cf];rw [k3 q1 Y];simp only [bs,nt,cf];rw [k3 p2 Y];simp only [bs,nt,cf]
 -- the stores do not show
 have fin:eo 6000 m m=some true:=by
  unfold eo
  have hy: ∀c∈m.Young,c.Slots.length≤5000∧c.More.length≤5000:=fun c hc=>by have:=hs.cells c (GF _ hc);omega
  have ho: ∀c∈m.Old,c.Slots.length≤5000∧c.More.length≤5000:=fun c hc=>by have:=hs.cells c (GG _ hc);omega
  rw [k1 m.Young Y hy,bs,ct,k1 m.Old Y ho];simp only [bs,ct];rw [rT];rfl
 apply Sat.eq;refine vb (fun k i=>bp 6000 C m m k (i:Int)) C.1.Old.length (fun _=>True) _ (fun k i hi _ go=> ?_) (fun k _=> ?_) 6000 0 Y Y trivial
 ·show Sat (bp 6000 C m m (k+1) (i:Int)) _;have hme:=(z3 _ (List.getElem_mem hi)).2
  have hlm:i<(List.map (fun x:Gw=>x.More.length) C.1.Old).length:=by rw [List.length_map];exact hi
  rw [bp.eq_2,cN Y,ct,bj hlm,bs,List.getElem_map];refine vb (fun q j=>cI 6000 (bp 6000 C m m k) (i:Int) C C.1.Old[i].More.length m m q (j:Int)) C.1.Old[i].More.length (fun _=>True) _ (fun q j hj _ go2=> ?_) (fun q _=> ?_) 6000 0 Y Y trivial
  ·show Sat (cI 6000 (bp 6000 C m m k) (i:Int) C C.1.Old[i].More.length m m (q+1) (j:Int)) _;rw [cI.eq_2,cN Y,ct,bj hlm,bs,List.getElem_map,kx ⟨by omega,by omega⟩,di Y Y];exact go2 trivial
  show Sat (cI 6000 (bp 6000 C m m k) (i:Int) C C.1.Old[i].More.length m m (q+1) _) _;rw [cI.eq_2,cU Y,cf];unfold fQ;rw [di Y Y];exact go trivial
 show Sat (bp 6000 C m m (k+1) _) _;rw [bp.eq_2,cU Y,cf];exact Bi fin J
theorem ux (m:Gx)(roots:List Gu)(hm:mm m)(hr:Ef (fun z=>kh z) roots):eP 6000 m roots=some true:=by
 obtain ⟨h1,h2,h3⟩:=Bo m roots hm hr;exact uy h1 h2 h3
end Go.Proofs.YtmimkglhbmcokaaGreat