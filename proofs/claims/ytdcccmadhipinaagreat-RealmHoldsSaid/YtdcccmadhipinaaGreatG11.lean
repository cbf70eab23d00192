/- Merged texts: part 11. No conditions of their own. -/
import Derived.Test.YtdcccmadhipinaaGreatG10
import Derived.IntWalk
namespace Go.Proofs.YtdcccmadhipinaaGreat
section
open Go.RowKit
def lx:SR:=⟨0,0,⟨#[]⟩⟩
def ew (l:List Int):List SR→List SR
 |t::h::k::s::r=>(bif decide (t.N∈l) then [t,h,(bif decide (k.Kind=7)&& !decide (k.N∈l) then lx else k),s] else [])++ew l r
 |_=> []
def ly (l:List Int)(cb:SR):List SR→List SR
 |t::h::_::s::r=>(bif decide (t.N∈l) then [] else [cb,h,s])++ly l cb r
 |_=> []
theorem tt (l:List Int)(t h k s:SR)(r:List SR):ew l (t::h::k::s::r)=(bif decide (t.N∈l) then [t,h,(bif decide (k.Kind=7)&& !decide (k.N∈l) then lx else k),s] else [])++ew l r:=Eq.trans rfl rfl
theorem HL (l:List Int)(cb t h k s:SR)(r:List SR):ly l cb (t::h::k::s::r)=(bif decide (t.N∈l) then [] else [cb,h,s])++ly l cb r:=Eq.trans rfl rfl
theorem vL (p:Int→Bool)(k v:SR)(r:List SR):io p (k::v::r)=(bif p k.N then [k,v] else [])++io p r:=Eq.trans rfl rfl
theorem LY (l:List Int)(cb:SR): ∀xs:List SR,(ew l xs).length+(ly l cb xs).length≤xs.length
 | []=>by simp [ew,ly]
 | [_]=>by simp [ew,ly]
 | [_,_]=>by simp [ew,ly]
 | [_,_,_]=>by simp [ew,ly]
 |t::h::k::s::r=>by
  have:=LY l cb r;unfold ew ly;cases decide (t.N∈l)<;>simp<;>omega
def vM (l:List Int)(c:Ta):Ta×List SR:=(⟨c.Kind,c.Shape,c.Flags,c.Age,c.Slots,c.More.take 1++ew l (c.More.drop 1)⟩,ly l (c.More.headD lx) (c.More.drop 1))
theorem four {l:List SR}(h:4≤l.length): ∃t a k s r,l=t::a::k::s::r:=by
 match l,h with
 |t::a::k::s::r,_=>exact ⟨t,a,k,s,r,rfl⟩
theorem G8 (N:Nat)(hN:5000<N)(l:List Int)(p:List (Int×Bool))(hp: ∀x,(lk p x).getD false=decide (x∈l))(c y:Ta)(cb:SR)(hcb:c.More[0]? =some cb)(hc:c.More.length≤1000): ∀(m i:Nat) (o t:List SR),c.More.length<m+i→i≤c.More.length→(c.More.length - i)%4=0→o.length≤i→t.length≤i→fU N (cY (fun x st=>ft N c p y x st)) c m (i:Int) (none,(o,t))=some (none,(o++ew l (c.More.drop i),t++ly l cb (c.More.drop i)))
 |0,i,o,t,h,h2,_,_,_=>by omega
 | m +1,i,o,t,h,h2,h3,h4,h5=>by
  rw [fU.eq_2,r64 (a:=(i:Int)+4) V V];by_cases hi:i+4≤c.More.length
  ·obtain ⟨v1,v2,v3,v4,r,hd⟩:=four (l:=c.More.drop i) (by rw [List.length_drop];omega)
   have hd4:c.More.drop (i+4)=r:=by rw [←List.drop_drop,hd];rfl
   have hx:(c.More.drop (i:Int).toNat).take (((i:Int)+4).toNat - (i:Int).toNat)=[v1,v2,v3,v4]:=by
    rw [Int.toNat_natCast,show ((i:Int)+4).toNat - i=4 by omega,hd];rfl
   have h0:aF c.More 0=some cb:=by
    have:=lW c.More 0;rw [hcb] at this;exact this
   have e0:aF [v1,v2,v3,v4] 0=some v1:=rfl;have e1:aF [v1,v2,v3,v4] 1=some v2:=rfl;have e2:aF [v1,v2,v3,v4] 2=some v3:=rfl;have e3:aF [v1,v2,v3,v4] 3=some v4:=rfl;rw [LW V,ct,r64 V V,r64 V V,kw ⟨by omega,by omega,by omega,by omega⟩,hx]
   have hb:cY (fun x st=>ft N c p y x st) ((i:Int),[v1,v2,v3,v4]) (none,(o,t))=some (true,(none,(o++(bif decide (v1.N∈l) then [v1,v2,(bif decide (v3.Kind=7)&& !decide (v3.N∈l) then lx else v3),v4] else []),t++(bif decide (v1.N∈l) then [] else [cb,v2,v4])))):=by
    unfold cY ft;simp only [e0,e1,e2,e3,bs,hp,h0];unfold lp;simp only [e0,e1,e2,e3,bs];cases decide (v1.N∈l)
    ·simp only [nf,ct,cf,List.append_nil];rw [rF (by simp;omega)];rfl
    simp only [nt,ct,cf,List.append_nil];rw [rF (by simp;omega),rF (by simp;omega)];cases decide (v3.Kind=7)<;>cases decide (v3.N∈l)<;>rfl
   rw [hb,bs];simp only [nt,cf];rw [r64 V V];have:=G8 N hN l p hp c y cb hcb hc m (i+4) (o++(bif decide (v1.N∈l) then [v1,v2,(bif decide (v3.Kind=7)&& !decide (v3.N∈l) then lx else v3),v4] else [])) (t++(bif decide (v1.N∈l) then [] else [cb,v2,v4])) V hi V (by cases decide (v1.N∈l)<;>simp<;>omega) (by cases decide (v1.N∈l)<;>simp<;>omega);rw [show (((i+4:Nat)):Int)=(i:Int)+4 by omega] at this;rw [this,hd4,hd,Tl,Tl];rfl
  rw [LX V,cf,List.drop_eq_nil_of_le V];simp [ew,ly]
theorem N5 (N:Nat)(hN:2000<N)(c:Ta)(hS:c.Slots.length≤1000)(hc:c.More.length≤1000):rB N c=some (Dk N c)∧(Dk N c=true→1≤c.More.length∧(c.More.length - 1)%4=0):=by
 obtain ⟨b,hb,hb2⟩:=Ac N hN c hS hc;unfold rB Dk;rw [uK N hN c hS hc,hb];refine ⟨by cases decide (c.Kind=10)<;>cases b<;>rfl,fun h=> ?_⟩;rw [Bool.and_eq_true,decide_eq_true_eq] at h;exact (hb2 h.2).2 h.1
theorem xx (N:Nat)(hN:5000<N)(l:List Int)(hl:l.length≤5000)(c:Ta)(hS:c.Slots.length≤600)(hc:c.More.length≤600):jm N c l=some (bif Dk N c then vM l c else (Eg,[])):=by
 obtain ⟨h1,h2⟩:=N5 N V c V V;unfold jm;rw [h1,bs];cases hw:Dk N c
 ·rfl
 obtain ⟨g1,g2⟩:=h2 hw;simp only [nt,cf,ct]
 have hcb:c.More[0]? =some (c.More.headD lx):=by
  cases hm:c.More with
  |nil=>rw [hm] at g1;simp at g1
  |cons a r=>rfl
 apply Sat.eq;refine cX (fun k i (s:List (Int×Bool))=>gN N l c k (i:Int) s) l.length (fun i s=> ∀x,(lk s x).getD false=decide (x∈l.take i)) _ ?_ ?_ N 0 [] V V (fun x=>by simp;rfl)
 ·intro k i s hi h3 go;show Sat (gN N l c (k+1) (i:Int) s) _;rw [gN.eq_2,cJ V,ct,br hi,bs,r64 V V]
  refine go _ fun x=> ?_
  rw [GS,bh hi];by_cases e:l[i]=x
  ·rw [if_pos e,Ti (by simp [e])];rfl
  rw [if_neg e,h3 x];by_cases hm:x∈l.take i
  ·rw [Ti hm,Ti (Tn _ hm)]
  rw [Tj hm,Tj (by simp only [List.mem_append,List.mem_singleton];exact fun h=>h.elim hm fun h=>e h.symm)]
 intro k s h3;show Sat (gN N l c (k+1) _ s) _;rw [List.take_length] at h3;rw [gN.eq_2,cK V,cf];unfold oq rY cR oo lJ
 have h0:aF c.More 0=some (c.More.headD lx):=by
  have:=lW c.More 0;rw [hcb] at this;exact this
 rw [rF (by simp;omega),bs,h0,bs,bs,bs];have:=G8 N hN l s h3 c ⟨c.Kind,c.Shape,c.Flags,c.Age,[]++c.Slots,[c.More.headD lx]⟩ _ hcb V N 1 [c.More.headD lx] [] V g1 g2 (by simp) (by simp);have this':fU N (cY (fun x st=>ft N c s ⟨c.Kind,c.Shape,c.Flags,c.Age,[]++c.Slots,[c.More.headD lx]⟩ x st)) c N 1 (none,([c.More.headD lx],[]))=_:=this;rw [this',bs];refine aQ ?_
 have ht:c.More.take 1=[c.More.headD lx]:=by
  cases hm:c.More with
  |nil=>rw [hm] at g1;simp at g1
  |cons a r=>rfl
 unfold vM;rw [ht];rfl
def uh (a:Int):Bool:=decide (a.tmod 2=0)
def D7 (a:Int):Bool:=decide (a.tmod 2=1)
def nh (live:List Int):List Int:=live.filter uh++live.filter D7
theorem wx {p:Int→Bool}: ∀{l:List Int} {i:Nat} (hi:i<l.length),p l[i]=true→(l.filter p)[((l.take i).filter p).length]? =some l[i]
 |x::l,0,hi,h=>by
  simp only [List.getElem_cons_zero] at h;simp [h]
 |x::l,i+1,hi,h=>by
  simp only [List.getElem_cons_succ] at h;have ih:=wx (l:=l) (i:=i) (by simpa using hi) h;rw [List.take_succ_cons]
  cases hx:p x with
  |true=>simp only [List.filter_cons,hx,if_true,List.length_cons,List.getElem?_cons_succ,List.getElem_cons_succ];exact ih
  |false=>simp only [List.filter_cons,hx,Bool.false_eq_true,if_false,List.getElem_cons_succ];exact ih
theorem G9 {p:Int→Bool}{l:List Int}{i:Nat}(hi:i<l.length):((l.take (i+1)).filter p).length=((l.take i).filter p).length+(bif p l[i] then 1 else 0):=by
 rw [bh hi,List.filter_append,List.length_append];cases h:p l[i]<;>simp [h]
theorem CU (N:Nat){σ:Type}(φ:Int×Int→σ→Option (Option Exit×σ))(live:List Int)(hl:live.length≤2000)(hN:5000<N)(kb:Int→Int→Option Exit×σ→Option (Option Exit×σ))(b:Int)(p:Int→Bool)(hp: ∀a,p a=decide (a.tmod 2=b))(p6:Int)(h6:0≤p6∧p6≤2)(n0:Nat)(hn0:n0≤2000)
  (Inv:Nat→σ→Prop) (R:Option Exit×σ→Prop)
  (hstep: ∀i (hi:i<live.length) s,p live[i]=true→Inv (n0+((live.take i).filter p).length) s→Sat (φ (((n0+((live.take i).filter p).length:Nat):Int),live[i]) s) fun r=>r.1=none∧Inv (n0+((live.take i).filter p).length+1) r.2)
  (hk: ∀s,Inv (n0+(live.filter p).length) s→Sat (kb ((n0+(live.filter p).length:Nat):Int) (p6+1) (none,s)) R) (s:σ) (hs:Inv n0 s):Sat (da N kb (cY φ) b p6 live N (n0:Int) 0 (none,s)) R:=by
 have hfl: ∀i,((live.take i).filter p).length≤2000:=fun i=>Nat.le_trans (List.length_filter_le _ _) (by rw [List.length_take];omega)
 refine cX (fun k i (st:Nat×σ)=>da N kb (cY φ) b p6 live k (st.1:Int) (i:Int) (none,st.2)) live.length (fun i st=>st.1=n0+((live.take i).filter p).length∧Inv st.1 st.2) _ ?_ ?_ N 0 (n0,s) V V ⟨by simp,hs⟩
 ·rintro k i ⟨n,st⟩ hi ⟨h1,h2⟩ go;simp only at h1 h2;have hb:=hfl i;show Sat (da N kb (cY φ) b p6 live (k+1) (n:Int) (i:Int) (none,st)) _;have hnx:=G9 (p:=p) hi;rw [da.eq_2,cJ V,ct,br hi,bs, ←hp];unfold jN;rw [r64 (a:=(i:Int)+1) V V];cases hq:p live[i]
  ·simp only [nf,ct];rw [hq] at hnx;have hg:=go (n,st) ⟨by show n=_;rw [hnx];exact h1,h2⟩
   first|rw [r64 (a:=(i:Int)+1) V V]|skip
   exact hg
  simp only [nt,cf];rw [hq] at hnx;obtain ⟨⟨e,s'⟩,g1,g2,g3⟩:=hstep i hi st hq (by rw [←h1];exact h2);simp only at g2 g3;subst g2
  have hf:cY φ ((n:Int),live[i]) (none,st)=some (true,(none,s')):=by
   unfold cY;simp only;rw [h1,g1];rfl
  rw [hf,bs];simp only [nt,cf];rw [r64 (a:=(n:Int)+1) V V];have hg:=go (n+1,s') ⟨by show n+1=_;rw [hnx];show n+1=_+(_+1);omega,by show Inv (n+1) s';rw [h1];exact g3⟩
  first|rw [r64 (a:=(i:Int)+1) V V]|skip
  exact hg
 rintro k ⟨n,st⟩ ⟨h1,h2⟩;simp only [List.take_length] at h1 h2;show Sat (da N kb (cY φ) b p6 live (k+1) (n:Int) _ (none,st)) _;rw [da.eq_2,cK V,cf];unfold np;rw [r64 V V,h1];exact hk st (by rw [←h1];exact h2)
theorem CV (N:Nat){σ:Type}(φ:Int×Int→σ→Option (Option Exit×σ))(live:List Int)(hl:live.length≤2000)(hN:5000<N)
  (Inv:Nat→σ→Prop) (hstep: ∀n a s,(nh live)[n]? =some a→Inv n s→Sat (φ ((n:Int),a) s) fun r=>r.1=none∧Inv (n+1) r.2) (s:σ) (hs:Inv 0 s):Sat (eu N live (cY φ) (none,s)) fun r=>r.1=none∧Inv (nh live).length r.2:=by
 obtain ⟨k,rfl⟩: ∃k,N=k+3:=⟨N - 3,by omega⟩;have hev:(live.filter uh).length≤2000:=Nat.le_trans (List.length_filter_le _ _) hl;unfold eu;rw [eR.eq_2,show ((([0,1]:List Int).length:Int))=2 from rfl,cJ V,ct,show aF ([0,1]:List Int) 0=some 0 from rfl,bs];refine CU (k+3) φ live hl V _ 0 uh (fun _=>J) 0 V 0 V Inv _ (fun i hi st hp hi2=> ?_) (fun st hst=> ?_) s hs
 ·refine hstep _ _ _ ?_ hi2;unfold nh;rw [List.getElem?_append_left]
  ·rw [Nat.zero_add];exact wx hi hp
  have:=(List.getElem?_eq_some_iff.1 (wx hi hp)).1;omega
 rw [eR.eq_2,show ((([0,1]:List Int).length:Int))=2 from rfl,cJ V,ct,show aF ([0,1]:List Int) (0+1)=some 1 from rfl,bs];refine CU (k+3) φ live hl V _ 1 D7 (fun _=>J) (0+1) V (0+(live.filter uh).length) V Inv _ (fun i hi st hp hi2=> ?_) (fun st hst=> ?_) st hst
 ·refine hstep _ _ _ ?_ hi2;unfold nh;rw [List.getElem?_append_right V,show 0+(live.filter uh).length+((live.take i).filter D7).length - (live.filter uh).length=((live.take i).filter D7).length by omega];exact wx hi hp
 rw [eR.eq_2,show ((([0,1]:List Int).length:Int))=2 from rfl,cK V,cf];refine aQ ⟨J,?_⟩;unfold nh;rw [List.length_append]
 have e:0+(live.filter uh).length+(live.filter D7).length=(live.filter uh).length+(live.filter D7).length:=by omega
 rw [←e];exact hst
def RL (ha hb:Int→Bool)(A B:List Int)(v w:SR):Bool:=
 bif !bI v|| !bI w then decide (v=w)
 else decide (v.Kind=w.Kind)&&(v.S.toList==w.S.toList)&&(bif !decide (v.N∈A)|| !decide (w.N∈B) then !decide (v.N∈A)&& !decide (w.N∈B)&&(ha v.N==hb w.N) else decide (A.idxOf v.N=B.idxOf w.N))
def ME (ha hb:Int→Bool)(A B:List Int)(x y:List SR):Bool:=decide (x.length=y.length)&&(x.zip y).all fun p=>RL ha hb A B p.1 p.2
def Re (ha hb:Int→Bool)(A B:List Int)(c d:Ta):Bool:=decide (c.Kind=d.Kind)&&decide (c.Shape=d.Shape)&&decide (c.Flags=d.Flags)&&ME ha hb A B c.Slots d.Slots&&ME ha hb A B c.More d.More
def RO (N:Nat)(a:SP)(x:List SR)(A:List Int)(b:SP)(y:List SR)(B:List Int):Bool:=
 decide (A.length=B.length)&&ME (bw a) (bw b) A B x y&&(A.zip B).all fun p=>Re (bw a) (bw b) A B (nB N A (cc a p.1)) (nB N B (cc b p.2))
def So (kv:List (Int×Int))(l:List Int):Prop:= ∀x,lk kv x=if x∈l then some (l.idxOf x:Int) else none
structure SideOk (m:SP) (x:List SR) (A:List Int):Prop where
 small:Small m x
 w64:W64 m
 x64: ∀v∈x,in64 v.N
 len:A.length≤1200
 nd:A.Nodup
 has: ∀a∈A,bw m a=true
theorem KR {v w:SR}(h:v.Kind=w.Kind):bI v=bI w:=by unfold bI;rw [h]
def Q5 (p:Int→Bool):List SR→List Bool
 |k::_::r=>p k.N::Q5 p r
 |_=> []
def cI (c:Ta):List Int:=cA c++ko c
def pe (N:Nat)(c:Ta):Bool:=(cW N c).getD false
theorem Lb (c:Ta):(cI c).length≤c.Slots.length+2*c.More.length:=by
 have h1:=jO c;have h2:=mC c;unfold cI;rw [List.length_append];omega
theorem zu: ∀l:List Ta,(l.flatMap cI).length≤2*wt l
 | []=>by simp [wt]
 |c::l=>by
  have h1:=zu l;have h2:=Lb c;rw [List.flatMap_cons,List.length_append,wt];omega
theorem Ib (N:Nat)(m:SP)(l:List Int)(hl:l.length<N)(hl2:l.length≤5000)(h64: ∀x∈l,in64 x):bC N l (fun x=>gM N x m)=some (!dp m l):=by
 have key: ∀k i:Nat,l.length<k+i→i≤l.length→Sat (dF N (fun x=>gM N x m) l k (i:Int)) fun r=>decide (0≤r)=!(l.drop i).all (bw m):=by
  intro k
  induction k with
  |zero=>intro i h1 h2;omega
  | succ k ih=>
   intro i h1 h2;rw [dF.eq_2];by_cases hi:i<l.length
   ·have h3:=ih (i+1) V hi;rw [show (((i+1:Nat)):Int)=(i:Int)+1 by omega] at h3;rw [cJ V,ct,br hi,bs,List.drop_eq_getElem_cons hi,List.all_cons];unfold gM;rw [sM N m _ (h64 _ (List.getElem_mem _)),bs,bs,r64 V V];cases bw m l[i]
    ·exact aQ (by rw [Ti V];rfl)
    exact h3
   rw [cK V,cf,List.drop_eq_nil_of_le V];exact aQ J
 obtain ⟨r,h1,h2⟩:=key N 0 V V;have h1':dF N (fun x=>gM N x m) l N 0=some r:=h1;unfold bC jB;rw [h1',bs,h2];unfold dp;simp
def lL (N:Nat)(m:SP)(roots:List SR):Int:=
 bif (m.Young++m.Old).all (pe N) then bif dp m ((m.Young++m.Old).flatMap cI++bZ roots) then 0 else 50 else 51
theorem DH (N:Nat)(hN:5000<N){m:SP}{roots:List SR}(hs:Small m roots)(ht:Wtd m roots)(hw:W64 m)(hr: ∀v∈roots,in64 v.N):kh N m roots=some (lL N m roots):=by
 have hle:=ht.le;have h1:=hs.young;have h2:=hs.old;have h3:=hs.roots
 have a64: ∀(l:List Ta),(∀c∈l,c∈m.Young++m.Old)→ ∀x∈l.flatMap cI,in64 x:=fun l hl x hx=>by
  obtain ⟨c,hc,hx⟩:=List.mem_flatMap.1 hx;obtain ⟨⟨-,g1⟩, -,g2⟩:=zZ hs hw (hl c hc);exact (List.mem_append.1 hx).elim (g1 x) (g2 x)
 have r64': ∀x∈bZ roots,in64 x:=fun x hx=>by
  obtain ⟨v,h1, -,rfl⟩:=lw.1 hx;exact hr v h1
 have hal: ∀k,(bZ (roots.take k)).length≤roots.length:=fun k=>by
  unfold bZ;rw [List.length_map];exact Nat.le_trans (List.length_filter_le _ _) (by rw [List.length_take];omega)
 -- the roots
 have hroots: ∀q:List Int,q.length+roots.length≤4800→(∀x∈q,in64 x)→nr N roots m q=some (bif dp m (q++bZ roots) then 0 else 50):=by
  intro q hq q64;apply Sat.eq;unfold nr;refine cX (fun k i (s:List Int)=>fd N roots m k s (i:Int)) roots.length (fun i s=>s=q++bZ (roots.take i)) _ ?_ ?_ N 0 q V V (by simp [bZ])
  ·rintro k i s hi h1 go;show Sat (fd N roots m (k+1) s (i:Int)) _
   have hnext:q++bZ (roots.take (i+1))=s++bZ [roots[i]]:=by rw [bh hi,wH,h1,Tl]
   have hsl:s.length≤4800:=by have:=hal i;rw [h1,List.length_append];omega
   rw [fd.eq_2,cJ V,ct,br hi,bs,qJ,bs];unfold me;cases hb:bI roots[i]
   ·rw [cf,r64 V V];exact go s (by rw [hnext];simp [bZ,hb])
   rw [ct,rF (by simp;omega),r64 V V];exact go _ (by rw [hnext];simp [bZ,hb])
  rintro k s h1;show Sat (fd N roots m (k+1) s _) _;rw [List.take_length] at h1
  have hsl:s.length≤4800:=by have:=hal roots.length;rw [List.take_length] at this;rw [h1,List.length_append];omega
  rw [fd.eq_2,cK V,cf];unfold pj;rw [Ib N m s V V (fun x hx=>by rw [h1] at hx;exact (List.mem_append.1 hx).elim (q64 x) (r64' x)),bs, ←h1];cases dp m s<;>exact aQ rfl
 -- one row
 have row: ∀(kb:List Int→Int→Option Int) (p:Int) (l:List Ta) (q:List Int),in64 (p+1)→l.length≤600→wt l≤2400→(∀c∈l,c∈m.Young++m.Old)→q.length≤5000→jZ N kb m p l roots N q 0=bif l.all (pe N) then kb (q++l.flatMap cI) (p+1) else some 51:=by
  intro kb p l q hp hll hl hl2 hq
  have key: ∀(k i:Nat),l.length<k+i→i≤l.length→jZ N kb m p l roots k (q++(l.take i).flatMap cI) (i:Int)=bif (l.drop i).all (pe N) then kb (q++l.flatMap cI) (p+1) else some 51:=by
   intro k
   induction k with
   |zero=>intro i h1 h2;omega
   | succ k ih=>
    intro i h4 h5;have hfl:=zu (l.take i)
    have hwt:wt (l.take i)≤wt l:=by
     have:=Cf (l.take i) (l.drop i);rw [List.take_append_drop] at this;omega
    by_cases hi:i<l.length
    ·have hm:=hl2 l[i] (List.getElem_mem _);have hc:=hs.cells _ hm;have hwi:=NA hi
     have hwt2:wt (l.take (i+1))≤wt l:=by
      have:=Cf (l.take (i+1)) (l.drop (i+1));rw [List.take_append_drop] at this;omega
     obtain ⟨b,hb, -⟩:=Ac N V l[i] V V
     have hrc:pe N l[i]=b:=by unfold pe;rw [hb];rfl
     have e1:=jO l[i];have e2:=mC l[i];have h6:=ih (i+1) V hi;rw [show (((i+1:Nat)):Int)=(i:Int)+1 by omega] at h6;rw [jZ.eq_2,cJ V,ct,br hi,bs,uK N V _ V V,hb,bs,mu N V _ V V,bs,List.length_append,rF V,rc N V _ V V,bs,List.length_append,List.length_append,rF V,r64 V V]
     have hap:q++(l.take i).flatMap cI++cA l[i]++ko l[i]=q++(l.take (i+1)).flatMap cI:=by
      rw [bh hi,List.flatMap_append];simp [cI,Tl]
     rw [hap,h6,List.drop_eq_getElem_cons hi,List.all_cons,hrc];cases b<;>rfl
    have e:i=l.length:=by omega
    subst e;rw [jZ.eq_2,cK V,cf,List.drop_length,List.take_length];unfold pk;rw [kw hp];rfl
  have:=key N 0 V V;simpa using this
 have hwy:wt m.Young≤2400:=by omega
 have hwo:wt m.Old≤2400:=by omega
 have hfy:=zu m.Young;have hfo:=zu m.Old;obtain ⟨k,rfl⟩: ∃k,N=k+3:=⟨N - 3,by omega⟩;unfold kh lL;rw [kW.eq_2,show ((([m.Young,m.Old]:List (List Ta)).length:Int))=2 from rfl,cJ V,ct,show aF ([m.Young,m.Old]:List (List Ta)) 0=some m.Young from rfl,bs,row _ 0 m.Young [] (by unfold in64;omega) h1 hwy (fun c hc=>Tn _ hc) (by simp)];rw [kW.eq_2,show ((([m.Young,m.Old]:List (List Ta)).length:Int))=2 from rfl,cJ V,ct,show aF ([m.Young,m.Old]:List (List Ta)) (0+1)=some m.Old from rfl,bs,List.nil_append,row _ (0+1) m.Old (m.Young.flatMap cI) (by unfold in64;omega) h2 hwo (fun c hc=>To _ hc) V]
 rw [kW.eq_2,show ((([m.Young,m.Old]:List (List Ta)).length:Int))=2 from rfl,cK V,cf,hroots _ (by rw [List.length_append];omega) (fun x hx=>by
  rw [←List.flatMap_append] at hx
  exact a64 _ (fun c hc=>hc) x hx),List.all_append,List.flatMap_append]
 cases m.Young.all (pe (k+3))<;>cases m.Old.all (pe (k+3))<;>rfl
def pL (f:List Int)(a:Int):Int:=2*((f.idxOf a:Nat):Int)+2
def dk (ρ:Int→Int)(f:List Int)(v:SR):SR:=bif bI v&&decide (v.N∈f) then ⟨v.Kind,ρ v.N,v.S⟩ else v
def jM (ρ:Int→Int)(f:List Int)(c:Ta):Ta:=⟨c.Kind,c.Shape,c.Flags,c.Age,c.Slots.map (dk ρ f),c.More.map (dk ρ f)⟩
def RhoM (kv:List (Int×Int))(f:List Int):Prop:= ∀x,lk kv x=if x∈f then some (pL f x) else none
theorem ti (N:Nat)(hN:5000<N)(l:List SR)(hl:l.length≤5000)(kv:List (Int×Int))(f:List Int)(hk:RhoM kv f):d9 N l kv=some (l.map (dk (pL f) f)):=by
 apply Sat.eq;unfold d9;refine cX (fun k i (s:List SR)=>fQ N l kv k s (i:Int)) l.length (fun i s=>s=(l.take i).map (dk (pL f) f)) _ ?_ ?_ N 0 [] V V J
 ·rintro k i s hi h1 go;show Sat (fQ N l kv (k+1) s (i:Int)) _
  have hsl:s.length≤i:=by rw [h1,List.length_map,List.length_take];omega
  have hnext:(l.take (i+1)).map (dk (pL f) f)=s++ [dk (pL f) f l[i]]:=by rw [bh hi,List.map_append,h1];rfl
  rw [fQ.eq_2,cJ V,ct,br hi,bs,hk l[i].N,qJ];unfold md;by_cases hm:l[i].N∈f
  ·rw [if_pos hm];simp only [bs,Option.isSome_some,ct];cases hb:bI l[i]
   ·rw [cf,rF (by simp;omega),r64 V V];refine go _ ?_;rw [hnext];unfold dk;rw [hb];rfl
   rw [ct,rF (by simp;omega),r64 V V];refine go _ ?_;rw [hnext];unfold dk;rw [hb,Ti hm];rfl
  rw [if_neg hm];simp only [bs,Option.isSome_none,cf];rw [rF (by simp;omega),r64 V V];refine go _ ?_;rw [hnext];unfold dk;rw [Tj hm,Bool.and_false];rfl
 rintro k s h1;show Sat (fQ N l kv (k+1) s _) _;rw [fQ.eq_2,cK V,cf];exact aQ (by rw [h1,List.take_length])
def km (N:Nat)(l:List Int)(c:Ta):Ta:=bif decide (c.Kind=8) then nB N l c else bif decide (c.Kind=10) then (vM l c).1 else c
def gU (l:List Int)(c:Ta):List SR:=bif decide (c.Kind=10) then (vM l c).2 else []
theorem pQ (N:Nat)(l:List Int)(c:Ta):(km N l c).Slots.length=c.Slots.length∧(km N l c).More.length+(gU l c).length≤c.More.length:=by
 unfold km gU;by_cases h8:c.Kind=8
 ·rw [Ti h8,Tj (p:=c.Kind=10) V];have:=Iu N l c;simp only [cond_true,cond_false,List.length_nil];omega
 rw [Tj h8];by_cases h10:c.Kind=10
 ·rw [Ti h10];have:=LY l (c.More.headD lx) (c.More.drop 1);rw [List.length_drop] at this;unfold vM;refine ⟨J,?_⟩;show (c.More.take 1++ew l (c.More.drop 1)).length+(ly l (c.More.headD lx) (c.More.drop 1)).length≤c.More.length;rw [List.length_append,List.length_take]
  cases hm:c.More with
  |nil=>rw [hm] at this;simp [ew,ly]
  |cons a r=>rw [hm] at this;simp only [List.length_cons] at this⊢;omega
 rw [Tj h10];simp
theorem RhoM.nil:RhoM [] []:=fun x=>rfl
theorem RhoM.add {kv:List (Int×Int)}{i:Nat}{f:List Int}(hi:i<f.length)(h:RhoM kv (f.take i))(hn:f.Nodup):RhoM (um kv f[i] (2*(i:Int)+2)) (f.take (i+1)):=by
 intro x
 have hlen:(f.take i).length=i:=by rw [List.length_take];omega
 have hni:f[i]∉f.take i:=by
  intro hm;obtain ⟨j,hj,e⟩:=List.getElem_of_mem hm;rw [List.length_take] at hj;rw [List.getElem_take] at e;exact List.pairwise_iff_getElem.1 (List.nodup_iff_pairwise_ne.1 hn) j i V hi V e
 rw [GS,bh hi];unfold pL;rw [List.idxOf_append];by_cases e:f[i]=x
 ·rw [if_pos e, ←e,if_pos (To _ (by simp)),if_neg hni];simp [hlen]
 rw [if_neg e,h x];by_cases hm:x∈f.take i
 ·rw [if_pos hm,if_pos (Tn _ hm),if_pos hm];rfl
 rw [if_neg hm,if_neg (by simp only [List.mem_append,List.mem_singleton];exact fun hh=>hh.elim hm fun hh=>e hh.symm)]
structure Coll where
 next:SP
 now:List SR
 gone:List SR
def Hm (N:Nat)(m:SP)(roots:List SR)(live f:List Int):Coll:=
 ⟨⟨[],f.map fun a=>jM (pL f) f (km N live (cc m a))⟩,roots.map (dk (pL f) f),(f.flatMap fun a=>gU live (cc m a)).map (dk (pL f) f)⟩
structure Mild (g:SR→SR):Prop where
 z:g vZ=vZ
 kind: ∀v,(g v).Kind=v.Kind
 num: ∀v,v.Kind=3→g v=v
 may: ∀v,oX v=true→oX (g v)=true
section
variable {g:SR→SR} (h:Mild g)
include h
theorem Mild.at_ (l:List SR)(i:Nat):pu (l.map g) i=g (pu l i):=by
 unfold pu;simp only [List.getD,List.getElem?_map]
 cases l[i]? with
 |none=>exact h.z.symm
 |some v=>rfl
theorem Mild.numB (v:SR)(a b:Int):Go.Proofs.YtdcccmadhipinaaGreat.numB (g v) a b=Go.Proofs.YtdcccmadhipinaaGreat.numB v a b:=by
 unfold Go.Proofs.YtdcccmadhipinaaGreat.numB;by_cases h3:v.Kind=3
 ·rw [h.num v h3]
 rw [h.kind,Tj h3];rfl
theorem Mild.noneB (v:SR)(k:Int):Go.Proofs.YtdcccmadhipinaaGreat.noneB (g v) k=Go.Proofs.YtdcccmadhipinaaGreat.noneB v k:=by
 unfold Go.Proofs.YtdcccmadhipinaaGreat.noneB;rw [h.kind]
theorem Mild.ent2: ∀l:List SR,pF (l.map g)=pF l
 | []=>rfl
 | [_]=>rfl
 |k::v::r=>by
  simp only [List.map_cons];simp only [mA];rw [h.kind,h.kind,Mild.ent2 r]
theorem Mild.ent4: ∀l:List SR,lB (l.map g)=lB l
 | []=>rfl
 | [_]=>rfl
 | [_,_]=>rfl
 | [_,_,_]=>rfl
 |t::v::k::s::r=>by
  simp only [List.map_cons];simp only [my];rw [h.kind,h.kind,h.noneB,h.numB,Mild.ent4 r]
theorem Mild.slots (k sh fl:Int)(l:List SR):o9 k sh fl (l.map g)=o9 k sh fl l:=by
 unfold o9;simp only [List.length_map,h.at_,h.kind,h.noneB]
theorem Mild.more (k:Int)(l:List SR):qC k (l.map g)=qC k l:=by
 unfold qC;rw [←List.map_drop,h.ent2,h.ent4];simp only [List.length_map,h.at_,h.kind,h.noneB,h.numB]
theorem Mild.all {l:List SR}(hl:l.all oX=true):(l.map g).all oX=true:=by
 rw [List.all_eq_true] at hl⊢;intro v hv;obtain ⟨w,hw,rfl⟩:=List.mem_map.1 hv;exact h.may w (hl w hw)
theorem Mild.right {c:Ta}(hc:di c=true):di ⟨c.Kind,c.Shape,c.Flags,c.Age,c.Slots.map g,c.More.map g⟩=true:=by
 unfold di at hc⊢;simp only [Bool.and_eq_true] at hc;obtain ⟨h1,h2,h3,h4,h5⟩:=hc;simp only [h.slots,h.more,h.all h2,h.all h3,h4,h5,Bool.and_true];simp only [Bool.and_eq_true];exact h1
end
theorem I5 {v:SR}(hb:bI v=true):oX v=((v.S.toList==(⟨#[]⟩:ByteArray).toList)&&decide (1≤v.N)):=by
 have hk:v.Kind=7∨v.Kind=9:=by
  unfold bI at hb;rw [Bool.or_eq_true,decide_eq_true_eq,decide_eq_true_eq] at hb;exact hb
 unfold oX f3;rcases hk with hk|hk<;>rw [hk]<;>cases (v.S.toList==(⟨#[]⟩:ByteArray).toList)<;>rfl
structure Ren (ρ:Int→Int) (f:List Int):Prop where
 inj: ∀a b,a∈f→b∈f→ρ a=ρ b→a=b
 pos: ∀a∈f,1≤ρ a
theorem LH {ρ:Int→Int}{f:List Int}(hρ:Ren ρ f):Mild (dk ρ f) where
 z:=rfl
 kind v:=by unfold dk;cases bI v&&decide (v.N∈f)<;>rfl
 num v h:=by
  have:bI v=false:=by unfold bI;rw [h];rfl
  unfold dk;rw [this];rfl
 may v h:=by
  cases hb:bI v&&decide (v.N∈f) with
  |false=>unfold dk;rw [hb];exact h
  |true=>
   have hb0:=(Bool.and_eq_true _ _▸hb:bI v=true∧decide (v.N∈f)=true);have hb1:=hb0.1
   have e:dk ρ f v=⟨v.Kind,ρ v.N,v.S⟩:=by unfold dk;rw [hb];rfl
   have hb2:bI (⟨v.Kind,ρ v.N,v.S⟩:SR)=true:=hb1;rw [e,I5 hb2];rw [I5 hb1,Bool.and_eq_true] at h;rw [Bool.and_eq_true];exact ⟨h.1,Ti (hρ.pos _ (of_decide_eq_true hb0.2))⟩
theorem KE {ρ:Int→Int}{f:List Int}(hρ:Ren ρ f){c:Ta}(h:di c=true):di (jM ρ f c)=true:=(LH hρ).right h
theorem uJ {c:Ta}(h:di c=true):c.Slots.all oX=true∧c.More.all oX=true∧qC c.Kind c.More=true:=by
 unfold di at h;simp only [Bool.and_eq_true] at h;exact ⟨h.2.1,h.2.2.1,h.2.2.2.2⟩
theorem Cw {c:Ta}(h:di c=true){m:List SR}(h1:m.all oX=true)(h2:qC c.Kind m=true):di ⟨c.Kind,c.Shape,c.Flags,c.Age,c.Slots,m⟩=true:=by
 unfold di at h⊢;simp only [Bool.and_eq_true] at h;obtain ⟨g1,g2,g3,g4,g5⟩:=h;simp only [g2,h1,g4,h2,Bool.and_true];simp only [Bool.and_eq_true];exact g1
theorem DA (p:Int→Bool): ∀{l:List SR},pF l=true→pF (io p l)=true
 | [],_=>rfl
 | [_],h=>by cases h
 |k::v::r,h=>by
  rw [mA] at h;rw [Bool.and_eq_true] at h;have ih:=DA p h.2;simp only [vL];cases p k.N
  ·exact ih
  show pF (k::v::io p r)=true;simp only [mA];rw [h.1,ih];rfl
theorem EW (lv:List Int): ∀{l:List SR},lB l=true→lB (ew lv l)=true
 | [],_=>rfl
 | [_],h=>by cases h
 | [_,_],h=>by cases h
 | [_,_,_],h=>by cases h
 | t::v::k::s::r,h=>by
  rw [my] at h;rw [Bool.and_eq_true,Bool.and_eq_true,Bool.and_eq_true,Bool.and_eq_true] at h;obtain ⟨⟨⟨h1,h2⟩,h3,h4⟩,h5⟩:=h;have ih:=EW lv h5;simp only [tt];cases decide (t.N∈lv)
  ·exact ih
  show lB (t::v::(bif decide (k.Kind=7)&& !decide (k.N∈lv) then lx else k)::s::ew lv r)=true;simp only [my]
  have h6:noneB (bif decide (k.Kind=7)&& !decide (k.N∈lv) then lx else k) 7=true:=by
   cases decide (k.Kind=7)&& !decide (k.N∈lv)
   ·exact h3
   rfl
  rw [h1,h2,h6,h4,ih];rfl
theorem Di (lv:List Int){x:SR}: ∀{l:List SR},x∈ew lv l→x∈l∨x=lx
 | [],h=>by simp [ew] at h
 | [_],h=>by simp [ew] at h
 | [_,_],h=>by simp [ew] at h
 | [_,_,_],h=>by simp [ew] at h
 | t::v::k::s::r,h=>by
  simp only [tt] at h;rcases List.mem_append.1 h with h|h
  ·cases hd:decide (t.N∈lv) with
   |false=>rw [hd] at h;cases h
   |true=>
    rw [hd] at h
    cases hk:decide (k.Kind=7)&& !decide (k.N∈lv) with
    |false=>rw [hk] at h;simp at h;rcases h with h|h|h|h<;>subst h<;>simp
    |true=>rw [hk] at h;simp at h;rcases h with h|h|h|h<;>subst h<;>simp
  rcases Di lv h with h|h
  ·exact .inl (by simp [h])
  exact .inr h
theorem LP:oX lx=true:=by kernel_rfl
theorem K5 (N:Nat)(lv:List Int){c:Ta}(h:di c=true):di (km N lv c)=true:=by
 obtain ⟨h1,h2,h3⟩:=uJ h;unfold km;by_cases h8:c.Kind=8
 ·rw [ot h8,cond_true];unfold nB;cases pm N c
  ·exact h
  refine Cw h (m:=io (fun x=>decide (x∈lv)) c.More) ?_ ?_
  ·rw [List.all_eq_true] at h2⊢
   exact fun v hv=>h2 v (ye hv)
  rw [h8] at h3⊢;exact DA _ h3
 rw [gA h8,cond_false];by_cases h10:c.Kind=10
 ·rw [ot h10,cond_true];rw [h10] at h3;have h3':(decide (1≤c.More.length)&&decide ((pu c.More 0).Kind=7)&&lB (c.More.drop 1))=true:=h3;simp only [Bool.and_eq_true,decide_eq_true_eq] at h3';obtain ⟨⟨g1,g2⟩,g3⟩:=h3';refine Cw h (m:=c.More.take 1++ew lv (c.More.drop 1)) ?_ ?_
  ·rw [List.all_eq_true] at h2⊢;intro v hv;rcases List.mem_append.1 hv with hv|hv
   ·exact h2 v (List.mem_of_mem_take hv)
   rcases Di lv hv with hv|rfl
   ·exact h2 v (List.mem_of_mem_drop hv)
   exact LP
  rw [h10];show (decide (1≤(c.More.take 1++ew lv (c.More.drop 1)).length)&&decide ((pu (c.More.take 1++ew lv (c.More.drop 1)) 0).Kind=7)&&lB ((c.More.take 1++ew lv (c.More.drop 1)).drop 1))=true
  obtain ⟨a,r,hr⟩: ∃a r,c.More=a::r:=by
   cases hm:c.More with
   |nil=>rw [hm] at g1;simp at g1
   |cons a r=>exact ⟨a,r,rfl⟩
  rw [hr] at g2 g3⊢;have e1:(a::r).take 1++ew lv ((a::r).drop 1)=a::ew lv r:=rfl;rw [e1];have g3':lB r=true:=g3;have g2':a.Kind=7:=g2;simp only [Bool.and_eq_true,decide_eq_true_eq];exact ⟨⟨by simp,g2'⟩,EW lv g3'⟩
 rw [gA h10,cond_false];exact h
end
section
open Go.RowKit
structure MapG (g g':Gr) (ρ:Int→Int) (S:Int→Prop):Prop where
 inj: ∀a b,S a→S b→ρ a=ρ b→a=b
 has: ∀a,S a→g.has a=true∧g'.has (ρ a)=true
 leads: ∀a,S a→g'.leads (ρ a)=(g.leads a).map ρ∧ ∀x∈g.leads a,S x
 opens: ∀row a,(∀x∈row,S x)→S a→g'.opens (row.map ρ) (ρ a)=(g.opens row a).map ρ∧ ∀x∈g.opens row a,S x
def cO {α:Type}(g:α→Nat):List α→Nat
 | []=>0
 |a::l=>g a+cO g l
theorem uC {α:Type}(g:α→Nat): ∀a b:List α,cO g (a++b)=cO g a+cO g b
 | [],b=>by simp [cO]
 |c::a,b=>by rw [List.cons_append,cO,cO,uC g a b];omega
theorem Kc {α:Type}(g:α→Nat){a b:List α}(h:a.Perm b):cO g a=cO g b:=by
 induction h with
 |nil=>rfl
 |cons x _ ih=>rw [cO,cO,ih]
 |swap x y l=>rw [cO,cO,cO,cO];omega
 |trans _ _ h1 h2=>rw [h1,h2]
theorem oO (g:Int→Nat): ∀{l L:List Int},l.Nodup→(∀x∈l,x∈L)→cO g l≤cO g L
 | [],_,_,_=>Nat.zero_le _
 |a::l,L,hn,hs=>by
  obtain ⟨h1,h2⟩:=List.nodup_cons.1 hn;have hp:=List.perm_cons_erase (hs a (by simp));rw [Kc g hp,cO,cO]
  have:=oO g (l:=l) (L:=L.erase a) h2 fun x hx=>(List.mem_erase_of_ne (fun e:x=a=>h1 (by rw [←e];exact hx))).2 (hs x (by simp [hx]))
  omega
theorem mQ {α β:Type}(g:β→Nat)(f:α→β): ∀l:List α,cO g (l.map f)=cO (fun x=>g (f x)) l
 | []=>rfl
 |x::l=>by rw [List.map_cons,cO,cO,mQ g f l]
theorem wi {α:Type}{g h:α→Nat}: ∀{l:List α},(∀x∈l,g x≤h x)→cO g l≤cO h l
 | [],_=>Nat.le_refl _
 |x::l,hh=>by
  rw [cO,cO];have h1:=hh x (by simp)
  have h2:=wi (l:=l) fun y hy=>hh y (by simp [hy])
  omega
theorem vD {α β:Type}(f:α→List β): ∀l:List α,(l.flatMap f).length=cO (fun x=>(f x).length) l
 | []=>rfl
 |x::l=>by rw [List.flatMap_cons,List.length_append,cO,vD f l]
theorem Cm {α:Type}(g h:α→Nat): ∀l:List α,cO (fun x=>g x+h x) l=cO g l+cO h l
 | []=>rfl
 |x::l=>by rw [cO,cO,cO,Cm g h l];omega
def wC (c:Ta):Nat:=1+c.Slots.length+c.More.length
theorem uy: ∀l:List Ta,wt l=cO wC l
 | []=>rfl
 |c::l=>by rw [wt,cO,uy l];rfl
def AL (m:SP):List Int:=(List.range m.Young.length).map (fun i:Nat=>2*(i:Int)+1)++(List.range m.Old.length).map (fun i:Nat=>2*(i:Int)+2)
theorem DM (m:SP)(i:Nat)(h:i<m.Young.length):cc m (2*(i:Int)+1)=m.Young[i]:=by
 unfold cc ip;rw [if_neg V,if_pos V,show ((2*(i:Int)+1 - 1) / 2).toNat=i by omega,List.getElem?_eq_getElem h];rfl
theorem uk (m:SP)(i:Nat)(h:i<m.Old.length):cc m (2*(i:Int)+2)=m.Old[i]:=by
 unfold cc ip;rw [if_neg V,if_neg V,show ((2*(i:Int)+2 - 2) / 2).toNat=i by omega,List.getElem?_eq_getElem h];rfl
theorem FP (m:SP)(i:Nat):bw m (2*(i:Int)+1)=decide (i<m.Young.length):=by
 unfold bw ip;rw [if_neg V,if_pos V,show ((2*(i:Int)+1 - 1) / 2).toNat=i by omega];by_cases h:i<m.Young.length
 ·rw [List.getElem?_eq_getElem h,Ti h];rfl
 rw [List.getElem?_eq_none V,Tj h];rfl
theorem tu (m:SP)(i:Nat):bw m (2*(i:Int)+2)=decide (i<m.Old.length):=by
 unfold bw ip;rw [if_neg V,if_neg V,show ((2*(i:Int)+2 - 2) / 2).toNat=i by omega];by_cases h:i<m.Old.length
 ·rw [List.getElem?_eq_getElem h,Ti h];rfl
 rw [List.getElem?_eq_none V,Tj h];rfl
theorem DP (m:SP):(AL m).map (cc m)=m.Young++m.Old:=by
 unfold AL;rw [List.map_append,List.map_map,List.map_map]
 congr 1
 ·refine List.ext_getElem (by simp) fun i h1 h2=> ?_
  simp only [List.getElem_map,List.getElem_range,Function.comp];exact DM m i h2
 refine List.ext_getElem (by simp) fun i h1 h2=> ?_
 simp only [List.getElem_map,List.getElem_range,Function.comp];exact uk m i h2
theorem sN {m:SP}{a:Int}(h:bw m a=true):(∃i:Nat,i<m.Young.length∧a=2*(i:Int)+1)∨ ∃i:Nat,i<m.Old.length∧a=2*(i:Int)+2:=by
 rcases tM m a with ⟨h1,h2⟩|⟨k,h1, -⟩|⟨k,h1, -⟩
 ·unfold bw at h;rw [h2] at h;cases h
 ·subst h1;rw [FP] at h;exact .inl ⟨k,of_decide_eq_true h,J⟩
 subst h1;rw [tu] at h;exact .inr ⟨k,of_decide_eq_true h,J⟩
theorem sH {m:SP}{a:Int}(h:bw m a=true):a∈AL m:=by
 unfold AL;rcases sN h with ⟨i,h1,rfl⟩|⟨i,h1,rfl⟩
 ·exact Tn _ (List.mem_map.2 ⟨i,List.mem_range.2 h1,J⟩)
 exact To _ (List.mem_map.2 ⟨i,List.mem_range.2 h1,J⟩)
theorem Li {m:SP}{l:List Int}(hn:l.Nodup)(hh: ∀a∈l,bw m a=true):cO (fun a=>wC (cc m a)) l≤wt m.Young+wt m.Old:=by
 have h1:=oO (fun a=>wC (cc m a)) hn fun a ha=>sH (hh a ha)
 have h2:=mQ wC (cc m) (AL m);rw [DP, ←uy,Cf] at h2;omega
theorem pR {m:SP}{a:Int}(h:bw m a=true):cc m a∈m.Young++m.Old:=by
 unfold bw at h;unfold cc
 cases hc:ip m a with
 |none=>rw [hc] at h;cases h
 |some c=>exact qX hc
def Sz:SP:=⟨[⟨11,0,0,0,[],[⟨7,2,⟨#[]⟩⟩]⟩,⟨11,0,0,0,[],[]⟩],[⟨11,0,0,0,[],[]⟩,⟨11,0,0,0,[],[]⟩]⟩
def SB:SP:=⟨[],[⟨10,0,0,0,[⟨1,0,⟨#[]⟩⟩],[⟨7,4,⟨#[]⟩⟩,⟨7,6,⟨#[]⟩⟩,⟨7,8,⟨#[]⟩⟩,⟨0,0,⟨#[]⟩⟩,⟨3,7,⟨#[]⟩⟩]⟩,⟨11,0,0,0,[],[]⟩,⟨11,0,0,0,[],[]⟩,⟨11,0,0,0,[],[]⟩]⟩
theorem Gt {a:Int}(h:0<a):a.tmod 2=0∨a.tmod 2=1:=by
 rw [sf V];omega
theorem Ic {live:List Int}(hp: ∀a∈live,0<a)(a:Int):a∈nh live↔a∈live:=by
 unfold nh uh D7;rw [List.mem_append,List.mem_filter,List.mem_filter,decide_eq_true_eq,decide_eq_true_eq];constructor
 ·rintro (h|h)<;>exact h.1
 intro h;rcases Gt (hp a h) with h2|h2
 ·exact .inl ⟨h,h2⟩
 exact .inr ⟨h,h2⟩
theorem C1: ∀{live:List Int},(∀a∈live,0<a)→(nh live).length=live.length
 | [],_=>rfl
 | a::l,hp=>by
  have ih:=C1 (live:=l) fun b hb=>hp b (by simp [hb])
  unfold nh at ih⊢;rw [List.length_append] at ih⊢;rcases Gt (hp a (by simp)) with h|h
  ·have e1:uh a=true:=Ti h;have e2:D7 a=false:=Tj V;simp only [List.filter_cons,e1,e2,if_true,Bool.false_eq_true,if_false,List.length_cons];omega
  have e1:uh a=false:=Tj V;have e2:D7 a=true:=Ti h;simp only [List.filter_cons,e1,e2,if_true,Bool.false_eq_true,if_false,List.length_cons];omega
theorem KB {live:List Int}(h:live.Pairwise (· < ·)):(nh live).Pairwise fun a b=> ¬(a.tmod 2=1∧b.tmod 2=0)∧(a.tmod 2=b.tmod 2→a<b):=by
 have hev: ∀a∈live.filter uh,a.tmod 2=0:=fun a ha=>of_decide_eq_true (List.mem_filter.1 ha).2
 have hod: ∀a∈live.filter D7,a.tmod 2=1:=fun a ha=>of_decide_eq_true (List.mem_filter.1 ha).2
 unfold nh;refine List.pairwise_append.2 ⟨(h.filter _).imp_of_mem fun {a b} ha hb hlt=>⟨fun hh=> ?_,fun _=>hlt⟩,(h.filter _).imp_of_mem fun {a b} ha hb hlt=>⟨fun hh=> ?_,fun _=>hlt⟩,fun a ha b hb=>⟨fun hh=> ?_,fun hh=> ?_⟩⟩
 ·have:=hev a ha;omega
 ·have:=hod b hb;omega
 ·have:=hev a ha;omega
 have:=hev a ha;have:=hod b hb;omega
theorem pS {α:Type}{p:α→Bool}{l:List α}(h:l.all p=true){x:α}(hx:x∈l):p x=true:=List.all_eq_true.1 h x hx
theorem E2 {N:Nat}{m:SP}{roots:List SR}(h:lL N m roots=0):(∀c∈m.Young++m.Old,pe N c=true)∧(∀c∈m.Young++m.Old, ∀x∈cI c,bw m x=true)∧ ∀x∈bZ roots,bw m x=true:=by
 unfold lL at h
 cases h1:(m.Young++m.Old).all (pe N) with
 |false=>rw [h1] at h;cases h
 | true=>
  rw [h1] at h
  cases h2:dp m ((m.Young++m.Old).flatMap cI++bZ roots) with
  |false=>rw [h2] at h;cases h
  |true=>
   unfold dp at h2;refine ⟨fun c hc=>pS h1 hc,fun c hc x hx=>pS h2 (Tn _ (List.mem_flatMap.2 ⟨c,hc,hx⟩)),fun x hx=>pS h2 (To _ hx)⟩
structure Live (N:Nat) (m:SP) (roots:List SR) (live f:List Int):Prop where
 ord: ∃b all,IsOrder (DT N m) (bZ roots) b all∧live=iY all∧f=nh live
 prog:ed N m roots=some live
 ref:qx N m roots=some live
 mem: ∀a,a∈f↔a∈live
 len:f.length=live.length
 small:live.length≤1200
 nd:f.Nodup
 asc:live.Pairwise (· < ·)
 has: ∀a∈live,bw m a=true
theorem KC {live:List Int}(h:live.Pairwise (· < ·)):(nh live).Nodup:=by
 rw [List.nodup_iff_pairwise_ne]
 refine (KB h).imp fun {a b} hab e=> ?_
 have:=hab.2 (by rw [e]);omega
theorem N1 (N:Nat)(hN:5000<N){m:SP}{roots:List SR}(hs:Small m roots)(hw:W64 m)(hr: ∀v∈roots,in64 v.N): ∃live f,Live N m roots live f:=by
 obtain ⟨bg,all,ho,hlen, -, -,o0⟩:=Kx N hN hs hw hr;obtain ⟨b',all',ho',r0, -⟩:=HU N hN hs hw hr;obtain ⟨-,e2⟩:=ho.det ho';subst e2;have hll:(iY all).length=all.length:=sg all;have hmem:=pX all;have hasc:=z7 ho.nodup.2
 have hhas: ∀a∈iY all,bw m a=true:=fun a ha=>ho.has.2 a ((hmem a).1 ha)
 have hpos: ∀a∈iY all,0<a:=fun a ha=>qM (hhas a ha)
 refine ⟨iY all,nh (iY all),⟨⟨_,all,ho,J,J⟩,N2 o0 V J,?_,Ic hpos,C1 hpos,by omega,KC hasc,hasc,hhas⟩⟩;unfold qx;rw [r0,bs,HV N hN all V ho.nodup.2,bs]
theorem Live.fhas {N:Nat}{m:SP}{roots:List SR}{live f:List Int}(h:Live N m roots live f){a:Int}(ha:a∈f):bw m a=true:=h.has a ((h.mem a).1 ha)
theorem Gs {N:Nat}{m:SP}{roots:List SR}{live f:List Int}(h:Live N m roots live f):(f.flatMap fun a=>gU live (cc m a)).length+wt (f.map fun a=>jM (pL f) f (km N live (cc m a)))≤wt m.Young+wt m.Old:=by
 have h1:=Li h.nd fun a ha=>h.fhas ha
 rw [vD,uy,mQ, ←Cm];refine Nat.le_trans (wi fun a ha=> ?_) h1;have:=pQ N live (cc m a);unfold wC jM;simp only [List.length_map];omega
theorem z2 {N:Nat}{m:SP}{roots:List SR}{live f:List Int}(h:Live N m roots live f)(n:Nat):((f.take n).flatMap fun a=>gU live (cc m a)).length≤wt m.Young+wt m.Old:=by
 have h1:=Gs h
 have h2:(f.flatMap fun a=>gU live (cc m a))=((f.take n).flatMap fun a=>gU live (cc m a))++((f.drop n).flatMap fun a=>gU live (cc m a)):=by rw [←List.flatMap_append,List.take_append_drop]
 rw [h2,List.length_append] at h1;omega
def MF (N:Nat)(m:SP)(roots:List SR)(live f:List Int):SP×List SR×List SR×Int:=
 bif decide (lL N m roots=0) then ((Hm N m roots live f).next,(Hm N m roots live f).now,(Hm N m roots live f).gone,0) else (⟨[],[]⟩,[],[],lL N m roots)
theorem F2 (N:Nat)(hN:5000<N){m:SP}{roots:List SR}(hs:Small m roots)(ht:Wtd m roots)(hw:W64 m)(hr: ∀v∈roots,in64 v.N){live f:List Int}(hl:Live N m roots live f):ee N m roots=some (MF N m roots live f):=by
 apply Sat.eq;have hle:=ht.le;have hlen:=hl.small;have hfl:=hl.len;unfold ee MF;rw [DH N hN hs ht hw hr,bs];by_cases h0: ¬lL N m roots=0
 ·rw [gA h0];exact aQ J
 replace h0:lL N m roots=0:=by omega
 rw [ot h0];simp only [nt,cf,ct];obtain ⟨c1,c2,c3⟩:=E2 h0;obtain ⟨_,_,_,hlv,hff⟩:=hl.ord;rw [hl.prog,bs];unfold iW;rw [bs];refine Sat.bind (CV N (fun x st=>kz N roots m live x st) live V hN (fun n s=>RhoM s (f.take n)) ?_ [] ?_) ?_
 ·intro n a s ha h1;rw [←hff] at ha;have hn:=(List.getElem?_eq_some_iff.1 ha).1;rw [List.getElem?_eq_getElem hn,Option.some.injEq] at ha;unfold kz;simp only;rw [r64 V V,r64 V V];refine aQ ⟨J,?_⟩;rw [←ha];exact h1.add hn hl.nd
 ·simpa using RhoM.nil
 rintro ⟨e,kv⟩ ⟨g1,g2⟩;simp only at g1 g2;subst g1;rw [←hff,List.take_length] at g2;unfold nO;simp only [bs]
 have hG: ∀a∈f,(km N live (cc m a)).Slots.length≤600∧(km N live (cc m a)).More.length≤600:=fun a ha=>by
  have h1:=pQ N live (cc m a);have h2:=hs.at_ a;omega
 refine Sat.bind (CV N (fun x st=>ky N roots m live (none,kv) x st) live V hN (fun n s=>s.1=(f.take n).map (fun a=>jM (pL f) f (km N live (cc m a)))∧s.2=(f.take n).flatMap fun a=>gU live (cc m a)) ?_ ([],[]) ⟨by simp,by simp⟩) ?_
 ·rintro n a ⟨p,q⟩ ha ⟨h1,h2⟩;rw [←hff] at ha;simp only at h1 h2;have hn:=(List.getElem?_eq_some_iff.1 ha).1;have ham:a∈f:=List.mem_of_getElem? ha;rw [List.getElem?_eq_getElem hn,Option.some.injEq] at ha
  have hpl:p.length≤2000:=by rw [h1,List.length_map,List.length_take];omega
  have hql:q.length≤2400:=by have:=z2 hl n;rw [h2];omega
  have hq2:=z2 hl (n+1);have hat:=Gf N hs a (BT hs (hl.fhas ham));have hsm:=hs.at_ a;have hrt:=c1 _ (pR (hl.fhas ham));have hc:=hG a ham;rw [bh hn,ha,List.flatMap_append, ←h2,List.length_append] at hq2;simp only [List.flatMap_cons,List.flatMap_nil,List.append_nil] at hq2
  -- the last part
  have last: ∀q',q'=q++gU live (cc m a)→Sat (iH N roots m p live (none,kv) q' (km N live (cc m a)).Kind (km N live (cc m a)).Shape (km N live (cc m a)).Flags (km N live (cc m a)).Age (km N live (cc m a)).Slots (km N live (cc m a)).More) fun r=>r.1=none∧r.2.1=(f.take (n+1)).map (fun a=>jM (pL f) f (km N live (cc m a)))∧r.2.2=(f.take (n+1)).flatMap fun a=>gU live (cc m a):=by
   intro q' hq';unfold iH;rw [ti N hN _ V kv f g2,bs,ti N hN _ V kv f g2,bs,rF (by simp;omega)];refine aQ ⟨J,?_,?_⟩
   ·rw [bh hn,List.map_append, ←h1,ha];rfl
   rw [bh hn,List.flatMap_append, ←h2,ha,hq'];simp
  unfold ky;simp only;rw [hat,bs];unfold km gU at last;unfold gU at hq2;by_cases h8:(cc m a).Kind=8
  ·have hwm:pm N (cc m a)=true:=by unfold pm;rw [Ti h8];exact hrt
   rw [ot h8,ct,DE N hN live V _ hsm.1 hsm.2,bs,hwm,ct];rw [Ti h8,Tj (p:=(cc m a).Kind=10) V] at last;simp only [cond_true,cond_false,List.append_nil] at last;exact last q J
  by_cases h10:(cc m a).Kind=10
  ·have hwm:Dk N (cc m a)=true:=by unfold Dk;rw [Ti h10];exact hrt
   rw [gA h8,cf,ot h10,ct,xx N hN live V _ hsm.1 hsm.2,bs,hwm,ct];rw [Ti h10] at hq2;rw [Tj h8,Ti h10] at last;simp only [cond_true,cond_false] at last hq2;rw [rF V];exact last _ J
  rw [gA h8,cf,gA h10,cf];rw [Tj h8,Tj h10] at last;simp only [cond_true,cond_false,List.append_nil] at last;exact last q J
 rintro ⟨e,p,q⟩ ⟨g1,g3,g4⟩;simp only at g1 g3 g4;subst g1;rw [←hff,List.take_length] at g3 g4;have hrl:=hs.roots
 have hql:q.length≤2400:=by have:=z2 hl f.length;rw [List.take_length] at this;rw [g4];omega
 simp only;rw [ti N hN _ V kv f g2,bs,ti N hN _ V kv f g2,bs];refine aQ ?_;unfold Hm;rw [g3,g4]
theorem rW {f:List Int}{a:Int}(h:a∈f):f.idxOf a<f.length:=List.idxOf_lt_length_iff.2 h
theorem oH {f:List Int}{a:Int}(h:a∈f):f[f.idxOf a]'(rW h)=a:=List.getElem_idxOf (rW h)
theorem NN {f:List Int}{a b:Int}(ha:a∈f)(hb:b∈f)(h:pL f a=pL f b):a=b:=by
 unfold pL at h
 have e:f.idxOf a=f.idxOf b:=by omega
 have h1:=oH ha;have h2:=oH hb;rw [←h1, ←h2]
 congr 1
theorem IV (f:List Int):Ren (pL f) f:=⟨fun _ _ h1 h2 h3=>NN h1 h2 h3,fun a _=>by unfold pL;omega⟩
theorem FD (ρ:Int→Int)(f:List Int)(v:SR):bI (dk ρ f v)=bI v:=KR (by unfold dk;cases bI v&&decide (v.N∈f)<;>rfl)
theorem C2 {ρ:Int→Int}{f:List Int}{v:SR}(h1:bI v=true)(h2:v.N∈f):dk ρ f v=⟨v.Kind,ρ v.N,v.S⟩:=by
 unfold dk;rw [h1,Ti h2];rfl
theorem I3 {ρ:Int→Int}{f:List Int}{v:SR}(h1:bI v=false):dk ρ f v=v:=by
 unfold dk;rw [h1];rfl
theorem BR {F:Nat→SR→Bool}: ∀{i:Nat} {l:List SR} {j:Nat} {v:SR},l[j]? =some v→F (i+j) v=true→v.N∈pick F i l
 |i,w::l,0,v,h,hF=>by
  simp only [List.getElem?_cons_zero,Option.some.injEq] at h;subst h;rw [mI];rw [Nat.add_zero] at hF;rw [hF];simp
 |i,w::l,j+1,v,h,hF=>by
  simp only [List.getElem?_cons_succ] at h;rw [mI];exact To _ (BR (i:=i+1) h (by rw [show i+1+j=i+(j+1) by omega];exact hF))
 |i,[],j,v,h,_=>by simp at h
def lc (f:List Int)(l:List SR):Prop:= ∀v∈l,bI v=true→v.N∈f
theorem Gx {f:List Int}{c:Ta}(h: ∀x∈cA c,x∈f):lc f c.Slots:=fun v hv hb=>by
 obtain ⟨j,hj,e⟩:=List.getElem_of_mem hv;refine h _ (Tn _ (BR (j:=j) (by rw [List.getElem?_eq_getElem hj,e]) hb))
theorem BS {f:List Int}{c:Ta}(h: ∀x∈cA c,x∈f){j:Nat}{v:SR}(hj:c.More[j]? =some v)(hw:lN c.Kind j=false)(hb:bI v=true):v.N∈f:=
 h _ (To _ (BR (j:=j) hj (by rw [Nat.zero_add,hw,hb];rfl)))
theorem HJ {k:Int}(h8:k≠8)(h10:k≠10)(i:Nat):lN k i=false:=by
 unfold lN;rw [gA h8,gA h10];rfl
theorem E1 {lv f:List Int}(hlv: ∀x,x∈lv↔x∈f): ∀{l:List SR},pF l=true→(∀x∈opens (fun x=>decide (x∈lv)) l,x∈f)→lc f (io (fun x=>decide (x∈lv)) l)
 | [],_,_=>fun v hv=>by simp [io] at hv
 | [_],h,_=>by cases h
 | k::v::r,h,ho=>by
  rw [mA] at h;rw [Bool.and_eq_true] at h;rw [oc] at ho
  have ih:=E1 hlv h.2 fun x hx=>ho x (To _ hx)
  intro w hw hb;simp only [vL] at hw;rcases List.mem_append.1 hw with hw|hw
  ·cases hd:decide (k.N∈lv) with
   |false=>rw [hd] at hw;cases hw
   |true=>
    rw [hd] at hw;simp only [cond_true,List.mem_cons,List.not_mem_nil,or_false] at hw;rcases hw with rfl|rfl
    ·exact (hlv _).1 (of_decide_eq_true hd)
    exact ho _ (Tn _ (by rw [hb,hd];simp))
  exact ih w hw hb
theorem I9 {lv f:List Int}(hlv: ∀x,x∈lv↔x∈f): ∀{l:List SR},lB l=true→(∀j v,l[4*j+1]? =some v→bI v=true→v.N∈f)→lc f (ew lv l)
 | [],_,_=>fun v hv=>by simp [ew] at hv
 | [_],h,_=>by cases h
 | [_,_],h,_=>by cases h
 | [_,_,_],h,_=>by cases h
 | t ::a::k::s::r,h,ho=>by
  rw [my] at h;simp only [Bool.and_eq_true,decide_eq_true_eq] at h;obtain ⟨⟨⟨h1, -⟩,h3,h4⟩,h5⟩:=h
  have ih:=I9 hlv h5 fun j v hj hb=>ho (j+1) v (by rw [show 4*(j+1)+1=4*j+1+4 by omega];simpa using hj) hb
  intro w hw hb;simp only [tt] at hw;rcases List.mem_append.1 hw with hw|hw
  ·cases hd:decide (t.N∈lv) with
   |false=>rw [hd] at hw;cases hw
   | true=>
    rw [hd] at hw;simp only [cond_true,List.mem_cons,List.not_mem_nil,or_false] at hw;rcases hw with rfl|rfl|rfl|rfl
    ·exact (hlv _).1 (of_decide_eq_true hd)
    ·exact ho 0 w J hb
    ·cases hk:decide (k.Kind=7)&& !decide (k.N∈lv) with
     |true=>rw [hk] at hb;cases hb
     | false=>
      rw [hk] at hb;simp only [cond_false] at hb⊢
      have hk7:k.Kind=7:=by
       unfold noneB at h3;rw [Bool.or_eq_true,decide_eq_true_eq,decide_eq_true_eq] at h3;rcases h3 with h3|h3
       ·unfold bI at hb;rw [h3] at hb;cases hb
       exact h3
      rw [Ti hk7,Bool.true_and] at hk;exact (hlv _).1 (by by_cases hm:k.N∈lv;exact hm;rw [Tj hm] at hk;cases hk)
    have:w.Kind=3:=by
     unfold numB at h4;rw [Bool.and_eq_true,decide_eq_true_eq] at h4;exact h4.1
    unfold bI at hb;rw [this] at hb;cases hb
  exact ih w hw hb
structure CellOk (N:Nat) (lv f:List Int) (c:Ta):Prop where
 big:2000<N
 right:di c=true
 slots:c.Slots.length≤600
 more:c.More.length≤600
 leads: ∀x∈cA c,x∈f
 opens: ∀x∈dJ N c lv,x∈f
 mem: ∀x,x∈lv↔x∈f
theorem Ih {N:Nat}(hN:2000<N){c:Ta}(h:di c=true)(hS:c.Slots.length≤600)(hM:c.More.length≤600):pm N c=decide (c.Kind=8):=by
 unfold pm;rw [nU N hN c V V,h];cases decide (c.Kind=8)<;>rfl
theorem Ii {N:Nat}(hN:2000<N){c:Ta}(h:di c=true)(hS:c.Slots.length≤600)(hM:c.More.length≤600):Dk N c=decide (c.Kind=10):=by
 unfold Dk;rw [nU N hN c V V,h];cases decide (c.Kind=10)<;>rfl
theorem GA {N:Nat}(hN:2000<N){c:Ta}(hS:c.Slots.length≤600)(hM:c.More.length≤600):pe N c=di c:=by
 unfold pe;rw [nU N hN c V V];rfl
section
variable {N:Nat} {ρ:Int→Int} {lv f:List Int} {c:Ta}
theorem Hp:(km N lv c).Kind=c.Kind∧(km N lv c).Shape=c.Shape∧(km N lv c).Flags=c.Flags∧(km N lv c).Slots=c.Slots:=by
 unfold km nB;cases decide (c.Kind=8)<;>cases decide (c.Kind=10)<;>cases pm N c<;>exact ⟨rfl,rfl,rfl,rfl⟩
theorem CellOk.new (hρ:Ren ρ f)(h:CellOk N lv f c):di (jM ρ f (km N lv c))=true∧(jM ρ f (km N lv c)).Slots.length≤600∧(jM ρ f (km N lv c)).More.length≤600∧(jM ρ f (km N lv c)).Kind=c.Kind:=by
 have h1:=pQ N lv c;have h2:=h.slots;have h3:=h.more;exact ⟨KE hρ (K5 N lv h.right),by unfold jM;simp only [List.length_map];omega,by unfold jM;simp only [List.length_map];omega,Hp.1⟩
theorem CellOk.ent2 (h:CellOk N lv f c)(h8:c.Kind=8):pF c.More=true:=by
 have:=(uJ h.right).2.2;rw [h8] at this;exact this
theorem CellOk.ent4 (h:CellOk N lv f c)(h10:c.Kind=10):1≤c.More.length∧(pu c.More 0).Kind=7∧lB (c.More.drop 1)=true:=by
 have:=(uJ h.right).2.2;rw [h10] at this;have h3':(decide (1≤c.More.length)&&decide ((pu c.More 0).Kind=7)&&lB (c.More.drop 1))=true:=this;simp only [Bool.and_eq_true,decide_eq_true_eq] at h3';exact ⟨h3'.1.1,h3'.1.2,h3'.2⟩
theorem CellOk.wm (h:CellOk N lv f c):pm N c=decide (c.Kind=8):=Ih h.big h.right h.slots h.more
theorem CellOk.fr (h:CellOk N lv f c):Dk N c=decide (c.Kind=10):=Ii h.big h.right h.slots h.more
theorem CellOk.clC8 (h:CellOk N lv f c)(h8:c.Kind=8):km N lv c=⟨c.Kind,c.Shape,c.Flags,c.Age,c.Slots,io (fun x=>decide (x∈lv)) c.More⟩:=by
 unfold km nB;rw [h.wm,Ti h8];rfl
theorem CellOk.clC10 (h10:c.Kind=10):km N lv c=⟨c.Kind,c.Shape,c.Flags,c.Age,c.Slots,c.More.take 1++ew lv (c.More.drop 1)⟩:=by
 unfold km;rw [Tj (p:=c.Kind=8) V,Ti h10];rfl
theorem CellOk.clC0 (h8:c.Kind≠8)(h10:c.Kind≠10):km N lv c=c:=by
 unfold km;rw [Tj h8,Tj h10];rfl
theorem CellOk.inC (h:CellOk N lv f c):lc f (km N lv c).Slots∧lc f (km N lv c).More:=by
 refine ⟨by rw [Hp.2.2.2];exact Gx h.leads,?_⟩;by_cases h8:c.Kind=8
 ·rw [h.clC8 h8];have ho:=h.opens;unfold dJ at ho;rw [h.wm,Ti h8,cond_true] at ho;exact E1 h.mem (h.ent2 h8) ho
 by_cases h10:c.Kind=10
 ·rw [CellOk.clC10 h10];obtain ⟨q1,q2,q3⟩:=h.ent4 h10
  obtain ⟨a,r,hr⟩: ∃a r,c.More=a::r:=by
   cases hm:c.More with
   |nil=>rw [hm] at q1;simp at q1
   |cons a r=>exact ⟨a,r,rfl⟩
  rw [hr] at q3;have q3':lB r=true:=q3;intro v hv hb
  have hv':v=a∨v∈ew lv r:=by
   have:v∈a::ew lv r:=by rw [hr] at hv;exact hv
   exact List.mem_cons.1 this
  rcases hv' with rfl|hv'
  ·refine BS h.leads (j:=0) (by rw [hr];rfl) ?_ hb;unfold lN;rw [h10];rfl
  refine I9 h.mem q3' (fun j w hj hw=>BS h.leads (j:=4*j+2) (by rw [hr,show 4*j+2=(4*j+1)+1 by omega,List.getElem?_cons_succ];exact hj) ?_ hw) v hv' hb;unfold lN;rw [h10]
  have e1:(((4*j+2:Nat):Int) - 1).tmod 4=1:=by rw [Int.tmod_eq_emod_of_nonneg V];omega
  have e2:((1:Int)).tmod 2=1:=rfl;rw [e1,e2];cases decide ((0:Int)<((4*j+2:Nat):Int))<;>rfl
 rw [CellOk.clC0 h8 h10];intro v hv hb;obtain ⟨j,hj,e⟩:=List.getElem_of_mem hv;exact BS h.leads (j:=j) (by rw [List.getElem?_eq_getElem hj,e]) (HJ h8 h10 j) hb
end
end
section
open Go.RowKit
theorem Cb {c:Ta}{v:SR}(hv:v∈c.Slots++c.More)(hb:bI v=true):v.N∈cI c:=by
 unfold cI;rcases List.mem_append.1 hv with hv|hv
 ·exact Tn _ (Gx (f:=cA c) (fun x hx=>hx) v hv hb)
 obtain ⟨j,hj,e⟩:=List.getElem_of_mem hv
 cases hw:lN c.Kind j with
 |false=>exact Tn _ (BS (f:=cA c) (fun x hx=>hx) (by rw [List.getElem?_eq_getElem hj,e]) hw hb)
 |true=>exact To _ (BR (j:=j) (by rw [List.getElem?_eq_getElem hj,e]) (by rw [Nat.zero_add,hw,hb];rfl))
theorem wn {p:Int→Bool}{x:Int}: ∀{l:List SR},x∈opens p l→ ∃v∈l,bI v=true∧v.N=x
 | [],h=>by simp [opens] at h
 | [_],h=>by simp [opens] at h
 | k::v::l,h=>by
  rw [oc] at h;rcases List.mem_append.1 h with h|h
  ·cases hv:bI v&&p k.N with
   |false=>rw [hv] at h;cases h
   |true=>
    rw [hv] at h;rw [Bool.and_eq_true] at hv;exact ⟨v,by simp,hv.1,(List.mem_singleton.1 h).symm⟩
  obtain ⟨w,h1,h2⟩:=wn h;exact ⟨w,by simp [h1],h2⟩
structure CollCtx (N:Nat) (m:SP) (roots:List SR) (live f:List Int):Prop where
 big:5000<N
 small:Small m roots
 tot:Wtd m roots
 w64:W64 m
 r64: ∀v∈roots,in64 v.N
 lv:Live N m roots live f
 right: ∀c∈m.Young++m.Old,di c=true
 addr: ∀c∈m.Young++m.Old, ∀x∈cI c,bw m x=true
 roots: ∀x∈bZ roots,bw m x=true
theorem PZ {N:Nat}(hN:5000<N){m:SP}{roots:List SR}(hs:Small m roots)(ht:Wtd m roots)(hw:W64 m)(hr: ∀v∈roots,in64 v.N){live f:List Int}(hl:Live N m roots live f)(h0:lL N m roots=0):CollCtx N m roots live f:=by
 obtain ⟨h1,h2,h3⟩:=E2 h0;exact ⟨hN,hs,ht,hw,hr,hl,fun c hc=>by have:=hs.cells c hc;rw [←GA (N:=N) V this.1 this.2];exact h1 c hc,h2,h3⟩
section
variable {N:Nat} {m:SP} {roots:List SR} {live f:List Int} (h:CollCtx N m roots live f)
include h
theorem CollCtx.mem (x:Int):x∈live↔x∈f:=(h.lv.mem x).symm
theorem CollCtx.cell {a:Int}(ha:a∈f):CellOk N live f (cc m a):=by
 have hm:=pR (h.lv.fhas ha);obtain ⟨b,all,ho,hlv, -⟩:=h.lv.ord
 have hall: ∀x,x∈all↔x∈f:=fun x=>by rw [←h.mem x,hlv];exact (pX all x).symm
 obtain ⟨q1,q2⟩:=ho.closed;have hs:=h.small.cells _ hm;have hN:=h.big;refine ⟨by omega,h.right _ hm,hs.1,hs.2,fun x hx=> ?_,fun x hx=> ?_,h.mem⟩
 ·exact (hall x).1 (q1 a ((hall a).2 ha) x hx (h.addr _ hm x (Tn _ hx)))
 have e:dJ N (cc m a) live=dJ N (cc m a) all:=by
  unfold dJ;rw [GI (q:=fun x=>decide (x∈all)) fun x=>gu (by rw [h.mem x];exact (hall x).symm)]
 rw [e] at hx;refine (hall x).1 (q2 a ((hall a).2 ha) x hx ?_);unfold dJ at hx
 cases hw:pm N (cc m a) with
 |false=>rw [hw] at hx;cases hx
 |true=>
  rw [hw] at hx;obtain ⟨v,hv,hb,rfl⟩:=wn hx;exact h.addr _ hm _ (Cb (To _ hv) hb)
theorem CollCtx.root {x:Int}(hx:x∈bZ roots):x∈f:=by
 obtain ⟨b,all,ho,hlv, -⟩:=h.lv.ord;rw [←h.mem x,hlv,pX];exact ho.sub (ho.roots hx (h.roots x hx))
theorem CollCtx.rootIn:lc f roots:=fun v hv hb=>h.root (lw.2 ⟨v,hv,hb,rfl⟩)
end
def gp (N:Nat)(m:SP)(live f:List Int):SP:=⟨[],f.map fun a=>jM (pL f) f (km N live (cc m a))⟩
def Si (N:Nat)(m:SP)(live f:List Int)(a:Int):Ta:=jM (pL f) f (km N live (cc m a))
theorem GL {N:Nat}{m:SP}{live f:List Int}{a:Int}(ha:a∈f):bw (gp N m live f) (pL f a)=true:=by
 unfold pL;rw [tu];exact Ti (by unfold gp;simp only [List.length_map];exact rW ha)
theorem NY {N:Nat}{m:SP}{live f:List Int}{a:Int}(ha:a∈f):cc (gp N m live f) (pL f a)=jM (pL f) f (km N live (cc m a)):=by
 have e:pL f a=2*((f.idxOf a:Nat):Int)+2:=rfl;rw [e,uk _ _ (by unfold gp;simp only [List.length_map];exact rW ha)];unfold gp;simp only [List.getElem_map];rw [oH ha]
theorem EG {f:List Int}{v:SR}(hf:f.length≤100000)(hv:in64 v.N):in64 (dk (pL f) f v).N:=by
 unfold dk
 cases hb:bI v&&decide (v.N∈f) with
 |false=>exact hv
 |true=>
  rw [Bool.and_eq_true,decide_eq_true_eq] at hb;have:=rW hb.2;show in64 (pL f v.N);unfold pL in64;omega
theorem Jq {N:Nat}{lv:List Int}{c:Ta}{v:SR}(hv:v∈(km N lv c).Slots++(km N lv c).More):v∈c.Slots++c.More∨v=lx:=by
 unfold km at hv
 cases h8:decide (c.Kind=8) with
 |true=>rw [h8] at hv;exact .inl (It hv)
 | false=>
  rw [h8] at hv
  cases h10:decide (c.Kind=10) with
  |false=>rw [h10] at hv;exact .inl hv
  |true=>
   rw [h10] at hv;have hv':v∈c.Slots++(c.More.take 1++ew lv (c.More.drop 1)):=hv;rcases List.mem_append.1 hv' with hv'|hv'
   ·exact .inl (Tn _ hv')
   rcases List.mem_append.1 hv' with hv'|hv'
   ·exact .inl (To _ (List.mem_of_mem_take hv'))
   rcases Di lv hv' with hv'|hv'
   ·exact .inl (To _ (List.mem_of_mem_drop hv'))
   exact .inr hv'
section
variable {N:Nat} {m:SP} {roots:List SR} {live f:List Int} (h:CollCtx N m roots live f)
include h
theorem CollCtx.flen:f.length≤1200:=by rw [h.lv.len];exact h.lv.small
theorem CollCtx.flen6:f.length≤600:=by
 have h1:=oO (fun _=>1) h.lv.nd fun a ha=>sH (h.lv.fhas ha)
 have h2: ∀l:List Int,cO (fun _=>1) l=l.length:=fun l=>by
  induction l with
  |nil=>rfl
  |cons x l ih=>rw [cO,ih,List.length_cons];omega
 rw [h2,h2] at h1;have h3:=h.tot.cnt;unfold AL at h1;simp only [List.length_append,List.length_map,List.length_range] at h1;omega
theorem CollCtx.nextW:W64 (gp N m live f):=fun c hc v hv=>by
 have hl:=h.flen
 have hc':c∈f.map fun a=>jM (pL f) f (km N live (cc m a)):=hc
 obtain ⟨a,ha,rfl⟩:=List.mem_map.1 hc'
 have hv':v∈((km N live (cc m a)).Slots++(km N live (cc m a)).More).map (dk (pL f) f):=by rw [List.map_append];exact hv
 obtain ⟨w,hw,rfl⟩:=List.mem_map.1 hv';refine EG V ?_;rcases Jq hw with hw|rfl
 ·exact h.w64.at_ a w hw
 show in64 0;unfold in64;omega
theorem CollCtx.nextS (l:List SR)(hl:l.length≤600):Small (gp N m live f) l:=by
 refine ⟨Nat.zero_le _,?_,hl,fun c hc=> ?_⟩
 ·unfold gp;simp only [List.length_map];exact h.flen6
 have hc':c∈f.map fun a=>jM (pL f) f (km N live (cc m a)):=hc
 obtain ⟨a,ha,rfl⟩:=List.mem_map.1 hc';obtain ⟨-,g2,g3, -⟩:=(CellOk.new (IV f) (h.cell ha));exact ⟨g2,g3⟩
end
theorem za {F:Nat→SR→Bool}{x:Int}(hB: ∀i v,F i v=true→bI v=true): ∀{i:Nat} {l:List SR},x∈pick F i l→ ∃v∈l,bI v=true∧v.N=x
 |_,[],h=>by cases h
 | i,v::l,h=>by
  rw [mI] at h;rcases List.mem_append.1 h with h|h
  ·cases hf:F i v with
   |false=>rw [hf] at h;cases h
   |true=>rw [hf] at h;exact ⟨v,by simp,hB i v hf,(List.mem_singleton.1 h).symm⟩
  obtain ⟨w,g1,g2⟩:=za hB h;exact ⟨w,by simp [g1],g2⟩
theorem wI {c:Ta}{x:Int}(h:x∈cI c): ∃v∈c.Slots++c.More,bI v=true∧v.N=x:=by
 unfold cI cA ko at h;rcases List.mem_append.1 h with h|h
 ·rcases List.mem_append.1 h with h|h
  ·obtain ⟨v,g1,g2⟩:=za (fun _ _ h=>h) h;exact ⟨v,Tn _ g1,g2⟩
  obtain ⟨v,g1,g2⟩:=za (fun i v h=>((Bool.and_eq_true _ _).mp h).2) h;exact ⟨v,To _ g1,g2⟩
 obtain ⟨v,g1,g2⟩:=za (fun i v h=>((Bool.and_eq_true _ _).mp h).2) h;exact ⟨v,To _ g1,g2⟩
section
variable {N:Nat} {m:SP} {roots:List SR} {live f:List Int} (h:CollCtx N m roots live f)
include h
theorem CollCtx.now64: ∀v∈roots.map (dk (pL f) f),in64 v.N:=fun v hv=>by
 have hl:=h.flen;obtain ⟨w,hw,rfl⟩:=List.mem_map.1 hv;exact EG V (h.r64 w hw)
theorem CollCtx.newHas {l:List SR}(hl:lc f l){v:SR}(hv:v∈l.map (dk (pL f) f))(hb:bI v=true):bw (gp N m live f) v.N=true:=by
 have _:=h;obtain ⟨w,hw,rfl⟩:=List.mem_map.1 hv;rw [FD] at hb;have:=hl w hw hb;rw [C2 hb this];exact GL this
theorem CollCtx.nextAddr {c:Ta}(hc:c∈f.map fun a=>jM (pL f) f (km N live (cc m a))):di c=true∧ ∀x∈cI c,bw (gp N m live f) x=true:=by
 obtain ⟨a,ha,rfl⟩:=List.mem_map.1 hc;refine ⟨(CellOk.new (IV f) (h.cell ha)).1,fun x hx=> ?_⟩;obtain ⟨v,hv,hb,rfl⟩:=wI hx;obtain ⟨i1,i2⟩:=(h.cell ha).inC;rcases List.mem_append.1 hv with hv|hv
 ·exact h.newHas i1 hv hb
 exact h.newHas i2 hv hb
end
end
section
open Go.RowKit
def cr (n:Nat):List Int:=(List.range n).map fun i:Nat=>2*(i:Int)+2
theorem KZ (n:Nat):(cr n).Pairwise (· < ·):=by
 unfold cr;rw [List.pairwise_map]
 exact List.pairwise_lt_range.imp fun h=>by omega
theorem EO {n i:Nat}(h:i<(cr n).length):(cr n)[i]=2*(i:Int)+2:=by simp [cr]
def qA (g:Gr)(live:List Int):List Int→List Int→List Int
 |row,[]=>row
 |row,a::avs=>qA g live (dz g.has row (g.opens live a)) avs
inductive MOrd (g:Gr) (olds kept:List Int):List Int→List Int→Prop
 |done {row:List Int}:qA g (olds++row) row (kept++row)=row→MOrd g olds kept row row
 |step {row r1 r:List Int}:qA g (olds++row) row (kept++row)≠row→Thr g (qA g (olds++row) row (kept++row)) row.length r1→MOrd g olds kept r1 r→MOrd g olds kept row r
structure IsMinor (g:Gr) (olds kept start b l:List Int):Prop where
 strong:Thr g (dz g.has [] start) 0 b
 all:MOrd g olds kept b l
theorem sD (g:Gr)(live:List Int): ∀(row avs:List Int), ∃t,qA g live row avs=row++t
 |row,[]=>⟨[],by simp [qA]⟩
 |row,a::avs=>by
  obtain ⟨t,h1, -⟩:=gZ g.has row (g.opens live a);obtain ⟨t2,h2⟩:=sD g live (dz g.has row (g.opens live a)) avs;exact ⟨t++t2,by unfold qA;rw [h2,h1,Tl]⟩
theorem Ew (g:Gr)(live:List Int): ∀(row avs bs:List Int),qA g live row (avs++bs)=qA g live (qA g live row avs) bs
 |_,[],_=>rfl
 |row,a::avs,bs=>by
  show qA g live _ (avs++bs)=_;rw [Ew g live _ avs bs];rfl
theorem Ey {g:Gr}{live:List Int}: ∀{row avs:List Int},qA g live row avs=row→ ∀a∈avs, ∀x∈g.opens live a,g.has x=true→x∈row
 | row,b::avs,h,a,ha,x,hx,hh=>by
  have h1:dz g.has row (g.opens live b)=row:=by
   obtain ⟨t,e1, -⟩:=gZ g.has row (g.opens live b);obtain ⟨t2,e2⟩:=sD g live (dz g.has row (g.opens live b)) avs
   have h3:row++t++t2=row:=by rw [←e1, ←e2];exact h
   have h4:=congrArg List.length h3;simp only [List.length_append] at h4;have h5:t=[]:=List.eq_nil_of_length_eq_zero V;rw [e1,h5,List.append_nil]
  rcases List.mem_cons.1 ha with e|ha
  ·subst e;have:=sK row _ hx hh;rwa [h1] at this
  refine Ey (avs:=avs) ?_ a ha x hx hh;unfold qA at h;rw [h1] at h;exact h
theorem MOrd.app {g:Gr}{olds kept row r:List Int}(h:MOrd g olds kept row r): ∃t,r=row++t:=by
 induction h with
 |done _=>exact ⟨[],by simp⟩
 |step _ h1 _ ih=>
  rename_i row r1 _ _ _
  obtain ⟨t,rfl⟩:=ih;obtain ⟨t1,rfl⟩:=h1.app;obtain ⟨t2,h2⟩:=sD g (olds++row) row (kept++row);exact ⟨t2++t1++t,by rw [h2];simp [Tl]⟩
theorem MOrd.closed {g:Gr}{olds kept row r:List Int}(h:MOrd g olds kept row r)(hc:CloG g row row.length):CloG g r r.length∧ ∀a∈kept++r, ∀x∈g.opens (olds++r) a,g.has x=true→x∈r:=by
 induction h with
 |done hp=>exact ⟨hc,Ey hp⟩
 |step _ h1 _ ih=>
  rename_i row _ _ _ _
  obtain ⟨t,e⟩:=sD g (olds++row) row (kept++row);refine ih (h1.clo (by rw [e,List.length_append];omega) ?_);rw [e];exact hc.app (Nat.le_refl _)
theorem IsMinor.start {g:Gr}{olds kept start b l:List Int}(h:IsMinor g olds kept start b l){x:Int}(hx:x∈start)(hh:g.has x=true):x∈l:=by
 obtain ⟨t,e⟩:=h.strong.app;obtain ⟨t2,e2⟩:=h.all.app;rw [e2,e];exact Tn _ (Tn _ (sK _ _ hx hh))
theorem IsMinor.closed {g:Gr}{olds kept start b l:List Int}(h:IsMinor g olds kept start b l):(∀a∈l, ∀x∈g.leads a,g.has x=true→x∈l)∧ ∀a∈kept++l, ∀x∈g.opens (olds++l) a,g.has x=true→x∈l:=by
 obtain ⟨h1,h2⟩:=h.all.closed (h.strong.clo (Nat.zero_le _) fun i _ _ hi=>absurd hi V);refine ⟨fun a ha x hx hh=> ?_,h2⟩;obtain ⟨i,hi,e⟩:=List.getElem_of_mem ha;exact h1 i a x hi (by rw [List.getElem?_eq_getElem hi,e]) hx hh
def yB (a:Int):Bool:=decide (0<a)&&decide (a.tmod 2=1)
def KU (N:Nat)(m:SP):Gr:=⟨yB,fun a=>cA (cc m a),fun live a=>dJ N (cc m a) live⟩
theorem pY (N:Nat)(a:Int):fz N a=some (yB a):=by
 unfold fz yB;cases decide (0<a)<;>cases decide (a.tmod 2=1)<;>rfl
theorem HI (k:Nat):yB (2*(k:Int)+1)=true:=by
 unfold yB;rw [sf V,Ti V,Ti V];rfl
theorem BP (k:Nat):yB (2*(k:Int)+2)=false:=by
 unfold yB;rw [sf V,Tj (p:=(2*(k:Int)+2)%2=1) V,Bool.and_false]
structure Mt (m:SP) (met:List Int) (seen:List (Int×Bool)):Prop where
 nd:met.Nodup
 yng: ∀x∈met,yB x=true
 has: ∀x∈met,bw m x=true
 mem: ∀x,(lk seen x).getD false=decide (x∈met)
theorem Mt.len {m:SP}{roots:List SR}(hs:Small m roots){met:List Int}{seen:List (Int×Bool)}(h:Mt m met seen):met.length≤1200:=zf 1200 h.nd fun x hx=>⟨by have:=qM (h.has x hx);omega,by have:=wv hs (h.has x hx);omega⟩
theorem Mt.nil (m:SP):Mt m [] []:=⟨List.nodup_nil,by simp,by simp,fun x=>by simp;rfl⟩
theorem EH (N:Nat){m:SP}{roots:List SR}(hs:Small m roots)(kp:List Int){met:List Int}{seen:List (Int×Bool)}(nx:Int)(h:Mt m met seen)(a:Int)(ha:yB a=true→bw m a=true): ∃seen',cy N ⟨m,kp,met,seen,nx⟩ a=some ⟨m,kp,dz yB met [a],seen',nx⟩∧Mt m (dz yB met [a]) seen':=by
 have hlen:=h.len hs;unfold cy;rw [pY,bs]
 dsimp only
 rw [h.mem a];have hl:dz yB met [a]=bif yB a&& !decide (a∈met) then met++ [a] else met:=rfl;rw [hl]
 cases hy:yB a with
 |false=>exact ⟨seen,rfl,h⟩
 | true=>
  by_cases hm:a∈met
  ·rw [Ti hm];exact ⟨seen,J,h⟩
  rw [Tj hm];refine ⟨um seen a true,?_,?_⟩
  ·simp only [ct,bs,nf];rw [rF (by simp;omega)];rfl
  refine ⟨List.nodup_append.2 ⟨h.nd,by simp,fun x hx y hy e=>by rw [List.mem_singleton] at hy;subst hy;subst e;exact hm hx⟩,fun x hx=> ?_,fun x hx=> ?_,fun x=> ?_⟩
  ·rcases List.mem_append.1 hx with hx|hx
   ·exact h.yng x hx
   rw [List.mem_singleton] at hx;subst hx;exact hy
  ·rcases List.mem_append.1 hx with hx|hx
   ·exact h.has x hx
   rw [List.mem_singleton] at hx;subst hx;exact ha hy
  rw [GS];show _=decide (x∈met++ [a]);by_cases e:a=x
  ·rw [if_pos e,Ti (by simp [e])];rfl
  rw [if_neg e,h.mem x];exact gu ⟨fun hx=>Tn _ hx,fun hx=>(List.mem_append.1 hx).elim id fun hx=>absurd (List.mem_singleton.1 hx).symm e⟩
theorem Aq {ρ:Type}(N:Nat){m:SP}{roots:List SR}(hs:Small m roots)(l:List Int)(hl:l.length<N)(hl2:l.length≤5000)(hh: ∀x∈l,yB x=true→bw m x=true)(L:Nat→Int→List Ta→List Ta→List Int→List Int→List (Int×Bool)→Int→Option ρ)(K:List Ta→List Ta→List Int→List Int→List (Int×Bool)→Int→Option ρ)
  (hrec: ∀k i hE O kp met seen nx,L (k+1) i hE O kp met seen nx=bif decide (i<(l.length:Int)) then ((aF l i).bind fun x=>(cy N (⟨(⟨hE,O⟩:SP),kp,met,seen,nx⟩:SQ) x).bind fun y=>bi (in64 (i+1)) (L k (i+1) y.m_.Young y.m_.Old y.kept_ y.met_ y.seen_ y.next_)) else K hE O kp met seen nx)
  (kp:List Int) {met:List Int} {seen:List (Int×Bool)} (nx:Int) (h:Mt m met seen) (R:ρ→Prop) (hk: ∀seen',Mt m (dz yB met l) seen'→Sat (K m.Young m.Old kp (dz yB met l) seen' nx) R):Sat (L N 0 m.Young m.Old kp met seen nx) R:=by
 refine cX (fun k i (s:List Int×List (Int×Bool))=>L k (i:Int) m.Young m.Old kp s.1 s.2 nx) l.length (fun i s=>Mt m s.1 s.2∧s.1=dz yB met (l.take i)) R ?_ ?_ N 0 (met,seen) V V ⟨h,J⟩
 ·rintro k i ⟨mt,sn⟩ hi ⟨h1,h2⟩ go;simp only at h1 h2;show Sat (L (k+1) (i:Int) m.Young m.Old kp mt sn nx) R;obtain ⟨sn',e1,e2⟩:=EH N hs kp nx h1 l[i] (hh _ (List.getElem_mem _));have e1':cy N ⟨⟨m.Young,m.Old⟩,kp,mt,sn,nx⟩ l[i]=some ⟨m,kp,dz yB mt [l[i]],sn',nx⟩:=e1;rw [hrec,cJ V,ct,br hi,bs,e1',bs,r64 V V];exact go (dz yB mt [l[i]],sn') ⟨e2,by show dz yB mt [l[i]]=_;rw [bh hi,qI, ←h2]⟩
 rintro k ⟨mt,sn⟩ ⟨h1,h2⟩;simp only [List.take_length] at h1 h2;show Sat (L (k+1) _ m.Young m.Old kp mt sn nx) R;rw [hrec,cK V,cf];subst h2;exact hk sn h1
theorem qG (N:Nat){m:SP}{roots:List SR}(hs:Small m roots)(kp met:List Int)(seen:List (Int×Bool))(nx:Int){a:Int}(ha:bw m a=true):bY N ⟨m,kp,met,seen,nx⟩ a=some (cc m a):=by
 have hy:=hs.young;have ho:=hs.old;unfold bY;rw [pY,bs];rcases sN ha with ⟨i,hi,rfl⟩|⟨i,hi,rfl⟩
 ·rw [HI,ct,xc V,show (2*(i:Int)+1) / 2=i by omega,r64 V V,DM m i hi,br hi,bs]
 rw [BP,cf,xc V,show (2*(i:Int)+2) / 2=(i:Int)+1 by omega,r64 V V,r64 V V,show (i:Int)+1 - 1=i by omega,uk m i hi,br hi,bs]
def Whole (m:SP):Prop:= ∀a,bw m a=true→ ∀x∈cI (cc m a),bw m x=true
theorem Whole.leads {m:SP}(h:Whole m){a:Int}(ha:bw m a=true): ∀x∈cA (cc m a),bw m x=true:=fun x hx=>h a ha x (Tn _ hx)
theorem Whole.opens {m:SP}(h:Whole m){N:Nat}{live:List Int}{a:Int}(ha:bw m a=true): ∀x∈dJ N (cc m a) live,bw m x=true:=fun x hx=>by
 unfold dJ at hx
 cases hw:pm N (cc m a) with
 |false=>rw [hw] at hx;cases hx
 |true=>
  rw [hw] at hx;obtain ⟨v,hv,hb,rfl⟩:=wn hx;exact h a ha _ (Cb (To _ hv) hb)
theorem xu (N:Nat)(hN:5000<N){m:SP}{roots:List SR}(hs:Small m roots)(hw:Whole m)(kp:List Int){met:List Int}{seen:List (Int×Bool)}(h:Mt m met seen)(k:Nat)(hk:k≤met.length):
  Sat (eP N ⟨m,kp,met,seen,(k:Int)⟩) fun r=> ∃seen',r=⟨m,kp,r.met_,seen',(r.met_.length:Int)⟩∧Mt m r.met_ seen'∧Thr (KU N m) met k r.met_:=by
 unfold eP;refine nu (fun f (s:List Int×List (Int×Bool)×Nat)=>ci N f m.Young m.Old kp s.1 s.2.1 (s.2.2:Int)) (fun s=>1300 - s.2.2) (fun s=>Mt m s.1 s.2.1∧s.2.2≤s.1.length∧ ∀r,Thr (KU N m) s.1 s.2.2 r→Thr (KU N m) met k r) _ ?_ N (met,seen,k) (by show 1300 - k<N;omega) ⟨h,hk,fun _ h=>h⟩;rintro f ⟨mt,sn,j⟩ ⟨h1,h3,h4⟩ go;show Sat (ci N (f+1) m.Young m.Old kp mt sn (j:Int)) _;simp only at h1 h3 h4;have hlen:=h1.len hs;rw [ci.eq_2];by_cases hj:j<mt.length
 ·have hh:=h1.has _ (List.getElem_mem hj);have hsm:=hs.at_ mt[j];have e1:bY N ⟨⟨m.Young,m.Old⟩,kp,mt,sn,(j:Int)⟩ mt[j]=some (cc m mt[j]):=qG N hs kp mt sn (j:Int) hh;have hll:=jO (cc m mt[j]);rw [cJ V,ct,br hj,bs,e1,bs,mu N V _ V V,bs]
  refine Aq N hs (cA (cc m mt[j])) V V (fun x hx _=>hw.leads hh x hx) (fA N (ci N f) (cA (cc m mt[j]))) (fB N (ci N f)) (fun _ _ _ _ _ _ _ _=>by rw [fA.eq_2]) kp (j:Int) h1 _ fun sn' h5=> ?_
  unfold fB;rw [r64 V V]
  have hge:mt.length≤(dz yB mt (cA (cc m mt[j]))).length:=by
   obtain ⟨t,e, -⟩:=gZ yB mt (cA (cc m mt[j]));rw [e,List.length_append];omega
  exact go (dz yB mt (cA (cc m mt[j])),sn',j+1) (by show 1300 - (j+1)<1300 - j;omega) ⟨h5,by show j+1≤(dz yB mt (cA (cc m mt[j]))).length;omega,fun r hr=>h4 r (.step (List.getElem?_eq_getElem hj) hr)⟩
 have:j=mt.length:=by omega
 subst this;rw [cK V,cf];exact aQ ⟨sn,J,h1,h4 _ (.done (Nat.le_refl _))⟩
theorem C4 (N:Nat)(hN:5000<N){m:SP}{roots:List SR}(hs:Small m roots)(kp:List Int){met:List Int}{seen:List (Int×Bool)}(nx:Int)(h:Mt m met seen):eY N ⟨m,kp,met,seen,nx⟩=some (cr m.Old.length++met):=by
 apply Sat.eq;have ho:=hs.old;have hlen:=h.len hs;unfold eY;refine cX (fun k i (s:List Int)=>er N ⟨m,kp,met,seen,nx⟩ k s (i:Int)) m.Old.length (fun i s=>s=cr i) _ ?_ ?_ N 0 [] V V J
 ·rintro k i s hi rfl go;show Sat (er N ⟨m,kp,met,seen,nx⟩ (k+1) (cr i) (i:Int)) _
  have hev:(cr i).length=i:=by unfold cr;simp
  rw [er.eq_2,cJ (by show (i:Int)<(m.Old.length:Int);omega),ct,r64 V V,r64 V V,rF (by simp;omega),r64 V V];refine go _ ?_;unfold cr;rw [List.range_succ,List.map_append];rfl
 rintro k s rfl;show Sat (er N ⟨m,kp,met,seen,nx⟩ (k+1) _ _) _
 have hev:(cr m.Old.length).length=m.Old.length:=by unfold cr;simp
 rw [er.eq_2,cK (by show (m.Old.length:Int)≤(m.Old.length:Int);omega),cf];unfold kU
 dsimp only
 rw [rF V];exact aQ J
theorem Bo (N:Nat)(a b:List Int)(ha:a.length≤100000)(hb:b.length≤100000):jV N a b=some (a++b):=by
 unfold jV nT pc ld mU;rw [r64 V V,cK (a:=0+(a.length:Int)) V,cf,r64 V V,cK (a:=0+(a.length:Int)+(b.length:Int)) V,cf,r64 V V,r64 V V,cf];by_cases h:0<a.length+b.length
 ·rw [cJ V,ct,kw ⟨by omega,by omega⟩,bs,rF (by simp;omega),rF (by simp;omega)];rfl
 rw [cK V,cf,bs,rF (by simp;omega),rF (by simp;omega)];rfl
theorem Id (N:Nat)(hN:5000<N){m:SP}{roots:List SR}(hs:Small m roots)(hw:Whole m)(kp:List Int)(hk: ∀x∈kp,bw m x=true)(hkl:kp.length≤1200){met:List Int}{seen:List (Int×Bool)}(nx:Int)(h:Mt m met seen):
  Sat (gq N ⟨m,kp,met,seen,nx⟩) fun r=> ∃seen',r=(decide ((met.length:Int)<(r.2.met_.length:Int)),⟨m,kp,r.2.met_,seen',nx⟩)∧Mt m r.2.met_ seen'∧r.2.met_=qA (KU N m) (cr m.Old.length++met) met (kp++met):=by
 have hlen:=h.len hs;have ho:=hs.old
 have hev:(cr m.Old.length).length=m.Old.length:=by unfold cr;simp
 unfold gq;rw [C4 N hN hs kp nx h,bs]
 dsimp only
 rw [Bo N kp met V V,bs]
 have hL:(cr m.Old.length++met).length≤5000:=by rw [List.length_append];omega
 have hC:(kp++met).length≤2400:=by rw [List.length_append];omega
 generalize hlv:cr m.Old.length++met=live at*
 have hcm: ∀x∈kp++met,bw m x=true:=fun x hx=>(List.mem_append.1 hx).elim (hk x) (h.has x)
 generalize hcc:kp++met=cs at*;refine cX (fun k i (s:List Int×List (Int×Bool))=>cj N ⟨m,kp,met,seen,nx⟩ cs live k (i:Int) m.Young m.Old kp s.1 s.2 nx) cs.length (fun i s=>Mt m s.1 s.2∧s.1=qA (KU N m) live met (cs.take i)) _ ?_ ?_ N 0 (met,seen) V V ⟨h,J⟩
 ·rintro k i ⟨mt,sn⟩ hi ⟨h1,h2⟩ go;simp only at h1 h2;show Sat (cj N ⟨m,kp,met,seen,nx⟩ cs live (k+1) (i:Int) m.Young m.Old kp mt sn nx) _;have hh:=hcm _ (List.getElem_mem hi);have hsm:=hs.at_ cs[i];have e1:bY N ⟨⟨m.Young,m.Old⟩,kp,mt,sn,nx⟩ cs[i]=some (cc m cs[i]):=qG N hs kp mt sn nx hh;have hol:=CX N (cc m cs[i]) live;rw [cj.eq_2,cJ V,ct,br hi,bs,e1,bs,CW N hN live V _ V V,bs]
  refine Aq N hs (dJ N (cc m cs[i]) live) V V (fun x hx _=>hw.opens hh x hx) (ie N (cj N ⟨m,kp,met,seen,nx⟩ cs live k) ⟨m,kp,met,seen,nx⟩ cs (i:Int) (dJ N (cc m cs[i]) live) live) (ig N (cj N ⟨m,kp,met,seen,nx⟩ cs live k) ⟨m,kp,met,seen,nx⟩ cs (i:Int) live) (fun _ _ _ _ _ _ _ _=>by rw [ie.eq_2]) kp nx h1 _ fun sn' h5=> ?_
  unfold ig;rw [r64 V V];refine go (dz yB mt (dJ N (cc m cs[i]) live),sn') ⟨h5,?_⟩;show dz yB mt (dJ N (cc m cs[i]) live)=_;rw [bh hi,Ew, ←h2];rfl
 rintro k ⟨mt,sn⟩ ⟨h1,h2⟩;simp only [List.take_length] at h1 h2;show Sat (cj N ⟨m,kp,met,seen,nx⟩ cs live (k+1) _ m.Young m.Old kp mt sn nx) _;rw [cj.eq_2,cK V,cf];unfold kT;exact aQ ⟨sn,J,h1,h2⟩
def Cn (m:SP)(roots:List SR)(kept:List Int):List Int:=bZ roots++kept.flatMap fun a=>cA (cc m a)
theorem Db (N:Nat)(v:SR):jY N v=some (v.N,bI v):=by
 unfold jY;rw [qJ,bs]
theorem KH (N:Nat)(hN:5000<N){m:SP}{roots:List SR}(hs:Small m roots)(hw:Whole m)(hr: ∀x∈bZ roots,bw m x=true)(kept:List Int)(hk: ∀x∈kept,bw m x=true)(hkl:kept.length≤1200):
  Sat (kV N m roots kept) fun r=> ∃seen nx b,r=⟨m,kept,r.met_,seen,nx⟩∧Mt m r.met_ seen∧IsMinor (KU N m) (cr m.Old.length) kept (Cn m roots kept) b r.met_:=by
 have hrl:=hs.roots
 -- the passes
 have passes: ∀(b:List Int) (seen:List (Int×Bool)),Mt m b seen→Thr (KU N m) (dz yB [] (Cn m roots kept)) 0 b→Sat (jk N N m.Young m.Old kept b seen (b.length:Int)) fun r=> ∃seen nx b,r=⟨m,kept,r.met_,seen,nx⟩∧Mt m r.met_ seen∧IsMinor (KU N m) (cr m.Old.length) kept (Cn m roots kept) b r.met_:=by
  intro b seen h hb;have h0:=h.len hs;refine nu (fun f (s:List Int×List (Int×Bool))=>jk N f m.Young m.Old kept s.1 s.2 (s.1.length:Int)) (fun s=>1300 - s.1.length) (fun s=>Mt m s.1 s.2∧ ∀r,MOrd (KU N m) (cr m.Old.length) kept s.1 r→MOrd (KU N m) (cr m.Old.length) kept b r) _ ?_ N (b,seen) (by show 1300 - b.length<N;omega) ⟨h,fun _ h=>h⟩;rintro f ⟨mt,sn⟩ ⟨h1,h2⟩ go;simp only at h1 h2;show Sat (jk N (f+1) m.Young m.Old kept mt sn (mt.length:Int)) _;have hlen:=h1.len hs;obtain ⟨⟨p,x⟩,e0,sn',e1,h3,h4⟩:=Id N hN hs hw kept hk hkl (mt.length:Int) h1;simp only at e1 h3 h4;obtain ⟨e1,e2⟩:=Prod.mk.inj e1;obtain ⟨t,ht⟩:=sD (KU N m) (cr m.Old.length++mt) mt (kept++mt);have hlen3:=h3.len hs;have e0':gq N ⟨⟨m.Young,m.Old⟩,kept,mt,sn,(mt.length:Int)⟩=some (p,x):=e0;rw [jk.eq_2,e0',bs]
  dsimp only
  rw [e1];generalize hm':x.met_=mt' at*;subst e2
  refine dQ (fun hlt=> ?_) fun hge=> ?_
  ·refine Sat.bind (xu N hN hs hw kept h3 mt.length (by rw [h4,ht,List.length_append];omega)) ?_;rintro r ⟨sn3,e3,h5,h6⟩;have hlen5:=h5.len hs;rw [e3]
   dsimp only
   refine go (r.met_,sn3) ?_ ⟨h5,fun r' hr'=>h2 r' (.step ?_ (by rw [←h4];exact h6) hr')⟩
   ·obtain ⟨t3,e4⟩:=h6.app;show 1300 - r.met_.length<1300 - mt.length
    have:mt'.length≤r.met_.length:=by rw [e4,List.length_append];omega
    omega
   rw [←h4];intro e;rw [e] at hlt;omega
  have e:mt'=mt:=by
   rw [ht] at h4;have h0:t=[]:=List.eq_nil_of_length_eq_zero (by rw [h4,List.length_append] at hge;omega);rw [h4,h0,List.append_nil]
  subst e;unfold rU;exact aQ ⟨sn',(mt'.length:Int),b,J,h3,⟨hb,h2 _ (.done h4.symm)⟩⟩
 -- the kept cells
 have keptL: ∀(row:List Int) (seen:List (Int×Bool)),Mt m row seen→row=dz yB [] (bZ roots)→Sat (d8 N kept N 0 m.Young m.Old kept row seen 0) fun r=> ∃seen nx b,r=⟨m,kept,r.met_,seen,nx⟩∧Mt m r.met_ seen∧IsMinor (KU N m) (cr m.Old.length) kept (Cn m roots kept) b r.met_:=by
  intro row seen h hrow;refine cX (fun k i (s:List Int×List (Int×Bool))=>d8 N kept k (i:Int) m.Young m.Old kept s.1 s.2 0) kept.length (fun i s=>Mt m s.1 s.2∧s.1=dz yB [] (bZ roots++(kept.take i).flatMap fun a=>cA (cc m a))) _ ?_ ?_ N 0 (row,seen) V V ⟨h,by simpa using hrow⟩
  ·rintro k i ⟨mt,sn⟩ hi ⟨h1,h2⟩ go;simp only at h1 h2;show Sat (d8 N kept (k+1) (i:Int) m.Young m.Old kept mt sn 0) _;have hh:=hk _ (List.getElem_mem hi);have hsm:=hs.at_ kept[i];have e1:bY N ⟨⟨m.Young,m.Old⟩,kept,mt,sn,0⟩ kept[i]=some (cc m kept[i]):=qG N hs kept mt sn 0 hh;have hll:=jO (cc m kept[i]);rw [d8.eq_2,cJ V,ct,br hi,bs,e1,bs,mu N V _ V V,bs]
   refine Aq N hs (cA (cc m kept[i])) V V (fun x hx _=>hw.leads hh x hx) (oD N (d8 N kept k) kept (i:Int) (cA (cc m kept[i]))) (oE N (d8 N kept k) kept (i:Int)) (fun _ _ _ _ _ _ _ _=>by rw [oD.eq_2]) kept 0 h1 _ fun sn' h5=> ?_
   unfold oE;rw [r64 V V];refine go (dz yB mt (cA (cc m kept[i])),sn') ⟨h5,?_⟩;show dz yB mt (cA (cc m kept[i]))=_;rw [bh hi,List.flatMap_append, ←Tl,qI, ←h2];simp
  rintro k ⟨mt,sn⟩ ⟨h1,h2⟩;simp only [List.take_length] at h1 h2;show Sat (d8 N kept (k+1) _ m.Young m.Old kept mt sn 0) _;rw [d8.eq_2,cK V,cf];unfold rV;refine Sat.bind (xu N hN hs hw kept h1 0 (Nat.zero_le _)) ?_;rintro r ⟨sn3,e3,h5,h6⟩;rw [e3]
  dsimp only
  exact passes r.met_ sn3 h5 (by rw [h2] at h6;exact h6)
 -- the roots
 unfold kV;refine cX (fun k i (s:List Int×List (Int×Bool))=>gG N roots kept k (i:Int) m.Young m.Old kept s.1 s.2 0) roots.length (fun i s=>Mt m s.1 s.2∧s.1=dz yB [] (bZ (roots.take i))) _ ?_ ?_ N 0 ([],[]) V V ⟨Mt.nil m,J⟩
 ·rintro k i ⟨mt,sn⟩ hi ⟨h1,h2⟩ go;simp only at h1 h2;show Sat (gG N roots kept (k+1) (i:Int) m.Young m.Old kept mt sn 0) _
  have hnext:dz yB [] (bZ (roots.take (i+1)))=dz yB mt (bZ [roots[i]]):=by
   rw [bh hi,wH,qI, ←h2]
  rw [gG.eq_2,cJ V,ct,br hi,bs,Db,bs]
  dsimp only
  unfold oF;cases hb:bI roots[i]
  ·rw [cf,r64 V V];refine go (mt,sn) ⟨h1,?_⟩;show mt=_;rw [hnext];simp [bZ,hb,dz]
  rw [ct];have hroot:bw m roots[i].N=true:=hr _ (lw.2 ⟨_,List.getElem_mem _,hb,rfl⟩)
  obtain ⟨sn',e1,e2⟩:=EH N hs kept 0 h1 roots[i].N fun _=>hroot
  have e1':cy N ⟨⟨m.Young,m.Old⟩,kept,mt,sn,0⟩ roots[i].N=_:=e1;rw [e1',bs]
  dsimp only
  rw [r64 V V];refine go (dz yB mt [roots[i].N],sn') ⟨e2,?_⟩;show dz yB mt [roots[i].N]=_;rw [hnext];simp [bZ,hb]
 rintro k ⟨mt,sn⟩ ⟨h1,h2⟩;simp only [List.take_length] at h1 h2;show Sat (gG N roots kept (k+1) _ m.Young m.Old kept mt sn 0) _;rw [gG.eq_2,cK V,cf];unfold tp;exact keptL mt sn h1 h2
def rx (m:SP)(kept:List Int):Bool:=(List.range m.Old.length).all fun i=> !(cI (cc m (2*(i:Int)+2))).any yB||decide ((2*(i:Int)+2)∈kept)
def qK (m:SP)(kept:List Int):Bool:=kept.all (fun a=> !yB a&&bw m a)&&decide (kept.Pairwise (· < ·))
def z6 (N:Nat)(m:SP):Bool:=(m.Young++m.Old).all (zx N m)
def C7 (N:Nat)(m:SP)(roots:List SR)(kept:List Int):Bool:=dp m (bZ roots)&&z6 N m&&qK m kept&&rx m kept
theorem Bj (N:Nat)(hN:2000<N)(c:Ta)(hS:c.Slots.length≤600)(hM:c.More.length≤600):iF N c=some (cI c):=by
 have h1:=jO c;have h2:=mC c;unfold iF;rw [mu N hN c V V,bs,rc N hN c V V,bs,rF V];rfl
theorem zV (N:Nat)(f:Int→Option Bool)(p:Int→Bool)(l:List Int)(hl:l.length<N)(hl2:l.length≤5000)(hf: ∀x∈l,f x=some (p x)):bC N l f=some (l.any p):=by
 have key: ∀k i:Nat,l.length<k+i→i≤l.length→Sat (dF N f l k (i:Int)) fun r=>decide (0≤r)=(l.drop i).any p:=by
  intro k
  induction k with
  |zero=>intro i h1 h2;omega
  | succ k ih=>
   intro i h1 h2;rw [dF.eq_2];by_cases hi:i<l.length
   ·have h3:=ih (i+1) V hi;rw [show (((i+1:Nat)):Int)=(i:Int)+1 by omega] at h3;rw [cJ V,ct,br hi,bs,List.drop_eq_getElem_cons hi,List.any_cons,hf _ (List.getElem_mem _),bs,r64 V V];cases p l[i]
    ·exact h3
    exact aQ (by rw [Ti V];rfl)
   rw [cK V,cf,List.drop_eq_nil_of_le V];exact aQ J
 obtain ⟨r,h1,h2⟩:=key N 0 V V;have h1':dF N f l N 0=some r:=h1;unfold bC jB;rw [h1',bs,h2];rfl
theorem JW (N:Nat)(f:SR→Option Bool)(p:SR→Bool)(l:List SR)(hl:l.length<N)(hl2:l.length≤5000)(hf: ∀x∈l,f x=some (p x)):cH N l f=some (l.any p):=by
 have key: ∀k i:Nat,l.length<k+i→i≤l.length→Sat (dB N f l k (i:Int)) fun r=>decide (0≤r)=(l.drop i).any p:=by
  intro k
  induction k with
  |zero=>intro i h1 h2;omega
  | succ k ih=>
   intro i h1 h2;rw [dB.eq_2];by_cases hi:i<l.length
   ·have h3:=ih (i+1) V hi;rw [show (((i+1:Nat)):Int)=(i:Int)+1 by omega] at h3;rw [cJ V,ct,br hi,bs,List.drop_eq_getElem_cons hi,List.any_cons,hf _ (List.getElem_mem _),bs,r64 V V];cases p l[i]
    ·exact h3
    exact aQ (by rw [Ti V];rfl)
   rw [cK V,cf,List.drop_eq_nil_of_le V];exact aQ J
 obtain ⟨r,h1,h2⟩:=key N 0 V V;have h1':dB N f l N 0=some r:=h1;unfold cH iO;rw [h1',bs,h2];rfl
theorem Ca {α:Type}(p:α→Bool): ∀l:List α,l.any (fun x=> !p x)=!l.all p
 | []=>rfl
 |x::l=>by rw [List.any_cons,List.all_cons,Ca p l];cases p x<;>rfl
theorem zM (N:Nat)(a b:List Ta)(ha:a.length≤100000)(hb:b.length≤100000):fF N a b=some (a++b):=by
 unfold fF kj kI ib jE;rw [r64 V V,cK (a:=0+(a.length:Int)) V,cf,r64 V V,cK (a:=0+(a.length:Int)+(b.length:Int)) V,cf,r64 V V,r64 V V,cf];by_cases h:0<a.length+b.length
 ·rw [cJ V,ct,kw ⟨by omega,by omega⟩,bs,rF (by simp;omega),rF (by simp;omega)];rfl
 rw [cK V,cf,bs,rF (by simp;omega),rF (by simp;omega)];rfl
theorem HO (N:Nat)(hN:5000<N){m:SP}{roots:List SR}(hs:Small m roots)(hw:W64 m):oB N m=some (z6 N m):=by
 have h1:=hs.young;have h2:=hs.old;unfold oB z6;rw [zM N _ _ V V,bs]
 have hl:(m.Young++m.Old).length≤1200:=by rw [List.length_append];omega
 refine GR (fun k i=>ni N (m.Young++m.Old) m k i) (m.Young++m.Old) _ (fun k i h=> ?_) (fun k=> ?_) N V
 ·have hm:(m.Young++m.Old)[i]∈m.Young++m.Old:=List.getElem_mem _;have hc:=hs.cells _ hm;obtain ⟨⟨a1,a2⟩,a3,a4⟩:=zZ hs hw hm;rw [ni.eq_2,cJ V,ct,br h,bs];generalize (m.Young++m.Old)[i]=c at*;obtain ⟨b,hb, -⟩:=Ac N V c V V
  rw [uK N V _ V V,hb,bs,Bj N V c hc.1 hc.2,bs,zV N _ (fun x=> !bw m x) (cI c) (by unfold cI;rw [List.length_append];omega) (by unfold cI;rw [List.length_append];omega) (fun x hx=>by
   unfold od
   rw [sM N m x ((List.mem_append.1 hx).elim (a2 x) (a4 x)),bs]),Ca]
  unfold zx;rw [hb,r64 V V]
  have e:(cI c).all (bw m)=(dp m (cA c)&&dp m (ko c)):=by unfold cI dp;rw [List.all_append]
  rw [e];cases b<;>cases dp m (cA c)&&dp m (ko c)<;>rfl
 rw [ni.eq_2,cK V,cf];rfl
theorem Lv (l:List Int):decide (l.Pairwise (· < ·))=(List.range l.length).all fun i=>decide (i=0)||decide (l.getD (i - 1) 0<l.getD i 0):=by
 rw [Bool.eq_iff_iff,decide_eq_true_eq,List.all_eq_true];constructor
 ·intro h i hi;rw [List.mem_range] at hi;by_cases h0:i=0
  ·rw [Ti h0];rfl
  have:=List.pairwise_iff_getElem.1 h (i - 1) i V hi V;rw [Ti (p:=l.getD (i - 1) 0<l.getD i 0) (by simpa [List.getD,hi,show i - 1<l.length by omega] using this),Bool.or_true]
 intro h
 refine List.pairwise_iff_getElem.2 fun i j hi hj hij=> ?_
 have step: ∀k,i+k+1<l.length→l[i]'hi<l.getD (i+k+1) 0:=by
  intro k
  induction k with
  |zero=>
   intro hk;have:=h (i+1) (List.mem_range.2 hk);rw [Tj (p:=i+1=0) V,Bool.false_or,decide_eq_true_eq,Nat.add_sub_cancel] at this;simpa [List.getD,hi] using this
  |succ k ih=>
   intro hk;have h1:=ih V;have:=h (i+k+1+1) (List.mem_range.2 V);rw [Tj (p:=i+k+1+1=0) V,Bool.false_or,decide_eq_true_eq,Nat.add_sub_cancel] at this;show l[i]'hi<l.getD (i+k+1+1) 0;omega
 have:=step (j - i - 1) V;rw [show i+(j - i - 1)+1=j by omega] at this;simpa [List.getD,hj] using this
theorem EI (N:Nat)(hN:5000<N){m:SP}{roots:List SR}(hs:Small m roots)(hw:W64 m)(hr: ∀v∈roots,in64 v.N)(kept:List Int)(hk:kept.length≤5000)(k64: ∀x∈kept,in64 x):mL N m roots kept=some (C7 N m roots kept):=by
 have h3:=hs.roots;have ho:=hs.old
 -- the old cells
 have olds:kg N kept m=some (rx m kept):=by
  unfold kg rx;have hlr:(List.range m.Old.length).length=m.Old.length:=List.length_range;refine GR (fun k i=>oC N m kept k i) (List.range m.Old.length) _ (fun k i h=> ?_) (fun k=> ?_) N V
  ·rw [hlr] at h;have hm:m.Old[i]∈m.Young++m.Old:=To _ (List.getElem_mem _);have hc:=hs.cells _ hm;obtain ⟨⟨a1,a2⟩,a3,a4⟩:=zZ hs hw hm;rw [oC.eq_2,cJ V,ct,br h,bs,Bj N V _ hc.1 hc.2,bs,zV N _ yB (cI m.Old[i]) (by unfold cI;rw [List.length_append];omega) (by unfold cI;rw [List.length_append];omega) (fun x _=>pY N x),bs,r64 (a:=2*(i:Int)) V V,r64 (a:=2*(i:Int)+2) V V,oK N hN kept hk,bs,r64 V V,List.getElem_range,uk m i h];cases (cI m.Old[i]).any yB<;>cases decide ((2*(i:Int)+2)∈kept)<;>rfl
  rw [hlr,oC.eq_2,cK V,cf];rfl
 -- the kept addresses
 have hkept:lV N kept m N 0=bif qK m kept then kg N kept m else some false:=by
  have hlr:(List.range kept.length).length=kept.length:=List.length_range;have:=wr (fun k i=>lV N kept m k i) (List.range kept.length) (fun i=>(!yB (kept.getD i 0)&&bw m (kept.getD i 0))&&(decide (i=0)||decide (kept.getD (i - 1) 0<kept.getD i 0))) (some false) (kg N kept m) (fun k i h=> ?_) (fun k=> ?_) N V
  ·rw [this]
   have e:((List.range kept.length).all fun i=>(!yB (kept.getD i 0)&&bw m (kept.getD i 0))&&(decide (i=0)||decide (kept.getD (i - 1) 0<kept.getD i 0)))=qK m kept:=by
    unfold qK;rw [Lv]
    have e2:kept.all (fun a=> !yB a&&bw m a)=(List.range kept.length).all fun i=> !yB (kept.getD i 0)&&bw m (kept.getD i 0):=by
     rw [Bool.eq_iff_iff,List.all_eq_true,List.all_eq_true];constructor
     ·intro h i hi;rw [List.mem_range] at hi
      have:kept.getD i 0=kept[i]:=by simp [List.getD,hi]
      rw [this];exact h _ (List.getElem_mem _)
     intro h x hx;obtain ⟨i,hi,rfl⟩:=List.getElem_of_mem hx;have:=h i (List.mem_range.2 hi)
     rwa [show kept.getD i 0=kept[i] by simp [List.getD,hi]] at this
    rw [e2]
    induction List.range kept.length with
    |nil=>rfl
    |cons a l ih=>rw [List.all_cons,List.all_cons,List.all_cons,ih];cases (!yB (kept.getD a 0)&&bw m (kept.getD a 0))<;>cases (decide (a=0)||decide (kept.getD (a - 1) 0<kept.getD a 0))<;>simp
   rw [e]
  ·rw [hlr] at h
   have hg:kept.getD i 0=kept[i]:=by simp [List.getD,h]
   rw [lV.eq_2,cJ V,ct,br h,bs,pY,bs,sM N m _ (k64 _ (List.getElem_mem _)),r64 (a:=(i:Int)+1) V V,List.getElem_range,hg];by_cases h0:i=0
   ·subst h0;rw [cK (a:=0) (b:=((0:Nat):Int)) V];cases yB kept[0]<;>cases bw m kept[0]<;>rfl
   have hp:aF kept ((i:Int) - 1)=some (kept.getD (i - 1) 0):=by
    have:=br (xs:=kept) (i:=i - 1) V;rw [show (((i - 1:Nat)):Int)=(i:Int) - 1 by omega] at this;rw [this];simp [List.getD,show i - 1<kept.length by omega]
   rw [cJ (a:=0) (b:=(i:Int)) V,ct,r64 (a:=(i:Int) - 1) V V,hp,Tj h0];simp only [bs];by_cases hlt:kept.getD (i - 1) 0<kept[i]
   ·rw [LX hlt,Ti hlt];cases yB kept[i]<;>cases bw m kept[i]<;>rfl
   rw [LW V,Tj hlt];cases yB kept[i]<;>cases bw m kept[i]<;>rfl
  rw [hlr,lV.eq_2,cK V,cf]
 have hroots:cH N roots (fun x=>nl N x m)=some (!dp m (bZ roots)):=by
  rw [JW N _ (fun v=> !(!bI v||bw m v.N)) roots V V (fun v hv=>by
   unfold nl;rw [Db,bs]
   dsimp only
   rw [sM N m _ (hr v hv),bs]
   cases bI v<;>cases bw m v.N<;>rfl),Ca]
  unfold dp bZ;rw [all_map,DO]
 unfold mL C7;rw [hroots,bs,HO N hN hs hw,bs,hkept,olds];cases dp m (bZ roots)<;>cases z6 N m<;>cases qK m kept<;>rfl
def RJ (c:Ta):Ta:=⟨c.Kind,c.Shape,c.Flags,c.Age,c.Slots.take 20,c.More.take 40⟩
def Q6 (l:List Ta):List Ta:=(l.take 40).map RJ
def Sk (m:SP):SP:=⟨Q6 m.Young,Q6 m.Old⟩
structure Few20 (m:SP) (roots:List SR):Prop where
 young:m.Young.length≤40
 old:m.Old.length≤40
 roots:roots.length≤40
 cells: ∀c∈m.Young++m.Old,c.Slots.length≤20∧c.More.length≤40
def Du (N:Nat)(m:SP)(roots:List SR):Bool:=dp m (bZ roots)&&z6 N m
def ng (m:SP)(i:Nat):Bool:=(cI (cc m (2*(i:Int)+2))).any yB
def jy (m:SP):List Int:=((List.range m.Old.length).filter (ng m)).map fun i:Nat=>2*(i:Int)+2
theorem Az {m:SP}{x:Int}:x∈jy m↔ ∃i:Nat,i<m.Old.length∧ng m i=true∧x=2*(i:Int)+2:=by
 unfold jy;simp only [List.mem_map,List.mem_filter,List.mem_range];constructor
 ·rintro ⟨i,⟨h1,h2⟩,rfl⟩;exact ⟨i,h1,h2,J⟩
 rintro ⟨i,h1,h2,rfl⟩;exact ⟨i,⟨h1,h2⟩,J⟩
theorem KN {m:SP}{x:Int}(h:x∈jy m):bw m x=true∧yB x=false:=by
 obtain ⟨i,h1, -,rfl⟩:=Az.1 h;exact ⟨by rw [tu];exact Ti h1,BP i⟩
theorem GW (m:SP):qK m (jy m)=true:=by
 unfold qK;rw [Bool.and_eq_true,decide_eq_true_eq,List.all_eq_true];refine ⟨fun x hx=> ?_,?_⟩
 ·obtain ⟨h1,h2⟩:=KN hx;rw [h1,h2];rfl
 unfold jy;refine List.Pairwise.map _ (fun a b (h:a<b)=> ?_) ((List.pairwise_lt_range).filter _);omega
theorem I1 (m:SP):rx m (jy m)=true:=by
 unfold rx;rw [List.all_eq_true];intro i hi;rw [List.mem_range] at hi;cases h:(cI (cc m (2*(i:Int)+2))).any yB
 ·rfl
 have:(2*(i:Int)+2)∈jy m:=Az.2 ⟨i,hi,h,rfl⟩;rw [Ti this];rfl
theorem KG (N:Nat)(m:SP)(roots:List SR):C7 N m roots (jy m)=Du N m roots:=by
 unfold C7 Du;rw [GW,I1,Bool.and_true,Bool.and_true]
theorem gb {n:Nat}{x:Int}:x∈cr n↔ ∃i:Nat,i<n∧x=2*(i:Int)+2:=by
 unfold cr;simp only [List.mem_map,List.mem_range];constructor
 ·rintro ⟨i,h,rfl⟩;exact ⟨i,h,J⟩
 rintro ⟨i,h,rfl⟩;exact ⟨i,h,J⟩
def RD (n:Nat):List SR:=(List.range n).map fun i:Nat=>(⟨9,2*(i:Int)+2,⟨#[]⟩⟩:SR)
theorem G3 {m:SP}{a:Int}(h:bw m a=true)(hy:yB a=false): ∃i:Nat,i<m.Old.length∧a=2*(i:Int)+2:=by
 rcases sN h with ⟨i,hi,rfl⟩|h
 ·rw [HI] at hy;cases hy
 exact h
theorem H4 {N:Nat}{c:Ta}{l:List Int}{x:Int}(h:x∈dJ N c l):x∈cI c:=by
 unfold dJ at h
 cases hw:pm N c with
 |false=>rw [hw] at h;cases h
 |true=>
  rw [hw] at h;obtain ⟨v,hv,hb,rfl⟩:=wn h;exact Cb (To _ hv) hb
theorem zw {N:Nat}{m:SP}{roots:List SR}(h:Du N m roots=true):Whole m∧(∀x∈bZ roots,bw m x=true)∧ ∀c∈m.Young++m.Old,zx N m c=true:=by
 unfold Du at h;rw [Bool.and_eq_true] at h
 have h2: ∀c∈m.Young++m.Old,zx N m c=true:=fun c hc=>pS h.2 hc
 refine ⟨fun a ha x hx=> ?_,fun x hx=>pS h.1 hx,h2⟩
 have h3:=h2 (cc m a) (by
  unfold bw at ha;unfold cc
  cases hc:ip m a with
  |none=>rw [hc] at ha;cases ha
  |some c=>exact qX hc)
 unfold zx at h3;rw [Bool.and_eq_true,Bool.and_eq_true] at h3;rcases List.mem_append.1 hx with hx|hx
 ·exact pS h3.2.1 hx
 exact pS h3.2.2 hx
def yz (met to:List Int)(a:Int):Int:=if a∈met then to.getD (met.idxOf a) 0 else a
theorem IN {α:Type}{g:α→α}{l:List α}{i:Nat}(h:i<l.length):aF ((l.take i).map g++l.drop i) (i:Int)=some l[i]:=by
 have h1:i<((l.take i).map g++l.drop i).length:=by simp;omega
 rw [br h1]
 congr 1
 rw [List.getElem_append_right (by simp;omega)];simp [Nat.min_eq_left (Nat.le_of_lt h)]
theorem IM {α:Type}{g:α→α}{l:List α}{i:Nat}(h:i<l.length):((l.take i).map g++l.drop i).set i (g l[i])=(l.take (i+1)).map g++l.drop (i+1):=by
 rw [bh h,List.drop_eq_getElem_cons h,List.map_append];rw [List.set_append,if_neg (by simp;omega)];simp [Nat.min_eq_left (Nat.le_of_lt h)];rw [List.drop_eq_getElem_cons h];rfl
theorem yt {α:Type}{g:α→α}{l:List α}{i:Nat}(h:i<l.length)(he:g l[i]=l[i]):(l.take i).map g++l.drop i=(l.take (i+1)).map g++l.drop (i+1):=by
 rw [bh h,List.drop_eq_getElem_cons h,List.map_append];simp [he]
def QC (kv:List (Int×Int))(met to:List Int)(i:Nat):Prop:= ∀x,lk kv x=if x∈met.take i then some (yz met to x) else none
theorem Ao {l:List Int}(hn:l.Nodup){i:Nat}(h:i<l.length):l.idxOf l[i]=i:=by
 have hm:l[i]∈l:=List.getElem_mem _;rcases Nat.lt_trichotomy (l.idxOf l[i]) i with h2|h2|h2
 ·exact absurd (oH hm) (List.pairwise_iff_getElem.1 (List.nodup_iff_pairwise_ne.1 hn) _ _ (rW hm) h h2)
 ·exact h2
 exact absurd (oH hm).symm (List.pairwise_iff_getElem.1 (List.nodup_iff_pairwise_ne.1 hn) _ _ h (rW hm) h2)
theorem C0 {l:List Int}(hn:l.Nodup){i:Nat}(h:i<l.length):l[i]∉l.take i:=fun hm=>by
 obtain ⟨j,hj,e⟩:=List.getElem_of_mem hm;rw [List.length_take] at hj;rw [List.getElem_take] at e;exact absurd e (List.pairwise_iff_getElem.1 (List.nodup_iff_pairwise_ne.1 hn) _ _ V h V)
theorem Bp (N:Nat)(hN:5000<N)(c:Ta)(hS:c.Slots.length≤4000)(hM:c.More.length≤4000)(met to:List Int)(hn:met.Nodup)(hl:to.length=met.length)(hml:met.length≤1200):fD N c met to=some (jM (yz met to) met c):=by
 apply Sat.eq
 have mv: ∀(kv:List (Int×Int)),QC kv met to met.length→ ∀v:SR,(lk kv v.N).isSome=decide (v.N∈met)∧(v.N∈met→bI v=true→(⟨v.Kind,(lk kv v.N).getD 0,v.S⟩:SR)=dk (yz met to) met v):=fun kv hk v=>by
  rw [hk v.N,List.take_length];by_cases h:v.N∈met
  ·rw [if_pos h,Ti h];refine ⟨J,fun _ hb=> ?_⟩;rw [C2 hb h];rfl
  rw [if_neg h,Tj h];exact ⟨J,fun h2=>absurd h2 h⟩
 have keep: ∀v:SR,(v.N∉met∨bI v=false)→dk (yz met to) met v=v:=fun v h=>by
  unfold dk;rcases h with h|h
  ·rw [Tj h,Bool.and_false];rfl
  rw [h];rfl
 have copy:fZ N c=some c:=by
  unfold fZ cR;rw [rF (by simp only [List.length_nil];omega),rF (by simp only [List.length_nil];omega)];rfl
 have body: ∀kv:List (Int×Int),QC kv met to met.length→Sat (oL N c kv) fun r=>r=jM (yz met to) met c:=by
  intro kv hk;unfold oL;rw [copy,bs];refine cX (fun k i (s:List SR)=>fY N c kv k s (i:Int)) c.Slots.length (fun i s=>s=(c.Slots.take i).map (dk (yz met to) met)++c.Slots.drop i) _ ?_ ?_ N 0 c.Slots V V (by simp)
  ·rintro k i s hi rfl go;show Sat (fY N c kv (k+1) _ (i:Int)) _;obtain ⟨e1,e2⟩:=mv kv hk c.Slots[i];rw [fY.eq_2,cJ V,ct,IN hi,bs,e1,pp];simp only [bs];unfold nG;rw [r64 V V,r64 V V];by_cases hm:c.Slots[i].N∈met
   ·rw [Ti hm,ct,bs];cases hb:bI c.Slots[i]
    ·rw [cf];exact go _ (yt hi (keep _ (.inr hb)))
    rw [ct,e2 hm hb,Int.toNat_natCast];exact go _ (IM hi)
   rw [Tj hm,cf,bs,cf];exact go _ (yt hi (keep _ (.inl hm)))
  rintro k s rfl;show Sat (fY N c kv (k+1) _ _) _;rw [fY.eq_2,cK V,cf,List.take_length,List.drop_length,List.append_nil];unfold qV;refine cX (fun k i (s:List SR)=>fX N c kv _ k s (i:Int)) c.More.length (fun i s=>s=(c.More.take i).map (dk (yz met to) met)++c.More.drop i) _ ?_ ?_ N 0 c.More V V (by simp)
  ·rintro k i s hi rfl go;show Sat (fX N c kv _ (k+1) _ (i:Int)) _;obtain ⟨e1,e2⟩:=mv kv hk c.More[i];rw [fX.eq_2,cJ V,ct,IN hi,bs,e1,pp];simp only [bs];unfold nF;rw [r64 V V,r64 V V];by_cases hm:c.More[i].N∈met
   ·rw [Ti hm,ct,bs];cases hb:bI c.More[i]
    ·rw [cf];exact go _ (yt hi (keep _ (.inr hb)))
    rw [ct,e2 hm hb,Int.toNat_natCast];exact go _ (IM hi)
   rw [Tj hm,cf,bs,cf];exact go _ (yt hi (keep _ (.inl hm)))
  rintro k s rfl;show Sat (fX N c kv _ (k+1) _ _) _;rw [fX.eq_2,cK V,cf,List.take_length,List.drop_length,List.append_nil];unfold qU qW;exact aQ J
 unfold fD;refine cX (fun k i (s:List (Int×Int))=>eV N met to c k s (i:Int)) met.length (fun i s=>QC s met to i) _ ?_ ?_ N 0 [] V V (fun x=>J)
 ·rintro k i s hi h1 go;show Sat (eV N met to c (k+1) _ (i:Int)) _
  have hno:lk s met[i]=none:=by rw [h1,if_neg (C0 hn hi)]
  have hto:i<to.length:=by omega
  rw [eV.eq_2,cJ V,ct,br hi,bs,hno,Option.isSome_none,cf,cJ V,ct,br hto,bs];unfold la;rw [r64 V V]
  refine go _ fun x=> ?_
  rw [GS,GS,h1 x,bh hi];by_cases e:met[i]=x
  ·subst e;rw [if_pos rfl,if_pos (To _ (List.mem_singleton.2 rfl))];unfold yz;rw [if_pos (List.getElem_mem _),Ao hn hi];simp [List.getD,hto]
  rw [if_neg e,if_neg e];by_cases hx:x∈met.take i
  ·rw [if_pos hx,if_pos (Tn _ hx)]
  rw [if_neg hx,if_neg fun h2=>(List.mem_append.1 h2).elim hx fun h2=>e (List.mem_singleton.1 h2).symm]
 rintro k s h1;show Sat (eV N met to c (k+1) _ _) _;rw [eV.eq_2,cK V,cf];exact body s h1
theorem Bh (N:Nat)(hN:5000<N)(l:List SR)(hl2:l.length≤4000)(met to:List Int)(hn:met.Nodup)(hl:to.length=met.length)(hml:met.length≤1200):iT N l met to=some (l.map (dk (yz met to) met)):=by
 unfold iT;rw [Bp N hN _ (by simp) hl2 met to hn hl hml,bs];rfl
def fu (m:SP)(a:Int):Bool:=decide ((cc m a).Age=0)
def qz (p:Int→Bool):List Int→Nat→Nat→List Int
 | [],_,_=> []
 |a::l,s,o=>bif p a then (2*(s:Int)+1)::qz p l (s+1) o else (2*(o:Int)+2)::qz p l s (o+1)
theorem Er (p:Int→Bool)(a:Int)(l:List Int)(s o:Nat):qz p (a::l) s o=bif p a then (2*(s:Int)+1)::qz p l (s+1) o else (2*(o:Int)+2)::qz p l s (o+1):=rfl
theorem yW (p:Int→Bool): ∀(l:List Int) (s o:Nat),(qz p l s o).length=l.length
 | [],_,_=>rfl
 |a::l,s,o=>by unfold qz;cases p a<;>simp [yW p l]
theorem yX (p:Int→Bool): ∀(l l':List Int) (s o:Nat),qz p (l++l') s o=qz p l s o++qz p l' (s+(l.filter p).length) (o+(l.filter fun a=> !p a).length)
 | [],_,_,_=>by simp [qz]
 | a::l,l',s,o=>by
  rw [List.cons_append,Er,Er];cases h:p a
  ·simp only [cond_false];rw [yX p l l'];simp only [List.filter_cons,h,Bool.not_false,if_true,Bool.false_eq_true,if_false,List.length_cons,List.cons_append];rw [Nat.add_right_comm o 1];rfl
  simp only [cond_true];rw [yX p l l'];simp only [List.filter_cons,h,Bool.not_true,if_true,Bool.false_eq_true,if_false,List.length_cons,List.cons_append];rw [Nat.add_right_comm s 1];rfl
theorem CS (p:Int→Bool){l:List Int}{i:Nat}(h:i<l.length)(s o:Nat):(qz p l s o).getD i 0=bif p l[i] then 2*((s+((l.take i).filter p).length:Nat):Int)+1 else 2*((o+((l.take i).filter fun a=> !p a).length:Nat):Int)+2:=by
 have e:l=l.take i++(l[i]::l.drop (i+1)):=by rw [←List.drop_eq_getElem_cons h,List.take_append_drop]
 have e2:qz p l s o=qz p (l.take i) s o++qz p (l[i]::l.drop (i+1)) (s+((l.take i).filter p).length) (o+((l.take i).filter fun a=> !p a).length):=by
  rw [←yX, ←e]
 rw [e2]
 have hl:(qz p (l.take i) s o).length=i:=by rw [yW,List.length_take];omega
 unfold List.getD;rw [List.getElem?_append_right V,hl,Nat.sub_self];unfold qz;cases p l[i]<;>rfl
theorem FC (N:Nat)(hN:5000<N){m:SP}{roots:List SR}(hs:Small m roots)(kp:List Int){met:List Int}{seen:List (Int×Bool)}(nx:Int)(h:Mt m met seen):fm N ⟨m,kp,met,seen,nx⟩=some (qz (fu m) met 0 m.Old.length):=by
 have hml:=h.len hs;have ho:=hs.old;apply Sat.eq;unfold fm;refine cX (fun k i (s:List Int×Nat×Nat)=>cC N ⟨m,kp,met,seen,nx⟩ k s.1 (s.2.1:Int) (s.2.2:Int) (i:Int)) met.length (fun i s=>s.1=qz (fu m) (met.take i) 0 m.Old.length∧s.2.1=((met.take i).filter (fu m)).length∧s.2.2=m.Old.length+((met.take i).filter fun a=> !fu m a).length) _ ?_ ?_ N 0 ([],0,m.Old.length) (by show met.length<N+0;omega) V ⟨J,J,J⟩
 ·rintro k i ⟨s,a,b⟩ hi ⟨h1,h2,h3⟩ go;simp only at h1 h2 h3;have l1:((met.take i).filter (fu m)).length≤i:=Nat.le_trans (List.length_filter_le _ _) (by rw [List.length_take];omega);have l2:((met.take i).filter fun a=> !fu m a).length≤i:=Nat.le_trans (List.length_filter_le _ _) (by rw [List.length_take];omega)
  have hsl:s.length=i:=by rw [h1,yW,List.length_take];omega
  show Sat (cC N ⟨m,kp,met,seen,nx⟩ (k+1) s (a:Int) (b:Int) (i:Int)) _
  have hnext:qz (fu m) (met.take (i+1)) 0 m.Old.length=s++ [bif fu m met[i] then 2*(a:Int)+1 else 2*(b:Int)+2]:=by
   rw [bh hi,yX, ←h1,Nat.zero_add, ←h2, ←h3];unfold qz;cases fu m met[i]<;>rfl
  have hf1:((met.take (i+1)).filter (fu m)).length=a+(bif fu m met[i] then 1 else 0):=by
   rw [bh hi,List.filter_append,List.length_append, ←h2];cases hb:fu m met[i]<;>simp [hb]
  have hf2:((met.take (i+1)).filter fun a=> !fu m a).length+m.Old.length=b+(bif fu m met[i] then 0 else 1):=by
   rw [bh hi,List.filter_append,List.length_append,h3];cases hb:fu m met[i]<;>simp [hb]<;>omega
  have hcell:=qG N hs kp met seen nx (h.has _ (List.getElem_mem hi));rw [cC.eq_2]
  dsimp only
  rw [cJ V,ct,br hi,bs,hcell,bs];unfold f9;have e:decide ((cc m met[i]).Age=0)=fu m met[i]:=rfl;rw [e,r64 V V,r64 V V,rF (by simp;omega),r64 V V,r64 V V,r64 V V,r64 V V,rF (by simp;omega),r64 V V,r64 V V];cases hb:fu m met[i]
  ·rw [hb] at hnext hf1 hf2;rw [cf];exact go (s++ [2*(b:Int)+2],a,b+1) ⟨hnext.symm,hf1.symm,by show b+1=_;simp only [cond_false] at hf2;omega⟩
  rw [hb] at hnext hf1 hf2;rw [ct];exact go (s++ [2*(a:Int)+1],a+1,b) ⟨hnext.symm,hf1.symm,by show b=_;simp only [cond_true] at hf2;omega⟩
 rintro k ⟨s,a,b⟩ ⟨h1,h2,h3⟩;simp only [List.take_length] at h1 h2 h3;show Sat (cC N ⟨m,kp,met,seen,nx⟩ (k+1) s (a:Int) (b:Int) _) _;rw [cC.eq_2]
 dsimp only
 rw [cK V,cf];exact aQ h1
theorem DG {lv:List Int}: ∀{l:List SR},pF l=true→lc lv l→io (fun x=>decide (x∈lv)) l=l
 | [],_,_=>rfl
 | [_],h,_=>by cases h
 |k::v::r,h,ha=>by
  rw [mA] at h;simp only [Bool.and_eq_true,decide_eq_true_eq] at h;have hk:k.N∈lv:=ha k (by simp) (by unfold bI;rw [h.1.1];rfl);rw [vL,Ti hk,cond_true,DG h.2 fun w hw=>ha w (by simp [hw])];rfl
theorem GV {lv:List Int}(cb:SR): ∀{l:List SR},lB l=true→lc lv l→ew lv l=l∧ly lv cb l=[]
 | [],_,_=>⟨rfl,rfl⟩
 | [_],h,_=>by cases h
 | [_,_],h,_=>by cases h
 | [_,_,_],h,_=>by cases h
 | t::a::k::s::r,h,ha=>by
  rw [my] at h;simp only [Bool.and_eq_true,decide_eq_true_eq] at h;obtain ⟨⟨⟨h1, -⟩,h3,h4⟩,h5⟩:=h
  obtain ⟨i1,i2⟩:=GV cb h5 fun w hw=>ha w (by simp [hw])
  have ht:t.N∈lv:=ha t (by simp) (by unfold bI;rw [h1];rfl)
  have hk:(decide (k.Kind=7)&& !decide (k.N∈lv))=false:=by
   by_cases hk7:k.Kind=7
   ·rw [Ti (ha k (by simp) (by unfold bI;rw [hk7];rfl)),Bool.not_true,Bool.and_false]
   rw [Tj hk7,Bool.false_and]
  rw [tt,HL,i1,i2,Ti ht,hk];exact ⟨J,J⟩
theorem CellOk.id {N:Nat}{lv f:List Int}{c:Ta}(h:CellOk N lv f c)(ha: ∀x∈cI c,x∈lv):km N lv c=c∧gU lv c=[]:=by
 have hin:lc lv c.More:=fun v hv hb=>ha _ (Cb (To _ hv) hb)
 by_cases h8:c.Kind=8
 ·rw [h.clC8 h8,DG (h.ent2 h8) hin];exact ⟨J,by unfold gU;rw [Tj V];rfl⟩
 by_cases h10:c.Kind=10
 ·obtain ⟨-, -,h4⟩:=h.ent4 h10
  obtain ⟨i1,i2⟩:=GV (lv:=lv) (c.More.headD lx) h4 fun v hv=>hin v (List.mem_of_mem_drop hv)
  rw [CellOk.clC10 h10,i1,List.take_append_drop];refine ⟨J,?_⟩;unfold gU vM;rw [Ti h10];exact i2
 exact ⟨CellOk.clC0 h8 h10,by unfold gU;rw [Tj h10];rfl⟩
theorem Bi (N:Nat)(hN:5000<N){lv f:List Int}{c:Ta}(h:CellOk N lv f c)(hl:lv.length≤5000)(gone:List SR)(hg:gone.length≤10000):iU N c lv gone=some (km N lv c,gone++gU lv c):=by
 have hlen:=(pQ N lv c).2;have hm:=h.more;unfold iU;by_cases h8:c.Kind=8
 ·rw [Ti h8,ct,DE N hN lv hl c h.slots h.more,h.wm,bs];unfold km gU;rw [Ti h8,Tj (p:=c.Kind=10) V,cond_true,cond_true,cond_false,List.append_nil]
 rw [Tj h8,cf];by_cases h10:c.Kind=10
 ·have e1:km N lv c=(vM lv c).1:=by unfold km;rw [Tj h8,Ti h10];rfl
  have e2:gU lv c=(vM lv c).2:=by unfold gU;rw [Ti h10];rfl
  rw [Ti h10,ct,xx N hN lv hl c h.slots h.more,h.fr,Ti h10,cond_true,bs, ←e1, ←e2,rF V]
 rw [Tj h10,cf,CellOk.clC0 h8 h10];unfold gU;rw [Tj h10,cond_false,List.append_nil]
structure MinCtx (N:Nat) (m:SP) (roots:List SR) (kept met:List Int):Prop where
 big:5000<N
 small:Small m roots
 w64:W64 m
 r64: ∀v∈roots,in64 v.N
 tot:cO (fun a=>(cc m a).More.length) (AL m)≤3600
 klen:kept.length≤1200
 may:C7 N m roots kept=true
 prog: ∃seen nx,kV N m roots kept=some ⟨m,kept,met,seen,nx⟩∧Mt m met seen
 isM: ∃b,IsMinor (KU N m) (cr m.Old.length) kept (Cn m roots kept) b met
theorem Ar {N:Nat}{m:SP}{roots:List SR}{kept:List Int}(h:C7 N m roots kept=true):Du N m roots=true∧qK m kept=true∧rx m kept=true:=by
 unfold C7 at h;unfold Du;simp only [Bool.and_eq_true] at h⊢;exact ⟨h.1.1,h.1.2,h.2⟩
theorem Dj {m:SP}{kept:List Int}(h:qK m kept=true){a:Int}(ha:a∈kept):bw m a=true∧yB a=false:=by
 unfold qK at h;rw [Bool.and_eq_true] at h;have:=pS h.1 ha;rw [Bool.and_eq_true] at this;exact ⟨this.2,by cases hy:yB a;rfl;rw [hy] at this;cases this.1⟩
theorem N0 {N:Nat}(hN:5000<N){m:SP}{roots:List SR}(hs:Small m roots)(hw:W64 m)(hr: ∀v∈roots,in64 v.N)(ht:cO (fun a=>(cc m a).More.length) (AL m)≤3600){kept:List Int}(hk:kept.length≤1200)(hm:C7 N m roots kept=true): ∃met,MinCtx N m roots kept met:=by
 obtain ⟨h1,h2, -⟩:=Ar hm;obtain ⟨g1,g2, -⟩:=zw h1;obtain ⟨r,e,seen,nx,b,e2,h3,h4⟩:=KH N hN hs g1 g2 kept (fun x hx=>(Dj h2 hx).1) hk;exact ⟨r.met_,hN,hs,hw,hr,ht,hk,hm,⟨seen,nx,by rw [e, ←e2],h3⟩,⟨b,h4⟩⟩
def ia (m:SP)(met:List Int):List Int:=cr m.Old.length++met
def DU (m:SP)(met:List Int):List Int:=qz (fu m) met 0 m.Old.length
def ii (m:SP)(met:List Int):Int→Int:=yz met (DU m met)
def nC (N:Nat)(m:SP)(met:List Int)(a:Int):Ta:=jM (ii m met) met (km N (ia m met) (cc m a))
def nY (N:Nat)(m:SP)(met:List Int)(a:Int):Ta:=⟨(nC N m met a).Kind,(nC N m met a).Shape,(nC N m met a).Flags,1,(nC N m met a).Slots,(nC N m met a).More⟩
def ms (N:Nat)(m:SP)(met:List Int):SP:=⟨(met.filter (fu m)).map (nY N m met),(cr m.Old.length).map (nC N m met)++(met.filter fun a=> !fu m a).map (nY N m met)⟩
def vq (m:SP)(met:List Int):List SR:=(ia m met).flatMap fun a=>gU (ia m met) (cc m a)
section
variable {N:Nat} {m:SP} {roots:List SR} {kept met:List Int} (h:MinCtx N m roots kept met)
include h
theorem MinCtx.whole:Whole m:=(zw (Ar h.may).1).1
theorem MinCtx.rootsH: ∀x∈bZ roots,bw m x=true:=(zw (Ar h.may).1).2.1
theorem MinCtx.mt:met.Nodup∧(∀x∈met,yB x=true)∧ ∀x∈met,bw m x=true:=by
 obtain ⟨_,_, -,h2⟩:=h.prog;exact ⟨h2.nd,h2.yng,h2.has⟩
theorem MinCtx.mlen:met.length≤1200:=by
 obtain ⟨_,_, -,h2⟩:=h.prog;exact h2.len h.small
theorem MinCtx.f1has {a:Int}(ha:a∈ia m met):bw m a=true:=by
 unfold ia at ha;rcases List.mem_append.1 ha with ha|ha
 ·obtain ⟨i,hi,rfl⟩:=gb.1 ha;rw [tu];exact Ti hi
 exact h.mt.2.2 a ha
theorem MinCtx.keptOf {a:Int}(ha:a∈cr m.Old.length){x:Int}(hx:x∈cI (cc m a))(hy:yB x=true):a∈kept:=by
 obtain ⟨i,hi,rfl⟩:=gb.1 ha;have h3:=(Ar h.may).2.2;unfold rx at h3;have:=pS h3 (List.mem_range.2 hi);rw [List.any_eq_true.2 ⟨x,hx,hy⟩] at this;simpa using this
theorem MinCtx.inF {a:Int}(ha:a∈ia m met){x:Int}(hx:bw m x=true)(hyx:yB x=true→x∈met):x∈ia m met:=by
 have _:=h;have _:=ha;unfold ia
 cases hy:yB x with
 |true=>exact To _ (hyx hy)
 |false=>
  obtain ⟨i,hi,rfl⟩:=G3 hx hy;exact Tn _ (gb.2 ⟨i,hi,J⟩)
theorem MinCtx.cell {a:Int}(ha:a∈ia m met):CellOk N (ia m met) (ia m met) (cc m a):=by
 have hN:=h.big;have hh:=h.f1has ha;have hm:=pR hh;have hs:=h.small.cells _ hm;obtain ⟨b,hM⟩:=h.isM;obtain ⟨q1,q2⟩:=hM.closed;have hf:=(zw (Ar h.may).1).2.2 _ hm;refine ⟨by omega,?_,hs.1,hs.2,fun x hx=> ?_,fun x hx=> ?_,fun x=>Iff.rfl⟩
 ·unfold zx at hf;rw [nU N V _ V V,Bool.and_eq_true] at hf;exact hf.1
 ·refine h.inF ha (h.whole.leads hh x hx) fun hy=> ?_
  unfold ia at ha;rcases List.mem_append.1 ha with ha|ha
  ·exact hM.start (To _ (List.mem_flatMap.2 ⟨a,h.keptOf ha (Tn _ hx) hy,hx⟩)) hy
  exact q1 a ha x hx hy
 refine h.inF ha (h.whole.opens hh x hx) fun hy=> ?_
 refine q2 a ?_ x hx hy;unfold ia at ha;rcases List.mem_append.1 ha with ha|ha
 ·exact Tn _ (h.keptOf ha (H4 hx) hy)
 exact To _ ha
theorem MinCtx.old {a:Int}(ha:a∈cr m.Old.length)(hk:a∉kept):km N (ia m met) (cc m a)=cc m a∧gU (ia m met) (cc m a)=[]:=by
 have hf:a∈ia m met:=Tn _ ha
 refine (h.cell hf).id fun x hx=>h.inF hf (h.whole a (h.f1has hf) x hx) fun hy=>absurd (h.keptOf ha hx hy) hk
theorem MinCtx.nd:(ia m met).Nodup:=by
 unfold ia;refine List.nodup_append.2 ⟨?_,h.mt.1,fun a ha b hb e=> ?_⟩
 ·exact (KZ _).imp fun hab e=>by omega
 subst e;obtain ⟨i, -,rfl⟩:=gb.1 ha;have:=h.mt.2.1 _ hb;rw [BP] at this;cases this
theorem MinCtx.goneLen: ∀l:List Int,l.Nodup→(∀a∈l,a∈ia m met)→(l.flatMap fun a=>gU (ia m met) (cc m a)).length≤3600:=by
 intro l hn hl
 have h1:=oO (fun a=>(cc m a).More.length) hn fun a ha=>sH (h.f1has (hl a ha))
 have h2: ∀l:List Int,(l.flatMap fun a=>gU (ia m met) (cc m a)).length≤cO (fun a=>(cc m a).More.length) l:=fun l=>by
  induction l with
  |nil=>simp [cO]
  |cons a l ih=>
   have:=(pQ N (ia m met) (cc m a)).2;rw [List.flatMap_cons,List.length_append,cO];omega
 have:=h2 l;have:=h.tot;omega
end
end
section
open Go.RowKit
theorem Ej {α β:Type}(f:α→List β){l:List α}{i:Nat}(h:i<l.length):(l.take (i+1)).flatMap f=(l.take i).flatMap f++f l[i]:=by
 rw [bh h,List.flatMap_append,List.flatMap_cons,List.flatMap_nil,List.append_nil]
theorem Lh {α β:Type}(f:α→β){l:List α}{i:Nat}(h:i<l.length):(l.take (i+1)).map f=(l.take i).map f++ [f l[i]]:=by
 rw [bh h,List.map_append];rfl
theorem AR {α:Type}(p:α→Bool){l:List α}{i:Nat}(h:i<l.length):(l.take (i+1)).filter p=(l.take i).filter p++(bif p l[i] then [l[i]] else []):=by
 rw [bh h,List.filter_append];cases hp:p l[i]<;>simp [hp]
section
variable {N:Nat} {m:SP} {roots:List SR} {kept met:List Int} (h:MinCtx N m roots kept met)
include h
theorem MinCtx.f1len:(ia m met).length≤1800:=by
 have h1:=h.mlen;have h2:=h.small.old;unfold ia cr;rw [List.length_append,List.length_map,List.length_range];omega
theorem LO:gi N m roots kept=some (ms N m met,roots.map (dk (ii m met) met),(vq m met).map (dk (ii m met) met),0):=by
 have hN:=h.big;have hs:=h.small;have hml:=h.mlen;have ho:=hs.old;have hrl:=hs.roots;have hfl:=h.f1len;obtain ⟨hnd,hyng,hhas⟩:=h.mt;obtain ⟨seen,nx,hp,hmt⟩:=h.prog;have hto:(DU m met).length=met.length:=yW _ _ _ _
 have hev:(cr m.Old.length).length=m.Old.length:=by unfold cr;simp
 obtain ⟨hfine,hkok, -⟩:=Ar h.may
 have k64: ∀x∈kept,in64 x:=fun x hx=>BT hs (Dj hkok hx).1
 have hkl:=h.klen;have hgl: ∀l:List Int,l.Nodup→(∀a∈l,a∈ia m met)→(l.flatMap fun a=>gU (ia m met) (cc m a)).length≤3600:=h.goneLen
 have tk: ∀i,((cr m.Old.length).take i).flatMap (fun a=>gU (ia m met) (cc m a))=((cr m.Old.length).take i).flatMap fun a=>gU (ia m met) (cc m a):=fun i=>rfl
 have g1: ∀i,(((cr m.Old.length).take i).flatMap fun a=>gU (ia m met) (cc m a)).length≤3600:=fun i=>hgl _ (List.Nodup.sublist (List.take_sublist _ _) (List.nodup_append.1 h.nd).1) fun a ha=>Tn _ (List.mem_of_mem_take ha)
 have g2: ∀i,((cr m.Old.length++met.take i).flatMap fun a=>gU (ia m met) (cc m a)).length≤3600:=fun i=>hgl _ (List.Nodup.sublist (List.Sublist.append (List.Sublist.refl _) (List.take_sublist i met)) h.nd) fun a ha=>(List.mem_append.1 ha).elim (fun h=>Tn _ h) fun h=>To _ (List.mem_of_mem_take h)
 have moved: ∀a∈ia m met, ∀d:Ta,d.Slots.length≤600→d.More.length≤600→fD N d met (DU m met)=some (jM (ii m met) met d):=fun a _ d h1 h2=>Bp N hN d V V met (DU m met) hnd hto hml
 -- the young cells
 have young: ∀O:List Ta,O.length≤600→Sat (dS N ⟨m,kept,met,seen,nx⟩ roots (DU m met) (ia m met) N ((cr m.Old.length).flatMap fun a=>gU (ia m met) (cc m a)) 0 [] O) fun r=>r=(⟨(met.filter (fu m)).map (nY N m met),O++(met.filter fun a=> !fu m a).map (nY N m met)⟩,roots.map (dk (ii m met) met),(vq m met).map (dk (ii m met) met),0):=by
  intro O hO;refine cX (fun k i (s:List SR×List Ta×List Ta)=>dS N ⟨m,kept,met,seen,nx⟩ roots (DU m met) (ia m met) k s.1 (i:Int) s.2.1 s.2.2) met.length (fun i s=>s.1=(cr m.Old.length++met.take i).flatMap (fun a=>gU (ia m met) (cc m a))∧s.2.1=((met.take i).filter (fu m)).map (nY N m met)∧s.2.2=O++((met.take i).filter fun a=> !fu m a).map (nY N m met)) _ ?_ ?_ N 0 (_,[],O) V V ⟨by rw [List.take_zero,List.append_nil];rfl,rfl,by simp⟩
  ·rintro k i ⟨g,hE,Q⟩ hi ⟨h1,h2,h3⟩ go;simp only at h1 h2 h3;show Sat (dS N ⟨m,kept,met,seen,nx⟩ roots (DU m met) (ia m met) (k+1) g (i:Int) hE Q) _;have hgm:met[i]∈met:=List.getElem_mem hi;have hgf:met[i]∈ia m met:=To _ hgm;have hc:=h.cell hgf;have hcl:=pQ N (ia m met) (cc m met[i]);have hc1:=hc.slots;have hc2:=hc.more
   have hgt:g.length≤3600:=by rw [h1];exact g2 i
   have hYl:hE.length≤i:=by rw [h2,List.length_map];exact Nat.le_trans (List.length_filter_le _ _) (by rw [List.length_take];omega)
   have hQl:Q.length≤600+i:=by
    rw [h3,List.length_append,List.length_map];have:=List.length_filter_le (fun a=> !fu m a) (met.take i);rw [List.length_take] at this;omega
   have hti:i<(DU m met).length:=by omega
   have htv:(DU m met)[i]=bif fu m met[i] then 2*((0+((met.take i).filter (fu m)).length:Nat):Int)+1 else 2*((m.Old.length+((met.take i).filter fun a=> !fu m a).length:Nat):Int)+2:=by
    have:=CS (fu m) hi 0 m.Old.length;unfold List.getD at this;have e:(qz (fu m) met 0 m.Old.length)[i]? =some (DU m met)[i]:=List.getElem?_eq_getElem hti;rw [e] at this;exact this
   have hyt:yB (DU m met)[i]=fu m met[i]:=by
    rw [htv];cases fu m met[i]
    ·exact BP _
    exact HI _
   rw [dS.eq_2]
   dsimp only
   rw [cJ V,ct,br hi,bs,qG N hs kept met seen nx (h.f1has hgf),bs,Bi N hN hc V g V,bs]
   dsimp only
   rw [moved _ hgf _ V V,bs,br hti,bs,pY,bs,hyt];unfold kx;rw [r64 V V,r64 V V,rF (by simp;omega),rF (by simp;omega)]
   have hg':g++gU (ia m met) (cc m met[i])=(cr m.Old.length++met.take (i+1)).flatMap fun a=>gU (ia m met) (cc m a):=by
    rw [h1,List.flatMap_append,List.flatMap_append,Ej _ hi,Tl]
   have hf1:=AR (fu m) hi;have hf2:=AR (fun a=> !fu m a) hi;cases hb:fu m met[i]
   ·rw [hb] at hf1;simp only [hb,Bool.not_false,cond_true,cond_false,List.append_nil] at hf1 hf2;rw [cf];exact go (_,hE,_) ⟨hg',by show hE=_;rw [hf1];exact h2,by show Q++ [nY N m met met[i]]=_;rw [hf2,List.map_append,h3,Tl];rfl⟩
   rw [hb] at hf1;simp only [hb,Bool.not_true,cond_true,cond_false,List.append_nil] at hf1 hf2;rw [ct];exact go (_,_,Q) ⟨hg',by show hE++ [nY N m met met[i]]=_;rw [hf1,List.map_append,h2];rfl,by show Q=_;rw [hf2];exact h3⟩
  rintro k ⟨g,hE,Q⟩ ⟨h1,h2,h3⟩;simp only [List.take_length] at h1 h2 h3;show Sat (dS N ⟨m,kept,met,seen,nx⟩ roots (DU m met) (ia m met) (k+1) g _ hE Q) _
  have hgt:g.length≤3600:=by rw [h1];have:=g2 met.length;rwa [List.take_length] at this
  rw [dS.eq_2]
  dsimp only
  rw [cK V,cf];unfold nm
  dsimp only
  rw [Bh N hN roots V met (DU m met) hnd hto hml,bs,Bh N hN g V met (DU m met) hnd hto hml,bs,h2,h3];refine aQ ?_;rw [h1];rfl
 apply Sat.eq;unfold gi;rw [EI N hN hs h.w64 h.r64 kept V k64,h.may,bs,nt,cf,hp,bs,FC N hN hs kept nx hmt,bs,C4 N hN hs kept nx hmt,bs];refine cX (fun k i (s:List SR×List Ta)=>eQ N m roots kept (DU m met) ⟨m,kept,met,seen,nx⟩ k s.1 (ia m met) (i:Int) s.2) m.Old.length (fun i s=>s.1=((cr m.Old.length).take i).flatMap (fun a=>gU (ia m met) (cc m a))∧s.2=((cr m.Old.length).take i).map (nC N m met)) _ ?_ ?_ N 0 ([],[]) V V ⟨J,J⟩
 ·rintro k i ⟨g,O⟩ hi ⟨h1,h2⟩ go;simp only at h1 h2;show Sat (eQ N m roots kept (DU m met) ⟨m,kept,met,seen,nx⟩ (k+1) g (ia m met) (i:Int) O) _
  have hie:i<(cr m.Old.length).length:=by omega
  have hei:(cr m.Old.length)[i]=2*(i:Int)+2:=EO hie;have hae:(2*(i:Int)+2)∈cr m.Old.length:=gb.2 ⟨i,hi,rfl⟩;have haf:(2*(i:Int)+2)∈ia m met:=Tn _ hae;have hc:=h.cell haf;have hcl:=pQ N (ia m met) (cc m (2*(i:Int)+2));have hc1:=hc.slots;have hc2:=hc.more
  have hgt:g.length≤3600:=by rw [h1];exact g1 i
  have hOl:O.length≤i:=by rw [h2,List.length_map,List.length_take];omega
  have hold:=h.old hae
  have n1:((cr m.Old.length).take (i+1)).flatMap (fun a=>gU (ia m met) (cc m a))=g++gU (ia m met) (cc m (2*(i:Int)+2)):=by rw [Ej _ hie,hei,h1]
  have n2:((cr m.Old.length).take (i+1)).map (nC N m met)=O++ [nC N m met (2*(i:Int)+2)]:=by rw [Lh _ hie,hei,h2]
  rw [uk m i hi] at hc hcl hc1 hc2 hold n1
  have hnc:nC N m met (2*(i:Int)+2)=jM (ii m met) met (km N (ia m met) m.Old[i]):=by unfold nC;rw [uk m i hi]
  have body: ∀(kb:List SR→List Int→Int→List Ta→Option (SP×List SR×List SR×Int)) (g':List SR) (d:Ta),d.Slots.length≤600→d.More.length≤600→iG N kb m (i:Int) roots kept (DU m met) (ia m met) O ⟨m,kept,met,seen,nx⟩ g' d.Kind d.Shape d.Flags d.Age d.Slots d.More=kb g' (ia m met) ((i:Int)+1) (O++ [jM (ii m met) met d]):=by
   intro kb g' d d1 d2;have:=moved _ haf d d1 d2;unfold iG
   dsimp only
   have e:fD N ⟨d.Kind,d.Shape,d.Flags,d.Age,d.Slots,d.More⟩ met (DU m met)=some (jM (ii m met) met d):=this;rw [e,bs,rF (by simp;omega),r64 V V]
  rw [eQ.eq_2,cJ V,ct,br hi,bs,r64 V V,r64 V V,oK N hN kept V,bs];by_cases hk:(2*(i:Int)+2)∈kept
  ·rw [Ti hk,ct,Bi N hN hc V g V,bs]
   dsimp only
   rw [body _ _ _ V V];exact go (_,_) ⟨n1.symm,by rw [n2,hnc]⟩
  obtain ⟨o1,o2⟩:=hold hk;rw [Tj hk,cf,body _ _ _ V V];exact go (g,_) ⟨by rw [n1,o2,List.append_nil],by rw [n2,hnc,o1]⟩
 rintro k ⟨g,O⟩ ⟨h1,h2⟩;have etl:(cr m.Old.length).take m.Old.length=cr m.Old.length:=List.take_of_length_le V;simp only [etl] at h1 h2;show Sat (eQ N m roots kept (DU m met) ⟨m,kept,met,seen,nx⟩ (k+1) g (ia m met) _ O) _;rw [eQ.eq_2,cK V,cf];unfold nn;rw [h1]
 have hOl:O.length≤600:=by rw [h2,List.length_map];omega
 have:=young O hOl;rw [h2] at this⊢;exact this
end
end
section
open Go.RowKit
theorem Ja: ∀{A B:List Int} {x:Int},x∉A→(A++x::B).idxOf x=A.length
 | [],B,x,_=>by simp
 |a::A,B,x,h=>by
  have h1:a≠x:=fun e=>h (by simp [e])
  rw [List.cons_append,List.idxOf_cons,Ja fun hx=>h (by simp [hx])];have:(a==x)=false:=beq_eq_false_iff_ne.2 h1;rw [this];rfl
theorem Ha {l:List Int}(hn:l.Nodup)(p:Int→Bool){i:Nat}(h:i<l.length)(hp:p l[i]=true):(l.filter p).idxOf l[i]=((l.take i).filter p).length:=by
 have e:l.filter p=(l.take i).filter p++l[i]::(l.drop (i+1)).filter p:=by
  have e1:l=l.take i++(l[i]::l.drop (i+1)):=by rw [←List.drop_eq_getElem_cons h,List.take_append_drop]
  have e2:l.filter p=(l.take i).filter p++(l[i]::l.drop (i+1)).filter p:=by rw [←List.filter_append, ←e1]
  rw [e2,List.filter_cons,hp,if_pos rfl]
 rw [e]
 exact Ja fun hm=>C0 hn h (List.mem_filter.1 hm).1
def xO (c:Ta)(g:Int):Ta:=⟨c.Kind,c.Shape,c.Flags,g,c.Slots,c.More⟩
theorem Fk {c:Ta}(h:di c=true):di (xO c 1)=true:=by
 unfold di at h⊢;unfold xO;simp only [Bool.and_eq_true] at h⊢;obtain ⟨⟨⟨⟨⟨⟨⟨h1,h2⟩,h3⟩,h4⟩,h5⟩, -⟩, -⟩,h8⟩:=h;exact ⟨⟨⟨⟨⟨⟨⟨h1,h2⟩,h3⟩,h4⟩,h5⟩,J⟩,J⟩,h8⟩
structure VCell (N:Nat) (c:Ta):Prop where
 big:2000<N
 right:di c=true
 slots:c.Slots.length≤600
 more:c.More.length≤600
theorem Nk (m:SP){i:Nat}{c:Ta}(h:m.Old[i]? =some c):bw m (2*(i:Int)+2)=true∧cc m (2*(i:Int)+2)=c:=by
 obtain ⟨h1,h2⟩:=List.getElem?_eq_some_iff.1 h;exact ⟨by rw [tu];exact Ti h1,by rw [uk m i h1];exact h2⟩
theorem Qv (m:SP){i:Nat}{c:Ta}(h:m.Young[i]? =some c):bw m (2*(i:Int)+1)=true∧cc m (2*(i:Int)+1)=c:=by
 obtain ⟨h1,h2⟩:=List.getElem?_eq_some_iff.1 h;exact ⟨by rw [FP];exact Ti h1,by rw [DM m i h1];exact h2⟩
theorem GZ {f:List Int}{a:Int}(h:a∈f):f[f.idxOf a]? =some a:=List.getElem?_eq_some_iff.2 ⟨rW h,oH h⟩
section
variable {N:Nat} {m:SP} {roots:List SR} {kept met:List Int} (h:MinCtx N m roots kept met)
include h
theorem MinCtx.rhoE {a:Int}(ha:a∈cr m.Old.length):ii m met a=a:=by
 have hn:a∉met:=fun hm=>(List.nodup_append.1 h.nd).2.2 a ha a hm rfl
 unfold ii yz;rw [if_neg hn]
theorem MinCtx.rhoY {a:Int}(ha:a∈met)(hp:fu m a=true):ii m met a=2*(((met.filter (fu m)).idxOf a:Nat):Int)+1:=by
 obtain ⟨i,hi,rfl⟩:=List.getElem_of_mem ha;unfold ii yz DU;rw [if_pos ha,Ao h.mt.1 hi,CS _ hi,hp,Ha h.mt.1 _ hi hp,cond_true,Nat.zero_add]
theorem MinCtx.rhoO {a:Int}(ha:a∈met)(hp:fu m a=false):ii m met a=2*((m.Old.length+(met.filter fun a=> !fu m a).idxOf a:Nat):Int)+2:=by
 obtain ⟨i,hi,rfl⟩:=List.getElem_of_mem ha;unfold ii yz DU;rw [if_pos ha,Ao h.mt.1 hi,CS _ hi,hp,Ha h.mt.1 (fun a=> !fu m a) hi (by rw [hp];rfl),cond_false]
theorem MinCtx.cases {a:Int}(ha:a∈ia m met):(a∈cr m.Old.length∧ii m met a=a)∨(a∈met∧fu m a=true∧a∈met.filter (fu m))∨(a∈met∧fu m a=false∧a∈met.filter fun a=> !fu m a):=by
 unfold ia at ha;rcases List.mem_append.1 ha with ha|ha
 ·exact .inl ⟨ha,h.rhoE ha⟩
 cases hp:fu m a with
 |true=>exact .inr (.inl ⟨ha,rfl,List.mem_filter.2 ⟨ha,hp⟩⟩)
 |false=>exact .inr (.inr ⟨ha,rfl,List.mem_filter.2 ⟨ha,by rw [hp];rfl⟩⟩)
theorem MinCtx.ren:Ren (ii m met) (ia m met):=by
 refine ⟨fun a b ha hb e=> ?_,fun a ha=> ?_⟩
 ·rcases h.cases ha with ⟨a1,a2⟩|⟨a1,a2,a3⟩|⟨a1,a2,a3⟩<;>rcases h.cases hb with ⟨b1,b2⟩|⟨b1,b2,b3⟩|⟨b1,b2,b3⟩
  ·rw [a2,b2] at e;exact e
  ·obtain ⟨i, -,rfl⟩:=gb.1 a1;rw [a2,h.rhoY b1 b2] at e;omega
  ·obtain ⟨i,hi,rfl⟩:=gb.1 a1;rw [a2,h.rhoO b1 b2] at e;omega
  ·obtain ⟨i, -,rfl⟩:=gb.1 b1;rw [b2,h.rhoY a1 a2] at e;omega
  ·rw [h.rhoY a1 a2,h.rhoY b1 b2] at e
   have e2:(met.filter (fu m)).idxOf a=(met.filter (fu m)).idxOf b:=by omega
   rw [←oH a3, ←oH b3];simp only [e2]
  ·rw [h.rhoY a1 a2,h.rhoO b1 b2] at e;omega
  ·obtain ⟨i,hi,rfl⟩:=gb.1 b1;rw [b2,h.rhoO a1 a2] at e;omega
  ·rw [h.rhoO a1 a2,h.rhoY b1 b2] at e;omega
  rw [h.rhoO a1 a2,h.rhoO b1 b2] at e
  have e2:(met.filter fun a=> !fu m a).idxOf a=(met.filter fun a=> !fu m a).idxOf b:=by omega
  rw [←oH a3, ←oH b3];simp only [e2]
 rcases h.cases ha with ⟨a1,a2⟩|⟨a1,a2,a3⟩|⟨a1,a2,a3⟩
 ·obtain ⟨i, -,rfl⟩:=gb.1 a1;omega
 ·rw [h.rhoY a1 a2];omega
 rw [h.rhoO a1 a2];omega
end
def Pi (N:Nat)(m:SP)(met:List Int)(a:Int):Int:=if a∈met then 1 else (nC N m met a).Age
def o7 (N:Nat)(m:SP)(met:List Int)(a:Int):Ta:=xO (nC N m met a) (Pi N m met a)
theorem C3 {m:SP}{met:List Int}(v:SR):dk (ii m met) (ia m met) v=dk (ii m met) met v:=by
 unfold dk ia;cases hb:bI v
 ·rfl
 rw [Bool.true_and,Bool.true_and];by_cases h:v.N∈met
 ·rw [Ti h,Ti (To _ h)]
 rw [Tj h]
 have e:ii m met v.N=v.N:=by unfold ii yz;rw [if_neg h]
 rw [e];cases decide (v.N∈cr m.Old.length++met)<;>rfl
theorem GN {m:SP}{met:List Int}(c:Ta):jM (ii m met) met c=jM (ii m met) (ia m met) c:=by
 unfold jM;rw [List.map_congr_left fun v _=>(C3 v).symm,List.map_congr_left (l:=c.More) fun v _=>(C3 v).symm]
section
variable {N:Nat} {m:SP} {roots:List SR} {kept met:List Int} (h:MinCtx N m roots kept met)
include h
theorem MinCtx.cellE {a:Int}(ha:a∈cr m.Old.length):o7 N m met a=nC N m met a:=by
 have hn:a∉met:=fun hm=>(List.nodup_append.1 h.nd).2.2 a ha a hm rfl
 unfold o7 Pi;rw [if_neg hn];rfl
theorem Ht {a:Int}(ha:a∈met):o7 N m met a=nY N m met a:=by
 have _:=h;unfold o7 Pi;rw [if_pos ha];rfl
theorem MinCtx.at_ {a:Int}(ha:a∈ia m met):bw (ms N m met) (ii m met a)=true∧cc (ms N m met) (ii m met a)=o7 N m met a:=by
 have hev:(cr m.Old.length).length=m.Old.length:=by unfold cr;simp
 have hml:((cr m.Old.length).map (nC N m met)).length=m.Old.length:=by rw [List.length_map];exact hev
 rcases h.cases ha with ⟨a1,a2⟩|⟨a1,a2,a3⟩|⟨a1,a2,a3⟩
 ·rw [a2,h.cellE a1];obtain ⟨i,hi,rfl⟩:=gb.1 a1;refine Nk _ ?_;show ((cr m.Old.length).map (nC N m met)++(met.filter fun a=> !fu m a).map (nY N m met))[i]? =_;rw [List.getElem?_append_left V,List.getElem?_map,List.getElem?_eq_getElem (by omega:i<(cr m.Old.length).length),EO];rfl
 ·rw [h.rhoY a1 a2,Ht h a1];refine Qv _ ?_;show ((met.filter (fu m)).map (nY N m met))[_]? =_;rw [List.getElem?_map,GZ a3];rfl
 rw [h.rhoO a1 a2,Ht h a1];refine Nk _ ?_;show ((cr m.Old.length).map (nC N m met)++(met.filter fun a=> !fu m a).map (nY N m met))[_]? =_;rw [List.getElem?_append_right V,hml,Nat.add_sub_cancel_left,List.getElem?_map,GZ a3];rfl
theorem MinCtx.okN {a:Int}(ha:a∈ia m met):VCell N (nC N m met a)∧VCell N (o7 N m met a):=by
 have hN:=h.big;obtain ⟨g1,g2,g3, -⟩:=CellOk.new h.ren (h.cell ha);have e:nC N m met a=jM (ii m met) (ia m met) (km N (ia m met) (cc m a)):=GN _;rw [←e] at g1 g2 g3;refine ⟨⟨by omega,g1,g2,g3⟩,by omega,?_,g2,g3⟩;unfold o7 Pi;by_cases hm:a∈met
 ·rw [if_pos hm];exact Fk g1
 rw [if_neg hm];exact g1
end
end
section
open Go.RowKit
theorem El {α:Type}(g:α→Nat)(p:α→Bool): ∀l:List α,cO g (l.filter p)+cO g (l.filter fun a=> !p a)=cO g l
 | []=>rfl
 |a::l=>by
  have ih:=El g p l;rw [List.filter_cons,List.filter_cons];cases h:p a
  ·simp only [Bool.false_eq_true,if_false,Bool.not_false,if_true,cO];omega
  simp only [Bool.false_eq_true,if_false,Bool.not_true,if_true,cO];omega
theorem qg {α:Type}{g h:α→Nat}: ∀{l:List α},(∀x∈l,g x=h x)→cO g l=cO h l
 | [],_=>rfl
 |a::l,hh=>by rw [cO,cO,hh a (by simp),qg fun x hx=>hh x (by simp [hx])]
theorem uB {α:Type}: ∀l:List α,cO (fun _=>1) l=l.length
 | []=>rfl
 |a::l=>by rw [cO,uB l,List.length_cons];omega
section
variable {N:Nat} {m:SP} {roots:List SR} {kept met:List Int} (h:MinCtx N m roots kept met)
include h
theorem MinCtx.midSum (g:Ta→Nat):cO g (ms N m met).Young+cO g (ms N m met).Old=cO (fun a=>g (o7 N m met a)) (ia m met):=by
 have e1:cO (fun a=>g (o7 N m met a)) (cr m.Old.length)=cO (fun a=>g (nC N m met a)) (cr m.Old.length):=qg fun a ha=>by rw [h.cellE ha]
 have e2:cO (fun a=>g (o7 N m met a)) met=cO (fun a=>g (nY N m met a)) met:=qg fun a ha=>by rw [Ht h ha]
 have e3:=El (fun a=>g (nY N m met a)) (fu m) met;unfold ms ia;simp only;rw [uC,uC,mQ,mQ,mQ,e1,e2];omega
theorem MinCtx.midLe (g:Ta→Nat)(hg: ∀a∈ia m met,g (o7 N m met a)≤g (cc m a)):cO g (ms N m met).Young+cO g (ms N m met).Old≤cO g m.Young+cO g m.Old:=by
 have h1:=oO (fun a=>g (cc m a)) h.nd fun a ha=>sH (h.f1has ha)
 have h2:=mQ g (cc m) (AL m);rw [DP,uC] at h2;rw [h.midSum];have h3:=wi hg;omega
theorem MinCtx.cellLe {a:Int}(ha:a∈ia m met):(o7 N m met a).Slots.length=(cc m a).Slots.length∧(o7 N m met a).More.length≤(cc m a).More.length:=by
 have _:=h;have:=pQ N (ia m met) (cc m a);show ((km N (ia m met) (cc m a)).Slots.map _).length=_∧((km N (ia m met) (cc m a)).More.map _).length≤_;rw [List.length_map,List.length_map];omega
theorem MinCtx.midCnt:(ms N m met).Young.length+(ms N m met).Old.length≤m.Young.length+m.Old.length:=by
 have:=h.midLe (fun _=>1) fun a _=>Nat.le_refl _
 rw [uB,uB,uB,uB] at this;exact this
theorem MinCtx.midWt:wt (ms N m met).Young+wt (ms N m met).Old≤wt m.Young+wt m.Old:=by
 have:=h.midLe wC fun a ha=>by
  have:=h.cellLe ha;unfold wC;omega
 rw [←uy, ←uy, ←uy, ←uy] at this;exact this
theorem MinCtx.midMem {c:Ta}(hc:c∈(ms N m met).Young++(ms N m met).Old): ∃a∈ia m met,c=o7 N m met a:=by
 unfold ms at hc;simp only [List.mem_append,List.mem_map,List.mem_filter] at hc;rcases hc with ⟨a,⟨h1, -⟩,rfl⟩|⟨a,h1,rfl⟩|⟨a,⟨h1, -⟩,rfl⟩
 ·exact ⟨a,To _ h1,(Ht h h1).symm⟩
 ·exact ⟨a,Tn _ h1,(h.cellE h1).symm⟩
 exact ⟨a,To _ h1,(Ht h h1).symm⟩
theorem MinCtx.root {x:Int}(hx:x∈bZ roots):x∈ia m met:=by
 have hh:=h.rootsH x hx;obtain ⟨b,hM⟩:=h.isM;unfold ia
 cases hy:yB x with
 |true=>exact To _ (hM.start (Tn _ hx) hy)
 |false=>
  obtain ⟨i,hi,rfl⟩:=G3 hh hy;exact Tn _ (gb.2 ⟨i,hi,J⟩)
theorem MinCtx.rootIn:lc (ia m met) roots:=fun v hv hb=>h.root (lw.2 ⟨v,hv,hb,rfl⟩)
theorem MinCtx.rho64 {a:Int}(ha:a∈ia m met):in64 (ii m met a):=by
 have h1:=h.mlen;have h2:=h.small.old
 have h3: ∀p:Int→Bool,(met.filter p).length≤1200:=fun p=>Nat.le_trans (List.length_filter_le _ _) h1
 unfold in64;rcases h.cases ha with ⟨a1,a2⟩|⟨a1,a2,a3⟩|⟨a1,a2,a3⟩
 ·obtain ⟨i,hi,rfl⟩:=gb.1 a1;rw [a2];omega
 ·have:=rW a3;have:=h3 (fu m);rw [h.rhoY a1 a2];omega
 have:=rW a3
 have:=h3 fun a=> !fu m a
 rw [h.rhoO a1 a2];omega
theorem MinCtx.mov64 {v:SR}(hv:in64 v.N):in64 (dk (ii m met) (ia m met) v).N:=by
 unfold dk
 cases hb:bI v&&decide (v.N∈ia m met) with
 |false=>exact hv
 |true=>
  rw [Bool.and_eq_true,decide_eq_true_eq] at hb;exact h.rho64 hb.2
theorem MinCtx.now64: ∀v∈roots.map (dk (ii m met) (ia m met)),in64 v.N:=fun v hv=>by
 obtain ⟨w,hw,rfl⟩:=List.mem_map.1 hv;exact h.mov64 (h.r64 w hw)
theorem MinCtx.nCE (a:Int):nC N m met a=jM (ii m met) (ia m met) (km N (ia m met) (cc m a)):=by
 have _:=h;exact GN _
theorem MinCtx.midW:W64 (ms N m met):=fun c hc v hv=>by
 obtain ⟨a,ha,rfl⟩:=h.midMem hc;have hv':v∈(nC N m met a).Slots++(nC N m met a).More:=hv;rw [h.nCE] at hv'
 have hv2:v∈((km N (ia m met) (cc m a)).Slots++(km N (ia m met) (cc m a)).More).map (dk (ii m met) (ia m met)):=by rw [List.map_append];exact hv'
 obtain ⟨w,hw,rfl⟩:=List.mem_map.1 hv2;refine h.mov64 ?_;rcases Jq hw with hw|rfl
 ·exact h.w64.at_ a w hw
 show in64 0;unfold in64;omega
theorem MinCtx.midS (hcnt:m.Young.length+m.Old.length≤600)(l:List SR)(hl:l.length≤600):Small (ms N m met) l:=by
 have:=h.midCnt;refine ⟨by omega,by omega,hl,fun c hc=> ?_⟩;obtain ⟨a,ha,rfl⟩:=h.midMem hc;exact ⟨(h.okN ha).2.slots,(h.okN ha).2.more⟩
theorem MinCtx.newHas {l:List SR}(hl:lc (ia m met) l){v:SR}(hv:v∈l.map (dk (ii m met) (ia m met)))(hb:bI v=true):bw (ms N m met) v.N=true:=by
 obtain ⟨w,hw,rfl⟩:=List.mem_map.1 hv;rw [FD] at hb;have:=hl w hw hb;rw [C2 hb this];exact (h.at_ this).1
theorem MinCtx.midAddr {c:Ta}(hc:c∈(ms N m met).Young++(ms N m met).Old):di c=true∧ ∀x∈cI c,bw (ms N m met) x=true:=by
 obtain ⟨a,ha,rfl⟩:=h.midMem hc;refine ⟨(h.okN ha).2.right,fun x hx=> ?_⟩;have hx':x∈cI (nC N m met a):=hx;obtain ⟨v,hv,hb,rfl⟩:=wI hx';rw [h.nCE] at hv;obtain ⟨i1,i2⟩:=(h.cell ha).inC;rcases List.mem_append.1 hv with hv|hv
 ·exact h.newHas i1 hv hb
 exact h.newHas i2 hv hb
end
end
section
open Go.RowKit
theorem xf (N:Nat)(hN:5000<N)(c:Ta)(hS:c.Slots.length≤600)(hM:c.More.length≤600):kN N c=some ((cI c).any yB):=by
 have h1:=jO c;have h2:=mC c
 have hy: ∀x,kM N x=some (yB x):=fun x=>by
  unfold kM yB;cases decide (0<x)<;>cases decide (x.tmod 2=1)<;>rfl
 unfold kN cI;rw [mu N V c V V,rc N V c V V,bs,bs,zV N _ yB (cA c) V V (fun x _=>hy x),zV N _ yB (ko c) V V (fun x _=>hy x),bs,bs,List.any_append];cases (cA c).any yB<;>cases (ko c).any yB<;>rfl
theorem K2 {L:List (Int×Bool)}{a:Int}(h:a∉L.map (·.1)):F0 L a=L:=by
 unfold F0;rcases Me a L with ⟨i,c, -,h2⟩|⟨h1, -⟩
 ·exact absurd (List.mem_map.2 ⟨_,List.mem_of_getElem? h2,J⟩) h
 rw [h1]
theorem CA (N:Nat)(hN:5000<N){m:SP}{roots:List SR}(hs:Small m roots): ∃kv,cZ N ⟨[]⟩ m=some ⟨kv⟩∧kv.map Prod.fst=jy m:=by
 have ho:=hs.old
 have key:Sat (cZ N ⟨[]⟩ m) fun r=>r.at_.map Prod.fst=jy m:=by
  unfold cZ mn;rw [bs];refine cX (fun k i (s:List (Int×Bool))=>eX N m k (i:Int) s) m.Old.length (fun i s=>s.map Prod.fst=((List.range i).filter (ng m)).map (fun i:Nat=>2*(i:Int)+2)) _ ?_ ?_ N 0 [] V V J
  ·rintro k i s hi h1 go;show Sat (eX N m (k+1) (i:Int) s) _;have hc:=hs.cells _ (To m.Young (List.getElem_mem hi))
   have hnext:((List.range (i+1)).filter (ng m)).map (fun i:Nat=>2*(i:Int)+2)=((List.range i).filter (ng m)).map (fun i:Nat=>2*(i:Int)+2)++(bif ng m i then [2*(i:Int)+2] else []):=by
    rw [List.range_succ,List.filter_append,List.map_append];cases h:ng m i<;>simp [h]
   have hno:(2*(i:Int)+2)∉s.map Prod.fst:=by
    rw [h1];intro hm;obtain ⟨j,hj,e⟩:=List.mem_map.1 hm;have:=List.mem_range.1 (List.mem_filter.1 hj).1;omega
   have e:(cI m.Old[i]).any yB=ng m i:=by unfold ng;rw [uk m i hi]
   rw [eX.eq_2,cJ V,ct,br hi,bs,r64 V V,r64 V V];unfold mX lD mV;rw [xf N hN _ hc.1 hc.2,e,cJ V,ct,sf V,ot V];simp only [bs,nt,cf];cases h:ng m i
   ·simp only [nf,ct,bs];rw [K2 hno,r64 V V];exact go s (by rw [hnext,h,h1,cf,List.append_nil])
   simp only [nt,cf,bs];rw [r64 V V];refine go (um s (2*(i:Int)+2) true) ?_;have:=Gq s (2*(i:Int)+2) true;rw [if_neg hno] at this;rw [hnext,h,ct, ←h1];exact this
  rintro k s h1;show Sat (eX N m (k+1) _ s) _;rw [eX.eq_2,cK V,cf];exact aQ h1
 obtain ⟨r,e,h⟩:=key;exact ⟨r.at_,e,h⟩
theorem vz (m:SP):(jy m).Pairwise (· < ·):=by
 have:=GW m;unfold qK at this;rw [Bool.and_eq_true,decide_eq_true_eq] at this;exact this.2
def uf (m:SP)(live f:List Int):List SR:=f.flatMap fun a=>gU live (cc m a)
section
variable {N:Nat} {m:SP} {roots:List SR} {live f:List Int} (h:CollCtx N m roots live f)
include h
theorem CollCtx.nextTot:(roots.map (dk (pL f) f)++(uf m live f).map (dk (pL f) f)).length+wt (gp N m live f).Young+wt (gp N m live f).Old≤roots.length+wt m.Young+wt m.Old:=by
 have h1:=Gs h.lv;have e0:(gp N m live f).Young=[]:=rfl
 have e1:(gp N m live f).Old=f.map fun a=>jM (pL f) f (km N live (cc m a)):=rfl
 rw [e0,e1,List.length_append,List.length_map,List.length_map];unfold uf;have e2:wt []=0:=rfl;omega
end
end
section
open Go.RowKit
theorem vu {α β γ:Type}(o:Option α)(f:α→Option β)(g:β→γ):(o.bind f).map g=o.bind fun x=>(f x).map g:=by cases o<;>rfl
theorem LQ {β γ:Type}(c:Prop)[Decidable c](o:Option β)(g:β→γ):(bi c o).map g=bi c (o.map g):=by unfold bi;split<;>rfl
theorem FH {β γ:Type}(b:Bool)(x y:Option β)(g:β→γ):(bif b then x else y).map g=bif b then x.map g else y.map g:=by cases b<;>rfl
def RY:(SP×(List SR)×(List SR)×Int) ⊕ (SP×(List SR)×(List SR))→SP×(List SR)×(List SR)×Int
 | .inl x=>x
 | .inr x=>(x.1,x.2.1,x.2.2,0)
theorem PN (N:Nat)(m:SP)(roots:List SR):ee N m roots=(dl N m roots).map RY:=by
 have e20:jc=kz:=rfl;have e27:jb=ky:=rfl;unfold ee dl;rw [e20,e27,vu]
 congr 1;funext y7
 rw [FH];cases !decide (y7=0)
 ·simp only [cond_false,vu]
  congr 1;funext y13;congr 1;funext y18;congr 1;funext y22
  unfold nO;split
  ·simp only [vu]
   congr 1;funext y25;congr 1;funext y30
   split
   ·simp only [vu];rfl
   ·rfl
   ·rfl
   rfl
  ·rfl
  ·rfl
  rfl
 rfl
def Rn:(SP×(List SR)×(List SR)) ⊕ (SP×(List SR)×(List SR))→SP×(List SR)×(List SR)×Int
 | .inl x=>(x.1,x.2.1,x.2.2,1)
 | .inr x=>(x.1,x.2.1,x.2.2,0)
theorem LK (N:Nat)(a0:SP)(y13:SQ)(a1:List SR)(y20 p26:List Int): ∀(k:Nat) (p72:List SR) (p73:Int) (p74 p75:List Ta),dS N y13 a1 y20 p26 k p72 p73 p74 p75=(eZ N y13 a1 y20 p26 a0 k p72 p73 p74 p75).map Rn:=by
 intro k
 induction k with
 |zero=>intros;rfl
 |succ k ih=>
  intro p72 p73 p74 p75;rw [dS.eq_2,eZ.eq_2];unfold kx i7 nm lF;simp only [FH,vu,LQ,ih];rfl
theorem LL (N:Nat)(a0:SP)(a1:List SR)(a2 y20:List Int)(y13:SQ): ∀(k:Nat) (p29:List SR) (p30:List Int) (p31:Int) (p32:List Ta),eQ N a0 a1 a2 y20 y13 k p29 p30 p31 p32=(fa N a0 a1 a2 y20 y13 k p29 p30 p31 p32).map Rn:=by
 intro k
 induction k with
 |zero=>intros;rfl
 |succ k ih=>
  intro p29 p30 p31 p32;rw [eQ.eq_2,fa.eq_2];unfold iG i9 nn lG;simp only [FH,vu,LQ,ih,LK N a0]
theorem PK (N:Nat)(m:SP)(roots:List SR)(kept:List Int):gi N m roots kept=(dT N m roots kept).map Rn:=by
 unfold gi dT;rw [vu]
 congr 1;funext y7
 rw [FH];cases !y7
 ·simp only [cond_false,vu,LL]
 rfl
def mS (l:List Ta):Nat:=cO (fun c=>c.More.length) l
theorem nS {α:Type}(n:Nat): ∀l:List α,cO (fun _=>n) l=n*l.length
 | []=>by simp [cO]
 |a::l=>by rw [cO,nS n l,List.length_cons,Nat.mul_succ];omega
structure HInv (k:Nat) (g:SS):Prop where
 cnt:g.m_.Young.length+g.m_.Old.length≤k
 cells: ∀c∈g.m_.Young++g.m_.Old,c.Slots.length≤20∧c.More.length≤20
 sum:4*(g.roots_++g.pending_).length+3*(mS g.m_.Young+mS g.m_.Old)≤60*k
 w64:W64 g.m_
 r64: ∀v∈g.roots_++g.pending_,in64 v.N
 nd:(g.set_.at_.map Prod.fst).Nodup
 keys: ∀x∈g.set_.at_.map Prod.fst, ∃i:Nat,i<g.m_.Old.length∧x=2*(i:Int)+2
section
variable {k:Nat} {g:SS} (h:HInv k g)
include h
end
structure HB (g:SS):Prop where
 small:Small g.m_ (g.roots_++g.pending_)
 wtd:Wtd g.m_ (g.roots_++g.pending_)
 tot:cO (fun a=>(cc g.m_ a).More.length) (AL g.m_)≤3600
 four:4*(g.roots_++g.pending_).length+3*(mS g.m_.Young+mS g.m_.Old)≤2400
 w64:W64 g.m_
 r64: ∀v∈g.roots_++g.pending_,in64 v.N
 nd:(g.set_.at_.map Prod.fst).Nodup
 keys: ∀x∈g.set_.at_.map Prod.fst, ∃i:Nat,i<g.m_.Old.length∧x=2*(i:Int)+2
theorem Mb (N:Nat)(g:SS){a:Int}(ha:in64 a):iw N g a=some (bw g.m_ a):=by
 unfold iw bm;rw [bs,nf,ct,sM N _ _ ha];rfl
theorem Hl {N:Nat}(hN:5000<N){c:Ta}(h1:c.Slots.length≤1000∧c.More.length≤1000):eg N c=some (di c):=by
 rw [uK N V c h1.1 h1.2,nU N V c h1.1 h1.2]
def QT (c:Ta)(a:Int):Ta:=⟨c.Kind,c.Shape,c.Flags,a,c.Slots,c.More⟩
def Q2 (kv:List (Int×Bool))(a:Int)(c:Ta):List (Int×Bool):=bif (cI c).any yB then um kv a true else F0 kv a
def Sj (g:SS)(a:Int)(c:Ta):SS:=
 bif decide (a%2=1) then ⟨⟨g.m_.Young.set (a / 2).toNat (QT c (cc g.m_ a).Age),g.m_.Old⟩,g.roots_,g.pending_,g.set_⟩
 else ⟨⟨g.m_.Young,g.m_.Old.set (a / 2 - 1).toNat (QT c (cc g.m_ a).Age)⟩,g.roots_,g.pending_,⟨Q2 g.set_.at_ a c⟩⟩
def Ep (g:SS)(i:Int):Bool:=decide (0≤i)&&decide (i<(g.roots_.length:Int))
theorem Ko {g:SS}{i:Int}(h:Ep g i=true): ∃j:Nat,i=j∧j<g.roots_.length:=by
 unfold Ep at h;rw [Bool.and_eq_true,decide_eq_true_eq,decide_eq_true_eq] at h;exact ⟨i.toNat,by omega,by omega⟩
theorem Kn (N:Nat)(g:SS)(i:Int):bX N g i=some (bif Ep g i then g.roots_.getD i.toNat vZ else vZ):=by
 unfold bX bm
 cases hb:Ep g i with
 |true=>
  obtain ⟨j,rfl,hj⟩:=Ko hb;rw [bs,cf,bs,Tj (p:=(j:Int)<0) V,cf,bs,Tj (p:=(g.roots_.length:Int)≤(j:Int)) V,cf,br hj,bs,ct,Int.toNat_natCast,List.getD_eq_getElem?_getD,List.getElem?_eq_getElem hj];rfl
 |false=>
  unfold Ep at hb;rw [bs,cf,bs,cf];by_cases h1:i<0
  ·rw [cJ h1,ct,bs];rfl
  rw [Tj h1,cf,bs];rw [Ti (p:=(0:Int)≤i) V,Bool.true_and,decide_eq_false_iff_not] at hb;rw [Ti (p:=(g.roots_.length:Int)≤i) V];rfl
end
section
open Go.RowKit
theorem I8 (l:List Int)(cb:SR): ∀xs:List SR,4*(ly l cb xs).length+3*(ew l xs).length≤3*xs.length
 | []=>by simp [ew,ly]
 | [_]=>by simp [ew,ly]
 | [_,_]=>by simp [ew,ly]
 | [_,_,_]=>by simp [ew,ly]
 |t::h::k::s::r=>by
  have:=I8 l cb r;unfold ew ly;cases decide (t.N∈l)<;>simp<;>omega
theorem MH (N:Nat)(l:List Int)(c:Ta):4*(gU l c).length+3*(km N l c).More.length≤3*c.More.length:=by
 have h1:=(pQ N l c).2;by_cases h10:c.Kind=10
 ·have:=I8 l (c.More.headD lx) (c.More.drop 1);unfold km gU;rw [Ti h10,Tj (p:=c.Kind=8) V];show 4*(ly l (c.More.headD lx) (c.More.drop 1)).length+3*(c.More.take 1++ew l (c.More.drop 1)).length≤_;rw [List.length_append,List.length_take];rw [List.length_drop] at this;omega
 have e:gU l c=[]:=by unfold gU;rw [Tj h10];rfl
 rw [e] at h1⊢;simp only [List.length_nil] at h1⊢;omega
theorem yu {α:Type}(n:Nat)(g:α→Nat): ∀l:List α,cO (fun x=>n*g x) l=n*cO g l
 | []=>by simp [cO]
 |a::l=>by simp only [cO];rw [yu n g l,Nat.mul_add]
theorem FI (m:SP):cO (fun a=>(cc m a).More.length) (AL m)=mS m.Young+mS m.Old:=by
 have h3:=mQ (fun c:Ta=>c.More.length) (cc m) (AL m);rw [DP,uC] at h3;exact h3.symm
theorem Pq {N:Nat}{m:SP}{lv f:List Int}(hn:f.Nodup)(hf: ∀a∈f,bw m a=true):4*(f.flatMap fun a=>gU lv (cc m a)).length+3*cO (fun a=>(km N lv (cc m a)).More.length) f≤3*(mS m.Young+mS m.Old):=by
 rw [vD]
 have h1:cO (fun a=>4*(gU lv (cc m a)).length+3*(km N lv (cc m a)).More.length) f≤cO (fun a=>3*(cc m a).More.length) f:=wi fun a _=>MH N lv (cc m a)
 rw [Cm,yu,yu,yu] at h1
 have h2:=oO (fun a=>(cc m a).More.length) hn fun a ha=>sH (hf a ha)
 rw [FI] at h2;omega
theorem rG (N:Nat)(a b:List SR)(ha:a.length≤100000)(hb:b.length≤100000):cu N a b=some (a++b):=by
 unfold cu jD ki gv jg;rw [r64 V V,cK (a:=0+(a.length:Int)) V,cf,r64 V V,cK (a:=0+(a.length:Int)+(b.length:Int)) V,cf,r64 V V,r64 V V,cf];by_cases h:0<a.length+b.length
 ·rw [cJ V,ct,kw ⟨by omega,by omega⟩,bs,rF (by simp;omega),rF (by simp;omega)];rfl
 rw [cK V,cf,bs,rF (by simp;omega),rF (by simp;omega)];rfl
theorem DD (N:Nat)(a:List SR)(ha:a.length≤100000):cR N a=some a:=by
 unfold cR;rw [rF (by simp;omega)];rfl
theorem G0 (N:Nat)(g:SS)(h:g.roots_.length≤600):kA N g=some g.roots_:=by
 unfold kA bm;rw [bs,cf,DD N _ V,bs]
section
variable {g:SS} (h:HB g)
include h
theorem HB.klen:g.set_.at_.length≤g.m_.Old.length:=by
 have h1:=oO (fun _=>1) h.nd (L:=cr g.m_.Old.length) fun x hx=>gb.2 (h.keys x hx)
 rw [nS,nS,List.length_map] at h1;unfold cr at h1;simp only [List.length_map,List.length_range] at h1;omega
theorem HB.keysH {x:Int}(hx:x∈gr g.set_.at_):bw g.m_ x=true:=by
 obtain ⟨i,hi,rfl⟩:=h.keys x ((pX _ x).1 hx);rw [tu,Ti hi]
theorem HB.kslen:(gr g.set_.at_).length≤g.m_.Old.length:=by
 have h1:=h.klen;have e:(gr g.set_.at_).length=(g.set_.at_.map Prod.fst).length:=sg _;rw [e,List.length_map];omega
theorem Dm (N:Nat):iA N g.set_=some (gr g.set_.at_):=by
 have h1:=h.klen;have h2:=h.small.old;unfold iA vt pa;rw [bs,kw ⟨fun x hx=>BT h.small (by obtain ⟨i,hi,rfl⟩:=h.keys x hx;rw [tu,Ti hi]),h.nd,by show bQ g.set_.at_.length;unfold bQ;omega⟩,bs]
end
theorem GU {m:SP}{kv:List (Int×Bool)}(h:kv.map Prod.fst=jy m):(kv.map Prod.fst).Nodup∧ ∀x∈kv.map Prod.fst, ∃i:Nat,i<m.Old.length∧x=2*(i:Int)+2:=by
 rw [h];refine ⟨(vz m).imp fun hab e=>by omega,fun x hx=> ?_⟩;obtain ⟨i,hi, -,e⟩:=Az.1 hx;exact ⟨i,hi,e⟩
theorem I2 {N:Nat}(f:SR→SR)(r p gone:List SR){R:Type}(F:List SR→List SR→Option R)(h1:r.length+p.length≤600)(h2:gone.length≤600):
  bi ((0:Int)≤(r.length:Int)∧0≤(r.length:Int).toNat∧(r.length:Int).toNat≤((r++p).map f).length) (bi ((0:Int)≤(r.length:Int)∧(r.length:Int).toNat≤((r++p).map f).length∧((r++p).map f).length≤((r++p).map f).length) ((cR N ((((r++p).map f).drop 0).take ((r.length:Int).toNat - 0))).bind fun y43=>(cu N ((((r++p).map f).drop ((r.length:Int).toNat)).take (((r++p).map f).length - (r.length:Int).toNat)) gone).bind fun y46=>F y43 y46))=F (r.map f) (p.map f++gone):=by
 have e1:(((r++p).map f).drop 0).take ((r.length:Int).toNat - 0)=r.map f:=by
  rw [List.drop_zero,Nat.sub_zero,Int.toNat_natCast,List.map_append,List.take_left' (by simp)]
 have e2:(((r++p).map f).drop ((r.length:Int).toNat)).take (((r++p).map f).length - (r.length:Int).toNat)=p.map f:=by
  rw [Int.toNat_natCast,List.map_append,List.drop_left' (by simp)];exact List.take_of_length_le (by simp)
 have hl:((r++p).map f).length=r.length+p.length:=by simp
 rw [kw ⟨by omega,by omega,by omega⟩,kw ⟨by omega,by omega,by omega⟩,e1,e2,DD N _ (by simp;omega),bs,rG N _ _ (by simp;omega) V,bs]
section
variable {N:Nat} {m:SP} {roots:List SR} {kept met:List Int} (h:MinCtx N m roots kept met)
include h
theorem MinCtx.mid4:4*(vq m met).length+3*(mS (ms N m met).Young+mS (ms N m met).Old)≤3*(mS m.Young+mS m.Old):=by
 have h1:=Pq (N:=N) (lv:=ia m met) h.nd fun a ha=>h.f1has ha
 have h2:=h.midSum fun c=>c.More.length
 have h3:cO (fun a=>(o7 N m met a).More.length) (ia m met)=cO (fun a=>(km N (ia m met) (cc m a)).More.length) (ia m met):=qg fun a _=>by
  show ((km N (ia m met) (cc m a)).More.map _).length=_;rw [List.length_map]
 unfold mS vq at*;omega
end
section
variable {N:Nat} {m:SP} {roots:List SR} {live f:List Int} (h:CollCtx N m roots live f)
include h
theorem CollCtx.next4:4*(uf m live f).length+3*(mS (gp N m live f).Young+mS (gp N m live f).Old)≤3*(mS m.Young+mS m.Old):=by
 have h1:=Pq (N:=N) (lv:=live) h.lv.nd fun a ha=>h.lv.fhas ha
 have h3:mS (gp N m live f).Old=cO (fun a=>(km N live (cc m a)).More.length) f:=by
  show cO (fun c:Ta=>c.More.length) (f.map fun a=>jM (pL f) f (km N live (cc m a)))=_;rw [mQ]
  exact qg fun a _=>by show ((km N live (cc m a)).More.map _).length=_;rw [List.length_map]
 have h4:mS (gp N m live f).Young=0:=rfl;unfold uf at*;omega
theorem CollCtx.nextCnt:(gp N m live f).Old.length≤m.Young.length+m.Old.length:=by
 have h1:=oO (fun _=>1) h.lv.nd fun a ha=>sH (h.lv.fhas ha)
 rw [nS,nS] at h1;unfold AL at h1;unfold gp;simp only [List.length_append,List.length_map,List.length_range] at h1⊢;omega
end
theorem N7 {N:Nat}(hN:5000<N){g:SS}(h:HB g):
  (C7 N g.m_ (g.roots_++g.pending_) (gr g.set_.at_)=false∧dX N g=some (1,g))∨
  ∃met kv,MinCtx N g.m_ (g.roots_++g.pending_) (gr g.set_.at_) met∧kv.map Prod.fst=jy (ms N g.m_ met)∧
   dX N g=some (0,⟨ms N g.m_ met,g.roots_.map (dk (ii g.m_ met) met),g.pending_.map (dk (ii g.m_ met) met)++(vq g.m_ met).map (dk (ii g.m_ met) met),⟨kv⟩⟩):=by
 have hs:=h.small;have hkl:=h.kslen;have ho:=hs.old;have hrl:=hs.roots;have hsum:=h.four;have hcnt:=h.wtd.cnt;rw [List.length_append] at hrl hsum;have hm:=PK N g.m_ (g.roots_++g.pending_) (gr g.set_.at_)
 have head:dX N g=((dT N g.m_ (g.roots_++g.pending_) (gr g.set_.at_)).bind fun y13=>Fg y13 (fun y13_0=>some (.inl (y13_0.1,y13_0.2.1,y13_0.2.2))) (fun y13_1=>some (.inr (y13_1.1,y13_1.2.1,y13_1.2.2)))).bind fun y26=>(Fg y26 (fun y26_0:SP×(List SR)×(List SR)=>fS N g y26_0.1.Young y26_0.1.Old y26_0.2.1 y26_0.2.2) (fun y26_1:SP×(List SR)×(List SR)=>dU N g y26_1.1.Young y26_1.1.Old y26_1.2.1 y26_1.2.2)).bind fun y9=>some (y9.1,y9.2):=by
  unfold dX gx kX bm;rw [bs,cf,rG N _ _ V V,bs,Dm h N,bs,Option.bind_assoc]
 cases hmay:C7 N g.m_ (g.roots_++g.pending_) (gr g.set_.at_) with
 | false=>
  have e1:gi N g.m_ (g.roots_++g.pending_) (gr g.set_.at_)=some (⟨[],[]⟩,[],[],1):=by
   unfold gi;rw [EI N hN hs h.w64 h.r64 _ V (fun x hx=>BT hs (h.keysH hx)),hmay,bs,nf,ct]
  rw [e1] at hm;refine .inl ⟨J,?_⟩;rw [head]
  cases hc:dT N g.m_ (g.roots_++g.pending_) (gr g.set_.at_) with
  |none=>rw [hc] at hm;cases hm
  | some y=>
   rw [hc] at hm
   cases y with
   |inl y=>rfl
   |inr y=>
    have:=Option.some.inj hm;have:=congrArg (fun z:SP×(List SR)×(List SR)×Int=>z.2.2.2) this;exact absurd this (by show¬(1:Int)=0;omega)
 | true=>
  obtain ⟨met,c⟩:=N0 hN hs h.w64 h.r64 h.tot (kept:=gr g.set_.at_) V hmay;have h4:=c.mid4;have hmc:=c.midCnt;obtain ⟨kv,k1,k2⟩:=CA N hN (m:=ms N g.m_ met) (c.midS V [] (by simp));have hg:((vq g.m_ met).map (dk (ii g.m_ met) met)).length=(vq g.m_ met).length:=List.length_map _;refine .inr ⟨met,kv,c,k2,?_⟩;rw [LO c] at hm;rw [head]
  have ek:dT N g.m_ (g.roots_++g.pending_) (gr g.set_.at_)=some (.inr (ms N g.m_ met,(g.roots_++g.pending_).map (dk (ii g.m_ met) met),(vq g.m_ met).map (dk (ii g.m_ met) met))):=by
   cases hc:dT N g.m_ (g.roots_++g.pending_) (gr g.set_.at_) with
   |none=>rw [hc] at hm;cases hm
   | some y=>
    rw [hc] at hm;have e:=Option.some.inj hm
    cases y with
    |inl y=>
     have:=congrArg (fun z:SP×(List SR)×(List SR)×Int=>z.2.2.2) e;exact absurd this (by show¬(0:Int)=1;omega)
    |inr y=>
     obtain ⟨y1,y2,y3⟩:=y;have e':=e;simp only [Rn,Prod.mk.injEq,and_true] at e';obtain ⟨rfl,rfl,rfl⟩:=e';rfl
  rw [ek,bs]
  dsimp only [Fg]
  rw [bs]
  dsimp only
  unfold dU fR;rw [I2 (N:=N) (dk (ii g.m_ met) met) g.roots_ g.pending_ _ _ V V];have k1':cZ N g.set_ (⟨(ms N g.m_ met).Young,(ms N g.m_ met).Old⟩:SP)=some ⟨kv⟩:=k1;rw [k1',bs,bs]
theorem Ie {N:Nat}{m:SP}{R:List SR}(h0:kh N m R=some 0){y:SP×List SR×List SR×Int}(h:dl N m R=some (.inl y)):False:=by
 unfold dl at h;rw [h0,bs,Ti (p:=(0:Int)=0) rfl,nt,cf] at h;obtain ⟨y13, -,h⟩:=aa h;obtain ⟨y18, -,h⟩:=aa h;obtain ⟨y22, -,h⟩:=aa h;unfold nO at h;split at h
 ·obtain ⟨y25, -,h⟩:=aa h;obtain ⟨y30, -,h⟩:=aa h;split at h
  ·obtain ⟨y65, -,h⟩:=aa h;obtain ⟨y67, -,h⟩:=aa h;cases h
  ·cases h
  ·cases h
  cases h
 ·cases h
 ·cases h
 cases h
theorem N8 {N:Nat}(hN:5000<N){g:SS}(h:HB g):
  (lL N g.m_ (g.roots_++g.pending_)≠0∧dY N g=some (lL N g.m_ (g.roots_++g.pending_),g))∨
  ∃live f kv,CollCtx N g.m_ (g.roots_++g.pending_) live f∧kv.map Prod.fst=jy (gp N g.m_ live f)∧
   dY N g=some (0,⟨gp N g.m_ live f,g.roots_.map (dk (pL f) f),g.pending_.map (dk (pL f) f)++(uf g.m_ live f).map (dk (pL f) f),⟨kv⟩⟩):=by
 have hs:=h.small;have hrl:=hs.roots;have hsum:=h.four;have hcnt:=h.wtd.cnt;rw [List.length_append] at hrl hsum;obtain ⟨live,f,hl⟩:=N1 N hN hs h.w64 h.r64;have hp:=F2 N hN hs h.wtd h.w64 h.r64 hl;have hm:=PN N g.m_ (g.roots_++g.pending_);rw [hp] at hm;unfold MF at hm
 have head:dY N g=((dl N g.m_ (g.roots_++g.pending_)).bind fun y11=>Fg y11 (fun y11_0=>some (.inl (y11_0.1,y11_0.2.1,y11_0.2.2.1,y11_0.2.2.2))) (fun y11_1=>some (.inr (y11_1.1,y11_1.2.1,y11_1.2.2)))).bind fun y27=>(Fg y27 (fun y27_0:SP×(List SR)×(List SR)×Int=>dW N g y27_0.1.Young y27_0.1.Old y27_0.2.1 y27_0.2.2.1 y27_0.2.2.2) (fun y27_1:SP×(List SR)×(List SR)=>dV N g y27_1.1.Young y27_1.1.Old y27_1.2.1 y27_1.2.2)).bind fun y9=>some (y9.1,y9.2):=by
  unfold dY gy kY bm;rw [bs,cf,rG N _ _ V V,bs,Option.bind_assoc]
 by_cases h0: ¬lL N g.m_ (g.roots_++g.pending_)=0
 ·rw [gA h0,cond_false] at hm;refine .inl ⟨h0,?_⟩;rw [head]
  cases hc:dl N g.m_ (g.roots_++g.pending_) with
  |none=>rw [hc] at hm;cases hm
  | some y=>
   rw [hc] at hm;have e:=congrArg (fun z:SP×(List SR)×(List SR)×Int=>z.2.2.2) (Option.some.inj hm)
   cases y with
   |inl y=>
    obtain ⟨y1,y2,y3,y4⟩:=y;have e':lL N g.m_ (g.roots_++g.pending_)=y4:=e;rw [bs]
    dsimp only [Fg]
    rw [bs]
    dsimp only
    unfold dW;rw [←e',gA h0,nf,ct,bs]
   |inr y=>exact absurd e h0
 replace h0:lL N g.m_ (g.roots_++g.pending_)=0:=by omega
 rw [ot h0,cond_true] at hm;have c:=PZ hN hs h.wtd h.w64 h.r64 hl h0;have h4:=c.next4;have hnc:=c.nextCnt;have h0n:(gp N g.m_ live f).Young.length=0:=rfl;obtain ⟨kv,k1,k2⟩:=CA N hN (m:=gp N g.m_ live f) (c.nextS [] (by simp));have k1':cZ N g.set_ (⟨(gp N g.m_ live f).Young,(gp N g.m_ live f).Old⟩:SP)=some ⟨kv⟩:=k1;have hg:((uf g.m_ live f).map (dk (pL f) f)).length=(uf g.m_ live f).length:=List.length_map _;refine .inr ⟨live,f,kv,c,k2,?_⟩;rw [head]
 cases hc:dl N g.m_ (g.roots_++g.pending_) with
 |none=>rw [hc] at hm;cases hm
 | some y=>
  rw [hc] at hm;have e:=Option.some.inj hm
  cases y with
  |inl y=>exact (Ie (by rw [DH N hN hs h.wtd h.w64 h.r64,h0]) hc).elim
  |inr y=>
   obtain ⟨y1,y2,y3⟩:=y;simp only [RY,Prod.mk.injEq,and_true] at e;obtain ⟨rfl,rfl,rfl⟩:=e;rw [bs]
   dsimp only [Fg]
   rw [bs]
   dsimp only
   unfold dV fT;unfold Hm
   dsimp only
   rw [I2 (N:=N) (dk (pL f) f) g.roots_ g.pending_ _ _ V (by unfold uf at hg;rw [hg];unfold uf at h4;omega)];have k2':cZ N g.set_ (⟨[],f.map fun a=>jM (pL f) f (km N live (cc g.m_ a))⟩:SP)=some ⟨kv⟩:=k1;rw [k2',bs,bs];rfl
end
section
open Go.RowKit
theorem KJ (N:Nat)(a b:Int):tD N a b=some (decide (a<b)):=by
 unfold tD rH;rw [bs,ot rfl,Bool.not_true,cond_false,bs,cond_false,bs]
theorem LN {a b:Int}(h0:0≤a)(h1:a<b)(h2:b≤100000):IntKind.i64.wrap ((IntKind.u64.wrap (a+b)).fdiv (2 ^ 1))=(a+b) / 2:=by
 rw [IntWalk.u64_in _ ⟨by omega,by omega⟩,Int.fdiv_eq_ediv_of_nonneg _ V,show (2:Int) ^ 1=2 from rfl,IntWalk.i64_in _ ⟨by omega,by omega⟩]
theorem Ga (N:Nat)(hN:5000<N)(l:List Int)(x:Int)(hl:l.length≤1000)(ha:l.Pairwise (· < ·)):Sat (ic N l x) fun r=>r.2=decide (x∈l):=by
 unfold ic;have hg:=List.pairwise_iff_getElem.1 ha;refine nu (fun m (s:Int×Int)=>dv N x l m s.1 s.2) (fun s=>(s.2 - s.1).toNat) (fun s=>0≤s.1∧s.1≤s.2∧s.2≤l.length∧(∀(j:Nat) (hj:j<l.length),(j:Int)<s.1→l[j]<x)∧(∀(j:Nat) (hj:j<l.length),s.2≤(j:Int)→x≤l[j])) _ ?_ N (0,(l.length:Int)) (by show ((l.length:Int) - 0).toNat<N;omega) ⟨by omega,by show (0:Int)≤l.length;omega,by show (l.length:Int)≤l.length;omega,fun j hj h=>by have:(j:Int)<0:=h;omega,fun j hj h=>by have:(l.length:Int)≤j:=h;omega⟩;rintro m ⟨a,b⟩ ⟨h0,h1,h2,h3,h4⟩ k
 dsimp only at h0 h1 h2 h3 h4
 show Sat (dv N x l (m+1) a b) _;rw [dv.eq_2]
 refine dQ (fun hab=> ?_) fun hab=> ?_
 ·have hm:((a+b) / 2).toNat<l.length:=by omega
  rw [r64 V V,LN h0 hab V,FR V hm,bs,KJ,bs]
  refine dQ (fun hlt=> ?_) fun hlt=> ?_
  ·rw [r64 V V];refine k ((a+b) / 2+1,b) (by show (b - ((a+b) / 2+1)).toNat<(b - a).toNat;omega) ⟨by show 0≤(a+b) / 2+1;omega,by show (a+b) / 2+1≤b;omega,h2,fun j hj h=> ?_,h4⟩;have h:(j:Int)<(a+b) / 2+1:=h;rcases Nat.lt_or_ge j ((a+b) / 2).toNat with h5|h5
   ·have:=hg j _ hj hm h5;omega
   have e:j=((a+b) / 2).toNat:=by omega
   subst e;exact hlt
  refine k (a,(a+b) / 2) (by show ((a+b) / 2 - a).toNat<(b - a).toNat;omega) ⟨h0,by show a≤(a+b) / 2;omega,by show (a+b) / 2≤l.length;omega,h3,fun j hj h=> ?_⟩;have h:(a+b) / 2≤(j:Int):=h;rcases Nat.lt_or_ge ((a+b) / 2).toNat j with h5|h5
  ·have:=hg _ j hm hj h5;omega
  have e:j=((a+b) / 2).toNat:=by omega
  subst e;omega
 obtain rfl:a=b:=by omega
 unfold jG mR;by_cases hlt:a<l.length
 ·have ht:a.toNat<l.length:=by omega
  rw [cJ hlt,cond_true,FR h0 ht,bs];by_cases he:l[a.toNat]=x
  ·rw [ot he,cond_true,bs,bs];exact aQ (Eq.symm (Ti (he▸List.getElem_mem ht)))
  rw [gA he,cond_false,bs,bs,ot rfl,Bool.not_true,cond_false,bs,bs,bs];refine aQ (Eq.symm (Tj fun hx=> ?_));obtain ⟨j,hj,rfl⟩:=List.mem_iff_getElem.1 hx;rcases Nat.lt_trichotomy j a.toNat with h5|h5|h5
  ·have:=h3 j hj V;omega
  ·subst h5;exact he J
  have h6:=hg _ _ ht hj h5;have:=h4 a.toNat ht V;omega
 rw [cK V,cond_false,bs];refine aQ (Eq.symm (Tj fun hx=> ?_));obtain ⟨j,hj,rfl⟩:=List.mem_iff_getElem.1 hx;have:=h3 j hj V;omega
theorem LE (m:SP)(l:List Int):rx m l=(List.range m.Old.length).all fun i=> !ng m i||decide ((2*(i:Int)+2)∈l):=rfl
theorem Kp (n:Nat)(p:Nat→Bool):(List.range n).all p=true↔ ∀i,i<n→p i=true:=by
 rw [List.all_eq_true];exact ⟨fun h i hi=>h i (List.mem_range.2 hi),fun h i hi=>h i (List.mem_range.1 hi)⟩
theorem DW {N:Nat}(hN:5000<N){m:SP}{roots:List SR}(hs:Small m roots){l:List Int}(ha:l.Pairwise (· < ·))(hf: ∀x∈l, ∃i:Nat,i<m.Old.length∧x=2*(i:Int)+2)(hl:l.length≤1000):mY N m l=some (rx m l):=by
 have ho:=hs.old
 have second:gK N m l N 0=some (rx m l):=by
  rw [LE]
  have key: ∀k i:Nat,m.Old.length<k+i→i≤m.Old.length→Sat (gK N m l k (i:Int)) fun b=>b=true↔ ∀j,i≤j→j<m.Old.length→(!ng m j||decide ((2*(j:Int)+2)∈l))=true:=by
   intro k
   induction k with
   |zero=>intro i h1 h2;omega
   | succ k ih=>
    intro i h1 h2;rw [gK.eq_2];by_cases hi:i<m.Old.length
    ·have h3:=ih (i+1) V hi;rw [show (((i+1:Nat)):Int)=(i:Int)+1 by omega] at h3;have hc:=hs.cells _ (To m.Young (List.getElem_mem hi))
     have e:(cI m.Old[i]).any yB=ng m i:=by unfold ng;rw [uk m i hi]
     obtain ⟨r,e1,e2⟩:=Ga N hN l (2*(i:Int)+2) hl ha;rw [cJ V,ct,br hi,bs,r64 V V,r64 V V,e1,bs,e2,xf N hN _ hc.1 hc.2,e]
     have e3:((bif !decide (2*(i:Int)+2∈l) then (some (ng m i)).bind fun y32=>some y32 else some false):Option Bool)=some (!(!ng m i||decide (2*(i:Int)+2∈l))):=by
      cases decide (2*(i:Int)+2∈l)<;>cases ng m i<;>rfl
     rw [e3,bs]
     cases hb:!ng m i||decide (2*(i:Int)+2∈l) with
     |false=>
      rw [nf,ct];refine aQ ⟨fun h=>(by cases h),fun h=> ?_⟩;have:=h i (Nat.le_refl _) hi;rw [hb] at this;cases this
     |true=>
      rw [nt,cf,r64 V V]
      refine h3.mono fun b h=>h.trans ⟨fun h j h1 h2=> ?_,fun h j h1 h2=>h j V h2⟩
      rcases Nat.lt_or_ge i j with h4|h4
      ·exact h j V h2
      obtain rfl:j=i:=by omega
      exact hb
    rw [cK V,cf];exact aQ ⟨fun _ j h1 h2=>by omega,fun _=>rfl⟩
  obtain ⟨b,e1,e2⟩:=key N 0 V V;have e1':gK N m l N 0=some b:=e1;rw [e1']
  congr 1
  rw [Bool.eq_iff_iff,e2,Kp];exact ⟨fun h i hi=>h i (Nat.zero_le _) hi,fun h i _ hi=>h i hi⟩
 have hg:=List.pairwise_iff_getElem.1 ha;unfold mY
 have key: ∀k i:Nat,l.length<k+i→i≤l.length→mc N l m k (i:Int)=some (rx m l):=by
  intro k
  induction k with
  |zero=>intro i h1 h2;omega
  | succ k ih=>
   intro i h1 h2;rw [mc.eq_2];by_cases hi:i<l.length
   ·have h3:=ih (i+1) V hi;rw [show (((i+1:Nat)):Int)=(i:Int)+1 by omega] at h3;obtain ⟨j,hj,ej⟩:=hf _ (List.getElem_mem hi)
    have ep:((bif decide (0<(i:Int)) then (bi (in64 ((i:Int) - 1)) ((aF l ((i:Int) - 1)).bind fun x16=>some (decide (l[i]≤x16)))) else (some false)).bind fun b14=>some b14)=some false:=by
     by_cases h0:0<i
     ·have e1:(i:Int) - 1=((i - 1:Nat):Int):=by omega
      have:=hg (i - 1) i V hi V;rw [cJ V,ct,r64 V V,e1,br V,bs,bs,Tj V]
     rw [cK V,cf,bs]
    unfold mV;rw [cJ V,ct,br hi,bs,ep,ej,cJ V,ct,sf V,ot V,bs,bs,nt,cf,r64 (by rw [Int.tdiv_eq_ediv_of_nonneg V];omega) (by rw [Int.tdiv_eq_ediv_of_nonneg V];omega),bs,Int.tdiv_eq_ediv_of_nonneg V,cK V,cf,bs,cf,r64 V V];exact h3
   rw [cK V,cf];exact second
 exact key N 0 V V
theorem DN (m:SP): ∀l:List SR,l.any (fun v=>bI v&& !bw m v.N)=!dp m (bZ l)
 | []=>rfl
 |v::l=>by
  have ih:=DN m l;unfold dp bZ at ih⊢;rw [List.any_cons,ih,List.filter_cons]
  cases hb:bI v with
  |false=>rw [if_neg (by simp)];rfl
  |true=>rw [if_pos rfl,List.map_cons,List.all_cons];cases bw m v.N<;>rfl
def FO (g:SS):Int:=bif !dp g.m_ (bZ (g.roots_++g.pending_)) then 50 else bif !((g.m_.Young++g.m_.Old).all fun c=>dp g.m_ (cI c)) then 50 else bif rx g.m_ (gr g.set_.at_) then 0 else 6
theorem KI {N:Nat}(hN:5000<N){g:SS}(h:HB g){c:Ta}(hc:c∈g.m_.Young++g.m_.Old):ln N g c=some (!dp g.m_ (cI c)):=by
 have hs:=h.small.cells c hc;have h1:=jO c;have h2:=mC c;unfold ln;rw [mu N V c V V,bs,rc N V c V V,bs,Bo N _ _ V V,bs,zV N _ (fun x=> !bw g.m_ x) _ (by rw [List.length_append];omega) (by rw [List.length_append];omega) (fun x hx=> ?_),bs,Ca]
 ·rfl
 obtain ⟨v,hv, -,rfl⟩:=wI (c:=c) hx;unfold lI;rw [Mb N g (h.w64 c hc v hv),bs]
theorem N9 {N:Nat}(hN:5000<N){g:SS}(h:HB g):ga N g=some (FO g):=by
 have hs:=h.small;have hrl:=hs.roots;have hcnt:=h.wtd.cnt;have hrl':=hrl;rw [List.length_append] at hrl'
 have hj: ∀b,gt N g b=some (bif b then 50 else bif rx g.m_ (gr g.set_.at_) then 0 else 6):=fun b=>by
  unfold gt;rw [Dm h N,bs,DW hN hs (l:=gr g.set_.at_) (z7 h.nd) (fun x hx=>h.keys x ((pX _ x).1 hx)) (by have:=h.kslen;omega),bs];cases b<;>cases rx g.m_ (gr g.set_.at_)<;>rfl
 have ha: ∀v∈g.roots_++g.pending_,jQ N g v=some (bI v&& !bw g.m_ v.N):=fun v hv=>by
  unfold jQ
  have e:((bif decide (v.Kind=7) then (some true) else (some (decide (v.Kind=9)))):Option Bool)=some (bI v):=by
   unfold bI;cases decide (v.Kind=7)<;>rfl
  rw [e,bs,Mb N g (h.r64 v hv),bs];cases bI v<;>rfl
 have hcells:dq N (g.m_.Young++g.m_.Old) g=some (!(g.m_.Young++g.m_.Old).all fun c=>dp g.m_ (cI c)):=by
  have key: ∀k i:Nat,(g.m_.Young++g.m_.Old).length<k+i→i≤(g.m_.Young++g.m_.Old).length→Sat (cQ N (g.m_.Young++g.m_.Old) g k (i:Int)) fun r=>decide (0≤r)=!((g.m_.Young++g.m_.Old).drop i).all fun c=>dp g.m_ (cI c):=by
   intro k
   induction k with
   |zero=>intro i h1 h2;omega
   | succ k ih=>
    intro i h1 h2
    have hl:(g.m_.Young++g.m_.Old).length≤600:=by rw [List.length_append];omega
    rw [cQ.eq_2];by_cases hi:i<(g.m_.Young++g.m_.Old).length
    ·have h3:=ih (i+1) V hi;rw [show (((i+1:Nat)):Int)=(i:Int)+1 by omega] at h3;rw [cJ V,ct,br hi,bs,List.drop_eq_getElem_cons hi,List.all_cons,KI hN h (List.getElem_mem hi),bs,r64 V V];cases dp g.m_ (cI (g.m_.Young++g.m_.Old)[i])
     ·exact aQ (by rw [Ti V];rfl)
     exact h3
    rw [cK V,cf,List.drop_eq_nil_of_le V];exact aQ J
  obtain ⟨r,h1,h2⟩:=key N 0 (by rw [List.length_append];omega) V;have h1':cQ N (g.m_.Young++g.m_.Old) g N 0=some r:=h1;unfold dq ge;rw [h1',bs,h2,List.drop_zero]
 unfold ga bm FO;rw [bs,cf,rG N _ _ V V,bs,JW N _ _ _ V V ha,bs,DN,zM N _ _ V V,bs,hcells,bs,hj,hj]
 cases dp g.m_ (bZ (g.roots_++g.pending_))<;>cases (g.m_.Young++g.m_.Old).all fun c=>dp g.m_ (cI c)<;>rfl
theorem G2 {g:SS}(h1: ∀x∈bZ (g.roots_++g.pending_),bw g.m_ x=true)(h2: ∀c∈g.m_.Young++g.m_.Old, ∀x∈cI c,bw g.m_ x=true)(h3:g.set_.at_.map Prod.fst=jy g.m_):FO g=0:=by
 have e1:dp g.m_ (bZ (g.roots_++g.pending_))=true:=List.all_eq_true.2 h1
 have e2:((g.m_.Young++g.m_.Old).all fun c=>dp g.m_ (cI c))=true:=List.all_eq_true.2 fun c hc=>List.all_eq_true.2 (h2 c hc)
 have e3:gr g.set_.at_=jy g.m_:=by
  have e:gr g.set_.at_=iY (g.set_.at_.map Prod.fst):=rfl;rw [e,h3]
  exact Co ((vz g.m_).imp fun hab e=>by omega) (vz g.m_) fun x=>Iff.rfl
 unfold FO;rw [e1,e2,e3,I1];rfl
theorem E6 {f:List Int}{a b:List SR}(h:lc f (a++b)):lc f a:=fun v hv hb=>h v (Tn _ hv) hb
theorem IS {lv:List Int}{c:Ta}(h:c.Kind≠10):gU lv c=[]:=by
 unfold gU;rw [Tj h];rfl
theorem MG {N:Nat}{lv:List Int}{c:Ta}(h8:c.Kind≠8)(h10:c.Kind≠10):km N lv c=c:=by
 unfold km;rw [Tj h8,Tj h10];rfl
theorem Rt {m:SP}{kv:List (Int×Bool)}(h:kv.map Prod.fst=jy m):gr kv=jy m:=by
 have e:gr kv=iY (kv.map Prod.fst):=rfl;rw [e,h]
 exact Co ((vz m).imp fun hab e=>by omega) (vz m) fun x=>Iff.rfl
structure Pl (g:SS):Prop where
 hb:HB g
 pend:g.pending_=[]
 cells: ∀c∈g.m_.Young++g.m_.Old,di c=true∧(∀x∈cI c,bw g.m_ x=true)∧c.Kind≠8∧c.Kind≠10
 roots: ∀x∈bZ g.roots_,bw g.m_ x=true
 set:g.set_.at_.map Prod.fst=jy g.m_
structure Mv (g g':SS) (ρ:Int→Int) (f:List Int):Prop where
 roots:g'.roots_=g.roots_.map (dk ρ f)
 pend:g'.pending_=[]
 at_: ∀a∈f,bw g'.m_ (ρ a)=true∧ ∃age,cc g'.m_ (ρ a)=xO (jM ρ f (cc g.m_ a)) age
 rin:lc f g.roots_
 has: ∀a∈f,bw g.m_ a=true
 cells: ∀c∈g'.m_.Young++g'.m_.Old,(∃a∈f, ∃age,c=xO (jM ρ f (cc g.m_ a)) age)∧di c=true∧ ∀x∈cI c,bw g'.m_ x=true
 cnt:g'.m_.Young.length+g'.m_.Old.length≤g.m_.Young.length+g.m_.Old.length
 sum:mS g'.m_.Young+mS g'.m_.Old≤mS g.m_.Young+mS g.m_.Old
 wts:wt g'.m_.Young+wt g'.m_.Old≤wt g.m_.Young+wt g.m_.Old
 w64:W64 g'.m_
 r64: ∀v∈g'.roots_,in64 v.N
 set:g'.set_.at_.map Prod.fst=jy g'.m_
theorem Pl.check {N:Nat}(hN:5000<N){g:SS}(h:Pl g):lL N g.m_ (g.roots_++g.pending_)=0:=by
 unfold lL
 have e1:(g.m_.Young++g.m_.Old).all (pe N)=true:=by
  rw [List.all_eq_true];intro c hc;have:=h.hb.small.cells c hc;rw [GA V V V];exact (h.cells c hc).1
 have e2:dp g.m_ ((g.m_.Young++g.m_.Old).flatMap cI++bZ (g.roots_++g.pending_))=true:=by
  unfold dp;rw [List.all_eq_true];intro x hx;rcases List.mem_append.1 hx with hx|hx
  ·obtain ⟨c,hc,hx⟩:=List.mem_flatMap.1 hx;exact (h.cells c hc).2.1 x hx
  rw [h.pend,List.append_nil] at hx;exact h.roots x hx
 rw [e1,e2];rfl
theorem Pl.may {N:Nat}(hN:5000<N){g:SS}(h:Pl g):C7 N g.m_ (g.roots_++g.pending_) (gr g.set_.at_)=true:=by
 rw [Rt h.set,KG,h.pend,List.append_nil];unfold Du z6 dp;rw [Bool.and_eq_true,List.all_eq_true,List.all_eq_true];refine ⟨fun x hx=>h.roots x hx,fun c hc=> ?_⟩;have:=h.hb.small.cells c hc;have ha:=(h.cells c hc).2.1;unfold zx;rw [nU N V c V V,(h.cells c hc).1];show (true&&_)=true;rw [Bool.true_and,Bool.and_eq_true];unfold dp;rw [List.all_eq_true,List.all_eq_true];exact ⟨fun x hx=>ha x (Tn _ hx),fun x hx=>ha x (To _ hx)⟩
theorem Pl.ok {g:SS}(h:Pl g){N:Nat}(hN:5000<N):ga N g=some 0:=by
 rw [N9 hN h.hb,G2 (fun x hx=> ?_) (fun c hc=>(h.cells c hc).2.1) h.set];rw [h.pend,List.append_nil] at hx;exact h.roots x hx
theorem LM {N:Nat}(hN:5000<N){g:SS}(h:Pl g): ∃g' ρ f,dX N g=some (0,g')∧Mv g g' ρ f:=by
 have hcnt:=h.hb.wtd.cnt;rcases N7 hN h.hb with ⟨hm, -⟩|⟨met,kv,c,k2,e⟩
 ·rw [h.may hN] at hm;cases hm
 have ef:dk (ii g.m_ met) met=dk (ii g.m_ met) (ia g.m_ met):=funext fun v=>(C3 v).symm
 have hin:lc (ia g.m_ met) g.roots_:=E6 c.rootIn
 have hk: ∀a∈ia g.m_ met,(cc g.m_ a).Kind≠8∧(cc g.m_ a).Kind≠10:=fun a ha=>(h.cells _ (pR (c.f1has ha))).2.2
 have hg:vq g.m_ met=[]:=by
  unfold vq;rw [List.flatMap_eq_nil_iff]
  exact fun a ha=>IS (hk a ha).2
 have hp:g.pending_.map (dk (ii g.m_ met) met)++(vq g.m_ met).map (dk (ii g.m_ met) met)=[]:=by rw [hg,h.pend];rfl
 rw [hp] at e
 have hc: ∀a∈ia g.m_ met, ∃age,o7 N g.m_ met a=xO (jM (ii g.m_ met) (ia g.m_ met) (cc g.m_ a)) age:=fun a ha=>⟨_,by
  unfold o7
  rw [c.nCE a,MG (hk a ha).1 (hk a ha).2]⟩
 have h4:=c.mid4;rw [hg,List.length_nil] at h4;refine ⟨_,ii g.m_ met,ia g.m_ met,e,⟨by rw [←ef],rfl,fun a ha=> ?_,hin,fun a ha=>c.f1has ha,fun d hd=> ?_,c.midCnt,by show mS (ms N g.m_ met).Young+mS (ms N g.m_ met).Old≤_;omega,c.midWt,c.midW,fun v hv=> ?_,k2⟩⟩
 ·obtain ⟨h1,h2⟩:=c.at_ ha;obtain ⟨age,h3⟩:=hc a ha;exact ⟨h1,age,h2.trans h3⟩
 ·obtain ⟨a,ha,rfl⟩:=c.midMem hd;obtain ⟨h1,h2⟩:=c.midAddr hd;exact ⟨⟨a,ha,hc a ha⟩,h1,h2⟩
 have hv':v∈g.roots_.map (dk (ii g.m_ met) met):=hv;rw [ef] at hv';exact c.now64 v (by rw [List.map_append];exact Tn _ hv')
theorem LR {N:Nat}(hN:5000<N){g:SS}(h:Pl g): ∃g' ρ f,dY N g=some (0,g')∧Mv g g' ρ f:=by
 rcases N8 hN h.hb with ⟨hm, -⟩|⟨live,f,kv,c,k2,e⟩
 ·exact absurd (h.check hN) hm
 have hin:lc f g.roots_:=E6 c.rootIn
 have hk: ∀a∈f,(cc g.m_ a).Kind≠8∧(cc g.m_ a).Kind≠10:=fun a ha=>(h.cells _ (pR (c.lv.fhas ha))).2.2
 have hg:uf g.m_ live f=[]:=by
  unfold uf;rw [List.flatMap_eq_nil_iff]
  exact fun a ha=>IS (hk a ha).2
 have hp:g.pending_.map (dk (pL f) f)++(uf g.m_ live f).map (dk (pL f) f)=[]:=by rw [hg,h.pend];rfl
 rw [hp] at e;have h4:=c.next4;have ht:=c.nextTot;have hnc:=c.nextCnt;rw [hg,List.length_nil] at h4;rw [hg,List.map_nil,List.append_nil,List.length_map] at ht;have h0n:(gp N g.m_ live f).Young.length=0:=rfl
 have hc: ∀a∈f,jM (pL f) f (km N live (cc g.m_ a))=xO (jM (pL f) f (cc g.m_ a)) (cc g.m_ a).Age:=fun a ha=>by
  rw [MG (hk a ha).1 (hk a ha).2];rfl
 refine ⟨_,pL f,f,e,⟨J,J,fun a ha=> ?_,hin,fun a ha=>c.lv.fhas ha,fun d hd=> ?_,by show (gp N g.m_ live f).Young.length+(gp N g.m_ live f).Old.length≤_;omega,by show mS (gp N g.m_ live f).Young+mS (gp N g.m_ live f).Old≤_;omega,by show wt (gp N g.m_ live f).Young+wt (gp N g.m_ live f).Old≤_;omega,c.nextW,fun v hv=> ?_,k2⟩⟩
 ·exact ⟨GL ha,_,(NY ha).trans (hc a ha)⟩
 ·have hd':d∈f.map fun a=>jM (pL f) f (km N live (cc g.m_ a)):=hd
  obtain ⟨h1,h2⟩:=c.nextAddr hd';obtain ⟨a,ha,rfl⟩:=List.mem_map.1 hd';exact ⟨⟨a,ha,_,hc a ha⟩,h1,h2⟩
 exact c.now64 v (by rw [List.map_append];exact Tn _ hv)
theorem Mv.pl {g g':SS}{ρ:Int→Int}{f:List Int}(m:Mv g g' ρ f)(h:Pl g):Pl g':=by
 obtain ⟨n1,n2⟩:=GU m.set;have hs:=h.hb.small;have hw:=h.hb.wtd
 have hl:g'.roots_.length=g.roots_.length:=by rw [m.roots,List.length_map]
 have hrl:=hs.roots;have hle:=hw.le;have hf:=h.hb.four;have ht:=h.hb.tot;have hwc:=hw.cnt;have hc:=m.cnt;have hwt:=m.wts;have hsum:=m.sum;rw [FI] at ht;rw [h.pend,List.append_nil] at hrl hle hf
 have hsz: ∀c∈g'.m_.Young++g'.m_.Old,c.Slots.length≤600∧c.More.length≤600:=fun c hc=>by
  obtain ⟨⟨a,ha,age,rfl⟩, -⟩:=m.cells c hc;have:=hs.cells _ (pR (m.has a ha));show ((cc g.m_ a).Slots.map _).length≤600∧((cc g.m_ a).More.map _).length≤600;rw [List.length_map,List.length_map];exact this
 refine ⟨⟨⟨by omega,by omega,?_,hsz⟩,⟨?_,by omega⟩,?_,?_,m.w64,?_,n1,n2⟩,m.pend,fun c hc=> ?_,fun x hx=> ?_,m.set⟩
 ·rw [m.pend,List.append_nil];omega
 ·rw [m.pend,List.append_nil];omega
 ·rw [FI];omega
 ·rw [m.pend,List.append_nil];omega
 ·rw [m.pend,List.append_nil];exact m.r64
 ·obtain ⟨⟨a,ha,age,rfl⟩,h1,h2⟩:=m.cells c hc;exact ⟨h1,h2,(h.cells _ (pR (m.has a ha))).2.2⟩
 obtain ⟨v,hv,hb,rfl⟩:=lw.1 hx;rw [m.roots] at hv;obtain ⟨w,hw,rfl⟩:=List.mem_map.1 hv;rw [FD] at hb;rw [C2 hb (m.rin w hw hb)];exact (m.at_ _ (m.rin w hw hb)).1
end
end Go.Proofs.YtdcccmadhipinaaGreat