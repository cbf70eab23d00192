/- Merged texts: part 9. No conditions of their own. -/
import Derived.Test.YtjmonlcchlkdhaaGreatG8
import Derived.Test.YtjmonlcchlkdhaaGreatG7
import Derived.IntWalk
import Derived.KernelRfl
namespace Go.Proofs.YtjmonlcchlkdhaaGreat
section
open Go.RowKit
theorem Cz {lv:List Int}: ∀{l:List Ry},pZ l=true->iw lv l->ib (fun x=>decide (x∈lv)) l=l
 | [],_,_=>rfl
 | [_],h,_=>by cases h
 |k::v::r,h,ha=>by
  rw [nh] at h;simp only [R3,decide_eq_true_eq] at h;have hk:k.N∈lv:=ha k (by simp) (by unfold ba;rw [h.1.1];rfl);rw [vG,RM hk,cond_true,Cz h.2 fun w hw=>ha w (by simp [hw])];rfl
theorem Ft {lv:List Int}(cb:Ry): ∀{l:List Ry},lX l=true->iw lv l->ed lv l=l/\lU lv cb l=[]
 | [],_,_=>⟨rfl,rfl⟩
 | [_],h,_=>by cases h
 | [_,_],h,_=>by cases h
 | [_,_,_],h,_=>by cases h
 | t::a::k::s::r,h,ha=>by
  rw [ng] at h;simp only [R3,decide_eq_true_eq] at h;obtain ⟨⟨⟨h1, -⟩,h3,h4⟩,h5⟩:=h
  obtain ⟨i1,i2⟩:=Ft cb h5 fun w hw=>ha w (by simp [hw])
  have ht:t.N∈lv:=ha t (by simp) (by unfold ba;rw [h1];rfl)
  have hk:(decide (k.Sa=7)&& !decide (k.N∈lv))=false:=by
   by_cases a1:k.Sa=7
   ·rw [RM (ha k (by simp) (by unfold ba;rw [a1];rfl)),Bool.not_true,Bool.and_false]
   rw [RN a1,Bool.false_and]
  rw [tM,Gb,i1,i2,RM ht,hk];exact ⟨J,J⟩
theorem CellOk.id {N:Nat}{lv f:List Int}{c:Rk}(h:CellOk N lv f c)(ha: ∀x∈bT c,x∈lv):kS N lv c=c/\gP lv c=[]:=by
 have hin:iw lv c.Sd:=fun v hv hb=>ha _ (AT (RR _ hv) hb)
 by_cases h8:c.Sa=8
 ·rw [h.clC8 h8,Cz (h.ent2 h8) hin];exact ⟨J,by unfold gP;rw [RN V];rfl⟩
 by_cases h10:c.Sa=10
 ·obtain ⟨-, -,h4⟩:=h.ent4 h10
  obtain ⟨i1,i2⟩:=Ft (lv:=lv) (c.Sd.headD kT) h4 fun v hv=>hin v (List.mem_of_mem_drop hv)
  rw [CellOk.clC10 h10,i1,List.take_append_drop];refine ⟨J,?_⟩;unfold gP vH;rw [RM h10];exact i2
 exact ⟨CellOk.clC0 h8 h10,by unfold gP;rw [RN h10];rfl⟩
theorem Ad (N:Nat)(hN:6500<N){lv f:List Int}{c:Rk}(h:CellOk N lv f c)(hl:lv.length<=5000)(gone:List Ry)(hg:gone.length<=10000):i9 N c lv gone=some (kS N lv c,gone++gP lv c):=by
 have hlen:=(qk N lv c).2;have hm:=h.more;unfold i9;by_cases h8:c.Sa=8
 ·rw [RM h8,ct,Cw N hN lv hl c h.slots h.more,h.wm,bs];unfold kS gP;rw [RM h8,RN (p:=c.Sa=10) V,cond_true,cond_true,cond_false,List.append_nil]
 rw [RN h8,cf];by_cases h10:c.Sa=10
 ·have e1:kS N lv c=(vH lv c).1:=by unfold kS;rw [RN h8,RM h10];rfl
  have e2:gP lv c=(vH lv c).2:=by unfold gP;rw [RM h10];rfl
  rw [RM h10,ct,xf N hN lv hl c h.slots h.more,h.fr,RM h10,cond_true,bs, <-e1, <-e2,rF V]
 rw [RN h10,cf,CellOk.clC0 h8 h10];unfold gP;rw [RN h10,cond_false,List.append_nil]
structure MinCtx (N:Nat) (m:Rp) (roots:List Ry) (kept met:List Int):Prop where
 big:6500<N
 small:Small m roots
 w64:W64 m
 r64: ∀v∈roots,in64 v.N
 tot:bQ (fun a=>(bq m a).Sd.length) (zM m)<=3600
 klen:kept.length<=1200
 may:BP N m roots kept=true
 prog: ∃seen nx,nq N m roots kept=some ⟨m,kept,met,seen,nx⟩/\Mt m met seen
 isM: ∃b,IsMinor (ID N m) (bU m.Sc.length) kept (Be m roots kept) b met
theorem zt {N:Nat}{m:Rp}{roots:List Ry}{kept:List Int}(h:BP N m roots kept=true):Cj N m roots=true/\rf m kept=true/\r7 m kept=true:=by
 unfold BP at h;unfold Cj;simp only [R3] at h⊢;exact ⟨h.1.1,h.1.2,h.2⟩
theorem BY {m:Rp}{kept:List Int}(h:rf m kept=true){a:Int}(ha:a∈kept):aD m a=true/\yB a=false:=by
 unfold rf at h;rw [R3] at h;have:=qm h.1 ha;rw [R3] at this;exact ⟨this.2,by cases hy:yB a;rfl;rw [hy] at this;cases this.1⟩
theorem Lj {N:Nat}(hN:6500<N){m:Rp}{roots:List Ry}(hs:Small m roots)(hw:W64 m)(hr: ∀v∈roots,in64 v.N)(ht:bQ (fun a=>(bq m a).Sd.length) (zM m)<=3600){kept:List Int}(hk:kept.length<=1200)(hm:BP N m roots kept=true): ∃met,MinCtx N m roots kept met:=by
 obtain ⟨h1,h2, -⟩:=zt hm;obtain ⟨g1,g2, -⟩:=yz h1;obtain ⟨r,e,seen,nx,b,e2,h3,h4⟩:=Ip N hN hs g1 g2 kept (fun x hx=>(BY h2 hx).1) hk;exact ⟨r.Sw,hN,hs,hw,hr,ht,hk,hm,⟨seen,nx,by rw [e, <-e2],h3⟩,⟨b,h4⟩⟩
def gZ (m:Rp)(met:List Int):List Int:=bU m.Sc.length++met
def CL (m:Rp)(met:List Int):List Int:=qS (ft m) met 0 m.Sc.length
def ip (m:Rp)(met:List Int):Int->Int:=xQ met (CL m met)
def nC (N:Nat)(m:Rp)(met:List Int)(a:Int):Rk:=ki (ip m met) met (kS N (gZ m met) (bq m a))
def nY (N:Nat)(m:Rp)(met:List Int)(a:Int):Rk:=⟨(nC N m met a).Sa,(nC N m met a).Sk,(nC N m met a).Sj,1,(nC N m met a).Sg,(nC N m met a).Sd⟩
def na (N:Nat)(m:Rp)(met:List Int):Rp:=⟨(met.filter (ft m)).map (nY N m met),(bU m.Sc.length).map (nC N m met)++(met.filter fun a=> !ft m a).map (nY N m met)⟩
def vl (m:Rp)(met:List Int):List Ry:=(gZ m met).flatMap fun a=>gP (gZ m met) (bq m a)
section
variable {N:Nat} {m:Rp} {roots:List Ry} {kept met:List Int} (h:MinCtx N m roots kept met)
include h
theorem MinCtx.whole:Whole m:=(yz (zt h.may).1).1
theorem MinCtx.rootsH: ∀x∈bH roots,aD m x=true:=(yz (zt h.may).1).2.1
theorem MinCtx.mt:met.Nodup/\(∀x∈met,yB x=true)/\ ∀x∈met,aD m x=true:=by
 obtain ⟨_,_, -,h2⟩:=h.prog;exact ⟨h2.nd,h2.yng,h2.has⟩
theorem MinCtx.mlen:met.length<=1200:=by
 obtain ⟨_,_, -,h2⟩:=h.prog;exact h2.len h.small
theorem MinCtx.f1has {a:Int}(ha:a∈gZ m met):aD m a=true:=by
 unfold gZ at ha;rcases List.mem_append.1 ha with ha|ha
 ·obtain ⟨i,hi,rfl⟩:=fY.1 ha;rw [oL];exact RM hi
 exact h.mt.2.2 a ha
theorem MinCtx.keptOf {a:Int}(ha:a∈bU m.Sc.length){x:Int}(hx:x∈bT (bq m a))(hy:yB x=true):a∈kept:=by
 obtain ⟨i,hi,rfl⟩:=fY.1 ha;have h3:=(zt h.may).2.2;unfold r7 at h3;have:=qm h3 (List.mem_range.2 hi);rw [List.any_eq_true.2 ⟨x,hx,hy⟩] at this;simpa using this
theorem MinCtx.inF {a:Int}(ha:a∈gZ m met){x:Int}(hx:aD m x=true)(hyx:yB x=true->x∈met):x∈gZ m met:=by
 have _:=h;have _:=ha;unfold gZ
 cases hy:yB x with
 |true=>exact RR _ (hyx hy)
 |false=>
  obtain ⟨i,hi,rfl⟩:=FA hx hy;exact RQ _ (fY.2 ⟨i,hi,J⟩)
theorem MinCtx.cell {a:Int}(ha:a∈gZ m met):CellOk N (gZ m met) (gZ m met) (bq m a):=by
 have hN:=h.big;have hh:=h.f1has ha;have hm:=eo hh;have hs:=h.small.cells _ hm;obtain ⟨b,hM⟩:=h.isM;obtain ⟨q1,q2⟩:=hM.closed;have hf:=(yz (zt h.may).1).2.2 _ hm;refine ⟨by omega,?_,hs.1,hs.2,fun x hx=> ?_,fun x hx=> ?_,fun x=>Iff.rfl⟩
 ·unfold yA at hf;rw [oD N V _ V V,R3] at hf;exact hf.1
 ·refine h.inF ha (h.whole.leads hh x hx) fun hy=> ?_
  unfold gZ at ha;rcases List.mem_append.1 ha with ha|ha
  ·exact hM.start (RR _ (List.mem_flatMap.2 ⟨a,h.keptOf ha (RQ _ hx) hy,hx⟩)) hy
  exact q1 a ha x hx hy
 refine h.inF ha (h.whole.opens hh x hx) fun hy=> ?_
 refine q2 a ?_ x hx hy;unfold gZ at ha;rcases List.mem_append.1 ha with ha|ha
 ·exact RQ _ (h.keptOf ha (Gt hx) hy)
 exact RR _ ha
theorem MinCtx.old {a:Int}(ha:a∈bU m.Sc.length)(hk:a∉kept):kS N (gZ m met) (bq m a)=bq m a/\gP (gZ m met) (bq m a)=[]:=by
 have hf:a∈gZ m met:=RQ _ ha
 refine (h.cell hf).id fun x hx=>h.inF hf (h.whole a (h.f1has hf) x hx) fun hy=>absurd (h.keptOf ha hx hy) hk
theorem MinCtx.nd:(gZ m met).Nodup:=by
 unfold gZ;refine List.nodup_append.2 ⟨?_,h.mt.1,fun a ha b hb e=> ?_⟩
 ·exact (IJ _).imp fun hab e=>by omega
 subst e;obtain ⟨i, -,rfl⟩:=fY.1 ha;have:=h.mt.2.1 _ hb;rw [AI] at this;cases this
theorem MinCtx.goneLen: ∀l:List Int,l.Nodup->(∀a∈l,a∈gZ m met)->(l.flatMap fun a=>gP (gZ m met) (bq m a)).length<=3600:=by
 intro l hn hl
 have h1:=pe (fun a=>(bq m a).Sd.length) hn fun a ha=>ta (h.f1has (hl a ha))
 have h2: ∀l:List Int,(l.flatMap fun a=>gP (gZ m met) (bq m a)).length<=bQ (fun a=>(bq m a).Sd.length) l:=fun l=>by
  induction l with
  |nil=>simp [bQ]
  |cons a l ih=>
   have:=(qk N (gZ m met) (bq m a)).2;rw [List.flatMap_cons,RZ,bQ];omega
 have:=h2 l;have:=h.tot;omega
end
end
section
open Go.RowKit
theorem C2 {α β:Type}(f:α->List β){l:List α}{i:Nat}(h:i<l.length):(l.take (i+1)).flatMap f=(l.take i).flatMap f++f l[i]:=by
 rw [aM h,List.flatMap_append,List.flatMap_cons,List.flatMap_nil,List.append_nil]
theorem I5 {α β:Type}(f:α->β){l:List α}{i:Nat}(h:i<l.length):(l.take (i+1)).map f=(l.take i).map f++ [f l[i]]:=by
 rw [aM h,List.map_append];rfl
theorem zT {α:Type}(p:α->Bool){l:List α}{i:Nat}(h:i<l.length):(l.take (i+1)).filter p=(l.take i).filter p++(bif p l[i] then [l[i]] else []):=by
 rw [aM h,List.filter_append];cases hp:p l[i]<;>simp [hp]
section
variable {N:Nat} {m:Rp} {roots:List Ry} {kept met:List Int} (h:MinCtx N m roots kept met)
include h
theorem MinCtx.f1len:(gZ m met).length<=1800:=by
 have h1:=h.mlen;have h2:=h.small.old;unfold gZ bU;rw [RZ,R1,List.length_range];omega
theorem JJ:iB N m roots kept=some (na N m met,roots.map (cO (ip m met) met),(vl m met).map (cO (ip m met) met),0):=by
 have hN:=h.big;have hs:=h.small;have hml:=h.mlen;have ho:=hs.old;have hrl:=hs.roots;have hfl:=h.f1len;obtain ⟨hnd,hyng,hhas⟩:=h.mt;obtain ⟨seen,nx,hp,hmt⟩:=h.prog;have hto:(CL m met).length=met.length:=xZ _ _ _ _
 have hev:(bU m.Sc.length).length=m.Sc.length:=by unfold bU;simp
 obtain ⟨hfine,hkok, -⟩:=zt h.may
 have a6: ∀x∈kept,in64 x:=fun x hx=>tS hs (BY hkok hx).1
 have hkl:=h.klen;have hgl: ∀l:List Int,l.Nodup->(∀a∈l,a∈gZ m met)->(l.flatMap fun a=>gP (gZ m met) (bq m a)).length<=3600:=h.goneLen
 have tk: ∀i,((bU m.Sc.length).take i).flatMap (fun a=>gP (gZ m met) (bq m a))=((bU m.Sc.length).take i).flatMap fun a=>gP (gZ m met) (bq m a):=fun i=>rfl
 have g1: ∀i,(((bU m.Sc.length).take i).flatMap fun a=>gP (gZ m met) (bq m a)).length<=3600:=fun i=>hgl _ (List.Nodup.sublist (List.take_sublist _ _) (List.nodup_append.1 h.nd).1) fun a ha=>RQ _ (List.mem_of_mem_take ha)
 have g2: ∀i,((bU m.Sc.length++met.take i).flatMap fun a=>gP (gZ m met) (bq m a)).length<=3600:=fun i=>hgl _ (List.Nodup.sublist (List.Sublist.append (List.Sublist.refl _) (List.take_sublist i met)) h.nd) fun a ha=>(List.mem_append.1 ha).elim (fun h=>RQ _ h) fun h=>RR _ (List.mem_of_mem_take h)
 have moved: ∀a∈gZ m met, ∀d:Rk,d.Sg.length<=600->d.Sd.length<=600->fB N d met (CL m met)=some (ki (ip m met) met d):=fun a _ d h1 h2=>Al N hN d V V met (CL m met) hnd hto hml
 -- the young cells
 have young: ∀O:List Rk,O.length<=600->Sat (dI N ⟨m,kept,met,seen,nx⟩ roots (CL m met) (gZ m met) N ((bU m.Sc.length).flatMap fun a=>gP (gZ m met) (bq m a)) 0 [] O) fun r=>r=(⟨(met.filter (ft m)).map (nY N m met),O++(met.filter fun a=> !ft m a).map (nY N m met)⟩,roots.map (cO (ip m met) met),(vl m met).map (cO (ip m met) met),0):=by
  intro O hO;refine cI (fun k i (s:List Ry×List Rk×List Rk)=>dI N ⟨m,kept,met,seen,nx⟩ roots (CL m met) (gZ m met) k s.1 (i:Int) s.2.1 s.2.2) met.length (fun i s=>s.1=(bU m.Sc.length++met.take i).flatMap (fun a=>gP (gZ m met) (bq m a))/\s.2.1=((met.take i).filter (ft m)).map (nY N m met)/\s.2.2=O++((met.take i).filter fun a=> !ft m a).map (nY N m met)) _ ?_ ?_ N 0 (_,[],O) V V ⟨by rw [List.take_zero,List.append_nil];rfl,rfl,by simp⟩
  ·rintro k i ⟨g,Y,Q⟩ hi ⟨h1,h2,h3⟩ go;simp only at h1 h2 h3;show Sat (dI N ⟨m,kept,met,seen,nx⟩ roots (CL m met) (gZ m met) (k+1) g (i:Int) Y Q) _;have hgm:met[i]∈met:=R5 hi;have hgf:met[i]∈gZ m met:=RR _ hgm;have hc:=h.cell hgf;have hcl:=qk N (gZ m met) (bq m met[i]);have hc1:=hc.slots;have hc2:=hc.more
   have hgt:g.length<=3600:=by rw [h1];exact g2 i
   have hYl:Y.length<=i:=by rw [h2,R1];exact Nat.le_trans (List.length_filter_le _ _) (by rw [R0];omega)
   have hQl:Q.length<=600+i:=by
    rw [h3,RZ,R1];have:=List.length_filter_le (fun a=> !ft m a) (met.take i);rw [R0] at this;omega
   have hti:i<(CL m met).length:=by omega
   have htv:(CL m met)[i]=bif ft m met[i] then 2*((0+((met.take i).filter (ft m)).length:Nat):Int)+1 else 2*((m.Sc.length+((met.take i).filter fun a=> !ft m a).length:Nat):Int)+2:=by
    have:=BA (ft m) hi 0 m.Sc.length;unfold List.getD at this;have e:(qS (ft m) met 0 m.Sc.length)[i]? =some (CL m met)[i]:=List.getElem?_eq_getElem hti;rw [e] at this;exact this
   have hyt:yB (CL m met)[i]=ft m met[i]:=by
    rw [htv];cases ft m met[i]
    ·exact AI _
    exact F7 _
   rw [dI.eq_2]
   dsimp only
   rw [cn V,ct,aK hi,bs,qY N hs kept met seen nx (h.f1has hgf),bs,Ad N hN hc V g V,bs]
   dsimp only
   rw [moved _ hgf _ V V,bs,aK hti,bs,qv,bs,hyt];unfold lb;rw [r64 V V,r64 V V,rF (by simp;omega),rF (by simp;omega)]
   have hg':g++gP (gZ m met) (bq m met[i])=(bU m.Sc.length++met.take (i+1)).flatMap fun a=>gP (gZ m met) (bq m a):=by
    rw [h1,List.flatMap_append,List.flatMap_append,C2 _ hi,RP]
   have a1:=zT (ft m) hi;have a2:=zT (fun a=> !ft m a) hi;cases hb:ft m met[i]
   ·rw [hb] at a1;simp only [hb,Bool.not_false,cond_true,cond_false,List.append_nil] at a1 a2;rw [cf];exact go (_,Y,_) ⟨hg',by show Y=_;rw [a1];exact h2,by show Q++ [nY N m met met[i]]=_;rw [a2,List.map_append,h3,RP];rfl⟩
   rw [hb] at a1;simp only [hb,Bool.not_true,cond_true,cond_false,List.append_nil] at a1 a2;rw [ct];exact go (_,_,Q) ⟨hg',by show Y++ [nY N m met met[i]]=_;rw [a1,List.map_append,h2];rfl,by show Q=_;rw [a2];exact h3⟩
  rintro k ⟨g,Y,Q⟩ ⟨h1,h2,h3⟩;simp only [R2] at h1 h2 h3;show Sat (dI N ⟨m,kept,met,seen,nx⟩ roots (CL m met) (gZ m met) (k+1) g _ Y Q) _
  have hgt:g.length<=3600:=by rw [h1];have:=g2 met.length;rwa [R2] at this
  rw [dI.eq_2]
  dsimp only
  rw [cu V,cf];unfold nO
  dsimp only
  rw [Ac N hN roots V met (CL m met) hnd hto hml,bs,Ac N hN g V met (CL m met) hnd hto hml,bs,h2,h3];refine av ?_;rw [h1];rfl
 apply Sat.eq;unfold iB;rw [Dq N hN hs h.w64 h.r64 kept V a6,h.may,bs,nt,cf,hp,bs,Ee N hN hs kept nx hmt,bs,BN N hN hs kept nx hmt,bs];refine cI (fun k i (s:List Ry×List Rk)=>eE N m roots kept (CL m met) ⟨m,kept,met,seen,nx⟩ k s.1 (gZ m met) (i:Int) s.2) m.Sc.length (fun i s=>s.1=((bU m.Sc.length).take i).flatMap (fun a=>gP (gZ m met) (bq m a))/\s.2=((bU m.Sc.length).take i).map (nC N m met)) _ ?_ ?_ N 0 ([],[]) V V ⟨J,J⟩
 ·rintro k i ⟨g,O⟩ hi ⟨h1,h2⟩ go;simp only at h1 h2;show Sat (eE N m roots kept (CL m met) ⟨m,kept,met,seen,nx⟩ (k+1) g (gZ m met) (i:Int) O) _
  have hie:i<(bU m.Sc.length).length:=by omega
  have hei:(bU m.Sc.length)[i]=2*(i:Int)+2:=Dx hie;have hae:(2*(i:Int)+2)∈bU m.Sc.length:=fY.2 ⟨i,hi,rfl⟩;have haf:(2*(i:Int)+2)∈gZ m met:=RQ _ hae;have hc:=h.cell haf;have hcl:=qk N (gZ m met) (bq m (2*(i:Int)+2));have hc1:=hc.slots;have hc2:=hc.more
  have hgt:g.length<=3600:=by rw [h1];exact g1 i
  have hOl:O.length<=i:=by rw [h2,R1,R0];omega
  have hold:=h.old hae
  have n1:((bU m.Sc.length).take (i+1)).flatMap (fun a=>gP (gZ m met) (bq m a))=g++gP (gZ m met) (bq m (2*(i:Int)+2)):=by rw [C2 _ hie,hei,h1]
  have n2:((bU m.Sc.length).take (i+1)).map (nC N m met)=O++ [nC N m met (2*(i:Int)+2)]:=by rw [I5 _ hie,hei,h2]
  rw [ns m i hi] at hc hcl hc1 hc2 hold n1
  have hnc:nC N m met (2*(i:Int)+2)=ki (ip m met) met (kS N (gZ m met) m.Sc[i]):=by unfold nC;rw [ns m i hi]
  have body: ∀(kb:List Ry->List Int->Int->List Rk->Option (Rp×List Ry×List Ry×Int)) (g':List Ry) (d:Rk),d.Sg.length<=600->d.Sd.length<=600->iS N kb m (i:Int) roots kept (CL m met) (gZ m met) O ⟨m,kept,met,seen,nx⟩ g' d.Sa d.Sk d.Sj d.Sn d.Sg d.Sd=kb g' (gZ m met) ((i:Int)+1) (O++ [ki (ip m met) met d]):=by
   intro kb g' d d1 d2;have:=moved _ haf d d1 d2;unfold iS
   dsimp only
   have e:fB N ⟨d.Sa,d.Sk,d.Sj,d.Sn,d.Sg,d.Sd⟩ met (CL m met)=some (ki (ip m met) met d):=this;rw [e,bs,rF (by simp;omega),r64 V V]
  rw [eE.eq_2,cn V,ct,aK hi,bs,r64 V V,r64 V V,o9 N hN kept V,bs];by_cases hk:(2*(i:Int)+2)∈kept
  ·rw [RM hk,ct,Ad N hN hc V g V,bs]
   dsimp only
   rw [body _ _ _ V V];exact go (_,_) ⟨n1.symm,by rw [n2,hnc]⟩
  obtain ⟨o1,o2⟩:=hold hk;rw [RN hk,cf,body _ _ _ V V];exact go (g,_) ⟨by rw [n1,o2,List.append_nil],by rw [n2,hnc,o1]⟩
 rintro k ⟨g,O⟩ ⟨h1,h2⟩;have etl:(bU m.Sc.length).take m.Sc.length=bU m.Sc.length:=List.take_of_length_le V;simp only [etl] at h1 h2;show Sat (eE N m roots kept (CL m met) ⟨m,kept,met,seen,nx⟩ (k+1) g (gZ m met) _ O) _;rw [eE.eq_2,cu V,cf];unfold nP;rw [h1]
 have hOl:O.length<=600:=by rw [h2,R1];omega
 have:=young O hOl;rw [h2] at this⊢;exact this
end
end
section
open Go.RowKit
theorem Hs: ∀{A B:List Int} {x:Int},x∉A->(A++x::B).idxOf x=A.length
 | [],B,x,_=>by simp
 |a::A,B,x,h=>by
  have h1:a≠x:=fun e=>h (by simp [e])
  rw [List.cons_append,List.idxOf_cons,Hs fun hx=>h (by simp [hx])];have:(a==x)=false:=beq_eq_false_iff_ne.2 h1;rw [this];rfl
theorem FG {l:List Int}(hn:l.Nodup)(p:Int->Bool){i:Nat}(h:i<l.length)(hp:p l[i]=true):(l.filter p).idxOf l[i]=((l.take i).filter p).length:=by
 have e:l.filter p=(l.take i).filter p++l[i]::(l.drop (i+1)).filter p:=by
  have e1:l=l.take i++(l[i]::l.drop (i+1)):=by rw [<-List.drop_eq_getElem_cons h,List.take_append_drop]
  have e2:l.filter p=(l.take i).filter p++(l[i]::l.drop (i+1)).filter p:=by rw [<-List.filter_append, <-e1]
  rw [e2,List.filter_cons,hp,if_pos rfl]
 rw [e]
 exact Hs fun hm=>BK hn h (List.mem_filter.1 hm).1
def xn (c:Rk)(g:Int):Rk:=⟨c.Sa,c.Sk,c.Sj,g,c.Sg,c.Sd⟩
theorem D7 {c:Rk}(h:bu c=true):bu (xn c 1)=true:=by
 unfold bu at h⊢;unfold xn;simp only [R3] at h⊢;obtain ⟨⟨⟨⟨⟨⟨⟨h1,h2⟩,h3⟩,h4⟩,h5⟩, -⟩, -⟩,h8⟩:=h;exact ⟨⟨⟨⟨⟨⟨⟨h1,h2⟩,h3⟩,h4⟩,h5⟩,J⟩,J⟩,h8⟩
structure VCell (N:Nat) (c:Rk):Prop where
 big:2000<N
 right:bu c=true
 slots:c.Sg.length<=600
 more:c.Sd.length<=600
theorem KH (m:Rp){i:Nat}{c:Rk}(h:m.Sc[i]? =some c):aD m (2*(i:Int)+2)=true/\bq m (2*(i:Int)+2)=c:=by
 obtain ⟨h1,h2⟩:=List.getElem?_eq_some_iff.1 h;exact ⟨by rw [oL];exact RM h1,by rw [ns m i h1];exact h2⟩
theorem NL (m:Rp){i:Nat}{c:Rk}(h:m.Se[i]? =some c):aD m (2*(i:Int)+1)=true/\bq m (2*(i:Int)+1)=c:=by
 obtain ⟨h1,h2⟩:=List.getElem?_eq_some_iff.1 h;exact ⟨by rw [tT];exact RM h1,by rw [qd m i h1];exact h2⟩
theorem Fw {f:List Int}{a:Int}(h:a∈f):f[f.idxOf a]? =some a:=List.getElem?_eq_some_iff.2 ⟨sx h,o8 h⟩
section
variable {N:Nat} {m:Rp} {roots:List Ry} {kept met:List Int} (h:MinCtx N m roots kept met)
include h
theorem MinCtx.rhoE {a:Int}(ha:a∈bU m.Sc.length):ip m met a=a:=by
 have hn:a∉met:=fun hm=>(List.nodup_append.1 h.nd).2.2 a ha a hm rfl
 unfold ip xQ;rw [if_neg hn]
theorem MinCtx.rhoY {a:Int}(ha:a∈met)(hp:ft m a=true):ip m met a=2*(((met.filter (ft m)).idxOf a:Nat):Int)+1:=by
 obtain ⟨i,hi,rfl⟩:=List.getElem_of_mem ha;unfold ip xQ CL;rw [if_pos ha,zo h.mt.1 hi,BA _ hi,hp,FG h.mt.1 _ hi hp,cond_true,Nat.zero_add]
theorem MinCtx.rhoO {a:Int}(ha:a∈met)(hp:ft m a=false):ip m met a=2*((m.Sc.length+(met.filter fun a=> !ft m a).idxOf a:Nat):Int)+2:=by
 obtain ⟨i,hi,rfl⟩:=List.getElem_of_mem ha;unfold ip xQ CL;rw [if_pos ha,zo h.mt.1 hi,BA _ hi,hp,FG h.mt.1 (fun a=> !ft m a) hi (by rw [hp];rfl),cond_false]
theorem MinCtx.cases {a:Int}(ha:a∈gZ m met):(a∈bU m.Sc.length/\ip m met a=a)\/(a∈met/\ft m a=true/\a∈met.filter (ft m))\/(a∈met/\ft m a=false/\a∈met.filter fun a=> !ft m a):=by
 unfold gZ at ha;rcases List.mem_append.1 ha with ha|ha
 ·exact .inl ⟨ha,h.rhoE ha⟩
 cases hp:ft m a with
 |true=>exact .inr (.inl ⟨ha,rfl,List.mem_filter.2 ⟨ha,hp⟩⟩)
 |false=>exact .inr (.inr ⟨ha,rfl,List.mem_filter.2 ⟨ha,by rw [hp];rfl⟩⟩)
theorem MinCtx.ren:Ren (ip m met) (gZ m met):=by
 refine ⟨fun a b ha hb e=> ?_,fun a ha=> ?_⟩
 ·rcases h.cases ha with ⟨a1,a2⟩|⟨a1,a2,a3⟩|⟨a1,a2,a3⟩<;>rcases h.cases hb with ⟨b1,b2⟩|⟨b1,b2,b3⟩|⟨b1,b2,b3⟩
  ·rw [a2,b2] at e;exact e
  ·obtain ⟨i, -,rfl⟩:=fY.1 a1;rw [a2,h.rhoY b1 b2] at e;omega
  ·obtain ⟨i,hi,rfl⟩:=fY.1 a1;rw [a2,h.rhoO b1 b2] at e;omega
  ·obtain ⟨i, -,rfl⟩:=fY.1 b1;rw [b2,h.rhoY a1 a2] at e;omega
  ·rw [h.rhoY a1 a2,h.rhoY b1 b2] at e
   have e2:(met.filter (ft m)).idxOf a=(met.filter (ft m)).idxOf b:=by omega
   rw [<-o8 a3, <-o8 b3];simp only [e2]
  ·rw [h.rhoY a1 a2,h.rhoO b1 b2] at e;omega
  ·obtain ⟨i,hi,rfl⟩:=fY.1 b1;rw [b2,h.rhoO a1 a2] at e;omega
  ·rw [h.rhoO a1 a2,h.rhoY b1 b2] at e;omega
  rw [h.rhoO a1 a2,h.rhoO b1 b2] at e
  have e2:(met.filter fun a=> !ft m a).idxOf a=(met.filter fun a=> !ft m a).idxOf b:=by omega
  rw [<-o8 a3, <-o8 b3];simp only [e2]
 rcases h.cases ha with ⟨a1,a2⟩|⟨a1,a2,a3⟩|⟨a1,a2,a3⟩
 ·obtain ⟨i, -,rfl⟩:=fY.1 a1;omega
 ·rw [h.rhoY a1 a2];omega
 rw [h.rhoO a1 a2];omega
end
def Mz (N:Nat)(m:Rp)(met:List Int)(a:Int):Int:=if a∈met then 1 else (nC N m met a).Sn
def px (N:Nat)(m:Rp)(met:List Int)(a:Int):Rk:=xn (nC N m met a) (Mz N m met a)
theorem BM {m:Rp}{met:List Int}(v:Ry):cO (ip m met) (gZ m met) v=cO (ip m met) met v:=by
 unfold cO gZ;cases hb:ba v
 ·rfl
 rw [Bool.true_and,Bool.true_and];by_cases h:v.N∈met
 ·rw [RM h,RM (RR _ h)]
 rw [RN h]
 have e:ip m met v.N=v.N:=by unfold ip xQ;rw [if_neg h]
 rw [e];cases decide (v.N∈bU m.Sc.length++met)<;>rfl
theorem Fj {m:Rp}{met:List Int}(c:Rk):ki (ip m met) met c=ki (ip m met) (gZ m met) c:=by
 unfold ki;rw [List.map_congr_left fun v _=>(BM v).symm,List.map_congr_left (l:=c.Sd) fun v _=>(BM v).symm]
section
variable {N:Nat} {m:Rp} {roots:List Ry} {kept met:List Int} (h:MinCtx N m roots kept met)
include h
theorem MinCtx.cellE {a:Int}(ha:a∈bU m.Sc.length):px N m met a=nC N m met a:=by
 have hn:a∉met:=fun hm=>(List.nodup_append.1 h.nd).2.2 a ha a hm rfl
 unfold px Mz;rw [if_neg hn];rfl
theorem FZ {a:Int}(ha:a∈met):px N m met a=nY N m met a:=by
 have _:=h;unfold px Mz;rw [if_pos ha];rfl
theorem MinCtx.at_ {a:Int}(ha:a∈gZ m met):aD (na N m met) (ip m met a)=true/\bq (na N m met) (ip m met a)=px N m met a:=by
 have hev:(bU m.Sc.length).length=m.Sc.length:=by unfold bU;simp
 have hml:((bU m.Sc.length).map (nC N m met)).length=m.Sc.length:=by rw [R1];exact hev
 rcases h.cases ha with ⟨a1,a2⟩|⟨a1,a2,a3⟩|⟨a1,a2,a3⟩
 ·rw [a2,h.cellE a1];obtain ⟨i,hi,rfl⟩:=fY.1 a1;refine KH _ ?_;show ((bU m.Sc.length).map (nC N m met)++(met.filter fun a=> !ft m a).map (nY N m met))[i]? =_;rw [List.getElem?_append_left V,List.getElem?_map,List.getElem?_eq_getElem (by omega:i<(bU m.Sc.length).length),Dx];rfl
 ·rw [h.rhoY a1 a2,FZ h a1];refine NL _ ?_;show ((met.filter (ft m)).map (nY N m met))[_]? =_;rw [List.getElem?_map,Fw a3];rfl
 rw [h.rhoO a1 a2,FZ h a1];refine KH _ ?_;show ((bU m.Sc.length).map (nC N m met)++(met.filter fun a=> !ft m a).map (nY N m met))[_]? =_;rw [List.getElem?_append_right V,hml,Nat.add_sub_cancel_left,List.getElem?_map,Fw a3];rfl
theorem MinCtx.okN {a:Int}(ha:a∈gZ m met):VCell N (nC N m met a)/\VCell N (px N m met a):=by
 have hN:=h.big;obtain ⟨g1,g2,g3, -⟩:=CellOk.new h.ren (h.cell ha);have e:nC N m met a=ki (ip m met) (gZ m met) (kS N (gZ m met) (bq m a)):=Fj _;rw [<-e] at g1 g2 g3;refine ⟨⟨by omega,g1,g2,g3⟩,by omega,?_,g2,g3⟩;unfold px Mz;by_cases hm:a∈met
 ·rw [if_pos hm];exact D7 g1
 rw [if_neg hm];exact g1
end
end
section
open Go.RowKit
theorem C4 {α:Type}(g:α->Nat)(p:α->Bool): ∀l:List α,bQ g (l.filter p)+bQ g (l.filter fun a=> !p a)=bQ g l
 | []=>rfl
 |a::l=>by
  have ih:=C4 g p l;rw [List.filter_cons,List.filter_cons];cases h:p a
  ·simp only [Bool.false_eq_true,if_false,Bool.not_false,if_true,bQ];omega
  simp only [Bool.false_eq_true,if_false,Bool.not_true,if_true,bQ];omega
theorem qC {α:Type}{g h:α->Nat}: ∀{l:List α},(∀x∈l,g x=h x)->bQ g l=bQ h l
 | [],_=>rfl
 |a::l,hh=>by rw [bQ,bQ,hh a (by simp),qC fun x hx=>hh x (by simp [hx])]
theorem uE {α:Type}: ∀l:List α,bQ (fun _=>1) l=l.length
 | []=>rfl
 |a::l=>by rw [bQ,uE l,List.length_cons];omega
section
variable {N:Nat} {m:Rp} {roots:List Ry} {kept met:List Int} (h:MinCtx N m roots kept met)
include h
theorem MinCtx.midSum (g:Rk->Nat):bQ g (na N m met).Se+bQ g (na N m met).Sc=bQ (fun a=>g (px N m met a)) (gZ m met):=by
 have e1:bQ (fun a=>g (px N m met a)) (bU m.Sc.length)=bQ (fun a=>g (nC N m met a)) (bU m.Sc.length):=qC fun a ha=>by rw [h.cellE ha]
 have e2:bQ (fun a=>g (px N m met a)) met=bQ (fun a=>g (nY N m met a)) met:=qC fun a ha=>by rw [FZ h ha]
 have e3:=C4 (fun a=>g (nY N m met a)) (ft m) met;unfold na gZ;simp only;rw [qD,qD,nw,nw,nw,e1,e2];omega
theorem MinCtx.midLe (g:Rk->Nat)(hg: ∀a∈gZ m met,g (px N m met a)<=g (bq m a)):bQ g (na N m met).Se+bQ g (na N m met).Sc<=bQ g m.Se+bQ g m.Sc:=by
 have h1:=pe (fun a=>g (bq m a)) h.nd fun a ha=>ta (h.f1has ha)
 have h2:=nw g (bq m) (zM m);rw [CE,qD] at h2;rw [h.midSum];have h3:=vT hg;omega
theorem MinCtx.cellLe {a:Int}(ha:a∈gZ m met):(px N m met a).Sg.length=(bq m a).Sg.length/\(px N m met a).Sd.length<=(bq m a).Sd.length:=by
 have _:=h;have:=qk N (gZ m met) (bq m a);show ((kS N (gZ m met) (bq m a)).Sg.map _).length=_/\((kS N (gZ m met) (bq m a)).Sd.map _).length<=_;rw [R1,R1];omega
theorem MinCtx.midCnt:(na N m met).Se.length+(na N m met).Sc.length<=m.Se.length+m.Sc.length:=by
 have:=h.midLe (fun _=>1) fun a _=>Nat.le_refl _
 rw [uE,uE,uE,uE] at this;exact this
theorem MinCtx.midWt:wt (na N m met).Se+wt (na N m met).Sc<=wt m.Se+wt m.Sc:=by
 have:=h.midLe wC fun a ha=>by
  have:=h.cellLe ha;unfold wC;omega
 rw [<-ti, <-ti, <-ti, <-ti] at this;exact this
theorem MinCtx.midMem {c:Rk}(hc:c∈(na N m met).Se++(na N m met).Sc): ∃a∈gZ m met,c=px N m met a:=by
 unfold na at hc;simp only [List.mem_append,List.mem_map,List.mem_filter] at hc;rcases hc with ⟨a,⟨h1, -⟩,rfl⟩|⟨a,h1,rfl⟩|⟨a,⟨h1, -⟩,rfl⟩
 ·exact ⟨a,RR _ h1,(FZ h h1).symm⟩
 ·exact ⟨a,RQ _ h1,(h.cellE h1).symm⟩
 exact ⟨a,RR _ h1,(FZ h h1).symm⟩
theorem MinCtx.root {x:Int}(hx:x∈bH roots):x∈gZ m met:=by
 have hh:=h.rootsH x hx;obtain ⟨b,hM⟩:=h.isM;unfold gZ
 cases hy:yB x with
 |true=>exact RR _ (hM.start (RQ _ hx) hy)
 |false=>
  obtain ⟨i,hi,rfl⟩:=FA hh hy;exact RQ _ (fY.2 ⟨i,hi,J⟩)
theorem MinCtx.rootIn:iw (gZ m met) roots:=fun v hv hb=>h.root (kN.2 ⟨v,hv,hb,rfl⟩)
theorem MinCtx.rho64 {a:Int}(ha:a∈gZ m met):in64 (ip m met a):=by
 have h1:=h.mlen;have h2:=h.small.old
 have h3: ∀p:Int->Bool,(met.filter p).length<=1200:=fun p=>Nat.le_trans (List.length_filter_le _ _) h1
 unfold in64;rcases h.cases ha with ⟨a1,a2⟩|⟨a1,a2,a3⟩|⟨a1,a2,a3⟩
 ·obtain ⟨i,hi,rfl⟩:=fY.1 a1;rw [a2];omega
 ·have:=sx a3;have:=h3 (ft m);rw [h.rhoY a1 a2];omega
 have:=sx a3
 have:=h3 fun a=> !ft m a
 rw [h.rhoO a1 a2];omega
theorem MinCtx.mov64 {v:Ry}(hv:in64 v.N):in64 (cO (ip m met) (gZ m met) v).N:=by
 unfold cO
 cases hb:ba v&&decide (v.N∈gZ m met) with
 |false=>exact hv
 |true=>
  rw [R3,decide_eq_true_eq] at hb;exact h.rho64 hb.2
theorem MinCtx.now64: ∀v∈roots.map (cO (ip m met) (gZ m met)),in64 v.N:=fun v hv=>by
 obtain ⟨w,hw,rfl⟩:=List.mem_map.1 hv;exact h.mov64 (h.r64 w hw)
theorem MinCtx.nCE (a:Int):nC N m met a=ki (ip m met) (gZ m met) (kS N (gZ m met) (bq m a)):=by
 have _:=h;exact Fj _
theorem MinCtx.midW:W64 (na N m met):=fun c hc v hv=>by
 obtain ⟨a,ha,rfl⟩:=h.midMem hc;have hv':v∈(nC N m met a).Sg++(nC N m met a).Sd:=hv;rw [h.nCE] at hv'
 have hv2:v∈((kS N (gZ m met) (bq m a)).Sg++(kS N (gZ m met) (bq m a)).Sd).map (cO (ip m met) (gZ m met)):=by rw [List.map_append];exact hv'
 obtain ⟨w,hw,rfl⟩:=List.mem_map.1 hv2;refine h.mov64 ?_;rcases HG hw with hw|rfl
 ·exact h.w64.at_ a w hw
 show in64 0;unfold in64;omega
theorem MinCtx.midS (hcnt:m.Se.length+m.Sc.length<=600)(l:List Ry)(hl:l.length<=600):Small (na N m met) l:=by
 have:=h.midCnt;refine ⟨by omega,by omega,hl,fun c hc=> ?_⟩;obtain ⟨a,ha,rfl⟩:=h.midMem hc;exact ⟨(h.okN ha).2.slots,(h.okN ha).2.more⟩
theorem MinCtx.newHas {l:List Ry}(hl:iw (gZ m met) l){v:Ry}(hv:v∈l.map (cO (ip m met) (gZ m met)))(hb:ba v=true):aD (na N m met) v.N=true:=by
 obtain ⟨w,hw,rfl⟩:=List.mem_map.1 hv;rw [AM] at hb;have:=hl w hw hb;rw [zp hb this];exact (h.at_ this).1
theorem MinCtx.midAddr {c:Rk}(hc:c∈(na N m met).Se++(na N m met).Sc):bu c=true/\ ∀x∈bT c,aD (na N m met) x=true:=by
 obtain ⟨a,ha,rfl⟩:=h.midMem hc;refine ⟨(h.okN ha).2.right,fun x hx=> ?_⟩;have hx':x∈bT (nC N m met a):=hx;obtain ⟨v,hv,hb,rfl⟩:=te hx';rw [h.nCE] at hv;obtain ⟨i1,i2⟩:=(h.cell ha).inC;rcases List.mem_append.1 hv with hv|hv
 ·exact h.newHas i1 hv hb
 exact h.newHas i2 hv hb
end
end
section
open Go.RowKit
theorem sq (N:Nat)(hN:6500<N)(c:Rk)(hS:c.Sg.length<=600)(hM:c.Sd.length<=600):ls N c=some ((bT c).any yB):=by
 have h1:=kk c;have h2:=ni c
 have hy: ∀x,lr N x=some (yB x):=fun x=>by
  unfold lr yB;cases decide (0<x)<;>cases decide (x.tmod 2=1)<;>rfl
 unfold ls bT;rw [nb N V c V V,rM N V c V V,bs,bs,yR N _ yB (cg c) V V (fun x _=>hy x),yR N _ yB (kU c) V V (fun x _=>hy x),bs,bs,List.any_append];cases (cg c).any yB<;>cases (kU c).any yB<;>rfl
theorem IN {L:List (Int×Bool)}{a:Int}(h:a∉L.map (·.1)):zI L a=L:=by
 unfold zI;rcases GK a L with ⟨i,c, -,h2⟩|⟨h1, -⟩
 ·exact absurd (List.mem_map.2 ⟨_,List.mem_of_getElem? h2,J⟩) h
 rw [h1]
theorem Bl (N:Nat)(hN:6500<N){m:Rp}{roots:List Ry}(hs:Small m roots): ∃kv,cL N ⟨[]⟩ m=some ⟨kv⟩/\kv.map Prod.fst=jB m:=by
 have ho:=hs.old
 have key:Sat (cL N ⟨[]⟩ m) fun r=>r.at_.map Prod.fst=jB m:=by
  unfold cL mY;rw [bs];refine cI (fun k i (s:List (Int×Bool))=>eK N m k (i:Int) s) m.Sc.length (fun i s=>s.map Prod.fst=((List.range i).filter (lW m)).map (fun i:Nat=>2*(i:Int)+2)) _ ?_ ?_ N 0 [] V V J
  ·rintro k i s hi h1 go;show Sat (eK N m (k+1) (i:Int) s) _;have hc:=hs.cells _ (RR m.Se (R5 hi))
   have hnext:((List.range (i+1)).filter (lW m)).map (fun i:Nat=>2*(i:Int)+2)=((List.range i).filter (lW m)).map (fun i:Nat=>2*(i:Int)+2)++(bif lW m i then [2*(i:Int)+2] else []):=by
    rw [List.range_succ,List.filter_append,List.map_append];cases h:lW m i<;>simp [h]
   have hno:(2*(i:Int)+2)∉s.map Prod.fst:=by
    rw [h1];intro hm;obtain ⟨j,hj,e⟩:=List.mem_map.1 hm;have:=List.mem_range.1 (List.mem_filter.1 hj).1;omega
   have e:(bT m.Sc[i]).any yB=lW m i:=by unfold lW;rw [ns m i hi]
   rw [eK.eq_2,cn V,ct,aK hi,bs,r64 V V,r64 V V];unfold dC jh lK;rw [sq N hN _ hc.1 hc.2,e,cn V,ct,pQ V,og V];simp only [bs,nt,cf];cases h:lW m i
   ·simp only [nf,ct,bs];rw [IN hno,r64 V V];exact go s (by rw [hnext,h,h1,cf,List.append_nil])
   simp only [nt,cf,bs];rw [r64 V V];refine go (xi s (2*(i:Int)+2) true) ?_;have:=xL s (2*(i:Int)+2) true;rw [if_neg hno] at this;rw [hnext,h,ct, <-h1];exact this
  rintro k s h1;show Sat (eK N m (k+1) _ s) _;rw [eK.eq_2,cu V,cf];exact av h1
 obtain ⟨r,e,h⟩:=key;exact ⟨r.at_,e,h⟩
theorem yt (m:Rp):(jB m).Pairwise (· < ·):=by
 have:=Fu m;unfold rf at this;rw [R3,decide_eq_true_eq] at this;exact this.2
def ul (m:Rp)(live f:List Int):List Ry:=f.flatMap fun a=>gP live (bq m a)
section
variable {N:Nat} {m:Rp} {roots:List Ry} {live f:List Int} (h:CollCtx N m roots live f)
include h
theorem CollCtx.nextTot:(roots.map (cO (qg f) f)++(ul m live f).map (cO (qg f) f)).length+wt (gh N m live f).Se+wt (gh N m live f).Sc<=roots.length+wt m.Se+wt m.Sc:=by
 have h1:=EZ h.lv;have e0:(gh N m live f).Se=[]:=rfl
 have e1:(gh N m live f).Sc=f.map fun a=>ki (qg f) f (kS N live (bq m a)):=rfl
 rw [e0,e1,RZ,R1,R1];unfold ul;have e2:wt []=0:=rfl;omega
end
end
section
open Go.RowKit
theorem vo {α β γ:Type}(o:Option α)(f:α->Option β)(g:β->γ):(o.bind f).map g=o.bind fun x=>(f x).map g:=by cases o<;>rfl
theorem JM {β γ:Type}(c:Prop)[Decidable c](o:Option β)(g:β->γ):(bn c o).map g=bn c (o.map g):=by unfold bn;split<;>rfl
theorem Ei {β γ:Type}(b:Bool)(x y:Option β)(g:β->γ):(bif b then x else y).map g=bif b then x.map g else y.map g:=by cases b<;>rfl
def PL:(Rp×RJ×RJ×Int) ⊕ (Rp×RJ×RJ)->Rp×RJ×RJ×Int
 | .inl x=>x
 | .inr x=>(x.1,x.2.1,x.2.2,0)
theorem Nw (N:Nat)(m:Rp)(roots:List Ry):mQ N m roots=(cV N m roots).map PL:=by
 have a1:jt=ld:=rfl;have a2:jr=lc:=rfl;unfold mQ cV;rw [a1,a2,vo]
 congr 1;funext y7
 rw [Ei];cases !decide (y7=0)
 ·simp only [cond_false,vo]
  congr 1;funext a6;congr 1;funext a7;congr 1;funext a8
  unfold qc;split
  ·simp only [vo]
   congr 1;funext b0;congr 1;funext b1
   split
   ·simp only [vo];rfl
   ·rfl
   ·rfl
   rfl
  ·rfl
  ·rfl
  rfl
 rfl
def OO:(Rp×RJ×RJ) ⊕ (Rp×RJ×RJ)->Rp×RJ×RJ×Int
 | .inl x=>(x.1,x.2.1,x.2.2,1)
 | .inr x=>(x.1,x.2.1,x.2.2,0)
theorem JF (N:Nat)(a0:Rp)(b0:RC)(a1:List Ry)(b1 b2:List Int): ∀(k:Nat) (a2:List Ry) (a6:Int) (a7 a8:List Rk),dI N b0 a1 b1 b2 k a2 a6 a7 a8=(eP N b0 a1 b1 b2 a0 k a2 a6 a7 a8).map OO:=by
 intro k
 induction k with
 |zero=>intros;rfl
 |succ k ih=>
  intro a2 a6 a7 a8;rw [dI.eq_2,eP.eq_2];unfold lb jo nO mg;simp only [Ei,vo,JM,ih];rfl
theorem JG (N:Nat)(a0:Rp)(a1:List Ry)(a2 b1:List Int)(b2:RC): ∀(k:Nat) (a6:List Ry) (a7:List Int) (a8:Int) (b0:List Rk),eE N a0 a1 a2 b1 b2 k a6 a7 a8 b0=(eR N a0 a1 a2 b1 b2 k a6 a7 a8 b0).map OO:=by
 intro k
 induction k with
 |zero=>intros;rfl
 |succ k ih=>
  intro a6 a7 a8 b0;rw [eE.eq_2,eR.eq_2];unfold iS jp nP mh;simp only [Ei,vo,JM,ih,JF N a0]
theorem Ns (N:Nat)(m:Rp)(roots:List Ry)(kept:List Int):iB N m roots kept=(dJ N m roots kept).map OO:=by
 unfold iB dJ;rw [vo]
 congr 1;funext y7
 rw [Ei];cases !y7
 ·simp only [cond_false,vo,JG]
 rfl
def mS (l:List Rk):Nat:=bQ (fun c=>c.Sd.length) l
theorem oy {α:Type}(n:Nat): ∀l:List α,bQ (fun _=>n) l=n*l.length
 | []=>by simp [bQ]
 |a::l=>by rw [bQ,oy n l,List.length_cons,Nat.mul_succ];omega
theorem Ba {α:Type}(g:α->Nat)(x:α): ∀(l:List α) (i:Nat),bQ g (l.set i x)<=bQ g l+g x
 | [],_=>by simp [bQ]
 |a::l,0=>by simp only [List.set_cons_zero,bQ];omega
 |a::l,i+1=>by have:=Ba g x l i;simp only [List.set_cons_succ,bQ];omega
structure HInv (k:Nat) (g:RG):Prop where
 cnt:g.m_.Se.length+g.m_.Sc.length<=k
 cells: ∀c∈g.m_.Se++g.m_.Sc,c.Sg.length<=20/\c.Sd.length<=20
 sum:4*(g.Si++g.Sq).length+3*(mS g.m_.Se+mS g.m_.Sc)<=60*k
 w64:W64 g.m_
 r64: ∀v∈g.Si++g.Sq,in64 v.N
 nd:(g.So.at_.map Prod.fst).Nodup
 keys: ∀x∈g.So.at_.map Prod.fst, ∃i:Nat,i<g.m_.Sc.length/\x=2*(i:Int)+2
section
variable {k:Nat} {g:RG} (h:HInv k g)
include h
end
structure HB (g:RG):Prop where
 small:Small g.m_ (g.Si++g.Sq)
 wtd:Wtd g.m_ (g.Si++g.Sq)
 tot:bQ (fun a=>(bq g.m_ a).Sd.length) (zM g.m_)<=3600
 four:4*(g.Si++g.Sq).length+3*(mS g.m_.Se+mS g.m_.Sc)<=9000
 w64:W64 g.m_
 r64: ∀v∈g.Si++g.Sq,in64 v.N
 nd:(g.So.at_.map Prod.fst).Nodup
 keys: ∀x∈g.So.at_.map Prod.fst, ∃i:Nat,i<g.m_.Sc.length/\x=2*(i:Int)+2
theorem Ht (N:Nat)(g:RG){a:Int}(ha:in64 a):ga N g a=some (aD g.m_ a):=by
 unfold ga aG;rw [bs,nf,ct,td N _ _ ha];rfl
theorem Aj {N:Nat}(hN:6500<N){c:Rk}(h1:c.Sg.length<=1000/\c.Sd.length<=1000):fA N c=some (bu c):=by
 rw [uK N V c h1.1 h1.2,oD N V c h1.1 h1.2]
def xt (c:Rk)(a:Int):Rk:=⟨c.Sa,c.Sk,c.Sj,a,c.Sg,c.Sd⟩
def yh (kv:List (Int×Bool))(a:Int)(c:Rk):List (Int×Bool):=bif (bT c).any yB then xi kv a true else zI kv a
theorem Ih {N:Nat}(hN:6500<N){c:Rk}(h1:c.Sg.length<=600/\c.Sd.length<=600)(kv:List (Int×Bool))(i:Nat): ∃b,dC N ⟨kv⟩ (2*(i:Int)+2) c=some (b,⟨yh kv (2*(i:Int)+2) c⟩):=by
 unfold dC jh lK yh;rw [cn V,ct,pQ V,og V,sq N hN c h1.1 h1.2];simp only [bs,nt,cf];cases (bT c).any yB
 ·exact ⟨false,J⟩
 exact ⟨true,J⟩
theorem Jy {kv:List (Int×Bool)}(h:(kv.map Prod.fst).Nodup)(a:Int)(c:Rk):((yh kv a c).map Prod.fst).Nodup:=by
 unfold yh;cases (bT c).any yB
 ·exact (DJ h a).2.1
 show ((xi kv a true).map (·.1)).Nodup;rw [xL];split
 ·exact h
 rename_i hn
 exact List.nodup_append.2 ⟨h,by simp,fun x hx y hy=>by rintro rfl;exact hn (by rw [List.mem_singleton.1 hy] at hx;exact hx)⟩
theorem Dm {kv:List (Int×Bool)}(h:(kv.map Prod.fst).Nodup)(a:Int)(c:Rk)(x:Int):x∈(yh kv a c).map Prod.fst↔((bT c).any yB=true/\(x∈kv.map Prod.fst\/x=a))\/((bT c).any yB=false/\x∈kv.map Prod.fst/\x≠a):=by
 unfold yh;cases (bT c).any yB
 ·simp only [Bool.false_eq_true,false_and,false_or,true_and];exact (DJ h a).1 x
 simp only [Bool.true_eq_false,false_and,or_false,true_and];show x∈(xi kv a true).map (·.1)↔(x∈kv.map (·.1)\/x=a);rw [xL];split
 ·rename_i hn
  exact ⟨.inl,fun hx=>hx.elim id fun e=>e▸hn⟩
 rw [List.mem_append,List.mem_singleton]
def kz (g:RG)(a:Int)(c:Rk):RG:=
 bif decide (a%2=1) then ⟨⟨g.m_.Se.set (a / 2).toNat (xt c (bq g.m_ a).Sn),g.m_.Sc⟩,g.Si,g.Sq,g.So⟩
 else ⟨⟨g.m_.Se,g.m_.Sc.set (a / 2 - 1).toNat (xt c (bq g.m_ a).Sn)⟩,g.Si,g.Sq,⟨yh g.So.at_ a c⟩⟩
def Da (g:RG)(i:Int):Bool:=decide (0<=i)&&decide (i<(g.Si.length:Int))
theorem H3 {g:RG}{i:Int}(h:Da g i=true): ∃j:Nat,i=j/\j<g.Si.length:=by
 unfold Da at h;rw [R3,decide_eq_true_eq,decide_eq_true_eq] at h;exact ⟨i.toNat,by omega,by omega⟩
theorem H2 (N:Nat)(g:RG)(i:Int):aZ N g i=some (bif Da g i then g.Si.getD i.toNat vZ else vZ):=by
 unfold aZ aG
 cases hb:Da g i with
 |true=>
  obtain ⟨j,rfl,hj⟩:=H3 hb;rw [bs,cf,bs,RN (p:=(j:Int)<0) V,cf,bs,RN (p:=(g.Si.length:Int)<=(j:Int)) V,cf,aK hj,bs,ct,Int.toNat_natCast,List.getD_eq_getElem?_getD,List.getElem?_eq_getElem hj];rfl
 |false=>
  unfold Da at hb;rw [bs,cf,bs,cf];by_cases h1:i<0
  ·rw [cn h1,ct,bs];rfl
  rw [RN h1,cf,bs];rw [RM (p:=(0:Int)<=i) V,Bool.true_and,decide_eq_false_iff_not] at hb;rw [RM (p:=(g.Si.length:Int)<=i) V];rfl
end
section
open Go.RowKit
theorem Hq (l:List Int)(cb:Ry): ∀xs:List Ry,4*(lU l cb xs).length+3*(ed l xs).length<=3*xs.length
 | []=>by simp [ed,lU]
 | [_]=>by simp [ed,lU]
 | [_,_]=>by simp [ed,lU]
 | [_,_,_]=>by simp [ed,lU]
 |t::h::k::s::r=>by
  have:=Hq l cb r;unfold ed lU;cases decide (t.N∈l)<;>simp<;>omega
theorem Ky (N:Nat)(l:List Int)(c:Rk):4*(gP l c).length+3*(kS N l c).Sd.length<=3*c.Sd.length:=by
 have h1:=(qk N l c).2;by_cases h10:c.Sa=10
 ·have:=Hq l (c.Sd.headD kT) (c.Sd.drop 1);unfold kS gP;rw [RM h10,RN (p:=c.Sa=8) V];show 4*(lU l (c.Sd.headD kT) (c.Sd.drop 1)).length+3*(c.Sd.take 1++ed l (c.Sd.drop 1)).length<=_;rw [RZ,R0];rw [List.length_drop] at this;omega
 have e:gP l c=[]:=by unfold gP;rw [RN h10];rfl
 rw [e] at h1⊢;simp only [List.length_nil] at h1⊢;omega
theorem xM {α:Type}(n:Nat)(g:α->Nat): ∀l:List α,bQ (fun x=>n*g x) l=n*bQ g l
 | []=>by simp [bQ]
 |a::l=>by simp only [bQ];rw [xM n g l,Nat.mul_add]
theorem BS (m:Rp):bQ (fun a=>(bq m a).Sd.length) (zM m)=mS m.Se+mS m.Sc:=by
 have h3:=nw (fun c:Rk=>c.Sd.length) (bq m) (zM m);rw [CE,qD] at h3;exact h3.symm
theorem ME {N:Nat}{m:Rp}{lv f:List Int}(hn:f.Nodup)(hf: ∀a∈f,aD m a=true):4*(f.flatMap fun a=>gP lv (bq m a)).length+3*bQ (fun a=>(kS N lv (bq m a)).Sd.length) f<=3*(mS m.Se+mS m.Sc):=by
 rw [vy]
 have h1:bQ (fun a=>4*(gP lv (bq m a)).length+3*(kS N lv (bq m a)).Sd.length) f<=bQ (fun a=>3*(bq m a).Sd.length) f:=vT fun a _=>Ky N lv (bq m a)
 rw [Bb,xM,xM,xM] at h1
 have h2:=pe (fun a=>(bq m a).Sd.length) hn fun a ha=>ta (hf a ha)
 rw [BS] at h2;omega
theorem sf (N:Nat)(a b:List Ry)(ha:a.length<=100000)(hb:b.length<=100000):bX N a b=some (a++b):=by
 unfold bX jT kO gm jw;rw [r64 V V,cu (a:=0+(a.length:Int)) V,cf,r64 V V,cu (a:=0+(a.length:Int)+(b.length:Int)) V,cf,r64 V V,r64 V V,cf];by_cases h:0<a.length+b.length
 ·rw [cn V,ct,iq ⟨by omega,by omega⟩,bs,rF (by simp;omega),rF (by simp;omega)];rfl
 rw [cu V,cf,bs,rF (by simp;omega),rF (by simp;omega)];rfl
theorem Cu (N:Nat)(a:List Ry)(ha:a.length<=100000):cF N a=some a:=by
 unfold cF;rw [rF (by simp;omega)];rfl
theorem Fy (N:Nat)(g:RG)(h:g.Si.length<=600):lf N g=some g.Si:=by
 unfold lf aG;rw [bs,cf,Cu N _ V,bs]
section
variable {g:RG} (h:HB g)
include h
theorem HB.klen:g.So.at_.length<=g.m_.Sc.length:=by
 have h1:=pe (fun _=>1) h.nd (L:=bU g.m_.Sc.length) fun x hx=>fY.2 (h.keys x hx)
 rw [oy,oy,R1] at h1;unfold bU at h1;simp only [R1,List.length_range] at h1;omega
theorem HB.keysH {x:Int}(hx:x∈fc g.So.at_):aD g.m_ x=true:=by
 obtain ⟨i,hi,rfl⟩:=h.keys x ((oz _ x).1 hx);rw [oL,RM hi]
theorem HB.kslen:(fc g.So.at_).length<=g.m_.Sc.length:=by
 have h1:=h.klen;have e:(fc g.So.at_).length=(g.So.at_.map Prod.fst).length:=sJ _;rw [e,R1];omega
theorem Cc (N:Nat):iE N g.So=some (fc g.So.at_):=by
 have h1:=h.klen;have h2:=h.small.old;unfold iE vm pB;rw [bs,iq ⟨fun x hx=>tS h.small (by obtain ⟨i,hi,rfl⟩:=h.keys x hx;rw [oL,RM hi]),h.nd,by show cc g.So.at_.length;unfold cc;omega⟩,bs]
end
theorem Fs {m:Rp}{kv:List (Int×Bool)}(h:kv.map Prod.fst=jB m):(kv.map Prod.fst).Nodup/\ ∀x∈kv.map Prod.fst, ∃i:Nat,i<m.Sc.length/\x=2*(i:Int)+2:=by
 rw [h];refine ⟨(yt m).imp fun hab e=>by omega,fun x hx=> ?_⟩;obtain ⟨i,hi, -,e⟩:=qu.1 hx;exact ⟨i,hi,e⟩
theorem Hl {N:Nat}(f:Ry->Ry)(r p gone:List Ry){R:Type}(F:List Ry->List Ry->Option R)(h1:r.length+p.length<=600)(h2:gone.length<=3000):
  bn ((0:Int)<=(r.length:Int)/\0<=(r.length:Int).toNat/\(r.length:Int).toNat<=((r++p).map f).length) (bn ((0:Int)<=(r.length:Int)/\(r.length:Int).toNat<=((r++p).map f).length/\((r++p).map f).length<=((r++p).map f).length) ((cF N ((((r++p).map f).drop 0).take ((r.length:Int).toNat - 0))).bind fun a1=>(bX N ((((r++p).map f).drop ((r.length:Int).toNat)).take (((r++p).map f).length - (r.length:Int).toNat)) gone).bind fun a2=>F a1 a2))=F (r.map f) (p.map f++gone):=by
 have e1:(((r++p).map f).drop 0).take ((r.length:Int).toNat - 0)=r.map f:=by
  rw [List.drop_zero,Nat.sub_zero,Int.toNat_natCast,List.map_append,List.take_left' (by simp)]
 have e2:(((r++p).map f).drop ((r.length:Int).toNat)).take (((r++p).map f).length - (r.length:Int).toNat)=p.map f:=by
  rw [Int.toNat_natCast,List.map_append,List.drop_left' (by simp)];exact List.take_of_length_le (by simp)
 have hl:((r++p).map f).length=r.length+p.length:=by simp
 rw [iq ⟨by omega,by omega,by omega⟩,iq ⟨by omega,by omega,by omega⟩,e1,e2,Cu N _ (by simp;omega),bs,sf N _ _ (by simp;omega) V,bs]
section
variable {N:Nat} {m:Rp} {roots:List Ry} {kept met:List Int} (h:MinCtx N m roots kept met)
include h
theorem MinCtx.mid4:4*(vl m met).length+3*(mS (na N m met).Se+mS (na N m met).Sc)<=3*(mS m.Se+mS m.Sc):=by
 have h1:=ME (N:=N) (lv:=gZ m met) h.nd fun a ha=>h.f1has ha
 have h2:=h.midSum fun c=>c.Sd.length
 have h3:bQ (fun a=>(px N m met a).Sd.length) (gZ m met)=bQ (fun a=>(kS N (gZ m met) (bq m a)).Sd.length) (gZ m met):=qC fun a _=>by
  show ((kS N (gZ m met) (bq m a)).Sd.map _).length=_;rw [R1]
 unfold mS vl at*;omega
end
section
variable {N:Nat} {m:Rp} {roots:List Ry} {live f:List Int} (h:CollCtx N m roots live f)
include h
theorem CollCtx.next4:4*(ul m live f).length+3*(mS (gh N m live f).Se+mS (gh N m live f).Sc)<=3*(mS m.Se+mS m.Sc):=by
 have h1:=ME (N:=N) (lv:=live) h.lv.nd fun a ha=>h.lv.fhas ha
 have h3:mS (gh N m live f).Sc=bQ (fun a=>(kS N live (bq m a)).Sd.length) f:=by
  show bQ (fun c:Rk=>c.Sd.length) (f.map fun a=>ki (qg f) f (kS N live (bq m a)))=_;rw [nw]
  exact qC fun a _=>by show ((kS N live (bq m a)).Sd.map _).length=_;rw [R1]
 have h4:mS (gh N m live f).Se=0:=rfl;unfold ul at*;omega
theorem CollCtx.nextCnt:(gh N m live f).Sc.length<=m.Se.length+m.Sc.length:=by
 have h1:=pe (fun _=>1) h.lv.nd fun a ha=>ta (h.lv.fhas ha)
 rw [oy,oy] at h1;unfold zM at h1;unfold gh;simp only [RZ,R1,List.length_range] at h1⊢;omega
end
theorem Ls {N:Nat}(hN:6500<N){g:RG}(h:HB g):
  (BP N g.m_ (g.Si++g.Sq) (fc g.So.at_)=false/\dO N g=some (1,g))\/
  ∃met kv,MinCtx N g.m_ (g.Si++g.Sq) (fc g.So.at_) met/\kv.map Prod.fst=jB (na N g.m_ met)/\
   dO N g=some (0,⟨na N g.m_ met,g.Si.map (cO (ip g.m_ met) met),g.Sq.map (cO (ip g.m_ met) met)++(vl g.m_ met).map (cO (ip g.m_ met) met),⟨kv⟩⟩):=by
 have hs:=h.small;have hkl:=h.kslen;have ho:=hs.old;have hrl:=hs.roots;have hsum:=h.four;have hcnt:=h.wtd.cnt;rw [RZ] at hrl hsum;have hm:=Ns N g.m_ (g.Si++g.Sq) (fc g.So.at_)
 have head:dO N g=((dJ N g.m_ (g.Si++g.Sq) (fc g.So.at_)).bind fun a1=>Au a1 (fun y13_0=>some (.inl (y13_0.1,y13_0.2.1,y13_0.2.2))) (fun y13_1=>some (.inr (y13_1.1,y13_1.2.1,y13_1.2.2)))).bind fun a2=>(Au a2 (fun y26_0:Rp×RJ×RJ=>fN N g y26_0.1.Se y26_0.1.Sc y26_0.2.1 y26_0.2.2) (fun y26_1:Rp×RJ×RJ=>dL N g y26_1.1.Se y26_1.1.Sc y26_1.2.1 y26_1.2.2)).bind fun y9=>some (y9.1,y9.2):=by
  unfold dO gr lB aG;rw [bs,cf,sf N _ _ V V,bs,Cc h N,bs,Option.bind_assoc]
 cases hmay:BP N g.m_ (g.Si++g.Sq) (fc g.So.at_) with
 | false=>
  have e1:iB N g.m_ (g.Si++g.Sq) (fc g.So.at_)=some (⟨[],[]⟩,[],[],1):=by
   unfold iB;rw [Dq N hN hs h.w64 h.r64 _ V (fun x hx=>tS hs (h.keysH hx)),hmay,bs,nf,ct]
  rw [e1] at hm;refine .inl ⟨J,?_⟩;rw [head]
  cases hc:dJ N g.m_ (g.Si++g.Sq) (fc g.So.at_) with
  |none=>rw [hc] at hm;cases hm
  | some y=>
   rw [hc] at hm
   cases y with
   |inl y=>rfl
   |inr y=>
    have:=Option.some.inj hm;have:=congrArg (fun z:Rp×RJ×RJ×Int=>z.2.2.2) this;exact absurd this (by show¬(1:Int)=0;omega)
 | true=>
  obtain ⟨met,c⟩:=Lj hN hs h.w64 h.r64 h.tot (kept:=fc g.So.at_) V hmay;have h4:=c.mid4;have hmc:=c.midCnt;obtain ⟨kv,k1,k2⟩:=Bl N hN (m:=na N g.m_ met) (c.midS V [] (by simp));have hg:((vl g.m_ met).map (cO (ip g.m_ met) met)).length=(vl g.m_ met).length:=R1 _;refine .inr ⟨met,kv,c,k2,?_⟩;rw [JJ c] at hm;rw [head]
  have ek:dJ N g.m_ (g.Si++g.Sq) (fc g.So.at_)=some (.inr (na N g.m_ met,(g.Si++g.Sq).map (cO (ip g.m_ met) met),(vl g.m_ met).map (cO (ip g.m_ met) met))):=by
   cases hc:dJ N g.m_ (g.Si++g.Sq) (fc g.So.at_) with
   |none=>rw [hc] at hm;cases hm
   | some y=>
    rw [hc] at hm;have e:=Option.some.inj hm
    cases y with
    |inl y=>
     have:=congrArg (fun z:Rp×RJ×RJ×Int=>z.2.2.2) e;exact absurd this (by show¬(0:Int)=1;omega)
    |inr y=>
     obtain ⟨y1,y2,y3⟩:=y;have e':=e;simp only [OO,Prod.mk.injEq,and_true] at e';obtain ⟨rfl,rfl,rfl⟩:=e';rfl
  rw [ek,bs]
  dsimp only [Au]
  rw [bs]
  dsimp only
  unfold dL fM;rw [Hl (N:=N) (cO (ip g.m_ met) met) g.Si g.Sq _ _ V V];have k1':cL N g.So (⟨(na N g.m_ met).Se,(na N g.m_ met).Sc⟩:Rp)=some ⟨kv⟩:=k1;rw [k1',bs,bs]
theorem GC {N:Nat}{m:Rp}{R:List Ry}(h0:kL N m R=some 0){y:Rp×List Ry×List Ry×Int}(h:cV N m R=some (.inl y)):False:=by
 unfold cV at h;rw [h0,bs,RM (p:=(0:Int)=0) rfl,nt,cf] at h;obtain ⟨a1, -,h⟩:=aa h;obtain ⟨a2, -,h⟩:=aa h;obtain ⟨a6, -,h⟩:=aa h;unfold qc at h;split at h
 ·obtain ⟨a7, -,h⟩:=aa h;obtain ⟨a8, -,h⟩:=aa h;split at h
  ·obtain ⟨b0, -,h⟩:=aa h;obtain ⟨b1, -,h⟩:=aa h;cases h
  ·cases h
  ·cases h
  cases h
 ·cases h
 ·cases h
 cases h
theorem Lt {N:Nat}(hN:6500<N){g:RG}(h:HB g):
  (mn N g.m_ (g.Si++g.Sq)≠0/\dP N g=some (mn N g.m_ (g.Si++g.Sq),g))\/
  ∃live f kv,CollCtx N g.m_ (g.Si++g.Sq) live f/\kv.map Prod.fst=jB (gh N g.m_ live f)/\
   dP N g=some (0,⟨gh N g.m_ live f,g.Si.map (cO (qg f) f),g.Sq.map (cO (qg f) f)++(ul g.m_ live f).map (cO (qg f) f),⟨kv⟩⟩):=by
 have hs:=h.small;have hrl:=hs.roots;have hsum:=h.four;have hcnt:=h.wtd.cnt;rw [RZ] at hrl hsum;obtain ⟨live,f,hl⟩:=Ln N hN hs h.w64 h.r64;have hp:=EH N hN hs h.wtd h.w64 h.r64 hl;have hm:=Nw N g.m_ (g.Si++g.Sq);rw [hp] at hm;unfold Kx at hm
 have head:dP N g=((cV N g.m_ (g.Si++g.Sq)).bind fun a1=>Au a1 (fun y11_0=>some (.inl (y11_0.1,y11_0.2.1,y11_0.2.2.1,y11_0.2.2.2))) (fun y11_1=>some (.inr (y11_1.1,y11_1.2.1,y11_1.2.2)))).bind fun a2=>(Au a2 (fun y27_0:Rp×RJ×RJ×Int=>dN N g y27_0.1.Se y27_0.1.Sc y27_0.2.1 y27_0.2.2.1 y27_0.2.2.2) (fun y27_1:Rp×RJ×RJ=>dM N g y27_1.1.Se y27_1.1.Sc y27_1.2.1 y27_1.2.2)).bind fun y9=>some (y9.1,y9.2):=by
  unfold dP gt lC aG;rw [bs,cf,sf N _ _ V V,bs,Option.bind_assoc]
 by_cases h0: ¬mn N g.m_ (g.Si++g.Sq)=0
 ·rw [gu h0,cond_false] at hm;refine .inl ⟨h0,?_⟩;rw [head]
  cases hc:cV N g.m_ (g.Si++g.Sq) with
  |none=>rw [hc] at hm;cases hm
  | some y=>
   rw [hc] at hm;have e:=congrArg (fun z:Rp×RJ×RJ×Int=>z.2.2.2) (Option.some.inj hm)
   cases y with
   |inl y=>
    obtain ⟨y1,y2,y3,y4⟩:=y;have e':mn N g.m_ (g.Si++g.Sq)=y4:=e;rw [bs]
    dsimp only [Au]
    rw [bs]
    dsimp only
    unfold dN;rw [<-e',gu h0,nf,ct,bs]
   |inr y=>exact absurd e h0
 replace h0:mn N g.m_ (g.Si++g.Sq)=0:=by omega
 rw [og h0,cond_true] at hm;have c:=NH hN hs h.wtd h.w64 h.r64 hl h0;have h4:=c.next4;have hnc:=c.nextCnt;have h0n:(gh N g.m_ live f).Se.length=0:=rfl;obtain ⟨kv,k1,k2⟩:=Bl N hN (m:=gh N g.m_ live f) (c.nextS [] (by simp));have k1':cL N g.So (⟨(gh N g.m_ live f).Se,(gh N g.m_ live f).Sc⟩:Rp)=some ⟨kv⟩:=k1;have hg:((ul g.m_ live f).map (cO (qg f) f)).length=(ul g.m_ live f).length:=R1 _;refine .inr ⟨live,f,kv,c,k2,?_⟩;rw [head]
 cases hc:cV N g.m_ (g.Si++g.Sq) with
 |none=>rw [hc] at hm;cases hm
 | some y=>
  rw [hc] at hm;have e:=Option.some.inj hm
  cases y with
  |inl y=>exact (GC (by rw [CA N hN hs h.wtd h.w64 h.r64,h0]) hc).elim
  |inr y=>
   obtain ⟨y1,y2,y3⟩:=y;simp only [PL,Prod.mk.injEq,and_true] at e;obtain ⟨rfl,rfl,rfl⟩:=e;rw [bs]
   dsimp only [Au]
   rw [bs]
   dsimp only
   unfold dM fO;unfold FT
   dsimp only
   rw [Hl (N:=N) (cO (qg f) f) g.Si g.Sq _ _ V (by unfold ul at hg;rw [hg];unfold ul at h4;omega)];have k2':cL N g.So (⟨[],f.map fun a=>ki (qg f) f (kS N live (bq g.m_ a))⟩:Rp)=some ⟨kv⟩:=k1;rw [k2',bs,bs];rfl
end
section
open Go.RowKit
theorem Ir (N:Nat)(a b:Int):t7 N a b=some (decide (a<b)):=by
 unfold t7 sg;rw [bs,og rfl,Bool.not_true,cond_false,bs,cond_false,bs]
theorem JI {a b:Int}(h0:0<=a)(h1:a<b)(h2:b<=100000):IntKind.i64.wrap ((IntKind.u64.wrap (a+b)).fdiv (2 ^ 1))=(a+b) / 2:=by
 rw [IntWalk.u64_in _ ⟨by omega,by omega⟩,Int.fdiv_eq_ediv_of_nonneg _ V,show (2:Int) ^ 1=2 from rfl,IntWalk.i64_in _ ⟨by omega,by omega⟩]
theorem EK (N:Nat)(hN:6500<N)(l:List Int)(x:Int)(hl:l.length<=1000)(ha:l.Pairwise (· < ·)):Sat (ii N l x) fun r=>r.2=decide (x∈l):=by
 unfold ii;have hg:=List.pairwise_iff_getElem.1 ha;refine nU (fun m (s:Int×Int)=>dk N x l m s.1 s.2) (fun s=>(s.2 - s.1).toNat) (fun s=>0<=s.1/\s.1<=s.2/\s.2<=l.length/\(∀(j:Nat) (hj:j<l.length),(j:Int)<s.1->l[j]<x)/\(∀(j:Nat) (hj:j<l.length),s.2<=(j:Int)->x<=l[j])) _ ?_ N (0,(l.length:Int)) (by show ((l.length:Int) - 0).toNat<N;omega) ⟨by omega,by show (0:Int)<=l.length;omega,by show (l.length:Int)<=l.length;omega,fun j hj h=>by have:(j:Int)<0:=h;omega,fun j hj h=>by have:(l.length:Int)<=j:=h;omega⟩;rintro m ⟨a,b⟩ ⟨h0,h1,h2,h3,h4⟩ k
 dsimp only at h0 h1 h2 h3 h4
 show Sat (dk N x l (m+1) a b) _;rw [dk.eq_2]
 refine dB (fun hab=> ?_) fun hab=> ?_
 ·have hm:((a+b) / 2).toNat<l.length:=by omega
  rw [r64 V V,JI h0 hab V,Eu V hm,bs,Ir,bs]
  refine dB (fun hlt=> ?_) fun hlt=> ?_
  ·rw [r64 V V];refine k ((a+b) / 2+1,b) (by show (b - ((a+b) / 2+1)).toNat<(b - a).toNat;omega) ⟨by show 0<=(a+b) / 2+1;omega,by show (a+b) / 2+1<=b;omega,h2,fun j hj h=> ?_,h4⟩;have h:(j:Int)<(a+b) / 2+1:=h;rcases Nat.lt_or_ge j ((a+b) / 2).toNat with h5|h5
   ·have:=hg j _ hj hm h5;omega
   have e:j=((a+b) / 2).toNat:=by omega
   subst e;exact hlt
  refine k (a,(a+b) / 2) (by show ((a+b) / 2 - a).toNat<(b - a).toNat;omega) ⟨h0,by show a<=(a+b) / 2;omega,by show (a+b) / 2<=l.length;omega,h3,fun j hj h=> ?_⟩;have h:(a+b) / 2<=(j:Int):=h;rcases Nat.lt_or_ge ((a+b) / 2).toNat j with h5|h5
  ·have:=hg _ j hm hj h5;omega
  have e:j=((a+b) / 2).toNat:=by omega
  subst e;omega
 obtain rfl:a=b:=by omega
 unfold jW nz;by_cases hlt:a<l.length
 ·have ht:a.toNat<l.length:=by omega
  rw [cn hlt,cond_true,Eu h0 ht,bs];by_cases he:l[a.toNat]=x
  ·rw [og he,cond_true,bs,bs];exact av (Eq.symm (RM (he▸R5 ht)))
  rw [gu he,cond_false,bs,bs,og rfl,Bool.not_true,cond_false,bs,bs,bs];refine av (Eq.symm (RN fun hx=> ?_));obtain ⟨j,hj,rfl⟩:=List.mem_iff_getElem.1 hx;rcases Nat.lt_trichotomy j a.toNat with h5|h5|h5
  ·have:=h3 j hj V;omega
  ·subst h5;exact he J
  have h6:=hg _ _ ht hj h5;have:=h4 a.toNat ht V;omega
 rw [cu V,cond_false,bs];refine av (Eq.symm (RN fun hx=> ?_));obtain ⟨j,hj,rfl⟩:=List.mem_iff_getElem.1 hx;have:=h3 j hj V;omega
theorem Jw (m:Rp)(l:List Int):r7 m l=(List.range m.Sc.length).all fun i=> !lW m i||decide ((2*(i:Int)+2)∈l):=rfl
theorem H4 (n:Nat)(p:Nat->Bool):(List.range n).all p=true↔ ∀i,i<n->p i=true:=by
 rw [List.all_eq_true];exact ⟨fun h i hi=>h i (List.mem_range.2 hi),fun h i hi=>h i (List.mem_range.1 hi)⟩
theorem CO {N:Nat}(hN:6500<N){m:Rp}{roots:List Ry}(hs:Small m roots){l:List Int}(ha:l.Pairwise (· < ·))(hf: ∀x∈l, ∃i:Nat,i<m.Sc.length/\x=2*(i:Int)+2)(hl:l.length<=1000):nE N m l=some (r7 m l):=by
 have ho:=hs.old
 have second:gF N m l N 0=some (r7 m l):=by
  rw [Jw]
  have key: ∀k i:Nat,m.Sc.length<k+i->i<=m.Sc.length->Sat (gF N m l k (i:Int)) fun b=>b=true↔ ∀j,i<=j->j<m.Sc.length->(!lW m j||decide ((2*(j:Int)+2)∈l))=true:=by
   intro k
   induction k with
   |zero=>intro i h1 h2;omega
   | succ k ih=>
    intro i h1 h2;rw [gF.eq_2];by_cases hi:i<m.Sc.length
    ·have h3:=ih (i+1) V hi;rw [show (((i+1:Nat)):Int)=(i:Int)+1 by omega] at h3;have hc:=hs.cells _ (RR m.Se (R5 hi))
     have e:(bT m.Sc[i]).any yB=lW m i:=by unfold lW;rw [ns m i hi]
     obtain ⟨r,e1,e2⟩:=EK N hN l (2*(i:Int)+2) hl ha;rw [cn V,ct,aK hi,bs,r64 V V,r64 V V,e1,bs,e2,sq N hN _ hc.1 hc.2,e]
     have e3:((bif !decide (2*(i:Int)+2∈l) then (some (lW m i)).bind fun a1=>some a1 else some false):Option Bool)=some (!(!lW m i||decide (2*(i:Int)+2∈l))):=by
      cases decide (2*(i:Int)+2∈l)<;>cases lW m i<;>rfl
     rw [e3,bs]
     cases hb:!lW m i||decide (2*(i:Int)+2∈l) with
     |false=>
      rw [nf,ct];refine av ⟨fun h=>(by cases h),fun h=> ?_⟩;have:=h i (Nat.le_refl _) hi;rw [hb] at this;cases this
     |true=>
      rw [nt,cf,r64 V V]
      refine h3.mono fun b h=>h.trans ⟨fun h j h1 h2=> ?_,fun h j h1 h2=>h j V h2⟩
      rcases Nat.lt_or_ge i j with h4|h4
      ·exact h j V h2
      obtain rfl:j=i:=by omega
      exact hb
    rw [cu V,cf];exact av ⟨fun _ j h1 h2=>by omega,fun _=>rfl⟩
  obtain ⟨b,e1,e2⟩:=key N 0 V V;have e1':gF N m l N 0=some b:=e1;rw [e1']
  congr 1
  rw [Bool.eq_iff_iff,e2,H4];exact ⟨fun h i hi=>h i (Nat.zero_le _) hi,fun h i _ hi=>h i hi⟩
 have hg:=List.pairwise_iff_getElem.1 ha;unfold nE
 have key: ∀k i:Nat,l.length<k+i->i<=l.length->mK N l m k (i:Int)=some (r7 m l):=by
  intro k
  induction k with
  |zero=>intro i h1 h2;omega
  | succ k ih=>
   intro i h1 h2;rw [mK.eq_2];by_cases hi:i<l.length
   ·have h3:=ih (i+1) V hi;rw [show (((i+1:Nat)):Int)=(i:Int)+1 by omega] at h3;obtain ⟨j,hj,ej⟩:=hf _ (R5 hi)
    have ep:((bif decide (0<(i:Int)) then (bn (in64 ((i:Int) - 1)) ((au l ((i:Int) - 1)).bind fun a2=>some (decide (l[i]<=a2)))) else (some false)).bind fun a6=>some a6)=some false:=by
     by_cases h0:0<i
     ·have e1:(i:Int) - 1=((i - 1:Nat):Int):=by omega
      have:=hg (i - 1) i V hi V;rw [cn V,ct,r64 V V,e1,aK V,bs,bs,RN V]
     rw [cu V,cf,bs]
    unfold lK;rw [cn V,ct,aK hi,bs,ep,ej,cn V,ct,pQ V,og V,bs,bs,nt,cf,r64 (by rw [Int.tdiv_eq_ediv_of_nonneg V];omega) (by rw [Int.tdiv_eq_ediv_of_nonneg V];omega),bs,Int.tdiv_eq_ediv_of_nonneg V,cu V,cf,bs,cf,r64 V V];exact h3
   rw [cu V,cf];exact second
 exact key N 0 V V
theorem CC (m:Rp): ∀l:List Ry,l.any (fun v=>ba v&& !aD m v.N)=!da m (bH l)
 | []=>rfl
 |v::l=>by
  have ih:=CC m l;unfold da bH at ih⊢;rw [List.any_cons,ih,List.filter_cons]
  cases hb:ba v with
  |false=>rw [if_neg (by simp)];rfl
  |true=>rw [if_pos rfl,List.map_cons,List.all_cons];cases aD m v.N<;>rfl
def Es (g:RG):Int:=bif !da g.m_ (bH (g.Si++g.Sq)) then 50 else bif !((g.m_.Se++g.m_.Sc).all fun c=>da g.m_ (bT c)) then 50 else bif r7 g.m_ (fc g.So.at_) then 0 else 6
theorem Iq {N:Nat}(hN:6500<N){g:RG}(h:HB g){c:Rk}(hc:c∈g.m_.Se++g.m_.Sc):lQ N g c=some (!da g.m_ (bT c)):=by
 have hs:=h.small.cells c hc;have h1:=kk c;have h2:=ni c;unfold lQ;rw [nb N V c V V,bs,rM N V c V V,bs,Ak N _ _ V V,bs,yR N _ (fun x=> !aD g.m_ x) _ (by rw [RZ];omega) (by rw [RZ];omega) (fun x hx=> ?_),bs,AS]
 ·rfl
 obtain ⟨v,hv, -,rfl⟩:=te (c:=c) hx;unfold mi;rw [Ht N g (h.w64 c hc v hv),bs]
theorem Lu {N:Nat}(hN:6500<N){g:RG}(h:HB g):dQ N g=some (Es g):=by
 have hs:=h.small;have hrl:=hs.roots;have hcnt:=h.wtd.cnt;have hrl':=hrl;rw [RZ] at hrl'
 have hj: ∀b,gj N g b=some (bif b then 50 else bif r7 g.m_ (fc g.So.at_) then 0 else 6):=fun b=>by
  unfold gj;rw [Cc h N,bs,CO hN hs (l:=fc g.So.at_) (zd h.nd) (fun x hx=>h.keys x ((oz _ x).1 hx)) (by have:=h.kslen;omega),bs];cases b<;>cases r7 g.m_ (fc g.So.at_)<;>rfl
 have ha: ∀v∈g.Si++g.Sq,ko N g v=some (ba v&& !aD g.m_ v.N):=fun v hv=>by
  unfold ko
  have e:((bif decide (v.Sa=7) then (some true) else (some (decide (v.Sa=9)))):Option Bool)=some (ba v):=by
   unfold ba;cases decide (v.Sa=7)<;>rfl
  rw [e,bs,Ht N g (h.r64 v hv),bs];cases ba v<;>rfl
 have hcells:dc N (g.m_.Se++g.m_.Sc) g=some (!(g.m_.Se++g.m_.Sc).all fun c=>da g.m_ (bT c)):=by
  have key: ∀k i:Nat,(g.m_.Se++g.m_.Sc).length<k+i->i<=(g.m_.Se++g.m_.Sc).length->Sat (cE N (g.m_.Se++g.m_.Sc) g k (i:Int)) fun r=>decide (0<=r)=!((g.m_.Se++g.m_.Sc).drop i).all fun c=>da g.m_ (bT c):=by
   intro k
   induction k with
   |zero=>intro i h1 h2;omega
   | succ k ih=>
    intro i h1 h2
    have hl:(g.m_.Se++g.m_.Sc).length<=600:=by rw [RZ];omega
    rw [cE.eq_2];by_cases hi:i<(g.m_.Se++g.m_.Sc).length
    ·have h3:=ih (i+1) V hi;rw [show (((i+1:Nat)):Int)=(i:Int)+1 by omega] at h3;rw [cn V,ct,aK hi,bs,List.drop_eq_getElem_cons hi,List.all_cons,Iq hN h (R5 hi),bs,r64 V V];cases da g.m_ (bT (g.m_.Se++g.m_.Sc)[i])
     ·exact av (by rw [RM V];rfl)
     exact h3
    rw [cu V,cf,List.drop_eq_nil_of_le V];exact av J
  obtain ⟨r,h1,h2⟩:=key N 0 (by rw [RZ];omega) V;have h1':cE N (g.m_.Se++g.m_.Sc) g N 0=some r:=h1;unfold dc fZ;rw [h1',bs,h2,List.drop_zero]
 unfold dQ aG Es;rw [bs,cf,sf N _ _ V V,bs,HL N _ _ _ V V ha,bs,CC,yM N _ _ V V,bs,hcells,bs,hj,hj]
 cases da g.m_ (bH (g.Si++g.Sq))<;>cases (g.m_.Se++g.m_.Sc).all fun c=>da g.m_ (bT c)<;>rfl
theorem DQ {f:List Int}{a b:List Ry}(h:iw f (a++b)):iw f a:=fun v hv hb=>h v (RQ _ hv) hb
theorem Hc {lv:List Int}{c:Rk}(h:c.Sa≠10):gP lv c=[]:=by
 unfold gP;rw [RN h];rfl
theorem EI {N:Nat}{lv:List Int}{c:Rk}(h8:c.Sa≠8)(h10:c.Sa≠10):kS N lv c=c:=by
 unfold kS;rw [RN h8,RN h10];rfl
theorem Oa {m:Rp}{kv:List (Int×Bool)}(h:kv.map Prod.fst=jB m):fc kv=jB m:=by
 have e:fc kv=jc (kv.map Prod.fst):=rfl;rw [e,h]
 exact Bf ((yt m).imp fun hab e=>by omega) (yt m) fun x=>Iff.rfl
structure Pl (g:RG):Prop where
 hb:HB g
 pend:g.Sq=[]
 cells: ∀c∈g.m_.Se++g.m_.Sc,bu c=true/\(∀x∈bT c,aD g.m_ x=true)/\c.Sa≠8/\c.Sa≠10
 roots: ∀x∈bH g.Si,aD g.m_ x=true
 set:fc g.So.at_=jB g.m_
structure Mv (g g':RG) (ρ:Int->Int) (f:List Int):Prop where
 roots:g'.Si=g.Si.map (cO ρ f)
 pend:g'.Sq=[]
 at_: ∀a∈f,aD g'.m_ (ρ a)=true/\ ∃age,bq g'.m_ (ρ a)=xn (ki ρ f (bq g.m_ a)) age
 rin:iw f g.Si
 has: ∀a∈f,aD g.m_ a=true
 cells: ∀c∈g'.m_.Se++g'.m_.Sc,(∃a∈f, ∃age,c=xn (ki ρ f (bq g.m_ a)) age)/\bu c=true/\ ∀x∈bT c,aD g'.m_ x=true
 cnt:g'.m_.Se.length+g'.m_.Sc.length<=g.m_.Se.length+g.m_.Sc.length
 sum:mS g'.m_.Se+mS g'.m_.Sc<=mS g.m_.Se+mS g.m_.Sc
 wts:wt g'.m_.Se+wt g'.m_.Sc<=wt g.m_.Se+wt g.m_.Sc
 w64:W64 g'.m_
 r64: ∀v∈g'.Si,in64 v.N
 set:g'.So.at_.map Prod.fst=jB g'.m_
 inj: ∀a∈f, ∀b∈f,ρ a=ρ b->a=b
 cin: ∀a∈f,iw f (bq g.m_ a).Sg/\iw f (bq g.m_ a).Sd
theorem Pl.check {N:Nat}(hN:6500<N){g:RG}(h:Pl g):mn N g.m_ (g.Si++g.Sq)=0:=by
 unfold mn
 have e1:(g.m_.Se++g.m_.Sc).all (pD N)=true:=by
  rw [List.all_eq_true];intro c hc;have:=h.hb.small.cells c hc;rw [E9 V V V];exact (h.cells c hc).1
 have e2:da g.m_ ((g.m_.Se++g.m_.Sc).flatMap bT++bH (g.Si++g.Sq))=true:=by
  unfold da;rw [List.all_eq_true];intro x hx;rcases List.mem_append.1 hx with hx|hx
  ·obtain ⟨c,hc,hx⟩:=List.mem_flatMap.1 hx;exact (h.cells c hc).2.1 x hx
  rw [h.pend,List.append_nil] at hx;exact h.roots x hx
 rw [e1,e2];rfl
theorem Pl.may {N:Nat}(hN:6500<N){g:RG}(h:Pl g):BP N g.m_ (g.Si++g.Sq) (fc g.So.at_)=true:=by
 rw [h.set,Io,h.pend,List.append_nil];unfold Cj zc da;rw [R3,List.all_eq_true,List.all_eq_true];refine ⟨fun x hx=>h.roots x hx,fun c hc=> ?_⟩;have:=h.hb.small.cells c hc;have ha:=(h.cells c hc).2.1;unfold yA;rw [oD N V c V V,(h.cells c hc).1];show (true&&_)=true;rw [Bool.true_and,R3];unfold da;rw [List.all_eq_true,List.all_eq_true];exact ⟨fun x hx=>ha x (RQ _ hx),fun x hx=>ha x (RR _ hx)⟩
theorem Er {g:RG}(h1: ∀x∈bH (g.Si++g.Sq),aD g.m_ x=true)(h2: ∀c∈g.m_.Se++g.m_.Sc, ∀x∈bT c,aD g.m_ x=true)(h3:fc g.So.at_=jB g.m_):Es g=0:=by
 have e1:da g.m_ (bH (g.Si++g.Sq))=true:=List.all_eq_true.2 h1
 have e2:((g.m_.Se++g.m_.Sc).all fun c=>da g.m_ (bT c))=true:=List.all_eq_true.2 fun c hc=>List.all_eq_true.2 (h2 c hc)
 unfold Es;rw [e1,e2,h3,Hk];rfl
theorem Pl.ok {g:RG}(h:Pl g){N:Nat}(hN:6500<N):dQ N g=some 0:=by
 rw [Lu hN h.hb,Er (fun x hx=> ?_) (fun c hc=>(h.cells c hc).2.1) h.set];rw [h.pend,List.append_nil] at hx;exact h.roots x hx
theorem JH {N:Nat}(hN:6500<N){g:RG}(h:Pl g): ∃g' ρ f,dO N g=some (0,g')/\Mv g g' ρ f:=by
 have hcnt:=h.hb.wtd.cnt;rcases Ls hN h.hb with ⟨hm, -⟩|⟨met,kv,c,k2,e⟩
 ·rw [h.may hN] at hm;cases hm
 have ef:cO (ip g.m_ met) met=cO (ip g.m_ met) (gZ g.m_ met):=funext fun v=>(BM v).symm
 have hin:iw (gZ g.m_ met) g.Si:=DQ c.rootIn
 have hk: ∀a∈gZ g.m_ met,(bq g.m_ a).Sa≠8/\(bq g.m_ a).Sa≠10:=fun a ha=>(h.cells _ (eo (c.f1has ha))).2.2
 have hg:vl g.m_ met=[]:=by
  unfold vl;rw [List.flatMap_eq_nil_iff]
  exact fun a ha=>Hc (hk a ha).2
 have hp:g.Sq.map (cO (ip g.m_ met) met)++(vl g.m_ met).map (cO (ip g.m_ met) met)=[]:=by rw [hg,h.pend];rfl
 rw [hp] at e
 have hc: ∀a∈gZ g.m_ met, ∃age,px N g.m_ met a=xn (ki (ip g.m_ met) (gZ g.m_ met) (bq g.m_ a)) age:=fun a ha=>⟨_,by
  unfold px
  rw [c.nCE a,EI (hk a ha).1 (hk a ha).2]⟩
 have h4:=c.mid4;rw [hg,List.length_nil] at h4;refine ⟨_,ip g.m_ met,gZ g.m_ met,e,⟨by rw [<-ef],rfl,fun a ha=> ?_,hin,fun a ha=>c.f1has ha,fun d hd=> ?_,c.midCnt,by show mS (na N g.m_ met).Se+mS (na N g.m_ met).Sc<=_;omega,c.midWt,c.midW,fun v hv=> ?_,k2,fun a ha b hb=>c.ren.inj a b ha hb,fun a ha=> ?_⟩⟩
 ·obtain ⟨h1,h2⟩:=c.at_ ha;obtain ⟨age,h3⟩:=hc a ha;exact ⟨h1,age,h2.trans h3⟩
 ·obtain ⟨a,ha,rfl⟩:=c.midMem hd;obtain ⟨h1,h2⟩:=c.midAddr hd;exact ⟨⟨a,ha,hc a ha⟩,h1,h2⟩
 ·have hv':v∈g.Si.map (cO (ip g.m_ met) met):=hv;rw [ef] at hv';exact c.now64 v (by rw [List.map_append];exact RQ _ hv')
 have:=(c.cell ha).inC;rw [EI (hk a ha).1 (hk a ha).2] at this;exact this
theorem JO {N:Nat}(hN:6500<N){g:RG}(h:Pl g): ∃g' ρ f,dP N g=some (0,g')/\Mv g g' ρ f:=by
 rcases Lt hN h.hb with ⟨hm, -⟩|⟨live,f,kv,c,k2,e⟩
 ·exact absurd (h.check hN) hm
 have hin:iw f g.Si:=DQ c.rootIn
 have hk: ∀a∈f,(bq g.m_ a).Sa≠8/\(bq g.m_ a).Sa≠10:=fun a ha=>(h.cells _ (eo (c.lv.fhas ha))).2.2
 have hg:ul g.m_ live f=[]:=by
  unfold ul;rw [List.flatMap_eq_nil_iff]
  exact fun a ha=>Hc (hk a ha).2
 have hp:g.Sq.map (cO (qg f) f)++(ul g.m_ live f).map (cO (qg f) f)=[]:=by rw [hg,h.pend];rfl
 rw [hp] at e;have h4:=c.next4;have ht:=c.nextTot;have hnc:=c.nextCnt;rw [hg,List.length_nil] at h4;rw [hg,List.map_nil,List.append_nil,R1] at ht;have h0n:(gh N g.m_ live f).Se.length=0:=rfl
 have hc: ∀a∈f,ki (qg f) f (kS N live (bq g.m_ a))=xn (ki (qg f) f (bq g.m_ a)) (bq g.m_ a).Sn:=fun a ha=>by
  rw [EI (hk a ha).1 (hk a ha).2];rfl
 refine ⟨_,qg f,f,e,⟨J,J,fun a ha=> ?_,hin,fun a ha=>c.lv.fhas ha,fun d hd=> ?_,by show (gh N g.m_ live f).Se.length+(gh N g.m_ live f).Sc.length<=_;omega,by show mS (gh N g.m_ live f).Se+mS (gh N g.m_ live f).Sc<=_;omega,by show wt (gh N g.m_ live f).Se+wt (gh N g.m_ live f).Sc<=_;omega,c.nextW,fun v hv=> ?_,k2,fun _ ha _ hb=>He ha hb,fun a ha=> ?_⟩⟩
 ·exact ⟨Fh ha,_,(Lg ha).trans (hc a ha)⟩
 ·have hd':d∈f.map fun a=>ki (qg f) f (kS N live (bq g.m_ a)):=hd
  obtain ⟨h1,h2⟩:=c.nextAddr hd';obtain ⟨a,ha,rfl⟩:=List.mem_map.1 hd';exact ⟨⟨a,ha,_,hc a ha⟩,h1,h2⟩
 ·exact c.now64 v (by rw [List.map_append];exact RQ _ hv)
 have:=(c.cell ha).inC;rw [EI (hk a ha).1 (hk a ha).2] at this;exact this
theorem Mv.pl {g g':RG}{ρ:Int->Int}{f:List Int}(m:Mv g g' ρ f)(h:Pl g):Pl g':=by
 obtain ⟨n1,n2⟩:=Fs m.set;have hs:=h.hb.small;have hw:=h.hb.wtd
 have hl:g'.Si.length=g.Si.length:=by rw [m.roots,R1]
 have hrl:=hs.roots;have hle:=hw.le;have hf:=h.hb.four;have ht:=h.hb.tot;have hwc:=hw.cnt;have hc:=m.cnt;have hwt:=m.wts;have hsum:=m.sum;rw [BS] at ht;rw [h.pend,List.append_nil] at hrl hle hf
 have hsz: ∀c∈g'.m_.Se++g'.m_.Sc,c.Sg.length<=600/\c.Sd.length<=600:=fun c hc=>by
  obtain ⟨⟨a,ha,age,rfl⟩, -⟩:=m.cells c hc;have:=hs.cells _ (eo (m.has a ha));show ((bq g.m_ a).Sg.map _).length<=600/\((bq g.m_ a).Sd.map _).length<=600;rw [R1,R1];exact this
 refine ⟨⟨⟨by omega,by omega,?_,hsz⟩,⟨?_,by omega⟩,?_,?_,m.w64,?_,n1,n2⟩,m.pend,fun c hc=> ?_,fun x hx=> ?_,Oa m.set⟩
 ·rw [m.pend,List.append_nil];omega
 ·rw [m.pend,List.append_nil];omega
 ·rw [BS];omega
 ·rw [m.pend,List.append_nil];omega
 ·rw [m.pend,List.append_nil];exact m.r64
 ·obtain ⟨⟨a,ha,age,rfl⟩,h1,h2⟩:=m.cells c hc;exact ⟨h1,h2,(h.cells _ (eo (m.has a ha))).2.2⟩
 obtain ⟨v,hv,hb,rfl⟩:=kN.1 hx;rw [m.roots] at hv;obtain ⟨w,hw,rfl⟩:=List.mem_map.1 hv;rw [AM] at hb;rw [zp hb (m.rin w hw hb)];exact (m.at_ _ (m.rin w hw hb)).1
def MX (S:List Int)(c:Rk):List Ry:=bif decide (c.Sa=8) then ib (fun x=>decide (x∈S)) c.Sd else c.Sd
structure IsoC (ρ:Int->Int) (S:List Int) (c d:Rk):Prop where
 kind:d.Sa=c.Sa
 shape:d.Sk=c.Sk
 flags:d.Sj=c.Sj
 slots:d.Sg=c.Sg.map (cO ρ S)
 more:MX (S.map ρ) d=(MX S c).map (cO ρ S)
 inS:iw S c.Sg
 inM:iw S (MX S c)
structure TVal (m:Rp) (R:List Ry):Prop where
 right: ∀c∈m.Se++m.Sc,bu c=true
 kind: ∀c∈m.Se++m.Sc,c.Sa=8\/c.Sa=11
 addr: ∀c∈m.Se++m.Sc, ∀x∈bT c,aD m x=true
 size: ∀c∈m.Se++m.Sc,c.Sg.length<=20/\c.Sd.length<=20
 roots: ∀v∈R,v=kT\/(v.Sa=9/\v.S=⟨#[]⟩/\aD m v.N=true)
structure Iso (mA mB:Rp) (RA RB:List Ry) (S:List Int) (ρ:Int->Int):Prop where
 ren:Ren ρ S
 inA: ∀a∈S,aD mA a=true
 inB: ∀a∈S,aD mB (ρ a)=true
 cell: ∀a∈S,IsoC ρ S (bq mA a) (bq mB (ρ a))
 rootIn:iw S RA
 roots:RB=RA.map (cO ρ S)
section
variable {m:Rp} {R:List Ry} (h:TVal m R)
include h
end
section
variable {mA mB:Rp} {RA RB:List Ry} {S:List Int} {ρ:Int->Int} (h:Iso mA mB RA RB S ρ) (vA:TVal mA RA) (vB:TVal mB RB)
include h vA vB
end
end
section
open Go.RowKit
structure TInv (k:Nat) (g:RG):Prop where
 inv:HInv k g
 val:TVal g.m_ g.Si
 pend:g.Sq=[]
 set:fc g.So.at_=jB g.m_
def PP (l:List Ry)(i:Int):Ry:=bif decide ((l.length:Int)=0)||decide (i<0) then vZ else l.getD (i.tmod l.length).toNat vZ
def Rt (m:Rp)(v:Ry):Prop:=v=kT\/(v.Sa=9/\v.S=⟨#[]⟩/\aD m v.N=true)
def PY (a b:Ry):Rk:=⟨11,0,0,0,[],[a,b]⟩
def O4 (a b:Ry):Rk:=⟨8,0,1,0,[⟨1,0,⟨#[]⟩⟩],[⟨7,a.N,⟨#[]⟩⟩,b]⟩
def PR (c:Rk)(b:Ry):Rk:=⟨c.Sa,c.Sk,c.Sj,c.Sn,c.Sg,c.Sd++ [b]⟩
def PA (g:RG)(c:Rk):RG:=⟨⟨g.m_.Se++ [c],g.m_.Sc⟩,g.Si++ [⟨9,2*(g.m_.Se.length:Int)+1,⟨#[]⟩⟩],g.Sq,g.So⟩
def PT (g:RG)(a:Ry):Bool:=aD g.m_ a.N&&decide (a.Sa=9)&&decide ((bq g.m_ a.N).Sa=11)&&decide (((bq g.m_ a.N).Sd.length:Int)<6)
theorem F1 {m:Rp}(c:Rk):(∀x,aD m x=true->aD ⟨m.Se++ [c],m.Sc⟩ x=true/\bq ⟨m.Se++ [c],m.Sc⟩ x=bq m x)/\aD ⟨m.Se++ [c],m.Sc⟩ (2*(m.Se.length:Int)+1)=true/\bq ⟨m.Se++ [c],m.Sc⟩ (2*(m.Se.length:Int)+1)=c/\aD m (2*(m.Se.length:Int)+1)=false:=by
 refine ⟨fun x hx=> ?_,?_,?_,?_⟩
 ·rcases fj hx with ⟨i,hi,rfl⟩|⟨i,hi,rfl⟩
  ·have h2:i<(m.Se++ [c]).length:=by simp;omega
   exact ⟨by rw [tT];exact RM h2,by rw [qd ⟨m.Se++ [c],m.Sc⟩ i h2,qd m i hi];exact List.getElem_append_left hi⟩
  exact ⟨by rw [oL];exact RM hi,by rw [ns ⟨m.Se++ [c],m.Sc⟩ i hi,ns m i hi]⟩
 ·rw [tT];exact RM (by simp)
 ·rw [qd ⟨m.Se++ [c],m.Sc⟩ m.Se.length (by simp)];simp
 rw [tT];exact RN V
def sM (m:Rp)(a:Int)(c:Rk):Rp:=bif decide (a%2=1) then ⟨m.Se.set (a / 2).toNat c,m.Sc⟩ else ⟨m.Se,m.Sc.set (a / 2 - 1).toNat c⟩
theorem EN {m:Rp}{a:Int}(c:Rk)(h:aD m a=true):(∀x,aD (sM m a c) x=aD m x)/\(∀x,aD m x=true->bq (sM m a c) x=if x=a then c else bq m x)/\(sM m a c).Se.length=m.Se.length/\(sM m a c).Sc.length=m.Sc.length/\(∀d∈(sM m a c).Se++(sM m a c).Sc,d∈m.Se++m.Sc\/d=c)/\mS (sM m a c).Se+mS (sM m a c).Sc<=mS m.Se+mS m.Sc+c.Sd.length:=by
 have hhas: ∀m':Rp,m'.Se.length=m.Se.length->m'.Sc.length=m.Sc.length-> ∀x,aD m' x=aD m x:=fun m' h1 h2 x=>by
  rw [Bool.eq_iff_iff];constructor
  ·intro hx;rcases fj hx with ⟨i,hi,rfl⟩|⟨i,hi,rfl⟩
   ·rw [tT];exact RM V
   rw [oL];exact RM V
  intro hx;rcases fj hx with ⟨i,hi,rfl⟩|⟨i,hi,rfl⟩
  ·rw [tT];exact RM V
  rw [oL];exact RM V
 rcases fj h with ⟨j,hj,rfl⟩|⟨j,hj,rfl⟩
 ·have e:sM m (2*(j:Int)+1) c=⟨m.Se.set j c,m.Sc⟩:=by
   unfold sM;rw [RM V,cond_true,show ((2*(j:Int)+1) / 2).toNat=j by omega]
  rw [e];refine ⟨hhas _ (List.length_set ..) J,fun x hx=> ?_,List.length_set ..,J,fun d hd=> ?_,?_⟩
  ·rcases fj hx with ⟨i,hi,rfl⟩|⟨i,hi,rfl⟩
   ·rw [qd ⟨m.Se.set j c,m.Sc⟩ i (by simpa using hi),qd m i hi];simp only [List.getElem_set];by_cases hij:j=i
    ·rw [if_pos hij,if_pos V]
    rw [if_neg hij,if_neg V]
   rw [ns ⟨m.Se.set j c,m.Sc⟩ i hi,ns m i hi,if_neg V]
  ·rcases List.mem_append.1 hd with hd|hd
   ·rcases List.mem_or_eq_of_mem_set hd with hd|hd
    ·exact .inl (RQ _ hd)
    exact .inr hd
   exact .inl (RR _ hd)
  have:=Ba (fun c:Rk=>c.Sd.length) c m.Se j;unfold mS;simp only at this⊢;omega
 have e:sM m (2*(j:Int)+2) c=⟨m.Se,m.Sc.set j c⟩:=by
  unfold sM;rw [RN V,cond_false,show ((2*(j:Int)+2) / 2 - 1).toNat=j by omega]
 rw [e];refine ⟨hhas _ J (List.length_set ..),fun x hx=> ?_,J,List.length_set ..,fun d hd=> ?_,?_⟩
 ·rcases fj hx with ⟨i,hi,rfl⟩|⟨i,hi,rfl⟩
  ·rw [qd ⟨m.Se,m.Sc.set j c⟩ i hi,qd m i hi,if_neg V]
  rw [ns ⟨m.Se,m.Sc.set j c⟩ i (by simpa using hi),ns m i hi];simp only [List.getElem_set];by_cases hij:j=i
  ·rw [if_pos hij,if_pos V]
  rw [if_neg hij,if_neg V]
 ·rcases List.mem_append.1 hd with hd|hd
  ·exact .inl (RQ _ hd)
  rcases List.mem_or_eq_of_mem_set hd with hd|hd
  ·exact .inl (RR _ hd)
  exact .inr hd
 have:=Ba (fun c:Rk=>c.Sd.length) c m.Sc j;unfold mS;simp only at this⊢;omega
theorem qR (g:RG)(a:Int)(c:Rk):(kz g a c).m_=sM g.m_ a (xt c (bq g.m_ a).Sn)/\(kz g a c).Si=g.Si/\(kz g a c).Sq=g.Sq/\(kz g a c).So.at_=bif decide (a%2=1) then g.So.at_ else yh g.So.at_ a c:=by
 unfold kz sM;cases decide (a%2=1)<;>exact ⟨rfl,rfl,rfl,rfl⟩
theorem Gn {c:Rk}(h:bu c=true){a:Int}(h0:0<=a)(h1:a<=1):bu (xt c a)=true:=by
 unfold bu at h⊢;simp only [R3,Bool.not_eq_true',decide_eq_false_iff_not] at h⊢;obtain ⟨⟨⟨⟨⟨⟨⟨p1,p2⟩,p3⟩,p4⟩,p5⟩, -⟩, -⟩,h⟩:=h;exact ⟨⟨⟨⟨⟨⟨⟨p1,p2⟩,p3⟩,p4⟩,p5⟩,by show¬a<0;omega⟩,by show¬1<a;omega⟩,h⟩
theorem vV {c:Rk}(h:bu c=true):0<=c.Sn/\c.Sn<=1:=by
 unfold bu at h;simp only [R3,Bool.not_eq_true',decide_eq_false_iff_not] at h;omega
structure Bd (n:Nat) (g:RG):Prop where
 cnt:g.m_.Se.length+g.m_.Sc.length<=20+n
 rts:g.Si.length<=20+n
 cells: ∀c∈g.m_.Se++g.m_.Sc,c.Sg.length<=2/\c.Sd.length<=60
 sum:mS g.m_.Se+mS g.m_.Sc<=42*n
theorem Hu {n:Nat}(hn:n<=60){g:RG}(s:Bd n g)(hp:g.Sq=[])(w64:W64 g.m_)(r64: ∀v∈g.Si,in64 v.N)(n1:(g.So.at_.map Prod.fst).Nodup)(n2: ∀x∈g.So.at_.map Prod.fst, ∃i:Nat,i<g.m_.Sc.length/\x=2*(i:Int)+2):HB g:=by
 have h1:=s.cnt;have h2:=s.rts;have h0:=s.sum
 have hw: ∀l:List Rk,(∀c∈l,c∈g.m_.Se++g.m_.Sc)->wt l<=3*l.length+mS l:=fun l=>by
  rw [ti];unfold mS
  induction l with
  |nil=>intro _;simp [bQ]
  |cons c l ih=>
   intro hl
   have h3:=ih fun d hd=>hl d (List.mem_cons_of_mem _ hd)
   have h4:=(s.cells c (hl c (List.mem_cons_self ..))).1;rw [bQ,bQ,List.length_cons];unfold wC at h3⊢;omega
 have h3:=hw g.m_.Se fun c hc=>RQ _ hc
 have h4:=hw g.m_.Sc fun c hc=>RR _ hc
 have hl:(g.Si++g.Sq).length=g.Si.length:=by rw [hp,List.append_nil]
 exact ⟨⟨by omega,by omega,by omega,fun c hc=>by have:=s.cells c hc;omega⟩,⟨by omega,by omega⟩,by rw [BS];omega,by omega,w64,by rw [hp,List.append_nil];exact r64,n1,n2⟩
theorem Mv.bd {g g':RG}{ρ:Int->Int}{f:List Int}(m:Mv g g' ρ f){n:Nat}(h:Bd n g):Bd n g':=by
 refine ⟨Nat.le_trans m.cnt h.cnt,by rw [m.roots,R1];exact h.rts,fun c hc=> ?_,Nat.le_trans m.sum h.sum⟩;obtain ⟨⟨a,ha,age,rfl⟩, -⟩:=m.cells c hc;have:=h.cells _ (eo (m.has a ha));show ((bq g.m_ a).Sg.map _).length<=2/\((bq g.m_ a).Sd.map _).length<=60;rw [R1,R1];exact this
theorem Oe {N:Nat}(hN:6500<N){g:RG}(hs:Small g.m_ (g.Si++g.Sq)){a:Int}(hh:aD g.m_ a=true){c:Rk}(h1:c.Sg.length<=600/\c.Sd.length<=600):
  mR N g a c=some (bif !bu c then (51,g) else (0,kz g a c)):=by
 have hy:=hs.young;have ho:=hs.old;unfold mR aG;rw [bs,cf,Ht N g (tS hs hh),bs,Aj hN V,bs,hh]
 cases bu c with
 |false=>rfl
 | true=>
  rw [nt,cf,cf];unfold iW;rcases fj hh with ⟨i,hi,rfl⟩|⟨i,hi,rfl⟩
  ·have e1:(2*(i:Int)+1).tmod 2=1:=by rw [pQ V];omega
   have e2:(2*(i:Int)+1).tdiv 2=i:=by rw [Int.tdiv_eq_ediv_of_nonneg V];omega
   have e3:(2*(i:Int)+1) / 2=i:=by omega
   have e4:(2*(i:Int)+1)%2=1:=by omega
   unfold kz;rw [e1,e2,e3,e4,RM (p:=(1:Int)=1) rfl,RN (p:=(1:Int)=0) V,ct,ct,r64 V V,aK hi,bs,bs]
   dsimp only [Au]
   rw [aK hi,bs,oQ N c V,bs,cf,qd g.m_ i hi];unfold lh;rw [List.set_set];rfl
  have e1:(2*(i:Int)+2).tmod 2=0:=by rw [pQ V];omega
  have e2:(2*(i:Int)+2).tdiv 2=(i:Int)+1:=by rw [Int.tdiv_eq_ediv_of_nonneg V];omega
  have e3:(2*(i:Int)+2) / 2 - 1=i:=by omega
  have e4:(2*(i:Int)+2)%2=0:=by omega
  have e5:(i:Int)+1 - 1=i:=by omega
  obtain ⟨b,hb⟩:=Ih hN (c:=c) V g.So.at_ i;have hb':dC N g.So (2*(i:Int)+2) c=some (b,⟨yh g.So.at_ (2*(i:Int)+2) c⟩):=hb;unfold kz;rw [hb',e1,e2,e3,e4,e5,RN (p:=(0:Int)=1) V,RM (p:=(0:Int)=0) rfl,cf,cf,r64 V V,r64 V V,aK hi,bs,bs]
  dsimp only [Au]
  rw [aK hi,bs,oQ N c V,bs,ct,bs,ns g.m_ i hi];unfold lg;rw [List.set_set];rfl
theorem H9 {g:RG}(hs:fc g.So.at_=jB g.m_)(hnd:(g.So.at_.map Prod.fst).Nodup){a:Int}(ha:aD g.m_ a=true)(c:Rk)(nd:((kz g a c).So.at_.map Prod.fst).Nodup):fc (kz g a c).So.at_=jB (kz g a c).m_:=by
 obtain ⟨f1, -, -,f4⟩:=qR g a c;obtain ⟨s1,s2,s3,s4, -, -⟩:=EN (xt c (bq g.m_ a).Sn) ha;have e:fc (kz g a c).So.at_=jc ((kz g a c).So.at_.map Prod.fst):=rfl;rw [e]
 refine Bf nd (yt _) fun x=> ?_
 have hkv: ∀x,x∈g.So.at_.map Prod.fst↔x∈jB g.m_:=fun x=>by rw [<-hs];exact (oz _ x).symm
 have hold: ∀i,i<g.m_.Sc.length->lW (kz g a c).m_ i=if 2*(i:Int)+2=a then (bT c).any yB else lW g.m_ i:=fun i hi=>by
  unfold lW;rw [f1,s2 _ (by rw [oL];exact RM hi)];split<;>rfl
 rw [qu,f1,s4,f4, <-f1];rcases fj ha with ⟨j,hj,rfl⟩|⟨j,hj,rfl⟩
 ·rw [RM V,cond_true,hkv,qu];refine ⟨fun ⟨i,h1,h2,h3⟩=>⟨i,h1,by rw [hold i h1,if_neg V];exact h2,h3⟩,fun ⟨i,h1,h2,h3⟩=>⟨i,h1,by rw [hold i h1,if_neg V] at h2;exact h2,h3⟩⟩
 rw [RN V,cond_false,Dm hnd,hkv,qu];constructor
 ·rintro (⟨h1,⟨i,q1,q2,rfl⟩|rfl⟩|⟨h1,⟨i,q1,q2,rfl⟩,hne⟩)
  ·refine ⟨i,q1,?_,J⟩;rw [hold i q1];split
   ·exact h1
   exact q2
  ·exact ⟨j,hj,by rw [hold j hj,if_pos rfl];exact h1,rfl⟩
  exact ⟨i,q1,by rw [hold i q1,if_neg hne];exact q2,rfl⟩
 rintro ⟨i,q1,q2,rfl⟩;rw [hold i q1] at q2;by_cases hij:2*(i:Int)+2=2*(j:Int)+2
 ·rw [if_pos hij] at q2;exact .inl ⟨q2,.inr hij⟩
 rw [if_neg hij] at q2
 cases hb:(bT c).any yB with
 |true=>exact .inl ⟨rfl,.inl ⟨i,q1,q2,rfl⟩⟩
 |false=>exact .inr ⟨rfl,⟨i,q1,q2,rfl⟩,hij⟩
theorem Pl.put {n:Nat}(hn:n<=60){g:RG}(h:Pl g){a:Int}(ha:aD g.m_ a=true){c:Rk}(hr:bu c=true)(hk:c.Sa≠8/\c.Sa≠10)(hc: ∀v∈c.Sg++c.Sd,in64 v.N/\(ba v=true->aD g.m_ v.N=true))(b:Bd n (kz g a c)):
  Pl (kz g a c)/\(∀x,aD (kz g a c).m_ x=aD g.m_ x)/\(∀x,aD g.m_ x=true->bq (kz g a c).m_ x=if x=a then xt c (bq g.m_ a).Sn else bq g.m_ x):=by
 obtain ⟨f1,f2,f3,f4⟩:=qR g a c;obtain ⟨s1,s2,s3,s4,s5, -⟩:=EN (xt c (bq g.m_ a).Sn) ha;have hage:=vV (h.cells _ (eo ha)).1;have hr':bu (xt c (bq g.m_ a).Sn)=true:=Gn hr hage.1 hage.2
 have hhas: ∀x,aD (kz g a c).m_ x=aD g.m_ x:=fun x=>by rw [f1];exact s1 x
 have hmem: ∀d∈(kz g a c).m_.Se++(kz g a c).m_.Sc,d∈g.m_.Se++g.m_.Sc\/d=xt c (bq g.m_ a).Sn:=fun d hd=>by rw [f1] at hd;exact s5 d hd
 have nd:((kz g a c).So.at_.map Prod.fst).Nodup:=by
  rw [f4];cases decide (a%2=1)
  ·exact Jy h.hb.nd _ _
  exact h.hb.nd
 have keys: ∀x∈(kz g a c).So.at_.map Prod.fst, ∃i:Nat,i<(kz g a c).m_.Sc.length/\x=2*(i:Int)+2:=fun x hx=>by
  rw [f1,s4];rw [f4] at hx
  cases hd:decide (a%2=1) with
  |true=>rw [hd] at hx;exact h.hb.keys x hx
  | false=>
   rw [hd] at hx;rcases (Dm h.hb.nd _ _ x).1 hx with ⟨-,hx|rfl⟩|⟨-,hx, -⟩
   ·exact h.hb.keys x hx
   ·rcases fj ha with ⟨j,hj,rfl⟩|⟨j,hj,rfl⟩
    ·rw [RM V] at hd;cases hd
    exact ⟨j,hj,J⟩
   exact h.hb.keys x hx
 have hp:(kz g a c).Sq=[]:=f3.trans h.pend
 have w64:W64 (kz g a c).m_:=fun d hd=>by
  rcases hmem d hd with hd|rfl
  ·exact h.hb.w64 d hd
  exact fun v hv=>(hc v hv).1
 refine ⟨⟨Hu hn b hp w64 (fun v hv=> ?_) nd keys,hp,fun d hd=> ?_,fun x hx=> ?_,H9 h.set h.hb.nd ha c nd⟩,hhas,fun x hx=>by rw [f1];exact s2 x hx⟩
 ·rw [f2] at hv;exact h.hb.r64 v (RQ _ hv)
 ·rcases hmem d hd with hd|rfl
  ·exact ⟨(h.cells d hd).1,fun x hx=>(hhas x).trans ((h.cells d hd).2.1 x hx),(h.cells d hd).2.2⟩
  refine ⟨hr',fun x hx=> ?_,hk⟩;obtain ⟨v,hv,hb,rfl⟩:=te hx;exact (hhas _).trans ((hc v hv).2 hb)
 rw [f2] at hx;exact (hhas x).trans (h.roots x hx)
def pH (x:Int):Ry:=⟨3,x,⟨#[]⟩⟩
def JobAt (m:Rp)(q k:Int)(v:Ry)(l:List Int):Prop:= ∃a ag,v=⟨9,a,⟨#[]⟩⟩/\aD m a=true/\a≠q/\a≠k/\bq m a=⟨11,0,0,ag,[],l.map pH⟩
structure QK (g:RG) (jobs:List RL) (q k qa ka:Int) (Q K:List Ry):Prop where
 r18:g.Si[18]? =some ⟨9,q,⟨#[]⟩⟩
 r19:g.Si[19]? =some ⟨9,k,⟨#[]⟩⟩
 ne:q≠k
 hq:aD g.m_ q=true
 hk:aD g.m_ k=true
 aq:bq g.m_ q=⟨11,0,0,qa,[],Q⟩
 ak:bq g.m_ k=⟨11,0,0,ka,[],K⟩
 kv: ∀v∈K,ba v=false
 ql:Q.length=jobs.length
 job: ∀(i:Nat) (v:Ry) (l:List Int),Q[i]? =some v->jobs[i]? =some l->JobAt g.m_ q k v l
structure WH (n:Nat) (jobs:List RL) (g:RG):Prop where
 le:n<=60
 bd:Bd n g
 pl:Pl g
 rl:20<=g.Si.length
 intr: ∀j:Nat,j<18-> ∃a,g.Si[j]? =some (⟨7,a,⟨#[]⟩⟩:Ry)/\aD g.m_ a=true
 vals: ∀(j:Nat) (v:Ry),20<=j->g.Si[j]? =some v->ba v=false
 box: ∃q k qa ka Q K,K.length<=n/\QK g jobs q k qa ka Q K
 jl:jobs.length<=n
theorem IA {a:Int}:ba (⟨9,a,⟨#[]⟩⟩:Ry)=true:=rfl
theorem Lm (ρ:Int->Int)(f:List Int)(l:List Int):(l.map pH).map (cO ρ f)=l.map pH:=by
 rw [List.map_map]
 exact List.map_congr_left fun x _=>Hm J
theorem Mv.root {g g':RG}{ρ:Int->Int}{f:List Int}(m:Mv g g' ρ f){j:Nat}{a kd:Int}(h:g.Si[j]? =some ⟨kd,a,⟨#[]⟩⟩)(hb:kd=7\/kd=9):a∈f/\g'.Si[j]? =some ⟨kd,ρ a,⟨#[]⟩⟩:=by
 have hh:ba (⟨kd,a,⟨#[]⟩⟩:Ry)=true:=by rcases hb with rfl|rfl<;>rfl
 have hf:a∈f:=m.rin _ (List.mem_of_getElem? h) hh;refine ⟨hf,?_⟩;rw [m.roots,List.getElem?_map,h];show some (cO ρ f ⟨kd,a,⟨#[]⟩⟩)=_;rw [zp hh hf]
theorem WH.mv {n:Nat}{jobs:List RL}{g g':RG}(h:WH n jobs g){ρ:Int->Int}{f:List Int}(m:Mv g g' ρ f):WH n jobs g':=by
 refine ⟨h.le,m.bd h.bd,m.pl h.pl,by rw [m.roots,R1];exact h.rl,fun j hj=> ?_,fun j v hj hv=> ?_,?_,h.jl⟩
 ·obtain ⟨a,h1,h2⟩:=h.intr j hj;obtain ⟨hf,h3⟩:=m.root h1 (.inl rfl);exact ⟨ρ a,h3,(m.at_ a hf).1⟩
 ·rw [m.roots,List.getElem?_map] at hv
  cases hr:g.Si[j]? with
  |none=>rw [hr] at hv;cases hv
  |some w=>
   rw [hr] at hv;cases hv;rw [AM];exact h.vals j w hj hr
 obtain ⟨q,k,qa,ka,Q,K,kl,b⟩:=h.box;obtain ⟨fq,r1⟩:=m.root b.r18 (.inr rfl);obtain ⟨fk,r2⟩:=m.root b.r19 (.inr rfl);obtain ⟨hq,qa',aq⟩:=m.at_ q fq;obtain ⟨hk,ka',ak⟩:=m.at_ k fk
 have hK:K.map (cO ρ f)=K:=by
  have:K.map (cO ρ f)=K.map id:=List.map_congr_left fun v hv=>Hm (b.kv v hv)
  rw [this,List.map_id]
 refine ⟨ρ q,ρ k,qa',ka',Q.map (cO ρ f),K,kl,r1,r2,fun e=>b.ne (m.inj q fq k fk e),hq,hk,?_,?_,b.kv,by rw [R1];exact b.ql,fun i v l hi hl=> ?_⟩
 ·rw [aq,b.aq];rfl
 ·rw [ak,b.ak];show (⟨11,0,0,ka',[],K.map (cO ρ f)⟩:Rk)=_;rw [hK]
 rw [List.getElem?_map] at hi
 cases hQ:Q[i]? with
 |none=>rw [hQ] at hi;cases hi
 | some w=>
  rw [hQ] at hi;cases hi;obtain ⟨a,ag,rfl,h2,h3,h4,h5⟩:=b.job i w l hQ hl
  have fa:a∈f:=by
   have:=(m.cin q fq).2;rw [b.aq] at this;exact this _ (List.mem_of_getElem? hQ) J
  obtain ⟨ha,ag',e⟩:=m.at_ a fa;refine ⟨ρ a,ag',zp J fa,ha,fun e=>h3 (m.inj a fa q fq e),fun e=>h4 (m.inj a fa k fk e),?_⟩;rw [e,h5];show (⟨11,0,0,ag',[],(l.map pH).map (cO ρ f)⟩:Rk)=_;rw [Lm]
theorem WH.up {n:Nat}{jobs:List RL}{g:RG}(h:WH n jobs g)(hn:n<60):WH (n+1) jobs g:=by
 have b:=h.bd;exact ⟨hn,⟨by have:=b.cnt;omega,by have:=b.rts;omega,b.cells,by have:=b.sum;omega⟩,h.pl,h.rl,h.intr,h.vals,by obtain ⟨q,k,qa,ka,Q,K,kl,b⟩:=h.box;exact ⟨q,k,qa,ka,Q,K,by omega,b⟩,by have:=h.jl;omega⟩
structure Tm where
 k:Int
 ck:Int
 fl:Int
 sl:List (Nat ⊕ Ry)
 mo:List Ry
def tv (R:List Ry):Nat ⊕ Ry->Ry
 | .inl i=>R.getD i vZ
 | .inr v=>v
def PM (R:List Ry)(t:Tm)(age:Int):Rk:=⟨t.ck,0,t.fl,age,t.sl.map (tv R),t.mo⟩
structure RT (g:RG) (T:List Tm):Prop where
 len:g.Si.length=T.length
 at_: ∀(j:Nat) (t:Tm),T[j]? =some t-> ∃a age,g.Si[j]? =some (⟨t.k,a,⟨#[]⟩⟩:Ry)/\aD g.m_ a=true/\bq g.m_ a=PM g.Si t age
structure TmOk (T:List Tm):Prop where
 kind: ∀t∈T,t.k=7\/t.k=9
 ref: ∀t∈T, ∀i,.inl i∈t.sl->i<T.length
 val: ∀t∈T, ∀v,(.inr v∈t.sl\/v∈t.mo)->ba v=false
structure Sm (n:Nat) (g:RG):Prop where
 cnt:g.m_.Se.length+g.m_.Sc.length<=n
 rts:g.Si.length<=n
 cells: ∀c∈g.m_.Se++g.m_.Sc,c.Sg.length<=1/\c.Sd.length<=1
theorem Ox {n:Nat}(hn:n<=70){g:RG}(s:Sm n g)(hp:g.Sq=[])(w64:W64 g.m_)(r64: ∀v∈g.Si,in64 v.N)(n1:(g.So.at_.map Prod.fst).Nodup)(n2: ∀x∈g.So.at_.map Prod.fst, ∃i:Nat,i<g.m_.Sc.length/\x=2*(i:Int)+2):HB g:=by
 have h1:=s.cnt;have h2:=s.rts
 have hw: ∀l:List Rk,(∀c∈l,c∈g.m_.Se++g.m_.Sc)->wt l<=3*l.length/\mS l<=1*l.length:=fun l hl=>by
  unfold mS;rw [ti, <-oy, <-oy];exact ⟨vT fun c hc=>by have:=s.cells c (hl c hc);unfold wC;omega,vT fun c hc=>by have:=s.cells c (hl c hc);omega⟩
 have h3:=hw g.m_.Se fun c hc=>RQ _ hc
 have h4:=hw g.m_.Sc fun c hc=>RR _ hc
 have hl:(g.Si++g.Sq).length=g.Si.length:=by rw [hp,List.append_nil]
 exact ⟨⟨by omega,by omega,by omega,fun c hc=>by have:=s.cells c hc;omega⟩,⟨by omega,by omega⟩,by rw [BS];omega,by omega,w64,by rw [hp,List.append_nil];exact r64,n1,n2⟩
def QI (g:RG)(k:Int)(c:Rk):RG:=⟨⟨g.m_.Se++ [c],g.m_.Sc⟩,g.Si++ [⟨k,2*(g.m_.Se.length:Int)+1,⟨#[]⟩⟩],g.Sq,g.So⟩
theorem KG {m:Rp}(c:Rk):(∀x,aD m x=true->aD ⟨m.Se++ [c],m.Sc⟩ x=true/\bq ⟨m.Se++ [c],m.Sc⟩ x=bq m x)/\aD ⟨m.Se++ [c],m.Sc⟩ (2*(m.Se.length:Int)+1)=true/\bq ⟨m.Se++ [c],m.Sc⟩ (2*(m.Se.length:Int)+1)=c:=by
 refine ⟨fun x hx=> ?_,?_,?_⟩
 ·rcases fj hx with ⟨i,hi,rfl⟩|⟨i,hi,rfl⟩
  ·have h2:i<(m.Se++ [c]).length:=by simp;omega
   exact ⟨by rw [tT];exact RM h2,by rw [qd ⟨m.Se++ [c],m.Sc⟩ i h2,qd m i hi];exact List.getElem_append_left hi⟩
  exact ⟨by rw [oL];exact RM hi,by rw [ns ⟨m.Se++ [c],m.Sc⟩ i hi,ns m i hi]⟩
 ·rw [tT];exact RM (by simp)
 rw [qd ⟨m.Se++ [c],m.Sc⟩ m.Se.length (by simp)];simp
theorem JW {m:Rp}(c:Rk):jB ⟨m.Se++ [c],m.Sc⟩=jB m:=by
 unfold jB;show List.map _ ((List.range m.Sc.length).filter _)=_
 congr 1
 refine List.filter_congr fun i hi=> ?_
 unfold lW;rw [((KG c).1 (2*(i:Int)+2) (by rw [oL];exact RM (List.mem_range.1 hi))).2]
theorem Og (N:Nat){g:RG}(hl:g.Si.length<=1000)(v:Ry):dn N g v=some ((g.Si.length:Int),⟨g.m_,g.Si++ [v],g.Sq,g.So⟩):=by
 have e:((g.Si++ [v]).length:Int) - 1=(g.Si.length:Int):=by simp
 unfold dn aG;rw [bs,cf,rF (by simp only [List.length_cons,List.length_nil];omega),e,r64 V V]
theorem rD {a:Int}{l:List Ry}(h0:0<=a)(h1:a<=1):bu ⟨11,0,0,a,[],l⟩=l.all kB:=by
 have e:bu ⟨11,0,0,a,[],l⟩=((!decide (a<0)&& !decide (1<a))&&(l.all kB&&true)):=by
  unfold bu;show ((true&& !decide (a<0))&& !decide (1<a)&&(true&&(l.all kB&&true)))=_;simp
 rw [e,RN V,RN V];simp
theorem zb {α:Type}(g:α->Nat)(x:α): ∀(l:List α) (i:Nat) (h:i<l.length),bQ g (l.set i x)+g l[i]=bQ g l+g x
 | [],i,h=>by simp at h
 |a::l,0,_=>by simp only [List.set_cons_zero,bQ,List.getElem_cons_zero];omega
 |a::l,i+1,h=>by
  have:=zb g x l i (by simpa using h);simp only [List.set_cons_succ,bQ,List.getElem_cons_succ];omega
theorem JP {m:Rp}{a:Int}(c:Rk)(h:aD m a=true):mS (sM m a c).Se+mS (sM m a c).Sc+(bq m a).Sd.length=mS m.Se+mS m.Sc+c.Sd.length:=by
 rcases fj h with ⟨j,hj,rfl⟩|⟨j,hj,rfl⟩
 ·have e:sM m (2*(j:Int)+1) c=⟨m.Se.set j c,m.Sc⟩:=by
   unfold sM;rw [RM V,cond_true,show ((2*(j:Int)+1) / 2).toNat=j by omega]
  rw [e,qd m j hj];have:=zb (fun c:Rk=>c.Sd.length) c m.Se j hj;unfold mS;simp only at this⊢;omega
 have e:sM m (2*(j:Int)+2) c=⟨m.Se,m.Sc.set j c⟩:=by
  unfold sM;rw [RN V,cond_false,show ((2*(j:Int)+2) / 2 - 1).toNat=j by omega]
 rw [e,ns m j hj];have:=zb (fun c:Rk=>c.Sd.length) c m.Sc j hj;unfold mS;simp only at this⊢;omega
def G0 (g:RG)(c:Rk):RG:=⟨⟨g.m_.Se++ [c],g.m_.Sc⟩,g.Si,g.Sq,g.So⟩
theorem JobAt.mono {m m':Rp}{q k:Int}{v:Ry}{l:List Int}(h:JobAt m q k v l)(hm: ∀x,aD m x=true->x≠q->x≠k->aD m' x=true/\bq m' x=bq m x):JobAt m' q k v l:=by
 obtain ⟨a,ag,h1,h2,h3,h4,h5⟩:=h;obtain ⟨g1,g2⟩:=hm a h2 h3 h4;exact ⟨a,ag,h1,g1,h3,h4,g2.trans h5⟩
theorem WH.add {n:Nat}{jobs:List RL}{g:RG}(h:WH n jobs g)(hn:n<60){c:Rk}(hr:bu c=true)(hk:c.Sa≠8/\c.Sa≠10)(hs:c.Sg.length<=2/\c.Sd.length<=40)(hv: ∀v∈c.Sg++c.Sd,in64 v.N/\(ba v=true->aD g.m_ v.N=true)):WH (n+1) jobs (G0 g c):=by
 obtain ⟨a1,a2,a3⟩:=KG (m:=g.m_) c
 have hmem: ∀d∈(g.m_.Se++ [c])++g.m_.Sc,d∈g.m_.Se++g.m_.Sc\/d=c:=fun d hd=>by
  simp only [List.mem_append,List.mem_cons,List.not_mem_nil,or_false] at hd⊢;rcases hd with (hd|hd)|hd
  ·exact .inl (.inl hd)
  ·exact .inr hd
  exact .inl (.inr hd)
 have b:=h.bd;have hc:=b.cnt;have hrt:=b.rts;have hsm:=b.sum
 have bd:Bd (n+1) (G0 g c):=by
  refine ⟨?_,by show g.Si.length<=_;omega,fun d hd=> ?_,?_⟩
  ·show (g.m_.Se++ [c]).length+g.m_.Sc.length<=_;simp;omega
  ·rcases hmem d hd with hd|rfl
   ·exact b.cells d hd
   exact ⟨hs.1,by omega⟩
  show mS (g.m_.Se++ [c])+mS g.m_.Sc<=_;unfold mS at hsm⊢;rw [qD];simp only [bQ];omega
 have hW:W64 (⟨g.m_.Se++ [c],g.m_.Sc⟩:Rp):=fun d hd=>by
  rcases hmem d hd with hd|rfl
  ·exact h.pl.hb.w64 d hd
  exact fun v hx=>(hv v hx).1
 refine ⟨hn,bd,⟨Hu hn bd h.pl.pend hW (fun v hx=>h.pl.hb.r64 v (RQ _ hx)) h.pl.hb.nd h.pl.hb.keys,h.pl.pend,fun d hd=> ?_,fun x hx=>(a1 x (h.pl.roots x hx)).1,(h.pl.set).trans (JW c).symm⟩,h.rl,fun j hj=> ?_,h.vals,?_,by have:=h.jl;omega⟩
 ·rcases hmem d hd with hd|rfl
  ·exact ⟨(h.pl.cells d hd).1,fun x hx=>(a1 x ((h.pl.cells d hd).2.1 x hx)).1,(h.pl.cells d hd).2.2⟩
  refine ⟨hr,fun x hx=> ?_,hk⟩;obtain ⟨v,a6,hb,rfl⟩:=te hx;exact (a1 _ ((hv v a6).2 hb)).1
 ·obtain ⟨a,g1,g2⟩:=h.intr j hj;exact ⟨a,g1,(a1 a g2).1⟩
 obtain ⟨q,k,qa,ka,Q,K,kl,b⟩:=h.box;exact ⟨q,k,qa,ka,Q,K,by omega,b.r18,b.r19,b.ne,(a1 q b.hq).1,(a1 k b.hk).1,(a1 q b.hq).2.trans b.aq,(a1 k b.hk).2.trans b.ak,b.kv,b.ql,fun i v l h1 h2=>(b.job i v l h1 h2).mono fun x hx _ _=>a1 x hx⟩
theorem WH.setQ {n:Nat}{jobs jobs':List RL}{g:RG}(h:WH n jobs g){q k qa ka:Int}{Q K Q':List Ry}(b:QK g jobs q k qa ka Q K)(kl:K.length<=n)(jl:jobs'.length<=n)(hm: ∀v∈Q',kB v=true/\in64 v.N/\(ba v=true->aD g.m_ v.N=true))(hl:Q'.length<=Q.length+1/\Q'.length<=60)(hs:mS g.m_.Se+mS g.m_.Sc+Q'.length<=42*n+Q.length)(ql:Q'.length=jobs'.length)(job: ∀(i:Nat) (v:Ry) (l:List Int),Q'[i]? =some v->jobs'[i]? =some l->JobAt g.m_ q k v l):
  bu ⟨11,0,0,qa,[],Q'⟩=true/\WH n jobs' (kz g q ⟨11,0,0,qa,[],Q'⟩):=by
 have hr:=(h.pl.cells _ (eo b.hq)).1;have hage:=vV hr;rw [b.aq] at hage
 have hr':bu ⟨11,0,0,qa,[],Q'⟩=true:=by
  rw [rD hage.1 hage.2,List.all_eq_true]
  exact fun v hv=>(hm v hv).1
 obtain ⟨f1,f2,f3,f4⟩:=qR g q ⟨11,0,0,qa,[],Q'⟩;obtain ⟨s1,s2,s3,s4,s5, -⟩:=EN (xt ⟨11,0,0,qa,[],Q'⟩ (bq g.m_ q).Sn) b.hq;have hms:=JP (xt ⟨11,0,0,qa,[],Q'⟩ (bq g.m_ q).Sn) b.hq
 have h1:(bq g.m_ q).Sd.length=Q.length:=by rw [b.aq]
 have h2:(xt ⟨11,0,0,qa,[],Q'⟩ (bq g.m_ q).Sn).Sd.length=Q'.length:=rfl;have bb:=h.bd
 have bd:Bd n (kz g q ⟨11,0,0,qa,[],Q'⟩):=by
  refine ⟨by rw [f1,s3,s4];exact bb.cnt,by rw [f2];exact bb.rts,fun d hd=> ?_,by rw [f1];omega⟩;rw [f1] at hd;rcases s5 d hd with hd|rfl
  ·exact bb.cells d hd
  exact ⟨by show 0<=2;omega,hl.2⟩
 obtain ⟨p1,p2,p3⟩:=h.pl.put h.le b.hq hr' ⟨by show¬(11:Int)=8;omega,by show¬(11:Int)=10;omega⟩ (fun v hv=>(hm v hv).2) bd
 have hot: ∀x,aD g.m_ x=true->x≠q->aD (kz g q ⟨11,0,0,qa,[],Q'⟩).m_ x=true/\bq (kz g q ⟨11,0,0,qa,[],Q'⟩).m_ x=bq g.m_ x:=fun x hx hne=>⟨(p2 x).trans hx,by rw [p3 x hx,if_neg hne]⟩
 refine ⟨hr',h.le,bd,p1,by rw [f2];exact h.rl,fun j hj=> ?_,fun j v hj hv=>h.vals j v hj (by rw [<-f2];exact hv),?_,jl⟩
 ·obtain ⟨a,g1,g2⟩:=h.intr j hj;exact ⟨a,by rw [f2];exact g1,(p2 a).trans g2⟩
 refine ⟨q,k,(bq g.m_ q).Sn,ka,Q',K,kl,by rw [f2];exact b.r18,by rw [f2];exact b.r19,b.ne,(p2 q).trans b.hq,(p2 k).trans b.hk,?_,(hot k b.hk b.ne.symm).2.trans b.ak,b.kv,ql,fun i v l h1 h2=>(job i v l h1 h2).mono fun x hx hq _=>hot x hx hq⟩;rw [p3 q b.hq,if_pos rfl];rfl
theorem WH.setK {n:Nat}{jobs:List RL}{g:RG}(h:WH n jobs g){q k qa ka:Int}{Q K K':List Ry}(b:QK g jobs q k qa ka Q K)(hm: ∀v∈K',kB v=true/\in64 v.N/\ba v=false)(kl:K'.length<=n)(hl:K'.length<=60)(hs:mS g.m_.Se+mS g.m_.Sc+K'.length<=42*n+K.length):
  bu ⟨11,0,0,ka,[],K'⟩=true/\WH n jobs (kz g k ⟨11,0,0,ka,[],K'⟩):=by
 have hr:=(h.pl.cells _ (eo b.hk)).1;have hage:=vV hr;rw [b.ak] at hage
 have hr':bu ⟨11,0,0,ka,[],K'⟩=true:=by
  rw [rD hage.1 hage.2,List.all_eq_true]
  exact fun v hv=>(hm v hv).1
 obtain ⟨f1,f2,f3,f4⟩:=qR g k ⟨11,0,0,ka,[],K'⟩;obtain ⟨s1,s2,s3,s4,s5, -⟩:=EN (xt ⟨11,0,0,ka,[],K'⟩ (bq g.m_ k).Sn) b.hk;have hms:=JP (xt ⟨11,0,0,ka,[],K'⟩ (bq g.m_ k).Sn) b.hk
 have h1:(bq g.m_ k).Sd.length=K.length:=by rw [b.ak]
 have h2:(xt ⟨11,0,0,ka,[],K'⟩ (bq g.m_ k).Sn).Sd.length=K'.length:=rfl;have bb:=h.bd
 have bd:Bd n (kz g k ⟨11,0,0,ka,[],K'⟩):=by
  refine ⟨by rw [f1,s3,s4];exact bb.cnt,by rw [f2];exact bb.rts,fun d hd=> ?_,by rw [f1];omega⟩;rw [f1] at hd;rcases s5 d hd with hd|rfl
  ·exact bb.cells d hd
  exact ⟨by show 0<=2;omega,hl⟩
 obtain ⟨p1,p2,p3⟩:=h.pl.put h.le b.hk hr' ⟨by show¬(11:Int)=8;omega,by show¬(11:Int)=10;omega⟩ (fun v hv=>⟨(hm v hv).2.1,fun hb=>by rw [(hm v hv).2.2] at hb;cases hb⟩) bd
 have hot: ∀x,aD g.m_ x=true->x≠k->aD (kz g k ⟨11,0,0,ka,[],K'⟩).m_ x=true/\bq (kz g k ⟨11,0,0,ka,[],K'⟩).m_ x=bq g.m_ x:=fun x hx hne=>⟨(p2 x).trans hx,by rw [p3 x hx,if_neg hne]⟩
 refine ⟨hr',h.le,bd,p1,by rw [f2];exact h.rl,fun j hj=> ?_,fun j v hj hv=>h.vals j v hj (by rw [<-f2];exact hv),?_,h.jl⟩
 ·obtain ⟨a,g1,g2⟩:=h.intr j hj;exact ⟨a,by rw [f2];exact g1,(p2 a).trans g2⟩
 refine ⟨q,k,qa,(bq g.m_ k).Sn,Q,K',kl,by rw [f2];exact b.r18,by rw [f2];exact b.r19,b.ne,(p2 q).trans b.hq,(p2 k).trans b.hk,(hot q b.hq b.ne).2.trans b.aq,?_,fun v hv=>(hm v hv).2.2,b.ql,fun i v l h1 h2=>(b.job i v l h1 h2).mono fun x hx _ hk=>hot x hx hk⟩;rw [p3 k b.hk,if_pos rfl];rfl
theorem NB {N:Nat}{g:RG}(hs: ∀c∈g.m_.Se++g.m_.Sc,c.Sg.length<=600/\c.Sd.length<=600){a:Int}(ha:in64 a)(hh:aD g.m_ a=true):nW N g a=some (bq g.m_ a,true):=by
 unfold nW;rw [Ht N g ha,bs,hh];have hc:=hs _ (eo hh);have hi64:in64 a:=ha;unfold iW;rcases fj hh with ⟨i,hi,rfl⟩|⟨i,hi,rfl⟩
 ·have e1:(2*(i:Int)+1).tmod 2=1:=by rw [pQ V];omega
  have e2:(2*(i:Int)+1).tdiv 2=i:=by rw [Int.tdiv_eq_ediv_of_nonneg V];omega
  rw [qd g.m_ i hi] at hc⊢;unfold in64 at hi64;rw [nt,cf,e1,e2,RM (p:=(1:Int)=1) rfl,ct,r64 V V,aK hi,bs,bs]
  dsimp only [Au]
  rw [aK hi,bs,oQ N _ V,bs]
 have e1:(2*(i:Int)+2).tmod 2=0:=by rw [pQ V];omega
 have e2:(2*(i:Int)+2).tdiv 2=(i:Int)+1:=by rw [Int.tdiv_eq_ediv_of_nonneg V];omega
 have e5:(i:Int)+1 - 1=i:=by omega
 rw [ns g.m_ i hi] at hc⊢;unfold in64 at hi64;rw [nt,cf,e1,e2,e5,RN (p:=(0:Int)=1) V,cf,r64 V V,r64 V V,aK hi,bs,bs]
 dsimp only [Au]
 rw [aK hi,bs,oQ N _ V,bs]
theorem oS {N:Nat}{w:Rn}(hs: ∀c∈w.Sb.m_.Se++w.Sb.m_.Sc,c.Sg.length<=600/\c.Sd.length<=600){v:Ry}(hv:ba v=true)(ha:in64 v.N)(hh:aD w.Sb.m_ v.N=true):aB N w v=some (bq w.Sb.m_ v.N):=by
 have e:fu N v=some (ba v):=by
  unfold fu ba;cases decide (v.Sa=7)<;>rfl
 unfold aB;rw [e,bs,hv,nt,cf,NB hs ha hh,bs];rfl
theorem vU (N:Nat){g:RG}{j:Nat}{v:Ry}(h:g.Si[j]? =some v):aZ N g (j:Int)=some v:=by
 obtain ⟨hj,e⟩:=List.getElem?_eq_some_iff.1 h;rw [H2];unfold Da;rw [RM (p:=(0:Int)<=(j:Int)) V,RM (p:=(j:Int)<(g.Si.length:Int)) V,Int.toNat_natCast,List.getD_eq_getElem?_getD,h];rfl
theorem FS (N:Nat)(g:RG):dZ N g (g.Si.length:Int)=some g:=by
 unfold dZ aG;rw [bs,nf,ct,RN (p:=max (g.Si.length:Int) 0<(g.Si.length:Int)) V,bs,cf]
structure RW (n:Nat) (g:RG) (T:List Tm):Prop where
 big:n<=70
 sm:Sm n g
 pl:Pl g
 rt:RT g T
 ok:TmOk T
def HY (w:Rn)(g:RG):Rn:=⟨w.Sr,w.Sh,(),g,w.Sf,w.St,w.Sy,w.Sx,w.Sz,w.Sv,w.Su⟩
theorem zu (N:Nat){w:Rn}(h:w.Sb.Si.length<=600):cr N w=some (w.Sb.Si.length:Int):=by
 unfold cr;rw [Fy N _ h,bs]
theorem FQ (N:Nat)(a:Int)(w:Rn): ∃b,eX N a w=some b:=by
 unfold eX;by_cases h:0<a
 ·rw [cn h,ct,iq V,bs];exact ⟨_,J⟩
 rw [cu V,cf,bs];exact ⟨_,J⟩
theorem HH (N:Nat)(w:Rn){v:Ry}(hv:ba v=false):aB N w v=some ⟨0,0,0,0,[],[]⟩:=by
 have e:fu N v=some (ba v):=by
  unfold fu ba;cases decide (v.Sa=7)<;>rfl
 unfold aB;rw [e,bs,hv,nf,ct]
theorem Ct {N:Nat}(hN:6500<N){n:Nat}{jobs:List RL}{w:Rn}(h:WH n jobs w.Sb): ∃g',el N w=some (HY w g')/\WH n jobs g'/\g'.Si.length=w.Sb.Si.length:=by
 obtain ⟨q,k,qa,ka,Q,K, -,b⟩:=h.box;obtain ⟨g',ρ,f,e,m⟩:=JO hN h.pl;have hs:=h.pl.hb.small;have hrl:=h.bd.rts;have hle:=h.le
 have hlen:w.Sb.Si.length=g'.Si.length:=by rw [m.roots,R1]
 refine ⟨g',?_,h.mv m,hlen.symm⟩;have h1:aZ N w.Sb 19=some ⟨9,k,⟨#[]⟩⟩:=vU N b.r19
 have h2:aB N w ⟨9,k,⟨#[]⟩⟩=some ⟨11,0,0,ka,[],K⟩:=by
  rw [oS hs.cells IA (h.pl.hb.r64 _ (RQ _ (List.mem_of_getElem? b.r19))) b.hk];exact congrArg some b.ak
 have hK:K.length<=60:=by have:=(h.bd.cells _ (eo b.hk)).2;rw [b.ak] at this;exact this
 have loop: ∀(a1:Int) (m i:Nat),K.length<m+i->i<=K.length->bF N a1 ⟨11,0,0,ka,[],K⟩ w m (i:Int) w.Sb.m_.Se w.Sb.m_.Sc w.Sb.Si w.Sb.Sq w.Sb.So.at_=dG N a1 w w.Sb.m_.Se w.Sb.m_.Sc w.Sb.Si w.Sb.Sq w.Sb.So.at_:=by
  intro a1 m
  induction m with
  |zero=>intro i h1 h2;omega
  | succ m ih=>
   intro i h1 h2;rw [bF.eq_2];rcases Nat.lt_or_ge i K.length with hi|hi
   ·rw [cn (by show (i:Int)<(K.length:Int);omega),ct];show ((au K (i:Int)).bind _)=_;rw [aK hi,bs,HH N _ (b.kv _ (R5 hi)),bs];show (bif !decide ((0:Int)=10) then _ else _)=_;rw [RN (p:=(0:Int)=10) V,nf,ct];unfold dF;rw [r64 V V];exact ih (i+1) V hi
   rw [cu (by show (K.length:Int)<=(i:Int);omega),cf]
 unfold el;rw [zu N V,bs,h1,bs,h2,bs];have hl:=loop (w.Sb.Si.length:Int) N 0 V V;rw [show ((0:Nat):Int)=0 from rfl] at hl;rw [hl];unfold dG;have e':dP N (⟨(⟨w.Sb.m_.Se,w.Sb.m_.Sc⟩:Rp),w.Sb.Si,w.Sb.Sq,(⟨w.Sb.So.at_⟩:Rr)⟩:RG)=some (0,g'):=e;rw [e',bs];show (dZ N g' (w.Sb.Si.length:Int)).bind _=_;rw [hlen,FS,bs];rfl
theorem Cs {N:Nat}(hN:6500<N){n:Nat}{jobs:List RL}{w:Rn}(h:WH n jobs w.Sb): ∃g',ei N w=some (HY w g')/\WH n jobs g'/\g'.Si.length=w.Sb.Si.length:=by
 obtain ⟨q,k,qa,ka,Q,K, -,b⟩:=h.box;obtain ⟨g',ρ,f,e,m⟩:=JH hN h.pl;have hs:=h.pl.hb.small;have hrl:=h.bd.rts;have hle:=h.le
 have hlen:w.Sb.Si.length=g'.Si.length:=by rw [m.roots,R1]
 refine ⟨g',?_,h.mv m,hlen.symm⟩;have h1:aZ N w.Sb 19=some ⟨9,k,⟨#[]⟩⟩:=vU N b.r19
 have h2:aB N w ⟨9,k,⟨#[]⟩⟩=some ⟨11,0,0,ka,[],K⟩:=by
  rw [oS hs.cells IA (h.pl.hb.r64 _ (RQ _ (List.mem_of_getElem? b.r19))) b.hk];exact congrArg some b.ak
 have hK:K.length<=60:=by have:=(h.bd.cells _ (eo b.hk)).2;rw [b.ak] at this;exact this
 have loop: ∀(a1:Int) (m i:Nat),K.length<m+i->i<=K.length->bE N a1 ⟨11,0,0,ka,[],K⟩ w m (i:Int) w.Sb.m_.Se w.Sb.m_.Sc w.Sb.Si w.Sb.Sq w.Sb.So.at_=dE N a1 w w.Sb.m_.Se w.Sb.m_.Sc w.Sb.Si w.Sb.Sq w.Sb.So.at_:=by
  intro a1 m
  induction m with
  |zero=>intro i h1 h2;omega
  | succ m ih=>
   intro i h1 h2;rw [bE.eq_2];rcases Nat.lt_or_ge i K.length with hi|hi
   ·rw [cn (by show (i:Int)<(K.length:Int);omega),ct];show ((au K (i:Int)).bind _)=_;rw [aK hi,bs,HH N _ (b.kv _ (R5 hi)),bs];show (bif !decide ((0:Int)=10) then _ else _)=_;rw [RN (p:=(0:Int)=10) V,nf,ct];unfold dD;rw [r64 V V];exact ih (i+1) V hi
   rw [cu (by show (K.length:Int)<=(i:Int);omega),cf]
 unfold ei;rw [zu N V,bs,h1,bs,h2,bs];have hl:=loop (w.Sb.Si.length:Int) N 0 V V;rw [show ((0:Nat):Int)=0 from rfl] at hl;rw [hl];unfold dE;have e':dO N (⟨(⟨w.Sb.m_.Se,w.Sb.m_.Sc⟩:Rp),w.Sb.Si,w.Sb.Sq,(⟨w.Sb.So.at_⟩:Rr)⟩:RG)=some (0,g'):=e;rw [e',bs];show (dZ N g' (w.Sb.Si.length:Int)).bind _=_;rw [hlen,FS,bs];rfl
structure Ab where
 cS:Int
 cC:Int
 cM:Int
 steps:Int
 made:Int
 calls:Int
 epoch:Int
 sleep:Int
 serial:Int
 roots:Int
 syms:List ByteArray
 out:List ByteArray
 log:List RF
 jobs:List RL
def Nc:Rl:=⟨[⟨-1,⟨0,0,⟨#[]⟩⟩,0,0⟩],[]⟩
def JC:Rq:=⟨1,0,⟨#[109,101,115,115,97,103,101]⟩⟩
def IY:Rl:=match cK 7000 Nc 0 JC 5 with
 |some x=>x.2.2
 |none=>Nc
structure Fig (n:Nat) (A:Ab):Prop where
 st:0<=A.steps/\A.steps<=n
 md:0<=A.made/\A.made<=n
 cl:0<=A.calls/\A.calls<=n
 ep:0<=A.epoch/\A.epoch<=n
 se:0<=A.serial/\A.serial<=n
 sy:A.syms.length<=n
 ou:A.out.length<=n
 ev:A.log.length<=n
theorem Fig.up {n:Nat}{A:Ab}(h:Fig n A):Fig (n+1) A:=by
 obtain ⟨h1,h2,h3,h4,h5,h6,h7,h8⟩:=h;exact ⟨by omega,by omega,by omega,by omega,by omega,by omega,by omega,by omega⟩
structure WA (n:Nat) (A:Ab) (w:Rn):Prop where
 cS:w.Sh.SG=A.cS
 cC:w.Sh.SA=A.cC
 cM:w.Sh.SF=A.cM
 st:w.Sr.SE=A.steps
 md:w.Sr.SC=A.made
 cl:w.Sr.SD=A.calls
 ep:w.Sy=A.epoch
 sl:w.Sz=A.sleep
 se:w.Sx=A.serial
 sy:w.St=A.syms
 ou:w.Su=A.out
 ev:w.Sv=A.log
 rl:(w.Sb.Si.length:Int)=A.roots
 sh:w.Sf=Nc\/w.Sf=IY
 wh:WH n A.jobs w.Sb
 fg:Fig n A
theorem WA.up {n:Nat}{A:Ab}{w:Rn}(h:WA n A w)(hn:n<60):WA (n+1) A w:={h with wh:=h.wh.up hn,fg:=h.fg.up}
theorem N8 {N:Nat}(hN:6500<N){n:Nat}{A:Ab}{w:Rn}(h:WA n A w)(hn:n<60):
  ∃w',fe N w=some (!decide (A.cS<=A.steps),w')/\WA (n+1) (bif decide (A.cS<=A.steps) then A else {A with steps:=A.steps+1}) w':=by
 have hst:=h.fg.st;unfold fe;rw [h.cS,h.st]
 cases hd:decide (A.cS<=A.steps) with
 |true=>exact ⟨w,rfl,h.up hn⟩
 | false=>
  rw [cf,r64 V V]
  have key: ∀w2:Rn,w2.Sh=w.Sh->w2.Sr=⟨A.steps+1,w.Sr.SC,w.Sr.SD⟩->w2.St=w.St->w2.Sy=w.Sy->w2.Sx=w.Sx->w2.Sz=w.Sz->w2.Sv=w.Sv->w2.Su=w.Su->w2.Sf=w.Sf->w2.Sb.Si.length=w.Sb.Si.length->WH n A.jobs w2.Sb->WA (n+1) {A with steps:=A.steps+1} w2:=by
   intro w2 e1 e2 e3 e4 e5 e6 e7 e8 e9 a1 a2;have f:=h.fg.up;exact ⟨by rw [e1];exact h.cS,by rw [e1];exact h.cC,by rw [e1];exact h.cM,by rw [e2],by rw [e2];exact h.md,by rw [e2];exact h.cl,by rw [e4];exact h.ep,by rw [e6];exact h.sl,by rw [e5];exact h.se,by rw [e3];exact h.sy,by rw [e8];exact h.ou,by rw [e7];exact h.ev,by rw [a1];exact h.rl,by rw [e9];exact h.sh,a2.up hn,⟨by show 0<=A.steps+1/\A.steps+1<=_;omega,f.md,f.cl,f.ep,f.se,f.sy,f.ou,f.ev⟩⟩
  obtain ⟨b,hb⟩:=FQ N w.Sh.SH (⟨(⟨A.steps+1,w.Sr.SC,w.Sr.SD⟩:RD),w.Sh,(),w.Sb,w.Sf,w.St,w.Sy,w.Sx,w.Sz,w.Sv,w.Su⟩:Rn);obtain ⟨b2,a6⟩:=FQ N w.Sh.Se (⟨(⟨A.steps+1,w.Sr.SC,w.Sr.SD⟩:RD),w.Sh,(),w.Sb,w.Sf,w.St,w.Sy,w.Sx,w.Sz,w.Sv,w.Su⟩:Rn);rw [hb,bs]
  cases b with
  |true=>
   obtain ⟨g',e,r,l⟩:=Ct hN (w:=(⟨(⟨A.steps+1,w.Sr.SC,w.Sr.SD⟩:RD),w.Sh,(),w.Sb,w.Sf,w.St,w.Sy,w.Sx,w.Sz,w.Sv,w.Su⟩:Rn)) h.wh;rw [ct,e,bs];refine ⟨_,J,?_⟩;exact key _ J J J J J J J J J l r
  | false=>
   rw [cf,a6,bs]
   cases b2 with
   |true=>
    obtain ⟨g',e,r,l⟩:=Cs hN (w:=(⟨(⟨A.steps+1,w.Sr.SC,w.Sr.SD⟩:RD),w.Sh,(),w.Sb,w.Sf,w.St,w.Sy,w.Sx,w.Sz,w.Sv,w.Su⟩:Rn)) h.wh;rw [ct,e,bs];refine ⟨_,J,?_⟩;exact key _ J J J J J J J J J l r
   |false=>
    rw [cf];refine ⟨_,J,?_⟩;exact key _ (by rw [<-h.cS]) J J J J J J J J J h.wh
theorem JN {N:Nat}(hN:6500<N){g:RG}(hl:g.m_.Se.length<=600){c:Rk}(h1:c.Sg.length<=600/\c.Sd.length<=600)(hr:bu c=true)(h0:c.Sn=0):
  ee N g c=some (2*(g.m_.Se.length:Int)+1,0,G0 g c):=by
 have ec:(⟨c.Sa,c.Sk,c.Sj,0,c.Sg,c.Sd⟩:Rk)=c:=by rw [<-h0]
 unfold ee aG;rw [bs,cf,Aj hN V,bs,hr]
 have e:((g.m_.Se++ [(⟨c.Sa,c.Sk,c.Sj,0,c.Sg,c.Sd⟩:Rk)]).length:Int)=(g.m_.Se.length:Int)+1:=by simp
 rw [nt,cf,oQ N c V,bs,rF (by simp only [List.length_cons,List.length_nil];omega),e,r64 V V,r64 V V,ec,show 2*((g.m_.Se.length:Int)+1) - 1=2*(g.m_.Se.length:Int)+1 by omega];rfl
theorem WH.young {n:Nat}{jobs:List RL}{g:RG}(h:WH n jobs g):g.m_.Se.length<=600:=by
 have:=h.bd.cnt;have:=h.le;omega
theorem Ow {N:Nat}(hN:6500<N){n:Nat}{jobs:List RL}{w:Rn}(h:WH n jobs w.Sb){c:Rk}(h1:c.Sg.length<=600/\c.Sd.length<=600)(hr:bu c=true)(h0:c.Sn=0):
  dh N w c=some (⟨9,2*(w.Sb.m_.Se.length:Int)+1,⟨#[]⟩⟩,HY w (G0 w.Sb c)):=by
 unfold dh;rw [JN hN h.young h1 hr h0,bs,RM (p:=(0:Int)=0) rfl,nt,cf];rfl
theorem WH.push {n:Nat}{jobs:List RL}{g:RG}(h:WH n jobs g)(hn:n<60){v:Ry}(hv:ba v=false)(h64:in64 v.N):WH (n+1) jobs ⟨g.m_,g.Si++ [v],g.Sq,g.So⟩:=by
 have b:=h.bd;have hc:=b.cnt;have hrt:=b.rts;have hsm:=b.sum;have hrl:=h.rl;have bd:Bd (n+1) (⟨g.m_,g.Si++ [v],g.Sq,g.So⟩:RG):=⟨by show g.m_.Se.length+g.m_.Sc.length<=_;omega,by show (g.Si++ [v]).length<=_;simp;omega,b.cells,by show mS g.m_.Se+mS g.m_.Sc<=_;omega⟩
 have hr64: ∀x∈g.Si++ [v],in64 x.N:=fun x hx=>by
  rcases List.mem_append.1 hx with hx|hx
  ·exact h.pl.hb.r64 x (RQ _ hx)
  obtain rfl:x=v:=by simpa using hx
  exact h64
 have hadd: ∀x∈bH (g.Si++ [v]),aD g.m_ x=true:=fun x hx=>by
  obtain ⟨y,hy,hb,rfl⟩:=kN.1 hx;rcases List.mem_append.1 hy with hy|hy
  ·exact h.pl.roots _ (kN.2 ⟨y,hy,hb,J⟩)
  obtain rfl:y=v:=by simpa using hy
  rw [hv] at hb;cases hb
 have hlt: ∀j,j<20->(g.Si++ [v])[j]? =g.Si[j]? :=fun j hj=>List.getElem?_append_left V
 refine ⟨hn,bd,⟨Hu hn bd h.pl.pend h.pl.hb.w64 hr64 h.pl.hb.nd h.pl.hb.keys,h.pl.pend,h.pl.cells,hadd,h.pl.set⟩,by show 20<=(g.Si++ [v]).length;simp;omega,fun j hj=> ?_,fun j x hj hx=> ?_,?_,by have:=h.jl;omega⟩
 ·obtain ⟨a,h1,h2⟩:=h.intr j hj;exact ⟨a,(hlt j V).trans h1,h2⟩
 ·have hx':(g.Si++ [v])[j]? =some x:=hx;rcases Nat.lt_or_ge j g.Si.length with hl|hl
  ·rw [List.getElem?_append_left hl] at hx';exact h.vals j x hj hx'
  rw [List.getElem?_append_right hl] at hx'
  obtain rfl:x=v:=by
   have:=List.mem_of_getElem? hx';simpa using this
  exact hv
 obtain ⟨q,k,qa,ka,Q,K,kl,b⟩:=h.box;exact ⟨q,k,qa,ka,Q,K,by omega,(hlt 18 V).trans b.r18,(hlt 19 V).trans b.r19,b.ne,b.hq,b.hk,b.aq,b.ak,b.kv,b.ql,b.job⟩
theorem WH.cut {n:Nat}{jobs:List RL}{g:RG}(h:WH n jobs g){m:Nat}(hm:20<=m):WH n jobs ⟨g.m_,g.Si.take m,g.Sq,g.So⟩:=by
 have b:=h.bd;have hrt:=b.rts;have hrl:=h.rl
 have hlen:(g.Si.take m).length<=g.Si.length:=by rw [R0];omega
 have bd:Bd n (⟨g.m_,g.Si.take m,g.Sq,g.So⟩:RG):=⟨b.cnt,Nat.le_trans hlen hrt,b.cells,b.sum⟩
 have hsub: ∀x∈g.Si.take m,x∈g.Si:=fun x hx=>List.mem_of_mem_take hx
 have hlt: ∀j,j<20->(g.Si.take m)[j]? =g.Si[j]? :=fun j hj=>by rw [List.getElem?_take,if_pos V]
 refine ⟨h.le,bd,⟨Hu h.le bd h.pl.pend h.pl.hb.w64 (fun x hx=>h.pl.hb.r64 x (RQ _ (hsub x hx))) h.pl.hb.nd h.pl.hb.keys,h.pl.pend,h.pl.cells,fun x hx=> ?_,h.pl.set⟩,by show 20<=(g.Si.take m).length;rw [R0];omega,fun j hj=> ?_,fun j x hj hx=> ?_,?_,h.jl⟩
 ·obtain ⟨y,hy,hb,rfl⟩:=kN.1 hx;exact h.pl.roots _ (kN.2 ⟨y,hsub y hy,hb,J⟩)
 ·obtain ⟨a,h1,h2⟩:=h.intr j hj;exact ⟨a,(hlt j V).trans h1,h2⟩
 ·have hx':(g.Si.take m)[j]? =some x:=hx;rw [List.getElem?_take] at hx';split at hx'
  ·exact h.vals j x hj hx'
  cases hx'
 obtain ⟨q,k,qa,ka,Q,K,kl,b⟩:=h.box;exact ⟨q,k,qa,ka,Q,K,by omega,(hlt 18 V).trans b.r18,(hlt 19 V).trans b.r19,b.ne,b.hq,b.hk,b.aq,b.ak,b.kv,b.ql,b.job⟩
section
variable {N n:Nat} {A:Ab} {w:Rn} (h:WA n A w) (hn:n<60)
include h hn
theorem NG (N:Nat): ∃w',jn N w=some (!decide (A.cC<=A.calls),w')/\WA (n+1) (bif decide (A.cC<=A.calls) then A else {A with calls:=A.calls+1}) w':=by
 have f:=h.fg.up;have hcl:=h.fg.cl;unfold jn;rw [h.cC,h.cl]
 cases hd:decide (A.cC<=A.calls) with
 |true=>exact ⟨w,rfl,h.up hn⟩
 |false=>
  rw [cf,r64 V V];refine ⟨_,J,?_⟩;exact {h.up hn with cl:=J,fg:=⟨f.st,f.md,by show 0<=A.calls+1/\A.calls+1<=_;omega,f.ep,f.se,f.sy,f.ou,f.ev⟩}
theorem Nz (N:Nat): ∃w',jm N w=some w'/\WA (n+1) (bif decide (0<A.calls) then {A with calls:=A.calls - 1} else A) w':=by
 have f:=h.fg.up;have hcl:=h.fg.cl;unfold jm;rw [h.cl]
 cases hd:decide (0<A.calls) with
 |false=>exact ⟨w,rfl,h.up hn⟩
 |true=>
  have hp:=of_decide_eq_true hd;rw [ct,r64 V V];refine ⟨_,J,?_⟩;exact {h.up hn with cl:=J,fg:=⟨f.st,f.md,by show 0<=A.calls - 1/\A.calls - 1<=_;omega,f.ep,f.se,f.sy,f.ou,f.ev⟩}
theorem MY (N:Nat): ∃w',ji N w=some w'/\WA (n+1) {A with epoch:=A.epoch+1} w':=by
 have f:=h.fg.up;have hep:=h.fg.ep;unfold ji;rw [h.ep,r64 V V];exact ⟨_,J,{h.up hn with ep:=J,fg:=⟨f.st,f.md,f.cl,by show 0<=A.epoch+1/\A.epoch+1<=_;omega,f.se,f.sy,f.ou,f.ev⟩}⟩
theorem My (N:Nat)(x:Int): ∃w',iJ N w x=some w'/\WA (n+1) {A with sleep:=IntKind.i64.wrap (A.sleep+x)} w':=by
 have f:=h.fg.up;unfold iJ;rw [h.sl];exact ⟨_,J,{h.up hn with sl:=J,fg:=⟨f.st,f.md,f.cl,f.ep,f.se,f.sy,f.ou,f.ev⟩}⟩
theorem K4 (N:Nat): ∃w',iH N w=some (A.serial+1,w')/\WA (n+1) {A with serial:=A.serial+1} w':=by
 have f:=h.fg.up;have hse:=h.fg.se;unfold iH;rw [h.se,r64 V V];exact ⟨_,J,{h.up hn with se:=J,fg:=⟨f.st,f.md,f.cl,f.ep,by show 0<=A.serial+1/\A.serial+1<=_;omega,f.sy,f.ou,f.ev⟩}⟩
theorem K0 (N:Nat)(s:ByteArray): ∃w',iG N w s=some (⟨6,(A.syms.length:Int)+3,⟨#[]⟩⟩,w')/\WA (n+1) {A with syms:=A.syms++ [s]} w':=by
 have f:=h.fg.up;have hsy:=h.fg.sy;unfold iG
 have hl:((A.syms++ [s]).length:Int)=(A.syms.length:Int)+1:=by simp
 rw [h.sy,rF (by simp only [List.length_cons,List.length_nil];omega),hl,r64 V V,r64 V V,show (3:Int)+((A.syms.length:Int)+1) - 1=(A.syms.length:Int)+3 by omega];exact ⟨_,J,{h.up hn with sy:=J,fg:=⟨f.st,f.md,f.cl,f.ep,f.se,by show (A.syms++ [s]).length<=_;simp;omega,f.ou,f.ev⟩}⟩
theorem Pg (N:Nat)(e:RF): ∃w',dH N w e=some w'/\WA (n+1) {A with log:=A.log++ [e]} w':=by
 have f:=h.fg.up;have hev:=h.fg.ev;unfold dH;rw [h.ev,rF (by simp only [List.length_cons,List.length_nil];omega)];exact ⟨_,J,{h.up hn with ev:=J,fg:=⟨f.st,f.md,f.cl,f.ep,f.se,f.sy,f.ou,by show (A.log++ [e]).length<=_;simp;omega⟩}⟩
theorem Nh (N:Nat)(s:ByteArray): ∃w',jj N w s=some w'/\WA (n+1) {A with out:=A.out++ [s],log:=A.log++ [⟨1,⟨0,0,⟨#[]⟩⟩,s⟩]} w':=by
 have f:=h.fg.up;have hev:=h.fg.ev;have hou:=h.fg.ou;unfold jj;rw [h.ou,rF (by simp only [List.length_cons,List.length_nil];omega)];unfold dH;rw [h.ev,rF (by simp only [List.length_cons,List.length_nil];omega),bs];exact ⟨_,J,{h.up hn with ou:=J,ev:=J,fg:=⟨f.st,f.md,f.cl,f.ep,f.se,f.sy,by show (A.out++ [s]).length<=_;simp;omega,by show (A.log++ [_]).length<=_;simp;omega⟩}⟩
theorem Of (N:Nat){v:Ry}(hv:ba v=false)(h64:in64 v.N): ∃w',jZ N w v=some (A.roots,w')/\WA (n+1) {A with roots:=A.roots+1} w':=by
 have f:=h.fg.up;have hb:=h.wh.bd.rts;unfold jZ;rw [Og N V,bs,h.rl];refine ⟨_,J,{h.up hn with rl:=?_,wh:=h.wh.push hn hv h64,fg:=⟨f.st,f.md,f.cl,f.ep,f.se,f.sy,f.ou,f.ev⟩}⟩;show ((w.Sb.Si++ [v]).length:Int)=A.roots+1;rw [<-h.rl];simp
end
end
section
open Go.RowKit
set_option maxRecDepth 20000
theorem Ll {x:Int}(h1: -9007199254740992<=x)(h2:x<=9007199254740992):kB (pH x)=true:=by
 have e:db 0 ⟨3,x,⟨#[]⟩⟩=(bif decide (-9007199254740992<=x) then some (decide (x<=9007199254740992)) else some false):=by
  unfold db;cases decide (-9007199254740992<=x)<;>kernel_rfl
 unfold kB pH;rw [e,RM h1,RM h2];rfl
theorem Nt {a:Int}(h:1<=a):kB ⟨9,a,⟨#[]⟩⟩=true:=by
 have e:db 0 ⟨9,a,⟨#[]⟩⟩=some (decide (1<=a)):=by
  unfold db;kernel_rfl
 unfold kB;rw [e,RM h];rfl
theorem EL {l:List Ry}{a:Int}(h:bu ⟨11,0,0,a,[],l⟩=true):0<=a/\a<=1/\ ∀v∈l,kB v=true:=by
 have hg:=vV h;have h0:0<=a:=hg.1;have h1:a<=1:=hg.2;rw [rD h0 h1,List.all_eq_true] at h;exact ⟨h0,h1,h⟩
theorem HJ {N n:Nat}{jobs:List RL}{w:Rn}(hN:6500<N)(h:WH n jobs w.Sb){r q ag:Int}{Q:List Ry}{j:Nat}(hj:r=j)(hr:w.Sb.Si[j]? =some ⟨9,q,⟨#[]⟩⟩)(hq:aD w.Sb.m_ q=true)(aq:bq w.Sb.m_ q=⟨11,0,0,ag,[],Q⟩)(v:Ry):
  fG N w r v=some (HY w (bif bu ⟨11,0,0,ag,[],Q++ [v]⟩ then kz w.Sb q ⟨11,0,0,ag,[],Q++ [v]⟩ else w.Sb)):=by
 have hs:=h.pl.hb.small
 have hQ:Q.length<=60:=by have:=(h.bd.cells _ (eo hq)).2;rw [aq] at this;exact this
 have h2:aB N w ⟨9,q,⟨#[]⟩⟩=some ⟨11,0,0,ag,[],Q⟩:=by
  rw [oS hs.cells IA (h.pl.hb.r64 _ (RQ _ (List.mem_of_getElem? hr))) hq];exact congrArg some aq
 have e:fu N ⟨9,q,⟨#[]⟩⟩=some true:=rfl;unfold fG;rw [hj,vU N hr,bs,h2,bs,rF (by simp only [List.length_cons,List.length_nil];omega)];unfold iI;rw [e,bs,ct,Oe hN hs hq ⟨by show 0<=600;omega,by show (Q++ [v]).length<=600;simp;omega⟩,bs,bs];cases bu ⟨11,0,0,ag,[],Q++ [v]⟩<;>rfl
section
variable {N n:Nat} {A:Ab} {w:Rn} (hN:6500<N) (h:WA n A w) (hn:n<60)
include hN h hn
theorem ML {c:Rk}(hr:bu c=true)(h0:c.Sn=0)(hk:c.Sa≠8/\c.Sa≠10)(hs:c.Sg.length<=2/\c.Sd.length<=40)(hv: ∀v∈c.Sg++c.Sd,in64 v.N/\(ba v=true->aD w.Sb.m_ v.N=true)):
  ∃w',dh N w c=some (⟨9,2*(w.Sb.m_.Se.length:Int)+1,⟨#[]⟩⟩,w')/\WA (n+1) A w'/\w'=HY w (G0 w.Sb c):=by
 refine ⟨_,Ow hN h.wh ⟨by omega,by omega⟩ hr h0,?_,J⟩;exact {h.up hn with wh:=h.wh.add hn hr hk hs hv}
theorem Oo {c:Rk}(hr:bu c=true)(h0:c.Sn=0)(hk:c.Sa≠8/\c.Sa≠10)(hs:c.Sg.length<=2/\c.Sd.length<=40)(hv: ∀v∈c.Sg++c.Sd,in64 v.N/\(ba v=true->aD w.Sb.m_ v.N=true)):
  (A.cM<=A.made/\df N w c=some (⟨0,0,⟨#[]⟩⟩,false,w))\/(A.made<A.cM/\ ∃w',df N w c=some (⟨7,2*(w.Sb.m_.Se.length:Int)+1,⟨#[]⟩⟩,true,w')/\WA (n+1) {A with made:=A.made+1} w'/\w'.Sb=G0 w.Sb c):=by
 have f:=h.fg.up;have hmd:=h.fg.md;unfold df;rw [h.cM,h.md];by_cases hc:A.cM<=A.made
 ·rw [RM hc,ct];exact .inl ⟨hc,J⟩
 rw [RN hc,cf,JN hN h.wh.young ⟨by omega,by omega⟩ hr h0,bs,RM (p:=(0:Int)=0) rfl,nt,cf,r64 V V];refine .inr ⟨by omega,_,rfl,?_,rfl⟩;exact {h.up hn with md:=J,wh:=h.wh.add hn hr hk hs hv,fg:=⟨f.st,by show 0<=A.made+1/\A.made+1<=_;omega,f.cl,f.ep,f.se,f.sy,f.ou,f.ev⟩}
theorem OI (x:Int): ∃w',kZ N w x=some w'/\WA (n+1) {A with roots:=bif decide (max x 20<A.roots) then max x 20 else A.roots} w':=by
 have hrl:=h.wh.rl;have f:=h.fg.up;have _:=hN;unfold kZ dZ aG;rw [bs,nf,ct,bs,show max (max x 20) 0=max x 20 by omega,h.rl]
 cases hd:decide (max x 20<A.roots) with
 |false=>exact ⟨_,rfl,{h.up hn with rl:=h.rl,fg:=⟨f.st,f.md,f.cl,f.ep,f.se,f.sy,f.ou,f.ev⟩}⟩
 |true=>
  have hlt:=of_decide_eq_true hd;have hlen:=h.rl;rw [ct,iq ⟨by omega,by omega⟩,bs];refine ⟨_,J,{h.up hn with rl:=?_,wh:=(h.wh.up hn).cut (m:=(max x 20).toNat) V,fg:=⟨f.st,f.md,f.cl,f.ep,f.se,f.sy,f.ou,f.ev⟩}⟩;show ((w.Sb.Si.take (max x 20).toNat).length:Int)=max x 20;rw [R0];omega
theorem Ou {x:Int}(h64:in64 x): ∃w',gQ N w (pH x)=some w'/\WA (n+1) A w':=by
 obtain ⟨q,k,qa,ka,Q,K,kl,b⟩:=h.wh.box
 have hK:K.length<=60:=by have:=(h.wh.bd.cells _ (eo b.hk)).2;rw [b.ak] at this;exact this
 unfold gQ;rw [HJ hN h.wh (r:=19) (j:=19) rfl b.r19 b.hk b.ak,bs];refine ⟨_,J,?_⟩
 cases hr:bu ⟨11,0,0,ka,[],K++ [pH x]⟩ with
 |false=>exact {h.up hn with rl:=h.rl}
 | true=>
  have hw:=h.wh.up hn;have hsm:=h.wh.bd.sum;have hcur:=(h.wh.pl.cells _ (eo b.hk)).1;rw [b.ak] at hcur;have hall:=(EL hr).2.2
  have h64K: ∀v∈K,in64 v.N:=fun v hv=>h.wh.pl.hb.w64 _ (eo b.hk) v (by rw [b.ak];exact RR _ hv)
  have hl:(K++ [pH x]).length=K.length+1:=by simp
  obtain ⟨-,r⟩:=hw.setK b (K':=K++ [pH x]) (fun v hv=>⟨hall v hv,by
   rcases List.mem_append.1 hv with hv|hv
   ·exact ⟨h64K v hv,b.kv v hv⟩
   ·obtain rfl:v=pH x:=by simpa using hv
    exact ⟨h64,J⟩⟩) V (by have:=h.wh.le;omega) V
  refine {h.up hn with rl:=?_,wh:=r};show (((bif true then kz w.Sb k ⟨11,0,0,ka,[],K++ [pH x]⟩ else w.Sb).Si).length:Int)=A.roots;rw [ct,(qR _ _ _).2.1];exact h.rl
theorem Kq {l:List Int}(hl:l.length<=40)(hm: ∀x∈l, -9007199254740992<=x/\x<=9007199254740992): ∃w',ik N w (l.map pH)=some w'/\WA (n+1) {A with jobs:=A.jobs++ [l]} w':=by
 have hr:bu ⟨11,0,0,0,[],l.map pH⟩=true:=by
  rw [rD V V,List.all_eq_true];intro v hv;obtain ⟨x,hx,rfl⟩:=List.mem_map.1 hv;exact Ll (hm x hx).1 (hm x hx).2
 have hcv: ∀v∈([]:List Ry)++l.map pH,in64 v.N/\(ba v=true->aD w.Sb.m_ v.N=true):=fun v hv=>by
  obtain ⟨x,hx,rfl⟩:=List.mem_map.1 (by simpa using hv);have:=hm x hx;exact ⟨by show in64 x;unfold in64;omega,fun hb=>by cases hb⟩
 obtain ⟨w1,e1,h1,e2⟩:=ML hN h hn (c:=⟨11,0,0,0,[],l.map pH⟩) hr rfl ⟨by show¬(11:Int)=8;omega,by show¬(11:Int)=10;omega⟩ ⟨by show 0<=2;omega,by show (l.map pH).length<=40;rw [R1];exact hl⟩ hcv;obtain ⟨q,k,qa,ka,Q,K,kl,b⟩:=h.wh.box;obtain ⟨a1,a2,a3,a4⟩:=F1 (m:=w.Sb.m_) (⟨11,0,0,0,[],l.map pH⟩:Rk)
 have b1:QK w1.Sb A.jobs q k qa ka Q K:=by
  rw [e2];exact ⟨b.r18,b.r19,b.ne,(a1 q b.hq).1,(a1 k b.hk).1,(a1 q b.hq).2.trans b.aq,(a1 k b.hk).2.trans b.ak,b.kv,b.ql,fun i v l h1 h2=>(b.job i v l h1 h2).mono fun x hx _ _=>a1 x hx⟩
 have hjl:=h.wh.jl;have hql:=b.ql;have hle:=h.wh.le;have hQr:=(h1.wh.pl.cells _ (eo b1.hq)).1;rw [b1.aq] at hQr;obtain ⟨q0,q1,qall⟩:=EL hQr
 have hnew:aD w1.Sb.m_ (2*(w.Sb.m_.Se.length:Int)+1)=true:=by rw [e2];exact a2
 have hmS:mS w1.Sb.m_.Se+mS w1.Sb.m_.Sc<=42*n+40:=by
  have:=h.wh.bd.sum;rw [e2];show mS (w.Sb.m_.Se++ [_])+mS w.Sb.m_.Sc<=_;unfold mS at this⊢;rw [qD];simp only [bQ,R1];omega
 have h64Q: ∀v∈Q,in64 v.N:=fun v hv=>h1.wh.pl.hb.w64 _ (eo b1.hq) v (by rw [b1.aq];exact RR _ hv)
 have hadQ: ∀v∈Q,ba v=true->aD w1.Sb.m_ v.N=true:=fun v hv _=>by
  obtain ⟨i,hi⟩:=List.mem_iff_getElem?.1 hv
  have hil:i<A.jobs.length:=by rw [<-b1.ql];exact (List.getElem?_eq_some_iff.1 hi).1
  obtain ⟨a,ag,rfl,g2, -⟩:=b1.job i v _ hi (List.getElem?_eq_getElem hil);exact g2
 have hYl:=h.wh.young
 obtain ⟨r1,r2⟩:=h1.wh.setQ b1 (Q':=Q++ [⟨9,2*(w.Sb.m_.Se.length:Int)+1,⟨#[]⟩⟩]) (jobs':=A.jobs++ [l]) V (by simp;omega) (fun v hv=>by
  rcases List.mem_append.1 hv with hv|hv
  ·exact ⟨qall v hv,h64Q v hv,hadQ v hv⟩
  ·obtain rfl:v=⟨9,2*(w.Sb.m_.Se.length:Int)+1,⟨#[]⟩⟩:=by simpa using hv
   exact ⟨Nt V,by show in64 (2*(w.Sb.m_.Se.length:Int)+1);unfold in64;omega,fun _=>hnew⟩) ⟨by simp,by simp;omega⟩ (by simp;omega) (by simp;exact b1.ql) (fun i v l' hi hl'=>by
  rcases Nat.lt_or_ge i Q.length with hlt|hge
  ·rw [List.getElem?_append_left hlt] at hi;rw [List.getElem?_append_left (by rw [<-b1.ql];exact hlt)] at hl';exact b1.job i v l' hi hl'
  ·rw [List.getElem?_append_right hge] at hi;rw [List.getElem?_append_right (by rw [<-b1.ql];exact hge), <-b1.ql] at hl';have hv:=List.mem_of_getElem? hi;have hj:=List.mem_of_getElem? hl'
   obtain rfl:v=⟨9,2*(w.Sb.m_.Se.length:Int)+1,⟨#[]⟩⟩:=by simpa using hv
   obtain rfl:l'=l:=by simpa using hj
   refine ⟨_,0,J,hnew,fun e=> ?_,fun e=> ?_,?_⟩
   ·have:=b.hq;rw [<-e,a4] at this;cases this
   ·have:=b.hk;rw [<-e,a4] at this;cases this
   ·rw [e2];exact a3)
 unfold ik;rw [e1,bs]
 dsimp only
 rw [HJ hN h1.wh (r:=18) (j:=18) rfl b1.r18 b1.hq b1.aq,bs,r1,ct];refine ⟨_,J,{h1 with rl:=?_,wh:=r2,fg:=⟨h1.fg.st,h1.fg.md,h1.fg.cl,h1.fg.ep,h1.fg.se,h1.fg.sy,h1.fg.ou,h1.fg.ev⟩}⟩;show (((kz w1.Sb q ⟨11,0,0,qa,[],Q++ [⟨9,2*(w.Sb.m_.Se.length:Int)+1,⟨#[]⟩⟩]⟩).Si).length:Int)=A.roots;rw [(qR _ _ _).2.1];exact h1.rl
end
end
section
open Go.RowKit
set_option maxRecDepth 20000
theorem Ix {N n:Nat}{jobs:List RL}{w:Rn}(h:WH n jobs w.Sb):kc N w=some (jobs.length:Int):=by
 obtain ⟨q,k,qa,ka,Q,K,kl,b⟩:=h.box
 have h2:aB N w ⟨9,q,⟨#[]⟩⟩=some ⟨11,0,0,qa,[],Q⟩:=by
  rw [oS h.pl.hb.small.cells IA (h.pl.hb.r64 _ (RQ _ (List.mem_of_getElem? b.r18))) b.hq];exact congrArg some b.aq
 have h1:aZ N w.Sb 18=some ⟨9,q,⟨#[]⟩⟩:=vU N b.r18;unfold kc;rw [h1,bs,h2,bs, <-b.ql]
section
variable {N n:Nat} {A:Ab} {w:Rn} (hN:6500<N) (h:WA n A w) (hn:n<60)
include hN h hn
theorem Ks:(A.jobs=[]/\eZ N w=some ([],false,w))\/ ∃l js,A.jobs=l::js/\ ∃w',eZ N w=some (l.map pH,true,w')/\WA (n+1) {A with jobs:=js} w':=by
 have hs:=h.wh.pl.hb.small;have f:=h.fg.up;unfold eZ;rw [Ix h.wh,bs]
 cases hj:A.jobs with
 |nil=>exact .inl ⟨rfl,rfl⟩
 | cons l js=>
  refine .inr ⟨l,js,J,?_⟩;obtain ⟨q,k,qa,ka,Q,K,kl,b⟩:=h.wh.box;have hql:=b.ql;rw [hj,List.length_cons] at hql;have hjl:=h.wh.jl;rw [hj,List.length_cons] at hjl;have hle:=h.wh.le
  obtain ⟨v,Q',rfl⟩: ∃v Q',Q=v::Q':=by
   cases Q with
   |nil=>simp at hql
   |cons v Q'=>exact ⟨v,Q',rfl⟩
  rw [List.length_cons] at hql
  have h2:aB N w ⟨9,q,⟨#[]⟩⟩=some ⟨11,0,0,qa,[],v::Q'⟩:=by
   rw [oS hs.cells IA (h.wh.pl.hb.r64 _ (RQ _ (List.mem_of_getElem? b.r18))) b.hq];exact congrArg some b.aq
  have h1:aZ N w.Sb 18=some ⟨9,q,⟨#[]⟩⟩:=vU N b.r18;obtain ⟨a,ag,rfl,g2,g3,g4,g5⟩:=b.job 0 v l rfl (by rw [hj];rfl)
  have h3:aB N w ⟨9,a,⟨#[]⟩⟩=some ⟨11,0,0,ag,[],l.map pH⟩:=by
   rw [oS hs.cells IA (tS hs g2) g2];exact congrArg some g5
  have hQr:=(h.wh.pl.cells _ (eo b.hq)).1;rw [b.aq] at hQr;obtain ⟨q0,q1,qall⟩:=EL hQr;have hsm:=h.wh.bd.sum
  obtain ⟨r1,r2⟩:=(h.wh.up hn).setQ b (Q':=Q') (jobs':=js) V V (fun v hv=>⟨qall v (List.mem_cons_of_mem _ hv),h.wh.pl.hb.w64 _ (eo b.hq) v (by rw [b.aq];exact RR _ (List.mem_cons_of_mem _ hv)),fun hb=>by
   obtain ⟨i,hi⟩:=List.mem_iff_getElem?.1 hv
   have hil:i<js.length:=by have:=(List.getElem?_eq_some_iff.1 hi).1;omega
   obtain ⟨a',ag',rfl,g', -⟩:=b.job (i+1) v js[i] (by rw [List.getElem?_cons_succ];exact hi) (by rw [hj,List.getElem?_cons_succ];exact List.getElem?_eq_getElem hil)
   exact g'⟩) ⟨by simp;omega,by omega⟩ (by simp;omega) V (fun i v l' h1 h2=>b.job (i+1) v l' (by rw [List.getElem?_cons_succ];exact h1) (by rw [hj,List.getElem?_cons_succ];exact h2))
  have hz: ¬(((l::js).length:Nat):Int)=0:=by rw [List.length_cons];omega
  have e:fu N ⟨9,q,⟨#[]⟩⟩=some true:=rfl
  have eQ:((((⟨9,a,⟨#[]⟩⟩:Ry)::Q').drop ((1:Int).toNat)).take (((⟨9,a,⟨#[]⟩⟩:Ry)::Q').length - (1:Int).toNat))=Q':=by
   show (Q'.take ((Q'.length+1) - 1))=Q';rw [Nat.add_sub_cancel,R2]
  have g0:au ((⟨9,a,⟨#[]⟩⟩:Ry)::Q') 0=some ⟨9,a,⟨#[]⟩⟩:=rfl;rw [RN hz,cf,h1,bs,h2,bs]
  dsimp only
  rw [g0,bs,h3,bs,iq ⟨by omega,by show 1<=Q'.length+1;omega,Nat.le_refl _⟩,eQ];unfold iI;rw [e,bs,ct,Oe hN hs b.hq ⟨by show 0<=600;omega,by show Q'.length<=600;omega⟩,r1,bs,bs];refine ⟨_,J,{h.up hn with rl:=?_,wh:=r2,fg:=⟨f.st,f.md,f.cl,f.ep,f.se,f.sy,f.ou,f.ev⟩}⟩;show (((kz w.Sb q ⟨11,0,0,qa,[],Q'⟩).Si).length:Int)=A.roots;rw [(qR _ _ _).2.1];exact h.rl
end
def G1 (o:Option ByteArray):Prop:= ∃s,o=some s/\s.size<=1000
theorem I6 (L:List ByteArray)(n:Int)(hn:(L.length:Int)=n)(hL:L.all (fun s=>decide (s.size<=1000))=true)(x:Int):G1 (((bif decide (x<0) then (some true) else (some (decide (n<=x)))):Option Bool).bind fun b2=>bif b2 then (some (⟨#[]⟩:ByteArray)) else ((au L x).bind fun x4=>some x4)):=by
 rw [List.all_eq_true] at hL;by_cases h0:x<0
 ·rw [cn h0,ct,bs,ct];exact ⟨_,J,by decide⟩
 rw [RN h0,cf,bs];by_cases h1:n<=x
 ·rw [RM h1,ct];exact ⟨_,J,by decide⟩
 rw [RN h1,cf];obtain ⟨i,rfl⟩: ∃i:Nat,x=i:=⟨x.toNat,by omega⟩
 have hi:i<L.length:=by omega
 rw [aK hi,bs];exact ⟨_,J,of_decide_eq_true (hL _ (R5 hi))⟩
theorem J5 (N:Nat)(x:Int):G1 (ge N x):=by
 unfold ge;exact I6 _ 4 (by rfl) I x
theorem MV (N:Nat)(x:Int):G1 (gz N x):=by
 unfold gz;exact I6 _ 22 (by rfl) I x
theorem Nb (M:Nat):cK (M+16) Nc 0 JC 5=some (1,0,IY):=by kernel_rfl
theorem Na (M:Nat):cK (M+16) IY 0 JC 5=some (1,0,IY):=by kernel_rfl
theorem KE (M:Nat):jL (M+64)=some true:=by kernel_rfl
theorem I3 {N:Nat}(hN:6500<N):cK N Nc 0 JC 5=some (1,0,IY):=by
 obtain ⟨M,rfl⟩: ∃M,N=M+16:=⟨N - 16,by omega⟩;exact Nb M
theorem I2 {N:Nat}(hN:6500<N):cK N IY 0 JC 5=some (1,0,IY):=by
 obtain ⟨M,rfl⟩: ∃M,N=M+16:=⟨N - 16,by omega⟩;exact Na M
theorem GY {N:Nat}(hN:6500<N):jL N=some true:=by
 obtain ⟨M,rfl⟩: ∃M,N=M+64:=⟨N - 64,by omega⟩;exact KE M
def zC (x:Int):ByteArray:=(ge 0 x).getD ⟨#[]⟩
def ut (x:Int):ByteArray:=(gz 0 x).getD ⟨#[]⟩
theorem GL (N:Nat)(x:Int):ge N x=some (zC x)/\(zC x).size<=1000:=by
 obtain ⟨s,h1,h2⟩:=J5 N x
 have e:zC x=s:=by
  have h3:ge 0 x=some s:=h1;unfold zC;rw [h3];rfl
 rw [e];exact ⟨h1,h2⟩
theorem EU (N:Nat)(x:Int):gz N x=some (ut x)/\(ut x).size<=1000:=by
 obtain ⟨s,h1,h2⟩:=MV N x
 have e:ut x=s:=by
  have h3:gz 0 x=some s:=h1;unfold ut;rw [h3];rfl
 rw [e];exact ⟨h1,h2⟩
end
section
open Go.RowKit
set_option maxRecDepth 20000
theorem Lk {a:Int}(h:1<=a):kB ⟨7,a,⟨#[]⟩⟩=true:=by
 have e:db 0 ⟨7,a,⟨#[]⟩⟩=some (decide (1<=a)):=by
  unfold db;kernel_rfl
 unfold kB;rw [e,RM h];rfl
theorem JL {s:ByteArray}(h:s.size<=1000):kB ⟨5,0,s⟩=true:=by
 have e:db 0 ⟨5,0,s⟩=some (decide ((s.size:Int)<=65536)):=by
  unfold db;kernel_rfl
 unfold kB;rw [e,RM (p:=(s.size:Int)<=65536) V];rfl
def zG (r:Int)(s:ByteArray):Rk:=⟨1,1,9,0,[⟨7,r,⟨#[]⟩⟩,⟨5,0,s⟩],[]⟩
theorem IL {r:Int}{s:ByteArray}(h1:1<=r)(h2:s.size<=1000):bu (zG r s)=true:=by
 unfold zG bu;simp only [List.all_nil,List.all_cons,Lk h1,JL h2,Bool.and_true,Bool.true_and];rfl
def N1 (w:Rn)(ev:List RF):Rn:=⟨w.Sr,w.Sh,(),w.Sb,w.Sf,w.St,w.Sy,w.Sx,w.Sz,ev,w.Su⟩
theorem KZ {N n:Nat}(hN:6500<N){A:Ab}{w:Rn}(h:WA n A w)(hn:n<60)(why:Int)(ev:List RF)(hev:ev.length<=n+1){j:Nat}(hj:j<18):
  (A.cM<=A.made/\ ∃w',cy N why (N1 w ev) (j:Int)=some (⟨6,2,⟨0,0,⟨#[]⟩⟩⟩,w')/\WA (n+1) {A with log:=ev} w')\/
  (A.made<A.cM/\ ∃a w',cy N why (N1 w ev) (j:Int)=some (⟨1,0,⟨7,a,⟨#[]⟩⟩⟩,w')/\WA (n+1) {A with log:=ev,made:=A.made+1} w'/\ ∃r,aB N w' ⟨7,a,⟨#[]⟩⟩=some (zG r (ut why))):=by
 have f:=h.fg.up;have hmd:=h.fg.md;obtain ⟨r,hr,hrh⟩:=h.wh.intr j hj;obtain ⟨w1,w2⟩:=EU N why;have hpos:=pq hrh;have hok:=IL (r:=r) (s:=ut why) V w2;have hroot:aZ N w.Sb (j:Int)=some ⟨7,r,⟨#[]⟩⟩:=vU N hr
 have hnx:cK N w.Sf 0 (⟨1,0,(⟨#[109,101,115,115,97,103,101]⟩:ByteArray)⟩:Rq) 5=some (1,0,IY):=by
  rcases h.sh with e|e
  ·rw [e];exact I3 hN
  rw [e];exact I2 hN
 have h64r:in64 r:=h.wh.pl.hb.r64 _ (RQ _ (List.mem_of_getElem? hr))
 have hv: ∀v∈(zG r (ut why)).Sg++(zG r (ut why)).Sd,in64 v.N/\(ba v=true->aD w.Sb.m_ v.N=true):=fun v hv=>by
  have hv':v∈[(⟨7,r,⟨#[]⟩⟩:Ry),⟨5,0,ut why⟩]:=by simpa [zG] using hv
  simp only [List.mem_cons,List.not_mem_nil,or_false] at hv';rcases hv' with rfl|rfl
  ·exact ⟨h64r,fun _=>hrh⟩
  exact ⟨by show in64 0;decide,fun hb=>by cases hb⟩
 have hk:(zG r (ut why)).Sa≠8/\(zG r (ut why)).Sa≠10:=⟨by show¬(1:Int)=8;omega,by show¬(1:Int)=10;omega⟩;have hadd:=h.wh.add hn hok hk ⟨by show 2<=2;omega,by show 0<=40;omega⟩ hv;have em:=JN hN h.wh.young (c:=zG r (ut why)) ⟨by show 2<=600;omega,by show 0<=600;omega⟩ hok rfl
 have base:cy N why (N1 w ev) (j:Int)=(df N (⟨w.Sr,w.Sh,(),w.Sb,IY,w.St,w.Sy,w.Sx,w.Sz,ev,w.Su⟩:Rn) (zG r (ut why))).bind fun a6=>kQ N a6.1.Sa a6.1.N a6.1.S a6.2.1 a6.2.2.Sr.SE a6.2.2.Sr.SC a6.2.2.Sr.SD a6.2.2.Sh.SI a6.2.2.Sh.SG a6.2.2.Sh.SA a6.2.2.Sh.SF a6.2.2.Sh.Se a6.2.2.Sh.SH a6.2.2.Sh.SJ a6.2.2.St a6.2.2.Sy a6.2.2.Sx a6.2.2.Sz a6.2.2.Sv a6.2.2.Su a6.2.2.Sb.m_.Se a6.2.2.Sb.m_.Sc a6.2.2.Sb.Si a6.2.2.Sb.Sq a6.2.2.Sf.Sf a6.2.2.Sf.Ss a6.2.2.Sb.So.at_:=by
  unfold cy;have hnx':cK N (N1 w ev).Sf 0 (⟨1,0,(⟨#[109,101,115,115,97,103,101]⟩:ByteArray)⟩:Rq) 5=some (1,0,IY):=hnx;have hroot':aZ N (N1 w ev).Sb (j:Int)=some ⟨7,r,⟨#[]⟩⟩:=hroot;rw [hnx',bs];show (bif !decide ((0:Int)=0) then _ else _)=_;rw [RM (p:=(0:Int)=0) rfl,nt,cf,w1,bs,hroot',bs];rfl
 rw [base];unfold df;have hM:(⟨w.Sr,w.Sh,(),w.Sb,IY,w.St,w.Sy,w.Sx,w.Sz,ev,w.Su⟩:Rn).Sh.SF=A.cM:=h.cM;have hm:(⟨w.Sr,w.Sh,(),w.Sb,IY,w.St,w.Sy,w.Sx,w.Sz,ev,w.Su⟩:Rn).Sr.SC=A.made:=h.md;rw [hM,hm];by_cases hc:A.cM<=A.made
 ·rw [RM hc,ct,bs];refine .inl ⟨hc,_,J,?_⟩;exact {h.up hn with sh:=.inr J,ev:=J,fg:=⟨f.st,f.md,f.cl,f.ep,f.se,f.sy,f.ou,hev⟩}
 rw [RN hc,cf];show (A.cM<=A.made/\ ∃w',Option.bind (Option.bind (ee N w.Sb _) _) _=_/\_)\/(A.made<A.cM/\ ∃a w',Option.bind (Option.bind (ee N w.Sb _) _) _=_/\_);rw [em,bs];show (A.cM<=A.made/\ ∃w',Option.bind (bif !decide ((0:Int)=0) then _ else _) _=_/\_)\/(A.made<A.cM/\ ∃a w',Option.bind (bif !decide ((0:Int)=0) then _ else _) _=_/\_);rw [RM (p:=(0:Int)=0) rfl,nt,cf,r64 V V,bs];refine .inr ⟨by omega,_,_,rfl,?_,r,?_⟩
 ·exact {h.up hn with sh:=.inr J,ev:=J,md:=J,wh:=hadd,fg:=⟨f.st,by show 0<=A.made+1/\A.made+1<=_;omega,f.cl,f.ep,f.se,f.sy,f.ou,hev⟩}
 obtain ⟨a1,a2,a3,a4⟩:=F1 (m:=w.Sb.m_) (zG r (ut why));have hs:=hadd.pl.hb.small;have e:=oS (N:=N) (w:=HY w (G0 w.Sb (zG r (ut why)))) hs.cells (v:=⟨7,2*(w.Sb.m_.Se.length:Int)+1,⟨#[]⟩⟩) rfl (tS hs a2) a2;exact e.trans (congrArg some a3)
set_option maxRecDepth 20000
def D2 (a b:Int):ByteArray:=bif !decide (b=0) then zC a++((⟨#[58,32]⟩:ByteArray)++ut b) else zC a
def Mm (a b:Int):RF:=⟨10,⟨0,0,⟨#[]⟩⟩,D2 a b⟩
def JB (A:Ab)(x:Int):ByteArray:=bif decide (x=1) then ⟨#[83,121,109,98,111,108,46,105,116,101,114,97,116,111,114]⟩ else (bif decide (x=2) then ⟨#[83,121,109,98,111,108,46,116,111,80,114,105,109,105,116,105,118,101]⟩ else (bif decide (x<3) then ⟨#[]⟩ else (bif decide ((A.syms.length:Int)<=x - 3) then ⟨#[]⟩ else A.syms.getD (x - 3).toNat ⟨#[]⟩)))
section
variable {N n:Nat} {A:Ab} {w:Rn} (hN:6500<N) (h:WA n A w) (hn:n<60)
include hN h hn
omit hN in
theorem NA (a b:Int)(s:ByteArray): ∃j:Nat,j<18/\dS N a b w s=cy N b (N1 w (A.log++ [⟨10,⟨0,0,⟨#[]⟩⟩,s⟩])) (j:Int):=by
 have hev:=h.fg.ev;unfold dS dH;rw [h.ev,rF (by simp only [List.length_cons,List.length_nil];omega),bs];by_cases h0:0<=a
 ·by_cases h1:a<=3
  ·rw [RM h0,RM h1,ct,bs,ct,r64 V V];refine ⟨(5+a).toNat,by omega,?_⟩;rw [show ((5+a).toNat:Int)=5+a by omega];rfl
  rw [RM h0,RN h1,ct,bs,cf];exact ⟨5,by omega,rfl⟩
 rw [RN h0,cf,bs,cf];exact ⟨5,by omega,rfl⟩
theorem MZ (a b:Int):
  (A.cM<=A.made/\ ∃w',dv N w a b=some (⟨6,2,⟨0,0,⟨#[]⟩⟩⟩,w')/\WA (n+1) {A with log:=A.log++ [Mm a b]} w')\/
  (A.made<A.cM/\ ∃p w',dv N w a b=some (⟨1,0,⟨7,p,⟨#[]⟩⟩⟩,w')/\WA (n+1) {A with log:=A.log++ [Mm a b],made:=A.made+1} w'/\ ∃r,aB N w' ⟨7,p,⟨#[]⟩⟩=some (zG r (ut b))):=by
 have hev:=h.fg.ev;obtain ⟨f1,f2⟩:=GL N a;obtain ⟨w1,w2⟩:=EU N b
 have e:dv N w a b=dS N a b w (D2 a b):=by
  unfold dv D2;rw [f1,bs]
  cases hb:!decide (b=0) with
  |false=>rw [cf,cf]
  |true=>
   rw [ct,ct,w1,bs,iq (by show 2+_<=_;omega),iq (by rw [ByteArray.size_append];show _+(2+_)<=_;omega)]
 obtain ⟨j,hj,e2⟩:=NA h hn a b (D2 a b) (N:=N);rw [e,e2];exact KZ hN h hn b _ (by simp;omega) hj
end
theorem On {N n:Nat}{A:Ab}{w:Rn}(h:WA n A w){x:Int}(h64:in64 x):fv N w ⟨6,x,⟨#[]⟩⟩=some (JB A x):=by
 unfold in64 at h64;unfold fv JB;rw [RM (p:=(6:Int)=6) rfl,nt,cf,h.sy]
 dsimp only
 by_cases c1:x=1
 ·rw [RM c1,ct,ct]
 rw [RN c1,cf,cf];by_cases c2:x=2
 ·rw [RM c2,ct,ct]
 rw [RN c2,cf,cf];by_cases c3:x<3
 ·rw [RM c3,ct,ct,bs,ct]
 rw [RN c3,cf,cf,iq (show in64 (x - 3) by unfold in64;omega),bs];by_cases c4:(A.syms.length:Int)<=x - 3
 ·rw [RM c4,ct,ct]
 rw [RN c4,cf,cf,iq (show in64 (x - 3) by unfold in64;omega)]
 have hi:(x - 3).toNat<A.syms.length:=by omega
 have e:=aK hi;rw [show ((x - 3).toNat:Int)=x - 3 by omega] at e;rw [e,bs,List.getD_eq_getElem?_getD,List.getElem?_eq_getElem hi];rfl
theorem FO {N:Nat}{w:Rn}{x:Rz}(hl:x.L.length<=40): ∀(m i:Nat) (acc:List Ry),x.L.length<m+i->i<=x.L.length->acc.length<=i->oU N w x m acc (i:Int)=oV N w (acc++(x.L.drop i).map pH)
 |0,i,acc,h1,h2,h3=>by omega
 | m+1,i,acc,h1,h2,h3=>by
  rw [oU.eq_2];rcases Nat.lt_or_ge i x.L.length with hi|hi
  ·rw [cn V,ct,aK hi,bs,rF (by simp only [List.length_cons,List.length_nil];omega),r64 V V];have:=FO (w:=w) (N:=N) hl m (i+1) (acc++ [pH x.L[i]]) V hi (by simp;omega);rw [RP] at this;refine Eq.trans this ?_;rw [List.drop_eq_getElem_cons hi];rfl
  obtain rfl:i=x.L.length:=by omega
  rw [cu V,cf,List.drop_length,List.map_nil,List.append_nil]
theorem Cq {N:Nat}{w:Rn}{l:List Int}{b:Bool}(hl:l.length<=60): ∀(m i:Nat) (acc:List Int),l.length<m+i->i<=l.length->acc.length<=i->oT N (l.map pH,b,w) m (i:Int) acc=some (⟨b,0,⟨#[]⟩,⟨0,0,⟨0,0,⟨#[]⟩⟩⟩,acc++l.drop i⟩,w)
 |0,i,acc,h1,h2,h3=>by omega
 | m+1,i,acc,h1,h2,h3=>by
  rw [oT.eq_2]
  dsimp only
  rw [R1];rcases Nat.lt_or_ge i l.length with hi|hi
  ·have e:au (l.map pH) (i:Int)=some (pH l[i]):=by
    rw [aK (by rw [R1];exact hi),List.getElem_map]
   rw [cn V,ct,e,bs,rF (by simp only [List.length_cons,List.length_nil];omega),r64 V V];have:=Cq (w:=w) (N:=N) (b:=b) hl m (i+1) (acc++ [l[i]]) V hi (by simp;omega);rw [RP] at this;refine Eq.trans this ?_;rw [List.drop_eq_getElem_cons hi];rfl
  obtain rfl:i=l.length:=by omega
  rw [cu V,cf,List.drop_length,List.append_nil];rfl
def P2 (x:Rz):Prop:=x.L.length<=40/\ ∀y∈x.L, -9007199254740992<=y/\y<=9007199254740992
theorem AY {N:Nat}{x:Rz}(hl:x.L.length<=8000000000000000000): ∀m i:Nat,x.L.length<m+i->i<=x.L.length-> ∃b,qe N x m (i:Int)=some b/\(b=true->x.L.length<=40/\ ∀y∈x.L.drop i, -9007199254740992<=y/\y<=9007199254740992)
 |0,i,h1,h2=>by omega
 | m+1,i,h1,h2=>by
  rw [qe.eq_2];rcases Nat.lt_or_ge i x.L.length with hi|hi
  ·rw [cn V,ct,aK hi,bs,bs];by_cases c1:x.L[i]< -9007199254740992
   ·rw [RM c1,ct,bs,ct];exact ⟨false,J,fun h=>by cases h⟩
   by_cases c2:9007199254740992<x.L[i]
   ·rw [RN c1,RM c2,cf,bs,ct];exact ⟨false,J,fun h=>by cases h⟩
   rw [RN c1,RN c2,cf,bs,cf,r64 V V];obtain ⟨b,e,hb⟩:=AY (N:=N) hl m (i+1) V hi;refine ⟨b,e,fun h=>⟨(hb h).1,fun y hy=> ?_⟩⟩;rw [List.drop_eq_getElem_cons hi] at hy;rcases List.mem_cons.1 hy with rfl|hy
   ·omega
   exact (hb h).2 y hy
  obtain rfl:i=x.L.length:=by omega
  rw [cu V,cf];refine ⟨_,J,fun h=>⟨?_,fun y hy=> ?_⟩⟩
  ·have:=of_decide_eq_true h;omega
  rw [List.drop_length] at hy;cases hy
theorem Ga {N:Nat}{x:Rz}(hl:x.L.length<N)(h9:x.L.length<=8000000000000000000): ∃b,rN N x=some b/\(b=true->P2 x):=by
 obtain ⟨b,e,hb⟩:=AY (N:=N) (x:=x) h9 N 0 V V;exact ⟨b,e,fun h=>by have:=hb h;rw [List.drop_zero] at this;exact this⟩
end
section
open Go.RowKit
set_option maxRecDepth 20000
def OS:RH:=⟨0,0,⟨0,0,⟨#[]⟩⟩⟩
def rQ (b:Bool):Rj:=⟨b,0,⟨#[]⟩,OS,[]⟩
def I1 (x:Int):Rj:=⟨false,x,⟨#[]⟩,OS,[]⟩
def N6 (s:ByteArray):Rj:=⟨false,0,s,OS,[]⟩
def E4 (A:Ab)(x:Rz):Ab×Rj:=
 bif decide (x.Sa=6) then ({A with out:=A.out++ [x.S],log:=A.log++ [⟨1,⟨0,0,⟨#[]⟩⟩,x.S⟩]},rQ false)
 else bif decide (x.Sa=7) then ({A with log:=A.log++ [⟨x.N,⟨0,0,⟨#[]⟩⟩,x.S⟩]},rQ false)
 else bif decide (x.Sa=8) then (bif decide (A.cM<=A.made) then ({A with log:=A.log++ [Mm x.N x.M]},⟨false,0,⟨#[]⟩,⟨6,2,⟨0,0,⟨#[]⟩⟩⟩,[]⟩) else ({A with log:=A.log++ [Mm x.N x.M],made:=A.made+1},⟨false,0,ut x.M,⟨1,0,⟨0,0,⟨#[]⟩⟩⟩,[]⟩))
 else bif decide (x.Sa=10) then ({A with jobs:=A.jobs++ [x.L]},rQ false)
 else bif decide (x.Sa=11) then (match A.jobs with
  | []=>(A,rQ false)
  |l::js=>({A with jobs:=js},⟨true,0,⟨#[]⟩,OS,l⟩))
 else bif decide (x.Sa=15) then (A,rQ false)
 else bif decide (x.Sa=16) then (A,rQ false)
 else bif decide (x.Sa=17) then (A,N6 (JB A x.N))
 else (A,rQ false)
def C5 (A:Ab)(x:Rz):Ab×Rj:=
 bif decide (x.Sa=0) then (bif decide (A.cS<=A.steps) then A else {A with steps:=A.steps+1},rQ (!decide (A.cS<=A.steps)))
 else bif decide (x.Sa=1) then (bif decide (A.cC<=A.calls) then A else {A with calls:=A.calls+1},rQ (!decide (A.cC<=A.calls)))
 else bif decide (x.Sa=2) then (bif decide (0<A.calls) then {A with calls:=A.calls - 1} else A,rQ false)
 else bif decide (x.Sa=3) then (bif decide (A.cM<=A.made) then A else {A with made:=A.made+1},rQ (!decide (A.cM<=A.made)))
 else bif decide (x.Sa=4) then ({A with syms:=A.syms++ [x.S]},I1 ((A.syms.length:Int)+3))
 else bif decide (x.Sa=5) then ({A with epoch:=A.epoch+1},rQ false)
 else bif decide (x.Sa=9) then ({A with sleep:=IntKind.i64.wrap (A.sleep+x.N)},rQ false)
 else bif decide (x.Sa=12) then ({A with serial:=A.serial+1},I1 (A.serial+1))
 else bif decide (x.Sa=13) then ({A with roots:=A.roots+1},I1 A.roots)
 else bif decide (x.Sa=14) then ({A with roots:=bif decide (max x.N 20<A.roots) then max x.N 20 else A.roots},rQ false)
 else E4 A x
section
variable {N n:Nat} {A:Ab} {w:Rn} (hN:6500<N) (h:WA n A w) (hn:n<60) {x:Rz} (hN64:in64 x.N) (hL:P2 x)
include hN h hn hN64 hL
theorem Lh: ∃w',tq N w x=some ((E4 A x).2,w')/\WA (n+1) (E4 A x).1 w':=by
 unfold tq E4;by_cases k:x.Sa=6
 ·rw [RM k,ct,ct];obtain ⟨w',e,r⟩:=Nh h hn N x.S;rw [e,bs];exact ⟨w',J,r⟩
 rw [RN k,cf,cf];clear k;by_cases k:x.Sa=7
 ·rw [RM k,ct,ct];obtain ⟨w',e,r⟩:=Pg h hn N ⟨x.N,⟨0,0,⟨#[]⟩⟩,x.S⟩;rw [e,bs];exact ⟨w',J,r⟩
 rw [RN k,cf,cf];clear k;by_cases k:x.Sa=8
 ·rw [RM k,ct,ct];rcases MZ hN h hn x.N x.M with ⟨hc,w',e,r⟩|⟨hc,p,w',e,r,q,ec⟩
  ·rw [e,bs,RM hc,ct];exact ⟨w',J,r⟩
  rw [e,bs,RN (p:=A.cM<=A.made) V,cf]
  dsimp only
  rw [RM (p:=(1:Int)=1) rfl,ct,ec,bs];exact ⟨w',J,r⟩
 rw [RN k,cf,cf];clear k;by_cases k:x.Sa=10
 ·rw [RM k,ct,ct];obtain ⟨w',e,r⟩:=Kq hN h hn hL.1 hL.2;have e0:=FO (N:=N) (w:=w) hL.1 N 0 [] (by have:=hL.1;omega) V (by simp);rw [R4,List.drop_zero] at e0;rw [show ((0:Nat):Int)=0 from rfl] at e0;rw [e0];unfold oV;rw [e,bs];exact ⟨w',J,r⟩
 rw [RN k,cf,cf];clear k;by_cases k:x.Sa=11
 ·rw [RM k,ct,ct];rcases Ks hN h hn with ⟨hj,e⟩|⟨l,js,hj,w',e,r⟩
  ·rw [e,bs,hj];have e0:=Cq (N:=N) (w:=w) (l:=[]) (b:=false) (by simp) N 0 [] (by simp;omega) (by simp) (by simp);exact ⟨w,e0,h.up hn⟩
  have hl:l.length<=60:=by
   obtain ⟨q,k,qa,ka,Q,K,kl,b⟩:=h.wh.box;obtain ⟨v,hv⟩: ∃v,Q[0]? =some v:=⟨_,List.getElem?_eq_getElem (by have:=b.ql;rw [hj,List.length_cons] at this;omega)⟩;obtain ⟨a,ag, -,g2, -, -,g5⟩:=b.job 0 v l hv (by rw [hj];rfl);have:=(h.wh.bd.cells _ (eo g2)).2;rw [g5] at this;simpa using this
  rw [e,bs,hj];have e0:=Cq (N:=N) (w:=w') (l:=l) (b:=true) hl N 0 [] V (by simp) (by simp);rw [R4,List.drop_zero] at e0;exact ⟨w',e0,r⟩
 rw [RN k,cf,cf];clear k;by_cases k:x.Sa=15
 ·rw [RM k,ct,ct];obtain ⟨w',e,r, -⟩:=ML hN h hn (c:=⟨11,0,0,0,[],[]⟩) (by rw [rD V V];rfl) rfl ⟨by show¬(11:Int)=8;omega,by show¬(11:Int)=10;omega⟩ ⟨by show 0<=2;omega,by show 0<=40;omega⟩ (fun v hv=>by simp at hv);have eb:yZ N=some ⟨11,0,0,0,[],[]⟩:=rfl;rw [eb,bs,e,bs];exact ⟨w',J,r⟩
 rw [RN k,cf,cf];clear k;by_cases k:x.Sa=16
 ·rw [RM k,ct,ct];obtain ⟨w',e,r⟩:=Ou hN h hn hN64;have e':gQ N w ⟨3,x.N,⟨#[]⟩⟩=some w':=e;rw [e',bs];exact ⟨w',J,r⟩
 rw [RN k,cf,cf];clear k;by_cases k:x.Sa=17
 ·rw [RM k,ct,ct,On h hN64,bs];exact ⟨w,J,h.up hn⟩
 rw [RN k,cf,cf];exact ⟨w,J,h.up hn⟩
theorem MP: ∃w',qy N w x=some ((C5 A x).2,w')/\WA (n+1) (C5 A x).1 w':=by
 unfold qy C5;by_cases k:x.Sa=0
 ·rw [RM k,ct,ct];obtain ⟨w',e,r⟩:=N8 hN h hn;rw [e,bs];exact ⟨w',J,r⟩
 rw [RN k,cf,cf];clear k;by_cases k:x.Sa=1
 ·rw [RM k,ct,ct];obtain ⟨w',e,r⟩:=NG h hn N;rw [e,bs];exact ⟨w',J,r⟩
 rw [RN k,cf,cf];clear k;by_cases k:x.Sa=2
 ·rw [RM k,ct,ct];obtain ⟨w',e,r⟩:=Nz h hn N;rw [e,bs];exact ⟨w',J,r⟩
 rw [RN k,cf,cf];clear k;by_cases k:x.Sa=3
 ·rw [RM k,ct,ct];have et:uC N=some ⟨1,0,1,0,[⟨1,0,⟨#[]⟩⟩],[]⟩:=rfl;rw [et,bs]
  have hm:bu ⟨1,0,1,0,[⟨1,0,⟨#[]⟩⟩],[]⟩=true:=by kernel_rfl
  rcases Oo hN h hn (c:=⟨1,0,1,0,[⟨1,0,⟨#[]⟩⟩],[]⟩) hm rfl ⟨by show¬(1:Int)=8;omega,by show¬(1:Int)=10;omega⟩ ⟨by show 1<=2;omega,by show 0<=40;omega⟩ (fun v hv=>by
   obtain rfl:v=⟨1,0,⟨#[]⟩⟩:=by simpa using hv
   exact ⟨by show in64 0;decide,fun hb=>by cases hb⟩) with ⟨hc,e⟩|⟨hc,w',e,r, -⟩
  ·rw [e,bs,RM hc,ct];exact ⟨w,J,h.up hn⟩
  rw [e,bs,RN (p:=A.cM<=A.made) V,cf];exact ⟨w',J,r⟩
 rw [RN k,cf,cf];clear k;by_cases k:x.Sa=4
 ·rw [RM k,ct,ct];obtain ⟨w',e,r⟩:=K0 h hn N x.S;rw [e,bs];exact ⟨w',J,r⟩
 rw [RN k,cf,cf];clear k;by_cases k:x.Sa=5
 ·rw [RM k,ct,ct];obtain ⟨w',e,r⟩:=MY h hn N;rw [e,bs];exact ⟨w',J,r⟩
 rw [RN k,cf,cf];clear k;by_cases k:x.Sa=9
 ·rw [RM k,ct,ct];obtain ⟨w',e,r⟩:=My h hn N x.N;rw [e,bs];exact ⟨w',J,r⟩
 rw [RN k,cf,cf];clear k;by_cases k:x.Sa=12
 ·rw [RM k,ct,ct];obtain ⟨w',e,r⟩:=K4 h hn N;rw [e,bs];exact ⟨w',J,r⟩
 rw [RN k,cf,cf];clear k;by_cases k:x.Sa=13
 ·rw [RM k,ct,ct];obtain ⟨w',e,r⟩:=Of h hn N (v:=⟨3,x.N,⟨#[]⟩⟩) rfl hN64;rw [e,bs];exact ⟨w',J,r⟩
 rw [RN k,cf,cf];clear k;by_cases k:x.Sa=14
 ·rw [RM k,ct,ct];obtain ⟨w',e,r⟩:=OI hN h hn x.N;rw [e,bs];exact ⟨w',J,r⟩
 rw [RN k,cf,cf];obtain ⟨w',e,r⟩:=Lh hN h hn hN64 hL;rw [e,bs];exact ⟨w',J,r⟩
end
end
section
open Go.RowKit
set_option maxRecDepth 20000
def Jk (n:Nat):Nat ⊕ Ry:=if n=0 then .inr ⟨1,0,⟨#[]⟩⟩ else if n=6\/n=7\/n=8 then .inl 5 else if n=4\/n=16 then .inl 3 else .inl 0
def T0:List Tm:=(List.range 18).map (fun n=>⟨7,1,if n=17 then 1 else 17,[Jk n],[]⟩)++ [⟨9,11,0,[],[]⟩,⟨9,11,0,[],[]⟩]
def QH (x:Int):Tm:=⟨9,11,0,[],[⟨3,x,⟨#[]⟩⟩]⟩
def Pb (g:RG)(T:List Tm):Bool:=decide (g.Si.length=T.length)&&(List.range T.length).all fun j=>match T[j]?,g.Si[j]? with
 |some t,some v=>decide (v.Sa=t.k)&&decide (v.S=⟨#[]⟩)&&aD g.m_ v.N&&decide (bq g.m_ v.N=PM g.Si t (bq g.m_ v.N).Sn)
 |_,_=>false
theorem Nf {g:RG}{T:List Tm}(h:Pb g T=true):RT g T:=by
 unfold Pb at h;rw [R3,decide_eq_true_eq,List.all_eq_true] at h;refine ⟨h.1,fun j t ht=> ?_⟩;have hj:j<T.length:=(List.getElem?_eq_some_iff.1 ht).1;have h2:=h.2 j (List.mem_range.2 hj);obtain ⟨v,hr⟩: ∃v,g.Si[j]? =some v:=⟨_,List.getElem?_eq_getElem (by rw [h.1];exact hj)⟩;rw [ht,hr] at h2;obtain ⟨vk,vn,vs⟩:=v;simp only [R3,decide_eq_true_eq] at h2;obtain ⟨⟨⟨a1,a2⟩,a3⟩,a4⟩:=h2;exact ⟨vn,_,by rw [hr,a1,a2],a3,a4⟩
def O8 (T:List Tm):Bool:=T.all fun t=>(decide (t.k=7)||decide (t.k=9))&&t.sl.all (fun x=>match x with| .inl i=>decide (i<T.length)| .inr v=> !ba v)&&t.mo.all fun v=> !ba v
theorem N7 {T:List Tm}(h:O8 T=true):TmOk T:=by
 unfold O8 at h;rw [List.all_eq_true] at h
 have key: ∀t∈T,(t.k=7\/t.k=9)/\(∀x∈t.sl,(match x with| .inl i=>decide (i<T.length)| .inr v=> !ba v)=true)/\ ∀v∈t.mo,(!ba v)=true:=fun t ht=>by
  have:=h t ht;rw [R3,R3,Bool.or_eq_true,decide_eq_true_eq,decide_eq_true_eq,List.all_eq_true,List.all_eq_true] at this;exact ⟨this.1.1,this.1.2,this.2⟩
 refine ⟨fun t ht=>(key t ht).1,fun t ht i hi=> ?_,fun t ht v hv=> ?_⟩
 ·have:=(key t ht).2.1 _ hi;exact of_decide_eq_true this
 rcases hv with hv|hv
 ·have:=(key t ht).2.1 _ hv
  cases hb:ba v with
  |false=>rfl
  |true=>rw [show (match (Sum.inr v:Nat ⊕ Ry) with| .inl i=>decide (i<T.length)| .inr v=> !ba v)=!ba v from rfl,hb] at this;cases this
 have:=(key t ht).2.2 _ hv
 cases hb:ba v with
 |false=>rfl
 |true=>rw [hb] at this;cases this
def Fv (v:Ry):Bool:=decide (-9223372036854775808<=v.N)&&decide (v.N<=9223372036854775807)
theorem JX {v:Ry}(h:Fv v=true):in64 v.N:=by
 unfold Fv at h;rw [R3,decide_eq_true_eq,decide_eq_true_eq] at h;exact h
def PX (g:RG)(c:Rk):Bool:=decide (c.Sg.length<=1)&&(decide (c.Sd.length<=1)&&(bu c&&((bT c).all (aD g.m_)&&(!decide (c.Sa=8)&&(!decide (c.Sa=10)&&(c.Sg++c.Sd).all Fv)))))
def Pa (n:Nat)(g:RG)(T:List Tm):Bool:=
 decide (g.m_.Se.length+g.m_.Sc.length<=n)&&(decide (g.Si.length<=n)&&(g.Sq.isEmpty&&(decide (g.So.at_.map Prod.fst=jB g.m_)&&((g.m_.Se++g.m_.Sc).all (PX g)&&(g.Si.all Fv&&((bH g.Si).all (aD g.m_)&&(Pb g T&&O8 T)))))))
theorem MG {n:Nat}(hn:n<=70){g:RG}{T:List Tm}(h:Pa n g T=true):RW n g T:=by
 unfold Pa at h;simp only [R3,decide_eq_true_eq,List.all_eq_true,List.isEmpty_iff] at h;obtain ⟨h1,h2,h3,h4,h5,h6,h7,h8,h9⟩:=h
 have hc: ∀c∈g.m_.Se++g.m_.Sc,c.Sg.length<=1/\c.Sd.length<=1/\bu c=true/\(∀x∈bT c,aD g.m_ x=true)/\c.Sa≠8/\c.Sa≠10/\ ∀v∈c.Sg++c.Sd,Fv v=true:=fun c hc=>by
  have:=h5 c hc;unfold PX at this;simpa only [R3,decide_eq_true_eq,List.all_eq_true,Bool.not_eq_true',decide_eq_false_iff_not] using this
 have sm:Sm n g:=⟨h1,h2,fun c h=>⟨(hc c h).1,(hc c h).2.1⟩⟩;obtain ⟨n1,n2⟩:=Fs h4;exact ⟨hn,sm,⟨Ox hn sm h3 (fun c h v hv=>JX ((hc c h).2.2.2.2.2.2 v hv)) (fun v hv=>JX (h6 v hv)) n1 n2,h3,fun c h=>⟨(hc c h).2.2.1,(hc c h).2.2.2.1,(hc c h).2.2.2.2.1,(hc c h).2.2.2.2.2.1⟩,h7,Oa h4⟩,Nf h8,N7 h9⟩
def gN0:RG:=match iL 7000 (⟨0,100,1,40,0,0,0⟩:Rs) with
 |some (.inr w)=>w.1.Sb
 |_=>⟨⟨[],[]⟩,[],[],⟨[]⟩⟩
theorem JY:Pa 20 gN0 T0=true:=by kernel_rfl
set_option maxRecDepth 20000
theorem Nr (M a b c d e f g:Int)(K:Nat)(h:kF (K+64) (⟨a,b,c,d,e,f,g⟩:Rs)=some true):iL (K+64) (⟨a,b,c,d,e,f,g⟩:Rs)=some (.inr ((⟨⟨0,0,0⟩,⟨a,b,c,d,e,f,g⟩,(),gN0,Nc,[],0,0,0,[],[]⟩:Rn),0)):=by
 unfold iL;rw [h,bs,nt,cf];kernel_rfl
def w0 (c:Rs):Rn:=⟨⟨0,0,0⟩,c,(),gN0,Nc,[],0,0,0,[],[]⟩
theorem Jz {N:Nat}(hN:6500<N){c:Rs}(h:kF N c=some true):iL N c=some (.inr (w0 c,0)):=by
 obtain ⟨K,rfl⟩: ∃K,N=K+64:=⟨N - 64,by omega⟩;obtain ⟨a,b,c,d,e,f,g⟩:=c;exact Nr 0 a b c d e f g K h
theorem Lv:mS gN0.m_.Se+mS gN0.m_.Sc=0:=by kernel_rfl
theorem NC:gN0.Si[18]? ≠gN0.Si[19]? :=by
 have h:decide (gN0.Si[18]? =gN0.Si[19]?)=false:=by kernel_rfl
 exact of_decide_eq_false h
theorem Qh:WH 0 [] gN0:=by
 have r:=MG V JY;have hl:gN0.Si.length=20:=r.rt.len;obtain ⟨q,qa,q1,q2,q3⟩:=r.rt.at_ 18 ⟨9,11,0,[],[]⟩ rfl;obtain ⟨k,ka,k1,k2,k3⟩:=r.rt.at_ 19 ⟨9,11,0,[],[]⟩ rfl;refine ⟨by omega,⟨by have:=r.sm.cnt;omega,by omega,fun c hc=>by have:=r.sm.cells c hc;omega,by rw [Lv];omega⟩,r.pl,by omega,fun j hj=> ?_,fun j v hj hv=> ?_,⟨q,k,qa,ka,[],[],by simp,q1,k1,fun e=>NC ?_,q2,k2,q3,k3,fun v hv=>(List.not_mem_nil hv).elim,rfl,fun i v l h1 _=>by cases h1⟩,by simp⟩
 ·have ht:T0[j]? =some ⟨7,1,if j=17 then 1 else 17,[Jk j],[]⟩:=by
   unfold T0;rw [List.getElem?_append_left (by simp;omega),List.getElem?_map,List.getElem?_range hj];rfl
  obtain ⟨a,ag,h1,h2, -⟩:=r.rt.at_ j _ ht;exact ⟨a,h1,h2⟩
 ·have:=(List.getElem?_eq_some_iff.1 hv).1;omega
 rw [q1,k1,e]
def A0 (c:Rs):Ab:=⟨c.SG,c.SA,c.SF,0,0,0,0,0,0,20,[],[],[],[]⟩
theorem PK (c:Rs):WA 0 (A0 c) (w0 c):=by
 have r:=MG V JY;have hl:gN0.Si.length=20:=r.rt.len;exact ⟨J,J,J,J,J,J,J,J,J,J,J,J,by show (gN0.Si.length:Int)=20;rw [hl];rfl,.inl rfl,Qh,⟨⟨by show (0:Int)<=0;omega,by show (0:Int)<=0;omega⟩,⟨by show (0:Int)<=0;omega,by show (0:Int)<=0;omega⟩,⟨by show (0:Int)<=0;omega,by show (0:Int)<=0;omega⟩,⟨by show (0:Int)<=0;omega,by show (0:Int)<=0;omega⟩,⟨by show (0:Int)<=0;omega,by show (0:Int)<=0;omega⟩,by show 0<=0;omega,by show 0<=0;omega,by show 0<=0;omega⟩⟩
theorem Du {N:Nat}(l:List Int)(hl:l.length<=8000000000000000000): ∀m i:Nat,l.length<m+i->i<=l.length->rO N l l m (i:Int)=some true
 |0,i,h1,h2=>by omega
 | m+1,i,h1,h2=>by
  rw [rO.eq_2];rcases Nat.lt_or_ge i l.length with hi|hi
  ·rw [cn V,ct,aK hi,bs,bs,RM (p:=l[i]=l[i]) rfl,nt,cf,r64 V V];exact Du l hl m (i+1) V hi
  rw [cu V,cf];rfl
theorem HZ {N:Nat}(t:Rj)(hl:t.L.length<=8000000000000000000)(hN:t.L.length<N):qx N t t=some true:=by
 unfold qx xh;rw [beq_self_eq_true,ct,RM (p:=t.N=t.N) rfl,bs,ct,beq_self_eq_true,bs,ct,RM (p:=t.SO=t.SO) rfl,bs,ct,RM (p:=(t.L.length:Int)=(t.L.length:Int)) rfl,nt,cf];have:=Du (N:=N) t.L hl N 0 V V;rw [show ((0:Nat):Int)=0 from rfl] at this;rw [this];rfl
def LQ (A:Ab)(p:Ab×Rj):Prop:=p.2.L=[]\/p.2.L∈A.jobs
theorem Ej {A:Ab}{c:Bool}{a b:Ab×Rj}(ha:LQ A a)(hb:LQ A b):LQ A (bif c then a else b):=by
 cases c
 ·exact hb
 exact ha
theorem Nd (A:Ab)(x:Rz):LQ A (C5 A x):=by
 unfold C5;refine Ej (.inl J) (Ej (.inl J) (Ej (.inl J) (Ej (.inl J) (Ej (.inl J) (Ej (.inl J) (Ej (.inl J) (Ej (.inl J) (Ej (.inl J) (Ej (.inl J) ?_)))))))));unfold E4;refine Ej (.inl J) (Ej (.inl J) (Ej (Ej (.inl J) (.inl J)) (Ej (.inl J) (Ej ?_ (Ej (.inl J) (Ej (.inl J) (Ej (.inl J) (.inl J))))))))
 cases hj:A.jobs with
 |nil=>exact .inl rfl
 |cons l js=>exact .inr (by rw [hj];exact List.mem_cons_self ..)
theorem WA.jobL {n:Nat}{A:Ab}{w:Rn}(h:WA n A w){l:List Int}(hl:l∈A.jobs):l.length<=60:=by
 obtain ⟨q,k,qa,ka,Q,K,kl,b⟩:=h.wh.box;obtain ⟨i,hi⟩:=List.mem_iff_getElem?.1 hl;have hil:=(List.getElem?_eq_some_iff.1 hi).1;obtain ⟨a,ag, -,g2, -, -,g5⟩:=b.job i _ l (List.getElem?_eq_getElem (by rw [b.ql];exact hil)) hi;have:=(h.wh.bd.cells _ (eo g2)).2;rw [g5] at this;simpa using this
theorem WA.tl {n:Nat}{A:Ab}{w:Rn}(h:WA n A w)(x:Rz):(C5 A x).2.L.length<=60:=by
 rcases Nd A x with e|e
 ·rw [e];simp
 exact h.jobL e
section
variable (N:Nat) (l:List Rz) (wa wb:Rn)
def PI:Option Bool:=(cH N wa).bind fun a1=>(cH N wb).bind fun a2=>(bif decide ((a1.length:Int)=(a2.length:Int)) then ((eA N wa).bind fun a6=>(eA N wb).bind fun a7=>some (decide ((a6.length:Int)=(a7.length:Int)))) else (some false)).bind fun a8=>(bif a8 then ((dw N wa).bind fun b0=>(dw N wb).bind fun b1=>some (decide (b0=b1))) else (some false)).bind fun b2=>(bif b2 then ((dg N wa).bind fun b3=>(dg N wb).bind fun b4=>some (decide (b3=b4))) else (some false)).bind fun b5=>(bif b5 then ((cr N wa).bind fun b6=>(cr N wb).bind fun b7=>some (decide (b6=b7))) else (some false)).bind fun b8=>(bif b8 then ((fh N wa).bind fun c9=>(dQ N wa.Sb).bind fun b9=>some (decide (b9=0))) else (some false)).bind fun c0=>(bif c0 then ((fh N wb).bind fun d0=>(dQ N wb.Sb).bind fun c5=>some (decide (c5=0))) else (some false)).bind fun c6=>(bif c6 then ((jL N).bind fun c7=>some c7) else (some false)).bind fun c8=>some c8
end
theorem FM (N:Nat){n:Nat}{A:Ab}{w:Rn}(h:WA n A w):cH N w=some A.log:=by
 have:=h.fg.ev;have:=h.wh.le;unfold cH;rw [h.ev,rF (by simp only [List.length_nil];omega),R4]
theorem Fa (N:Nat){n:Nat}{A:Ab}{w:Rn}(h:WA n A w):eA N w=some A.out:=by
 have:=h.fg.ou;have:=h.wh.le;unfold eA;rw [h.ou,rF (by simp only [List.length_nil];omega),R4]
theorem Bc (N:Nat){n:Nat}{A:Ab}{w:Rn}(h:WA n A w):dw N w=some A.steps:=by
 have e:dw N w=some w.Sr.SE:=rfl;rw [e,h.st]
theorem Dr (N:Nat){n:Nat}{A:Ab}{w:Rn}(h:WA n A w):dg N w=some A.made:=by
 have e:dg N w=some w.Sr.SC:=rfl;rw [e,h.md]
theorem MJ (N:Nat){n:Nat}{A:Ab}{w:Rn}(h:WA n A w):cr N w=some A.roots:=by
 have:=h.wh.bd.rts;have:=h.wh.le;rw [zu N V,h.rl]
theorem OE {N:Nat}(hN:6500<N){n:Nat}{A:Ab}{wa wb:Rn}(ha:WA n A wa)(hb:WA n A wb):PI N wa wb=some true:=by
 have eh: ∀w,fh N w=some ():=fun _=>rfl
 unfold PI;rw [FM N ha,FM N hb,bs,bs,RM (p:=(A.log.length:Int)=(A.log.length:Int)) rfl,ct,Fa N ha,Fa N hb,bs,bs,RM (p:=(A.out.length:Int)=(A.out.length:Int)) rfl,bs,ct,Bc N ha,Bc N hb,bs,bs,RM (p:=A.steps=A.steps) rfl,bs,ct,Dr N ha,Dr N hb,bs,bs,RM (p:=A.made=A.made) rfl,bs,ct,MJ N ha,MJ N hb,bs,bs,RM (p:=A.roots=A.roots) rfl,bs,ct,eh,bs,ha.wh.pl.ok hN,bs,RM (p:=(0:Int)=0) rfl,bs,ct,eh,bs,hb.wh.pl.ok hN,bs,RM (p:=(0:Int)=0) rfl,bs,ct,GY hN,bs,bs]
def PD (N:Nat)(x:Rz):Prop:=in64 x.N/\x.L.length<N/\x.L.length<=8000000000000000000
theorem E8 (N:Nat)(y f:Int)(hy:0<=y/\y<=9)(hf:0<=f/\f<=9):kF N (⟨0,40,5,20,y,f,0⟩:Rs)=some true:=by
 unfold kF dl;simp only [RM (p:=(0:Int)<=y) hy.1,RM (p:=(0:Int)<=f) hf.1,RM (p:=y<=1073741824) V,RM (p:=f<=1073741824) V];rfl
end
section
open Go.RowKit
def GW:List Rz->Nat
 | []=>7000
 |x::l=>x.L.length+GW l
theorem GV: ∀(l:List Rz),7000<=GW l/\ ∀x∈l,x.L.length<GW l
 | []=>⟨Nat.le_refl _,fun x hx=>by cases hx⟩
 |y::l=>by
  obtain ⟨h1,h2⟩:=GV l;refine ⟨by show 7000<=y.L.length+GW l;omega,fun x hx=> ?_⟩;show x.L.length<y.L.length+GW l;rcases List.mem_cons.1 hx with rfl|hx
  ·omega
  have:=h2 x hx;omega
theorem Lb {l:List Rz}(h:OK (fun z=>DY z) l): ∀x∈l,PD (GW l) x:=fun x hx=>by
 obtain ⟨-,h1, -, -,h2⟩:=h.2 x hx;exact ⟨h1,(GV l).2 x hx,Nat.le_trans h2.1 (by decide)⟩
end
end Go.Proofs.YtjmonlcchlkdhaaGreat