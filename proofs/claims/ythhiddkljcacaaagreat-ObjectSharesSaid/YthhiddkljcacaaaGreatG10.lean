/- Merged texts: part 10. No conditions of their own. -/
import Derived.Test.YthhiddkljcacaaaGreatG9
import Derived.KernelRfl
import Derived.Test.YthhiddkljcacaaaGreatG8
namespace Go.Proofs.YthhiddkljcacaaaGreat
variable {a i:Int}{ρ:Int->Int}{f:List Int}{PL PL':List Vk}{a0:List Vr}{M j k k' n q q':Nat}{A:Nat->Int}{P:Nat->List Vk}{C:Nat->Vd}{α:Type}{c c':Vd}{m:Ve}{t:Vi}{w':Vj}{p:Vk}{d:Vn}{v x:Vp}{g g':Vv}
section
open Go.RowKit
def v0:Vp:=⟨0,0,⟨#[]⟩⟩
def LZ (w:Vj)(t:Vi):Vj:=⟨w.XQ,w.XK,(),w.XF,t,w.XS,w.XR,w.XY,w.XZ,w.XT,w.XU⟩
theorem SE:mL v0=true:=by kernel_rfl
theorem tx (h:bm c=true):0<=c.XD/\(0<=c.XB/\c.XB<=63)/\0<=c.XC/\c.XC<=1:=by
 unfold bm at h;simp only [Xt,Bool.not_eq_true',Xk] at h;omega
theorem Cz (hk:c.Xw=1\/c.Xw=2)(h0:0<=c.XD)(hf:0<=c.XB/\c.XB<=63)(ha:0<=c.XC/\c.XC<=1)(hs:∀x∈c.Xy,mL x=true)(hm:∀x∈c.Xx,mL x=true)(hn:c.Xy.length<=1025){z:Vp}(hz:c.Xy[0]? =some z)(hz1:z.Xw=1\/z.Xw=7)(hml:c.Xx.length<=4096)(hp:c.Xw=1->c.Xx=[]):bm c=true:=by
 have h1:=(Wl.1 hz).1
 have e0:rc c.Xy 0=z:=by unfold rc;rw [List.getD_eq_getElem?_getD,hz];rfl
 have e1:mU c.Xw c.XD c.XB c.Xy=true:=by
  unfold mU CF;rw [e0,Vy (p:=1<=c.Xy.length) U,Vy hn];rcases hk with h|h<;>rcases hz1 with h2|h2<;>rw [h,h2]<;>rfl
 have e2:ry c.Xw c.Xx=true:=by
  unfold ry;rcases hk with h|h
  ·rw [hp h,h];rfl
  rw [h,Vy (p:=(2:Int)=2) rfl,cond_true];exact Vy hml
 unfold bm;rw [e1,e2,VY.2 hs,VY.2 hm,Vz (p:=c.Xw<1) U,Vz (p:=11<c.Xw) U,Vz (p:=c.XD<0) U,Vz (p:=c.XB<0) U,Vz (p:=63<c.XB) U,Vz (p:=c.XC<0) U,Vz (p:=1<c.XC) U];rfl
structure ValW (m:Ve) (x:Vp):Prop where
 may:mL x=true
 i64:in64 x.N
 ref:bd x=true->aw m x.N=true
theorem LQ (m:Ve):ValW m v0:=⟨SE,by decide,fun h=>by cases h⟩
def rv (g s:Vp):Vd:=⟨5,0,0,0,[g,s],[]⟩
def BH (x:Vp):Prop:=x.Xw=0\/x.Xw=7
theorem Kl {g s:Vp}(hg:ValW m g)(hs:ValW m s)(kg:BH g)(ks:BH s):bm (rv g s)=true:=by
 have e1:noneB g 7=true:=by unfold noneB;rcases kg with h|h<;>rw [h]<;>rfl
 have e2:noneB s 7=true:=by unfold noneB;rcases ks with h|h<;>rw [h]<;>rfl
 have e3:mU 5 0 0 [g,s]=true:=by
  unfold mU;show (decide ([g,s].length=2)&&noneB g 7&&noneB s 7)=true;rw [e1,e2];rfl
 unfold bm rv;simp only [List.all_cons,List.all_nil];rw [hg.may,hs.may,e3];rfl
theorem Mo (h:bm c=true)(hk:c.Xw=5){g s:Vp}(hs:c.Xy=[g,s]):BH g/\BH s:=by
 unfold bm mU CF at h;rw [hk,hs] at h;simp only [Xt] at h;obtain ⟨-, -, -,h, -⟩:=h;have h:(bif !decide (c.XD=0)|| !decide (c.XB=0) then false else (decide ([g,s].length=2)&&noneB g 7&&noneB s 7))=true:=h
 cases e:(!decide (c.XD=0)|| !decide (c.XB=0)) with
 |true=>rw [e] at h;cases h
 |false=>
  rw [e,cond_false] at h;simp only [Xt,noneB,Bool.or_eq_true,Xl] at h;exact ⟨h.1.2,h.2⟩
def FT (m:Ve)(x g s:Vp):Prop:= ∃(a ag:Int),x=⟨9,a,⟨#[]⟩⟩/\aw m a=true/\aJ m a=⟨5,0,0,ag,[g,s],[]⟩
def SlotP (m:Ve)(p:Vk)(x:Vp):Prop:=
 (aq .i64 p.XE 8=0/\p.Value=x/\p.XL=v0/\p.XM=v0/\x.Xw≠9)\/
 (aq .i64 p.XE 8≠0/\p.Value=v0/\FT m x p.XL p.XM)
structure Wd (N k q M:Nat) (w:Vj):Prop where
 pl:Pl w.XF
 hb:Hb k M w.XF
 ti:TI N w.XH
 tb:w.XH.XH.length<=q
 ep:0<=w.XR/\w.XR<=(q:Int)
theorem Wd.up {N M':Nat}{w:Vj}(h:Wd N k q M w)(h1:k<=k')(h2:q<=q')(h3:M<=M'):Wd N k' q' M' w:=⟨h.pl,h.hb.up h1 h3,h.ti,W5 h.tb h2,h.ep.1,by have:=h.ep.2;omega⟩
theorem Wd.sz {N:Nat}{w:Vj}(h:Wd N k q M w)(hk:k<=580)(hM:M<=2200): ∀c∈w.XF.m_.XA++w.XF.m_.Xz,c.Xy.length<=600/\c.Xx.length<=2900:=fun c hc=>by have:=h.hb.cell hc;omega
theorem Pl.valW (h:Pl g)(ha:aw g.m_ a=true)(hx:x∈(aJ g.m_ a).Xy++(aJ g.m_ a).Xx):ValW g.m_ x:=by
 have hc:=mK ha;have h1:=h.refs hc x hx;have h2:=uB (h.cells _ hc).1;refine ⟨?_,h1.1,h1.2⟩;rcases WE.1 hx with hx|hx
 ·exact VY.1 h2.1 x hx
 exact VY.1 h2.2.1 x hx
theorem Np {N:Nat}{w:Vj}(h:Wd N k q M w)(hk:k<=580)(hM:M<=2200)(hx:bd x=true)(hi:in64 x.N)(ha:aw w.XF.m_ x.N=true):aE N w x=some (aJ w.XF.m_ x.N):=C2 (h.sz hk hM) hx hi ha
def FV (p:Vk):Vs×Int:=(p.XI,p.XE)
structure ObjC (t:Vi) (c:Vd) (l:List (Vs×Int)):Prop where
 kind:c.Xw=1\/c.Xw=2
 proto: ∃z,c.Xy[0]? =some z/\(z.Xw=1\/z.Xw=7)
 plain:c.Xw=1->c.Xx=[]
 row:Row t c.XD l
 num:c.Xy.length=l.length+1
 nd:(l.map (·.1)).Nodup
structure Obj (N:Nat) (i:Int) (k q:Nat) (w:Vj) (c:Vd) (PL:List Vk):Prop where
 wd:Wd N k q c.Xx.length w
 has:aw w.XF.m_ i=true
 at_:aJ w.XF.m_ i=c
 oc:ObjC w.XH c (PL.map FV)
 each: ∀(n:Nat) p,PL[n]? =some p-> ∃x,c.Xy[n+1]? =some x/\SlotP w.XF.m_ p x
 inj: ∀(n m:Nat) x y,n≠m->c.Xy[n+1]? =some x->c.Xy[m+1]? =some y->x.Xw=9->y.Xw=9->x.N≠y.N
theorem Obj.up {N:Nat}{w:Vj}(h:Obj N i k q w c PL)(h1:k<=k')(h2:q<=q'):Obj N i k' q' w c PL:=⟨h.wd.up h1 h2 (W4 _),h.has,h.at_,h.oc,h.each,h.inj⟩
theorem Obj.len {N:Nat}{w:Vj}(h:Obj N i k q w c PL):PL.length<=1024:=by
 have:=h.oc.row.le h.wd.ti
 rwa [Xr] at this
theorem Obj.num {N:Nat}{w:Vj}(h:Obj N i k q w c PL):c.Xy.length=PL.length+1:=by
 have:=h.oc.num
 rwa [Xr] at this
theorem Obj.right {N:Nat}{w:Vj}(h:Obj N i k q w c PL):bm c=true:=by
 have:=(h.wd.pl.cells _ (mK h.has)).1
 rwa [h.at_] at this
theorem Obj.val {N:Nat}{w:Vj}(h:Obj N i k q w c PL)(hx:x∈c.Xy++c.Xx):ValW w.XF.m_ x:=h.wd.pl.valW h.has (by rw [h.at_];exact hx)
theorem Obj.key {N:Nat}{w:Vj}(h:Obj N i k q w c PL)(hp:p∈PL):CR N p.XI/\xg p.XE:=h.oc.row.ok h.wd.ti _ (List.mem_map_of_mem hp)
theorem Obj.nodup {N:Nat}{w:Vj}(h:Obj N i k q w c PL):(PL.map (·.XI)).Nodup:=by
 have:=h.oc.nd;rw [List.map_map] at this;exact this
def my (p:Vk):Vk:=bif decide (aq .i64 p.XE 8=0) then ⟨p.XI,p.XE,p.Value,v0,v0⟩ else ⟨p.XI,p.XE,v0,p.XL,p.XM⟩
def sk:Vk:=⟨⟨0,0,⟨#[]⟩⟩,0,v0,v0,v0⟩
def oU (PL:List Vk)(key:Vs):Vk×Bool:=match PL.find? (fun p=>decide (p.XI=key)) with
 |some p=>(p,true)
 |none=>(sk,false)
theorem Li {key:Vs}(h:∀p∈PL,p.XI≠key):oU PL key=(sk,false):=by
 unfold oU;rw [List.find?_eq_none.2 fun p hp=>by simp [h p hp]]
theorem Lj (hn:(PL.map (·.XI)).Nodup)(hp:PL[n]? =some p):oU PL p.XI=(p,true):=by
 have hm:=WJ hp
 cases e:PL.find? (fun x=>decide (x.XI=p.XI)) with
 |none=>exact absurd (List.find?_eq_none.1 e p hm) (by simp)
 |some x=>
  have h1:x.XI=p.XI:=by simpa using List.find?_some e
  have h2:=List.mem_of_find?_eq_some e;obtain ⟨m,hmm⟩:=List.getElem?_of_mem h2;have h3:=Wl.1 hmm;have h4:=Wl.1 hp;have:m=n:=(List.getElem_inj (h₀:=by rw [Xr];exact h3.1) (h₁:=by rw [Xr];exact h4.1) hn).1 (by rw [Wt,Wt,h3.2,h4.2,h1]);subst this;have:x=p:=Xe (hmm.symm.trans hp);subst this;unfold oU;rw [e]
section
variable {N:Nat}(hv:v.Xw=7)(hvN:v.N=i)(hk:k<=580){w:Vj}(hM:c.Xx.length<=2200)(h:Obj N i k q w c PL)
include hv hvN hk hM h
theorem N2:aE N w v=some c:=by
 have hi:=qW (h.wd.pl.hb.small) h.has;rw [Np h.wd hk hM (x:=v) (by unfold bd;rw [hv];rfl) (by rw [hvN];exact hi) (by rw [hvN];exact h.has),hvN,h.at_]
theorem Dm:cD N w v=some (.inr ⟨c,w,v⟩):=by
 obtain ⟨z,z1,z2⟩:=h.oc.proto;have hl:=(Wl.1 z1).1
 have hg:ao c.Xy 0=some z:=by unfold ao;exact z1
 unfold cD;rw [Vy hv,nt,cf,N2 hv hvN hk hM h,bs,Vz (show¬(c.Xy.length:Int)=0 by omega),cf,hg,bs,bs];rcases z2 with z2|z2<;>rw [z2]<;>rfl
omit hv hvN in
theorem K8 (hn:PL[n]? =some p):fh N ⟨c,w,v⟩ (n:Int) p.XI p.XE=some p:=by
 have hlt:=(Wl.1 hn).1;have hnum:=h.num;have hl:=h.len;obtain ⟨x,hx,hs⟩:=h.each n p hn
 have hg:ao c.Xy ((n:Int)+1)=some x:=by
  unfold ao;rw [if_neg U,show ((n:Int)+1).toNat=n+1 by omega];exact hx
 unfold fh;rw [r64 U U];show (bif decide ((c.Xy.length:Int)<=(n:Int)+1) then _ else _)=_;rw [Vz U,cf,r64 U U];show Option.bind (ao c.Xy ((n:Int)+1)) _=_;rw [hg,bs];rcases hs with ⟨s1,s2,s3,s4, -⟩|⟨s1,s2,a,ag,s3,s4,s5⟩
 ·rw [Vy s1,ct];refine congrArg some ?_;rw [<-s2,show (⟨0,0,⟨#[]⟩⟩:Vp)=p.XL from s3.symm];have:p.XL=p.XM:=s3.trans s4.symm
  conv=>lhs;arg 5;rw [this]
 have hi:=qW (h.wd.pl.hb.small) s4;subst s3;rw [Vz s1,cf];show Option.bind (aE N w _) _=_;rw [Np h.wd hk hM (x:=⟨9,a,⟨#[]⟩⟩) rfl hi s4,bs,s5];show some (⟨p.XI,p.XE,v0,p.XL,p.XM⟩:Vk)=some p;rw [<-s2]
end
end
section
open Go.RowKit
set_option maxRecDepth 20000
section
variable {N:Nat}(hN:20000<=N)(hv:v.Xw=7)(hvN:v.N=i)(hk:k<=580){w:Vj}(hM:c.Xx.length<=2200)(h:Obj N i k q w c PL)
include hN hk hM h
def Td (PL:List Vk)(key:Vs)(r:Vk×Int×Bool):Prop:=(r=(sk,0,false)/\ ∀p∈PL,p.XI≠key)\/ ∃(n:Nat) (p:Vk),r=(p,(n:Int),true)/\PL[n]? =some p/\p.XI=key
theorem JZ (key:Vs):Sat (cL N ⟨c,w,v⟩ key) (Td PL key):=by
 unfold cL bZ;rw [bs];have hle:=h.len
 refine (D8 N U h.wd.ti h.oc.row key).bind fun z hz=> ?_
 rcases hz with ⟨rfl,hz⟩|⟨n,z1,z2,z3⟩
 ·show Sat (some ((sk,0,false):Vk×Int×Bool)) _;refine ad ?_;left;refine ⟨J,fun p hp e=> ?_⟩;exact hz (FV p) (List.mem_map_of_mem hp) e
 rw [Wm] at z3;obtain ⟨p,hp,e⟩:=Option.map_eq_some_iff.1 z3;have e1:p.XI=key:=congrArg Prod.fst e;have e2:p.XE=z.2.1:=congrArg Prod.snd e
 have e3:fh N ⟨c,w,v⟩ z.1 key z.2.1=some p:=by rw [z1, <-e2, <-e1];exact K8 hk hM h hp
 rw [z2];show Sat (Option.bind _ _) _
 refine Sat.bind (P:=(· =p)) ⟨p,e3,J⟩ fun y hy=> ?_
 subst hy;refine ad ?_;right;exact ⟨n,y,by rw [z1],hp,e1⟩
include hv hvN
omit hv hvN in
theorem Lg: ∀(m j:Nat),PL.length<m+j->j<=PL.length->nE N ((PL.map FV).map (·.1)) ((PL.map FV).map (·.2)) ⟨c,w,v⟩ w m (PL.take j) (j:Int)=some PL
 |0,j,h1,h2=>by have _:=hN;omega
 | m+1,j,h1,h2=>by
  have hle:=h.len;rw [nE.eq_2];rcases W7 j PL.length with hj|hj
  ·have e0:PL[j]? =some PL[j]:=Wj hj
   have e1:ao ((PL.map FV).map (·.1)) (j:Int)=some PL[j].XI:=by rw [aG (by rw [Xr,Xr];exact hj),Wt,Wt];rfl
   have e2:ao ((PL.map FV).map (·.2)) (j:Int)=some PL[j].XE:=by rw [aG (by rw [Xr,Xr];exact hj),Wt,Wt];rfl
   rw [Xr,Xr,dn U,ct,e1,bs,e2,bs,K8 (v:=v) hk hM h e0,bs,gi (by rw [Xq,WA];omega),r64 U U]
   have e3:PL.take j++([PL[j]]:List Vk)=PL.take (j+1):=by rw [List.take_add_one,e0];rfl
   rw [e3];exact Lg m (j+1) U hj
  rw [Xr,Xr,cY U,cf,WT U];rfl
theorem IR:kS N w v=some PL:=by
 unfold kS;have hle:=h.len;rw [Dm hv hvN hk hM h,bs];show Option.bind (fd N w.XH c.XD) _=_;rw [O5 N U h.wd.ti h.oc.row,bs];show Option.bind (eh N w.XH c.XD) _=_;rw [P4 N U h.wd.ti h.oc.row,bs];exact Lg hN hk hM h N 0 U U
end
structure PropW (m:Ve) (p:Vk):Prop where
 v:ValW m p.Value/\p.Value.Xw≠9
 g:ValW m p.XL/\BH p.XL
 s:ValW m p.XM/\BH p.XM
structure FrW (w w':Vj):Prop where
 roots:w'.XF.XJ=w.XF.XJ
 has: ∀a,aw w.XF.m_ a=true->aw w'.XF.m_ a=true
 spent:w'.XQ=w.XQ
 config:w'.XK=w.XK
theorem FrW.refl (w:Vj):FrW w w:=⟨rfl,fun _ h=>h,rfl,rfl⟩
theorem FrW.trans {a b c:Vj}(h:FrW a b)(h':FrW b c):FrW a c:=⟨h'.roots.trans h.roots,fun x hx=>h'.has x (h.has x hx),h'.spent.trans h.spent,h'.config.trans h.config⟩
theorem ValW.mono {m':Ve}(hm:∀a,aw m a=true->aw m' a=true)(h:ValW m x):ValW m' x:=⟨h.may,h.i64,fun hb=>hm _ (h.ref hb)⟩
structure Slotted (N k q M:Nat) (w:Vj) (p:Vk) (old:Vp) (r:Vp×Vj):Prop where
 wd:Wd N (k+3) q M r.2
 fr:FrW w r.2
 tab:r.2.XH=w.XH
 val:ValW r.2.XF.m_ r.1
 slot:SlotP r.2.XF.m_ (my p) r.1
 fresh:r.1.Xw=9->r.1=old\/aw w.XF.m_ r.1.N=false
 rest: ∀a,aw w.XF.m_ a=true->(old.Xw=9->old.N≠a)->aJ r.2.XF.m_ a=aJ w.XF.m_ a
 ep:r.2.XR=w.XR
theorem SF (h:1<=a):mL ⟨9,a,⟨#[]⟩⟩=true:=by
 unfold mL fP;rw [show ((⟨9,a,⟨#[]⟩⟩:Vp).S.toList==(⟨#[]⟩:ByteArray).toList)=true from beq_self_eq_true _];show (Option.getD (some (decide (1<=a))) false)=true;rw [Vy h];rfl
theorem E2 (h:¬aq .i64 p.XE 8=0):my p=⟨p.XI,p.XE,v0,p.XL,p.XM⟩:=by
 unfold my;rw [Vz h];rfl
theorem CJ (h:aq .i64 p.XE 8=0):my p=⟨p.XI,p.XE,p.Value,v0,v0⟩:=by
 unfold my;rw [Vy h];rfl
theorem Ss {N:Nat}(hN:20000<=N){w:Vj}(hp:Pl w.XF)(hx:bd x=true)(ha:aw w.XF.m_ x.N=true)(h1:c.Xy.length<=600/\c.Xx.length<=2900)(hr:bm c=true):df N w x c=some (Et w (ic w.XF x.N c)):=by
 have e:iA N x=some (bd x):=by
  unfold iA bd;cases decide (x.Xw=7)<;>rfl
 unfold df;rw [e,bs,hx,ct,TK U hp.hb.small ha h1,hr];rfl
theorem Su {N:Nat}(hN:20000<=N){w:Vj}(hp:Pl w.XF)(h1:c.Xy.length<=600/\c.Xx.length<=2900)(hr:bm c=true)(h0:c.XC=0):cJ N w c=some (⟨9,xV w.XF,⟨#[]⟩⟩,Et w (DR w.XF c)):=by
 have ec:(⟨c.Xw,c.XD,c.XB,0,c.Xy,c.Xx⟩:Vd)=c:=by rw [<-h0]
 have hl:=hp.hb.small.young
 have e:(((w.XF.m_.XA++ [(⟨c.Xw,c.XD,c.XB,0,c.Xy,c.Xx⟩:Vd)]).length:Nat):Int)=(w.XF.m_.XA.length:Int)+1:=by simp
 unfold cJ iM aF;rw [bs,cf,Dx U U,bs,hr,nt,cf,qI N c U,bs,rF (by simp only [Wv,Wy];omega),e,r64 U U,r64 U U,ec,show 2*((w.XF.m_.XA.length:Int)+1) - 1=xV w.XF by unfold xV;omega,bs];rfl
theorem Ny {N:Nat}(hN:20000<=N)(hk:k+3<=580)(hM:M<=2200){w:Vj}(h:Wd N k q M w){v':Vp}(hp:PropW w.XF.m_ p){old:Vp}(hold:old.Xw≠9\/ ∃g s,FT w.XF.m_ old g s):Sat (im N ⟨c',w,v'⟩ p old) (Slotted N k q M w p old):=by
 unfold im
 refine aK (fun h8=>ad ?_) fun h8=> ?_
 ·refine ⟨h.up U (W4 _) (W4 _),FrW.refl w,J,hp.v.1,?_,fun e=>absurd e hp.v.2,fun _ _ _=>J,J⟩;rw [CJ h8];exact .inl ⟨h8,J,J,J,hp.v.2⟩
 have hr:bm (rv p.XL p.XM)=true:=Kl hp.g.1 hp.s.1 hp.g.2 hp.s.2
 have hrf:Ph w.XF.m_ (rv p.XL p.XM):=fun x hx=>by
  have hx:x=p.XL\/x=p.XM:=by simpa [rv] using hx
  rcases hx with rfl|rfl
  ·exact ⟨hp.g.1.i64,hp.g.1.ref⟩
  exact ⟨hp.s.1.i64,hp.s.1.ref⟩
 have hide:old.Xw≠9->Sat ((cJ N w (⟨5,0,0,0,([p.XL,p.XM]:List Vp),[]⟩:Vd)).bind fun a6=>some (a6.1,a6.2)) (Slotted N k q M w p old):=fun hne=>by
  have hb:Hb (k+3) M (DR w.XF (rv p.XL p.XM)):=Q0 h.hb _ (by show k+1+2<=k+3;omega) (by show M+0<=M;omega);obtain ⟨p1,p2,p3,p4⟩:=h.pl.addK hk hM hr ⟨by show (5:Int)≠8;decide,by show (5:Int)≠10;decide⟩ hrf hb;have e:=Su (c:=rv p.XL p.XM) hN h.pl (by constructor<;>(show _<=_;simp [rv])) hr rfl;show Sat (Option.bind (cJ N w (rv p.XL p.XM)) _) _;rw [e,bs];have hi:=qW p1.hb.small p3;refine ad ⟨⟨p1,hb,h.ti,h.tb,h.ep⟩,⟨J,fun a ha=>(p2 a ha).1,J,J⟩,J,⟨?_,hi,fun _=>p3⟩,?_,fun _=> .inr (MA _),fun a ha _=>(p2 a ha).2,J⟩
  ·show mL ⟨9,xV w.XF,⟨#[]⟩⟩=true
   have:(1:Int)<=xV w.XF:=by unfold xV;omega
   exact SF this
  rw [E2 h8];exact .inr ⟨h8,J,xV w.XF,0,J,p3,p4⟩
 by_cases h9:old.Xw=9
 ·obtain ⟨g,s,a,ag,rfl,ha,hat⟩: ∃g s,FT w.XF.m_ old g s:=hold.resolve_left fun hne=>hne h9
  have hi:=qW h.pl.hb.small ha;rw [Vy h9,ct];show Sat (Option.bind (Option.bind (aE N w ⟨9,a,⟨#[]⟩⟩) _) _) _;rw [Np h U hM (x:=⟨9,a,⟨#[]⟩⟩) rfl hi ha,bs,bs];show Sat (bif decide ((aJ w.XF.m_ a).Xw=5) then _ else _) _;rw [hat,Vy (p:=(5:Int)=5) rfl,ct];have hb:Hb k M (ic w.XF a (rv p.XL p.XM)):=Lf h.hb ha (by rw [hat];exact W4 _) (by rw [hat];exact W4 _);obtain ⟨p1,p2,p3⟩:=h.pl.putK U hM ha hr ⟨by show (5:Int)≠8;decide,by show (5:Int)≠10;decide⟩ hrf hb;have e:=Ss (x:=⟨9,a,⟨#[]⟩⟩) (c:=rv p.XL p.XM) hN h.pl rfl ha (by constructor<;>(show _<=_;simp [rv])) hr;show Sat (Option.bind (df N w ⟨9,a,⟨#[]⟩⟩ (rv p.XL p.XM)) _) _;rw [e,bs];have hold':=h.pl.cells _ (mK ha);refine ad ⟨⟨p1,hb.up U (W4 _),h.ti,h.tb,h.ep⟩,⟨(xO _ _ _).2.1,fun b hb'=>by rw [show (Et w (ic w.XF a (rv p.XL p.XM))).XF.m_=(ic w.XF a (rv p.XL p.XM)).m_ from rfl,p2];exact hb',rfl,rfl⟩,J,⟨?_,hi,fun _=>(p2 a).trans ha⟩,?_,fun _=> .inl J,fun b hb' hne=> ?_,J⟩
  ·have:(1:Int)<=a:=by
    rcases fq ha with ⟨j, -,rfl⟩|⟨j, -,rfl⟩<;>omega
   exact SF this
  ·rw [E2 h8];refine .inr ⟨h8,J,a,ag,J,(p2 a).trans ha,?_⟩;show aJ (ic w.XF a (rv p.XL p.XM)).m_ a=_;rw [p3 a ha,if_pos rfl,hat];rfl
  show aJ (ic w.XF a (rv p.XL p.XM)).m_ b=_;rw [p3 b hb',if_neg fun e=>hne rfl e.symm]
 rw [Vz h9,cf,bs,cf];exact hide h9
end
section
open Go.RowKit
set_option maxRecDepth 20000
theorem SlotP.move {m':Ve}(h:SlotP m p x)(hh:∀a,x.Xw=9->x.N=a->aw m a=true->(aJ m a).Xw=5->aw m' a=true/\aJ m' a=aJ m a):SlotP m' p x:=by
 rcases h with h|⟨h1,h2,a,ag,rfl,h4,h5⟩
 ·exact .inl h
 obtain ⟨g1,g2⟩:=hh a rfl rfl h4 (by rw [h5]);exact .inr ⟨h1,h2,a,ag,J,g1,g2.trans h5⟩
theorem SlotP.has9 (h:SlotP m p x)(h9:x.Xw=9):(∃g s,FT m x g s)/\aw m x.N=true:=by
 rcases h with ⟨-, -, -, -,h⟩|⟨-, -,a,ag,rfl,h4,h5⟩
 ·exact absurd h9 h
 exact ⟨⟨_,_,a,ag,J,h4,h5⟩,h4⟩
theorem Obj.pair9 {N:Nat}{w:Vj}(h:Obj N i k q w c PL)(hx:c.Xy[n+1]? =some x)(h9:x.Xw=9):(∃g s,FT w.XF.m_ x g s)/\aw w.XF.m_ x.N=true:=by
 have hlt:=(Wl.1 hx).1
 have hn:n<PL.length:=by have:=h.num;omega
 obtain ⟨y,hy,hs⟩:=h.each n PL[n] (Wj hn);have:y=x:=Xe (hy.symm.trans hx);subst this;exact hs.has9 h9
structure FrO (i:Int) (w w':Vj) (c c':Vd):Prop where
 fr:FrW w w'
 le:Le w.XH w'.XH
 rest: ∀a,aw w.XF.m_ a=true->a≠i->(∀(n:Nat) x,c.Xy[n+1]? =some x->x.Xw=9->x.N≠a)->aJ w'.XF.m_ a=aJ w.XF.m_ a
 new: ∀(n:Nat) x,c'.Xy[n+1]? =some x->x.Xw=9->(∃n':Nat,c.Xy[n'+1]? =some x)\/aw w.XF.m_ x.N=false
structure Same (c c':Vd):Prop where
 kind:c'.Xw=c.Xw
 more:c'.Xx=c.Xx
 flags:c'.XB=c.XB
 head:c'.Xy[0]? =c.Xy[0]?
theorem Hs {N:Nat}(hN:20000<=N)(hv:v.Xw=7)(hvN:v.N=i){M':Nat}(hk:k'<=580)(hM:M'<=2200){w:Vj}(hw:Wd N k q M w)(ha:aw w.XF.m_ i=true)(hc:aJ w.XF.m_ i=c)(hage:c'.XC=c.XC)(hkd:c'.Xw=1\/c'.Xw=2)(hr:bm c'=true)(hrf:Ph w.XF.m_ c')(h1:k+c'.Xy.length<=k'+c.Xy.length)(h2:M+c'.Xx.length<=M'+c.Xx.length):
  df N w v c'=some (Et w (ic w.XF i c'))/\Wd N k' q M' (Et w (ic w.XF i c'))/\FrW w (Et w (ic w.XF i c'))/\(∀x,aw w.XF.m_ x=true->aJ (ic w.XF i c').m_ x=if x=i then c' else aJ w.XF.m_ x):=by
 have hb:Hb k' M' (ic w.XF i c'):=Lf hw.hb ha (by rw [hc];exact h1) (by rw [hc];exact h2);obtain ⟨p1,p2,p3⟩:=hw.pl.putK hk hM ha hr (by rcases hkd with h|h<;>constructor<;>omega) hrf hb
 have ec:Bf c' (aJ w.XF.m_ i).XC=c':=by rw [hc, <-hage];rfl
 have hsz:c'.Xy.length<=600/\c'.Xx.length<=2900:=by
  have hh:aw (ic w.XF i c').m_ i=true:=(p2 i).trans ha;have:=hb.cell (mK hh);rw [p3 i ha,if_pos rfl,ec] at this;omega
 refine ⟨?_,⟨p1,hb,hw.ti,hw.tb,hw.ep⟩,⟨(xO _ _ _).2.1,fun x hx=>(p2 x).trans hx,J,J⟩,fun x hx=>by rw [p3 x hx,ec]⟩;have:=Ss (x:=v) hN hw.pl (by unfold bd;rw [hv];rfl) (by rw [hvN];exact ha) hsz hr;rw [this,hvN]
def rE (c:Vd):Bool:=!decide (aq .i64 c.XB 16=0)
def OZ (t:Bool)(w:Vj):Vj:=⟨w.XQ,w.XK,(),w.XF,w.XH,w.XS,w.XR+(bif t then 1 else 0),w.XY,w.XZ,w.XT,w.XU⟩
theorem Ij (w:Vj):OZ false w=w:=by
 show (⟨w.XQ,w.XK,(),w.XF,w.XH,w.XS,w.XR+0,w.XY,w.XZ,w.XT,w.XU⟩:Vj)=w;rw [Int.add_zero]
theorem Ig {N:Nat}{w:Vj}(hp:df N w v c'=some w')(he:0<=w'.XR/\w'.XR<=2000000000)(b:Bool):bp N ⟨c',w,v⟩ b=some ⟨c',OZ (b&&rE c') w',v⟩:=by
 unfold bp;have e:fg N w v c'=some w':=hp;show Option.bind (fg N w v c') _=_;rw [e,bs];show Option.bind (bif b then (some (rE c')) else (some false)) _=_
 have eT:ii N w'=some (OZ true w'):=by
  unfold ii;rw [gi (by constructor<;>omega)];rfl
 cases b with
 |false=>rw [cf,bs,cf,VP,Ij]
 |true=>
  rw [ct,bs,VR]
  cases rE c' with
  |false=>rw [cf,Ij]
  |true=>rw [ct,eT,bs]
def Aj (PL:List Vk)(p:Vk):List Vk:=match PL.findIdx? (fun x=>decide (x.XI=p.XI)) with
 |some n=>PL.set n p
 |none=>PL++ [p]
theorem PE (h:∀x∈PL,x.XI≠p.XI):Aj PL p=PL++ [p]:=by
 unfold Aj;rw [List.findIdx?_eq_none_iff.2 fun x hx=>by simp [h x hx]]
theorem PF (hn:(PL.map (·.XI)).Nodup){x:Vk}(hp:PL[n]? =some x)(e:x.XI=p.XI):Aj PL p=PL.set n p:=by
 have h4:=Wl.1 hp
 cases e1:PL.findIdx? (fun x=>decide (x.XI=p.XI)) with
 |none=>exact absurd e (by simpa using List.findIdx?_eq_none_iff.1 e1 x (WJ hp))
 |some m=>
  obtain ⟨h1,h2, -⟩:=List.findIdx?_eq_some_iff_getElem.1 e1
  have h2:PL[m].XI=p.XI:=by simpa using h2
  have:m=n:=(List.getElem_inj (h₀:=by rw [Xr];exact h1) (h₁:=by rw [Xr];exact h4.1) hn).1 (by rw [Wt,Wt,h2,h4.2,e]);subst this;unfold Aj;rw [e1]
section
variable {N:Nat}(hN:20000<=N)(hv:v.Xw=7)(hvN:v.N=i){w:Vj}(h:Obj N i k q w c PL)
include hN hv hvN h
theorem Rl (hk:k+4<=580)(hM:c.Xx.length<=2200)(hq':q+1<=q')(hq2:q'<=1000000000)(ht:TI N t)(hle:Le w.XH t)(htb:t.XH.length<=q'){old:Vp}{r:Vp×Vj}(hr:Slotted N k q' c.Xx.length (LZ w t) p old r)(hold:old.Xw≠9\/c.Xy[n+1]? =some old)(sh:Int)(sl:List Vp)(PL':List Vk)(hrow:Row t sh (PL'.map FV))(hnd:(PL'.map (·.XI)).Nodup)(hnum:sl.length=PL'.length+1)(hn:PL'.length<=PL.length+1)(hn2:PL'.length<=1024)(h0:sl[0]? =c.Xy[0]?)(h1:sl[n+1]? =some r.1)(h2:PL'[n]? =some (my p))(h3:∀m,m≠n->sl[m+1]? =c.Xy[m+1]?)(h4:∀m,m≠n->PL'[m]? =PL[m]?)(b:Bool):
  ∃w',bp N ⟨⟨c.Xw,sh,c.XB,c.XC,sl,c.Xx⟩,r.2,v⟩ b=some ⟨⟨c.Xw,sh,c.XB,c.XC,sl,c.Xx⟩,w',v⟩/\Obj N i (k+4) q' w' ⟨c.Xw,sh,c.XB,c.XC,sl,c.Xx⟩ PL'/\FrO i w w' c ⟨c.Xw,sh,c.XB,c.XC,sl,c.Xx⟩/\w'.XR=w.XR+(bif b&&rE c then 1 else 0):=by
 have hrc:=tx h.right;have hnum0:=h.num;have hi:aw r.2.XF.m_ i=true:=hr.fr.has i h.has
 have hne:old.Xw=9->old.N≠i:=fun h9 e=>by
  rcases hold with ho|ho
  ·exact ho h9
  obtain ⟨⟨g,s,a,ag,e1,e2,e3⟩, -⟩:=h.pair9 ho h9;rw [e1] at e;have e:a=i:=e;rw [e,h.at_] at e3;rcases h.oc.kind with hkd|hkd<;>rw [e3] at hkd<;>cases hkd
 have hat:aJ r.2.XF.m_ i=c:=(hr.rest i h.has hne).trans h.at_;obtain ⟨z,z1,z2⟩:=h.oc.proto
 have hmem: ∀x∈sl,x∈c.Xy\/x=r.1:=fun x hx=>by
  obtain ⟨m,hm⟩:=List.getElem?_of_mem hx
  cases m with
  |zero=>rw [h0] at hm;exact .inl (WJ hm)
  |succ m=>
   by_cases e:m=n
   ·subst e;exact .inr (Xe (hm.symm.trans h1))
   rw [h3 m e] at hm;exact .inl (WJ hm)
 have hval: ∀x∈sl++c.Xx,ValW r.2.XF.m_ x:=fun x hx=>by
  rcases WE.1 hx with hx|hx
  ·rcases hmem x hx with hx|rfl
   ·exact (h.val (VC _ hx)).mono hr.fr.has
   exact hr.val
  exact (h.val (VD _ hx)).mono hr.fr.has
 have hR:bm (⟨c.Xw,sh,c.XB,c.XC,sl,c.Xx⟩:Vd)=true:=by
  obtain ⟨s',s1', -⟩:=hrow.has ht;refine Cz h.oc.kind s1'.1 hrc.2.1 hrc.2.2 (fun x hx=>(hval x (VC _ hx)).may) (fun x hx=>(hval x (VD _ hx)).may) (by show sl.length<=1025;omega) (z:=z) (by show sl[0]? =some z;rw [h0];exact z1) z2 (by show c.Xx.length<=4096;omega) h.oc.plain
 obtain ⟨e1,e2,e3,e4⟩:=Hs (k':=k+4) (M':=c.Xx.length) hN hv hvN U hM hr.wd hi hat (c':=⟨c.Xw,sh,c.XB,c.XC,sl,c.Xx⟩) rfl h.oc.kind hR (fun x hx=>⟨(hval x hx).i64,(hval x hx).ref⟩) (by show k+3+sl.length<=k+4+c.Xy.length;omega) (W4 _);have hfr:FrW w (Et r.2 (ic r.2.XF i ⟨c.Xw,sh,c.XB,c.XC,sl,c.Xx⟩)):=FrW.trans (b:=r.2) ⟨hr.fr.roots,hr.fr.has,hr.fr.spent,hr.fr.config⟩ e3
 -- cells of pairs that are not written stay
 have hkeep: ∀a,aw w.XF.m_ a=true->a≠i->(old.Xw=9->old.N≠a)->aJ (ic r.2.XF i (⟨c.Xw,sh,c.XB,c.XC,sl,c.Xx⟩:Vd)).m_ a=aJ w.XF.m_ a:=fun a ha hni ho=>by
  rw [e4 a (hr.fr.has a ha),if_neg hni,hr.rest a ha ho];rfl
 have hep:r.2.XR=w.XR:=hr.ep;have hep0:=h.wd.ep;refine ⟨_,Ig e1 (by show 0<=r.2.XR/\r.2.XR<=2000000000;omega) b,⟨⟨e2.pl,e2.hb,?_,?_,?_⟩,hfr.has i h.has,?_,⟨h.oc.kind,⟨z,by show sl[0]? =some z;rw [h0];exact z1,z2⟩,h.oc.plain,?_,?_,?_⟩,fun m p' hp'=> ?_,fun m m' x y hmm hx hy h9 h9'=> ?_⟩,⟨⟨hfr.roots,hfr.has,hfr.spent,hfr.config⟩,?_,fun a ha hni hp=> ?_,fun m x hx h9=> ?_⟩,?_⟩
 ·show TI N r.2.XH;rw [hr.tab];exact ht
 ·show r.2.XH.XH.length<=q';rw [hr.tab];exact htb
 ·show 0<=r.2.XR+_/\r.2.XR+_<=(q':Int);cases (b&&rE (⟨c.Xw,sh,c.XB,c.XC,sl,c.Xx⟩:Vd))
  ·show 0<=r.2.XR+0/\r.2.XR+0<=(q':Int);omega
  show 0<=r.2.XR+1/\r.2.XR+1<=(q':Int);omega
 ·show aJ (ic r.2.XF i _).m_ i=_;rw [e4 i hi,if_pos rfl]
 ·show Row r.2.XH sh _;rw [hr.tab];exact hrow
 ·show sl.length=(PL'.map FV).length+1;rw [Xr];exact hnum
 ·rw [List.map_map];exact hnd
 ·show∃x,sl[m+1]? =some x/\SlotP (ic r.2.XF i _).m_ p' x;by_cases e:m=n
  ·subst e;have:p'=my p:=Xe (hp'.symm.trans h2);subst this;refine ⟨r.1,h1,hr.slot.move fun a _ _ ha h5=>⟨e3.has a ha,?_⟩⟩;show aJ (ic r.2.XF i _).m_ a=_;rw [e4 a ha,if_neg fun e=> ?_];subst e;rw [hat] at h5;rcases h.oc.kind with hkd|hkd<;>rw [h5] at hkd<;>cases hkd
  rw [h4 m e] at hp';obtain ⟨x,hx,hs⟩:=h.each m p' hp';refine ⟨x,(h3 m e).trans hx,hs.move fun a h9 hxa ha h5=>⟨hfr.has a ha,hkeep a ha (fun e=> ?_) fun ho9 e'=> ?_⟩⟩
  ·subst e;rw [h.at_] at h5;rcases h.oc.kind with hkd|hkd<;>rw [h5] at hkd<;>cases hkd
  rcases hold with ho|ho
  ·exact ho ho9
  exact h.inj n m old x (fun e2=>e e2.symm) ho hx ho9 h9 (e'.trans hxa.symm)
 ·have hx:sl[m+1]? =some x:=hx;have hy:sl[m'+1]? =some y:=hy
  have aux: ∀(a b:Nat) (x y:Vp),a=n->b≠n->sl[a+1]? =some x->sl[b+1]? =some y->x.Xw=9->y.Xw=9->x.N≠y.N:=fun a b x y ea eb hx hy h9 h9' e=>by
   subst ea;rw [h3 b eb] at hy;have:r.1=x:=Xe (h1.symm.trans hx);subst this;have a6:=(h.pair9 hy h9').2;rcases hr.fresh h9 with hf|hf
   ·rcases hold with ho|ho
    ·rw [hf] at h9;exact ho h9
    exact h.inj a b old y (fun e2=>eb e2.symm) ho hy (by rw [<-hf];exact h9) h9' (by rw [<-hf];exact e)
   have hf:aw w.XF.m_ r.1.N=false:=hf;rw [e,a6] at hf;cases hf
  by_cases e:m=n
  ·exact aux m m' x y e (fun e'=>hmm (e.trans e'.symm)) hx hy h9 h9'
  by_cases e':m'=n
  ·exact fun h=>aux m' m y x e' e hy hx h9' h9 h.symm
  rw [h3 m e] at hx;rw [h3 m' e'] at hy;exact h.inj m m' x y hmm hx hy h9 h9'
 ·show Le w.XH r.2.XH;rw [hr.tab];exact hle
 ·refine hkeep a ha hni fun ho9 e=> ?_
  rcases hold with ho|ho
  ·exact ho ho9
  exact hp n old ho ho9 e
 ·have hx:sl[m+1]? =some x:=hx;by_cases e:m=n
  ·subst e;have:r.1=x:=Xe (h1.symm.trans hx);subst this;rcases hr.fresh h9 with hf|hf
   ·rcases hold with ho|ho
    ·rw [hf] at h9;exact absurd h9 ho
    exact .inl ⟨m,by rw [hf];exact ho⟩
   exact .inr hf
  rw [h3 m e] at hx;exact .inl ⟨m,hx⟩
 show r.2.XR+(bif b&&rE c then 1 else 0)=_;rw [hep]
end
end
section
open Go.RowKit
set_option maxRecDepth 20000
theorem IG {q:List α}{a:α}(h:q[n]? =some a):q.set n a=q:=by
 apply V8;intro j;by_cases e:n=j
 ·subst e;rw [Wo (Wl.1 h).1,h]
 rw [Wn e]
theorem IX (p:Vk):(my p).XI=p.XI/\(my p).XE=p.XE:=by
 unfold my;cases decide (aq .i64 p.XE 8=0)<;>exact ⟨rfl,rfl⟩
def Ep (c c':Vd)(w w':Vj):Prop:=w'.XR=w.XR+(bif !decide (c'.XD=c.XD)&&rE c then 1 else 0)
theorem Row.one {l l':List (Vs×Int)}(r:Row t i l)(r':Row t i l'):l=l':=by
 induction r generalizing l' with
 | nil h1 h2=>
  cases r' with
  |nil=>rfl
  |snoc h3 h4 _=>
   have:=h1.one h3;subst this;omega
 | snoc h1 h2 _ ih=>
  cases r' with
  |nil h3 h4=>
   have:=h1.one h3;subst this;omega
  |snoc h3 h4 r'=>
   have:=h1.one h3;subst this;rw [ih r']
def Sl (N:Nat)(i:Int)(k q:Nat)(w:Vj)(c:Vd)(PL':List Vk)(w':Vj):Prop:= ∃c',Obj N i k q w' c' PL'/\Same c c'/\FrO i w w' c c'/\Ep c c' w w'
section
variable {N:Nat}(hN:20000<=N)(hv:v.Xw=7)(hvN:v.N=i){w:Vj}(h:Obj N i k q w c PL)(hk:k+4<=580)(hq:q+1024<=1000000000)(hM:c.Xx.length<=2200)
include hN hv hvN h hk hq hM
theorem Nt (hp:PropW w.XF.m_ p)(hR:CR N p.XI)(hA:xg p.XE)(hlen:PL.length<1024):Sat (fQ N ⟨c,w,v⟩ p) fun r=>r.1=true/\Sl N i (k+4) (q+1024) w c (Aj PL (my p)) r.2.w_:=by
 have hb:w.XH.XH.length+1024<=1073741824:=by have:=h.wd.tb;omega
 have hnum:=h.num
 have hwd: ∀t:Vi,Le w.XH t->TI N t->t.XH.length<=q+1024->Wd N k (q+1024) c.Xx.length (LZ w t):=fun t _ h2 h3=>⟨h.wd.pl,h.wd.hb,h2,h3,h.wd.ep.1,by have:=h.wd.ep.2;show w.XR<=_;omega⟩
 unfold fQ;show Sat (Option.bind (cL N ⟨c,w,v⟩ p.XI) _) _
 refine (JZ (v:=v) hN U hM h p.XI).bind fun y hy=> ?_
 rcases hy with ⟨a6,hno⟩|⟨n,u,a6,hn,hu⟩
 ·have y3:y.2.2=false:=by rw [a6]
  rw [y3,nf,ct];obtain ⟨s,s1,s2⟩:=h.oc.row.has h.wd.ti;rw [Xr] at s2
  refine Sat.bind (P:=(· =s.XX)) ⟨_,Ky N s1,J⟩ fun z hz=> ?_
  subst hz
  refine aK (fun h3=>by omega) fun h3=> ?_
  refine (PS N U h.wd.ti hb h.oc.row p.XI p.XE (fun x hx=> ?_) (by rw [Xr];omega)).bind fun r hr=> ?_
  ·obtain ⟨x',h1,rfl⟩:=WI.1 hx;exact hno x' h1
  rcases hr with ⟨-, -,r3,r4,r5⟩|⟨r1, -, -⟩
  ·rw [r3];show Sat (Option.bind _ _) _
   have htb:r.2.2.XH.length<=q+1024:=by have:=r4.num;have:=h.wd.tb;omega
   refine (Ny (w:=LZ w r.2.2) (k:=k) hN U hM (hwd _ r4.le r4.ti htb) (c':=⟨c.Xw,r.1,c.XB,c.XC,c.Xy,c.Xx⟩) (v':=v) hp (old:=⟨0,0,⟨#[]⟩⟩) (.inl (by show (0:Int)≠9;decide))).bind fun x hx=> ?_
   refine cQ (by unfold bY;rw [WA];show c.Xy.length+1<=_;have:=h.len;omega) ?_;unfold nb;have hnk:=IX p
   obtain ⟨w',e1,e2,e3,e4⟩:=Rl hN hv hvN h hk hM (q':=q+1024) U hq r4.ti r4.le htb hx (n:=PL.length) (.inl (by show (0:Int)≠9;decide)) r.1 (c.Xy++ [x.1]) (PL++ [my p])
    (by rw [WB];show Row r.2.2 r.1 (PL.map FV++ [((my p).XI,(my p).XE)]);rw [hnk.1,hnk.2];exact r5)
    (by
     rw [WB];refine WM.2 ⟨h.nodup,by simp,fun a ha b hb' e=> ?_⟩;rw [List.map_singleton,WL,hnk.1] at hb';obtain ⟨u,u1,u2⟩:=WI.1 ha
     exact hno u u1 (by rw [u2,e,hb']))
    (by rw [Xp,Xp,WA,WA];omega)
    (by rw [Xp,WA];omega) (by rw [Xp,WA];omega)
    (by rw [We U])
    (by rw [Wf U,show PL.length+1 - c.Xy.length=0 by omega];rfl)
    (by rw [Wf (W4 _),Nat.sub_self];rfl)
    (fun m hm=>by
     by_cases hlt:m<PL.length
     ·rw [We U]
     ·rw [Wk (by rw [Xp,WA];omega),Wk U])
    (fun m hm=>by
     by_cases hlt:m<PL.length
     ·rw [We hlt]
     ·rw [Wk (by rw [Xp,WA];omega),Wk U]) true
   have e1':bp N ⟨⟨c.Xw,r.1,c.XB,c.XC,c.Xy++ [x.1],c.Xx⟩,x.2,v⟩ true=some ⟨⟨c.Xw,r.1,c.XB,c.XC,c.Xy++ [x.1],c.Xx⟩,w',v⟩:=e1
   refine Sat.bind ⟨_,e1',J⟩ fun u hu=> ?_
   subst hu;refine ad ⟨J,⟨c.Xw,r.1,c.XB,c.XC,c.Xy++ [x.1],c.Xx⟩,?_,⟨J,J,J,?_⟩,e3,?_⟩
   ·rw [PE fun a ha=>by rw [hnk.1];exact hno a ha];exact e2
   ·show (c.Xy++ [x.1])[0]? =c.Xy[0]?;rw [We U]
   unfold Ep;rw [Vz fun e:r.1=c.XD=> ?_]
   ·exact e4
   have h8:=r5;rw [e] at h8;have:=congrArg List.length (h8.one (h.oc.row.mono r4.le));rw [Xp,WA] at this;omega
  exact absurd ⟨hR,hA⟩ r1
 have y1:y.1=u:=by rw [a6]
 have y2:y.2.1=(n:Int):=by rw [a6]
 have y3:y.2.2=true:=by rw [a6]
 rw [y3,nt,cf];have hlt:=(Wl.1 hn).1;have hnk:=IX p;have hl:=h.len
 have e0:(PL.map FV)[n]? =some (p.XI,u.XE):=by rw [Wm,hn, <-hu];rfl
 have hset:(PL.set n (my p)).map FV=(PL.map FV).set n (p.XI,p.XE):=by
  rw [List.map_set];show (PL.map FV).set n ((my p).XI,(my p).XE)=_;rw [hnk.1,hnk.2]
 have hj81: ∀(sh:Int) (t':Vi),Grow N w.XH t' 1024->Row t' sh ((PL.map FV).set n (p.XI,p.XE))->(sh=c.XD↔u.XE=p.XE)->Sat (gt N y p ⟨c,w,v⟩ sh (LZ w t')) fun r=>r.1=true/\Sl N i (k+4) (q+1024) w c (Aj PL (my p)) r.2.w_:=by
  intro sh t' hgr hrow hsh
  have htb:t'.XH.length<=q+1024:=by have:=hgr.num;have:=h.wd.tb;omega
  unfold gt;rw [y1,y2];refine cQ (by show in64 ((n:Int)+1);constructor<;>omega) (cQ (by show in64 ((n:Int)+1);constructor<;>omega) (rq (by show 0<=(n:Int)+1;omega) (by show (n:Int)+1<c.Xy.length;omega) fun x hx=> ?_));have hx:c.Xy[((n:Int)+1).toNat]? =some x:=hx;rw [show ((n:Int)+1).toNat=n+1 by omega] at hx
  refine (Ny (w:=LZ w t') (k:=k) hN U hM (hwd _ hgr.le hgr.ti htb) (c':=⟨c.Xw,sh,c.XB,c.XC,c.Xy,c.Xx⟩) (v':=v) hp (old:=x) ?_).bind fun r hr=> ?_
  ·by_cases h9:x.Xw=9
   ·exact .inr (h.pair9 hx h9).1
   exact .inl h9
  refine rq (by show 0<=(n:Int)+1;omega) (by show (n:Int)+1<c.Xy.length;omega) fun x' _=> ?_
  have hlen:(c.Xy.set (n+1) r.1).length=c.Xy.length:=Wz ..
  obtain ⟨w',e1,e2,e3,e4⟩:=Rl hN hv hvN h hk hM (q':=q+1024) U hq hgr.ti hgr.le htb hr (n:=n) (.inr hx) sh (c.Xy.set (n+1) r.1) (PL.set n (my p))
   (by rw [hset];exact hrow)
   (by
    have:(PL.set n (my p)).map (·.XI)=PL.map (·.XI):=by
     rw [List.map_set];refine IG ?_;rw [Wm,hn,hnk.1, <-hu];rfl
    rw [this];exact h.nodup)
   (by rw [hlen,Wz];omega) (by rw [Wz];omega) (by rw [Wz];omega)
   (by rw [Wn U]) (Wo U) (Wo hlt)
   (fun m hm=>by rw [Wn U]) (fun m hm=>by rw [Wn U]) (!decide (u.XE=p.XE))
  have e1':bp N ⟨⟨c.Xw,sh,c.XB,c.XC,List.set c.Xy (((n:Int)+1).toNat) (⟨r.1.Xw,r.1.N,r.1.S⟩:Vp),c.Xx⟩,r.2,v⟩ (!decide (u.XE=p.XE))=some ⟨⟨c.Xw,sh,c.XB,c.XC,c.Xy.set (n+1) r.1,c.Xx⟩,w',v⟩:=by
   rw [show ((n:Int)+1).toNat=n+1 by omega];exact e1
  refine Sat.bind ⟨_,e1',J⟩ fun z hz=> ?_
  subst hz;refine ad ⟨J,⟨c.Xw,sh,c.XB,c.XC,c.Xy.set (n+1) r.1,c.Xx⟩,?_,⟨J,J,J,?_⟩,e3,?_⟩
  ·rw [PF h.nodup hn (by rw [hnk.1];exact hu)];exact e2
  ·show (c.Xy.set (n+1) r.1)[0]? =c.Xy[0]?;rw [Wn U]
  unfold Ep;rw [show decide ((⟨c.Xw,sh,c.XB,c.XC,c.Xy.set (n+1) r.1,c.Xx⟩:Vd).XD=c.XD)=decide (u.XE=p.XE) from decide_eq_decide.2 hsh];exact e4
 rw [y1]
 refine La (fun e=> ?_) fun e=> ?_
 ·refine (Nf N U h.wd.ti hb h.oc.row h.oc.nd p.XI p.XE n u.XE e0).bind fun r hr=> ?_
  rcases hr with ⟨-,r3,r4,r5⟩|⟨r1, -, -⟩
  ·rw [r3,Vy (p:=(0:Int)=0) rfl,nt,cf];refine hj81 r.1 r.2.2 r4 r5 ⟨fun e2=> ?_,fun e2=>absurd e2 (Xm e)⟩;have h8:=r5;rw [e2] at h8;have h9:=congrArg (fun l=>l[n]?) (h8.one (h.oc.row.mono r4.le));simp only [Wo (show n<(PL.map FV).length by rw [Xr];exact hlt),e0] at h9;exact (congrArg Prod.snd (Xe h9)).symm
  exact absurd hA r1
 refine hj81 c.XD w.XH ⟨h.wd.ti,Le.refl _,by omega⟩ ?_ ⟨fun _=>Xn e,fun _=>J⟩;rw [IG (by rw [e0,Xn e])];exact h.oc.row
end
end
section
open Go.RowKit
set_option maxRecDepth 20000
def wx (c:Vd):Bool:=!decide (aq .i64 c.XB 1=0)
def Ic (PL:List Vk)(key:Vs):List Vk:=PL.filter fun p=> !decide (p.XI=key)
theorem QP {key:Vs}(h:∀p∈PL,p.XI≠key):Ic PL key=PL:=List.filter_eq_self.2 fun p hp=>by simp [h p hp]
theorem LG {key:Vs}: ∀{PL:List Vk} {n:Nat} {p:Vk},(PL.map (·.XI)).Nodup->PL[n]? =some p->p.XI=key->PL.eraseIdx n=Ic PL key
 |a::PL,0,p,hn,hp,e=>by
  have:a=p:=Xe hp;subst this;rw [WC,List.nodup_cons] at hn
  have h2:Ic PL key=PL:=QP fun x hx e'=>hn.1 (WI.2 ⟨x,hx,e'.trans e.symm⟩)
  unfold Ic at h2⊢;rw [V9,Vy e,h2];rfl
 |a::PL,n+1,p,hn,hp,e=>by
  rw [WC,List.nodup_cons] at hn;have hp:PL[n]? =some p:=hp
  have ha:a.XI≠key:=fun e'=>hn.1 (WI.2 ⟨p,WJ hp,e.trans e'.symm⟩)
  have:=LG hn.2 hp e;unfold Ic at this⊢;rw [List.eraseIdx_cons_succ,this,V9,Vz ha];rfl
section
variable {N:Nat}(hN:20000<=N)(hv:v.Xw=7)(hvN:v.N=i){w:Vj}(h:Obj N i k q w c PL)
include hN hv hvN h
theorem Rw (hk:k<=580)(m:List Vp)(hm:m.length<=2200)(hmv:∀x∈m,ValW w.XF.m_ x)(a6:c.Xw=1->m=[])(f:Int)(hf:0<=f/\f<=63):
  ∃w',df N w v ⟨c.Xw,c.XD,f,c.XC,c.Xy,m⟩=some w'/\Obj N i k q w' ⟨c.Xw,c.XD,f,c.XC,c.Xy,m⟩ PL/\FrO i w w' c ⟨c.Xw,c.XD,f,c.XC,c.Xy,m⟩/\w'.XR=w.XR:=by
 have hrc:=tx h.right;have hnum:=h.num;have hl:=h.len;obtain ⟨z,z1,z2⟩:=h.oc.proto
 have hval: ∀x∈c.Xy++m,ValW w.XF.m_ x:=fun x hx=>by
  rcases WE.1 hx with hx|hx
  ·exact h.val (VC _ hx)
  exact hmv x hx
 have hR:bm (⟨c.Xw,c.XD,f,c.XC,c.Xy,m⟩:Vd)=true:=Cz h.oc.kind hrc.1 hf hrc.2.2 (fun x hx=>(hval x (VC _ hx)).may) (fun x hx=>(hval x (VD _ hx)).may) (by show c.Xy.length<=1025;omega) z1 z2 (by show m.length<=4096;omega) a6;obtain ⟨e1,e2,e3,e4⟩:=Hs (k':=k) (M':=m.length) hN hv hvN hk hm h.wd h.has h.at_ (c':=⟨c.Xw,c.XD,f,c.XC,c.Xy,m⟩) rfl h.oc.kind hR (fun x hx=>⟨(hval x hx).i64,(hval x hx).ref⟩) (W4 _) (by show c.Xx.length+m.length<=m.length+c.Xx.length;omega);refine ⟨_,e1,⟨e2,e3.has i h.has,?_,⟨h.oc.kind,⟨z,z1,z2⟩,a6,h.oc.row,h.oc.num,h.oc.nd⟩,fun n p hp=> ?_,h.inj⟩,⟨e3,Le.refl _,fun a ha hne _=> ?_,fun n x hx _=> .inl ⟨n,hx⟩⟩,J⟩
 ·show aJ (ic w.XF i _).m_ i=_;rw [e4 i h.has,if_pos rfl]
 ·obtain ⟨x,hx,hs⟩:=h.each n p hp;refine ⟨x,hx,hs.move fun a _ _ ha h5=>⟨e3.has a ha,?_⟩⟩;show aJ (ic w.XF i _).m_ a=_;rw [e4 a ha,if_neg fun e=> ?_];subst e;rw [h.at_] at h5;rcases h.oc.kind with hkd|hkd<;>rw [h5] at hkd<;>cases hkd
 show aJ (ic w.XF i _).m_ a=_;rw [e4 a ha,if_neg hne]
variable (hk:k+4<=580)(hq:q+1024<=1000000000)(hM:c.Xx.length<=2200)
include hk hq hM
theorem Mx {key:Vs}(hR:CR N key){ok:Bool}(ha:lI N (oU PL key).1 (oU PL key).2 (wx c) key d=some (p,ok))(hg:ok=true->PropW w.XF.m_ p/\p.XI=key/\xg p.XE)(hlen:PL.length<1024):
  Sat (jq N w v key d) fun r=>r.1=ok/\(ok=false->r.2=w)/\(ok=true->Sl N i (k+4) (q+1024) w c (Aj PL (my p)) r.2):=by
 unfold jq;rw [Dm hv hvN U hM h,bs];show Sat (Option.bind (cW N key) _) _;rw [show cW N key=some true from hR,bs,nt,cf];show Sat (Option.bind (cL N ⟨c,w,v⟩ key) _) _
 refine (JZ (v:=v) hN U hM h key).bind fun y hy=> ?_
 have e:y.1=(oU PL key).1/\y.2.2=(oU PL key).2:=by
  rcases hy with ⟨rfl,hno⟩|⟨n,u,rfl,hn,rfl⟩
  ·rw [Li hno];exact ⟨J,J⟩
  rw [Lj h.nodup hn];exact ⟨J,J⟩
 have ha':lI N y.1 y.2.2 (!decide (aq .i64 c.XB 1=0)) key d=some (p,ok):=by rw [e.1,e.2];exact ha
 refine Sat.bind (P:=(· =(p,ok))) ⟨_,ha',J⟩ fun z hz=> ?_
 subst hz
 cases ok with
 |false=>exact ad ⟨rfl,fun _=>rfl,fun h=>by cases h⟩
 |true=>
  obtain ⟨g1,g2,g3⟩:=hg rfl;show Sat (Option.bind (fQ N ⟨c,w,v⟩ p) _) _
  exact (Nt hN hv hvN h hk hq hM g1 (by rw [g2];exact hR) g3 hlen).bind fun r hr=>ad ⟨hr.1,(fun h=>by cases h),fun _=>hr.2⟩
theorem Rz {key:Vs}(hR:CR N key)(hx:ValW w.XF.m_ x)(h9:x.Xw≠9)(ha:0<=a/\a<=7)(hA:xg a)(hlen:PL.length<1024):
  Sat (jK N w v key x a) fun r=>r.1=true/\Sl N i (k+4) (q+1024) w c (Aj PL (my ⟨key,a,x,v0,v0⟩)) r.2:=by
 unfold jK;rw [Dm hv hvN U hM h,bs];show Sat (Option.bind (cW N key) _) _;rw [show cW N key=some true from hR,bs,nt,cf,bs,Vz (show¬a<0 by omega),cf,bs,Vz (show¬7<a by omega),cf];have hz:=LQ w.XF.m_
 exact (Nt hN hv hvN h hk hq hM (p:=⟨key,a,x,v0,v0⟩) ⟨⟨hx,h9⟩,⟨hz,.inl J⟩,⟨hz,.inl J⟩⟩ hR hA hlen).bind fun r hr=>ad hr
theorem Mw (key:Vs):Sat (oB N w v key) fun r=>
  ((oU PL key).2=false/\r=(true,w))\/((oU PL key).2=true/\aq .i64 (oU PL key).1.XE 4=0/\r=(false,w))\/
  ((oU PL key).2=true/\aq .i64 (oU PL key).1.XE 4≠0/\r.1=true/\Sl N i k (q+1024) w c (Ic PL key) r.2):=by
 have hb:w.XH.XH.length+1024<=1073741824:=by have:=h.wd.tb;omega
 have hrc:=tx h.right;have hnum:=h.num;have hl:=h.len;obtain ⟨z,z1,z2⟩:=h.oc.proto;unfold oB;rw [Dm hv hvN U hM h,bs];show Sat (Option.bind (cL N ⟨c,w,v⟩ key) _) _
 refine (JZ (v:=v) hN U hM h key).bind fun y hy=> ?_
 rcases hy with ⟨a6,hno⟩|⟨n,u,a6,hn,hu⟩
 ·have y3:y.2.2=false:=by rw [a6]
  rw [y3,nf,ct];exact ad (.inl ⟨by rw [Li hno],rfl⟩)
 have y1:y.1=u:=by rw [a6]
 have y2:y.2.1=(n:Int):=by rw [a6]
 have y3:y.2.2=true:=by rw [a6]
 have hown:oU PL key=(u,true):=by rw [<-hu];exact Lj h.nodup hn
 rw [y3,nt,cf,y1,y2,hown];have hlt:=(Wl.1 hn).1
 refine aK (fun h4=>ad (.inr (.inl ⟨J,h4,J⟩))) fun h4=> ?_
 have hnl:(PL.map FV)[n]? =some (key,u.XE):=by rw [Wm,hn, <-hu];rfl
 show Sat (Option.bind (dW N w.XH c.XD key) _) _
 refine (JV N U h.wd.ti hb h.oc.row h.oc.nd key n _ hnl).bind fun r hr=> ?_
 obtain ⟨r3,r4,r5⟩:=hr;rw [r3,Vy (p:=(0:Int)=0) rfl,nt,cf];refine cQ (by constructor<;>omega) (cQ (by constructor<;>omega) ?_)
 have e3:c.Xy.take ((n:Int)+1).toNat++c.Xy.drop ((n:Int)+2).toNat=c.Xy.eraseIdx (n+1):=by
  rw [List.eraseIdx_eq_take_drop_succ];congr 1
 have e4:ov N c.Xy ((n:Int)+1) ((n:Int)+2)=some (c.Xy.eraseIdx (n+1)):=by
  unfold ov;rw [gi U,e3]
 refine Sat.bind (P:=(· =c.Xy.eraseIdx (n+1))) ⟨_,e4,J⟩ fun s hs=> ?_
 subst hs;have hlen:(c.Xy.eraseIdx (n+1)).length=c.Xy.length - 1:=List.length_eraseIdx_of_lt U;have hlen2:(PL.eraseIdx n).length=PL.length - 1:=List.length_eraseIdx_of_lt hlt
 have hmap:(PL.eraseIdx n).map FV=(PL.map FV).eraseIdx n:=by
  rw [List.eraseIdx_eq_take_drop_succ,WB,List.map_take,List.map_drop, <-List.eraseIdx_eq_take_drop_succ]
 rw [<-hmap] at r5
 have hm: ∀x∈c.Xy.eraseIdx (n+1)++c.Xx,ValW w.XF.m_ x:=fun x hx=>by
  rcases WE.1 hx with hx|hx
  ·exact h.val (VC _ (List.mem_of_mem_eraseIdx hx))
  exact h.val (VD _ hx)
 have h00:(c.Xy.eraseIdx (n+1))[0]? =c.Xy[0]? :=List.getElem?_eraseIdx_of_lt U
 have hS: ∀m:Nat,(c.Xy.eraseIdx (n+1))[m+1]? =c.Xy[(if m<n then m else m+1)+1]? :=fun m=>by
  rw [List.getElem?_eraseIdx];by_cases e:m<n
  ·rw [if_pos U,if_pos e]
  rw [if_neg U,if_neg e]
 obtain ⟨s',s1', -⟩:=r5.has r4.ti;have hR:bm (⟨c.Xw,r.1,c.XB,c.XC,c.Xy.eraseIdx (n+1),c.Xx⟩:Vd)=true:=Cz h.oc.kind s1'.1 hrc.2.1 hrc.2.2 (fun x hx=>(hm x (VC _ hx)).may) (fun x hx=>(hm x (VD _ hx)).may) (by show (c.Xy.eraseIdx (n+1)).length<=1025;omega) (z:=z) (h00.trans z1) z2 (by show c.Xx.length<=4096;omega) h.oc.plain
 have htb:r.2.2.XH.length<=q+1024:=by have:=r4.num;have:=h.wd.tb;omega
 have hep0:=h.wd.ep;have hwd:Wd N k (q+1024) c.Xx.length (LZ w r.2.2):=⟨h.wd.pl,h.wd.hb,r4.ti,htb,hep0.1,by show w.XR<=_;omega⟩;obtain ⟨e5,e6,e7,e8⟩:=Hs (k':=k) (M':=c.Xx.length) hN hv hvN U hM hwd h.has h.at_ (c':=⟨c.Xw,r.1,c.XB,c.XC,c.Xy.eraseIdx (n+1),c.Xx⟩) rfl h.oc.kind hR (fun x hx=>⟨(hm x hx).i64,(hm x hx).ref⟩) (by show k+(c.Xy.eraseIdx (n+1)).length<=k+c.Xy.length;omega) (W4 _)
 have e8: ∀x,aw w.XF.m_ x=true->aJ (ic w.XF i (⟨c.Xw,r.1,c.XB,c.XC,c.Xy.eraseIdx (n+1),c.Xx⟩:Vd)).m_ x=if x=i then ⟨c.Xw,r.1,c.XB,c.XC,c.Xy.eraseIdx (n+1),c.Xx⟩ else aJ w.XF.m_ x:=e8
 have e9:=Ig (c':=⟨c.Xw,r.1,c.XB,c.XC,c.Xy.eraseIdx (n+1),c.Xx⟩) e5 (by show 0<=w.XR/\w.XR<=2000000000;omega) true
 refine Sat.bind ⟨_,e9,J⟩ fun u' hu'=> ?_
 subst hu';refine ad (.inr (.inr ⟨J,h4,J,⟨c.Xw,r.1,c.XB,c.XC,c.Xy.eraseIdx (n+1),c.Xx⟩,?_,⟨J,J,J,h00⟩,?_,?_⟩))
 ·rw [<-LG h.nodup hn hu];refine ⟨⟨e6.pl,e6.hb,e6.ti,e6.tb,?_⟩,e7.has i h.has,?_,⟨h.oc.kind,⟨z,h00.trans z1,z2⟩,h.oc.plain,r5,?_,?_⟩,fun m p hp=> ?_,fun m1 m2 x y hne h1 h2=> ?_⟩
  ·show 0<=w.XR+_/\w.XR+_<=((q+1024:Nat):Int);cases (true&&rE (⟨c.Xw,r.1,c.XB,c.XC,c.Xy.eraseIdx (n+1),c.Xx⟩:Vd))
   ·show 0<=w.XR+0/\w.XR+0<=((q+1024:Nat):Int);omega
   show 0<=w.XR+1/\w.XR+1<=((q+1024:Nat):Int);omega
  ·show aJ (ic w.XF i _).m_ i=_;rw [e8 i h.has,if_pos rfl]
  ·show (c.Xy.eraseIdx (n+1)).length=_;rw [Xr];omega
  ·rw [hmap,List.eraseIdx_eq_take_drop_succ,WB,List.map_take,List.map_drop, <-List.eraseIdx_eq_take_drop_succ];exact List.Nodup.sublist (List.eraseIdx_sublist ..) h.oc.nd
  ·have hP:(PL.eraseIdx n)[m]? =PL[if m<n then m else m+1]? :=by
    rw [List.getElem?_eraseIdx];split<;>rfl
   rw [hP] at hp;obtain ⟨x,hx,hsl⟩:=h.each _ p hp;refine ⟨x,(hS m).trans hx,hsl.move fun a _ _ ha h5=>⟨e7.has a ha,?_⟩⟩;show aJ (ic w.XF i _).m_ a=_;rw [e8 a ha,if_neg fun e=> ?_];subst e;rw [h.at_] at h5;rcases h.oc.kind with hkd|hkd<;>rw [h5] at hkd<;>cases hkd
  rw [hS] at h1 h2;refine h.inj _ _ x y (fun e=>hne ?_) h1 h2;split at e<;>split at e<;>omega
 ·refine ⟨⟨e7.roots,e7.has,e7.spent,e7.config⟩,r4.le,fun a ha hne _=> ?_,fun m x hx _=> .inl ⟨_,(hS m).symm.trans hx⟩⟩;show aJ (ic w.XF i _).m_ a=_;rw [e8 a ha,if_neg hne]
 unfold Ep;rw [Vz fun e:r.1=c.XD=> ?_]
 ·rfl
 have h8:=r5;rw [e] at h8;have h9:=congrArg List.length (h8.one (h.oc.row.mono r4.le));rw [hmap] at h9;have h10:((PL.map FV).eraseIdx n).length=(PL.map FV).length - 1:=List.length_eraseIdx_of_lt (by rw [Xr];exact hlt);rw [Xr] at h9 h10;omega
end
end
section
open Go.RowKit
set_option maxRecDepth 20000
def Sep (c d:Vd):Prop:= ∀(n m:Nat) x y,c.Xy[n+1]? =some x->d.Xy[m+1]? =some y->x.Xw=9->y.Xw=9->x.N≠y.N
theorem Sep.symm {d:Vd}(h:Sep c d):Sep d c:=fun n m x y hx hy kx ky e=>h m n y x hy hx ky kx e.symm
theorem ObjC.not5 {l:List (Vs×Int)}(h:ObjC t c l):c.Xw≠5:=by
 rcases h.kind with h|h<;>omega
theorem Obj.pair_ne {N:Nat}{w:Vj}(h:Obj N i k q w c PL)(hx:c.Xy[n+1]? =some x)(h9:x.Xw=9){j:Int}(hj:(aJ w.XF.m_ j).Xw≠5):x.N≠j:=fun e=>by
 obtain ⟨⟨g,s,a,ag,rfl, -,e3⟩, -⟩:=h.pair9 hx h9;have e:a=j:=e;rw [<-e,e3] at hj;exact hj J
theorem Obj.keep {N:Nat}{j:Int}{w:Vj}{d:Vd}{QL:List Vk}(h:Obj N i k q w c PL)(hj:Obj N j k q w d QL)(hij:i≠j)(sep:Sep c d)(h':Obj N i k' q' w' c' PL')(hM:d.Xx.length=c'.Xx.length)(f:FrO i w w' c c'):Obj N j k' q' w' d QL/\Sep c' d:=by
 have h5:(aJ w.XF.m_ j).Xw≠5:=by rw [hj.at_];exact hj.oc.not5
 have hat:aJ w'.XF.m_ j=d:=by
  rw [f.rest j hj.has hij.symm fun n x hx h9=>h.pair_ne hx h9 h5];exact hj.at_
 refine ⟨⟨by rw [hM];exact h'.wd,f.fr.has j hj.has,hat,⟨hj.oc.kind,hj.oc.proto,hj.oc.plain,hj.oc.row.mono f.le,hj.oc.num,hj.oc.nd⟩,fun n p hp=> ?_,hj.inj⟩,fun n m x y hx hy kx ky=> ?_⟩
 ·obtain ⟨x,hx,hs⟩:=hj.each n p hp;refine ⟨x,hx,hs.move fun a h9 hxa ha a6=>⟨f.fr.has a ha,f.rest a ha (fun e=> ?_) fun m y hy a8 e=>sep m n y x hy hx a8 h9 (e.trans hxa.symm)⟩⟩;rw [e,h.at_] at a6;exact h.oc.not5 a6
 rcases f.new n x hx kx with ⟨n',hn'⟩|hn
 ·exact sep n' m x y hn' hy kx ky
 intro e;have:=(hj.pair9 hy ky).2;rw [<-e,hn] at this;cases this
def wT (f:Nat->α)(j:Nat)(x:α):Nat->α:=fun m=>if m=j then x else f m
theorem uU (f:Nat->α)(j:Nat)(x:α):wT f j x j=x:=if_pos rfl
theorem tj (f:Nat->α){m:Nat}(x:α)(h:m≠j):wT f j x m=f m:=if_neg h
theorem Nq (f:Nat->α)(j:Nat):wT f j (f j)=f:=by
 funext m;unfold wT;split
 ·rename_i h;rw [h]
 rfl
structure Objs (N n k q:Nat) (w:Vj) (A:Nat->Int) (C:Nat->Vd) (P:Nat->List Vk):Prop where
 ob: ∀j,j<n->Obj N (A j) k q w (C j) (P j)
 k1: ∀j,j<n->(C j).Xw=1
 sep: ∀i j,i<n->j<n->i≠j->A i≠A j/\Sep (C i) (C j)
section
variable {N:Nat}{w:Vj}(h:Objs N n k q w A C P)
include h
theorem Objs.up (h1:k<=k')(h2:q<=q'):Objs N n k' q' w A C P:=⟨fun j hj=>(h.ob j hj).up h1 h2,h.k1,h.sep⟩
theorem Objs.more (hj:j<n):(C j).Xx=[]:=(h.ob j hj).oc.plain (h.k1 j hj)
theorem Objs.upd (hj:j<n)(ho:Obj N (A j) k' q' w' c' PL')(hs:c'.Xw=(C j).Xw)(f:FrO (A j) w w' (C j) c'):Objs N n k' q' w' A (wT C j c') (wT P j PL'):=by
 have k1':c'.Xw=1:=hs.trans (h.k1 j hj);have hm':c'.Xx=[]:=ho.oc.plain k1'
 have key: ∀m,m<n->m≠j->Obj N (A m) k' q' w' (C m) (P m)/\Sep c' (C m):=fun m hm hne=>(h.ob j hj).keep (h.ob m hm) (h.sep j m hj hm hne.symm).1 (h.sep j m hj hm hne.symm).2 ho (by rw [h.more hm,hm']) f
 refine ⟨fun m hm=> ?_,fun m hm=> ?_,fun a b ha hb hab=>⟨(h.sep a b ha hb hab).1,?_⟩⟩
 ·by_cases e:m=j
  ·rw [e,uU,uU];exact ho
  rw [tj _ _ e,tj _ _ e];exact (key m hm e).1
 ·by_cases e:m=j
  ·rw [e,uU];exact k1'
  rw [tj _ _ e];exact h.k1 m hm
 by_cases ea:a=j
 ·have eb:b≠j:=fun e=>hab (ea.trans e.symm)
  rw [ea,uU,tj _ _ eb];exact (key b hb eb).2
 rw [tj _ _ ea];by_cases eb:b=j
 ·rw [eb,uU];exact (key a ha ea).2.symm
 rw [tj _ _ eb];exact (h.sep a b ha hb hab).2
end
end
section
open Go.RowKit
set_option maxRecDepth 20000
theorem RO (h:bd x=false):bI ρ f x=x:=by
 unfold bI;rw [h];rfl
theorem yX (ρ:Int->Int)(f:List Int)(x:Vp):(bI ρ f x).Xw=x.Xw:=by
 unfold bI;cases bd x&&decide (x.N∈f)<;>rfl
theorem JY (ρ:Int->Int)(f:List Int):bI ρ f v0=v0:=RO rfl
def HL (ρ:Int->Int)(f:List Int)(p:Vk):Vk:=⟨p.XI,p.XE,bI ρ f p.Value,bI ρ f p.XL,bI ρ f p.XM⟩
theorem Kv (ρ:Int->Int)(f:List Int)(PL:List Vk):(PL.map (HL ρ f)).map FV=PL.map FV:=by
 rw [List.map_map];rfl
theorem Mv.obj {N:Nat}{w:Vj}(h:Obj N i k q w c PL)(hm:c.Xx=[])(m:Mv w.XF g' ρ f)(hi:i∈f):
  (∃age,aJ g'.m_ (ρ i)=⟨c.Xw,c.XD,c.XB,age,c.Xy.map (bI ρ f),[]⟩)/\Obj N (ρ i) k q (Et w g') (aJ g'.m_ (ρ i)) (PL.map (HL ρ f)):=by
 obtain ⟨m1,age,m2⟩:=m.at_ i hi;obtain ⟨in1, -⟩:=m.cin i hi;rw [h.at_] at in1 m2;have hpl:=m.pl h.wd.pl
 have hm2:aJ g'.m_ (ρ i)=⟨c.Xw,c.XD,c.XB,age,c.Xy.map (bI ρ f),[]⟩:=by
  rw [m2];show (⟨c.Xw,c.XD,c.XB,age,c.Xy.map (bI ρ f),c.Xx.map (bI ρ f)⟩:Vd)=_;rw [hm];rfl
 have hb:Hb k 0 g':=by
  have a1:=h.wd.hb.hw;have a2:=h.wd.hb.hm;have a3:=h.wd.hb.hr;rw [hm] at a2;have a2:mS w.XF.m_.XA+mS w.XF.m_.Xz<=0:=a2;have e1:=Gk w.XF.m_.XA;have e2:=Gk w.XF.m_.Xz;have e3:=Gk g'.m_.XA;have e4:=Gk g'.m_.Xz;have b1:=m.sum;have b2:=m.wts;refine ⟨by omega,by omega,?_⟩;rw [m.roots,Xr];exact a3
 refine ⟨⟨age,hm2⟩,?_⟩;rw [hm2];refine ⟨⟨hpl,hb,h.wd.ti,h.wd.tb,h.wd.ep⟩,m1,hm2,⟨h.oc.kind,?_,fun _=>J,?_,?_,?_⟩,?_,?_⟩
 ·obtain ⟨z,z1,z2⟩:=h.oc.proto;exact ⟨bI ρ f z,by rw [Wm,z1];rfl,by rw [yX];exact z2⟩
 ·rw [Kv];exact h.oc.row
 ·rw [Kv,Xr];exact h.oc.num
 ·rw [Kv];exact h.oc.nd
 ·intro n p' hp';rw [Wm] at hp';obtain ⟨p,hp,rfl⟩:=Option.map_eq_some_iff.1 hp';obtain ⟨x,x1,x2⟩:=h.each n p hp;refine ⟨bI ρ f x,by rw [Wm,x1];rfl,?_⟩;rcases x2 with ⟨a1,a2,a3,a4,a5⟩|⟨a1,a2,a,ag,rfl,a4,a5⟩
  ·refine .inl ⟨a1,congrArg (bI ρ f) a2,?_,?_,by rw [yX];exact a5⟩
   ·show bI ρ f p.XL=v0;rw [a3,JY]
   show bI ρ f p.XM=v0;rw [a4,JY]
  have ha:a∈f:=in1 _ (WJ x1) rfl;obtain ⟨b1,age2,b2⟩:=m.at_ a ha;refine .inr ⟨a1,?_,ρ a,age2,tO J ha,b1,?_⟩
  ·show bI ρ f p.Value=v0;rw [a2,JY]
  refine b2.trans ?_;show xx (lF ρ f (aJ w.XF.m_ a)) age2=_;rw [a5];rfl
 intro n n2 x y hne hx hy kx ky;have hx:(c.Xy.map (bI ρ f))[n+1]? =some x:=hx;have hy:(c.Xy.map (bI ρ f))[n2+1]? =some y:=hy;rw [Wm] at hx hy;obtain ⟨x0,a6,rfl⟩:=Option.map_eq_some_iff.1 hx;obtain ⟨y0,a8,rfl⟩:=Option.map_eq_some_iff.1 hy;rw [yX] at kx ky
 have bx:bd x0=true:=by unfold bd;rw [kx];rfl
 have by_:bd y0=true:=by unfold bd;rw [ky];rfl
 have fx:=in1 _ (WJ a6) bx;have fy:=in1 _ (WJ a8) by_;rw [tO bx fx,tO by_ fy];intro e;exact h.inj n n2 x0 y0 hne a6 a8 kx ky (m.inj _ fx _ fy e)
theorem Objs.mv {N:Nat}{w:Vj}(h:Objs N n k q w A C P)(m:Mv w.XF g' ρ f)(hA:∀j,j<n->A j∈f):
  Objs N n k q (Et w g') (fun j=>ρ (A j)) (fun j=>aJ g'.m_ (ρ (A j))) (fun j=>(P j).map (HL ρ f))/\ ∀j,j<n-> ∃age,aJ g'.m_ (ρ (A j))=⟨(C j).Xw,(C j).XD,(C j).XB,age,(C j).Xy.map (bI ρ f),[]⟩:=by
 have key: ∀j,j<n->_:=fun j hj=>Mv.obj (h.ob j hj) (h.more hj) m (hA j hj)
 refine ⟨⟨fun j hj=>(key j hj).2,fun j hj=> ?_,fun a b ha hb hab=>⟨fun e=> ?_,?_⟩⟩,fun j hj=>(key j hj).1⟩
 ·obtain ⟨⟨age,e⟩, -⟩:=key j hj;show (aJ g'.m_ (ρ (A j))).Xw=1;rw [e];exact h.k1 j hj
 ·exact (h.sep a b ha hb hab).1 (m.inj _ (hA a ha) _ (hA b hb) e)
 obtain ⟨⟨age,ea⟩, -⟩:=key a ha;obtain ⟨⟨age2,eb⟩, -⟩:=key b hb;show Sep (aJ g'.m_ (ρ (A a))) (aJ g'.m_ (ρ (A b)));rw [ea,eb];intro n1 n2 x y hx hy kx ky;have hx:((C a).Xy.map (bI ρ f))[n1+1]? =some x:=hx;have hy:((C b).Xy.map (bI ρ f))[n2+1]? =some y:=hy;rw [Wm] at hx hy;obtain ⟨x0,a6,rfl⟩:=Option.map_eq_some_iff.1 hx;obtain ⟨y0,a8,rfl⟩:=Option.map_eq_some_iff.1 hy;rw [yX] at kx ky
 have bx:bd x0=true:=by unfold bd;rw [kx];rfl
 have by_:bd y0=true:=by unfold bd;rw [ky];rfl
 have ina:=(m.cin (A a) (hA a ha)).1;rw [(h.ob a ha).at_] at ina;have inb:=(m.cin (A b) (hA b hb)).1;rw [(h.ob b hb).at_] at inb;have fx:=ina _ (WJ a6) bx;have fy:=inb _ (WJ a8) by_;rw [tO bx fx,tO by_ fy];intro e;exact (h.sep a b ha hb hab).2 n1 n2 x0 y0 a6 a8 kx ky (m.inj _ fx _ fy e)
set_option maxRecDepth 20000
def KBox (w:Vj):Prop:= ∃x,w.XF.XJ[19]? =some x/\bd x=true/\(aJ w.XF.m_ x.N).Xx=[]/\(aJ w.XF.m_ x.N).Xw≠1/\(aJ w.XF.m_ x.N).Xw≠2/\(aJ w.XF.m_ x.N).Xw≠5
theorem Pl.root_has (pl:Pl g)(h:g.XJ[j]? =some x)(hb:bd x=true):in64 x.N/\aw g.m_ x.N=true:=⟨pl.hb.r64 _ (VC _ (WJ h)),pl.roots _ (qJ.2 ⟨x,WJ h,hb,rfl⟩)⟩
theorem KBox.keep {N:Nat}{w:Vj}(h:Obj N i k q w c PL)(f:FrO i w w' c c')(hk:KBox w):KBox w':=by
 obtain ⟨x,h1,h2,h3,h4,h5,h6⟩:=hk;have hh:=(h.wd.pl.root_has h1 h2).2
 have e:aJ w'.XF.m_ x.N=aJ w.XF.m_ x.N:=f.rest _ hh (fun e=>by
  rw [e,h.at_] at h4 h5;rcases h.oc.kind with hk|hk
  ·exact h4 hk
  ·exact h5 hk) fun n y hy h9=>h.pair_ne hy h9 h6
 exact ⟨x,by rw [f.fr.roots];exact h1,h2,by rw [e];exact h3,by rw [e];exact h4,by rw [e];exact h5,by rw [e];exact h6⟩
theorem KBox.mv {w:Vj}(m:Mv w.XF w'.XF ρ f)(hk:KBox w):KBox w':=by
 obtain ⟨x,h1,h2,h3,h4,h5,h6⟩:=hk;have hx:x.N∈f:=m.rin x (WJ h1) h2;obtain ⟨m1,age,m2⟩:=m.at_ _ hx;have e1:(bI ρ f x)=⟨x.Xw,ρ x.N,x.S⟩:=tO h2 hx;refine ⟨bI ρ f x,by rw [m.roots,Wm,h1];rfl,by rw [e1];exact h2,?_,?_,?_,?_⟩
 ·rw [e1,m2];show (aJ w.XF.m_ x.N).Xx.map (bI ρ f)=[];rw [h3];rfl
 all_goals rw [e1,m2]
 ·exact h4
 ·exact h5
 exact h6
section
variable {N:Nat}(hN:6500<N){w:Vj}(pl:Pl w.XF)(hr:w.XF.XJ.length<=600)(hk:KBox w)
include hN pl hr hk
theorem FI: ∃g' ρ f,eB N w=some (Et w g')/\Mv w.XF g' ρ f:=by
 obtain ⟨x,h1,hb,hm, -⟩:=hk;obtain ⟨x1,x2⟩:=pl.root_has h1 hb;obtain ⟨g',ρ,f,e,m⟩:=Od hN pl;obtain ⟨N',rfl⟩: ∃N',N=N'+1:=⟨N - 1,by omega⟩;refine ⟨g',ρ,f,?_,m⟩;have h1':bL (N'+1) w.XF 19=some x:=HA (N'+1) h1;have h2:aE (N'+1) w x=some (aJ w.XF.m_ x.N):=C2 pl.hb.small.cells hb x1 x2;unfold eB;rw [GN (N'+1) hr,bs,h1',bs,h2,bs,bT.eq_2,hm];rw [Vz (p:=(0:Int)<((([]:List Vp).length:Nat):Int)) (by simp),cf];unfold ib;have e':dj (N'+1) w.XF=some (0,g'):=e
 have hlen:w.XF.XJ.length=g'.XJ.length:=by rw [m.roots,Xr]
 rw [e',bs];show (fz (N'+1) g' (w.XF.XJ.length:Int)).bind _=_;rw [hlen,Jw,bs];rfl
theorem FH: ∃g' ρ f,eA N w=some (Et w g')/\Mv w.XF g' ρ f:=by
 obtain ⟨x,h1,hb,hm, -⟩:=hk;obtain ⟨x1,x2⟩:=pl.root_has h1 hb;obtain ⟨g',ρ,f,e,m⟩:=N9 hN pl;obtain ⟨N',rfl⟩: ∃N',N=N'+1:=⟨N - 1,by omega⟩;refine ⟨g',ρ,f,?_,m⟩;have h1':bL (N'+1) w.XF 19=some x:=HA (N'+1) h1;have h2:aE (N'+1) w x=some (aJ w.XF.m_ x.N):=C2 pl.hb.small.cells hb x1 x2;unfold eA;rw [GN (N'+1) hr,bs,h1',bs,h2,bs,bS.eq_2,hm];rw [Vz (p:=(0:Int)<((([]:List Vp).length:Nat):Int)) (by simp),cf];unfold ia;have e':di (N'+1) w.XF=some (0,g'):=e
 have hlen:w.XF.XJ.length=g'.XJ.length:=by rw [m.roots,Xr]
 rw [e',bs];show (fz (N'+1) g' (w.XF.XJ.length:Int)).bind _=_;rw [hlen,Jw,bs];rfl
theorem Pu (h0:0<=w.XQ.Yd)(h1:w.XQ.Yd<w.XK.Yg)(h2:w.XK.Yg<=2000):
  ∃w',dt N w=some (true,w')/\w'.XQ.Yd=w.XQ.Yd+1/\w'.XK=w.XK/\w'.XH=w.XH/\w'.XR=w.XR/\(w'.XF=w.XF\/ ∃ρ f,Mv w.XF w'.XF ρ f):=by
 unfold dt;rw [Vz (p:=w.XK.Yg<=w.XQ.Yd) U,cf,r64 U U];obtain ⟨b,hb⟩:=Ju N w.XK.Yi (⟨(⟨w.XQ.Yd+1,w.XQ.Yf,w.XQ.Yh⟩:Vg),w.XK,(),w.XF,w.XH,w.XS,w.XR,w.XY,w.XZ,w.XT,w.XU⟩:Vj);obtain ⟨b2,a6⟩:=Ju N w.XK.XA (⟨(⟨w.XQ.Yd+1,w.XQ.Yf,w.XQ.Yh⟩:Vg),w.XK,(),w.XF,w.XH,w.XS,w.XR,w.XY,w.XZ,w.XT,w.XU⟩:Vj);rw [hb,bs]
 cases b with
 |true=>
  obtain ⟨g',ρ,f,e,m⟩:=FI hN (w:=(⟨(⟨w.XQ.Yd+1,w.XQ.Yf,w.XQ.Yh⟩:Vg),w.XK,(),w.XF,w.XH,w.XS,w.XR,w.XY,w.XZ,w.XT,w.XU⟩:Vj)) pl hr hk;rw [ct,e,bs];exact ⟨_,J,J,J,J,J,.inr ⟨ρ,f,m⟩⟩
 | false=>
  rw [cf,a6,bs]
  cases b2 with
  |true=>
   obtain ⟨g',ρ,f,e,m⟩:=FH hN (w:=(⟨(⟨w.XQ.Yd+1,w.XQ.Yf,w.XQ.Yh⟩:Vg),w.XK,(),w.XF,w.XH,w.XS,w.XR,w.XY,w.XZ,w.XT,w.XU⟩:Vj)) pl hr hk;rw [ct,e,bs];exact ⟨_,J,J,J,J,J,.inr ⟨ρ,f,m⟩⟩
  |false=>
   rw [cf];exact ⟨_,J,J,J,J,J,.inl J⟩
end
theorem Wd.cg {N:Nat}{w:Vj}(h:Wd N k q M w)(e1:w'.XF=w.XF)(e2:w'.XH=w.XH)(e3:w'.XR=w.XR):Wd N k q M w':=⟨by rw [e1];exact h.pl,by rw [e1];exact h.hb,by rw [e2];exact h.ti,by rw [e2];exact h.tb,by rw [e3];exact h.ep⟩
theorem Obj.cg {N:Nat}{w:Vj}(h:Obj N i k q w c PL)(e1:w'.XF=w.XF)(e2:w'.XH=w.XH)(e3:w'.XR=w.XR):Obj N i k q w' c PL:=⟨h.wd.cg e1 e2 e3,by rw [e1];exact h.has,by rw [e1];exact h.at_,by rw [e2];exact h.oc,by rw [e1];exact h.each,h.inj⟩
theorem Objs.cg {N:Nat}{w:Vj}(h:Objs N n k q w A C P)(e1:w'.XF=w.XF)(e2:w'.XH=w.XH)(e3:w'.XR=w.XR):Objs N n k q w' A C P:=⟨fun j hj=>(h.ob j hj).cg e1 e2 e3,h.k1,h.sep⟩
end
section
open Go.RowKit
set_option maxRecDepth 20000
set_option maxRecDepth 20000
def sB (n b:Int):Bool:=decide ((n.tdiv b).tmod 2=1)
theorem O4 (N:Nat)(h0:0<=a)(h1:a<=63){b:Int}(hb:1<=b):lX N a b=some (sB a b):=by
 unfold lX;refine gi ⟨by omega,?_⟩;rw [VU h0];have:=Int.ediv_nonneg h0 (show 0<=b by omega);have:=Int.ediv_le_self b h0;constructor<;>omega
theorem QU {b:Bool}{x y:α}:(bif b then some x else some y)=some (bif b then x else y):=by cases b<;>rfl
theorem P9: ∀n:_root_.Fin 64,bQ .i64 (n.val:Int) 63=0/\(!decide (aq .i64 (n.val:Int) 3=0))=(sB (n.val:Int) 1||sB (n.val:Int) 2)/\(!decide (aq .i64 (n.val:Int) 12=0))=(sB (n.val:Int) 4||sB (n.val:Int) 8)/\(!decide (aq .i64 (n.val:Int) 1=0))=sB (n.val:Int) 1/\(!decide (aq .i64 (n.val:Int) 2=0))=sB (n.val:Int) 2/\(!decide (aq .i64 (n.val:Int) 4=0))=sB (n.val:Int) 4/\(!decide (aq .i64 (n.val:Int) 8=0))=sB (n.val:Int) 8/\(!decide (aq .i64 (n.val:Int) 16=0))=sB (n.val:Int) 16/\(!decide (aq .i64 (n.val:Int) 32=0))=sB (n.val:Int) 32:=by decide+kernel
structure Six (n:Int):Prop where
 z:bQ .i64 n 63=0
 b3:(!decide (aq .i64 n 3=0))=(sB n 1||sB n 2)
 b12:(!decide (aq .i64 n 12=0))=(sB n 4||sB n 8)
 b1:(!decide (aq .i64 n 1=0))=sB n 1
 b2:(!decide (aq .i64 n 2=0))=sB n 2
 b4:(!decide (aq .i64 n 4=0))=sB n 4
 b8:(!decide (aq .i64 n 8=0))=sB n 8
 b16:(!decide (aq .i64 n 16=0))=sB n 16
 b32:(!decide (aq .i64 n 32=0))=sB n 32
theorem six {n:Int}(h0:0<=n)(h1:n<=63):Six n:=by
 have hf:=P9 ⟨n.toNat,by omega⟩;simp only [VX h0] at hf;obtain ⟨f1,f2,f3,f4,f5,f6,f7,f8,f9⟩:=hf;exact ⟨f1,f2,f3,f4,f5,f6,f7,f8,f9⟩
def JK (x y z:Bool):Int:=
 let p:=bif x then i4 .i64 0 1 else 0
 let q:=bif y then i4 .i64 p 2 else p
 bif z then i4 .i64 q 4 else q
section
variable (N:Nat)
theorem OQ (h:Six d.Has):bj N d 1=some (sB d.Has 1)/\bj N d 2=some (sB d.Has 2)/\bj N d 4=some (sB d.Has 4)/\bj N d 8=some (sB d.Has 8)/\bj N d 16=some (sB d.Has 16)/\bj N d 32=some (sB d.Has 32)/\bj N d 3=some (sB d.Has 1||sB d.Has 2)/\bj N d 12=some (sB d.Has 4||sB d.Has 8):=by
 unfold bj;rw [h.b1,h.b2,h.b4,h.b8,h.b16,h.b32,h.b3,h.b12];exact ⟨J,J,J,J,J,J,J,J⟩
theorem Ue (h:Six d.Has):sQ N d=some (JK (sB d.Has 2) (sB d.Has 16) (sB d.Has 32)):=by
 obtain ⟨-,s2, -, -,a6,a8, -, -⟩:=OQ N h;unfold sQ qZ qY pU JK;rw [s2,bs,a6,bs,bs,a8,bs,bs,bs,bs];cases sB d.Has 2<;>cases sB d.Has 16<;>cases sB d.Has 32<;>rfl
theorem Sz (h0:0<=d.Has)(h1:d.Has<=63){b:Int}(hb:1<=b):dw N d b=some (sB d.Has b):=by
 unfold dw;rw [O4 N h0 h1 hb,bs]
end
theorem SZ {x y:Bool}:(bif x then true else y)=(x||y):=by cases x<;>rfl
end
section
open Go.RowKit
set_option maxRecDepth 20000
structure R25 (d:Vn):Prop where
 h:0<=d.Has/\d.Has<=63
 a:0<=d.XE/\d.XE<=7
 da:((sB d.Has 1||sB d.Has 2)&&(sB d.Has 4||sB d.Has 8))=false
 a1:(sB d.XE 1&& !sB d.Has 2)=false
 a2:(sB d.XE 2&& !sB d.Has 16)=false
 a4:(sB d.XE 4&& !sB d.Has 32)=false
 v:sB d.Has 1=false->d.Value=v0
 vk:0<=d.Value.Xw/\d.Value.Xw<=7
 g:(sB d.Has 4=false->d.XL=v0)/\(sB d.Has 4=true->d.XL.Xw=0\/d.XL.Xw=7)
 s:(sB d.Has 8=false->d.XM=v0)/\(sB d.Has 8=true->d.XM.Xw=0\/d.XM.Xw=7)
theorem Ot (N:Nat)(x:Vp)(b:Bool):Sat (tH N x b) fun r=>r=true->(b=false->x=v0)/\(b=true->x.Xw=0\/x.Xw=7):=by
 unfold tH
 cases b with
 |false=>exact ad fun h=>⟨(fun _=>Xn h),fun h=>(by cases h)⟩
 |true=>
  rw [nt,cf]
  refine bN (P:=fun r=>r=true->x.Xw=0\/x.Xw=7) (fun e=>ad fun _=> .inl (Xn e)) (fun _=>ad fun h=> .inr (Xn h)) fun r hr=>ad fun h=>⟨(fun h=>by cases h),fun _=>hr h⟩
theorem Pz (N:Nat)(d:Vn):Sat (uF N d) fun b=>b=true->R25 d:=by
 unfold uF
 refine bN (P:=fun b=>b=false->0<=d.Has/\d.Has<=63) (fun _=>ad fun h=>by cases h) (fun e=>ad fun h=>by have:=Xm e;have:=Xm h;omega) fun b2 h2=> ?_
 refine bN (P:=fun b=>b=false->(0<=d.Has/\d.Has<=63)/\0<=d.XE) (fun _=>ad fun h=>by cases h) (fun e=>ad fun h=>⟨h2 e,by have:=Xm h;omega⟩) fun b3 h3=> ?_
 refine bN (P:=fun b=>b=false->(0<=d.Has/\d.Has<=63)/\0<=d.XE/\d.XE<=7) (fun _=>ad fun h=>by cases h) (fun e=>ad fun h=>⟨(h3 e).1,(h3 e).2,by have:=Xm h;omega⟩) fun b4 h4=> ?_
 cases b4 with
 |true=>
  rw [ct,bs,ct]
  exact ad fun h=>by cases h
 | false=>
  obtain ⟨⟨h0,h1⟩,a0,a1⟩:=h4 rfl
  have hs: ∀b:Int,1<=b->dw N d b=some (sB d.Has b):=fun b hb=>by
   unfold dw;rw [O4 N h0 h1 hb,bs]
  have hda:qu N d=some (sB d.Has 1||sB d.Has 2):=by
   unfold qu;rw [hs 1 U,bs,hs 2 U,bs];cases sB d.Has 1<;>rfl
  have hac:kO N d=some (sB d.Has 4||sB d.Has 8):=by
   unfold kO;rw [hs 4 U,bs,hs 8 U,bs];cases sB d.Has 4<;>rfl
  have hat: ∀b:Int,1<=b->lX N d.XE b=some (sB d.XE b):=fun b hb=>O4 N a0 U hb
  rw [cf,hda,bs,hac,bs,hat 1 U,bs,hs 2 U,bs,hat 2 U,bs,hs 16 U,bs,hat 4 U,bs,hs 32 U,bs,hs 1 U,bs,hs 4 U,bs,hs 8 U,bs]
  cases e1:((sB d.Has 1||sB d.Has 2)&&(sB d.Has 4||sB d.Has 8)) with
  |true=>
   rw [Xt] at e1;rw [e1.1,e1.2]
   exact ad fun h=>by cases h
  | false=>
   have e1':(bif (sB d.Has 1||sB d.Has 2) then (some (sB d.Has 4||sB d.Has 8)) else (some false):Option Bool)=some false:=by
    rw [<-e1];cases (sB d.Has 1||sB d.Has 2)<;>rfl
   rw [e1',bs,bs,cf]
   have hx: ∀x y:Bool,(bif x then (some (!y)) else (some false):Option Bool)=some (x&& !y):=fun x y=>by cases x<;>rfl
   rw [hx,bs,hx,bs,hx,bs]
   cases e2:(sB d.XE 1&& !sB d.Has 2) with
   |true=>exact ad fun h=>by cases h
   | false=>
    rw [cf,bs]
    cases e3:(sB d.XE 2&& !sB d.Has 16) with
    |true=>exact ad fun h=>by cases h
    | false=>
     rw [cf,bs]
     cases e4:(sB d.XE 4&& !sB d.Has 32) with
     |true=>exact ad fun h=>by cases h
     |false=>
      rw [cf]
      refine bN (P:=fun b=>b=false->sB d.Has 1=false->d.Value=v0) (fun e=>ad fun h _=>by rw [Bool.not_eq_false'] at h;exact Xn h) (fun e=>ad fun _ h=>by rw [h] at e;cases e) fun b0 h23=> ?_
      refine bN (P:=fun b=>b=false->(sB d.Has 1=false->d.Value=v0)/\0<=d.Value.Xw) (fun _=>ad fun h=>by cases h) (fun e=>ad fun h=>⟨h23 e,by have:=Xm h;omega⟩) fun b5 h24=> ?_
      refine bN (P:=fun b=>b=false->(sB d.Has 1=false->d.Value=v0)/\0<=d.Value.Xw/\d.Value.Xw<=7) (fun _=>ad fun h=>by cases h) (fun e=>ad fun h=>⟨(h24 e).1,(h24 e).2,by have:=Xm h;omega⟩) fun b6 h25=>kL (fun _=>ad fun h=>by cases h) fun e=> ?_
      obtain ⟨v1,v2⟩:=h25 e
      refine (Ot N d.XL _).bind fun b7 hy=> ?_
      refine bN (P:=fun b=>b=true->R25 d) (fun a6=>(Ot N d.XM _).bind fun b9 a8=>ad fun h=>⟨⟨h0,h1⟩,⟨a0,a1⟩,e1,e2,e3,e4,v1,v2,hy a6,a8 h⟩) (fun _=>ad fun h=>by cases h) fun b hb=>ad hb
structure Nrm (p:Vk):Prop where
 d:aq .i64 p.XE 8=0->p.XL=v0/\p.XM=v0
 a:aq .i64 p.XE 8≠0->p.Value=v0
def Ej (a b:Int)(s:Bool)(m:Int):Int:=bif bif s then sB a m else sB b m then m else 0
theorem O6: ∀a:_root_.Fin 8, ∀b:_root_.Fin 16, ∀s2 a6 a8:Bool,
  i4 .i64 (bQ .i64 (i4 .i64 (i4 .i64 0 (aq .i64 (b.val:Int) 6)) 8) (JK false a6 a8)) (aq .i64 (a.val:Int) (JK false a6 a8))=(Ej a.val b.val a6 2+Ej a.val b.val a8 4)+8/\
  i4 .i64 (bQ .i64 (i4 .i64 (aq .i64 (b.val:Int) 1) (aq .i64 (b.val:Int) 6)) (JK s2 a6 a8)) (aq .i64 (a.val:Int) (JK s2 a6 a8))=(Ej a.val b.val a6 2+Ej a.val b.val a8 4)+Ej a.val b.val s2 1/\
  i4 .i64 (bQ .i64 (i4 .i64 0 (aq .i64 (b.val:Int) 6)) (JK s2 a6 a8)) (aq .i64 (a.val:Int) (JK s2 a6 a8))=(Ej a.val b.val a6 2+Ej a.val b.val a8 4)+(bif s2&&sB a.val 1 then 1 else 0):=by decide+kernel
structure Bits (N:Nat) (d:Vn) (b:Int):Prop where
 r:R25 d
 six:Six d.Has
 says: ∀x:Int,1<=x->dw N d x=some (sB d.Has x)
 data:qu N d=some (sB d.Has 1||sB d.Has 2)
 acc:kO N d=some (sB d.Has 4||sB d.Has 8)
 da: ∀x:Int,1<=x->lX N d.XE x=some (sB d.XE x)
 pb: ∀x:Int,1<=x->lX N b x=some (sB b x)
 a:Six d.XE
 b:Six b
theorem Ik (N:Nat)(h:R25 d){b:Int}(hb:0<=b/\b<=15):Bits N d b:=by
 have hs: ∀x:Int,1<=x->dw N d x=some (sB d.Has x):=fun x hx=>Sz N h.h.1 h.h.2 hx
 refine ⟨h,six h.h.1 h.h.2,hs,?_,?_,fun x hx=>O4 N h.a.1 (by have:=h.a;omega) hx,fun x hx=>O4 N hb.1 U hx,six h.a.1 (by have:=h.a;omega),six hb.1 U⟩
 ·unfold qu;rw [hs 1 U,bs,hs 2 U,bs,QU,bs,SZ]
 unfold kO;rw [hs 4 U,bs,hs 8 U,bs,QU,bs,SZ]
def JD (k:Vs)(p:Vk)(d:Vn):Vk:=
 let was:=sB p.XE 8
 let So:=(sB d.Has 4||sB d.Has 8)||(was&& !(sB d.Has 1||sB d.Has 2))
 ⟨k,(Ej d.XE p.XE (sB d.Has 16) 2+Ej d.XE p.XE (sB d.Has 32) 4)+(bif So then 8 else bif was then (bif sB d.Has 2&&sB d.XE 1 then 1 else 0) else Ej d.XE p.XE (sB d.Has 2) 1),
  bif sB d.Has 1 then d.Value else bif !So&& !was then p.Value else v0,
  bif sB d.Has 4 then d.XL else bif So&&was then p.XL else v0,
  bif sB d.Has 8 then d.XM else bif So&&was then p.XM else v0⟩
theorem JA (N:Nat)(k:Vs)(hb:0<=p.XE/\p.XE<=15)(h:Bits N d p.XE):ot N p k d=some (JD k p d):=by
 obtain ⟨s1,s2,s4,s8,a8,b0,s3,a6⟩:=OQ N h.six;have hask:=Ue N h.six;have hf:=O6 ⟨d.XE.toNat,by have:=h.r.a;omega⟩ ⟨p.XE.toNat,by omega⟩ (sB d.Has 2) (sB d.Has 16) (sB d.Has 32);simp only [VX h.r.a.1,VX hb.1] at hf;obtain ⟨f1,f2,f3⟩:=hf;have hda:=h.r.da;unfold ot oM oL oK oJ oI oH;simp only [s1,s4,s8,s3,a6,hask,bs,h.b.b8,QU];unfold JD;simp only;generalize sB d.Has 1=x1 at*;generalize sB d.Has 2=x2 at*;generalize sB d.Has 4=x4 at*;generalize sB d.Has 8=x8 at*;generalize sB p.XE 8=y at*
 cases x1<;>cases x2<;>cases x4<;>cases x8<;>cases y<;>first
  |exact absurd hda (by decide)
  |exact congrArg some (congrArg (fun a=>(⟨k,a,_,_,_⟩:Vk)) f1)
  |exact congrArg some (congrArg (fun a=>(⟨k,a,_,_,_⟩:Vk)) f2)
  |exact congrArg some (congrArg (fun a=>(⟨k,a,_,_,_⟩:Vk)) f3)
theorem RN {n b:Int}(h:(!decide (aq .i64 n b=0))=sB n b):decide (aq .i64 n b=0)=!sB n b:=by rw [<-h,Bool.not_not]
theorem QX (N:Nat)(k:Vs)(hb:0<=p.XE/\p.XE<=15)(h:R25 d)(has ext:Bool):lI N p has ext k d=bif !has then (bif !ext then some (sk,false) else some (JD k sk d,true)) else (bif !sB p.XE 4 then pm N p d else some false).bind fun b=>some (bif b then (sk,false) else (JD k p d,true)):=by
 have hB:=Ik N h hb;have h0:=Ik N h (b:=0) ⟨Int.le_refl _,by omega⟩;have hc:=JA N k hb hB
 have hf:uQ N d k=some (JD k sk d):=by
  unfold uQ;have:=JA N k (p:=sk) ⟨Int.le_refl _,by show (0:Int)<=15;omega⟩ h0;rw [show (⟨(⟨0,0,⟨#[]⟩⟩:Vs),0,(⟨0,0,⟨#[]⟩⟩:Vp),(⟨0,0,⟨#[]⟩⟩:Vp),(⟨0,0,⟨#[]⟩⟩:Vp)⟩:Vk)=sk from rfl,this,bs]
 unfold lI;rw [hf,hc,RN hB.b.b4]
 cases has with
 |false=>cases ext<;>rfl
 | true=>
  rw [nt,cf,cf]
  cases sB p.XE 4 with
  |true=>rfl
  |false=>
   rw [nf,ct,ct]
   cases e:pm N p d with
   |none=>rfl
   |some b=>cases b<;>rfl
set_option maxRecDepth 20000
def Hd (vis loose acc w:Bool):Int:=((bif vis then 2 else 0)+(bif loose then 4 else 0))+(bif acc then 8 else bif w then 1 else 0)
theorem JJ: ∀vis loose acc w:Bool,(0<=Hd vis loose acc w/\Hd vis loose acc w<=15/\aq .i64 (Hd vis loose acc w) 9≠9)/\(aq .i64 (Hd vis loose acc w) 8=0↔acc=false):=by decide+kernel
def zU (p:Vk)(d:Vn):Bool:=(sB d.Has 4||sB d.Has 8)||(sB p.XE 8&& !(sB d.Has 1||sB d.Has 2))
theorem JC (k:Vs)(p:Vk)(d:Vn): ∃vis loose w,(JD k p d).XE=Hd vis loose (zU p d) w:=by
 unfold JD Ej Hd zU;simp only;cases (sB d.Has 4||sB d.Has 8)||(sB p.XE 8&& !(sB d.Has 1||sB d.Has 2))
 ·refine ⟨bif sB d.Has 16 then sB d.XE 2 else sB p.XE 2,bif sB d.Has 32 then sB d.XE 4 else sB p.XE 4,bif sB p.XE 8 then sB d.Has 2&&sB d.XE 1 else bif sB d.Has 2 then sB d.XE 1 else sB p.XE 1,?_⟩;cases sB p.XE 8<;>rfl
 exact ⟨bif sB d.Has 16 then sB d.XE 2 else sB p.XE 2,bif sB d.Has 32 then sB d.XE 4 else sB p.XE 4,false,J⟩
theorem QQ (k:Vs)(p:Vk)(d:Vn):xg (JD k p d).XE:=by
 obtain ⟨vis,loose,w,ha⟩:=JC k p d;rw [ha];exact (JJ vis loose _ w).1
theorem LI (k:Vs)(p:Vk)(d:Vn):aq .i64 (JD k p d).XE 8=0↔zU p d=false:=by
 obtain ⟨vis,loose,w,ha⟩:=JC k p d;rw [ha];exact (JJ vis loose _ w).2
theorem Sa {Q:α->Prop}{b c:Bool}{x y z:α}(hx:b=true->Q x)(hy:c=true->Q y)(hz:Q z):Q (bif b then x else bif c then y else z):=by
 cases b with
 |true=>exact hx rfl
 |false=>
  cases c with
  |true=>exact hy rfl
  |false=>exact hz
theorem Db (m:Ve):ValW m v0/\BH v0:=⟨LQ m,.inl rfl⟩
theorem SW {k:Vs}(hd:R25 d)(hp:PropW m p)(dv:ValW m d.Value)(dg:ValW m d.XL)(ds:ValW m d.XM):PropW m (JD k p d):=by
 have h9:d.Value.Xw≠9:=by have:=hd.vk;omega
 refine ⟨Sa (Q:=fun x=>ValW m x/\x.Xw≠9) (fun _=>⟨dv,h9⟩) (fun _=>hp.v) ⟨LQ m,by decide⟩,Sa (Q:=fun x=>ValW m x/\BH x) (fun h=>⟨dg,hd.g.2 h⟩) (fun _=>hp.g) (Db m),Sa (Q:=fun x=>ValW m x/\BH x) (fun h=>⟨ds,hd.s.2 h⟩) (fun _=>hp.s) (Db m)⟩
theorem QR {k:Vs}(hd:R25 d):Nrm (JD k p d):=by
 refine ⟨fun e=> ?_,fun e=> ?_⟩
 ·have h0:=(LI k p d).1 e
  have h4:sB d.Has 4=false/\sB d.Has 8=false:=by
   unfold zU at h0;rw [Bool.or_eq_false_iff,Bool.or_eq_false_iff] at h0;exact h0.1
  constructor
  ·show (bif sB d.Has 4 then d.XL else bif zU p d&&sB p.XE 8 then p.XL else v0)=v0;rw [h4.1,h0];rfl
  show (bif sB d.Has 8 then d.XM else bif zU p d&&sB p.XE 8 then p.XM else v0)=v0;rw [h4.2,h0];rfl
 have h0:zU p d=true:=by
  cases h:zU p d with
  |true=>rfl
  |false=>exact absurd ((LI k p d).2 h) e
 have h1:sB d.Has 1=false:=by
  cases e1:sB d.Has 1 with
  |false=>rfl
  |true=>
   have hda:=hd.da;unfold zU at h0;rw [e1] at h0 hda
   cases e4:(sB d.Has 4||sB d.Has 8) with
   |true=>rw [e4] at hda;cases hda
   |false=>rw [e4] at h0;simp at h0
 show (bif sB d.Has 1 then d.Value else bif !zU p d&& !sB p.XE 8 then p.Value else v0)=v0;rw [h0,h1];rfl
theorem Nrm.norm (h:Nrm p):my p=p:=by
 by_cases e:aq .i64 p.XE 8=0
 ·rw [CJ e, <-(h.d e).1];have:=(h.d e).1.trans (h.d e).2.symm
  conv=>lhs;arg 5;rw [this]
 rw [E2 e, <-h.a e]
def LJ (p:Vk)(d:Vn)(eg es ev:Bool):Bool:=
 ((sB d.Has 32&& !decide (aq .i64 d.XE 4=0))||(sB d.Has 16&& !decide (aq .i64 (Il .i64 d.XE p.XE) 2=0)))||
 bif !decide (aq .i64 p.XE 8=0) then ((sB d.Has 1||sB d.Has 2)||(sB d.Has 4&& !eg))||(sB d.Has 8&& !es) else
 (sB d.Has 4||sB d.Has 8)||(decide (aq .i64 p.XE 1=0)&&((sB d.Has 2&& !decide (aq .i64 d.XE 1=0))||(sB d.Has 1&& !ev)))
theorem SY (b x:Bool):(bif b then true else x)=(b||x):=by cases b<;>rfl
theorem Ta (b x:Bool):(bif b then x else false)=(b&&x):=by cases b<;>rfl
theorem Sb (N:Nat)(h:Bits N d p.XE):pm N p d=some (LJ p d (decide (d.XL=p.XL)) (decide (d.XM=p.XM)) (decide (d.Value=p.Value))):=by
 obtain ⟨s1,s2,s4,s8,a6,a8,s3,b0⟩:=OQ N h.six;unfold pm LJ;simp only [pW,s1,s2,s4,s8,a6,a8,s3,b0,bs,QU,SY,Ta]
def si (p:Vk)(has ext:Bool)(k:Vs)(d:Vn):Vk×Bool:=
 bif !has then (bif !ext then (sk,false) else (JD k sk d,true)) else
 bif !sB p.XE 4&&LJ p d (decide (d.XL=p.XL)) (decide (d.XM=p.XM)) (decide (d.Value=p.Value)) then (sk,false) else (JD k p d,true)
theorem QW (N:Nat)(k:Vs)(hb:0<=p.XE/\p.XE<=15)(h:R25 d)(has ext:Bool):lI N p has ext k d=some (si p has ext k d):=by
 rw [QX N k hb h,Sb N (Ik N h hb)];unfold si;cases has<;>cases ext<;>cases sB p.XE 4<;>rfl
theorem Ni {has ext:Bool}{k:Vs}(h:(si p has ext k d).2=true)(hd:R25 d)(hp:PropW m p)(dv:ValW m d.Value)(dg:ValW m d.XL)(ds:ValW m d.XM):PropW m (si p has ext k d).1/\(si p has ext k d).1.XI=k/\xg (si p has ext k d).1.XE/\Nrm (si p has ext k d).1:=by
 have hz:PropW m sk:=⟨⟨LQ m,by decide⟩,Db m,Db m⟩
 have key: ∀p,PropW m p->PropW m (JD k p d)/\(JD k p d).XI=k/\xg (JD k p d).XE/\Nrm (JD k p d):=fun p hp=>⟨SW hd hp dv dg ds,rfl,QQ k p d,QR hd⟩
 unfold si at h⊢
 cases has with
 |false=>
  cases ext with
  |false=>cases h
  |true=>exact key _ hz
 |true=>
  cases e:(!sB p.XE 4&&LJ p d (decide (d.XL=p.XL)) (decide (d.XM=p.XM)) (decide (d.Value=p.Value))) with
  |true=>rw [e] at h;cases h
  |false=>exact key p hp
theorem Obj.propW {N:Nat}{w:Vj}(h:Obj N i k q w c PL)(hp:p∈PL):PropW w.XF.m_ p/\Nrm p:=by
 obtain ⟨n,hn⟩:=List.getElem?_of_mem hp;obtain ⟨x,hx,hs⟩:=h.each n p hn;have hv:=h.val (VC _ (WJ hx));rcases hs with ⟨a1,a2,a3,a4,a5⟩|⟨a1,a2,a,ag,rfl,a4,a5⟩
 ·refine ⟨⟨⟨by rw [a2];exact hv,by rw [a2];exact a5⟩,by rw [a3];exact Db _,by rw [a4];exact Db _⟩,⟨fun _=>⟨a3,a4⟩,fun e=>absurd a1 e⟩⟩
 have hr:=(h.wd.pl.cells _ (mK a4)).1
 have hvv: ∀y∈[p.XL,p.XM],ValW w.XF.m_ y:=fun y hy=>h.wd.pl.valW a4 (by rw [a5];exact VC _ hy)
 rw [a5] at hr;obtain ⟨k1,k2⟩:=Mo hr rfl rfl;exact ⟨⟨by rw [a2];exact ⟨LQ _,by decide⟩,⟨hvv _ (by simp),k1⟩,⟨hvv _ (by simp),k2⟩⟩,⟨fun e=>absurd e a1,fun _=>a2⟩⟩
theorem Ra (m:Ve):PropW m sk/\Nrm sk:=⟨⟨⟨LQ m,by decide⟩,Db m,Db m⟩,⟨fun _=>⟨rfl,rfl⟩,fun _=>rfl⟩⟩
theorem PJ {N:Nat}{w:Vj}(h:Obj N i k q w c PL)(key:Vs):PropW w.XF.m_ (oU PL key).1/\Nrm (oU PL key).1/\0<=(oU PL key).1.XE/\(oU PL key).1.XE<=15:=by
 unfold oU
 cases e:PL.find? (fun p=>decide (p.XI=key)) with
 |none=>exact ⟨(Ra _).1,(Ra w.XF.m_).2,by decide,by decide⟩
 |some p=>
  have hp:=List.mem_of_find?_eq_some e;have:=(h.key hp).2;exact ⟨(h.propW hp).1,(h.propW hp).2,this.1,this.2.1⟩
set_option maxRecDepth 20000
theorem HJ (f:List Int)(v:Vp):bI (fun x=>x) f v=v:=by
 unfold bI;cases bd v&&decide (v.N∈f)<;>rfl
theorem PU (f:List Int)(p:Vk):HL (fun x=>x) f p=p:=by
 unfold HL;rw [HJ,HJ,HJ]
def AS (A:Nat->Int)(n:Nat):List Vp:=(List.range n).map fun j=>(⟨7,A j,⟨#[]⟩⟩:Vp)
theorem Kc (A:Nat->Int)(h:j<n):(AS A n)[j]? =some ⟨7,A j,⟨#[]⟩⟩:=by
 unfold AS;rw [Wm,List.getElem?_range h];rfl
structure St (N n b:Nat) (w:Vj) (A:Nat->Int) (C:Nat->Vd) (P:Nat->List Vk):Prop where
 ob:Objs N n (80+4*b) (1+1024*b) w A C P
 len: ∀j,j<n->(P j).length<=b
 rts: ∃R,R.length=20/\w.XF.XJ=R++AS A n
 box:KBox w
 tu:TU w.XH
 cfg:w.XK.Yg=1000
 stp:0<=w.XQ.Yd/\w.XQ.Yd<=(b:Int)
section
variable {N b:Nat}{w:Vj}(h:St N n b w A C P)
include h
theorem St.root (hj:j<n):w.XF.XJ[20+j]? =some ⟨7,A j,⟨#[]⟩⟩:=by
 obtain ⟨R,h1,h2⟩:=h.rts;rw [h2,Wf U,h1,Nat.add_sub_cancel_left];exact Kc A hj
theorem St.at_ (hj:j<n):bl N w (20+(j:Int))=some ⟨7,A j,⟨#[]⟩⟩:=by
 unfold bl;have:=HA N (h.root hj);rw [show ((20+j:Nat):Int)=20+(j:Int) by omega] at this;rw [this,bs]
theorem St.stay:St N n (b+1) w A C P:=⟨h.ob.up U U,fun j hj=>by have:=h.len j hj;omega,h.rts,h.box,h.tu,h.cfg,h.stp.1,by have:=h.stp.2;omega⟩
theorem St.op (hj:j<n)(o:Obj N (A j) (80+4*(b+1)) (1+1024*(b+1)) w' c' PL')(hk:c'.Xw=(C j).Xw)(f:FrO (A j) w w' (C j) c')(hl:PL'.length<=b+1):St N n (b+1) w' A (wT C j c') (wT P j PL'):=by
 refine ⟨h.ob.upd hj o hk f,fun m hm=> ?_,?_,h.box.keep (h.ob.ob j hj) f,f.le.tu h.tu,by rw [f.fr.config];exact h.cfg,by rw [f.fr.spent];exact h.stp.1,by rw [f.fr.spent];have:=h.stp.2;omega⟩
 ·by_cases e:m=j
  ·rw [e,uU];exact hl
  rw [tj _ _ e];have:=h.len m hm;omega
 obtain ⟨R,h1,h2⟩:=h.rts;exact ⟨R,h1,by rw [f.fr.roots];exact h2⟩
theorem St.tick (hN:20000<=N)(hb:b<=120)(hn:0<n): ∃w' ρ f C',dt N w=some (true,w')/\w'.XR=w.XR/\St N n (b+1) w' (fun j=>ρ (A j)) C' (fun j=>(P j).map (HL ρ f))/\(∀j,j<n->A j∈f)/\(∀x∈f, ∀y∈f,ρ x=ρ y->x=y)/\ ∀j,j<n-> ∃age,C' j=⟨(C j).Xw,(C j).XD,(C j).XB,age,(C j).Xy.map (bI ρ f),[]⟩:=by
 have wd:=(h.ob.ob 0 hn).wd;have hs1:=h.stp.1;have hs2:=h.stp.2;have hc:=h.cfg;obtain ⟨w',e,t1,t2,t3,t4,t5⟩:=Pu (N:=N) U wd.pl (by have:=wd.hb.hr;omega) h.box hs1 (by rw [hc];omega) (by rw [hc];omega);have hup:Objs N n (80+4*(b+1)) (1+1024*(b+1)) w A C P:=h.ob.up U U;rcases t5 with t5|⟨ρ,f,m⟩
 ·refine ⟨w',fun x=>x,(List.range n).map A,C,e,t4,?_,fun j hj=>WI.2 ⟨j,WK.2 hj,J⟩,fun x _ y _ e=>e,fun j hj=>⟨(C j).XC,?_⟩⟩
  ·have ep:(fun j=>(P j).map (HL (fun x=>x) ((List.range n).map A)))=P:=by
    funext j;exact (List.map_congr_left fun p _=>PU _ p).trans (List.map_id' _)
   rw [ep];refine ⟨hup.cg t5 t3 t4,fun j hj=>by have:=h.len j hj;omega,?_,?_,by rw [t3];exact h.tu,by rw [t2];exact hc,by omega,by omega⟩
   ·rw [t5];exact h.rts
   unfold KBox;rw [t5];exact h.box
  have e1:(C j).Xy.map (bI (fun x=>x) ((List.range n).map A))=(C j).Xy:=(List.map_congr_left fun v _=>HJ _ v).trans (List.map_id' _);have e2:=h.ob.more hj;rw [e1, <-e2]
 have hA: ∀j,j<n->A j∈f:=fun j hj=>m.rin _ (WJ (h.root hj)) rfl
 obtain ⟨o1,o2⟩:=hup.mv m hA;refine ⟨w',ρ,f,fun j=>aJ w'.XF.m_ (ρ (A j)),e,t4,⟨o1.cg J t3 t4,fun j hj=> ?_,?_,h.box.mv m,by rw [t3];exact h.tu,by rw [t2];exact hc,by omega,by omega⟩,hA,m.inj,o2⟩
 ·rw [Xr];have:=h.len j hj;omega
 obtain ⟨R,h1,h2⟩:=h.rts;refine ⟨R.map (bI ρ f),by rw [Xr];exact h1,?_⟩;rw [m.roots,h2,WB]
 congr 1
 unfold AS;rw [List.map_map]
 refine List.map_congr_left fun j hj=> ?_
 exact tO J (hA j (WK.1 hj))
end
end
section
open Go.RowKit
set_option maxRecDepth 20000
structure VOk (n:Nat) (v:Vp):Prop where
 may:v.Xw≠7->mL v=true
 kd:0<=v.Xw/\v.Xw<=7
 i64:in64 v.N
 ref:v.Xw=7->v.S=⟨#[]⟩/\0<=v.N/\v.N<n
def FY (A:Nat->Int)(v:Vp):Vp:=bif decide (v.Xw=7) then ⟨7,A v.N.toNat,⟨#[]⟩⟩ else v
theorem Hp (h:v.Xw≠7):FY A v=v:=by
 unfold FY;rw [Vz h];rfl
theorem J1 (h:v.Xw=7):FY A v=⟨7,A v.N.toNat,⟨#[]⟩⟩:=by
 unfold FY;rw [Vy h];rfl
theorem TJ (A:Nat->Int):FY A v0=v0:=Hp (by decide)
theorem Ns (A:Nat->Int)(v:Vp):(FY A v).Xw=v.Xw:=by
 by_cases h:v.Xw=7
 ·rw [J1 h,h]
 rw [Hp h]
def MI (f:Vp->Vp)(d:Vn):Vn:=⟨d.Has,d.XE,f d.Value,f d.XL,f d.XM⟩
theorem R25.map {f:Vp->Vp}(h0:f v0=v0)(hk:∀v,(f v).Xw=v.Xw)(h:R25 d):R25 (MI f d):=⟨h.h,h.a,h.da,h.a1,h.a2,h.a4,fun e=>by show f d.Value=v0;rw [h.v e,h0],by show 0<=(f d.Value).Xw/\(f d.Value).Xw<=7;rw [hk];exact h.vk,⟨fun e=>by show f d.XL=v0;rw [h.g.1 e,h0],fun e=>by show (f d.XL).Xw=0\/(f d.XL).Xw=7;rw [hk];exact h.g.2 e⟩,⟨fun e=>by show f d.XM=v0;rw [h.s.1 e,h0],fun e=>by show (f d.XM).Xw=0\/(f d.XM).Xw=7;rw [hk];exact h.s.2 e⟩⟩
set_option maxRecDepth 20000
theorem C3 {s:ByteArray}(h:(s.toList==(⟨#[]⟩:ByteArray).toList)=true):s=⟨#[]⟩:=Cd.1 (eq_of_beq h)
theorem Ln (h0:0<=v.Xw/\v.Xw<=4)(h2:v.Xw≠2)(hs:v.S=⟨#[]⟩)(h3:v.Xw=3-> -9007199254740992<=v.N/\v.N<=9007199254740992)(hn:v.Xw≠3->v.N=0):mL v=true:=by
 obtain ⟨k,n,s⟩:=v;simp only at*;subst hs;unfold mL fP;simp only;rw [Vz (show¬k<0 by omega),cf,bs,Vz (show¬9<k by omega),cf,Vz (show¬k=5 by omega),cf,beq_self_eq_true,nt,cf,Vz h2,cf];by_cases e:k=3
 ·obtain ⟨g1,g2⟩:=h3 e;rw [Vy e,ct,Vy g1,ct,Vy g2];rfl
 rw [Vz e,cf,Vz (show¬k=6 by omega),cf,Vz (show¬k=7 by omega),bs,cf,Vz (show¬k=9 by omega),bs,cf,Vy (hn e)];rfl
theorem MH (h5:v.Xw=5)(hn:v.N=0)(hs:(v.S.size:Int)<=65536):mL v=true:=by
 obtain ⟨k,n,s⟩:=v;have h5:k=5:=h5;have hn:n=0:=hn;have hs:(s.size:Int)<=65536:=hs;subst h5 hn;show Option.getD (some (decide ((s.size:Int)<=65536))) false=true;rw [Vy hs];rfl
theorem AL (N:Nat)(hn:n<=10)(v:Vp):Sat (mQ N v (n:Int)) fun b=>b=true->VOk n v:=by
 have small:0<=v.Xw/\v.Xw<=4->v.Xw≠2->v.Xw≠3->Sat (jv N (n:Int) v true) fun b=>b=true->VOk n v:=fun h0 h2 h3=>by
  unfold jv;rw [ct]
  refine bN (P:=fun b=>b=true->VOk n v) (fun e=>ad fun h=> ?_) (fun _=>ad fun h=>by cases h) fun b hb=>ad hb
  have hn:=Xn e;exact ⟨fun _=>Ln h0 h2 (C3 h) (fun h=>absurd h h3) fun _=>hn,by omega,by rw [hn];decide,fun h=>by omega⟩
 have rest:v.Xw≠0->v.Xw≠1->v.Xw≠4->Sat (jv N (n:Int) v false) fun b=>b=true->VOk n v:=fun h0 h1 h4=>by
  unfold jv;rw [cf]
  refine aK (fun h3=> ?_) fun h3=>aK (fun h5=> ?_) fun h5=>aK (fun h7=> ?_) fun _=>ad fun h=>by cases h
  ·refine bN (P:=fun b=>b=true->v.S=⟨#[]⟩/\ -9007199254740992<=v.N) (fun e=>ad fun h=>⟨C3 e,Xn h⟩) (fun _=>ad fun h=>by cases h) fun b hb=> ?_
   refine bN (P:=fun b=>b=true->VOk n v) (fun e=>ad fun h=> ?_) (fun _=>ad fun h=>by cases h) fun b hb=>ad hb
   obtain ⟨g1,g2⟩:=hb e;have g3:=Xn h;exact ⟨fun _=>Ln U U g1 (fun _=>⟨g2,g3⟩) fun h=>absurd h3 h,by omega,by constructor<;>omega,fun h=>by omega⟩
  ·refine bN (P:=fun b=>b=true->VOk n v) (fun e=>ad fun h=> ?_) (fun _=>ad fun h=>by cases h) fun b hb=>ad hb
   have hn:=Xn e;exact ⟨fun _=>MH h5 hn (Xn h),by omega,by rw [hn];decide,fun h=>by omega⟩
  refine bN (P:=fun b=>b=true->v.S=⟨#[]⟩/\0<=v.N) (fun e=>ad fun h=>⟨C3 e,Xn h⟩) (fun _=>ad fun h=>by cases h) fun b hb=> ?_
  refine bN (P:=fun b=>b=true->v.S=⟨#[]⟩/\0<=v.N/\v.N<(n:Int)) (fun e=>ad fun h=>⟨(hb e).1,(hb e).2,Xn h⟩) (fun _=>ad fun h=>by cases h) fun b hb=>ad fun h=> ?_
  obtain ⟨g1,g2,g3⟩:=hb h;exact ⟨fun h=>absurd h7 h,by omega,by constructor<;>omega,fun _=>⟨g1,g2,g3⟩⟩
 unfold mQ
 refine aK (fun h0=> ?_) fun h0=>aK (fun h1=> ?_) fun h1=> ?_
 ·rw [Vy h0];exact small U U U
 ·rw [Vy h1];exact small U U U
 by_cases h4:v.Xw=4
 ·rw [Vy h4];exact small U U U
 rw [Vz h4];exact rest h0 h1 h4
set_option maxRecDepth 20000
theorem Mz: ∀n:_root_.Fin 64,(0<=bQ .i64 (n.val:Int) 1/\bQ .i64 (n.val:Int) 1<=63)/\aq .i64 (bQ .i64 (n.val:Int) 1) 1=0/\aq .i64 (bQ .i64 (n.val:Int) 1) 16=aq .i64 (n.val:Int) 16:=by decide+kernel
theorem E3 {f:Int}(h:0<=f/\f<=63):(0<=bQ .i64 f 1/\bQ .i64 f 1<=63)/\aq .i64 (bQ .i64 f 1) 1=0/\aq .i64 (bQ .i64 f 1) 16=aq .i64 f 16:=by
 have:=Mz ⟨f.toNat,by omega⟩;simp only [VX h.1] at this;exact this
def IF (c:Vd):Vd:=⟨c.Xw,c.XD,bQ .i64 c.XB 1,c.XC,c.Xy,c.Xx⟩
theorem NX {N:Nat}(hN:20000<=N)(hv:v.Xw=7)(hvN:v.N=i)(hk:k<=580)(hq:q<=1000000000){w:Vj}(hM:c.Xx.length<=2200)(h:Obj N i k q w c PL): ∃w',nc N w v=some w'/\Obj N i k q w' (IF c) PL/\FrO i w w' c (IF c)/\w'.XR=w.XR:=by
 have hrc:=tx h.right;have hep:=h.wd.ep;obtain ⟨w',e1,e2,e3,e4⟩:=Rw hN hv hvN h hk c.Xx hM (fun x hx=>h.val (VD _ hx)) h.oc.plain (bQ .i64 c.XB 1) (E3 hrc.2.1).1;refine ⟨w',?_,e2,e3,e4⟩;unfold nc;rw [Dm hv hvN hk hM h,bs];show Option.bind (bp N ⟨IF c,w,v⟩ false) _=_
 have he:0<=w'.XR/\w'.XR<=2000000000:=by rw [e4];omega
 rw [Ig (c':=IF c) e1 he false,bs,VP,Ij]
def P5 (N:Nat)(k:Vs):Bool:=(cW N k).getD false
theorem KC {N:Nat}(hN:5000<=N)(k:Vs):cW N k=some (P5 N k):=by
 obtain ⟨b,h, -⟩:=GO N hN k;unfold P5;rw [h];rfl
theorem Rf {N:Nat}(hN:5000<=N){k:Vs}(h:P5 N k=true):CR N k:=by
 unfold CR;rw [KC hN,h]
def Ty (N:Nat)(PL:List Vk)(ext:Bool)(kind:Int)(key:Vs)(d:Vn)(x:Vp)(a:Int):Bool×List Vk×Bool:=
 bif decide (kind=0) then (bif P5 N key then ((si (oU PL key).1 (oU PL key).2 ext key d).2,bif (si (oU PL key).1 (oU PL key).2 ext key d).2 then Aj PL (si (oU PL key).1 (oU PL key).2 ext key d).1 else PL,ext) else (false,PL,ext)) else
 bif decide (kind=1) then (bif (oU PL key).2 then (bif decide (aq .i64 (oU PL key).1.XE 4=0) then (false,PL,ext) else (true,Ic PL key,ext)) else (true,PL,ext)) else
 bif decide (kind=3) then (false,PL,false) else
 bif decide (kind=4) then (bif P5 N key&&(decide (0<=a)&&decide (a<=7)) then (true,Aj PL ⟨key,a,x,v0,v0⟩,ext) else (false,PL,ext)) else (false,PL,ext)
structure OpOk (n:Nat) (x:Vr):Prop where
 o:0<=x.O/\x.O<n
 p: -1<=x.P/\x.P<n
 d:R25 x.D
 v:VOk n x.V
 dv:VOk n x.D.Value
 dg:VOk n x.D.XL
 ds:VOk n x.D.XM
theorem Gw (PL:List Vk)(p:Vk):(Aj PL p).length<=PL.length+1:=by
 unfold Aj;split
 ·rw [Wz];omega
 rw [Xp,WA];omega
theorem Se: ∀n:_root_.Fin 8,aq .i64 (n.val:Int) 9≠9/\aq .i64 (n.val:Int) 8=0:=by decide+kernel
theorem a7 (h:0<=a/\a<=7):xg a/\aq .i64 a 8=0:=by
 have:=Se ⟨a.toNat,by omega⟩;simp only [VX h.1] at this;exact ⟨⟨h.1,by omega,this.1⟩,this.2⟩
theorem Ep.same (w:Vj):Ep c c w w:=by
 unfold Ep;rw [Vy rfl,Bool.not_true,VP,cond_false,Int.add_zero]
section
variable {N b:Nat}(hN:20000<=N)(hn:n<=10)(hb:b<=120){w:Vj}(h:St N n b w A C P)
include h
theorem St.to_ (hn:n<=10)(hv:VOk n v):tg N w 20 v=some (FY A v):=by
 unfold tg;by_cases h7:v.Xw=7
 ·obtain ⟨-,h0,h1⟩:=hv.ref h7;have:=h.at_ (j:=v.N.toNat) U;rw [VX h0] at this;rw [Vy h7,ct,gi (by constructor<;>omega),this,bs,J1 h7]
 rw [Vz h7,cf,Hp h7]
theorem St.valW (hv:VOk n v)(hn:0<n):ValW w.XF.m_ (FY A v):=by
 by_cases h7:v.Xw=7
 ·obtain ⟨-,h0,h1⟩:=hv.ref h7;have ho:=h.ob.ob v.N.toNat U;rw [J1 h7];refine ⟨?_,qW ho.wd.pl.hb.small ho.has,fun _=>ho.has⟩
  have:(1:Int)<=A v.N.toNat:=by
   rcases fq ho.has with ⟨j, -,e⟩|⟨j, -,e⟩<;>omega
  unfold mL fP;rw [show ((⟨7,A v.N.toNat,⟨#[]⟩⟩:Vp).S.toList==(⟨#[]⟩:ByteArray).toList)=true from beq_self_eq_true _];show Option.getD (some (decide (1<=A v.N.toNat))) false=true;rw [Vy this];rfl
 rw [Hp h7];refine ⟨hv.may h7,hv.i64,fun hb=> ?_⟩;have:=hv.kd;unfold bd at hb;rw [Vz h7] at hb;have:v.Xw=9:=Xn hb;omega
include hN hn hb
theorem SR {x:Vr}(hx:OpOk n x)(h2:x.Xw≠2)(h5:x.Xw≠5)(hj:x.O=(j:Int)):
  Sat (th N w 20 x) fun r=>r.1=(Ty N (P j) (wx (C j)) x.Xw x.K (MI (FY A) x.D) (FY A x.V) x.XE).1/\ ∃c',St N n (b+1) r.2 A (wT C j c') (wT P j (Ty N (P j) (wx (C j)) x.Xw x.K (MI (FY A) x.D) (FY A x.V) x.XE).2.1)/\wx c'=(Ty N (P j) (wx (C j)) x.Xw x.K (MI (FY A) x.D) (FY A x.V) x.XE).2.2/\rE c'=rE (C j)/\c'.Xy[0]? =(C j).Xy[0]? /\Ep (C j) c' w r.2:=by
 have ho:=hx.o
 have hjn:j<n:=by omega
 have ob:=h.ob.ob j hjn;have hm:=h.ob.more hjn
 have hM:(C j).Xx.length<=2200:=by rw [hm];exact Xa _
 have hlen:=h.len j hjn
 have stay: ∀(a:Bool),(a,w).1=a/\ ∃c',St N n (b+1) (a,w).2 A (wT C j c') (wT P j (P j))/\wx c'=wx (C j)/\rE c'=rE (C j)/\c'.Xy[0]? =(C j).Xy[0]? /\Ep (C j) c' w (a,w).2:=fun a=>⟨rfl,C j,by rw [Nq,Nq];exact h.stay,rfl,rfl,rfl,Ep.same w⟩
 have aft: ∀(a:Bool) (w':Vj) (PL':List Vk),Sl N (A j) (80+4*b+4) (1+1024*b+1024) w (C j) PL' w'->PL'.length<=b+1->(a,w').1=a/\ ∃c',St N n (b+1) (a,w').2 A (wT C j c') (wT P j PL')/\wx c'=wx (C j)/\rE c'=rE (C j)/\c'.Xy[0]? =(C j).Xy[0]? /\Ep (C j) c' w (a,w').2:=fun a w' PL' ⟨c',o,s,f,e⟩ hl=>⟨rfl,c',h.op hjn o s.kind f hl,by unfold wx;rw [s.flags],by unfold rE;rw [s.flags],s.head,e⟩
 have hAt:bl N w (20+x.O)=some ⟨7,A j,⟨#[]⟩⟩:=by rw [hj];exact h.at_ hjn
 unfold th;rw [gi (by constructor<;>omega),hAt,bs,h.to_ hn hx.dv,bs,h.to_ hn hx.dg,bs,h.to_ hn hx.ds,bs];unfold Ty
 refine aK (fun e=> ?_) fun e=>aK (fun e1=> ?_) fun e1=>aK (fun e2=>absurd e2 h2) fun _=>aK (fun e3=> ?_) fun e3=>aK (fun e4=> ?_) fun e4=>aK (fun e5=>absurd e5 h5) fun _=> ?_
 ·rw [Vy e,cond_true]
  cases hR:P5 N x.K with
  |false=>
   unfold jq;rw [Dm (v:=⟨7,A j,⟨#[]⟩⟩) rfl rfl U hM ob,bs];show Sat (Option.bind (Option.bind (cW N x.K) _) _) _;rw [KC U,hR,bs,nf,ct,bs];exact ad (stay false)
  | true=>
   rw [cond_true];obtain ⟨o1,o2,o3,o4⟩:=PJ ob x.K;have hd:R25 (MI (FY A) x.D):=hx.d.map (TJ A) (Ns A);have hap:=QW N x.K ⟨o3,o4⟩ hd (oU (P j) x.K).2 (wx (C j))
   have hok:=fun e=>Ni (has:=(oU (P j) x.K).2) (ext:=wx (C j)) (k:=x.K) e hd o1 (h.valW hx.dv U) (h.valW hx.dg U) (h.valW hx.ds U)
   generalize si (oU (P j) x.K).1 (oU (P j) x.K).2 (wx (C j)) x.K (MI (FY A) x.D)=z at hap hok
   refine Sat.bind (P:=fun r=>r.1=z.2/\(z.2=false->r.2=w)/\(z.2=true->Sl N (A j) (80+4*b+4) (1+1024*b+1024) w (C j) (Aj (P j) (my z.1)) r.2)) (Mx hN J J ob U U hM (Rf U hR) (p:=z.1) (ok:=z.2) hap (fun e=>⟨(hok e).1,(hok e).2.1,(hok e).2.2.1⟩) U) fun r hr=> ?_
   obtain ⟨r1,r2,r3⟩:=hr
   cases ez:z.2 with
   |false=>
    rw [r1,ez,r2 ez,cond_false];exact ad (stay false)
   |true=>
    rw [r1,ez,cond_true];have r3:=r3 ez;rw [(hok ez).2.2.2.norm] at r3;exact ad (aft true r.2 _ r3 (by have:=Gw (P j) z.1;show (Aj (P j) z.1).length<=b+1;omega))
 ·rw [Vz e,cond_false,Vy e1,cond_true]
  refine (Mw hN (v:=⟨7,A j,⟨#[]⟩⟩) J J ob U U hM x.K).bind fun r hr=> ?_
  rcases hr with ⟨g1,rfl⟩|⟨g1,g2,rfl⟩|⟨g1,g2,g3,g4⟩
  ·rw [g1,cond_false];exact ad (stay true)
  ·rw [g1,cond_true,Vy g2,cond_true];exact ad (stay false)
  rw [g1,cond_true,Vz g2,cond_false,g3];obtain ⟨c',o,s,f,ep⟩:=g4;refine ad (aft true r.2 _ ⟨c',o.up U (W4 _),s,f,ep⟩ ?_);have:(Ic (P j) x.K).length<=(P j).length:=Wx ..;show (Ic (P j) x.K).length<=b+1;omega
 ·rw [Vz e,cond_false,Vz e1,cond_false,Vy e3,cond_true];obtain ⟨w',g1,g2,g3,g4⟩:=NX hN (v:=⟨7,A j,⟨#[]⟩⟩) rfl rfl U U hM ob;have hrc:=tx ob.right;obtain ⟨-,f1,f2⟩:=E3 hrc.2.1;rw [g1,bs];unfold ql;refine ad ⟨J,IF (C j),h.op hjn (g2.up U U) J g3 (by show (P j).length<=b+1;omega),?_,?_,J,?_⟩
  ·unfold wx;show (!decide (aq .i64 (bQ .i64 (C j).XB 1) 1=0))=false;rw [f1];rfl
  ·unfold rE;show (!decide (aq .i64 (bQ .i64 (C j).XB 1) 16=0))=_;rw [f2]
  unfold Ep;show w'.XR=w.XR+(bif !decide ((C j).XD=(C j).XD)&&rE (C j) then 1 else 0);rw [Vy rfl,Bool.not_true,VP,cond_false,Int.add_zero];exact g4
 ·rw [Vz e,cond_false,Vz e1,cond_false,Vz e3,cond_false,Vy e4,cond_true,h.to_ hn hx.v,bs];by_cases ha:P5 N x.K=true/\0<=x.XE/\x.XE<=7
  ·obtain ⟨hR,a1,a2⟩:=ha;rw [hR,Vy a1,Vy a2,Bool.and_true,Bool.and_true,cond_true];obtain ⟨b1,b2⟩:=a7 ⟨a1,a2⟩
   have h9:(FY A x.V).Xw≠9:=by rw [Ns];have:=hx.v.kd;omega
   refine (Rz hN (v:=⟨7,A j,⟨#[]⟩⟩) J J ob U U hM (Rf U hR) (h.valW hx.v U) h9 ⟨a1,a2⟩ b1 U).bind fun r hr=> ?_
   obtain ⟨r1,r2⟩:=hr;rw [CJ (p:=⟨x.K,x.XE,FY A x.V,v0,v0⟩) b2] at r2;rw [r1];exact ad (aft true r.2 _ r2 (by have:=Gw (P j) ⟨x.K,x.XE,FY A x.V,v0,v0⟩;show (Aj (P j) ⟨x.K,x.XE,FY A x.V,v0,v0⟩).length<=b+1;omega))
  have hc:(P5 N x.K&&(decide (0<=x.XE)&&decide (x.XE<=7)))=false:=by
   rw [Bool.eq_false_iff];intro hc;rw [Xt,Xt,Xl,Xl] at hc;exact ha hc
  rw [hc,cond_false]
  have:jK N w ⟨7,A j,⟨#[]⟩⟩ x.K (FY A x.V) x.XE=some (false,w):=by
   unfold jK;rw [Dm (v:=⟨7,A j,⟨#[]⟩⟩) rfl rfl U hM ob,bs];show Option.bind (cW N x.K) _=_;rw [KC U,bs]
   cases hR:P5 N x.K with
   |false=>rfl
   | true=>
    rw [hR,VR] at hc;rw [nt,cf,bs];by_cases h0:x.XE<0
    ·rw [Vy h0];rfl
    rw [Vz h0,cf,bs]
    have:7<x.XE:=by
     rw [Vy (show 0<=x.XE by omega),VR,Xk] at hc;omega
    rw [Vy this];rfl
  rw [this,bs];exact ad (stay false)
 rw [Vz e,cond_false,Vz e1,cond_false,Vz e3,cond_false,Vz e4,cond_false];unfold ql;exact ad (stay false)
end
end
section
open Go.RowKit
set_option maxRecDepth 20000
def GI:Vp:=⟨1,0,⟨#[]⟩⟩
def Un:Vj:=match qk 64 with
 |some (.inr w)=>w
 |_=>default
theorem RT (K:Nat):qk (K+64)=some (.inr Un):=by kernel_rfl
def SD (w:Vj):Vj:=match lE 64 w GI 1 with
 |some (v,_,w')=>(match iU 64 w' v with
  |some (_,w2)=>w2
  |none=>default)
 |none=>default
def LR (w:Vj):Vp×Vj:=match lE 64 w GI 1 with
 |some (v,_,w')=>(v,w')
 |none=>default
def wS:Nat->Vj
 |0=>Un
 |j+1=>SD (wS j)
theorem Rr (K:Nat): ∀j:Nat,j<4->lE (K+64) (wS j) GI 1=some ((LR (wS j)).1,true,(LR (wS j)).2)/\iU (K+64) (LR (wS j)).2 (LR (wS j)).1=some ((20:Int)+(j:Int),wS (j+1))
 |0,_=>⟨by kernel_rfl,by kernel_rfl⟩
 |1,_=>⟨by kernel_rfl,by kernel_rfl⟩
 |2,_=>⟨by kernel_rfl,by kernel_rfl⟩
 |3,_=>⟨by kernel_rfl,by kernel_rfl⟩
theorem Pp (K:Nat):ci (K+64) (wS 0)=some 20:=by kernel_rfl
def Ja (v:Vp):Bool:=decide (-9223372036854775808<=v.N)&&decide (v.N<=9223372036854775807)
theorem On (h:Ja v=true):in64 v.N:=by
 unfold Ja at h;rw [Xt,Xl,Xl] at h;exact h
def Rj (g:Vv)(c:Vd):Bool:=bm c&&((cp c).all (aw g.m_)&&(!decide (c.Xw=8)&&(!decide (c.Xw=10)&&(c.Xy++c.Xx).all Ja)))
def Oq (g:Vv):Bool:=decide (ws g.m_.XA+ws g.m_.Xz<=80)&&(decide (mS g.m_.XA+mS g.m_.Xz<=0)&&(decide (g.XJ.length<=30)&&(g.XP.isEmpty&&(decide (g.XO.at_.map Prod.fst=ln g.m_)&&((g.m_.XA++g.m_.Xz).all (Rj g)&&(g.XJ.all Ja&&(bR g.XJ).all (aw g.m_)))))))
theorem Oo (h:Oq g=true):Pl g/\Hb 80 0 g:=by
 unfold Oq at h;simp only [Xt,Xl,VY,List.isEmpty_iff] at h;obtain ⟨h1,h2,h3,h4,h5,h6,h7,h8⟩:=h
 have hc: ∀c∈g.m_.XA++g.m_.Xz,bm c=true/\(∀x∈cp c,aw g.m_ x=true)/\c.Xw≠8/\c.Xw≠10/\ ∀v∈c.Xy++c.Xx,Ja v=true:=fun c hc=>by
  have:=h6 c hc;unfold Rj at this;simpa only [Xt,Xl,VY,Bool.not_eq_true',Xk] using this
 obtain ⟨n1,n2⟩:=I7 h5;have hb:Hb 80 0 g:=⟨h1,h2,h3⟩;exact ⟨⟨RX U U hb h4 (fun c h v hv=>On ((hc c h).2.2.2.2 v hv)) (fun v hv=>On (h7 v hv)) n1 n2,h4,fun c h=>⟨(hc c h).1,(hc c h).2.1,(hc c h).2.2.1,(hc c h).2.2.2.1⟩,h8,Sy h5⟩,hb⟩
def tbN:Vi:=⟨[(⟨-1,⟨0,0,⟨#[]⟩⟩,0,0⟩:Vq)],[]⟩
theorem Hq {s:Vq}(h:Has tbN i s):i=0/\s=⟨-1,⟨0,0,⟨#[]⟩⟩,0,0⟩:=by
 have h1:=h.lt
 have h0:i=0:=by
  have:((tbN.XH.length:Nat):Int)=1:=rfl;omega
 subst h0;exact ⟨J,(Xe h.2).symm⟩
theorem Ru (N:Nat):TI N tbN:=by
 refine ⟨fun i s h=> ?_,fun k j h=>by cases h⟩;obtain ⟨-,rfl⟩:=Hq h;exact ⟨Int.le_refl _,by show (0:Int)<=1024;omega,fun h=>absurd h (by show¬(0:Int)<0;omega)⟩
theorem Rt:TU tbN:=by
 refine ⟨fun i s h hp=> ?_,fun i s h _=>(Hq h).1⟩;obtain ⟨-,rfl⟩:=Hq h;exact absurd hp (by show¬(0:Int)<0;omega)
def yz (w:Vj)(j:Nat):Int:=(rc w.XF.XJ (20+j)).N
def yx (w:Vj)(j:Nat):Vd:=aJ w.XF.m_ (yz w j)
def SC (w:Vj)(j:Nat):Bool:=aw w.XF.m_ (yz w j)&&(decide ((yx w j).Xw=1)&&(decide ((yx w j).XD=0)&&(decide ((yx w j).Xy=[GI])&&decide ((yx w j).Xx=[]))))
def SX (w:Vj):Bool:=match w.XF.XJ[19]? with
 |some x=>bd x&&(decide ((aJ w.XF.m_ x.N).Xx=[])&&(!decide ((aJ w.XF.m_ x.N).Xw=1)&&(!decide ((aJ w.XF.m_ x.N).Xw=2)&& !decide ((aJ w.XF.m_ x.N).Xw=5))))
 |none=>false
def Us (n:Nat)(w:Vj):Bool:=Oq w.XF&&(decide (w.XH=tbN)&&(decide (w.XR=0)&&(decide (w.XK.Yg=1000)&&(decide (w.XQ.Yd=0)&&(SX w&&(decide (w.XF.XJ.drop 20=AS (yz w) n)&&(decide (20<=w.XF.XJ.length)&&(decide (((List.range n).map (yz w)).Nodup)&&(List.range n).all (SC w)))))))))
theorem En (N n:Nat){w:Vj}(h:Us n w=true):St N n 0 w (yz w) (yx w) fun _=> []:=by
 unfold Us at h;simp only [Xt,Xl,VY,WK] at h;obtain ⟨h1,h2,h3,h4,h5,h6,h7,h8,h9,h10⟩:=h;obtain ⟨pl,hb⟩:=Oo h1
 have ob: ∀j,j<n->aw w.XF.m_ (yz w j)=true/\(yx w j).Xw=1/\(yx w j).XD=0/\(yx w j).Xy=[GI]/\(yx w j).Xx=[]:=fun j hj=>by
  have:=h10 j hj;unfold SC at this;simpa only [Xt,Xl] using this
 have none1: ∀j,j<n-> ∀(m:Nat) x,(yx w j).Xy[m+1]? =some x->False:=fun j hj m x hx=>by
  rw [(ob j hj).2.2.2.1] at hx;cases hx
 refine ⟨⟨fun j hj=> ?_,fun j hj=>(ob j hj).2.1,fun i j hi hj hij=>⟨fun e=> ?_,fun a b x y hx=>(none1 i hi a x hx).elim⟩⟩,fun j hj=>W4 _,⟨w.XF.XJ.take 20,by rw [Xq];omega,by rw [<-h7,WS]⟩,?_,by rw [h2];exact Rt,h4,by omega,by omega⟩
 ·obtain ⟨o1,o2,o3,o4,o5⟩:=ob j hj;refine ⟨⟨pl,by rw [o5];exact hb,by rw [h2];exact Ru N,by rw [h2];exact W4 _,by omega,by omega⟩,o1,J,⟨.inl o2,⟨GI,by rw [o4];rfl,.inl rfl⟩,fun _=>o5,?_,by rw [o4];rfl,List.nodup_nil⟩,fun m p hp=>(by cases hp),fun a b x y _ hx=>(none1 j hj a x hx).elim⟩;rw [h2,o3];exact Row.nil (s:=⟨-1,⟨0,0,⟨#[]⟩⟩,0,0⟩) ⟨Int.le_refl _,J⟩ J
 ·have e1:((List.range n).map (yz w))[i]? =some (yz w i):=by rw [Wm,List.getElem?_range hi];rfl
  have e2:((List.range n).map (yz w))[j]? =some (yz w i):=by rw [Wm,List.getElem?_range hj,e];rfl
  exact hij ((List.getElem?_inj (by rw [Xr,List.length_range];exact hi) h9).1 (e1.trans e2.symm))
 unfold SX at h6;split at h6
 ·rename_i x hx
  simp only [Xt,Xl,Bool.not_eq_true',Xk] at h6;exact ⟨x,hx,h6.1,h6.2.1,h6.2.2.1,h6.2.2.2.1,h6.2.2.2.2⟩
 cases h6
theorem Sv (N:Nat): ∀n:Nat,n<=4->St N n 0 (wS n) (yz (wS n)) (yx (wS n)) fun _=> []
 |0,_=>En N 0 I
 |1,_=>En N 1 I
 |2,_=>En N 2 I
 |3,_=>En N 3 I
 |4,_=>En N 4 I
theorem Og (K:Nat):o8 (K+200)=some true:=by kernel_rfl
theorem Lo {N:Nat}(hN:20000<=N):o8 N=some true:=by
 obtain ⟨K,rfl⟩: ∃K,N=K+200:=⟨N - 200,by omega⟩;exact Og K
set_option maxRecDepth 20000
theorem IW {b:Bool}(h:(!b)=false):b=true:=by cases b<;>first|rfl|cases h
structure OpSz (x:Vr):Prop where
 k:x.K.S.size<=140737488355328
 v:x.V.S.size<=140737488355328
 d:x.D.Value.S.size<=140737488355328
theorem Jk {N:Nat}(hn:n<=10)(a0:List Vr)(hl:a0.length<=40)(hz:∀x∈a0,OpSz x): ∀(m j:Nat) (s:Int),40<m+j->j<=40->0<=s->s<=70000->(∀(jj:Nat) x,jj<j->a0[jj]? =some x->OpOk n x)->Sat (wa N (n:Int) a0 m s (j:Int)) fun r=>r≠0->r=1/\ ∀x∈a0,OpOk n x
 |0,j,s,h,h2,_,_,_=>by omega
 | m +1,j,s,h,h2,h3,h4,hk=>by
  rw [wa.eq_2]
  refine aK (fun h7=> ?_) fun h7=> ?_
  ·refine rq U h7 fun x hx=> ?_
   rw [VW] at hx;have z:=hz x (WJ hx);have z1:=z.k;have z2:=z.v;have z3:=z.d;refine cQ (by constructor<;>omega) (cQ (by constructor<;>omega) (cQ (by constructor<;>omega) (aK (fun _=>ad fun h=>absurd J h) fun h9=> ?_)))
   refine bN (P:=fun b=>b=false->0<=x.O/\x.O<n) (fun _=>ad fun h=>by cases h) (fun e=>ad fun h=>by have:=Xm e;have:=Xm h;omega) fun b1 p1=> ?_
   refine bN (P:=fun b=>b=false->(0<=x.O/\x.O<n)/\ -1<=x.P) (fun _=>ad fun h=>by cases h) (fun e=>ad fun h=>⟨p1 e,by have:=Xm h;omega⟩) fun b2 p2=> ?_
   refine bN (P:=fun b=>b=false->((0<=x.O/\x.O<n)/\ -1<=x.P)/\x.P<n) (fun _=>ad fun h=>by cases h) (fun e=>ad fun h=>⟨p2 e,by have:=Xm h;omega⟩) fun b3 p3=> ?_
   refine bN (P:=fun b=>b=false->(((0<=x.O/\x.O<n)/\ -1<=x.P)/\x.P<n)/\R25 x.D) (fun _=>ad fun h=>by cases h) (fun e=>(Pz N x.D).bind fun y hy=>ad fun h=>⟨p3 e,hy (IW h)⟩) fun b4 p4=> ?_
   refine bN (P:=fun b=>b=false->((((0<=x.O/\x.O<n)/\ -1<=x.P)/\x.P<n)/\R25 x.D)/\VOk n x.V) (fun _=>ad fun h=>by cases h) (fun e=>(AL N hn x.V).bind fun y hy=>ad fun h=>⟨p4 e,hy (IW h)⟩) fun b5 p5=> ?_
   refine bN (P:=fun b=>b=false->(((((0<=x.O/\x.O<n)/\ -1<=x.P)/\x.P<n)/\R25 x.D)/\VOk n x.V)/\VOk n x.D.Value) (fun _=>ad fun h=>by cases h) (fun e=>(AL N hn x.D.Value).bind fun y hy=>ad fun h=>⟨p5 e,hy (IW h)⟩) fun b6 p6=> ?_
   refine bN (P:=fun b=>b=false->((((((0<=x.O/\x.O<n)/\ -1<=x.P)/\x.P<n)/\R25 x.D)/\VOk n x.V)/\VOk n x.D.Value)/\VOk n x.D.XL) (fun _=>ad fun h=>by cases h) (fun e=>(AL N hn x.D.XL).bind fun y hy=>ad fun h=>⟨p6 e,hy (IW h)⟩) fun b7 p7=> ?_
   refine bN (P:=fun b=>b=false->OpOk n x) (fun _=>ad fun h=>by cases h) (fun e=>(AL N hn x.D.XM).bind fun y hy=>ad fun h=> ?_) fun b8 p8=>kL (fun _=>ad fun h=>absurd J h) fun e8=> ?_
   ·obtain ⟨⟨⟨⟨⟨⟨q1,q2⟩,q3⟩,q4⟩,q5⟩,q6⟩,q7⟩:=p7 e;exact ⟨q1,⟨q2,q3⟩,q4,q5,q6,q7,hy (IW h)⟩
   refine cQ (by constructor<;>omega) ?_
   have:=Jk (N:=N) hn a0 hl hz m (j+1) (s+(((x.K.S.size:Int)+(x.V.S.size:Int))+(x.D.Value.S.size:Int))) U U U U fun jj y hj hy=>by
    by_cases e:jj=j
    ·subst e;rw [hx] at hy;cases hy;exact p8 e8
    exact hk jj y U hy
   exact this
  unfold Ac
  refine ad fun _=>⟨J,fun x hx=> ?_⟩
  obtain ⟨jj,hj⟩:=List.getElem?_of_mem hx;have:=(Wl.1 hj).1;exact hk jj x U hj
theorem SL {N:Nat}(hN:20000<=N)(hn:n<=10)(a0:List Vr)(hz:∀x∈a0,OpSz x):Sat (yG N a0 (n:Int)) fun r=>r≠0->r=1/\a0.length<=40/\ ∀x∈a0,OpOk n x:=by
 unfold yG
 refine aK (fun _=>ad fun h=>absurd J h) fun h=> ?_
 exact (Jk (N:=N) hn a0 U hz N 0 0 U U U U fun jj x hj=>by omega).mono fun r hr h0=>⟨(hr h0).1,by omega,(hr h0).2⟩
set_option maxRecDepth 20000
theorem N1 {N:Nat}(hv:v.Xw=7)(hvN:v.N=i)(hk:k<=580){w:Vj}(hM:c.Xx.length<=2200)(h:Obj N i k q w c PL):nF N w v=some (wx c):=by
 unfold nF;rw [Dm hv hvN hk hM h,bs];rfl
structure Twin (N b:Nat) (w:Vj):Prop where
 ex: ∃A C P,St N 2 b w A C P/\P 0=P 1/\wx (C 0)=wx (C 1)
theorem Df {N:Nat}{w:Vj}(f:Int)(PL:List Vk)(hl:PL.length<=1000): ∀(m j:Nat),PL.length<m+j->j<=PL.length->i5 N f PL PL w m (j:Int)=i6 N f w
 |0,j,h,h2=>by omega
 | m+1,j,h,h2=>by
  rw [i5.eq_2];by_cases h4:j<PL.length
  ·rw [Vy U,ct,aG h4,bs,bs,Vy rfl,nt,cf,bs,bs,Vy rfl,nt,bs,cf,bs,bs,Vy rfl,nt,bs,cf,gi (by constructor<;>omega)];exact Df f PL hl m (j+1) U U
  rw [Vz U,cf]
theorem Rv {N:Nat}(hN:20000<=N){b:Nat}(hb:b<=120){w:Vj}(h:Twin N b w):jx N 20 w=some true:=by
 obtain ⟨A,C,P,st,hp,he⟩:=h.ex;have o0:=st.ob.ob 0 U;have o1:=st.ob.ob 1 U
 have m0:(C 0).Xx.length<=2200:=by rw [st.ob.more U];exact Xa _
 have m1:(C 1).Xx.length<=2200:=by rw [st.ob.more U];exact Xa _
 have a0:bl N w 20=some ⟨7,A 0,⟨#[]⟩⟩:=st.at_ (j:=0) U;have a1:bl N w (20+1)=some ⟨7,A 1,⟨#[]⟩⟩:=st.at_ (j:=1) U
 have hsh:(C 0).XD=(C 1).XD:=by
  have r0:=o0.oc.row;have r1:=o1.oc.row;rw [hp] at r0;exact r0.uniq st.tu r1
 have hl:=st.len 0 U;unfold jx;rw [a0,bs,IR hN (v:=⟨7,A 0,⟨#[]⟩⟩) rfl rfl U m0 o0,bs,gi (by constructor<;>omega),a1,bs,IR hN (v:=⟨7,A 1,⟨#[]⟩⟩) rfl rfl U m1 o1,bs, <-hp,Vy rfl,nt,cf,bs,N2 (v:=⟨7,A 0,⟨#[]⟩⟩) rfl rfl U m0 o0,bs,gi (by constructor<;>omega),bs,N2 (v:=⟨7,A 1,⟨#[]⟩⟩) rfl rfl U m1 o1,bs,hsh,Vy rfl,nt,bs,cf];refine (Df 20 (P 0) U N 0 U (Xa _)).trans ?_;unfold i6;rw [a0,bs,N1 (v:=⟨7,A 0,⟨#[]⟩⟩) rfl rfl U m0 o0,bs,gi (by constructor<;>omega),a1,bs,N1 (v:=⟨7,A 1,⟨#[]⟩⟩) rfl rfl U m1 o1,bs,he,beq_self_eq_true,ct,Lo hN,bs,bs]
def Uh (x:Vr)(o:Int):Vr:=⟨x.Xw,o,x.P,x.K,x.D,x.V,x.XE⟩
theorem OpOk.at_ {x:Vr}(h:OpOk n x){o:Int}(ho:0<=o/\o<n):OpOk n (Uh x o):=⟨ho,h.p,h.d,h.v,h.dv,h.dg,h.ds⟩
theorem PG (N:Nat)(x:Vr):Sat (qK N x) fun b=>b=true->(x.Xw=0\/x.Xw=1\/x.Xw=3\/x.Xw=4)/\x.V.Xw<7/\x.D.Value.Xw<7/\x.D.XL.Xw=0/\x.D.XM.Xw=0:=by
 unfold qK
 refine bN (P:=fun b=>b=true->x.Xw=0\/x.Xw=1) (fun e=>ad fun _=> .inl (Xn e)) (fun _=>ad fun h=> .inr (Xn h)) fun b1 p1=> ?_
 refine bN (P:=fun b=>b=true->(x.Xw=0\/x.Xw=1)\/x.Xw=3) (fun e=>ad fun _=> .inl (p1 e)) (fun _=>ad fun h=> .inr (Xn h)) fun b2 p2=> ?_
 refine bN (P:=fun b=>b=true->((x.Xw=0\/x.Xw=1)\/x.Xw=3)\/x.Xw=4) (fun e=>ad fun _=> .inl (p2 e)) (fun _=>ad fun h=> .inr (Xn h)) fun b3 p3=> ?_
 refine bN (P:=fun b=>b=true->(((x.Xw=0\/x.Xw=1)\/x.Xw=3)\/x.Xw=4)/\x.V.Xw<7) (fun e=>ad fun h=>⟨p3 e,Xn h⟩) (fun _=>ad fun h=>by cases h) fun b4 p4=> ?_
 refine bN (P:=fun b=>b=true->((((x.Xw=0\/x.Xw=1)\/x.Xw=3)\/x.Xw=4)/\x.V.Xw<7)/\x.D.Value.Xw<7) (fun e=>ad fun h=>⟨p4 e,Xn h⟩) (fun _=>ad fun h=>by cases h) fun b5 p5=> ?_
 refine bN (P:=fun b=>b=true->(((((x.Xw=0\/x.Xw=1)\/x.Xw=3)\/x.Xw=4)/\x.V.Xw<7)/\x.D.Value.Xw<7)/\x.D.XL.Xw=0) (fun e=>ad fun h=>⟨p5 e,Xn h⟩) (fun _=>ad fun h=>by cases h) fun b6 p6=> ?_
 refine bN (P:=fun b=>b=true->((((((x.Xw=0\/x.Xw=1)\/x.Xw=3)\/x.Xw=4)/\x.V.Xw<7)/\x.D.Value.Xw<7)/\x.D.XL.Xw=0)/\x.D.XM.Xw=0) (fun e=>ad fun h=>⟨p6 e,Xn h⟩) (fun _=>ad fun h=>by cases h) fun b7 p7=>ad fun h=> ?_
 obtain ⟨⟨⟨⟨q1,q2⟩,q3⟩,q4⟩,q5⟩:=p7 h;exact ⟨by omega,q2,q3,q4,q5⟩
theorem Py {N:Nat}(hN:20000<=N){b:Nat}(hb:b+3<=120){w:Vj}(h:Twin N b w){x:Vr}(hx:OpOk 2 x)(hk:x.Xw=0\/x.Xw=1\/x.Xw=3\/x.Xw=4)(hv:x.V.Xw<7)(hd:x.D.Value.Xw<7)(hg:x.D.XL.Xw=0)(hs:x.D.XM.Xw=0):
  Sat (th N w 20 (Uh x 0)) fun r=>Sat (th N r.2 20 (Uh x 1)) fun r2=>r.1=r2.1/\Sat (dt N r2.2) fun r3=>Twin N (b+3) r3.2:=by
 obtain ⟨A,C,P,st,hp,he⟩:=h.ex
 refine (SR (n:=2) hN U U st (hx.at_ (o:=0) U) (by show x.Xw≠2;omega) (by show x.Xw≠5;omega) (j:=0) J).mono fun r hr=> ?_
 obtain ⟨r1,c1,st1,e1, -⟩:=hr
 refine (SR (n:=2) hN U U st1 (hx.at_ (o:=1) U) (by show x.Xw≠2;omega) (by show x.Xw≠5;omega) (j:=1) J).mono fun r2 hr2=> ?_
 obtain ⟨s1,c2,st2,e2, -⟩:=hr2;rw [tj _ _ (show (1:Nat)≠0 by omega),tj _ _ (show (1:Nat)≠0 by omega)] at s1 e2 st2;rw [<-hp, <-he] at s1 e2 st2;refine ⟨r1.trans s1.symm,?_⟩;obtain ⟨w',ρ,f,C',t1, -,st3, -, -,t6⟩:=st2.tick hN U U;refine ⟨_,t1,⟨_,_,_,st3,?_,?_⟩⟩
 ·show (wT (wT P 0 _) 1 _ 0).map (HL ρ f)=(wT (wT P 0 _) 1 _ 1).map (HL ρ f);rw [tj _ _ (show (0:Nat)≠1 by omega),uU,uU];rfl
 obtain ⟨g0,q0⟩:=t6 0 U;obtain ⟨g1,q1⟩:=t6 1 U;rw [tj _ _ (show (0:Nat)≠1 by omega),uU] at q0;rw [uU] at q1;rw [q0,q1];show wx c1=wx c2;rw [e1,e2];rfl
theorem Dg {N:Nat}(hN:20000<=N)(a0:List Vr)(hl:a0.length<=40)(hok:∀x∈a0,OpOk 2 x): ∀(m j:Nat) (w:Vj),a0.length<m+j->j<=a0.length->Twin N (3*j) w->Sat (cE N 20 a0 m (j:Int) w) (· =true)
 |0,j,w,h,h2,_=>by omega
 | m+1,j,w,h,h2,hT=>by
  rw [cE.eq_2];by_cases h4:j<a0.length
  ·have hxm:a0[j]∈a0:=Xv h4;have hx:=hok _ hxm;rw [Vy U,ct,aG h4,bs];generalize a0[j]=x at*
   have go: ∀w',Twin N (3*(j+1)) w'->Sat (gb N (cE N 20 a0 m) 20 (j:Int) a0 w') (· =true):=fun w' hT'=>by
    unfold gb;refine cQ (by constructor<;>omega) ?_;exact Dg hN a0 hl hok m (j+1) w' U U hT'
   refine (PG N x).bind fun y hy=>La (fun e=> ?_) fun e=> ?_
   ·refine go w ?_;obtain ⟨A,C,P,st,hp,he⟩:=hT.ex;exact ⟨A,C,P,st.stay.stay.stay,hp,he⟩
   obtain ⟨k1,k2,k3,k4,k5⟩:=hy e;rw [bs,bs];unfold mR
   refine Sat.bind (Py hN U hT hx k1 k2 k3 k4 k5) fun r hr=>hr.bind fun r2 hr2=> ?_
   obtain ⟨q1,q2⟩:=hr2;rw [q1,beq_self_eq_true,nt,cf]
   exact q2.bind fun r3 hr3=>go r3.2 hr3
  have hj:j=a0.length:=by omega
  subst hj;rw [Vz U,cf];exact ⟨_,Rv hN U hT,J⟩
theorem Gs {N:Nat}(hN:20000<=N)(a0:List Vr)(hl:a0.length<=40)(hok:∀x∈a0,OpOk 2 x): ∀(m j:Nat),2<m+j->j<=2->Sat (jw N 20 a0 m (j:Int) (wS j)) (· =true)
 |0,j,h,h2=>by omega
 | m+1,j,h,h2=>by
  rw [jw.eq_2];by_cases h4:j<2
  ·obtain ⟨K,rfl⟩: ∃K,N=K+64:=⟨N - 64,by omega⟩;obtain ⟨e1,e2⟩:=Rr K j U;have e1':lE (K+64) (wS j) (⟨1,0,⟨#[]⟩⟩:Vp) 1=some ((LR (wS j)).1,true,(LR (wS j)).2):=e1;rw [Vy U,ct,e1',bs,nt,cf,e2,bs,gi (by constructor<;>omega)];exact Gs hN a0 hl hok m (j+1) U U
  have hj:j=2:=by omega
  subst hj;rw [Vz U,cf];unfold mT;exact Dg hN a0 hl hok N 0 (wS 2) U U ⟨_,_,_,Sv N 2 U,J,by kernel_rfl⟩
theorem NA {N:Nat}(hN:20000<=N)(a0:List Vr)(hz:∀x∈a0,OpSz x):lp N a0=some true:=by
 apply Sat.eq
 have e1:qk N=some (.inr (wS 0)):=by
  obtain ⟨K,rfl⟩: ∃K,N=K+64:=⟨N - 64,by omega⟩;exact RT K
 have e2:ci N (wS 0)=some 20:=by
  obtain ⟨K,rfl⟩: ∃K,N=K+64:=⟨N - 64,by omega⟩;exact Pp K
 unfold lp;rw [e1,bs];show Sat (Option.bind _ _) _
 refine bN (P:=fun b=>b=false->a0.length<=40/\ ∀x∈a0,OpOk 2 x) (fun _=>ad fun h=>by cases h) (fun e=> ?_) fun b hb=>kL (fun _=> ?_) fun e=> ?_
 ·refine (SL (N:=N) (n:=2) hN U a0 hz).bind fun r hr=>ad fun h=> ?_
  have h1:r=1:=by
   cases e:decide (r=1) with
   |true=>exact Xn e
   |false=>rw [e] at h;cases h
  have:=hr U;exact this.2
 ·rw [Lo hN,bs];exact ad J
 obtain ⟨hl,hok⟩:=hb e;show Sat (Option.bind (ci N (wS 0)) _) _;rw [e2,bs];exact Gs hN a0 hl hok N 0 U U
theorem RC (h:Tz (fun z=>Hm z) a0): ∀x∈a0,OpSz x:=fun x hx=>by
 have h:=h.2 x hx
 have hr:reachBytes<=140737488355328:=by decide
 exact ⟨W5 h.2.2.2.1.2.2 hr,W5 h.2.2.2.2.2.1.2.2 hr,W5 h.2.2.2.2.1.2.2.1.2.2 hr⟩
theorem J6 (h:Tz (fun z=>Hm z) a0):lp 20000 a0=some true:=NA (by decide) a0 (RC h)
end
end Go.Proofs.YthhiddkljcacaaaGreat