/- Merged texts: part 11. No conditions of their own. -/
import Derived.Test.YthhiddkljcacaaaGreatG10
import Derived.Test.YthhiddkljcacaaaGreatG8
import Derived.KernelRfl
namespace Go.Proofs.YthhiddkljcacaaaGreat
variable {t:Int}{f ρ:Int->Int}{g:List Int}{PL:List VN}{A1 A2 S:List Vy}{j o z:Nat}{C:Nat->VL}{α:Type}{m:VB}{d:VE}{v:VH}{w':VK}{c c':VL}{k x0 y:Vy}
section
open Go.RowKit
set_option maxRecDepth 20000
def gu (c:VL)(z:VH):VL:=⟨c.no,c.XV,c.XU,c.XW,c.XQ.set 0 z,c.XP⟩
theorem UO {N:Nat}(Q:20000<=N){i:Int}(K:v.no=7)(A:v.N=i){k q:Nat}{w:VK}(h:Obj N i k q w c PL)(O:k<=580)(R:c.XP.length<=2200){z:VH}(F:ValW w.XX.m_ z)(o:z.no=1\/z.no=7):
  ∃w',lF N w v (gu c z)=some w'/\Obj N i k q w' (gu c z) PL/\FrO i w w' c (gu c z)/\w'.Yh=w.Yh:=by
 have f:=pU h.right;have hnum:=h.num;have U:=h.len;have E:(c.XQ.set 0 z)[0]? =some z:=WK W
 have u: ∀m:Nat,(c.XQ.set 0 z)[m+1]? =c.XQ[m+1]? :=fun m=>WJ W
 have hval: ∀x∈c.XQ.set 0 z++c.XP,ValW w.XX.m_ x:=fun x d=>by
  rcases WY.1 d with d|d
  ·rcases W6 d with d|rfl
   ·exact h.val (VU _ d)
   exact F
  exact h.val (VV _ d)
 have P:bT (gu c z)=true:=Ay h.oc.kind f.1 f.2.1 f.2.2 (fun x d=>(hval x (VU _ d)).may) (fun x d=>(hval x (VV _ d)).may) (by show (c.XQ.set 0 z).length<=1025;rw [WT];omega) E o (by show c.XP.length<=4096;omega) h.oc.plain;obtain ⟨T,S,C,B⟩:=BC (k':=k) (M':=c.XP.length) Q K A O R h.wd h.has h.at_ (c':=gu c z) rfl h.oc.kind P (fun x d=>⟨(hval x d).i64,(hval x d).ref⟩) (by show k+(c.XQ.set 0 z).length<=k+c.XQ.length;rw [WT];omega) (Xm _);refine ⟨_,T,⟨S,C.has i h.has,?_,⟨h.oc.kind,⟨z,E,o⟩,h.oc.plain,h.oc.row,by show (c.XQ.set 0 z).length=_;rw [WT];exact h.oc.num,h.oc.nd⟩,fun n p M=> ?_,fun n m x y j d H=>h.inj n m x y j ((u n).symm.trans d) ((u m).symm.trans H)⟩,⟨C,Le.refl _,fun a t j _=> ?_,fun n x d _=> .inl ⟨n,(u n).symm.trans d⟩⟩,J⟩
 ·show am (cl w.XX i _).m_ i=_;rw [B i h.has,if_pos rfl]
 ·obtain ⟨x,d,L⟩:=h.each n p M;refine ⟨x,(u n).trans d,L.move fun a _ _ t D=>⟨C.has a t,?_⟩⟩;show am (cl w.XX i _).m_ a=_;rw [B a t,if_neg fun e=> ?_];subst e;rw [h.at_] at D;rcases h.oc.kind with l|l<;>rw [D] at l<;>cases l
 show am (cl w.XX i _).m_ a=_;rw [B a t,if_neg j]
theorem Obj.bump {N:Nat}{i:Int}{k q:Nat}{w:VK}(h:Obj N i k q w c PL)(t:Bool):Obj N i k (q+1) (lc t w) c PL:=by
 have a:=h.wd.ep;refine ⟨⟨h.wd.pl,h.wd.hb,h.wd.ti,Nat.le_succ_of_le h.wd.tb,?_⟩,h.has,h.at_,h.oc,h.each,h.inj⟩;cases t
 ·show 0<=w.Yh+0/\w.Yh+0<=((q+1:Nat):Int);omega
 show 0<=w.Yh+1/\w.Yh+1<=((q+1:Nat):Int);omega
theorem FrO.bump {i:Int}{w:VK}(f:FrO i w w' c c')(t:Bool):FrO i w (lc t w') c c':=⟨⟨f.fr.roots,f.fr.has,f.fr.spent,f.fr.config⟩,f.le,f.rest,f.new⟩
theorem UH: ∀n:_root_.Fin 64,(0<=dD .i64 (n.val:Int) 16/\dD .i64 (n.val:Int) 16<=63)/\aM .i64 (dD .i64 (n.val:Int) 16) 1=aM .i64 (n.val:Int) 1:=by decide+kernel
theorem Uf {f:Int}(h:0<=f/\f<=63):(0<=dD .i64 f 16/\dD .i64 f 16<=63)/\aM .i64 (dD .i64 f 16) 1=aM .i64 f 1:=by
 have:=UH ⟨f.toNat,by omega⟩;simp only [Wh h.1] at this;exact this
theorem abM {N:Nat}(n:20000<=N){i:Int}(f:v.no=7)(a:v.N=i){k q:Nat}{w:VK}(h:Obj N i k q w c PL)(j:k<=580)(l:c.XP.length<=2200):
  ∃w' c',mM N w v=some w'/\Obj N i k q w' c' PL/\FrO i w w' c c'/\w'.Yh=w.Yh/\c'.no=c.no/\c'.XV=c.XV/\c'.XQ=c.XQ/\dP c'=dP c:=by
 have d:=pU h.right;unfold mM;rw [jn f a j l h,bs];show∃w' c',(bif decide (aM .i64 c.XU 16=0) then _ else _)=_/\_;by_cases e:aM .i64 c.XU 16=0
 ·obtain ⟨b1,b2⟩:=Uf d.2.1;obtain ⟨w',u,t,p,o⟩:=NK n f a h j c.XP l (fun x m=>h.val (VV _ m)) h.oc.plain (dD .i64 c.XU 16) b1;refine ⟨w',_,?_,t,p,o,J,J,J,?_⟩
  ·rw [VQ e,ct];have z:nD N w v (⟨c.no,c.XV,dD .i64 c.XU 16,c.XW,c.XQ,c.XP⟩:VL)=some w':=u;show Option.bind (nD N w v (⟨c.no,c.XV,dD .i64 c.XU 16,c.XW,c.XQ,c.XP⟩:VL)) _=_;rw [z,bs]
  unfold dP;show (!decide (aM .i64 (dD .i64 c.XU 16) 1=0))=_;rw [b2]
 exact ⟨w,c,by rw [VR e,cf],h,FrO.refl i w c,rfl,rfl,rfl,rfl,rfl⟩
def cQ (A:Nat->Int)(t:Int):VH:=bif decide (t<0) then nullV else ⟨7,A t.toNat,⟨#[]⟩⟩
theorem kS {A:Nat->Int}(h:t<0):cQ A t=nullV:=by unfold cQ;rw [VQ h];rfl
theorem ji {A:Nat->Int}(h:0<=t):cQ A t=⟨7,A t.toNat,⟨#[]⟩⟩:=by unfold cQ;rw [VR W];rfl
theorem acI (A:Nat->Int)(t:Int):(cQ A t).no=1\/(cQ A t).no=7:=by
 by_cases h:t<0
 ·rw [kS h];exact .inl J
 rw [ji W];exact .inr J
theorem abA {n:Nat}{A:Nat->Int}(c:∀i j,i<n->j<n->A i=A j->i=j){s:Int}(l:-1<=s/\s<n)(f:-1<=t/\t<n):cQ A s=cQ A t↔s=t:=by
 refine ⟨fun e=> ?_,fun e=>by rw [e]⟩;by_cases d:s<0
 ·by_cases a:t<0
  ·omega
  rw [kS d,ji W] at e;cases congrArg VH.no e
 by_cases a:t<0
 ·rw [kS a,ji W] at e;cases congrArg VH.no e
 rw [ji W,ji W] at e;have:=c _ _ W W (congrArg VH.N e);omega
def fd (f:Int->Int):Nat->Int->Bool
 |0,p=>decide (p<0)
 |k+1,p=>bif decide (p<0) then true else fd f k (f p)
def fP (f:Int->Int):Nat->Int->Int->Bool
 |0,_,_=>false
 |k+1,o,p=>bif decide (p<0) then false else bif decide (p=o) then true else fP f k o (f p)
structure Prs (n:Nat) (A:Nat->Int) (C:Nat->VL) (f:Int->Int):Prop where
 at_: ∀j:Nat,j<n->(C j).XQ[0]? =some (cQ A (f j))
 rng: ∀j:Nat,j<n-> -1<=f j/\f j<n
 ends: ∀j:Nat,j<n->fd f 4 j=true
theorem Mh {N:Nat}{i:Int}(e:v.no=7)(a:v.N=i){k q:Nat}(f:k<=580){w:VK}(j:c.XP.length<=2200)(h:Obj N i k q w c PL){z:VH}(d:c.XQ[0]? =some z):rD N w v=some z:=by
 unfold rD;rw [jn e a f j h,bs];show Option.bind (ak c.XQ 0) _=_;rw [show ak c.XQ 0=some z from d,bs]
section
variable {N n b:Nat}(a:n<=10){w:VK}{A:Nat->Int}{P:Nat->List VN}(h:St N n b w A C P)
include h
theorem St.inj: ∀i j,i<n->j<n->A i=A j->i=j:=fun i j hi c e=>by
 by_cases a:i=j
 ·exact a
 exact absurd e (h.ob.sep i j hi c a).1
theorem St.op2 (c:j<n){a:Nat}(hb':b<=a){PL':List VN}(o:Obj N (A j) (80+4*a) (1+1024*a) w' c' PL')(i:c'.no=(C j).no)(f:FrO (A j) w w' (C j) c')(d:PL'.length<=a):St N n a w' A (eJ C j c') (eJ P j PL'):=by
 refine ⟨h.ob.upd c o i f,fun m hm=> ?_,?_,h.box.keep (h.ob.ob j c) f,f.le.tu h.tu,by rw [f.fr.config];exact h.cfg,by rw [f.fr.spent];exact h.stp.1,by rw [f.fr.spent];have:=h.stp.2;omega⟩
 ·by_cases e:m=j
  ·rw [e,jG];exact d
  rw [jf _ _ e];have:=h.len m hm;omega
 obtain ⟨R,p,l⟩:=h.rts;exact ⟨R,p,by rw [f.fr.roots];exact l⟩
theorem St.prVal (c:0<n)(a:n<=10)(d:-1<=t/\t<n):ValW w.XX.m_ (cQ A t):=by
 by_cases f:t<0
 ·rw [kS f];exact ⟨Gj (v:=nullV) (by decide) (by decide) J (fun e=>by cases e) fun _=>J,by decide,fun e=>by cases e⟩
 have:=h.valW (v:=⟨7,t,⟨#[]⟩⟩) ⟨fun e=>absurd rfl e,⟨by show (0:Int)<=7;decide,by show (7:Int)<=7;decide⟩,by show in64 t;constructor<;>omega,fun _=>⟨rfl,by show 0<=t;omega,d.2⟩⟩ c;rw [kU rfl] at this;rw [ji W];exact this
theorem St.proto_ (a:n<=10)(d:-1<=t/\t<n):uW N w 20 t=some (cQ A t):=by
 unfold uW;by_cases c:t<0
 ·rw [VQ c,ct,kS c];rfl
 have:=h.at_ (j:=t.toNat) W;rw [Wh W] at this;rw [VR c,cf,ce (by constructor<;>omega),this,bs,ji W]
end
end
section
open Go.RowKit
set_option maxRecDepth 20000
theorem KG {k:Nat}{p:Int}(a:0<=p)(h:fd f (k+1) p=true):fd f k (f p)=true:=by
 unfold fd at h
 rwa [VR W,cond_false] at h
theorem adb {N:Nat}(w:VK)(v:VH)(a:v.no=1):ia N w v=some (.inl ()):=by
 unfold ia;rw [VR W,nf,ct]
theorem ac7 {N n b:Nat}{w:VK}{A:Nat->Int}{P:Nat->List VN}(h:St N n b w A C P)(hb:b<=120)(d:-1<=t/\t<n):rT N w (cQ A t)=some true:=by
 unfold rT;by_cases c:t<0
 ·rw [kS c];rfl
 have ob:=h.ob.ob t.toNat W
 have a:(C t.toNat).XP.length<=2200:=by rw [h.ob.more W];exact Xt _
 rw [ji W,VR (show¬(7:Int)=1 by omega),cf,jn (v:=⟨7,A t.toNat,⟨#[]⟩⟩) rfl rfl W a ob,bs];rfl
section
variable {N n b:Nat}(u:20000<=N)(B:n<=10)(hb:b<=119){w:VK}{A:Nat->Int}{P:Nat->List VN}(h:St N n b w A C P)(i:Prs n A C f)(a:j<n)(l:-1<=t/\t<n)
include u B hb h i a l
def GX (N n b:Nat)(w:VK)(A:Nat->Int)(C:Nat->VL)(P:Nat->List VN)(j:Nat)(t:Int)(w':VK):Prop:=
 w'.Yh=w.Yh+(bif dT (C j) then 1 else 0)/\ ∃a,St N n (b+1) w' A a P/\(a j).XQ[0]? =some (cQ A t)/\ ∀m,m<n->dP (a m)=dP (C m)/\(a m).XV=(C m).XV/\(m≠j->(a m).XQ[0]? =(C m).XQ[0]?)/\((m:Int)≠t->dT (a m)=dT (C m))
omit i in
theorem acL (M:t≠(j:Int)):Sat (xP N w (cQ A t) ⟨C j,w,⟨7,A j,⟨#[]⟩⟩⟩) fun r=>r.1=true/\GX N n b w A C P j t r.2:=by
 have ob:=h.ob.ob j a;have hm:=h.ob.more a
 have R:(C j).XP.length<=2200:=by rw [hm];exact Xt _
 have hnum:=ob.num;have O:=ob.wd.ep;have hlen:=h.len j a;obtain ⟨c,e1,e2,e3,H⟩:=UO u (v:=⟨7,A j,⟨#[]⟩⟩) rfl rfl ob W R (h.prVal W B l) (acI A t)
 have Q:0<=c.Yh/\c.Yh<=2000000000:=by rw [H];omega
 have q:=Bo (c':=gu (C j) (cQ A t)) e1 Q true;have st1:St N n (b+1) (lc (true&&dT (gu (C j) (cQ A t))) c) A (eJ C j (gu (C j) (cQ A t))) (eJ P j (P j)):=h.op2 a W ((e2.bump _).up W W) rfl (e3.bump _) W;rw [Ck] at st1;unfold xP
 refine kP W (by show (0:Int)<((C j).XQ.length:Int);omega) fun x _=> ?_
 refine Sat.bind ⟨_,q,J⟩ fun y L=> ?_
 subst L
 have key: ∀m,m<n->dP (eJ C j (gu (C j) (cQ A t)) m)=dP (C m)/\(eJ C j (gu (C j) (cQ A t)) m).XV=(C m).XV/\(m≠j->(eJ C j (gu (C j) (cQ A t)) m).XQ[0]? =(C m).XQ[0]?)/\dT (eJ C j (gu (C j) (cQ A t)) m)=dT (C m):=fun m _=>by
  by_cases e:m=j
  ·rw [e,jG];exact ⟨J,J,fun h=>absurd J h,J⟩
  rw [jf _ _ e];exact ⟨J,J,fun _=>J,J⟩
 have i:(eJ C j (gu (C j) (cQ A t)) j).XQ[0]? =some (cQ A t):=by
  rw [jG];show ((C j).XQ.set 0 (cQ A t))[0]? =_;exact WK W
 have hep2:(lc (true&&dT (gu (C j) (cQ A t))) c).Yh=w.Yh+(bif dT (C j) then 1 else 0):=by
  show c.Yh+(bif dT (C j) then 1 else 0)=_;rw [H]
 show Sat (Option.bind (mM N (lc (true&&dT (gu (C j) (cQ A t))) c) (cQ A t)) _) _;by_cases E:t<0
 ·rw [kS E] at*
  have:mM N (lc (true&&dT (gu (C j) nullV)) c) nullV=some (lc (true&&dT (gu (C j) nullV)) c):=by
   unfold mM;rw [adb _ nullV rfl,bs];rfl
  rw [this,bs];refine ar ⟨J,hep2,_,st1,by rw [i,kS E],fun m hm=> ?_⟩;obtain ⟨k1,k2,f,o⟩:=key m hm;exact ⟨k1,k2,f,fun _=>o⟩
 have hi:t.toNat<n:=by omega
 have p:t.toNat≠j:=by omega
 have ob2:=st1.ob.ob t.toNat hi
 have z:(eJ C j (gu (C j) (cQ A t)) t.toNat).XP.length<=2200:=by rw [st1.ob.more hi];exact Xt _
 obtain ⟨K,c2,F,Z,X,f4,V,U,T,S⟩:=abM u (v:=⟨7,A t.toNat,⟨#[]⟩⟩) rfl rfl ob2 W z
 have D:mM N (lc (true&&dT (gu (C j) (cQ A t))) c) (cQ A t)=some K:=by rw [ji W];rw [ji W] at F;exact F
 rw [D,bs];have st2:=st1.op2 hi (Xm _) Z V X (st1.len _ hi);rw [Ck] at st2;refine ar ⟨J,f4.trans hep2,_,st2,?_,fun m hm=> ?_⟩
 ·rw [jf _ _ p.symm];exact i
 obtain ⟨k1,k2,f,o⟩:=key m hm;by_cases e:m=t.toNat
 ·rw [e,jG];rw [e] at k1 k2 f;exact ⟨S.trans k1,U.trans k2,fun d=>by rw [T];exact f d,fun d=>absurd W d⟩
 rw [jf _ _ e];exact ⟨k1,k2,f,fun _=>o⟩
theorem Mx (d:t≠(j:Int)): ∀(m k:Nat) (p:Int),k<m->(-1<=p/\p<n)->fd f k p=true->Sat (xV N w ⟨7,A j,⟨#[]⟩⟩ (cQ A t) ⟨C j,w,⟨7,A j,⟨#[]⟩⟩⟩ m (cQ A p).no (cQ A p).N (cQ A p).S) fun r=>(fP f (k+1) j p=true/\r=(false,w))\/(fP f (k+1) j p=false/\r.1=true/\GX N n b w A C P j t r.2)
 |0,k,p,F,_,_=>by omega
 | m+1,k,p,F,L,E=>by
  rw [xV.eq_2];by_cases o:p<0
  ·rw [kS o,VR (show¬nullV.no=7 by decide),cf]
   have er:fP f (k+1) j p=false:=by unfold fP;rw [VQ o];rfl
   exact (acL u B hb h a l d).mono fun r hr=> .inr ⟨er,hr⟩
  have c:p.toNat<n:=by omega
  have ej:(⟨7,A p.toNat,⟨#[]⟩⟩:VH)=⟨7,A j,⟨#[]⟩⟩↔p=(j:Int):=⟨fun e=>by have:=h.inj _ _ c a (congrArg VH.N e);omega,fun e=>by rw [e,Wg]⟩;rw [ji W,VQ rfl,ct];show Sat (bif decide ((⟨7,A p.toNat,⟨#[]⟩⟩:VH)=⟨7,A j,⟨#[]⟩⟩) then _ else _) _
  refine bq (fun e=>ar ?_) fun e=> ?_
  ·left;refine ⟨?_,J⟩;unfold fP;rw [VR o,cond_false,VQ (ej.1 e)];rfl
  have z:p≠(j:Int):=fun K=>e (ej.2 K)
  have ob:=h.ob.ob p.toNat c
  have H:(C p.toNat).XP.length<=2200:=by rw [h.ob.more c];exact Xt _
  have D:=i.at_ p.toNat c;have hr:=i.rng p.toNat c;rw [Wh W] at D hr
  obtain ⟨k,rfl⟩: ∃q,k=q+1:=⟨k - 1,by
   cases k with
   |zero=>exact absurd (XG E) o
   |succ k=>rfl⟩
  have er:fP f (k+1+1) j p=fP f (k+1) j (f p):=by
   show (bif decide (p<0) then false else bif decide (p=(j:Int)) then true else fP f (k+1) j (f p))=_;rw [VR o,cond_false,VR z,cond_false]
  show Sat (Option.bind (rD N w ⟨7,A p.toNat,⟨#[]⟩⟩) _) _;rw [Mh (v:=⟨7,A p.toNat,⟨#[]⟩⟩) rfl rfl W H ob D,bs,er];exact Mx d m k (f p) W hr (KG W E)
theorem Sg:Sat (ym N w ⟨7,A j,⟨#[]⟩⟩ (cQ A t)) fun r=>(f j=t/\r=(true,w))\/(f j≠t/\dP (C j)=false/\r=(false,w))\/(f j≠t/\dP (C j)=true/\fP f 5 j t=true/\r=(false,w))\/(f j≠t/\dP (C j)=true/\fP f 5 j t=false/\t≠(j:Int)/\r.1=true/\GX N n b w A C P j t r.2):=by
 have ob:=h.ob.ob j a
 have D:(C j).XP.length<=2200:=by rw [h.ob.more a];exact Xt _
 have q:=i.at_ j a;have hr:=i.rng j a;have hi:=abA h.inj hr l;unfold ym;rw [jn (v:=⟨7,A j,⟨#[]⟩⟩) rfl rfl W D ob,bs];show Sat (Option.bind (rT N w (cQ A t)) _) _;rw [ac7 h W l,bs,nt,cf];show Sat (Option.bind (ak (C j).XQ 0) _) _;rw [show ak (C j).XQ 0=some (cQ A (f j)) from q,bs]
 refine bq (fun e=>ar (.inl ⟨hi.1 e,J⟩)) fun e=> ?_
 have c:f j≠t:=fun h=>e (hi.2 h)
 show Sat (bif decide (aM .i64 (C j).XU 1=0) then _ else _) _
 refine bq (fun o=>ar (.inr (.inl ⟨c,by unfold dP;rw [VQ o];rfl,rfl⟩))) fun o=> ?_
 have hext:dP (C j)=true:=by unfold dP;rw [VR o];rfl
 by_cases d:t=(j:Int)
 ·obtain ⟨M,rfl⟩: ∃M,N=M+1:=⟨N - 1,by omega⟩
  have er:fP f 5 j t=true:=by
   unfold fP;rw [VR (show¬t<0 by omega),cond_false,VQ d];rfl
  rw [xV.eq_2,ji W,VQ rfl,ct];show Sat (bif decide ((⟨7,A t.toNat,⟨#[]⟩⟩:VH)=⟨7,A j,⟨#[]⟩⟩) then _ else _) _;rw [VQ (by rw [d,Wg]),ct];exact ar (.inr (.inr (.inl ⟨c,hext,er,J⟩)))
 have z:fd f 4 t=true:=by
  by_cases E:t<0
  ·unfold fd;rw [VQ E];rfl
  have:=i.ends t.toNat W
  rwa [Wh W] at this
 refine (Mx u B hb h i a l d N 4 t W l z).mono fun r hr=> ?_
 rcases hr with ⟨r1,m⟩|⟨r1,m,p⟩
 ·exact .inr (.inr (.inl ⟨c,hext,r1,m⟩))
 exact .inr (.inr (.inr ⟨c,hext,r1,d,m,p⟩))
end
end
section
open Go.RowKit
set_option maxRecDepth 20000
def gh (f:VH->VH)(l:List VN):List VN:=l.map (dl f)
theorem NY {f:VH->VH}(a:f v0=v0):dl f zeroP=zeroP:=by
 show (⟨zeroP.XZ,zeroP.XT,f v0,f v0,f v0⟩:VN)=zeroP;rw [a];rfl
theorem LQ {f:VH->VH}(a:f v0=v0)(l:List VN)(k:Vy):bZ (gh f l) k=(dl f (bZ l k).1,(bZ l k).2):=by
 unfold bZ gh;rw [List.find?_map]
 have e:((fun p:VN=>decide (p.XZ=k))∘dl f)=fun p:VN=>decide (p.XZ=k):=rfl
 rw [e]
 cases l.find? (fun p=>decide (p.XZ=k)) with
 |none=>show (zeroP,false)=(dl f zeroP,false);rw [NY a]
 |some p=>rfl
theorem UC (f:VH->VH)(l:List VN)(k:Vy):kC (gh f l) k=gh f (kC l k):=by
 unfold kC gh;rw [List.filter_map];rfl
theorem Lk (f:VH->VH)(l:List VN)(p:VN):eV (gh f l) (dl f p)=gh f (eV l p):=by
 unfold eV gh
 have e:(l.map (dl f)).findIdx? (fun x=>decide (x.XZ=(dl f p).XZ))=l.findIdx? (fun x=>decide (x.XZ=p.XZ)):=by
  rw [List.findIdx?_map];rfl
 rw [e]
 cases l.findIdx? (fun x=>decide (x.XZ=p.XZ)) with
 |none=>show l.map (dl f)++ [dl f p]=(l++ [p]).map (dl f);rw [WV];rfl
 |some n=>show (l.map (dl f)).set n (dl f p)=(l.set n p).map (dl f);rw [List.map_set]
theorem aaz {n:Nat}{A:Nat->Int}(q:∀i j,i<n->j<n->A i=A j->i=j)(N:Nat){l:List VN}(m:∀p∈l,iN n p)(o:xb n d)(x:VH)(ext:Bool)(kind:Int)(k:Vy)(a:Int):
  fT N (gh (bm A) l) ext kind k (gg (bm A) d) (bm A x) a=((fT N l ext kind k d x a).1,gh (bm A) (fT N l ext kind k d x a).2.1,(fT N l ext kind k d x a).2.2):=by
 have c:=qu A
 have f:iN n (bZ l k).1:=by
  unfold bZ
  cases e:l.find? (fun p=>decide (p.XZ=k)) with
  |none=>exact wB n
  |some p=>exact m p (List.mem_of_find?_eq_some e)
 have t:(⟨k,a,bm A x,v0,v0⟩:VN)=dl (bm A) ⟨k,a,x,v0,v0⟩:=by
  show _=(⟨k,a,bm A x,bm A v0,bm A v0⟩:VN);rw [c]
 unfold fT;rw [LQ c,Sh q f o,UC,t,Lk,Lk];show (bif decide (kind=0) then _ else bif decide (kind=1) then (bif (bZ l k).2 then (bif decide (aM .i64 (bZ l k).1.XT 4=0) then _ else _) else _) else _)=_
 cases decide (kind=0) with
 | true=>
  rw [cond_true,cond_true]
  cases fI N k with
  |false=>rfl
  |true=>
   rw [cond_true,cond_true];cases (dh (bZ l k).1 (bZ l k).2 ext k d).2<;>rfl
 | false=>
  rw [cond_false,cond_false]
  cases decide (kind=1) with
  | true=>
   rw [cond_true,cond_true]
   cases (bZ l k).2 with
   |false=>rfl
   |true=>
    rw [cond_true,cond_true];cases decide (aM .i64 (bZ l k).1.XT 4=0)<;>rfl
  | false=>
   rw [cond_false,cond_false]
   cases decide (kind=3) with
   |true=>rfl
   | false=>
    rw [cond_false,cond_false]
    cases decide (kind=4) with
    |false=>rfl
    |true=>
     rw [cond_true,cond_true];cases (fI N k&&(decide (0<=a)&&decide (a<=7)))<;>rfl
theorem LU {l:List VN}{p x:VN}(h:x∈eV l p):x∈l\/x=p:=by
 unfold eV at h;split at h
 ·exact W6 h
 rcases WY.1 h with h|h
 ·exact .inl h
 exact .inr (W8.1 h)
theorem aa8 {n:Nat}(N:Nat){l:List VN}(c:∀p∈l,iN n p)(q:xb n d){x:VH}(m:VOk n x)(ext:Bool)(kind:Int)(k:Vy)(a:Int): ∀p∈(fT N l ext kind k d x a).2.1,iN n p:=by
 have o:iN n (bZ l k).1:=by
  unfold bZ
  cases e:l.find? (fun p=>decide (p.XZ=k)) with
  |none=>exact wB n
  |some p=>exact c p (List.mem_of_find?_eq_some e)
 have j: ∀p∈eV l (dh (bZ l k).1 (bZ l k).2 ext k d).1,iN n p:=fun p f=>by
  rcases LU f with h|rfl
  ·exact c p h
  exact SK o q _ _ _
 have i: ∀p∈eV l ⟨k,a,x,v0,v0⟩,iN n p:=fun p f=>by
  rcases LU f with h|rfl
  ·exact c p h
  exact ⟨m,oS n,oS n⟩
 unfold fT
 cases decide (kind=0) with
 | true=>
  cases fI N k with
  |false=>exact c
  |true=>
   cases (dh (bZ l k).1 (bZ l k).2 ext k d).2 with
   |false=>exact c
   |true=>exact j
 | false=>
  cases decide (kind=1) with
  | true=>
   cases (bZ l k).2 with
   |false=>exact c
   |true=>
    cases decide (aM .i64 (bZ l k).1.XT 4=0) with
    |true=>exact c
    |false=>exact fun p f=>c p (W2.1 f).1
  | false=>
   cases decide (kind=3) with
   |true=>exact c
   | false=>
    cases decide (kind=4) with
    |false=>exact c
    |true=>
     cases (fI N k&&(decide (0<=a)&&decide (a<=7))) with
     |false=>exact c
     |true=>exact i
theorem FV:(∃(n:Nat) (p:VN),PL[n]? =some p/\p.XZ=k/\ ∀m,m<n-> ∀r,PL[m]? =some r->r.XZ≠k)\/ ∀p∈PL,p.XZ≠k:=by
 induction PL with
 |nil=>right;intro p c;cases c
 | cons a PL d=>
  by_cases e:a.XZ=k
  ·left;exact ⟨0,a,J,e,fun m hm=>by omega⟩
  rcases d with ⟨n,p,j,i,f⟩|h
  ·left;refine ⟨n+1,p,j,i,fun m hm r hr=> ?_⟩
   cases m with
   |zero=>obtain rfl:a=r:=Xx hr;exact e
   |succ m=>exact f m W r hr
  right;intro p c;rcases WZ.1 c with rfl|c
  ·exact e
  exact h p c
section
variable {N:Nat}(a:20000<=N){l:List VN}(e:l.length<=1024)
include a e
theorem F9 {n:Nat}{p:VN}(c:l[n]? =some p)(o:p.XZ=k)(j:∀m,m<n-> ∀r,l[m]? =some r->r.XZ≠k):si N l k=some (n:Int):=by
 have f:=(WH.1 c).1
 have key: ∀m i:Nat,n<m+i->i<=n->ve N l k m (i:Int)=some (n:Int):=by
  intro m
  induction m with
  |zero=>intro i a b;omega
  | succ m d=>
   intro i a b;rw [ve.eq_2,bG W,ct,bz (by omega:i<l.length),bs];by_cases e:i=n
   ·subst e;rw [(WH.1 c).2,VQ o,ct]
   rw [VR (j i W _ (WF W)),cf,r64 W W];exact d (i+1) W W
 exact key N 0 W W
theorem Gd (h:∀p∈l,p.XZ≠k):si N l k=some (-1):=by
 have key: ∀m i:Nat,l.length<m+i->i<=l.length->ve N l k m (i:Int)=some (-1):=by
  intro m
  induction m with
  |zero=>intro i a b;omega
  | succ m c=>
   intro i a b;rw [ve.eq_2];by_cases e:i<l.length
   ·rw [bG W,ct,bz e,bs,VR (h _ (XO e)),cf,r64 W W];exact c (i+1) W W
   rw [bI W,cf];rfl
 exact key N 0 W W
theorem MX {n:Nat}(q:n<l.length)(p:VN):pZ N l (n:Int) p=some (l.set n p):=by
 have _:=a
 unfold pZ;rw [ce (by simp only [WS];omega),VR W,cf,XN,bz q,bs,Wg]
theorem MO (p:VN):pZ N l (-1) p=some (l++ [p]):=by
 have _:=a
 unfold pZ;rw [ce (by simp only [WS];omega)];show ae _ _=_;rw [XN,ce (by simp only [WP,WS];omega)]
theorem SG {n:Nat}(q:n<l.length):Ey N l (n:Int)=some (l.eraseIdx n):=by
 have key: ∀(m i:Nat) (p:List VN),l.length<m+i->i<=l.length->p.length<=i->p++(if i<=n then (l.drop i).eraseIdx (n - i) else l.drop i)=l.eraseIdx n->rB N (n:Int) l m p (i:Int)=some (l.eraseIdx n):=by
  intro m
  induction m with
  |zero=>intro i p a b;omega
  | succ m f=>
   intro i p a b o c;rw [rB.eq_2];by_cases e:i<l.length
   ·have hdrop:l.drop i=l[i]::l.drop (i+1):=Wn e;rw [bG W,ct];unfold yX;by_cases j:i=n
    ·subst j;rw [VQ rfl,nt,cf,r64 W W];refine f (i+1) p W W W ?_;rw [if_neg W];rw [if_pos (Xm _),Xr,hdrop,List.eraseIdx_cons_zero] at c;exact c
    rw [VR W,nf,ct,bz e,bs,ce (by rw [WU];omega),r64 W W];refine f (i+1) (p++ [l[i]]) W W (by rw [XI,WU];omega) ?_;by_cases d:i<=n
    ·rw [if_pos W];rw [if_pos d,hdrop,show n - i=(n - (i+1))+1 by omega,List.eraseIdx_cons_succ] at c;rw [VT];exact c
    rw [if_neg W];rw [if_neg d,hdrop] at c;rw [VT];exact c
   rw [bI W,cf];unfold Ee
   have hi:i=l.length:=by omega
   rw [if_neg W,hi,List.drop_length,Wj] at c;rw [c]
 refine key N 0 [] W W (Xm _) ?_;rw [if_pos (Xt _),XN,Ws,Nat.sub_zero]
end
end
section
open Go.RowKit
set_option maxRecDepth 20000
theorem Nz {l:List α}{n:Nat}{a:α}(h:l[n]? =some a):l.set n a=l:=by
 apply Wu;intro j;by_cases e:n=j
 ·subst e;rw [WK (WH.1 h).1,h]
 rw [WJ e]
structure RowOk (l:List VN):Prop where
 nd:(l.map (·.XZ)).Nodup
 at_: ∀p∈l,(0<=p.XT/\p.XT<=15)/\Nrm p
theorem TT: ∀n:_root_.Fin 16,in64 ((n.val:Int).tdiv 4)/\decide (((n.val:Int).tdiv 4).tmod 2=0)=decide (aM .i64 (n.val:Int) 4=0):=by decide+kernel
theorem aax {a:Int}(h:0<=a/\a<=15):in64 (a.tdiv 4)/\decide ((a.tdiv 4).tmod 2=0)=decide (aM .i64 a 4=0):=by
 have:=TT ⟨a.toNat,by omega⟩;simp only [Wh h.1] at this;exact this
section
variable {N:Nat}(a:20000<=N){l:List VB}(e:l.length<=10)(A:l[o]? =some m)(hm:m.Row.length<1000)(ok:RowOk m.Row){n:Nat}{x:Vx}(u:OpOk n x)(q:x.O=(o:Int))
include a e A hm ok u q
theorem MJ (H:x.no≠2):oA N l x=some (l.set o ⟨m.Yt,(fT N m.Row m.Ext x.no x.K x.D x.V x.XT).2.2,(fT N m.Row m.Ext x.no x.K x.D x.V x.XT).2.1⟩,(fT N m.Row m.Ext x.no x.K x.D x.V x.XT).1):=by
 have F:=(WH.1 A).1
 have O:ak (([]:List VB)++l) x.O=some m:=by rw [q];exact (bz F).trans (congrArg some (WH.1 A).2)
 have hsame:l.set o ⟨m.Yt,m.Ext,m.Row⟩=l:=Nz A;have E:og N x.K=some (fI N x.K):=(MZ N a x.K).trans (BY W x.K)
 have j:x.O.toNat=o:=by rw [q,Wg]
 unfold oA;rw [ce (by unfold bC;simp only [WS];omega),O,bs,j,XN];rcases FV (PL:=m.Row) (k:=x.K) with ⟨i,p,f,D,P⟩|d
 ·have hi:=(WH.1 f).1;have t:ak m.Row (i:Int)=some p:=(bz hi).trans (congrArg some (WH.1 f).2)
  have hown:bZ m.Row x.K=(p,true):=by rw [<-D];exact wi ok.nd f
  obtain ⟨pa,pn⟩:=ok.at_ p (W4 f);rw [F9 a W f D P,bs];unfold fT;rw [hown]
  cases T:decide (x.no=0) with
  | true=>
   rw [ct,cond_true,E,bs]
   cases fI N x.K with
   |false=>
    rw [nf,ct,bs,ct,cond_false];exact congrArg some (Prod.ext hsame.symm J)
   | true=>
    rw [nt,cf,VR (show¬((i:Nat):Int)<0 by omega),cf,bs,bs,cf,VQ (show 0<=((i:Nat):Int) by omega),ct,t,bs,cond_true];unfold vl;show Option.bind (sc N p (decide (0<=((i:Nat):Int))) m.Ext x.K x.D) _=_;rw [VQ (show 0<=((i:Nat):Int) by omega),Nb N x.K pa pn u.d,Gh N x.K pa u.d,bs]
    have n:(dh p true m.Ext x.K x.D).2=true->(dh p true m.Ext x.K x.D).1.XZ=x.K:=fun h=>by
     unfold dh at h⊢
     cases e:(!sB p.XT 4&&mf p x.D (decide (x.D.Yc=p.Yc)) (decide (x.D.Yd=p.Yd)) (decide (x.D.Value=p.Value))) with
     |true=>rw [e] at h;cases h
     |false=>rfl
    show (bif !(dh p true m.Ext x.K x.D).2 then _ else _)=some (l.set o ⟨m.Yt,m.Ext,bif (dh p true m.Ext x.K x.D).2 then eV m.Row (dh p true m.Ext x.K x.D).1 else m.Row⟩,(dh p true m.Ext x.K x.D).2);generalize dh p true m.Ext x.K x.D=z at n
    cases ez:z.2 with
    |false=>
     rw [nf,ct,cond_false];exact congrArg some (Prod.ext hsame.symm J)
    |true=>
     rw [nt,cf,MX a W hi,bs,cond_true,F2 ok.nd f (by rw [n ez,D]),j];rfl
  | false=>
   rw [cf,cond_false]
   cases S:decide (x.no=1) with
   | true=>
    obtain ⟨L,K⟩:=aax pa;rw [ct,cond_true,VR (show¬((i:Nat):Int)<0 by omega),cf,t,bs,ce L,K,cond_true]
    cases decide (aM .i64 p.XT 4=0) with
    |true=>
     rw [ct,cond_true];exact congrArg some (Prod.ext hsame.symm J)
    |false=>
     rw [cf,SG a W hi,bs,cond_false,Gl ok.nd f D]
   | false=>
    rw [cf,cond_false,VR H,cf]
    cases R:decide (x.no=3) with
    |true=>rfl
    | false=>
     rw [cf,cond_false]
     cases Q:decide (x.no=4) with
     |false=>
      show some (l,false)=some (l.set o ⟨m.Yt,m.Ext,m.Row⟩,false);rw [hsame]
     | true=>
      rw [ct,cond_true,E,bs];by_cases B:fI N x.K=true/\0<=x.XT/\x.XT<=7
      ·obtain ⟨r1,a1,a2⟩:=B;rw [r1,nt,cf,VR (show¬x.XT<0 by omega),bs,cf,VR (show¬7<x.XT by omega),bs,cf,VR (show¬((i:Nat):Int)<0 by omega),cf,bs,bs,cf,VQ a1,VQ a2,Bool.and_true,Bool.and_true,cond_true];rw [MX a W hi,bs];have:=F2 (p:=⟨x.K,x.XT,x.V,v0,v0⟩) ok.nd f D;rw [this];rfl
      have c:(fI N x.K&&(decide (0<=x.XT)&&decide (x.XT<=7)))=false:=by
       rw [Bool.eq_false_iff];intro c;rw [XM,XM,XE,XE] at c;exact B c
      rw [c,cond_false];refine Eq.trans ?_ (show some (l,false)=some (l.set o ⟨m.Yt,m.Ext,m.Row⟩,false) by rw [hsame])
      cases r1:fI N x.K with
      |false=>rfl
      | true=>
       rw [r1,Wb] at c;rw [nt,cf];by_cases C:x.XT<0
       ·rw [VQ C];rfl
       have:7<x.XT:=by
        rw [VQ (show 0<=x.XT by omega),Wb,XD] at c;omega
       rw [VR C,bs,cf,VQ this];rfl
 have hown:bZ m.Row x.K=(zeroP,false):=wk d;have hlen:decide ((1024:Int)<=(m.Row.length:Int))=false:=VR W;rw [Gd a W d,bs];unfold fT;rw [hown]
 cases T:decide (x.no=0) with
 | true=>
  rw [ct,cond_true,E,bs]
  cases fI N x.K with
  |false=>
   rw [nf,ct,bs,ct,cond_false];exact congrArg some (Prod.ext hsame.symm J)
  | true=>
   rw [nt,cf,VQ (show (-1:Int)<0 by omega),ct,hlen,bs,bs,cf,VR (show¬(0:Int)<= -1 by omega),cf,cond_true];unfold vl;show Option.bind (sc N zeroP (decide ((0:Int)<= -1)) m.Ext x.K x.D) _=_;have za:0<=zeroP.XT/\zeroP.XT<=15:=⟨by decide,by decide⟩;have zn:Nrm zeroP:=⟨fun _=>⟨rfl,rfl⟩,fun _=>rfl⟩;rw [VR (show¬(0:Int)<= -1 by omega),Nb N x.K za zn u.d,Gh N x.K za u.d,bs]
   have n:(dh zeroP false m.Ext x.K x.D).2=true->(dh zeroP false m.Ext x.K x.D).1.XZ=x.K:=fun h=>by
    unfold dh at h⊢
    cases e:m.Ext with
    |false=>rw [e] at h;cases h
    |true=>rfl
   show (bif !(dh zeroP false m.Ext x.K x.D).2 then _ else _)=some (l.set o ⟨m.Yt,m.Ext,bif (dh zeroP false m.Ext x.K x.D).2 then eV m.Row (dh zeroP false m.Ext x.K x.D).1 else m.Row⟩,(dh zeroP false m.Ext x.K x.D).2);generalize dh zeroP false m.Ext x.K x.D=z at n
   cases ez:z.2 with
   |false=>
    rw [nf,ct,cond_false];exact congrArg some (Prod.ext hsame.symm J)
   |true=>
    rw [nt,cf,MO a W,bs,cond_true,Gb fun y M=>(by rw [n ez];exact d y M),j];rfl
 | false=>
  rw [cf,cond_false]
  cases S:decide (x.no=1) with
  |true=>
   rw [ct,cond_true,VQ (show (-1:Int)<0 by omega),ct,cond_false];exact congrArg some (Prod.ext hsame.symm J)
  | false=>
   rw [cf,cond_false,VR H,cf]
   cases R:decide (x.no=3) with
   |true=>rfl
   | false=>
    rw [cf,cond_false]
    cases Q:decide (x.no=4) with
    |false=>
     show some (l,false)=some (l.set o ⟨m.Yt,m.Ext,m.Row⟩,false);rw [hsame]
    | true=>
     rw [ct,cond_true,E,bs];by_cases B:fI N x.K=true/\0<=x.XT/\x.XT<=7
     ·obtain ⟨r1,a1,a2⟩:=B;rw [r1,nt,cf,VR (show¬x.XT<0 by omega),bs,cf,VR (show¬7<x.XT by omega),bs,cf,VQ (show (-1:Int)<0 by omega),ct,hlen,bs,bs,cf,VQ a1,VQ a2,Bool.and_true,Bool.and_true,cond_true];rw [MO a W,bs];have:=Gb (p:=⟨x.K,x.XT,x.V,v0,v0⟩) (PL:=m.Row) d;rw [this];rfl
     have c:(fI N x.K&&(decide (0<=x.XT)&&decide (x.XT<=7)))=false:=by
      rw [Bool.eq_false_iff];intro c;rw [XM,XM,XE,XE] at c;exact B c
     rw [c,cond_false];refine Eq.trans ?_ (show some (l,false)=some (l.set o ⟨m.Yt,m.Ext,m.Row⟩,false) by rw [hsame])
     cases r1:fI N x.K with
     |false=>rfl
     | true=>
      rw [r1,Wb] at c;rw [nt,cf];by_cases C:x.XT<0
      ·rw [VQ C];rfl
      have:7<x.XT:=by
       rw [VQ (show 0<=x.XT by omega),Wb,XD] at c;omega
      rw [VR C,bs,cf,VQ this];rfl
end
end
section
open Go.RowKit
set_option maxRecDepth 20000
theorem aaB {n:Nat}{A:Nat->Int}(c:∀j,j<n->A j∈g)(d:-1<=t/\t<n):bd ρ g (cQ A t)=cQ (fun j=>ρ (A j)) t:=by
 by_cases a:t<0
 ·rw [kS a,kS a];exact Gz J
 rw [ji W,ji W];exact jF J (c _ W)
theorem Prs.mv {n:Nat}{A:Nat->Int}{c:Nat->VL}(h:Prs n A C f)(e:∀j,j<n->A j∈g)(d:∀j,j<n->(c j).XQ=(C j).XQ.map (bd ρ g)):Prs n (fun j=>ρ (A j)) c f:=⟨fun j a=>by rw [d j a,WI,h.at_ j a];exact congrArg some (aaB e (h.rng j a)),h.rng,h.ends⟩
theorem Prs.upd {n:Nat}{A:Nat->Int}(h:Prs n A C f)(a:c'.XQ[0]? =(C j).XQ[0]?):Prs n A (eJ C j c') f:=⟨fun m hm=>by
 by_cases e:m=j
 ·rw [e,jG,a];exact h.at_ j (e▸hm)
 ·rw [jf _ _ e];exact h.at_ m hm,h.rng,h.ends⟩
set_option maxRecDepth 20000
def fM (l:List VB):Int->Int:=fun x=>if 0<=x then (match l[x.toNat]? with
 |some m=>m.Yt
 |none=> -1) else -1
theorem wH {l:List VB}(h:l[j]? =some m):fM l (j:Int)=m.Yt:=by
 unfold fM;rw [if_pos W,Wg,h]
theorem GO {l:List VB}{x:Int}(h:x<0\/(l.length:Int)<=x):fM l x= -1:=by
 unfold fM;split
 ·rw [WG W]
 rfl
theorem NQ {l:List VB}{m':VB}(h:l[o]? =some m):fM (l.set o m')=fun x=>if x=(o:Int) then m'.Yt else fM l x:=by
 have c:=(WH.1 h).1;funext x;by_cases e:x=(o:Int)
 ·rw [if_pos e,e];exact wH (WK c)
 rw [if_neg e];unfold fM;by_cases a:0<=x
 ·rw [if_pos a,if_pos a,WJ W]
 rw [if_neg a,if_neg a]
theorem aaC {l:List VB}{m':VB}(h:l[o]? =some m)(a:m'.Yt=m.Yt):fM (l.set o m')=fM l:=by
 rw [NQ h];funext x;split
 ·rename_i e
  rw [e,wH h,a]
 rfl
def f4 (a b c d:Int):Int->Int:=fun x=>if x=0 then a else if x=1 then b else if x=2 then c else if x=3 then d else -1
theorem Of (h:∀x,x<0\/4<=x->f x= -1):f=f4 (f 0) (f 1) (f 2) (f 3):=by
 funext x;unfold f4;split
 ·rename_i e;rw [e]
 split
 ·rename_i e;rw [e]
 split
 ·rename_i e;rw [e]
 split
 ·rename_i e;rw [e]
 exact h x W
def oX (f:Int->Int):Bool:=fd f 4 0&&(fd f 4 1&&(fd f 4 2&&fd f 4 3))
theorem aap: ∀a b c d t:_root_.Fin 5, ∀o:_root_.Fin 4,oX (f4 ((a.val:Int) - 1) ((b.val:Int) - 1) ((c.val:Int) - 1) ((d.val:Int) - 1))=true->fP (f4 ((a.val:Int) - 1) ((b.val:Int) - 1) ((c.val:Int) - 1) ((d.val:Int) - 1)) 5 (o.val:Int) ((t.val:Int) - 1)=false->
  oX (f4 (if o.val=0 then (t.val:Int) - 1 else (a.val:Int) - 1) (if o.val=1 then (t.val:Int) - 1 else (b.val:Int) - 1) (if o.val=2 then (t.val:Int) - 1 else (c.val:Int) - 1) (if o.val=3 then (t.val:Int) - 1 else (d.val:Int) - 1))=true:=by decide+kernel
theorem adh (h:∀x,x<0\/4<=x->f x= -1)(hr:∀x, -1<=f x/\f x<4)(i:oX f=true)(c:o<4)(j:-1<=t/\t<4)(d:fP f 5 (o:Int) t=false):oX (fun x=>if x=(o:Int) then t else f x)=true:=by
 have p:=hr 0;have n:=hr 1;have m:=hr 2;have l:=hr 3;have:=aap ⟨(f 0+1).toNat,by omega⟩ ⟨(f 1+1).toNat,by omega⟩ ⟨(f 2+1).toNat,by omega⟩ ⟨(f 3+1).toNat,by omega⟩ ⟨(t+1).toNat,by omega⟩ ⟨o,c⟩;simp only [show (((f 0+1).toNat:Nat):Int) - 1=f 0 by omega,show (((f 1+1).toNat:Nat):Int) - 1=f 1 by omega,show (((f 2+1).toNat:Nat):Int) - 1=f 2 by omega,show (((f 3+1).toNat:Nat):Int) - 1=f 3 by omega,show (((t+1).toNat:Nat):Int) - 1=t by omega] at this;rw [<-Of h] at this;have r:=this i d
 have e:(fun x=>if x=(o:Int) then t else f x)=f4 (if o=0 then t else f 0) (if o=1 then t else f 1) (if o=2 then t else f 2) (if o=3 then t else f 3):=by
  rw [Of (f:=fun x=>if x=(o:Int) then t else f x) fun x a=>by
   show (if x=(o:Int) then t else f x)= -1
   rw [if_neg W];exact h x a]
  have q: ∀k:Nat,(if ((k:Nat):Int)=(o:Int) then t else f k)=if o=k then t else f k:=fun k=>by
   by_cases e:o=k
   ·rw [if_pos e,if_pos W]
   rw [if_neg e,if_neg W]
  show f4 (if ((0:Nat):Int)=(o:Int) then t else f (0:Nat)) (if ((1:Nat):Int)=(o:Int) then t else f (1:Nat)) (if ((2:Nat):Int)=(o:Int) then t else f (2:Nat)) (if ((3:Nat):Int)=(o:Int) then t else f (3:Nat))=_;rw [q 0,q 1,q 2,q 3];rfl
 rw [e];exact r
theorem abD (h:oX f=true)(a:j<4):fd f 4 (j:Int)=true:=by
 unfold oX at h;simp only [XM] at h;rcases (show j=0\/j=1\/j=2\/j=3 by omega) with rfl|rfl|rfl|rfl
 ·exact h.1
 ·exact h.2.1
 ·exact h.2.2.1
 exact h.2.2.2
theorem Gp {n:Nat}{A:Nat->Int}(d:∀j,j<n->A j∈g)(c:VOk n v):bd ρ g (bm A v)=bm (fun j=>ρ (A j)) v:=by
 by_cases a:v.no=7
 ·obtain ⟨-,f,e⟩:=c.ref a;rw [kU a,kU a];exact jF J (d _ W)
 rw [kT a,kT a];refine Gz ?_;have:=c.kd;unfold aZ;rw [VR a,Bool.false_or];exact VR W
structure Sr (N n b:Nat) (w:VK) (A:Nat->Int) (C:Nat->VL) (P:Nat->List VN) (l:List VB):Prop where
 st:St N n b w A C P
 len:l.length=n
 row: ∀(j:Nat) m,l[j]? =some m->P j=gh (bm A) m.Row/\(∀p∈m.Row,iN n p)/\dP (C j)=m.Ext
 pr:Prs n A C (fM l)
theorem Sr.rowOk {N n b:Nat}{w:VK}{A:Nat->Int}{P:Nat->List VN}{l:List VB}(h:Sr N n b w A C P l)(t:l[j]? =some m):RowOk m.Row/\m.Row.length<=b:=by
 have B:=(WH.1 t).1;have E:=h.len;obtain ⟨e,pk, -⟩:=h.row j m t;have ob:=h.st.ob.ob j W;have d:=h.st.len j W;rw [e] at ob d;unfold gh at ob d;refine ⟨⟨?_,fun p z=> ?_⟩,by rwa [XK] at d⟩
 ·have:=ob.nodup;rw [List.map_map] at this;exact this
 have hm:=List.mem_map_of_mem (f:=dl (bm A)) z;have q:=(ob.key hm).2;have u:=(ob.propW hm).2;refine ⟨⟨q.1,q.2.1⟩,fun o=> ?_,fun o=> ?_⟩
 ·obtain ⟨a,D⟩:=u.d o
  have back: ∀v:VH,bm A v=v0->v=v0:=fun v e=>by
   have c:v.no≠7:=fun i=>by
    rw [kU i] at e;cases congrArg VH.no e
   rwa [kT c] at e
  exact ⟨back _ a,back _ D⟩
 have a:=u.a o
 have c:p.Value.no≠7:=fun i=>by
  have a:bm A p.Value=v0:=a;rw [kU i] at a;cases congrArg VH.no a
 have a:bm A p.Value=v0:=a
 rwa [kT c] at a
theorem Sr.rng {N n b:Nat}{w:VK}{A:Nat->Int}{P:Nat->List VN}{l:List VB}(h:Sr N n b w A C P l)(c:n<=4):(∀x,x<0\/4<=x->fM l x= -1)/\(∀x, -1<=fM l x/\fM l x<4)/\oX (fM l)=true:=by
 have d:=h.len
 have key: ∀x:Int, -1<=fM l x/\fM l x<4:=fun x=>by
  by_cases a:x<0\/(l.length:Int)<=x
  ·rw [GO a];omega
  have:=h.pr.rng x.toNat W;rw [Wh W] at this;omega
 have hend: ∀j:Nat,j<4->fd (fM l) 4 (j:Int)=true:=fun j f=>by
  by_cases a:j<n
  ·exact h.pr.ends j a
  have e:fM l (j:Int)= -1:=GO (.inr W);unfold fd;rw [VR W,cond_false,e];rfl
 refine ⟨fun x a=>GO W,key,?_⟩;unfold oX;rw [show fd (fM l) 4 0=true from hend 0 W,show fd (fM l) 4 1=true from hend 1 W,show fd (fM l) 4 2=true from hend 2 W,show fd (fM l) 4 3=true from hend 3 W];rfl
set_option maxRecDepth 20000
theorem NV {N:Nat}{l:List VB}(hr:∀j:Nat,j<l.length-> -1<=fM l (j:Int)/\fM l (j:Int)<l.length): ∀(m k:Nat) (p:Int),k<m-> -1<=p/\p<l.length->fd (fM l) k p=true->Ah N (o:Int) l m p=some (fP (fM l) (k+1) (o:Int) p)
 |0,k,p,i,_,_=>by omega
 | m+1,k,p,i,u,f=>by
  rw [Ah.eq_2];by_cases d:p<0
  ·rw [VR W,cf];unfold E0 fP;rw [VQ d];rfl
  rw [VQ W,ct];unfold fP;rw [VR d,cond_false];by_cases e:p=(o:Int)
  ·rw [VQ e,ct,cond_true]
  obtain ⟨k,rfl⟩: ∃q,k=q+1:=⟨k - 1,by
    cases k with
    |zero=>exact absurd (XG f) d
    |succ k=>rfl⟩
  have a:p.toNat<l.length:=by omega
  have n:ak l p=some l[p.toNat]:=by
   have:=bz a
   rwa [Wh W] at this
  have t:fM l p=l[p.toNat].Yt:=by
   have:=wH (WF a)
   rwa [Wh W] at this
  have c:=hr p.toNat a;rw [Wh W] at c;rw [VR e,cf,cond_false,n,bs, <-t];exact NV hr m k (fM l p) W c (KG W f)
section
variable {N n b:Nat}(q:20000<=N)(u:n<=4)(hb:b<=110){w:VK}{A:Nat->Int}{P:Nat->List VN}{l:List VB}(h:Sr N n b w A C P l){x:Vx}(a:OpOk n x)
include q u hb h a
def wV (N n b:Nat)(l:List VB)(x:Vx)(r:Bool×VK):Prop:= ∃a e d c,oA N l x=some (a,r.1)/\Sr N n (b+1) r.2 e d c a
theorem SS (k2:x.no≠2)(B:x.no≠5):Sat (lR N w 20 x) (wV N n b l x):=by
 have hlen:=h.len;have t:=a.o
 have d:x.O.toNat<l.length:=by omega
 have c:x.O=(x.O.toNat:Int):=(Wh t.1).symm;have f:l[x.O.toNat]? =some l[x.O.toNat]:=WF d;generalize l[x.O.toNat]=m at f;generalize x.O.toNat=o at d c f;obtain ⟨H,z,F⟩:=h.row o m f;obtain ⟨r1,L⟩:=h.rowOk f;have u:xb n x.D:=⟨a.dv,a.dg,a.ds⟩
 refine (adj q W W h.st a k2 B c).mono fun r hr=> ?_
 rw [H,F,aaz h.st.inj N z u] at hr;obtain ⟨C,c',st',E,M,D, -⟩:=hr;have i:=MJ q W f W r1 a c k2;rw [<-show r.1=(fT N m.Row m.Ext x.no x.K x.D x.V x.XT).1 from C] at i;refine ⟨_,A,_,_,i,⟨st',by rw [WT];exact hlen,fun j m' p=> ?_,?_⟩⟩
 ·by_cases e:j=o
  ·subst e;rw [WK d] at p;obtain rfl:=bn p;rw [jG,jG];exact ⟨J,aa8 N z u a.v _ _ _ _,E⟩
  rw [WJ (fun K=>e K.symm)] at p;rw [jf _ _ e,jf _ _ e];exact h.row j m' p
 rw [aaC (m':=⟨m.Yt,(fT N m.Row m.Ext x.no x.K x.D x.V x.XT).2.2,(fT N m.Row m.Ext x.no x.K x.D x.V x.XT).2.1⟩) f rfl];exact h.pr.upd D
theorem aaf (B:x.no=5):Sat (lR N w 20 x) (wV N n b l x):=by
 have hlen:=h.len;have u:=a.o
 have i:x.O.toNat<l.length:=by omega
 have d:x.O=(x.O.toNat:Int):=(Wh u.1).symm;have f:l[x.O.toNat]? =some l[x.O.toNat]:=WF i;generalize l[x.O.toNat]=m at f;generalize x.O.toNat=o at i d f;obtain ⟨r1,S⟩:=h.rowOk f;have e:=MJ q W f W r1 a d W
 have ed:fT N m.Row m.Ext x.no x.K x.D x.V x.XT=(false,m.Row,m.Ext):=by
  unfold fT;rw [B];rfl
 rw [ed] at e;have hsame:l.set o ⟨m.Yt,m.Ext,m.Row⟩=l:=Nz f;rw [show (⟨m.Yt,(false,m.Row,m.Ext).2.2,(false,m.Row,m.Ext).2.1⟩:VB)=⟨m.Yt,m.Ext,m.Row⟩ from rfl,hsame] at e
 have z:jW N w (20+x.O)=some ⟨7,A o,⟨#[]⟩⟩:=by rw [d];exact h.st.at_ W
 unfold lR;rw [ce (by constructor<;>omega),z,bs,h.st.to_ W a.dv,bs,h.st.to_ W a.dg,bs,h.st.to_ W a.ds,bs,VR (show¬x.no=0 by omega),cf,VR (show¬x.no=1 by omega),cf,VR (show¬x.no=2 by omega),cf,VR (show¬x.no=3 by omega),cf,VR (show¬x.no=4 by omega),cf,VQ B,ct];obtain ⟨w',ρ,g,Q,D,R,st',tA, -,tC⟩:=h.st.tick q W W;rw [D,bs];unfold pT;refine ar ⟨l,_,Q,_,e,⟨st',hlen,fun j m' t=> ?_,h.pr.mv tA fun j t=> ?_⟩⟩
 ·have L:=(WH.1 t).1;obtain ⟨O,C,M⟩:=h.row j m' t;obtain ⟨age,c⟩:=tC j W;refine ⟨?_,C,?_⟩
  ·show (P j).map (oT ρ g)=_;rw [O];unfold gh;rw [List.map_map]
   refine List.map_congr_left fun p K=> ?_
   obtain ⟨H,F,E⟩:=C p K;show (⟨p.XZ,p.XT,bd ρ g (bm A p.Value),bd ρ g (bm A p.Yc),bd ρ g (bm A p.Yd)⟩:VN)=_;rw [Gp tA H,Gp tA F,Gp tA E];rfl
  rw [c];exact M
 obtain ⟨age,c⟩:=tC j t;rw [c]
theorem Tj (k2:x.no=2):Sat (lR N w 20 x) (wV N n b l x):=by
 have hlen:=h.len;have H:=a.o;have L:=a.p
 have f:x.O.toNat<l.length:=by omega
 have d:x.O=(x.O.toNat:Int):=(Wh H.1).symm;have D:l[x.O.toNat]? =some l[x.O.toNat]:=WF f;generalize l[x.O.toNat]=m at D;generalize x.O.toNat=o at f d D;obtain ⟨e1,e2,T⟩:=h.row o m D;obtain ⟨r1,r2⟩:=h.rowOk D;obtain ⟨g1,g2,g3⟩:=h.rng u;have Q:fM l (o:Int)=m.Yt:=wH D
 have Z:ak (([]:List VB)++l) x.O=some m:=by rw [d];exact (bz f).trans (congrArg some (WH.1 D).2)
 have K:x.O.toNat=o:=by rw [d,Wg]
 have hring:E5 N l x.O x.P=some (fP (fM l) 5 (o:Int) x.P):=by
  rw [d]
  have he:fd (fM l) 4 x.P=true:=by
   by_cases h0:x.P<0
   ·unfold fd;rw [VQ h0];rfl
   have:=h.pr.ends x.P.toNat W
   rwa [Wh W] at this
  exact NV (fun j c=>by have:=h.pr.rng j W;omega) N 4 x.P W W he
 have hfind: ∃y,si N m.Row x.K=some y:=by
  rcases FV (PL:=m.Row) (k:=x.K) with ⟨i,p,f1,f2,f3⟩|M
  ·exact ⟨_,F9 q W f1 f2 f3⟩
  exact ⟨_,Gd q W M⟩
 obtain ⟨y,V⟩:=hfind
 have z:oA N l x=bif decide (m.Yt=x.P) then some (l,true) else bif !m.Ext||fP (fM l) 5 (o:Int) x.P then some (l,false) else some (l.set o ⟨x.P,m.Ext,m.Row⟩,true):=by
  unfold oA;rw [ce (by unfold bC;simp only [WS];omega),Z,bs,V,bs,VR (show¬x.no=0 by omega),cf,VR (show¬x.no=1 by omega),cf,VQ k2,ct,hring,bs,K,XN]
  cases decide (m.Yt=x.P) with
  |true=>rfl
  |false=>cases m.Ext<;>cases fP (fM l) 5 (o:Int) x.P<;>rfl
 have R:jW N w (20+x.O)=some ⟨7,A o,⟨#[]⟩⟩:=by rw [d];exact h.st.at_ W
 unfold lR;rw [ce (by constructor<;>omega),R,bs,h.st.to_ W a.dv,bs,h.st.to_ W a.dg,bs,h.st.to_ W a.ds,bs,VR (show¬x.no=0 by omega),cf,VR (show¬x.no=1 by omega),cf,VQ k2,ct,h.st.proto_ W L,bs]
 have stay: ∀t:Bool,oA N l x=some (l,t)->wV N n b l x (t,w):=fun t e=>⟨l,A,C,P,e,⟨h.st.stay,hlen,h.row,h.pr⟩⟩
 refine (Sg q W W h.st h.pr (j:=o) W L).bind fun r hr=>ar ?_
 rw [Q,T] at hr;rcases hr with ⟨B,rfl⟩|⟨B,E,rfl⟩|⟨B,E,F,rfl⟩|⟨B,E,F,q4,U, -,C',st',X,hm⟩
 ·exact stay true (by rw [z,VQ B];rfl)
 ·exact stay false (by rw [z,VR B,E];rfl)
 ·exact stay false (by rw [z,VR B,E,F];rfl)
 refine ⟨l.set o ⟨x.P,m.Ext,m.Row⟩,A,C',P,?_,⟨st',by rw [WT];exact hlen,fun j m' c=> ?_,?_⟩⟩
 ·rw [z,VR B,E,F,U];rfl
 ·have O:j<n:=by
   have:=(WH.1 c).1;rw [WT] at this;omega
  obtain ⟨S, -, -, -⟩:=hm j O;by_cases e:j=o
  ·subst e;rw [WK f] at c;obtain rfl:=bn c;exact ⟨e1,e2,S.trans T⟩
  rw [WJ (fun e'=>e e'.symm)] at c;obtain ⟨d1,d2,d3⟩:=h.row j m' c;exact ⟨d1,d2,S.trans d3⟩
 rw [NQ D];have hend:=adh g1 g2 g3 (o:=o) W (t:=x.P) W F;refine ⟨fun j c=> ?_,fun j c=> ?_,fun j c=>abD hend W⟩
 ·by_cases e:j=o
  ·subst e;show _=some (cQ A (if (j:Int)=(j:Int) then x.P else _));rw [if_pos rfl];exact X
  show _=some (cQ A (if (j:Int)=(o:Int) then x.P else _));rw [if_neg W,(hm j c).2.2.1 e];exact h.pr.at_ j c
 show -1<=(if (j:Int)=(o:Int) then x.P else _)/\(if (j:Int)=(o:Int) then x.P else _)<(n:Int);split
 ·exact L
 exact h.pr.rng j c
theorem ac8:Sat (lR N w 20 x) (wV N n b l x):=by
 by_cases k2:x.no=2
 ·exact Tj q u hb h a k2
 by_cases c:x.no=5
 ·exact aaf q u hb h a c
 exact SS q u hb h a k2 c
end
end
section
open Go.RowKit
def rk (k:Vy):Int:=if k.no=0 then k.N else 8589934592*k.no
structure RKey (k:Vy):Prop where
 kd:0<=k.no/\k.no<=2
 n:k.no=0->0<=k.N/\k.N<=4294967294
def SoK (l:List Vy):Prop:=l.Pairwise (fun a b=>rk a<=rk b)
def EvK (l z:List Vy):Prop:= ∀r:Int,l.filter (fun x=>decide (rk x=r))=z.filter (fun x=>decide (rk x=r))
theorem EvK.refl (l:List Vy):EvK l l:=fun _=>rfl
theorem EvK.symm {l z:List Vy}(h:EvK l z):EvK z l:=fun r=>(h r).symm
theorem EvK.trans {l y z:List Vy}(h:EvK l y)(a:EvK y z):EvK l z:=fun r=>(h r).trans (a r)
theorem EvK.app {a b c d:List Vy}(h:EvK a b)(e:EvK c d):EvK (a++c) (b++d):=fun r=>by
 rw [Wv,Wv,h r,e r]
theorem Lf {l:List Vy}{r:Int}(h:∀x∈l,rk x≠r):l.filter (fun x=>decide (rk x=r))=[]:=by
 rw [List.filter_eq_nil_iff];intro x a e;exact h x a (XG e)
theorem EvK.swap {U V:List Vy}(h:∀x∈U, ∀y∈V,rk x≠rk y):EvK (U++V) (V++U):=fun r=>by
 rw [Wv,Wv];by_cases e: ∃x∈U,rk x=r
 ·obtain ⟨x,a,rfl⟩:=e;rw [Lf (l:=V) fun y c e=>h x a y c e.symm,Wj,XN]
 rw [Lf (l:=U) fun x a d=>e ⟨x,a,d⟩,Wj,XN]
theorem EvK.perm {l z:List Vy}(h:EvK l z):l.Perm z:=by
 rw [List.perm_iff_count];intro x
 have e: ∀l:List Vy,l.count x=(l.filter (fun y=>decide (rk y=rk x))).count x:=fun l=>by
  rw [List.count_filter (by simp)]
 rw [e l,e z,h]
theorem EvK.len {l z:List Vy}(h:EvK l z):l.length=z.length:=h.perm.length_eq
theorem EvK.mem {l z:List Vy}(h:EvK l z){x:Vy}:x∈l↔x∈z:=h.perm.mem_iff
theorem SoK.uniq: ∀{l z:List Vy},SoK l->SoK z->EvK l z->l=z
 | [],z,_,_,h=>by
  have:=h.len;exact (List.length_eq_zero_iff.1 this.symm).symm
 |a::l,[],_,_,h=>by
  have:=h.len;cases this
 | a::l,b::z,p,o,h=>by
  obtain ⟨n,m⟩:=Xa.1 p;obtain ⟨j,i⟩:=Xa.1 o
  have t:rk a=rk b:=by
   have d:a∈b::z:=h.mem.1 (List.mem_cons_self ..);have c:b∈a::l:=h.mem.2 (List.mem_cons_self ..);rcases WZ.1 d with rfl|d
   ·rfl
   rcases WZ.1 c with rfl|c
   ·rfl
   have:=n b c;have:=j a d;omega
  have f:=h (rk a);rw [List.filter_cons_of_pos (by simp),List.filter_cons_of_pos (by simp [t])] at f;obtain ⟨rfl,q⟩:=Wk f;refine congrArg (a:: ·) (SoK.uniq m i fun r=> ?_);by_cases e:rk a=r
  ·subst e;exact q
  have:=h r
  rwa [List.filter_cons_of_neg (by simpa using e),List.filter_cons_of_neg (by simpa using e)] at this
theorem SoK.app {a b:List Vy}(d:SoK a)(c:SoK b)(h:∀x∈a, ∀y∈b,rk x<=rk y):SoK (a++b):=List.pairwise_append.2 ⟨d,c,h⟩
theorem SoK.parts {a b:List Vy}(h:SoK (a++b)):SoK a/\SoK b/\ ∀x∈a, ∀y∈b,rk x<=rk y:=List.pairwise_append.1 h
theorem SoK.nil:SoK []:=List.Pairwise.nil
theorem SoK.one (x:Vy):SoK [x]:=List.pairwise_singleton ..
theorem NW (N:Nat)(a b:Int): ∃z,uT N a b=some z/\(z<0↔a<b):=by
 unfold uT pO;rw [bs,bs,VQ rfl,VQ rfl];simp only [nt,cf];by_cases h:a<b
 ·rw [VQ h,ct];exact ⟨-1,J,by omega⟩
 rw [VR h,cf];by_cases c:b<a
 ·rw [VQ c,ct];exact ⟨1,J,by omega⟩
 rw [VR c,cf];exact ⟨0,J,by omega⟩
theorem BA (N:Nat){a b:Vy}(c:RKey a)(hb:RKey b):Sat (pP N a b) fun z=>z<0↔rk a<rk b:=by
 obtain ⟨⟨a1,a2⟩,j⟩:=c;obtain ⟨⟨b1,b2⟩,b3⟩:=hb;obtain ⟨z,i,f⟩:=NW N a.N b.N;obtain ⟨y,e,d⟩:=NW N a.no b.no;unfold pP rk;by_cases c:a.no=0
 ·rw [VQ c,ct,bs,if_pos c];have:=j c;by_cases hb:b.no=0
  ·rw [VQ hb,ct,if_pos hb,i,bs];exact ar f
  rw [VR hb,cf,if_neg hb,e,bs];refine ar (d.trans ?_);omega
 rw [VR c,cf,bs,cf,if_neg c,e,bs];refine ar (d.trans ?_);by_cases hb:b.no=0
 ·rw [if_pos hb];have:=b3 hb;omega
 rw [if_neg hb];omega
theorem Cc {l P S:List α}{x:α}(e:l=P++x::S):l[P.length]? =some x:=by
 rw [e,WB (Xm _),Xr];rfl
theorem dZ {ρ:Type}{l P S:List α}{x:α}{i:Int}{f:α->Option ρ}{Q:ρ->Prop}(e:l=P++x::S)(hi:i=(P.length:Int))(k:Sat (f x) Q):Sat ((ak l i).bind f) Q:=by
 subst hi;refine kP W (by rw [e,XI];simp only [WP];omega) fun y a=> ?_
 rw [Wg,Cc e] at a;cases a;exact k
theorem sM {P S:List α}{x y:α}:(P++x::S).set P.length y=P++y::S:=by
 rw [List.set_append_right _ _ (Xm _),Xr];rfl
theorem Hs {l P M S:List α}{x y:α}{i j:Int}(e:l=P++x::(M++y::S))(hi:i=(P.length:Int))(d:j=(P.length:Int)+1+M.length):(l.set i.toNat y).set j.toNat x=P++y::(M++x::S):=by
 subst e hi;rw [Wg,sM]
 have c:P++y::(M++y::S)=(P++y::M)++y::S:=by simp
 have a:j.toNat=(P++y::M).length:=by simp;omega
 rw [c,a,sM];simp
theorem Ot {l P M S:List α}{x y:α}{i j:Int}(e:l=P++x::(M++y::S))(hi:i=(P.length:Int))(a:j=(P.length:Int)+1+M.length):(l.set j.toNat x).set i.toNat y=P++y::(M++x::S):=by
 rw [List.set_comm _ _ W];exact Hs e hi a
theorem JF (N:Nat)(x y k:Int): ∀(m:Nat) (U V P M S l:List Vy) (t:Int),V.length=U.length->U.length<m->x+t=P.length->y+t=P.length+U.length+M.length->k - t=U.length->0<=t->t<=10000->k<=10000->l.length<=10000->l=P++(U++(M++(V++S)))->Sat (tJ N x y k m l t) fun r=>r=P++(V++(M++(U++S)))
 |0,U,V,P,M,S,l,t,d,n,_,_,_,_,_,_,_,_=>by omega
 | m +1,U,V,P,M,S,l,t,d,n,c,p,f,A,z,o,q,a=>by
  rw [tJ.eq_2]
  cases U with
  |nil=>
   cases V with
   |cons v V=>cases d
   |nil=>exact bq (fun h=>by simp only [WS] at f;omega) fun _=>ar a
  | cons u U=>
   cases V with
   |nil=>cases d
   | cons v V=>
    simp only [WP] at d n p f;have hlen:=congrArg List.length a;simp only [XI,WP] at hlen;refine bq (fun h=> ?_) fun h=>by omega
    have ea:l=P++u::((U++M)++v::(V++S)):=by rw [a];simp
    have eb:l=(P++u::(U++M))++v::(V++S):=by rw [a];simp
    have ec:l.set ((x+t).toNat) v=P++v::((U++M)++v::(V++S)):=by
     rw [c,ea,Wg,sM]
    refine bf (by constructor<;>omega) (bf (by constructor<;>omega) (bf (by constructor<;>omega) (dZ eb (by simp only [XI,WP];omega) (bf (by constructor<;>omega) (dZ ea c (dZ ea c ?_))))));refine dZ (l:=l.set ((x+t).toNat) v) (P:=P++v::(U++M)) (x:=v) (S:=V++S) (by rw [ec];simp) (by simp only [XI,WP];omega) (bf (by constructor<;>omega) ?_);have e:=Hs (i:=x+t) (j:=y+t) ea c (by simp only [XI];omega);have hi:=JF N x y k m U V (P++ [v]) (M++ [u]) S (P++v::((U++M)++u::(V++S))) (t+1) W W (by simp only [XI,WP,WS];omega) (by simp only [XI,WP,WS];omega) W W W o (by simp only [XI,WP];omega) (by simp)
    have:Sat (tJ N x y k m ((l.set ((x+t).toNat) v).set ((y+t).toNat) u) (t+1)) fun r=>r=P++((v::V)++(M++((u::U)++S))):=by
     rw [e];exact hi.mono fun r hr=>by rw [hr];simp
    exact this
theorem GJ (N:Nat)(j:20000<=N){U V P M l:List Vy}{x y k:Int}(a:V.length=U.length)(d:x=P.length)(c:y=(P.length:Int)+U.length+M.length)(i:k=U.length)(f:l.length<=6000)(e:l=P++(U++(M++(V++S)))):Sat (tM N l x y k) fun r=>r=P++(V++(M++(U++S))):=by
 have hlen:=congrArg List.length e;simp only [XI] at hlen;exact JF N x y k N U V P M S l 0 a W W W W W W W W e
theorem wD {l:List Vy}(h:j<=l.length): ∃A B,l=A++B/\A.length=j:=⟨l.take j,l.drop j,(Xe j l).symm,by rw [XJ];omega⟩
theorem E6 (N:Nat)(a:20000<=N)(q:Int): ∀(m:Nat) (U V P S l:List Vy) (i j:Int),i=U.length->j=V.length->i+j<m->0<i->0<j->q=(P.length:Int)+U.length->l.length<=6000->l=P++(U++(V++S))->Sat (tS N q m l i j) fun r=>r=P++(V++(U++S))
 |0,U,V,P,S,l,i,j,t,p,E,o,n,_,_,_=>by omega
 | m+1,U,V,P,S,l,i,j,t,p,E,o,n,D,f,c=>by
  have hlen:=congrArg List.length c;simp only [XI] at hlen;rw [tS.eq_2]
  refine BD (fun e=>bq (fun h=> ?_) fun h=> ?_) fun e=> ?_
  ·obtain ⟨C,B,rfl,H⟩:=wD (l:=U) (j:=j.toNat) W;simp only [XI] at t D hlen;refine bf (by constructor<;>omega) ((GJ N a (U:=C) (V:=V) (P:=P) (M:=B) (S:=S) W W W W f (by rw [c];simp)).bind fun r hr=>bf (by constructor<;>omega) ?_);exact (E6 N a q m B C (P++V) S r (i - j) j W W W W n (by simp only [XI];omega) (by rw [hr];simp only [XI];omega) (by rw [hr];simp)).mono fun z d=>by rw [d];simp
  ·have:=XF e;obtain ⟨A,u,rfl,F⟩:=wD (l:=V) (j:=(j - i).toNat) W;simp only [XI] at p hlen;refine bf (by constructor<;>omega) (bf (by constructor<;>omega) (bf (by constructor<;>omega) ((GJ N a (U:=U) (V:=u) (P:=P) (M:=A) (S:=S) W W W W f (by rw [c];simp)).bind fun r hr=>bf (by constructor<;>omega) ?_)))
   exact (E6 N a q m u A P (U++S) r i (j - i) W W W o W W (by rw [hr];simp only [XI];omega) (by rw [hr])).mono fun z d=>by rw [d];simp
  have:=XG e;unfold Db;exact bf (by constructor<;>omega) ((GJ N a (U:=U) (V:=V) (P:=P) (M:=[]) (S:=S) W W (by simp only [WS];omega) W f c).bind fun r hr=>ar (by rw [hr];simp))
theorem acO (N:Nat)(f:20000<=N){U V P l:List Vy}{a q b:Int}(i:a=P.length)(c:q=(P.length:Int)+U.length)(hb:b=(P.length:Int)+U.length+V.length)(m:0<U.length)(j:0<V.length)(d:l.length<=6000)(e:l=P++(U++(V++S))):Sat (xu N l a q b) fun r=>r=P++(V++(U++S)):=by
 have hlen:=congrArg List.length e;simp only [XI] at hlen;unfold xu;exact bf (by constructor<;>omega) (bf (by constructor<;>omega) (E6 N f q N U V P S l _ _ W W W W W c d e))
theorem Lu (N:Nat)(p:List Vy->Int->Option VP)(a b f:Int)(K:0<=f/\f<10000)(R:List Vy->Prop)(P S:List Vy)(H:a=P.length)(x:Vy)(u:RKey x):
  ∀(m:Nat) (A B l:List Vy) (j:Int),j=(P.length:Int)+A.length->A.length<m->l.length<=6000->l=P++(A++x::(B++S))->(∀y∈A,RKey y)->
  (∀A1 A2:List Vy,A=A1++A2->(∀y∈A2,rk x<rk y)->(∀y,A1.getLast? =some y->rk y<=rk x)->Sat (p (P++(A1++x::(A2++(B++S)))) (f+1)) R)->Sat (tz N p a b f m l j) R
 |0,A,B,l,j,_,h,_,_,_,_=>by omega
 | m +1,A,B,l,j,D,h,T,e,F,C=>by
  have hlen:=congrArg List.length e;simp only [XI,WP] at hlen;rw [tz.eq_2]
  have stop:(∀y,A.getLast? =some y->rk y<=rk x)->Sat (xf N p a b f l) R:=fun q=>by
   unfold xf;have:=C A [] (by simp) (fun y q=>by cases q) q;exact bf (by constructor<;>omega) (by rw [e];exact this)
  rcases List.eq_nil_or_concat A with rfl|⟨n,y,rfl⟩
  ·rw [VR (show¬a<j by simp only [WS] at D;omega),cf,bs,cf];exact stop fun y q=>by cases q
  rw [List.concat_eq_append] at*;simp only [XI,WP,WS] at D h hlen
  have ex:l=(P++(n++ [y]))++x::(B++S):=by rw [e];simp
  have ey:l=(P++n)++y::([]++x::(B++S)):=by rw [e];simp
  have lx:j=(((P++(n++ [y])).length:Nat):Int):=by simp only [XI,WP,WS];omega
  have ly:j - 1=(((P++n).length:Nat):Int):=by simp only [XI];omega
  rw [VQ (show a<j by omega),ct];refine Sat.bind (P:=fun c=>c=true↔rk x<rk y) (dZ ex lx (bf (by constructor<;>omega) (dZ ey ly ((BA N u (F y (by simp))).bind fun z d=>ar (by rw [decide_eq_true_iff];exact d))))) fun c E=>gn (fun o=> ?_) fun o=> ?_
  ·have t:=E.1 o;have O:=Ot (i:=j - 1) (j:=j) ey ly (by rw [<-ly];simp only [WS];omega)
   have Q:l.set j.toNat y=(P++n)++y::(y::(B++S)):=by
    rw [ex,lx,Wg,sM];simp
   refine bf (by constructor<;>omega) (bf (by constructor<;>omega) (dZ ey ly (dZ ex lx (dZ ex lx (dZ (l:=l.set j.toNat y) Q ly (bf (by constructor<;>omega) ?_))))))
   have hi:=Lu N p a b f K R P S H x u m n (y::B) ((P++n)++x::([]++y::(B++S))) (j - 1) W W (by simp only [XI,WP,WS];omega) (by simp) (fun z d=>F z (by simp [d])) fun A1 A2 o M L=>by
    have:=C A1 (A2++ [y]) (by rw [o];simp) (fun z d=>by
     rcases WY.1 d with d|d
     ·exact M z d
     ·rw [W8.1 d];exact t) L
    simpa using this
   have:Sat (tz N p a b f m ((l.set j.toNat y).set ((j - 1).toNat) x) (j - 1)) R:=by
    rw [O];exact hi
   exact this
  refine stop fun z d=> ?_
  rw [List.getLast?_append] at d
  have:z=y:=by simpa using d.symm
  subst this
  have: ¬rk x<rk z:=fun h=>by rw [E.2 h] at o;cases o
  omega
theorem SoK.ins {x:Vy}(h:SoK (A1++A2))(i:∀y,A1.getLast? =some y->rk y<=rk x)(f:∀y∈A2,rk x<rk y):SoK (A1++x::A2):=by
 obtain ⟨d,s2,e⟩:=h.parts;refine d.app (Xa.2 ⟨fun y a=>by have:=f y a;omega,s2⟩) fun y a z c=> ?_
 rcases WZ.1 c with rfl|c
 ·rcases List.eq_nil_or_concat A1 with rfl|⟨j,w,rfl⟩
  ·cases a
  rw [List.concat_eq_append] at*;have hw:=i w (by simp);rcases WY.1 a with a|a
  ·have:=d.parts.2.2 y a w (by simp);omega
  rw [W8.1 a];exact hw
 exact e y a z c
theorem EvK.ins {x:Vy}(d:∀y∈A2,rk x<rk y):EvK (A1++x::A2) ((A1++A2)++ [x]):=by
 rw [VT]
 exact (EvK.refl A1).app (EvK.swap (U:=[x]) (V:=A2) fun y c z a=>by
  rw [W8.1 c];have:=d z a;omega)
theorem K2 (N:Nat)(q:20000<=N)(a b:Int)(hb:b<=6000)(P S:List Vy)(n:a=P.length): ∀(m:Nat) (A X l:List Vy) (i:Int),i=(P.length:Int)+A.length->b=i+X.length->X.length<m->l.length<=6000->l=P++(A++(X++S))->(∀y∈A++X,RKey y)->SoK A->Sat (qD N a b m l i) fun r=> ∃C,r=P++(C++S)/\SoK C/\EvK C (A++X)
 |0,A,X,l,i,_,_,h,_,_,_,_=>by omega
 | m+1,A,X,l,i,hi,c,h,p,e,f,j=>by
  have hlen:=congrArg List.length e;simp only [XI] at hlen;rw [qD.eq_2]
  cases X with
  |nil=>exact bq (fun h=>by simp only [WS] at c;omega) fun _=>ar ⟨A,by rw [e];simp,j,by rw [Wj];exact EvK.refl A⟩
  |cons x X=>
   simp only [WP] at c h hlen;refine bq (fun _=> ?_) fun h=>by omega
   refine Lu N _ a b i W _ P (X++S) n x (f x (by simp)) N A [] l i hi W p (by rw [e];simp) (fun y d=>f y (by simp [d])) fun A1 A2 u o t=> ?_
   subst u;simp only [XI] at hi hlen;refine (K2 N q a b hb P S n m (A1++x::A2) X _ (i+1) (by simp only [XI,WP];omega) W W (by simp only [XI,WP,WS];omega) (by simp) (fun y d=>f y (by simp at d⊢;rcases d with h|h|h|h<;>simp [h])) (SoK.ins j t o)).mono fun r hr=> ?_
   obtain ⟨C,c1,c2,c3⟩:=hr;refine ⟨C,c1,c2,c3.trans ?_⟩;have:=(EvK.ins (A1:=A1) o).app (EvK.refl X);simpa using this
theorem N4 (N:Nat)(i:20000<=N){P X l:List Vy}{a b:Int}(d:a=P.length)(hb:b=a+X.length)(c:l.length<=6000)(e:l=P++(X++S))(f:∀y∈X,RKey y):Sat (qF N l a b) fun r=> ∃C,r=P++(C++S)/\SoK C/\EvK C X:=by
 have hlen:=congrArg List.length e;simp only [XI] at hlen;unfold qF;refine bf (by constructor<;>omega) ?_
 cases X with
 |nil=>
  obtain ⟨n,rfl⟩: ∃n,N=n+1:=⟨N - 1,by omega⟩;rw [qD.eq_2];simp only [WS] at hb;exact bq (fun h=>by omega) fun _=>ar ⟨[],e,SoK.nil,EvK.refl _⟩
 |cons x X=>
  simp only [WP] at hb hlen;exact K2 N i a b W P S d N [x] X l (a+1) (by simp only [WP,WS];omega) W W c e f (SoK.one x)
def CU (a:List Vy->Int->Int->Int->Option VP)(n:Int):Prop:= ∀(P A B S l:List Vy) (x y z:Int),x=P.length->y=x+A.length->z=y+B.length->0<A.length->0<B.length->z - x<n->l.length<=6000->l=P++(A++(B++S))->(∀k∈A++B,RKey k)->SoK A->SoK B->Sat (a l x y z) fun r=> ∃C,r=P++(C++S)/\SoK C/\EvK C (A++B)
theorem Oh (N:Nat)(o:List Vy->Int->Int->Int->Option VP)(a q b d:Int)(x:Vy): ∀(m:Nat) (c P T l:List Vy) (k:Int),k=P.length->d=k+1+c.length->c.length<m->l.length<=6000->l=P++x::(c++T)->Sat (tG N o a q b d m l k) fun r=>r=P++(c++x::T)
 |0,c,P,T,l,k,_,_,h,_,_=>by omega
 | m+1,c,P,T,l,k,f,p,h,z,e=>by
  have hlen:=congrArg List.length e;simp only [XI,WP] at hlen;rw [tG.eq_2];refine bf (by constructor<;>omega) ?_
  cases c with
  |nil=>exact bq (fun h=>by simp only [WS] at p;omega) fun _=>ar e
  | cons y c=>
   simp only [WP] at p h hlen
   have n:l=P++x::([]++y::(c++T)):=by rw [e];simp
   have ey:l=(P++ [x])++y::(c++T):=by rw [e];simp
   have ly:k+1=(((P++ [x]).length:Nat):Int):=by simp only [XI,WP,WS];omega
   have t:=Hs (i:=k) (j:=k+1) n f (by simp only [WS];omega)
   have u:l.set k.toNat y=(P++ [y])++y::(c++T):=by
    rw [n,f,Wg,sM];simp
   refine bq (fun _=> ?_) fun h=>by omega
   refine bf (by constructor<;>omega) (bf (by constructor<;>omega) (dZ ey ly (dZ n f (dZ n f (dZ (l:=l.set k.toNat y) u (by simp only [XI,WP,WS];omega) (bf (by constructor<;>omega) ?_))))));have hi:=Oh N o a q b d x m c (P++ [y]) T (P++y::([]++x::(c++T))) (k+1) (by simp only [XI,WP,WS];omega) W W (by simp only [XI,WP,WS];omega) (by simp)
   have:Sat (tG N o a q b d m ((l.set k.toNat y).set ((k+1).toNat) x) (k+1)) fun r=>r=P++(y::c++x::T):=by
    rw [t];exact hi.mono fun r hr=>by rw [hr];simp
   exact this
theorem N0 (N:Nat)(f:List Vy->Int->Int->Int->Option VP)(a q b p:Int)(x:Vy): ∀(m:Nat) (d P T l:List Vy) (k:Int),p=P.length->k=p+d.length->d.length<m->l.length<=6000->l=P++(d++x::T)->Sat (tH N f a q b p m l k) fun r=>r=P++x::(d++T)
 |0,d,P,T,l,k,_,_,h,_,_=>by omega
 | m+1,d,P,T,l,k,o,n,h,z,e=>by
  have hlen:=congrArg List.length e;simp only [XI,WP] at hlen;rw [tH.eq_2];rcases List.eq_nil_or_concat d with rfl|⟨c,y,rfl⟩
  ·exact bq (fun h=>by simp only [WS] at n;omega) fun _=>ar e
  rw [List.concat_eq_append] at*;simp only [XI,WP,WS] at n h hlen
  have ey:l=(P++c)++y::([]++x::T):=by rw [e];simp
  have ex:l=(P++(c++ [y]))++x::T:=by rw [e];simp
  have ly:k - 1=(((P++c).length:Nat):Int):=by simp only [XI];omega
  have lx:k=(((P++(c++ [y])).length:Nat):Int):=by simp only [XI,WP,WS];omega
  have t:=Ot (i:=k - 1) (j:=k) ey ly (by rw [<-ly];simp only [WS];omega)
  have u:l.set k.toNat y=(P++c)++y::(y::T):=by
   rw [ex,lx,Wg,sM];simp
  refine bq (fun _=> ?_) fun h=>by omega
  refine bf (by constructor<;>omega) (bf (by constructor<;>omega) (dZ ey ly (dZ ex lx (dZ ex lx (dZ (l:=l.set k.toNat y) u ly (bf (by constructor<;>omega) ?_))))));have hi:=N0 N f a q b p x m c P (y::T) ((P++c)++x::([]++y::T)) (k - 1) o W W (by simp only [XI,WP,WS];omega) (by simp)
  have:Sat (tH N f a q b p m ((l.set k.toNat y).set ((k - 1).toNat) x) (k - 1)) fun r=>r=P++x::((c++ [y])++T):=by
   rw [t];exact hi.mono fun r hr=>by rw [hr];simp
  exact this
theorem Bw {M:List Vy}{n:Nat}(h:n<M.length): ∃a y c,M=a++y::c/\a.length=n:=by
 refine ⟨M.take n,M[n],M.drop (n+1),?_,by rw [XJ];omega⟩;rw [<-Wn h,Xe]
section
variable (N:Nat)(i:20000<=N)(u:List Vy->Int->Int->Int->Option VP)(a q b:Int){P A B l:List Vy}(D:a=P.length)(n:q=a+A.length)(hb:b=q+B.length)(F:0<A.length)(H:0<B.length)(E:l.length<=6000)(e:l=P++(A++(B++S)))(p:∀k∈A++B,RKey k)(sA:SoK A)(sB:SoK B)
include i D n hb F H E e p sA sB
theorem Hd (o:A.length=1): ∀(m:Nat) (B1 Bm B2:List Vy) (i j:Int),B=B1++(Bm++B2)->i=q+B1.length->j=i+Bm.length->Bm.length<m->(∀x∈A, ∀y∈B1,rk y<rk x)->(∀x∈A, ∀y∈B2,rk x<=rk y)->Sat (qH N u a q b l m i j) fun r=> ∃C,r=P++(C++S)/\SoK C/\EvK C (A++B)
 |0,B1,Bm,B2,i,j,_,_,_,h,_,_=>by have _:=F;have _:=sA;omega
 | m +1,B1,Bm,B2,i,j,eB,hi,hj,h,X,h2=>by
  obtain ⟨x,eA⟩:=List.length_eq_one_iff.1 o
  have d:x∈A:=by rw [eA];simp
  have e:l=P++([x]++(B++S)):=by rw [e,eA]
  have hlen:=congrArg List.length e;have T:=congrArg List.length eB;simp only [XI,WP,WS] at hlen T;rw [qH.eq_2]
  cases Z:Bm with
  | nil=>
   subst Z;refine bq (fun h=>by simp only [WS] at hj;omega) fun _=> ?_
   unfold C0;rw [XN] at eB;refine (Oh N u a q b i x N B1 P (B2++S) l a D W W E (by rw [e,eB];simp)).mono fun r hr=> ?_
   rw [eB] at sB;obtain ⟨t1,Q,O⟩:=sB.parts;refine ⟨B1++x::B2,by rw [hr];simp,t1.app (Xa.2 ⟨h2 x d,Q⟩) fun y L z f=> ?_,?_⟩
   ·rcases WZ.1 f with rfl|f
    ·have:=X z d y L;omega
    exact O y L z f
   have:=(EvK.swap (U:=B1) (V:=[x]) fun y L z f=>by
     rw [W8.1 f];have:=X x d y L;omega).app (EvK.refl B2)
   rw [eA,eB];simpa using this
  | cons y0 Bm0=>
   have hpos:0<Bm.length:=by rw [Z];simp
   refine bq (fun _=> ?_) fun h=>by omega
   rw [ov W W W];obtain ⟨t,y,K,eM,lM⟩:=Bw (M:=Bm) (n:=((i+j) / 2 - i).toNat) W
   have eh:l=(P++(x::(B1++t)))++y::(K++(B2++S)):=by rw [e,eB,eM];simp
   have lh:(i+j) / 2=(((P++(x::(B1++t))).length:Nat):Int):=by simp only [XI,WP];omega
   have ex:l=P++x::(B++S):=by rw [e];simp
   have R:=congrArg List.length eM;simp only [XI,WP] at R
   have sB':SoK ((B1++t)++y::(K++B2)):=by
    have:B=(B1++t)++y::(K++B2):=by rw [eB,eM];simp
    rw [<-this];exact sB
   obtain ⟨-,Q,O⟩:=sB'.parts;refine bf (by constructor<;>omega) (dZ eh lh (dZ ex D ((BA N (p y (by rw [eB,eM];simp)) (p x (VU _ d))).bind fun z f=>gn (fun c=>bf (by constructor<;>omega) ?_) fun c=> ?_)))
   ·have H:=f.1 (XG c);refine Hd o m (B1++(t++ [y])) K B2 _ j (by rw [eB,eM];simp) (by simp only [XI,WP,WS];omega) W W (fun x' hx' F hy'=> ?_) h2;rw [eA] at hx';rw [W8.1 hx']
    have:F∈B1++t\/F=y:=by simpa [or_assoc] using hy'
    rcases this with h|rfl
    ·have:=O F h y (by simp);omega
    exact H
   have H: ¬rk y<rk x:=fun h=>XF c (f.2 h)
   refine Hd o m B1 t (y::(K++B2)) i _ (by rw [eB,eM];simp) hi W W X fun x' hx' F hy'=> ?_
   rw [eA] at hx';rw [W8.1 hx'];rcases WZ.1 hy' with rfl|h
   ·omega
   have:=(Xa.1 Q).1 F h;omega
theorem GP (f:B.length=1): ∀(m:Nat) (A1 Am A2:List Vy) (i j:Int),A=A1++(Am++A2)->i=a+A1.length->j=i+Am.length->Am.length<m->(∀y∈B, ∀x∈A1,rk x<=rk y)->(∀y∈B, ∀x∈A2,rk y<rk x)->Sat (tL N u a q b l m i j) fun r=> ∃C,r=P++(C++S)/\SoK C/\EvK C (A++B)
 |0,A1,Am,A2,i,j,_,_,_,h,_,_=>by have _:=H;have _:=sB;omega
 | m+1,A1,Am,A2,i,j,eA,hi,Z,h,R,L=>by
  obtain ⟨x,eB⟩:=List.length_eq_one_iff.1 f
  have d:x∈B:=by rw [eB];simp
  have e:l=P++(A++([x]++S)):=by rw [e,eB]
  have hlen:=congrArg List.length e;have K:=congrArg List.length eA;simp only [XI,WP,WS] at hlen K;rw [tL.eq_2]
  cases Q:Am with
  |nil=>
   subst Q;refine bq (fun h=>by simp only [WS] at Z;omega) fun _=> ?_
   unfold CY;rw [XN] at eA;rw [eA] at sA⊢;rw [eB];refine (N0 N u a q b i x N A2 (P++A1) S l q (by simp only [XI];omega) W W E (by rw [e,eA];simp)).mono fun r hr=> ?_
   refine ⟨A1++x::A2,by rw [hr];simp,sA.ins (fun y X=>R x d y (List.mem_of_getLast? X)) (L x d),EvK.ins (L x d)⟩
  | cons y0 Bm0=>
   have hpos:0<Am.length:=by rw [Q];simp
   refine bq (fun _=> ?_) fun h=>by omega
   rw [ov W W W];obtain ⟨o,y,F,eM,lM⟩:=Bw (M:=Am) (n:=((i+j) / 2 - i).toNat) W
   have eh:l=(P++(A1++o))++y::(F++(A2++x::S)):=by rw [e,eA,eM];simp
   have lh:(i+j) / 2=(((P++(A1++o)).length:Nat):Int):=by simp only [XI];omega
   have ex:l=(P++A)++x::S:=by rw [e];simp
   have H:=congrArg List.length eM;simp only [XI,WP] at H
   have sA':SoK ((A1++o)++y::(F++A2)):=by
    have:A=(A1++o)++y::(F++A2):=by rw [eA,eM];simp
    rw [<-this];exact sA
   obtain ⟨-,V,U⟩:=sA'.parts;refine bf (by constructor<;>omega) (dZ ex (by simp only [XI];omega) (dZ eh lh ((BA N (p x (VV _ d)) (p y (by rw [eA,eM];simp))).bind fun z O=>BD (fun c=>bf (by constructor<;>omega) ?_) fun c=> ?_)))
   ·have D: ¬rk x<rk y:=fun h=>XF c (O.2 h)
    refine GP f m (A1++(o++ [y])) F A2 _ j (by rw [eA,eM];simp) (by simp only [XI,WP,WS];omega) W W (fun T hx' t hy'=> ?_) L;rw [eB] at hx';rw [W8.1 hx']
    have:t∈A1++o\/t=y:=by simpa [or_assoc] using hy'
    rcases this with h|rfl
    ·have:=U t h y (by simp);omega
    omega
   have D:=O.1 (XG c)
   refine GP f m A1 o (y::(F++A2)) i _ (by rw [eA,eM];simp) hi W W R fun T hx' t hy'=> ?_
   rw [eB] at hx';rw [W8.1 hx'];rcases WZ.1 hy' with rfl|h
   ·exact D
   have:=(Xa.1 V).1 t h;omega
end
end
section
open Go.RowKit
theorem Mw {l:List Vy}(h:SoK l)(e:l=A1++A2){i:Nat}(a:l[i]? =some x0)(hi:A1.length=i+1): ∀x∈A1,rk x<=rk x0:=by
 subst e;obtain ⟨d, -, -⟩:=h.parts;rw [WA W] at a;obtain ⟨n,m⟩:=WH.1 a;intro x a;obtain ⟨j,f,rfl⟩:=WO a;rw [<-m];by_cases c:j=i
 ·subst c;exact Int.le_refl _
 exact Xb.1 d j i f n W
theorem Mb {l:List Vy}(h:SoK l)(e:l=A1++A2){i:Nat}(a:l[i]? =some x0)(hi:A1.length=i): ∀x∈A2,rk x0<=rk x:=by
 subst e;obtain ⟨-,d, -⟩:=h.parts;rw [WB W,hi,Xr] at a;obtain ⟨n,m⟩:=WH.1 a;intro x a;obtain ⟨j,f,rfl⟩:=WO a;rw [<-m];by_cases c:j=0
 ·subst c;exact Int.le_refl _
 exact Xb.1 d 0 j n f W
theorem ls {l:List Vy}(h:l.length=0):l=[]:=List.length_eq_zero_iff.1 h
section
variable (N:Nat)(B:20000<=N)(u:List Vy->Int->Int->Int->Option VP)(a q b p:Int){P B1 B2:List Vy}(D:a=P.length)(F:q=a+A1.length+A2.length)(E:p=a+A1.length)(H:a<q)(K:q<b)(L:(B1.length:Int)=(a+b) / 2 - p)(hb:b=q+B1.length+B2.length)(i:CU u (b - a))(A:∀k∈(A1++A2)++(B1++B2),RKey k)(sA:SoK (A1++A2))(sB:SoK (B1++B2))(n:(P.length:Int)+A1.length+A2.length+B1.length+B2.length+S.length<=6000)
include B D F E H K L hb i A sA sB n
theorem N3 {C l:List Vy}(o:C.length=A1.length+B1.length)(e:l=P++(C++(A2++(B2++S)))):Sat (tK N u b a q p l) fun r=> ∃f,r=P++(C++(f++S))/\SoK f/\EvK f (A2++B2):=by
 have _:=B
 have hlen:=congrArg List.length e;simp only [XI] at hlen;unfold tK;rw [ov W W W]
 refine dz (P:=fun c=>c=true↔(a+b) / 2<(a+b) / 2+q - p/\(a+b) / 2+q - p<b) (fun e=>ar ⟨fun d=>⟨XG e,XG d⟩,fun h=>VQ h.2⟩) (fun e=>ar ⟨fun h=>(by cases h),fun h=>absurd h.1 (XF e)⟩) fun c j=>gn (fun d=> ?_) fun d=> ?_
 ·obtain ⟨z,t⟩:=j.1 d;refine (i (P++C) A2 B2 S l _ _ _ (by simp only [XI];omega) W W W W W W (by rw [e];simp) (fun k i=>A k (by simp at i⊢;rcases i with h|h<;>simp [h])) sA.parts.2.1 sB.parts.2.1).bind fun r hr=>ar ?_
  obtain ⟨f,c1,c2,c3⟩:=hr;exact ⟨f,by rw [c1];simp,c2,c3⟩
 have n: ¬((a+b) / 2<(a+b) / 2+q - p/\(a+b) / 2+q - p<b):=fun h=>by rw [j.2 h] at d;cases d
 have:A2=[]\/B2=[]:=by
  by_cases m:A2.length=0
  ·exact .inl (ls m)
  exact .inr (ls W)
 refine ar ⟨A2++B2,by rw [e];simp,?_,EvK.refl _⟩;rcases this with rfl|rfl
 ·exact sB.parts.2.1
 rw [Wj];exact sA.parts.2.1
theorem N5 {l:List Vy}(e:l=P++(A1++(B1++(A2++(B2++S))))):Sat (tD N u a b p q l) fun r=> ∃j d,r=P++(j++(d++S))/\SoK j/\EvK j (A1++B1)/\SoK d/\EvK d (A2++B2):=by
 have hlen:=congrArg List.length e;simp only [XI] at hlen;unfold tD;rw [ov W W W]
 refine dz (P:=fun c=>c=true↔a<p/\p<(a+b) / 2) (fun e=>ar ⟨fun f=>⟨XG e,XG f⟩,fun h=>VQ h.2⟩) (fun e=>ar ⟨fun h=>(by cases h),fun h=>absurd h.1 (XF e)⟩) fun c O=>gn (fun f=> ?_) fun f=> ?_
 ·obtain ⟨T,R⟩:=O.1 f;refine (i P A1 B1 (A2++(B2++S)) l _ _ _ D E W W W W W (by rw [e]) (fun k i=>A k (by simp at i⊢;rcases i with h|h<;>simp [h])) sA.parts.1 sB.parts.1).bind fun r hr=> ?_
  obtain ⟨j,c1,c2,c3⟩:=hr;refine (N3 N B u a q b p D F E H K L hb i A sA sB n (C:=j) (by rw [c3.len,XI]) c1).mono fun z m=> ?_
  obtain ⟨d,M,t,o⟩:=m;exact ⟨j,d,M,c2,c3,t,o⟩
 have Q: ¬(a<p/\p<(a+b) / 2):=fun h=>by rw [O.2 h] at f;cases f
 have:A1=[]\/B1=[]:=by
  by_cases m:A1.length=0
  ·exact .inl (ls m)
  exact .inr (ls W)
 refine (N3 N B u a q b p D F E H K L hb i A sA sB n (C:=A1++B1) XI (by rw [e];simp)).mono fun z m=> ?_
 obtain ⟨d,M,t,o⟩:=m;refine ⟨A1++B1,d,M,?_,EvK.refl _,t,o⟩;rcases this with h|h
 ·rw [h];exact sB.parts.1
 rw [h,Wj];exact sA.parts.1
theorem ac9 {l:List Vy}(e:l=P++(A1++(A2++(B1++(B2++S)))))(O:∀x∈A1, ∀y∈B2,rk x<=rk y)(z:∀y∈B1, ∀x∈A2,rk y<rk x):Sat (xg N u a q b l p) fun r=> ∃C,r=P++(C++S)/\SoK C/\EvK C ((A1++A2)++(B1++B2)):=by
 have hlen:=congrArg List.length e;simp only [XI] at hlen
 have fin: ∀r,(∃o m,r=P++(o++(m++S))/\SoK o/\EvK o (A1++B1)/\SoK m/\EvK m (A2++B2))-> ∃C,r=P++(C++S)/\SoK C/\EvK C ((A1++A2)++(B1++B2)):=fun r hr=>by
  obtain ⟨o,m,c1,c2,c3,c4,c5⟩:=hr;refine ⟨o++m,by rw [c1];simp,c2.app c4 fun x f y d=> ?_,(c3.app c5).trans ?_⟩
  ·rcases WY.1 (c3.mem.1 f) with f|f<;>rcases WY.1 (c5.mem.1 d) with d|d
   ·exact sA.parts.2.2 x f y d
   ·exact O x f y d
   ·have:=z x f y d;omega
   exact sB.parts.2.2 x f y d
  have:=((EvK.refl A1).app (EvK.swap (U:=B1) (V:=A2) fun y d x f=>by have:=z y d x f;omega)).app (EvK.refl B2);simpa using this
 unfold xg;rw [ov W W W];refine bf (by constructor<;>omega) (dz (P:=fun c=>c=true↔p<q/\q<(a+b) / 2+q - p) (fun e=>ar ⟨fun j=>⟨XG e,XG j⟩,fun h=>VQ h.2⟩) (fun e=>ar ⟨fun h=>(by cases h),fun h=>absurd h.1 (XF e)⟩) fun c t=>gn (fun j=> ?_) fun j=> ?_)
 ·obtain ⟨T,R⟩:=t.1 j;refine (acO N B (P:=P++A1) (U:=A2) (V:=B1) (S:=B2++S) (by simp only [XI];omega) (by simp only [XI];omega) (by simp only [XI];omega) W W W (by rw [e];simp)).bind fun r hr=> ?_
  exact (N5 N B u a q b p D F E H K L hb i A sA sB n (by rw [hr];simp)).mono fin
 have Q: ¬(p<q/\q<(a+b) / 2+q - p):=fun h=>by rw [t.2 h] at j;cases j
 have:A2=[]\/B1=[]:=by
  by_cases M:A2.length=0
  ·exact .inl (ls M)
  exact .inr (ls W)
 refine (N5 N B u a q b p D F E H K L hb i A sA sB n ?_).mono fin;rw [e];rcases this with h|h
 ·rw [h];simp
 rw [h];simp
end
section
variable (N:Nat)(D:20000<=N)(u:List Vy->Int->Int->Int->Option VP)(a q b:Int){P A B l:List Vy}(E:a=P.length)(i:q=a+A.length)(hb:b=q+B.length)(n:0<A.length)(H:0<B.length)(F:CU u (b - a))(K:l.length<=6000)(e:l=P++(A++(B++S)))(p:∀k∈A++B,RKey k)(sA:SoK A)(sB:SoK B)
include D E i hb n H F K e p sA sB
theorem Cs: ∀(m:Nat) (i j:Int),j - i<m->a<=i->(a+b) / 2+q - b<=i->i<=j->j<=q->j<=(a+b) / 2->
  (i=a\/i=(a+b) / 2+q - b\/ ∃x y,A[(i - 1 - a).toNat]? =some x/\B[((a+b) / 2 - i).toNat]? =some y/\rk x<=rk y)->
  (j=q\/j=(a+b) / 2\/ ∃x y,A[(j - a).toNat]? =some x/\B[((a+b) / 2 - j - 1).toNat]? =some y/\rk y<rk x)->
  Sat (tI N u a q b l m i j) fun r=> ∃C,r=P++(C++S)/\SoK C/\EvK C (A++B)
 |0,i,j,h,_,_,_,_,_,_,_=>by omega
 | m+1,i,j,h,h1,h2,h3,h4,h5,T,U=>by
  have hlen:=congrArg List.length e;simp only [XI] at hlen;rw [tI.eq_2]
  refine bq (fun h8=> ?_) fun h8=> ?_
  ·rw [ov (a:=a) (b:=b) W W W,ov (a:=i) (b:=j) W W W];obtain ⟨X1,x,X2,eX,lX⟩:=Bw (M:=A) (n:=((i+j) / 2 - a).toNat) W;obtain ⟨Y1,y,Y2,eY,lY⟩:=Bw (M:=B) (n:=((a+b) / 2 - (i+j) / 2 - 1).toNat) W
   have gx:A[((i+j) / 2 - a).toNat]? =some x:=by rw [<-lX];exact Cc eX
   have gy:B[((a+b) / 2 - (i+j) / 2 - 1).toNat]? =some y:=by rw [<-lY];exact Cc eY
   have ex:l=(P++X1)++x::(X2++(B++S)):=by rw [e,eX];simp
   have ey:l=(P++(A++Y1))++y::(Y2++S):=by rw [e,eY];simp
   refine bf (by constructor<;>omega) (bf (by constructor<;>omega) (dZ ey (by simp only [XI];omega) (dZ ex (by simp only [XI];omega) ((BA N (p y (by rw [eY];simp)) (p x (by rw [eX];simp))).bind fun z Q=>BD (fun c=>bf (by constructor<;>omega) ?_) fun c=> ?_))))
   ·have f: ¬rk y<rk x:=fun h=>XF c (Q.2 h)
    refine Cs m _ _ W W W W h4 h5 (.inr (.inr ⟨x,y,?_,?_,by omega⟩)) U
    ·rw [show (i+j) / 2+1 - 1 - a=(i+j) / 2 - a by omega];exact gx
    rw [show (a+b) / 2 - ((i+j) / 2+1)=(a+b) / 2 - (i+j) / 2 - 1 by omega];exact gy
   have f:=Q.1 (XG c);exact Cs m _ _ W h1 h2 W W W T (.inr (.inr ⟨x,y,gx,gy,f⟩))
  have O:i=j:=by omega
  subst O;obtain ⟨A1,A2,eA,lA⟩:=wD (l:=A) (j:=(i - a).toNat) W;obtain ⟨B1,B2,eB,lB⟩:=wD (l:=B) (j:=((a+b) / 2 - i).toNat) W;have L:=congrArg List.length eA;have K:=congrArg List.length eB;simp only [XI] at L K
  have f1: ∀x∈A1, ∀y∈B2,rk x<=rk y:=by
   rcases T with h|h|⟨x,y,gx,gy,H⟩
   ·rw [ls (l:=A1) W];exact fun x d=>by cases d
   ·rw [ls (l:=B2) W];exact fun x d y R=>by cases R
   intro t hx' o hy';have hA0:0<A1.length:=List.length_pos_of_mem hx';have X:=Mw sA eA gx W t hx';have V:=Mb sB eB gy lB o hy';omega
  have f2: ∀y∈B1, ∀x∈A2,rk y<rk x:=by
   rcases U with h|h|⟨x,y,gx,gy,H⟩
   ·rw [ls (l:=A2) W];exact fun y R x d=>by cases d
   ·rw [ls (l:=B1) W];exact fun x d=>by cases d
   intro o hy' t hx';have Z:0<B1.length:=List.length_pos_of_mem hy';have X:=Mw sB eB gy W o hy';have V:=Mb sA eA gx lA t hx';omega
  rw [eA,eB] at p e⊢;rw [eA] at sA;rw [eB] at sB;exact ac9 N D u a q b i E W W W W W W F p sA sB W (by rw [e];simp) f1 f2
theorem ac2:Sat (xh N u a q b l) fun r=> ∃C,r=P++(C++S)/\SoK C/\EvK C (A++B):=by
 have hlen:=congrArg List.length e;simp only [XI] at hlen;unfold xh xi;rw [ov W W W];refine bf (by constructor<;>omega) (bf (by constructor<;>omega) (bq (fun c=> ?_) fun c=> ?_))
 ·exact bf (by constructor<;>omega) (bf (by constructor<;>omega) (Cs N D u a q b E i hb n H F K e p sA sB N _ _ W W W W W W (.inr (.inl J)) (.inr (.inl J))))
 exact bf (by constructor<;>omega) (Cs N D u a q b E i hb n H F K e p sA sB N _ _ W W W W W W (.inl J) (.inl J))
end
theorem MS (N:Nat)(c:20000<=N): ∀m:Nat,CU (fo N m) m
 |0=>fun P A B S l x y z n j i f e H=>by omega
 |m+1=>fun P A B S l x y z n j i f e H t d q o s2=>by
  have hlen:=congrArg List.length d;simp only [XI] at hlen;have E:=MS N c m
  have F:CU (fo N m) (z - x):=fun P A B S l D C u Q O M L K R=>E P A B S l D C u Q O M L K W
  rw [Hv];refine bf (by constructor<;>omega) (bq (fun g=> ?_) fun _=> ?_)
  ·exact Hd N c _ x y z n j i f e t d q o s2 W N [] B [] y z (by simp) (by simp) W W (fun x p y a=>by cases a) (fun x p y a=>by cases a)
  unfold xl;refine bf (by constructor<;>omega) (bq (fun g=> ?_) fun _=>ac2 N c _ x y z n j i f e F t d q o s2);exact GP N c _ x y z n j i f e t d q o s2 W N [] A [] x y (by simp) (by simp) W W (fun x p y a=>by cases a) (fun x p y a=>by cases a)
theorem Oe (N:Nat)(d:20000<=N){P A B l:List Vy}{x y z:Int}(o:x=P.length)(n:y=x+A.length)(m:z=y+B.length)(j:0<A.length)(i:0<B.length)(f:l.length<=6000)(a:l=P++(A++(B++S)))(e:∀k∈A++B,RKey k)(c:SoK A)(s2:SoK B):Sat (nz N l x y z) fun r=> ∃C,r=P++(C++S)/\SoK C/\EvK C (A++B):=by
 have hlen:=congrArg List.length a;simp only [XI] at hlen;exact MS N d N P A B S l x y z o n m j i W f a e c s2
end
section
open Go.RowKit
inductive Ch (z:Nat):List Vy->Prop
 |last {l:List Vy}:l.length<=z->SoK l->Ch z l
 |cons {c l:List Vy}:c.length=z->SoK c->Ch z l->Ch z (c++l)
theorem Ch.one {l:List Vy}(h:Ch z l)(a:l.length<=z):SoK l:=by
 cases h with
 |last _ h=>exact h
 |cons f d e=>
  rename_i c l
  rw [XI] at a;rw [ls (l:=l) W,Wj];exact d
theorem Ch.rest {l:List Vy}(h:Ch z l)(f:z<l.length)(a:l.length<=2*z): ∃c d,l=c++d/\c.length=z/\SoK c/\SoK d:=by
 cases h with
 |last h=>omega
 |cons a1 a2 e=>
  rename_i c l
  rw [XI] at a;exact ⟨c,l,J,a1,a2,e.one W⟩
theorem Ch.two (f:0<z){l:List Vy}(h:Ch z l)(a:2*z<=l.length): ∃c d t,l=c++(d++t)/\c.length=z/\d.length=z/\SoK c/\SoK d/\Ch z t:=by
 cases h with
 |last h=>omega
 | cons a1 a2 e=>
  rename_i c l
  rw [XI] at a
  cases e with
  |last b1 b2=>exact ⟨c,l,[],by simp,a1,by omega,a2,b2,.last (Xt _) SoK.nil⟩
  |cons b1 b2 b3=>
   rename_i d t
   exact ⟨c,d,t,J,a1,b1,a2,b2,b3⟩
section
variable (N:Nat)(i:20000<=N)(n:Nat)(a:n<=6000)
include i a
theorem J0 (p:List Vy->Int->Option VP)(z:Nat)(F:0<z)(q:z<=n)(R:List Vy->Prop): ∀(m:Nat) (P X l:List Vy) (a b:Int),X.length<m->a=P.length->b=a+2*z->l.length=n->l=P++X->Ch z X->(∀k∈X,RKey k)->(∀j,Ch (z*2) j->EvK j X->Sat (p (P++j) ((z:Int)*2)) R)->Sat (xn N p n z m l a b) R
 |0,P,X,l,a,b,h,_,_,_,_,_,_,_=>by omega
 | m+1,P,X,l,a,b,h,H,hb,V,e,u,D,f=>by
  have hlen:=congrArg List.length e;simp only [XI] at hlen;rw [xn.eq_2]
  refine bq (fun Q=> ?_) fun Q=> ?_
  ·obtain ⟨c,d,t,rfl,M,U,o,s2,T⟩:=u.two F W;simp only [XI] at hlen h;refine bf (by constructor<;>omega) ((Oe N i (P:=P) (A:=c) (B:=d) (S:=t) H W W W W W e (fun k f=>D k (by simp at f⊢;rcases f with h|h<;>simp [h])) o s2).bind fun r hr=>bf (by constructor<;>omega) (bf (by constructor<;>omega) ?_));obtain ⟨C,c1,c2,c3⟩:=hr;have E:=c3.len;simp only [XI] at E
   refine J0 p z F q R m (P++C) t r b _ W (by simp only [XI];omega) W (by rw [c1];simp only [XI];omega) (by rw [c1];simp) T (fun k f=>D k (by simp [f])) fun j L K=> ?_
   have:=f (C++j) (.cons W c2 L) (by have:=c3.app K;simpa using this)
   rwa [<-VT] at this
  unfold C7 xm;refine bf (by constructor<;>omega) (bq (fun O=> ?_) fun O=> ?_)
  ·obtain ⟨c,d,rfl,M,o,s2⟩:=u.rest W W;simp only [XI] at hlen h;refine (Oe N i (P:=P) (A:=c) (B:=d) (S:=[]) H W W W W W (by rw [e];simp) D o s2).bind fun r hr=>bf (by constructor<;>omega) ?_
   obtain ⟨C,c1,c2,c3⟩:=hr;have E:=c3.len;simp only [XI] at E;rw [Wj] at c1;rw [c1];exact f C (.last W c2) c3
  refine bf (by constructor<;>omega) ?_;rw [e];exact f X (.last W (u.one W)) (EvK.refl X)
theorem Kc: ∀(m:Nat) (X:List Vy) (z:Nat),n - z<m->0<z->X.length=n->Ch z X->(∀k∈X,RKey k)->Sat (lC N n m X z) fun r=>SoK r/\EvK r X
 |0,X,z,h,_,_,_,_=>by omega
 |m+1,X,z,h,t,j,d,f=>by
  rw [lC.eq_2];refine bq (fun q=> ?_) fun q=>ar ⟨d.one W,EvK.refl X⟩
  refine bf (by constructor<;>omega) (J0 N i n a _ z t W _ N [] X X 0 _ W (by simp) W j (by simp) d f fun p l c=> ?_)
  have e:((z*2:Nat):Int)=(z:Int)*2:=by omega
  have:=Kc m p (z*2) W W (by rw [c.len];exact j) l fun k o=>f k (c.mem.1 o)
  rw [XN, <-e];exact this.mono fun r hr=>⟨hr.1,hr.2.trans c⟩
theorem KK (R:List Vy->Prop): ∀(m:Nat) (P X l:List Vy) (a b:Int),X.length<m->a=P.length->b=a+20->l.length=n->l=P++X->(∀k∈X,RKey k)->(∀f,Ch 20 f->EvK f X->Sat (lC N n N (P++f) 20) R)->Sat (xt N n m l a b) R
 |0,P,X,l,a,b,h,_,_,_,_,_,_=>by omega
 | m+1,P,X,l,a,b,h,p,hb,D,e,o,d=>by
  have hlen:=congrArg List.length e;simp only [XI] at hlen;rw [xt.eq_2]
  refine bq (fun A=> ?_) fun A=> ?_
  ·obtain ⟨c,t,rfl,B⟩:=wD (l:=X) (j:=20) W;simp only [XI] at hlen h;refine (N4 N i (P:=P) (X:=c) (S:=t) p W W e fun k d=>o k (by simp [d])).bind fun r hr=>bf (by constructor<;>omega) ?_
   obtain ⟨C,c1,c2,c3⟩:=hr;have z:=c3.len;refine KK R m (P++C) t r b _ W (by simp only [XI];omega) J (by rw [c1];simp only [XI];omega) (by rw [c1];simp) (fun k d=>o k (by simp [d])) fun f u q=> ?_
   have:=d (C++f) (.cons W c2 u) (c3.app q)
   rwa [<-VT] at this
  unfold Dd;refine (N4 N i (P:=P) (X:=X) (S:=[]) p W W (by rw [e];simp) o).bind fun r hr=> ?_
  obtain ⟨C,c1,c2,c3⟩:=hr;have z:=c3.len;rw [Wj] at c1;rw [c1];exact d C (.last W c2) c3
end
theorem acf (N:Nat)(e:20000<=N)(l:List Vy)(c:l.length<=6000)(d:∀k∈l,RKey k):Sat (xr N l) fun r=>SoK r/\EvK r l:=by
 unfold xr Dh;refine Sat.bind (KK N e l.length c (fun r=>SoK r/\EvK r l) N [] l l 0 20 W (by simp) W J (by simp) d fun j f a=> ?_) fun r hr=>ar hr
 rw [XN];exact (Kc N e l.length c N j 20 W W a.len f fun k i=>d k (a.mem.1 i)).mono fun r hr=>⟨hr.1,hr.2.trans a⟩
end
section
open Go.RowKit
theorem keyR.rk {N:Nat}(a:5000<=N)(h:keyR N k):RKey k:=by
 refine ⟨?_,h.b a⟩;unfold keyR fW at h;by_cases e:k.no=0
 ·omega
 by_cases d:k.no=1
 ·omega
 by_cases c:k.no=2
 ·omega
 rw [VR e,cf,VR d,cf,VR c,cf] at h;cases h
theorem Ln {ρ:Type}{xs:List α}{n:Nat}{f:α->Option ρ}{R:ρ->Prop}(c:n<xs.length)(k:∀x,xs[n]? =some x->Sat (f x) R):Sat ((ak xs (n:Int)).bind f) R:=kP W W fun x a=>k x (by rw [Wg] at a;exact a)
theorem Ki (N:Nat)(j:20000<=N)(a:List Vy)(f:a.length<=6000)(d:∀x∈a,keyR N x): ∀(m i:Nat) (p:List Vy),a.length<m+i->i<=a.length->p=a.take i->Sat (rP N a m p (i:Int)) fun r=>SoK r/\EvK r a
 |0,i,p,h,o,c=>by omega
 | m+1,i,p,h,o,c=>by
  rw [rP.eq_2]
  have q:p.length<=i:=by rw [c,XJ];omega
  refine bq (fun n=> ?_) fun n=> ?_
  ·refine Ln W fun x e=> ?_
   rw [show fW N x=some true from d x (W4 e),bs];unfold zP;rw [ct];refine bf (by unfold bC;rw [WU];omega) (bf (by constructor<;>omega) ?_);refine Ki N j a f d m (i+1) _ W W ?_;rw [c,List.take_add_one,e];rfl
  unfold EF;rw [Xf W] at c;subst c;exact (acf N j p f fun k l=>(d k l).rk W).bind fun r hr=>ar hr
theorem ab4 (N:Nat)(e:20000<=N)(a:List Vy)(c:a.length<=6000)(d:∀x∈a,keyR N x):Sat (rZ N a) fun r=>SoK r/\EvK r a:=
 Ki N e a c d N 0 [] W W (by simp)
section
variable (N:Nat)(l:20000<=N)(a b:List Vy)(i:a.length+b.length<=6000)(e:∀x∈a++b,x.no=0)(sa:SoK a)(sb:SoK b)
structure Mst (a b out A1 A2 B1 B2:List Vy):Prop where
 ea:a=A1++A2
 eb:b=B1++B2
 so:SoK out
 ev:EvK out (A1++B1)
 la: ∀x∈out, ∀y∈A2,rk x<=rk y
 lb: ∀x∈out, ∀y∈B2,rk x<=rk y
 st: ∀y∈B1, ∀x∈A2,rk y<rk x
include i e sa sb
omit i e sb in
theorem Mst.stepA {out B1 B2:List Vy}{x:Vy}(h:Mst a b out A1 (x::A2) B1 B2)(j:∀y∈B2,rk x<=rk y):Mst a b (out++ [x]) (A1++ [x]) A2 B1 B2:=by
 have sa':=sa;rw [h.ea] at sa';obtain ⟨-,i, -⟩:=sa'.parts;obtain ⟨f, -⟩:=Xa.1 i;refine ⟨by rw [h.ea];simp,h.eb,h.so.app (SoK.one x) fun y c z d=>by rw [W8.1 d];exact h.la y c x (by simp),?_,?_,?_,fun y c z d=>h.st y c z (by simp [d])⟩
 ·have l:=h.ev.app (EvK.refl [x])
  have e:=(EvK.refl A1).app (EvK.swap (U:=B1) (V:=[x]) fun y c z d=>by
   rw [W8.1 d];have:=h.st y c x (by simp);omega)
  rw [<-VT] at e;exact l.trans (by simpa using e)
 ·intro y c z d;rcases WY.1 c with c|c
  ·exact h.la y c z (by simp [d])
  rw [W8.1 c];exact f z d
 intro y c z d;rcases WY.1 c with c|c
 ·exact h.lb y c z d
 rw [W8.1 c];exact j z d
omit i e in
theorem Mst.stepB {out B1 B2:List Vy}(h:Mst a b out A1 A2 B1 (y::B2))(l:∀x,A2.head? =some x->rk y<rk x):Mst a b (out++ [y]) A1 A2 (B1++ [y]) B2:=by
 have sa':=sa;have sb':=sb;rw [h.ea] at sa';rw [h.eb] at sb';obtain ⟨-,j, -⟩:=sa'.parts;obtain ⟨-,i, -⟩:=sb'.parts;obtain ⟨f, -⟩:=Xa.1 i
 have e: ∀x∈A2,rk y<rk x:=by
  cases A2 with
  |nil=>exact fun x c=>by cases c
  |cons x0 A2=>
   have m:=l x0 rfl;intro x c;rcases WZ.1 c with rfl|c
   ·exact m
   have:=(Xa.1 j).1 x c;omega
 refine ⟨h.ea,by rw [h.eb];simp,h.so.app (SoK.one y) fun x c z d=>by rw [W8.1 d];exact h.lb x c y (by simp),?_,?_,?_,?_⟩
 ·have:=h.ev.app (EvK.refl [y]);simpa using this
 ·intro x c z d;rcases WY.1 c with c|c
  ·exact h.la x c z d
  rw [W8.1 c];have:=e z d;omega
 ·intro x c z d;rcases WY.1 c with c|c
  ·exact h.lb x c z (by simp [d])
  rw [W8.1 c];exact f z d
 intro x c z d;rcases WY.1 c with c|c
 ·exact h.st x c z d
 rw [W8.1 c];exact e z d
theorem KS (j:List Vy->Int->Int->Option VP){R:List Vy->Prop}{B1 B2:List Vy}(u:∀out A1 A2,Mst a b out A1 A2 (B1++ [y]) B2->Sat (j out (A1.length:Int) ((B1.length:Int)+1)) R): ∀(m:Nat) (A2 out A1:List Vy),A2.length<m->Mst a b out A1 A2 B1 (y::B2)->Sat (zh N j (B1.length:Int) a b m out (A1.length:Int)) R
 |0,A2,out,A1,h,_=>by omega
 | m +1,A2,out,A1,h,d=>by
  rw [zh.eq_2];have f:=congrArg List.length d.ea;have t:=congrArg List.length d.eb;have q:=d.ev.len;simp only [XI,WP] at f t q;have gy:b[B1.length]? =some y:=Cc d.eb;have n:y.no=0:=e y (by rw [d.eb];simp)
  have stop:(∀x,A2.head? =some x->rk y<rk x)->Sat (zb N j (B1.length:Int) a b out (A1.length:Int)) R:=fun D=>by
   unfold zb Ei;refine dZ d.eb J (bf (by unfold bC;rw [WU];omega) (bf (by constructor<;>omega) ?_));exact u _ _ _ (d.stepB a b sa sb D)
  cases A2 with
  |nil=>
   simp only [WS] at f;rw [VR (show¬((A1.length:Int)<(a.length:Int)) by omega),cf,bs,cf];exact stop fun x C=>by cases C
  | cons x A2=>
   simp only [WP] at f h;have p:x.no=0:=e x (by rw [d.ea];simp)
   have rx:rk x=x.N:=by unfold rk;rw [if_pos p]
   have ry:rk y=y.N:=by unfold rk;rw [if_pos n]
   rw [VQ (show ((A1.length:Int)<(a.length:Int)) by omega),ct];refine Sat.bind (P:=fun c=>c=true↔rk x<=rk y) (dZ d.ea J (dZ d.eb J (ar (by rw [decide_eq_true_iff,rx,ry])))) fun c A=>gn (fun l=> ?_) fun l=> ?_
   ·refine dZ d.ea J (bf (by unfold bC;rw [WU];omega) (bf (by constructor<;>omega) ?_));have o:=A.1 l;have sb':=sb;rw [d.eb] at sb';obtain ⟨B, -⟩:=Xa.1 sb'.parts.2.1
    have hs':=d.stepA a b sa fun z i=>by
     rcases WZ.1 i with rfl|i
     ·exact o
     have:=B z i;omega
    have:=KS j u m A2 _ _ W hs';rw [show (((A1++ [x]).length:Nat):Int)=(A1.length:Int)+1 by simp] at this;exact this
   refine stop fun z i=> ?_
   cases i
   have: ¬rk x<=rk y:=fun h=>by rw [A.2 h] at l;cases l
   omega
theorem Jk (l:20000<=N): ∀(m:Nat) (B2 out A1 A2 B1:List Vy),B2.length<m->Mst a b out A1 A2 B1 B2->Sat (pC N a b m out (A1.length:Int) (B1.length:Int)) fun r=>SoK r/\EvK r (a++b)
 |0,B2,out,A1,A2,B1,h,_=>by omega
 | m+1,B2,out,A1,A2,B1,h,c=>by
  rw [pC.eq_2];have j:=congrArg List.length c.ea;have d:=congrArg List.length c.eb;have f:=c.ev.len;simp only [XI] at j d f
  cases B2 with
  | nil=>
   simp only [WS] at d;refine bq (fun h=>by omega) fun _=> ?_
   unfold EC;rw [Wg]
   have t:(a.drop A1.length).take (a.length - A1.length)=A2:=by
    rw [Xf (by rw [WQ];omega),c.ea,List.drop_left]
   rw [t];refine bf ⟨by omega,by omega,Xm _⟩ (bf (by unfold bC;omega) (ar ?_));have sa':=sa;rw [c.ea] at sa';refine ⟨c.so.app sa'.parts.2.1 c.la,?_⟩;have n:=c.ev.app (EvK.refl A2);have q:=(EvK.refl A1).app (EvK.swap (U:=B1) (V:=A2) fun y p z o=>by have:=c.st y p z o;omega);rw [c.ea,c.eb,Wj];rw [VT] at n⊢;exact n.trans q
  |cons y B2=>
   simp only [WP] at d h;refine bq (fun _=> ?_) fun h=>by omega
   refine KS N a b i e sa sb _ (B1:=B1) (B2:=B2) (y:=y) (fun out A1 A2 hs'=> ?_) N A2 out A1 W c;have:=Jk l m B2 out A1 A2 (B1++ [y]) W hs';rw [show (((B1++ [y]).length:Nat):Int)=(B1.length:Int)+1 by simp] at this;exact this
theorem UG (l:20000<=N):Sat (vd N a b) fun r=>SoK r/\EvK r (a++b):=by
 unfold vd;exact Jk N a b i e sa sb l N b [] [] a [] W ⟨J,J,SoK.nil,EvK.refl _,fun x c=>(by cases c),fun x c=>(by cases c),fun x c=>by cases c⟩
end
theorem FN (N:Nat)(j:20000<=N): ∀(m:Nat) (a:List Vy),a.length<m->a.length<=6000->(∀x∈a,x.no=0)->Sat (oe N m a) fun r=>SoK r/\EvK r a
 |0,a,h,_,_=>by omega
 | m+1,a,h,B,i=>by
  rw [IC];refine bq (fun f=>ar ⟨?_,EvK.refl a⟩) fun f=> ?_
  ·match a,f with
   | [],_=>exact SoK.nil
   | [x],_=>exact SoK.one x
   |x::y::t,f=>simp only [WP] at f;omega
  have q:((a.length:Int).tdiv 2).toNat=a.length / 2:=by
   rw [We W];omega
  have d:0<=(a.length:Int).tdiv 2:=by rw [We W];omega
  have p:(a.length:Int).tdiv 2<=a.length:=by rw [We W];omega
  rw [q];refine bf (by constructor<;>omega) (bf ⟨d,by omega,by omega⟩ (bf ⟨d,by omega,Xm _⟩ ?_))
  have A:(a.drop 0).take (a.length / 2 - 0)=a.take (a.length / 2):=by rw [Ws,Nat.sub_zero]
  have u:(a.drop (a.length / 2)).take (a.length - a.length / 2)=a.drop (a.length / 2):=Xf (by rw [WQ];omega);rw [A,u]
  refine (FN N j m _ (by rw [XJ];omega) (by rw [XJ];omega) fun x c=>i x (W5 c)).bind fun r hr=>(FN N j m _ (by rw [WQ];omega) (by rw [WQ];omega) fun x c=>i x (List.mem_of_mem_drop c)).bind fun z e=> ?_
  have o:=hr.2.len;have n:=e.2.len;rw [XJ] at o;rw [WQ] at n
  refine (UG N r z W (fun x c=> ?_) hr.1 e.1 j).bind fun y l=>ar ⟨l.1,?_⟩
  ·rcases WY.1 c with c|c
   ·exact i x (W5 (hr.2.mem.1 c))
   exact i x (List.mem_of_mem_drop (e.2.mem.1 c))
  have:=hr.2.app e.2;rw [Xe] at this;exact l.2.trans this
end
section
open Go.RowKit
set_option maxRecDepth 20000
theorem xa (h:k.no=1):rk k=8589934592:=by unfold rk;rw [if_neg W,h];rfl
theorem xc (h:k.no=2):rk k=17179869184:=by unfold rk;rw [if_neg W,h];rfl
theorem OF (h:k.no=0)(hb:RKey k):0<=rk k/\rk k<=4294967294:=by unfold rk;rw [if_pos h];exact hb.n h
theorem Nc {l:List Vy}{r:Int}(h:∀x∈l,rk x=r):SoK l:=by
 refine Xb.2 fun i j hi a c=> ?_
 have e:=h _ (XO hi);have d:=h _ (XO a);omega
theorem SQ (N:Nat)(o:20000<=N)(a e i f:List Vy)(q:e.length+i.length+f.length<=6000)(m:∀x∈e,x.no=0/\RKey x)(l:∀x∈i,x.no=1)(j:∀x∈f,x.no=2)(n:EvK (e++(i++f)) a):Sat (zL N e i f) fun r=>SoK r/\EvK r a:=by
 unfold zL EH;refine (FN N o N e W W fun x c=>(m x c).1).bind fun r hr=> ?_
 have p:=hr.2.len;refine bf (by unfold bC;rw [WS];omega) (bf (by unfold bC;rw [XN];omega) (bf (by unfold bC;rw [XN,XI];omega) (ar ?_)));rw [XN,VT];refine ⟨hr.1.app ((Nc fun x c=>xa (l x c)).app (Nc fun x c=>xc (j x c)) fun x c y d=>by rw [xa (l x c),xc (j y d)];omega) fun x c y d=> ?_,(hr.2.app (EvK.refl _)).trans n⟩;have hx':=m x (hr.2.mem.1 c);have:=OF hx'.1 hx'.2;rcases WY.1 d with d|d
 ·rw [xa (l y d)];omega
 rw [xc (j y d)];omega
theorem Aj (N:Nat)(q:20000<=N)(a:List Vy)(F:a.length<=6000)(B:∀x∈a,keyR N x): ∀(m i:Nat) (f e d:List Vy),a.length<m+i->i<=a.length->f.length+e.length+d.length<=i->(∀x∈f,x.no=0/\RKey x)->(∀x∈e,x.no=1)->(∀x∈d,x.no=2)->EvK (f++(e++d)) (a.take i)->Sat (oa N a m f e d (i:Int)) fun r=>SoK r/\EvK r a
 |0,i,f,e,d,h,L,_,_,_,_,_=>by omega
 | m +1,i,f,e,d,h,L,M,C,t,n,p=>by
  rw [oa.eq_2];refine bq (fun K=> ?_) fun K=> ?_
  ·refine Ln W fun x E=> ?_
   have D:=W4 E;have o:=B x D;have l:=o.rk W;have a6:og N x=some true:=(MZ N q x).trans o
   have gx:ak a (i:Int)=some x:=by
    unfold ak;rw [if_neg W,Wg];exact E
   have et:a.take (i+1)=a.take i++ [x]:=by rw [List.take_add_one,E];rfl
   have H:((i:Int)+1)=((i+1:Nat):Int):=by omega
   rw [a6,bs,nt,cf,gx,bs];unfold rM;by_cases A:x.no=0
   ·rw [VQ A,ct,bs];refine bf (by unfold bC;rw [WU];omega) (bf (by constructor<;>omega) ?_);rw [H];refine Aj N q a F B m (i+1) _ e d W W (by rw [XI,WU];omega) (fun y c=> ?_) t n ?_
    ·rcases WY.1 c with c|c
     ·exact C y c
     rw [W8.1 c];exact ⟨A,l⟩
    rw [et]
    have u:=(EvK.refl f).app (EvK.swap (U:=[x]) (V:=e++d) fun y c z j=>by
     rw [W8.1 c];have:=OF A l;rcases WY.1 j with j|j
     ·rw [xa (t z j)];omega
     ·rw [xc (n z j)];omega)
    have s2:=p.app (EvK.refl [x]);rw [VT];refine u.trans ?_;rw [<-VT];exact s2
   rw [VR A,cf];by_cases k1:x.no=1
   ·rw [VQ k1,ct,bs];refine bf (by unfold bC;rw [WU];omega) (bf (by constructor<;>omega) ?_);rw [H];refine Aj N q a F B m (i+1) f _ d W W (by rw [XI,WU];omega) C (fun y c=> ?_) n ?_
    ·rcases WY.1 c with c|c
     ·exact t y c
     rw [W8.1 c];exact k1
    rw [et]
    have u:=(EvK.refl (f++e)).app (EvK.swap (U:=[x]) (V:=d) fun y c z j=>by
     rw [W8.1 c,xa k1,xc (n z j)];omega)
    have s2:=p.app (EvK.refl [x]);simp only [VT] at u s2⊢;exact u.trans s2
   have k2:x.no=2:=by have:=l.kd;omega
   rw [VR k1,cf,bs];refine bf (by unfold bC;rw [WU];omega) (bf (by constructor<;>omega) ?_);rw [H];refine Aj N q a F B m (i+1) f e _ W W (by rw [XI,WU];omega) C t (fun y c=> ?_) ?_
   ·rcases WY.1 c with c|c
    ·exact n y c
    rw [W8.1 c];exact k2
   rw [et];have s2:=p.app (EvK.refl [x]);simp only [VT] at s2⊢;exact s2
  rw [Xf W] at p;exact SQ N q a f e d W C t n p
theorem abH (N:Nat)(f:20000<=N)(a:List Vy)(d:a.length<=6000)(e:∀x∈a,keyR N x):Sat (vg N a) fun r=>SoK r/\EvK r a:=
 Aj N f a d e N 0 [] [] [] W W (by simp) (fun x c=>by cases c) (fun x c=>by cases c) (fun x c=>by cases c) (by simpa using EvK.refl [])
set_option maxRecDepth 20000
section
variable {N n b:Nat}(a:20000<=N)(e:n<=4){w:VK}{A:Nat->Int}{P:Nat->List VN}{l:List VB}(h:Sr N n b w A C P l)
include a e h
theorem GD (l:VOk n v):mV N w 20 (n:Int) (bm A v)=some v:=by
 unfold mV;rw [wE];by_cases c:v.no=7
 ·obtain ⟨d,q,p⟩:=l.ref c
  have ev:(⟨7,v.N,⟨#[]⟩⟩:VH)=v:=by
   obtain ⟨k,x,s⟩:=v;have c:k=7:=c;have d:s=⟨#[]⟩:=d;subst c d;rfl
  rw [VQ c,nt,cf,kU c]
  have key: ∀m i:Nat,v.N.toNat<m+i->i<=v.N.toNat->zZ N 20 (n:Int) w (⟨7,A v.N.toNat,⟨#[]⟩⟩:VH) m (i:Int)=some v:=by
   intro m
   induction m with
   |zero=>intro i a b;omega
   |succ m f=>
    intro i a b;rw [zZ.eq_2,VQ (show (i:Int)<(n:Int) by omega),ct,ce (by constructor<;>omega),h.st.at_ (j:=i) W,bs];by_cases e:i=v.N.toNat
    ·rw [VQ (show (⟨7,A i,⟨#[]⟩⟩:VH)=⟨7,A v.N.toNat,⟨#[]⟩⟩ by rw [e]),ct,show ((i:Nat):Int)=v.N by omega,ev]
    rw [VR fun o=>e (h.st.inj _ _ W W (congrArg VH.N o)),cf,ce (by constructor<;>omega)];exact f (i+1) W W
  exact key N 0 W W
 rw [VR c,nf,ct,kT c]
theorem NT {p:VN}(c:iN n p):se N w 20 (n:Int) (dl (bm A) p)=some p:=by
 unfold se;show Option.bind (mV N w 20 (n:Int) (bm A p.Value)) _=_;rw [GD a e h c.1,bs];show Option.bind (mV N w 20 (n:Int) (bm A p.Yc)) _=_;rw [GD a e h c.2.1,bs];show Option.bind (mV N w 20 (n:Int) (bm A p.Yd)) _=_;rw [GD a e h c.2.2,bs];rfl
end
theorem aa2 {N:Nat}(j:20000<=N){i:Int}(d:v.no=7)(a:v.N=i){k q:Nat}(e:k<=580){w:VK}(f:c.XP.length<=2200)(h:Obj N i k q w c PL):uQ N w v=rZ N (PL.map (·.XZ)):=by
 unfold uQ;rw [jn d a e f h,bs];show Option.bind (nF N w.Ya c.XV) _=_;rw [Ng N W h.wd.ti h.oc.row,bs,List.map_map];show (rZ N (PL.map (·.XZ))).bind _=_;cases rZ N (PL.map (·.XZ))<;>rfl
theorem JZ {N:Nat}(m:VB)(hm:m.Row.length<=1000): ∀(k j:Nat) (p:List Vy),m.Row.length<k+j->j<=m.Row.length->p.length<=j->Ac N m k p (j:Int)=vg N (p++(m.Row.drop j).map (·.XZ))
 |0,j,p,h,c,_=>by omega
 | k+1,j,p,h,c,d=>by
  rw [Ac.eq_2];by_cases a:j<m.Row.length
  ·rw [VQ W,ct,bz a,bs,rF (by rw [WU];omega),ce (by constructor<;>omega),Wn a];have:=JZ (N:=N) m hm k (j+1) (p++ [m.Row[j].XZ]) W W (by rw [XI,WU];omega);rw [VT] at this;exact this
  rw [VR W,cf,List.drop_of_length_le W,List.map_nil,Wj];unfold EP;cases vg N p<;>rfl
theorem JJ (N:Nat)(a:List Vy)(c:a.length<=6000): ∀(m j:Nat),a.length<m+j->j<=a.length->yM N a a m (j:Int)=some true
 |0,j,h,e=>by omega
 | m+1,j,h,e=>by
  rw [yM.eq_2];by_cases d:j<a.length
  ·rw [VQ W,ct,bz d,bs,bs,VQ rfl,nt,cf,ce (by constructor<;>omega)];exact JJ N a c m (j+1) W W
  rw [VR W,cf];rfl
section
variable {N n b:Nat}(e:20000<=N)(q:n<=4)(hb:b<=120){w:VK}{A:Nat->Int}{P:Nat->List VN}{l:List VB}(h:Sr N n b w A C P l){i:Nat}(hi:l[i]? =some m)
include e q hb h hi
theorem Tw (key:Vy):zv N 20 (n:Int) w m key ⟨7,A i,⟨#[]⟩⟩=some true:=by
 have c:i<n:=by have:=(WH.1 hi).1;have:=h.len;omega
 obtain ⟨D,B,F⟩:=h.row i m hi;obtain ⟨r1,E⟩:=h.rowOk hi;have ob:=h.st.ob.ob i c
 have u:(C i).XP.length<=2200:=by rw [h.st.ob.more c];exact Xt _
 have hown:=ab8 e (v:=⟨7,A i,⟨#[]⟩⟩) rfl rfl W u ob key;rw [D,LQ (qu A)] at hown;unfold zv;rw [hown,bs];rcases FV (PL:=m.Row) (k:=key) with ⟨j,p,d,o,z⟩|a
 ·have t:=(WH.1 d).1;have l:ak m.Row (j:Int)=some p:=(bz t).trans (congrArg some (WH.1 d).2)
  have f:bZ m.Row key=(p,true):=by rw [<-o];exact wi r1.nd d
  rw [F9 e W d o z,bs,VR W,cf,f];show Option.bind (bif true then _ else _) _=_;rw [ct,l,bs];show Option.bind (Option.bind (se N w 20 (n:Int) (dl (bm A) p)) _) _=_;rw [NT e q h (B p (W4 d)),bs,bs,VQ rfl]
 have f:bZ m.Row key=(zeroP,false):=wk a;rw [Gd e W a,bs,VQ W,ct,f];show Option.bind (bif !false then some (decide (dl (bm A) zeroP=zeroP)) else _) _=_;rw [NY (qu A),VQ rfl];rfl
theorem abR (key:Vy):z8 N w 20 (n:Int) (i:Int) m key=some true:=by
 have U:=(WH.1 hi).1
 have c:i<n:=by have:=h.len;omega
 obtain ⟨L,Z,X⟩:=h.row i m hi;obtain ⟨r1,r2⟩:=h.rowOk hi;have ob:=h.st.ob.ob i c
 have B:(C i).XP.length<=2200:=by rw [h.st.ob.more c];exact Xt _
 have t:=h.pr.at_ i c;have o:=h.pr.rng i c;rw [wH hi] at t o
 have u:(P i).map (·.XZ)=m.Row.map (·.XZ):=by
  rw [L];unfold gh;rw [List.map_map];rfl
 have z: ∀x∈m.Row.map (·.XZ),keyR N x:=fun x K=>by
  rw [<-u] at K;obtain ⟨p,T,rfl⟩:=W3.1 K;exact (ob.key T).1
 have f:(m.Row.map (·.XZ)).length<=6000:=by rw [XK];omega
 obtain ⟨l,k1,k2,H⟩:=ab4 N e _ f z;obtain ⟨M,R,Q,O⟩:=abH N e _ f z;have E:l=M:=k2.uniq Q (H.trans O.symm);subst E
 have hksl:l.length<=6000:=by rw [H.len];exact f
 have D:Aq N m=some l:=by
  unfold Aq;have:=JZ (N:=N) m W N 0 [] W W (Xm _);rw [Ws,XN,R] at this;exact this
 have hsame:yU N l l=some true:=by
  unfold yU;rw [VQ rfl,nt,cf];exact JJ N l hksl N 0 W W
 have hprops:rH N w ⟨7,A i,⟨#[]⟩⟩=some (gh (bm A) m.Row):=by rw [UF e (v:=⟨7,A i,⟨#[]⟩⟩) rfl rfl W B ob,L]
 have d:(gh (bm A) m.Row).length=m.Row.length:=by unfold gh;rw [XK]
 have loop: ∀k j:Nat,m.Row.length<k+j->j<=m.Row.length->zy N 20 (n:Int) (gh (bm A) m.Row) w m key ⟨7,A i,⟨#[]⟩⟩ k (j:Int)=some true:=by
  intro k
  induction k with
  |zero=>intro j a b;omega
  | succ k S=>
   intro j a b;rw [zy.eq_2,d];by_cases F:j<m.Row.length
   ·have V:ak (gh (bm A) m.Row) (j:Int)=some (dl (bm A) m.Row[j]):=by
     rw [bz (by rw [d];exact F)];unfold gh;rw [WN]
    rw [VQ W,ct,V,bs,bz F,bs,NT e q h (Z _ (XO F)),bs,VQ rfl,nt,cf,ce (by constructor<;>omega)];exact S (j+1) W W
   rw [VR W,cf];exact Tw e q hb h hi key
 unfold z8;rw [ce (by constructor<;>omega),h.st.at_ c,bs,acv (v:=⟨7,A i,⟨#[]⟩⟩) rfl rfl W B ob,bs,X,beq_self_eq_true,nt,cf,Mh (v:=⟨7,A i,⟨#[]⟩⟩) rfl rfl W B ob t,bs,h.st.proto_ W o,bs,VQ rfl,nt,bs,cf,aa2 e (v:=⟨7,A i,⟨#[]⟩⟩) rfl rfl W B ob,u,k1,bs,D,bs,hsame,bs,nt,bs,cf,hprops,bs,d,VQ rfl,nt,cf];exact loop N 0 W W
end
end
section
open Go.RowKit
set_option maxRecDepth 20000
theorem ab6 {N:Nat}(a:20000<=N):rN N=some (wS 0):=by
 obtain ⟨K,rfl⟩: ∃K,N=K+64:=⟨N - 64,by omega⟩;unfold rN;rw [acC K,bs];rfl
set_option maxRecDepth 20000
theorem adr (a:Int):aM .i64 a 3=0\/aM .i64 a 3=1\/aM .i64 a 3=2\/aM .i64 a 3=3:=by
 have h:(BitVec.ofInt IntKind.i64.bits a&&&BitVec.ofInt IntKind.i64.bits 3).toNat<=3:=by
  rw [BitVec.toNat_and];exact Nat.and_le_right
 unfold aM
 revert h
 generalize (BitVec.ofInt IntKind.i64.bits a&&&BitVec.ofInt IntKind.i64.bits 3).toNat=n;intro h
 match n,h with
 |0,_=>exact .inl I
 |1,_=>exact .inr (.inl I)
 |2,_=>exact .inr (.inr (.inl I))
 |3,_=>exact .inr (.inr (.inr I))
 |n+4,h=>omega
theorem Sat.of_eq {ρ:Type}{m m':Option ρ}{R:ρ->Prop}(e:m=m')(h:Sat m' R):Sat m R:=by rw [e];exact h
def CQ (N n b:Nat)(w:VK)(l:List VB):Prop:= ∃A C P,Sr N n b w A C P l
theorem UE {N n b:Nat}(c:20000<=N)(a:0<n){w:VK}{l:List VB}(h:CQ N n b w l):xZ N w=some true:=by
 obtain ⟨A,C,P,h⟩:=h;have pl:=(h.st.ob.ob 0 a).wd.pl;unfold xZ yh;rw [bs,pl.ok W,bs,VQ rfl,ct,Ni c,bs,bs]
theorem Jp {N n b:Nat}(o:20000<=N)(f:n<=4)(hb:b<=120){d:Int}(l:1+aM .i64 d 3=(n:Int))(a1:List Vx){x:Vx}(e:ak a1 (j:Int)=some x){y42:List VB×Bool}{y45:Bool×VK}(h:CQ N n b y45.2 y42.1)(c:List VB->Int->VK->Option Bool): ∀(m i:Nat),n<m+i->i<=n->xX N c d 20 (j:Int) a1 y42 y45 m (i:Int)=xY N c d 20 (j:Int) a1 y42.1 y45.2
 |0,i,q,p=>by omega
 | m+1,i,q,p=>by
  obtain ⟨A,C,P,h⟩:=h;have t:=h.len;rw [xX.eq_2,l];by_cases u:i<n
  ·have a:i<y42.1.length:=by omega
   rw [VQ W,ct,bz a,bs,e,bs,abR o f hb h (WF a) x.K,bs,nt,cf,ce (by constructor<;>omega)];exact Jp o f hb l a1 e ⟨A,C,P,h⟩ c m (i+1) W W
  rw [VR W,cf]
theorem KJ {N n:Nat}(d:20000<=N)(f:n<=4)(c:0<n){o:Int}(t:1+aM .i64 o 3=(n:Int))(a1:List Vx)(K:a1.length<=40)(a:∀x∈a1,OpOk n x): ∀(m j:Nat) (w:VK) (l:List VB),a1.length<m+j->j<=a1.length->CQ N n j w l->Sat (pm N o 20 a1 m l (j:Int) w) (· =true)
 |0,j,w,l,h,M,_=>by omega
 | m+1,j,w,l,h,M,u=>by
  rw [pm.eq_2];by_cases z:j<a1.length
  ·have F:=a _ (XO z);have q:ak a1 (j:Int)=some a1[j]:=bz z;rw [VQ W,ct,q,bs];generalize a1[j]=x at*;obtain ⟨A,C,P,H⟩:=u;obtain ⟨r,e,p,E,D,B,i,hs'⟩:=ac8 d f W H F;rw [i,bs,bs,e,bs,beq_self_eq_true,nt,cf];have:=Jp d f W t a1 q (y42:=(p,r.1)) (y45:=r) ⟨E,D,B,hs'⟩ (pm N o 20 a1 m) N 0 W W;refine Sat.of_eq this ?_;unfold xY;refine bf (by constructor<;>omega) ?_;exact KJ d f c t a1 K a m (j+1) r.2 p W W ⟨E,D,B,hs'⟩
  have L:j=a1.length:=by omega
  subst L;rw [VR W,cf];exact ⟨_,UE d c u,J⟩
def CB:VB:=⟨-1,true,[]⟩
theorem SC {N n:Nat}(h:n<=4)(f:∀j,j<n->(iM (wS n) j).XQ=[nullV]/\dP (iM (wS n) j)=true):CQ N n 0 (wS n) (List.replicate n CB):=by
 have c: ∀x,fM (List.replicate n CB) x= -1:=fun x=>by
  unfold fM;split
  ·cases e:(List.replicate n CB)[x.toNat]? with
   |none=>rfl
   |some m=>
    have:=List.eq_of_mem_replicate (W4 e);subst this;rfl
  rfl
 refine ⟨_,_,_,⟨acR N n h,List.length_replicate,fun j m a=> ?_,⟨fun j a=> ?_,fun j a=> ?_,fun j a=> ?_⟩⟩⟩
 ·have d:=(WH.1 a).1;rw [List.length_replicate] at d;have:=List.eq_of_mem_replicate (W4 a);subst this;exact ⟨J,fun p c=>(by cases c),(f j d).2⟩
 ·rw [(f j a).1,c];rfl
 ·rw [c];omega
 unfold fd;rw [VR W,cond_false,c];rfl
theorem ace: ∀n:Nat,0<n->n<=4-> ∀j,j<n->(iM (wS n) j).XQ=[nullV]/\dP (iM (wS n) j)=true
 |1,_,_,0,_=>⟨by kernel_rfl,by kernel_rfl⟩
 |2,_,_,0,_=>⟨by kernel_rfl,by kernel_rfl⟩
 |2,_,_,1,_=>⟨by kernel_rfl,by kernel_rfl⟩
 |3,_,_,0,_=>⟨by kernel_rfl,by kernel_rfl⟩
 |3,_,_,1,_=>⟨by kernel_rfl,by kernel_rfl⟩
 |3,_,_,2,_=>⟨by kernel_rfl,by kernel_rfl⟩
 |4,_,_,0,_=>⟨by kernel_rfl,by kernel_rfl⟩
 |4,_,_,1,_=>⟨by kernel_rfl,by kernel_rfl⟩
 |4,_,_,2,_=>⟨by kernel_rfl,by kernel_rfl⟩
 |4,_,_,3,_=>⟨by kernel_rfl,by kernel_rfl⟩
theorem KM {N n:Nat}(l:20000<=N)(d:n<=4)(a:0<n){o:Int}(e:1+aM .i64 o 3=(n:Int))(a1:List Vx)(i:a1.length<=40)(c:∀x∈a1,OpOk n x): ∀(m j:Nat),n<m+j->j<=n->Sat (yf N o 20 a1 m (List.replicate j CB) (j:Int) (wS j)) (· =true)
 |0,j,h,q=>by omega
 | m+1,j,h,q=>by
  rw [yf.eq_2,e];by_cases z:j<n
  ·obtain ⟨K,rfl⟩: ∃K,N=K+64:=⟨N - 64,by omega⟩;obtain ⟨u,t⟩:=acl K j W;have f:pI (K+64) (wS j) (⟨1,0,⟨#[]⟩⟩:VH) 1=some ((tp (wS j)).1,true,(tp (wS j)).2):=u;rw [VQ W,ct,f,bs,nt,cf,t,bs,ce (by constructor<;>omega),VQ rfl,nt,cf,rF (by rw [List.length_replicate,WU];omega),ce (by constructor<;>omega)];have:=KM l d a e a1 i c m (j+1) W W;rw [List.replicate_succ'] at this;exact this
  have p:j=n:=by omega
  subst p;rw [VR W,cf];unfold DP;exact KJ l d a e a1 i c N 0 (wS j) _ W W (SC d (ace j a d))
theorem acj {N:Nat}(a:20000<=N)(c:Int)(a1:List Vx)(j:∀x∈a1,OpSz x):yw N c a1=some true:=by
 apply Sat.eq
 have o:mE N (wS 0)=some 20:=by
  obtain ⟨K,rfl⟩: ∃K,N=K+64:=⟨N - 64,by omega⟩;exact aa4 K
 obtain ⟨n,f,l,i⟩: ∃n:Nat,0<n/\n<=4/\1+aM .i64 c 3=(n:Int):=by
  rcases adr c with e|e|e|e
  ·exact ⟨1,by omega,by omega,by omega⟩
  ·exact ⟨2,by omega,by omega,by omega⟩
  ·exact ⟨3,by omega,by omega,by omega⟩
  exact ⟨4,by omega,by omega,by omega⟩
 unfold yw;rw [ce (by constructor<;>omega),ab6 a,bs];show Sat (Option.bind (vI N a1 (1+aM .i64 c 3)) _) _;rw [i];refine (ac0 (N:=N) (n:=n) a W a1 j).bind fun r hr=> ?_
 refine dz (P:=fun b=>b=false->a1.length<=40/\ ∀x∈a1,OpOk n x) (fun _=>ar fun h=>by cases h) (fun e=>ar fun _=>(hr (XF e)).2) fun b hb=>gn (fun _=> ?_) fun e=> ?_
 ·rw [Ni a,bs];exact ar J
 obtain ⟨m,d⟩:=hb e;rw [o,bs];exact KM a l f i a1 m d N 0 W W
theorem aci {a:List Vx}(h:CN (fun z=>BX z) a): ∀x∈a,OpSz x:=fun x c=>by
 have h:=h.2 x c
 have hr:reachBytes<=140737488355328:=by decide
 exact ⟨Xn h.2.2.2.1.2.2 hr,Xn h.2.2.2.2.2.1.2.2 hr,Xn h.2.2.2.2.1.2.2.1.2.2 hr⟩
theorem aav (a:Int){a1:List Vx}(h:CN (fun z=>BX z) a1):yw 20000 a a1=some true:=acj (by decide) a a1 (aci h)
end
