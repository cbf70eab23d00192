/- Merged texts: part 10. No conditions of their own. -/
import Derived.Test.YthhiddkljcacaaaGreatG9
import Derived.KernelRfl
import Derived.Test.YthhiddkljcacaaaGreatG7
import Derived.Test.YthhiddkljcacaaaGreatG8
namespace Go.Proofs.YthhiddkljcacaaaGreat
variable (N:Nat){a0:Bool}{a i t:Int}{ρ:Int->Int}{g:List Int}{PL PL':List VP}{j k k' n q q':Nat}{A:Nat->Int}{P:Nat->List VP}{C:Nat->VJ}{α:Type}{d:VF}{c c':VJ}{v x z:VN}{p:VP}{m:VR}{w':VS}{g':VU}
section
open Go.RowKit
set_option maxRecDepth 20000
theorem SlotP.move {m':VR}(h:SlotP m p x)(hh:∀a,x.XZ=9->x.N=a->aw m a=true->(aJ m a).XZ=5->aw m' a=true/\aJ m' a=aJ m a):SlotP m' p x:=by
 rcases h with h|⟨h1,h2,a,ag,rfl,h4,h5⟩
 ·exact .inl h
 obtain ⟨g1,g2⟩:=hh a rfl rfl h4 (by rw [h5]);exact .inr ⟨h1,h2,a,ag,J,g1,g2.trans h5⟩
theorem SlotP.has9 (h:SlotP m p x)(h9:x.XZ=9):(∃g s,F3 m x g s)/\aw m x.N=true:=by
 rcases h with ⟨-, -, -, -,h⟩|⟨-, -,a,ag,rfl,h4,h5⟩
 ·exact absurd h9 h
 exact ⟨⟨_,_,a,ag,J,h4,h5⟩,h4⟩
theorem Obj.pair9 {N:Nat}{w:VS}(h:Obj N i k q w c PL)(hx:c.Yb[n+1]? =some x)(h9:x.XZ=9):(∃g s,F3 w.Yi.m_ x g s)/\aw w.Yi.m_ x.N=true:=by
 have hlt:=(WQ.1 hx).1
 have hn:n<PL.length:=by have:=h.num;omega
 obtain ⟨y,hy,hs⟩:=h.each n PL[n] (WO hn);have:y=x:=XH (hy.symm.trans hx);subst this;exact hs.has9 h9
structure FrO (i:Int) (w w':VS) (c c':VJ):Prop where
 fr:FrW w w'
 le:Le w.Yk w'.Yk
 rest: ∀a,aw w.Yi.m_ a=true->a≠i->(∀(n:Nat) x,c.Yb[n+1]? =some x->x.XZ=9->x.N≠a)->aJ w'.Yi.m_ a=aJ w.Yi.m_ a
 new: ∀(n:Nat) x,c'.Yb[n+1]? =some x->x.XZ=9->(∃n':Nat,c.Yb[n'+1]? =some x)\/aw w.Yi.m_ x.N=false
theorem FrO.refl (i:Int)(w:VS)(c:VJ):FrO i w w c c:=⟨FrW.refl w,Le.refl _,fun _ _ _ _=>rfl,fun n _ h _=> .inl ⟨n,h⟩⟩
structure Same (c c':VJ):Prop where
 kind:c'.XZ=c.XZ
 more:c'.Ya=c.Ya
 flags:c'.Ye=c.Ye
 head:c'.Yb[0]? =c.Yb[0]?
theorem D8 {N:Nat}(hN:20000<=N)(hv:v.XZ=7)(hvN:v.N=i){M M':Nat}(hk:k'<=580)(hM:M'<=2200){w:VS}(hw:Wd N k q M w)(ha:aw w.Yi.m_ i=true)(hc:aJ w.Yi.m_ i=c)(hage:c'.Yg=c.Yg)(hkd:c'.XZ=1\/c'.XZ=2)(hr:bj c'=true)(hrf:Px w.Yi.m_ c')(h1:k+c'.Yb.length<=k'+c.Yb.length)(h2:M+c'.Ya.length<=M'+c.Ya.length):
  cB N w v c'=some (EE w (ga w.Yi i c'))/\Wd N k' q M' (EE w (ga w.Yi i c'))/\FrW w (EE w (ga w.Yi i c'))/\(∀x,aw w.Yi.m_ x=true->aJ (ga w.Yi i c').m_ x=if x=i then c' else aJ w.Yi.m_ x):=by
 have hb:Hb k' M' (ga w.Yi i c'):=Lh hw.hb ha (by rw [hc];exact h1) (by rw [hc];exact h2);obtain ⟨p1,p2,p3⟩:=hw.pl.putK hk hM ha hr (by rcases hkd with h|h<;>constructor<;>omega) hrf hb
 have ec:Bv c' (aJ w.Yi.m_ i).Yg=c':=by rw [hc, <-hage];rfl
 have hsz:c'.Yb.length<=600/\c'.Ya.length<=2900:=by
  have hh:aw (ga w.Yi i c').m_ i=true:=(p2 i).trans ha;have:=hb.cell (mP hh);rw [p3 i ha,if_pos rfl,ec] at this;omega
 refine ⟨?_,⟨p1,hb,hw.ti,hw.tb,hw.ep⟩,⟨(xZ _ _ _).2.1,fun x hx=>(p2 x).trans hx,J,J⟩,fun x hx=>by rw [p3 x hx,ec]⟩;have:=SO (x:=v) hN hw.pl (by unfold bd;rw [hv];rfl) (by rw [hvN];exact ha) hsz hr;rw [this,hvN]
def iO (c:VJ):Bool:=!decide (aq .i64 c.Ye 16=0)
def yK (t:Bool)(w:VS):VS:=⟨w.Yu,w.Yn,(),w.Yi,w.Yk,w.Yv,w.Yo+(bif t then 1 else 0),w.YB,w.YC,w.Yw,w.Yx⟩
theorem Ik (w:VS):yK false w=w:=by
 show (⟨w.Yu,w.Yn,(),w.Yi,w.Yk,w.Yv,w.Yo+0,w.YB,w.YC,w.Yw,w.Yx⟩:VS)=w;rw [Int.add_zero]
theorem Em {N:Nat}{w:VS}(hp:cB N w v c'=some w')(he:0<=w'.Yo/\w'.Yo<=2000000000)(b:Bool):bn N ⟨c',w,v⟩ b=some ⟨c',yK (b&&iO c') w',v⟩:=by
 unfold bn;have e:cT N w v c'=some w':=hp;show Option.bind (cT N w v c') _=_;rw [e,bs];show Option.bind (bif b then (some (iO c')) else (some false)) _=_
 have eT:ip N w'=some (yK true w'):=by
  unfold ip;rw [gp (by constructor<;>omega)];rfl
 cases b with
 |false=>rw [cf,bs,cf,Wj,Ik]
 |true=>
  rw [ct,bs,Wl]
  cases iO c' with
  |false=>rw [cf,Ik]
  |true=>rw [ct,eT,bs]
def Ax (PL:List VP)(p:VP):List VP:=match PL.findIdx? (fun x=>decide (x.Yl=p.Yl)) with
 |some n=>PL.set n p
 |none=>PL++ [p]
theorem PV (h:∀x∈PL,x.Yl≠p.Yl):Ax PL p=PL++ [p]:=by
 unfold Ax;rw [List.findIdx?_eq_none_iff.2 fun x hx=>by simp [h x hx]]
theorem PW (hn:(PL.map (·.Yl)).Nodup){x:VP}(hp:PL[n]? =some x)(e:x.Yl=p.Yl):Ax PL p=PL.set n p:=by
 have h4:=WQ.1 hp
 cases e1:PL.findIdx? (fun x=>decide (x.Yl=p.Yl)) with
 |none=>exact absurd e (by simpa using List.findIdx?_eq_none_iff.1 e1 x (Xd hp))
 |some m=>
  obtain ⟨h1,h2, -⟩:=List.findIdx?_eq_some_iff_getElem.1 e1
  have h2:PL[m].Yl=p.Yl:=by simpa using h2
  have:m=n:=(List.getElem_inj (h₀:=by rw [XU];exact h1) (h₁:=by rw [XU];exact h4.1) hn).1 (by rw [WW,WW,h2,h4.2,e]);subst this;unfold Ax;rw [e1]
section
variable {N:Nat}(hN:20000<=N)(hv:v.XZ=7)(hvN:v.N=i){w:VS}(h:Obj N i k q w c PL)
include hN hv hvN h
theorem RI (hk:k+4<=580)(hM:c.Ya.length<=2200)(hq':q+1<=q')(hq2:q'<=1000000000){t:VH}(ht:TI N t)(hle:Le w.Yk t)(htb:t.Yk.length<=q'){old:VN}{r:VN×VS}(hr:Slotted N k q' c.Ya.length (Mf w t) p old r)(hold:old.XZ≠9\/c.Yb[n+1]? =some old)(sh:Int)(sl:List VN)(PL':List VP)(hrow:Row t sh (PL'.map Iu))(hnd:(PL'.map (·.Yl)).Nodup)(hnum:sl.length=PL'.length+1)(hn:PL'.length<=PL.length+1)(hn2:PL'.length<=1024)(h0:sl[0]? =c.Yb[0]?)(h1:sl[n+1]? =some r.1)(h2:PL'[n]? =some (mG p))(h3:∀m,m≠n->sl[m+1]? =c.Yb[m+1]?)(h4:∀m,m≠n->PL'[m]? =PL[m]?)(b:Bool):
  ∃w',bn N ⟨⟨c.XZ,sh,c.Ye,c.Yg,sl,c.Ya⟩,r.2,v⟩ b=some ⟨⟨c.XZ,sh,c.Ye,c.Yg,sl,c.Ya⟩,w',v⟩/\Obj N i (k+4) q' w' ⟨c.XZ,sh,c.Ye,c.Yg,sl,c.Ya⟩ PL'/\FrO i w w' c ⟨c.XZ,sh,c.Ye,c.Yg,sl,c.Ya⟩/\w'.Yo=w.Yo+(bif b&&iO c then 1 else 0):=by
 have hrc:=o6 h.right;have hnum0:=h.num;have hi:aw r.2.Yi.m_ i=true:=hr.fr.has i h.has
 have hne:old.XZ=9->old.N≠i:=fun h9 e=>by
  rcases hold with ho|ho
  ·exact ho h9
  obtain ⟨⟨g,s,a,ag,e1,e2,e3⟩, -⟩:=h.pair9 ho h9;rw [e1] at e;have e:a=i:=e;rw [e,h.at_] at e3;rcases h.oc.kind with hkd|hkd<;>rw [e3] at hkd<;>cases hkd
 have hat:aJ r.2.Yi.m_ i=c:=(hr.rest i h.has hne).trans h.at_;obtain ⟨z,z1,z2⟩:=h.oc.proto
 have hmem: ∀x∈sl,x∈c.Yb\/x=r.1:=fun x hx=>by
  obtain ⟨m,hm⟩:=List.getElem?_of_mem hx
  cases m with
  |zero=>rw [h0] at hm;exact .inl (Xd hm)
  |succ m=>
   by_cases e:m=n
   ·subst e;exact .inr (XH (hm.symm.trans h1))
   rw [h3 m e] at hm;exact .inl (Xd hm)
 have hval: ∀x∈sl++c.Ya,ValW r.2.Yi.m_ x:=fun x hx=>by
  rcases W8.1 hx with hx|hx
  ·rcases hmem x hx with hx|rfl
   ·exact (h.val (V4 _ hx)).mono hr.fr.has
   exact hr.val
  exact (h.val (V5 _ hx)).mono hr.fr.has
 have hR:bj (⟨c.XZ,sh,c.Ye,c.Yg,sl,c.Ya⟩:VJ)=true:=by
  obtain ⟨s',s1', -⟩:=hrow.has ht;refine zb h.oc.kind s1'.1 hrc.2.1 hrc.2.2 (fun x hx=>(hval x (V4 _ hx)).may) (fun x hx=>(hval x (V5 _ hx)).may) (by show sl.length<=1025;omega) (z:=z) (by show sl[0]? =some z;rw [h0];exact z1) z2 (by show c.Ya.length<=4096;omega) h.oc.plain
 obtain ⟨e1,e2,e3,e4⟩:=D8 (k':=k+4) (M':=c.Ya.length) hN hv hvN U hM hr.wd hi hat (c':=⟨c.XZ,sh,c.Ye,c.Yg,sl,c.Ya⟩) rfl h.oc.kind hR (fun x hx=>⟨(hval x hx).i64,(hval x hx).ref⟩) (by show k+3+sl.length<=k+4+c.Yb.length;omega) (Xx _);have hfr:FrW w (EE r.2 (ga r.2.Yi i ⟨c.XZ,sh,c.Ye,c.Yg,sl,c.Ya⟩)):=FrW.trans (b:=r.2) ⟨hr.fr.roots,hr.fr.has,hr.fr.spent,hr.fr.config⟩ e3
 -- cells of pairs that are not written stay
 have hkeep: ∀a,aw w.Yi.m_ a=true->a≠i->(old.XZ=9->old.N≠a)->aJ (ga r.2.Yi i (⟨c.XZ,sh,c.Ye,c.Yg,sl,c.Ya⟩:VJ)).m_ a=aJ w.Yi.m_ a:=fun a ha hni ho=>by
  rw [e4 a (hr.fr.has a ha),if_neg hni,hr.rest a ha ho];rfl
 have hep:r.2.Yo=w.Yo:=hr.ep;have hep0:=h.wd.ep;refine ⟨_,Em e1 (by show 0<=r.2.Yo/\r.2.Yo<=2000000000;omega) b,⟨⟨e2.pl,e2.hb,?_,?_,?_⟩,hfr.has i h.has,?_,⟨h.oc.kind,⟨z,by show sl[0]? =some z;rw [h0];exact z1,z2⟩,h.oc.plain,?_,?_,?_⟩,fun m p' hp'=> ?_,fun m m' x y hmm hx hy h9 h9'=> ?_⟩,⟨⟨hfr.roots,hfr.has,hfr.spent,hfr.config⟩,?_,fun a ha hni hp=> ?_,fun m x hx h9=> ?_⟩,?_⟩
 ·show TI N r.2.Yk;rw [hr.tab];exact ht
 ·show r.2.Yk.Yk.length<=q';rw [hr.tab];exact htb
 ·show 0<=r.2.Yo+_/\r.2.Yo+_<=(q':Int);cases (b&&iO (⟨c.XZ,sh,c.Ye,c.Yg,sl,c.Ya⟩:VJ))
  ·show 0<=r.2.Yo+0/\r.2.Yo+0<=(q':Int);omega
  show 0<=r.2.Yo+1/\r.2.Yo+1<=(q':Int);omega
 ·show aJ (ga r.2.Yi i _).m_ i=_;rw [e4 i hi,if_pos rfl]
 ·show Row r.2.Yk sh _;rw [hr.tab];exact hrow
 ·show sl.length=(PL'.map Iu).length+1;rw [XU];exact hnum
 ·rw [List.map_map];exact hnd
 ·show∃x,sl[m+1]? =some x/\SlotP (ga r.2.Yi i _).m_ p' x;by_cases e:m=n
  ·subst e;have:p'=mG p:=XH (hp'.symm.trans h2);subst this;refine ⟨r.1,h1,hr.slot.move fun a _ _ ha h5=>⟨e3.has a ha,?_⟩⟩;show aJ (ga r.2.Yi i _).m_ a=_;rw [e4 a ha,if_neg fun e=> ?_];subst e;rw [hat] at h5;rcases h.oc.kind with hkd|hkd<;>rw [h5] at hkd<;>cases hkd
  rw [h4 m e] at hp';obtain ⟨x,hx,hs⟩:=h.each m p' hp';refine ⟨x,(h3 m e).trans hx,hs.move fun a h9 hxa ha h5=>⟨hfr.has a ha,hkeep a ha (fun e=> ?_) fun ho9 e'=> ?_⟩⟩
  ·subst e;rw [h.at_] at h5;rcases h.oc.kind with hkd|hkd<;>rw [h5] at hkd<;>cases hkd
  rcases hold with ho|ho
  ·exact ho ho9
  exact h.inj n m old x (fun e2=>e e2.symm) ho hx ho9 h9 (e'.trans hxa.symm)
 ·have hx:sl[m+1]? =some x:=hx;have hy:sl[m'+1]? =some y:=hy
  have aux: ∀(a b:Nat) (x y:VN),a=n->b≠n->sl[a+1]? =some x->sl[b+1]? =some y->x.XZ=9->y.XZ=9->x.N≠y.N:=fun a b x y ea eb hx hy h9 h9' e=>by
   subst ea;rw [h3 b eb] at hy;have:r.1=x:=XH (h1.symm.trans hx);subst this;have a6:=(h.pair9 hy h9').2;rcases hr.fresh h9 with hf|hf
   ·rcases hold with ho|ho
    ·rw [hf] at h9;exact ho h9
    exact h.inj a b old y (fun e2=>eb e2.symm) ho hy (by rw [<-hf];exact h9) h9' (by rw [<-hf];exact e)
   have hf:aw w.Yi.m_ r.1.N=false:=hf;rw [e,a6] at hf;cases hf
  by_cases e:m=n
  ·exact aux m m' x y e (fun e'=>hmm (e.trans e'.symm)) hx hy h9 h9'
  by_cases e':m'=n
  ·exact fun h=>aux m' m y x e' e hy hx h9' h9 h.symm
  rw [h3 m e] at hx;rw [h3 m' e'] at hy;exact h.inj m m' x y hmm hx hy h9 h9'
 ·show Le w.Yk r.2.Yk;rw [hr.tab];exact hle
 ·refine hkeep a ha hni fun ho9 e=> ?_
  rcases hold with ho|ho
  ·exact ho ho9
  exact hp n old ho ho9 e
 ·have hx:sl[m+1]? =some x:=hx;by_cases e:m=n
  ·subst e;have:r.1=x:=XH (h1.symm.trans hx);subst this;rcases hr.fresh h9 with hf|hf
   ·rcases hold with ho|ho
    ·rw [hf] at h9;exact absurd h9 ho
    exact .inl ⟨m,by rw [hf];exact ho⟩
   exact .inr hf
  rw [h3 m e] at hx;exact .inl ⟨m,hx⟩
 show r.2.Yo+(bif b&&iO c then 1 else 0)=_;rw [hep]
end
end
section
open Go.RowKit
set_option maxRecDepth 20000
theorem IK {q:List α}{a:α}(h:q[n]? =some a):q.set n a=q:=by
 apply WE;intro j;by_cases e:n=j
 ·subst e;rw [WT (WQ.1 h).1,h]
 rw [WS e]
theorem I0 (p:VP):(mG p).Yl=p.Yl/\(mG p).Yh=p.Yh:=by
 unfold mG;cases decide (aq .i64 p.Yh 8=0)<;>exact ⟨rfl,rfl⟩
def Ep (c c':VJ)(w w':VS):Prop:=w'.Yo=w.Yo+(bif !decide (c'.Yf=c.Yf)&&iO c then 1 else 0)
theorem Row.one {t:VH}{l l':List (VI×Int)}(r:Row t i l)(r':Row t i l'):l=l':=by
 induction r generalizing l' with
 | nil h1 h2=>
  cases r' with
  |nil=>rfl
  |snoc h3 h4 _=>
   have:=h1.one h3;subst this;omega
 | snoc h1 h2 _ ih=>
  cases r' with
  |nil h3 h4=>
   have:=h1.one h3;subst this;omega
  |snoc h3 h4 r'=>
   have:=h1.one h3;subst this;rw [ih r']
def SI (i:Int)(k q:Nat)(w:VS)(c:VJ)(PL':List VP)(w':VS):Prop:= ∃c',Obj N i k q w' c' PL'/\Same c c'/\FrO i w w' c c'/\Ep c c' w w'
section
variable {N:Nat}(hN:20000<=N)(hv:v.XZ=7)(hvN:v.N=i){w:VS}(h:Obj N i k q w c PL)(hk:k+4<=580)(hq:q+1024<=1000000000)(hM:c.Ya.length<=2200)
include hN hv hvN h hk hq hM
theorem NE (hp:PropW w.Yi.m_ p)(hR:C2 N p.Yl)(hA:xq p.Yh)(hlen:PL.length<1024):Sat (fW N ⟨c,w,v⟩ p) fun r=>r.1=true/\SI N i (k+4) (q+1024) w c (Ax PL (mG p)) r.2.w_:=by
 have hb:w.Yk.Yk.length+1024<=1073741824:=by have:=h.wd.tb;omega
 have hnum:=h.num
 have hwd: ∀t:VH,Le w.Yk t->TI N t->t.Yk.length<=q+1024->Wd N k (q+1024) c.Ya.length (Mf w t):=fun t _ h2 h3=>⟨h.wd.pl,h.wd.hb,h2,h3,h.wd.ep.1,by have:=h.wd.ep.2;show w.Yo<=_;omega⟩
 unfold fW;show Sat (Option.bind (cJ N ⟨c,w,v⟩ p.Yl) _) _
 refine (J2 (v:=v) hN U hM h p.Yl).bind fun y hy=> ?_
 rcases hy with ⟨a6,hno⟩|⟨n,u,a6,hn,hu⟩
 ·have y3:y.2.2=false:=by rw [a6]
  rw [y3,nf,ct];obtain ⟨s,s1,s2⟩:=h.oc.row.has h.wd.ti;rw [XU] at s2
  refine Sat.bind (P:=(· =s.YA)) ⟨_,KB N s1,J⟩ fun z hz=> ?_
  subst hz
  refine aK (fun h3=>by omega) fun h3=> ?_
  refine (Qa N U h.wd.ti hb h.oc.row p.Yl p.Yh (fun x hx=> ?_) (by rw [XU];omega)).bind fun r hr=> ?_
  ·obtain ⟨x',h1,rfl⟩:=Xc.1 hx;exact hno x' h1
  rcases hr with ⟨-, -,r3,r4,r5⟩|⟨r1, -, -⟩
  ·rw [r3];show Sat (Option.bind _ _) _
   have htb:r.2.2.Yk.length<=q+1024:=by have:=r4.num;have:=h.wd.tb;omega
   refine (NJ (w:=Mf w r.2.2) (k:=k) hN U hM (hwd _ r4.le r4.ti htb) (c':=⟨c.XZ,r.1,c.Ye,c.Yg,c.Yb,c.Ya⟩) (v':=v) hp (old:=⟨0,0,⟨#[]⟩⟩) (.inl (by show (0:Int)≠9;decide))).bind fun x hx=> ?_
   refine dN (by unfold ci;rw [W4];show c.Yb.length+1<=_;have:=h.len;omega) ?_;unfold nh;have hnk:=I0 p
   obtain ⟨w',e1,e2,e3,e4⟩:=RI hN hv hvN h hk hM (q':=q+1024) U hq r4.ti r4.le htb hx (n:=PL.length) (.inl (by show (0:Int)≠9;decide)) r.1 (c.Yb++ [x.1]) (PL++ [mG p])
    (by rw [W5];show Row r.2.2 r.1 (PL.map Iu++ [((mG p).Yl,(mG p).Yh)]);rw [hnk.1,hnk.2];exact r5)
    (by
     rw [W5];refine Xg.2 ⟨h.nodup,by simp,fun a ha b hb' e=> ?_⟩;rw [List.map_singleton,Xf,hnk.1] at hb';obtain ⟨u,u1,u2⟩:=Xc.1 ha
     exact hno u u1 (by rw [u2,e,hb']))
    (by rw [XS,XS,W4,W4];omega)
    (by rw [XS,W4];omega) (by rw [XS,W4];omega)
    (by rw [WJ U])
    (by rw [WK U,show PL.length+1 - c.Yb.length=0 by omega];rfl)
    (by rw [WK (Xx _),Nat.sub_self];rfl)
    (fun m hm=>by
     by_cases hlt:m<PL.length
     ·rw [WJ U]
     ·rw [WP (by rw [XS,W4];omega),WP U])
    (fun m hm=>by
     by_cases hlt:m<PL.length
     ·rw [WJ hlt]
     ·rw [WP (by rw [XS,W4];omega),WP U]) true
   have e1':bn N ⟨⟨c.XZ,r.1,c.Ye,c.Yg,c.Yb++ [x.1],c.Ya⟩,x.2,v⟩ true=some ⟨⟨c.XZ,r.1,c.Ye,c.Yg,c.Yb++ [x.1],c.Ya⟩,w',v⟩:=e1
   refine Sat.bind ⟨_,e1',J⟩ fun u hu=> ?_
   subst hu;refine ad ⟨J,⟨c.XZ,r.1,c.Ye,c.Yg,c.Yb++ [x.1],c.Ya⟩,?_,⟨J,J,J,?_⟩,e3,?_⟩
   ·rw [PV fun a ha=>by rw [hnk.1];exact hno a ha];exact e2
   ·show (c.Yb++ [x.1])[0]? =c.Yb[0]?;rw [WJ U]
   unfold Ep;rw [V1 fun e:r.1=c.Yf=> ?_]
   ·exact e4
   have h8:=r5;rw [e] at h8;have:=congrArg List.length (h8.one (h.oc.row.mono r4.le));rw [XS,W4] at this;omega
  exact absurd ⟨hR,hA⟩ r1
 have y1:y.1=u:=by rw [a6]
 have y2:y.2.1=(n:Int):=by rw [a6]
 have y3:y.2.2=true:=by rw [a6]
 rw [y3,nt,cf];have hlt:=(WQ.1 hn).1;have hnk:=I0 p;have hl:=h.len
 have e0:(PL.map Iu)[n]? =some (p.Yl,u.Yh):=by rw [WR,hn, <-hu];rfl
 have hset:(PL.set n (mG p)).map Iu=(PL.map Iu).set n (p.Yl,p.Yh):=by
  rw [List.map_set];show (PL.map Iu).set n ((mG p).Yl,(mG p).Yh)=_;rw [hnk.1,hnk.2]
 have hj81: ∀(sh:Int) (t':VH),Grow N w.Yk t' 1024->Row t' sh ((PL.map Iu).set n (p.Yl,p.Yh))->(sh=c.Yf↔u.Yh=p.Yh)->Sat (gy N y p ⟨c,w,v⟩ sh (Mf w t')) fun r=>r.1=true/\SI N i (k+4) (q+1024) w c (Ax PL (mG p)) r.2.w_:=by
  intro sh t' hgr hrow hsh
  have htb:t'.Yk.length<=q+1024:=by have:=hgr.num;have:=h.wd.tb;omega
  unfold gy;rw [y1,y2];refine dN (by show in64 ((n:Int)+1);constructor<;>omega) (dN (by show in64 ((n:Int)+1);constructor<;>omega) (t6 (by show 0<=(n:Int)+1;omega) (by show (n:Int)+1<c.Yb.length;omega) fun x hx=> ?_));have hx:c.Yb[((n:Int)+1).toNat]? =some x:=hx;rw [show ((n:Int)+1).toNat=n+1 by omega] at hx
  refine (NJ (w:=Mf w t') (k:=k) hN U hM (hwd _ hgr.le hgr.ti htb) (c':=⟨c.XZ,sh,c.Ye,c.Yg,c.Yb,c.Ya⟩) (v':=v) hp (old:=x) ?_).bind fun r hr=> ?_
  ·by_cases h9:x.XZ=9
   ·exact .inr (h.pair9 hx h9).1
   exact .inl h9
  refine t6 (by show 0<=(n:Int)+1;omega) (by show (n:Int)+1<c.Yb.length;omega) fun x' _=> ?_
  have hlen:(c.Yb.set (n+1) r.1).length=c.Yb.length:=W3 ..
  obtain ⟨w',e1,e2,e3,e4⟩:=RI hN hv hvN h hk hM (q':=q+1024) U hq hgr.ti hgr.le htb hr (n:=n) (.inr hx) sh (c.Yb.set (n+1) r.1) (PL.set n (mG p))
   (by rw [hset];exact hrow)
   (by
    have:(PL.set n (mG p)).map (·.Yl)=PL.map (·.Yl):=by
     rw [List.map_set];refine IK ?_;rw [WR,hn,hnk.1, <-hu];rfl
    rw [this];exact h.nodup)
   (by rw [hlen,W3];omega) (by rw [W3];omega) (by rw [W3];omega)
   (by rw [WS U]) (WT U) (WT hlt)
   (fun m hm=>by rw [WS U]) (fun m hm=>by rw [WS U]) (!decide (u.Yh=p.Yh))
  have e1':bn N ⟨⟨c.XZ,sh,c.Ye,c.Yg,List.set c.Yb (((n:Int)+1).toNat) (⟨r.1.XZ,r.1.N,r.1.S⟩:VN),c.Ya⟩,r.2,v⟩ (!decide (u.Yh=p.Yh))=some ⟨⟨c.XZ,sh,c.Ye,c.Yg,c.Yb.set (n+1) r.1,c.Ya⟩,w',v⟩:=by
   rw [show ((n:Int)+1).toNat=n+1 by omega];exact e1
  refine Sat.bind ⟨_,e1',J⟩ fun z hz=> ?_
  subst hz;refine ad ⟨J,⟨c.XZ,sh,c.Ye,c.Yg,c.Yb.set (n+1) r.1,c.Ya⟩,?_,⟨J,J,J,?_⟩,e3,?_⟩
  ·rw [PW h.nodup hn (by rw [hnk.1];exact hu)];exact e2
  ·show (c.Yb.set (n+1) r.1)[0]? =c.Yb[0]?;rw [WS U]
  unfold Ep;rw [show decide ((⟨c.XZ,sh,c.Ye,c.Yg,c.Yb.set (n+1) r.1,c.Ya⟩:VJ).Yf=c.Yf)=decide (u.Yh=p.Yh) from decide_eq_decide.2 hsh];exact e4
 rw [y1]
 refine PP (fun e=> ?_) fun e=> ?_
 ·refine (Nr N U h.wd.ti hb h.oc.row h.oc.nd p.Yl p.Yh n u.Yh e0).bind fun r hr=> ?_
  rcases hr with ⟨-,r3,r4,r5⟩|⟨r1, -, -⟩
  ·rw [r3,V0 (p:=(0:Int)=0) rfl,nt,cf];refine hj81 r.1 r.2.2 r4 r5 ⟨fun e2=> ?_,fun e2=>absurd e2 (XP e)⟩;have h8:=r5;rw [e2] at h8;have h9:=congrArg (fun l=>l[n]?) (h8.one (h.oc.row.mono r4.le));simp only [WT (show n<(PL.map Iu).length by rw [XU];exact hlt),e0] at h9;exact (congrArg Prod.snd (XH h9)).symm
  exact absurd hA r1
 refine hj81 c.Yf w.Yk ⟨h.wd.ti,Le.refl _,by omega⟩ ?_ ⟨fun _=>XQ e,fun _=>J⟩;rw [IK (by rw [e0,XQ e])];exact h.oc.row
end
end
section
open Go.RowKit
set_option maxRecDepth 20000
def qT (c:VJ):Bool:=!decide (aq .i64 c.Ye 1=0)
def Ie (PL:List VP)(key:VI):List VP:=PL.filter fun p=> !decide (p.Yl=key)
theorem Ra {key:VI}(h:∀p∈PL,p.Yl≠key):Ie PL key=PL:=List.filter_eq_self.2 fun p hp=>by simp [h p hp]
theorem LI {key:VI}: ∀{PL:List VP} {n:Nat} {p:VP},(PL.map (·.Yl)).Nodup->PL[n]? =some p->p.Yl=key->PL.eraseIdx n=Ie PL key
 |a::PL,0,p,hn,hp,e=>by
  have:a=p:=XH hp;subst this;rw [W6,List.nodup_cons] at hn
  have h2:Ie PL key=PL:=Ra fun x hx e'=>hn.1 (Xc.2 ⟨x,hx,e'.trans e.symm⟩)
  unfold Ie at h2⊢;rw [WF,V0 e,h2];rfl
 |a::PL,n+1,p,hn,hp,e=>by
  rw [W6,List.nodup_cons] at hn;have hp:PL[n]? =some p:=hp
  have ha:a.Yl≠key:=fun e'=>hn.1 (Xc.2 ⟨p,Xd hp,e.trans e'.symm⟩)
  have:=LI hn.2 hp e;unfold Ie at this⊢;rw [List.eraseIdx_cons_succ,this,WF,V1 ha];rfl
section
variable {N:Nat}(hN:20000<=N)(hv:v.XZ=7)(hvN:v.N=i){w:VS}(h:Obj N i k q w c PL)
include hN hv hvN h
theorem NQ (hk:k<=580)(m:List VN)(hm:m.length<=2200)(hmv:∀x∈m,ValW w.Yi.m_ x)(a6:c.XZ=1->m=[])(f:Int)(hf:0<=f/\f<=63):
  ∃w',cB N w v ⟨c.XZ,c.Yf,f,c.Yg,c.Yb,m⟩=some w'/\Obj N i k q w' ⟨c.XZ,c.Yf,f,c.Yg,c.Yb,m⟩ PL/\FrO i w w' c ⟨c.XZ,c.Yf,f,c.Yg,c.Yb,m⟩/\w'.Yo=w.Yo:=by
 have hrc:=o6 h.right;have hnum:=h.num;have hl:=h.len;obtain ⟨z,z1,z2⟩:=h.oc.proto
 have hval: ∀x∈c.Yb++m,ValW w.Yi.m_ x:=fun x hx=>by
  rcases W8.1 hx with hx|hx
  ·exact h.val (V4 _ hx)
  exact hmv x hx
 have hR:bj (⟨c.XZ,c.Yf,f,c.Yg,c.Yb,m⟩:VJ)=true:=zb h.oc.kind hrc.1 hf hrc.2.2 (fun x hx=>(hval x (V4 _ hx)).may) (fun x hx=>(hval x (V5 _ hx)).may) (by show c.Yb.length<=1025;omega) z1 z2 (by show m.length<=4096;omega) a6;obtain ⟨e1,e2,e3,e4⟩:=D8 (k':=k) (M':=m.length) hN hv hvN hk hm h.wd h.has h.at_ (c':=⟨c.XZ,c.Yf,f,c.Yg,c.Yb,m⟩) rfl h.oc.kind hR (fun x hx=>⟨(hval x hx).i64,(hval x hx).ref⟩) (Xx _) (by show c.Ya.length+m.length<=m.length+c.Ya.length;omega);refine ⟨_,e1,⟨e2,e3.has i h.has,?_,⟨h.oc.kind,⟨z,z1,z2⟩,a6,h.oc.row,h.oc.num,h.oc.nd⟩,fun n p hp=> ?_,h.inj⟩,⟨e3,Le.refl _,fun a ha hne _=> ?_,fun n x hx _=> .inl ⟨n,hx⟩⟩,J⟩
 ·show aJ (ga w.Yi i _).m_ i=_;rw [e4 i h.has,if_pos rfl]
 ·obtain ⟨x,hx,hs⟩:=h.each n p hp;refine ⟨x,hx,hs.move fun a _ _ ha h5=>⟨e3.has a ha,?_⟩⟩;show aJ (ga w.Yi i _).m_ a=_;rw [e4 a ha,if_neg fun e=> ?_];subst e;rw [h.at_] at h5;rcases h.oc.kind with hkd|hkd<;>rw [h5] at hkd<;>cases hkd
 show aJ (ga w.Yi i _).m_ a=_;rw [e4 a ha,if_neg hne]
variable (hk:k+4<=580)(hq:q+1024<=1000000000)(hM:c.Ya.length<=2200)
include hk hq hM
theorem MD {key:VI}(hR:C2 N key){ok:Bool}(ha:lM N (o9 PL key).1 (o9 PL key).2 (qT c) key d=some (p,ok))(hg:ok=true->PropW w.Yi.m_ p/\p.Yl=key/\xq p.Yh)(hlen:PL.length<1024):
  Sat (jw N w v key d) fun r=>r.1=ok/\(ok=false->r.2=w)/\(ok=true->SI N i (k+4) (q+1024) w c (Ax PL (mG p)) r.2):=by
 unfold jw;rw [zZ hv hvN U hM h,bs];show Sat (Option.bind (cU N key) _) _;rw [show cU N key=some true from hR,bs,nt,cf];show Sat (Option.bind (cJ N ⟨c,w,v⟩ key) _) _
 refine (J2 (v:=v) hN U hM h key).bind fun y hy=> ?_
 have e:y.1=(o9 PL key).1/\y.2.2=(o9 PL key).2:=by
  rcases hy with ⟨rfl,hno⟩|⟨n,u,rfl,hn,rfl⟩
  ·rw [Lj hno];exact ⟨J,J⟩
  rw [Lk h.nodup hn];exact ⟨J,J⟩
 have ha':lM N y.1 y.2.2 (!decide (aq .i64 c.Ye 1=0)) key d=some (p,ok):=by rw [e.1,e.2];exact ha
 refine Sat.bind (P:=(· =(p,ok))) ⟨_,ha',J⟩ fun z hz=> ?_
 subst hz
 cases ok with
 |false=>exact ad ⟨rfl,fun _=>rfl,fun h=>by cases h⟩
 |true=>
  obtain ⟨g1,g2,g3⟩:=hg rfl;show Sat (Option.bind (fW N ⟨c,w,v⟩ p) _) _
  exact (NE hN hv hvN h hk hq hM g1 (by rw [g2];exact hR) g3 hlen).bind fun r hr=>ad ⟨hr.1,(fun h=>by cases h),fun _=>hr.2⟩
theorem RX {key:VI}(hR:C2 N key)(hx:ValW w.Yi.m_ x)(h9:x.XZ≠9)(ha:0<=a/\a<=7)(hA:xq a)(hlen:PL.length<1024):
  Sat (jP N w v key x a) fun r=>r.1=true/\SI N i (k+4) (q+1024) w c (Ax PL (mG ⟨key,a,x,v0,v0⟩)) r.2:=by
 unfold jP;rw [zZ hv hvN U hM h,bs];show Sat (Option.bind (cU N key) _) _;rw [show cU N key=some true from hR,bs,nt,cf,bs,V1 (show¬a<0 by omega),cf,bs,V1 (show¬7<a by omega),cf];have hz:=LW w.Yi.m_
 exact (NE hN hv hvN h hk hq hM (p:=⟨key,a,x,v0,v0⟩) ⟨⟨hx,h9⟩,⟨hz,.inl J⟩,⟨hz,.inl J⟩⟩ hR hA hlen).bind fun r hr=>ad hr
theorem MC (key:VI):Sat (oJ N w v key) fun r=>
  ((o9 PL key).2=false/\r=(true,w))\/((o9 PL key).2=true/\aq .i64 (o9 PL key).1.Yh 4=0/\r=(false,w))\/
  ((o9 PL key).2=true/\aq .i64 (o9 PL key).1.Yh 4≠0/\r.1=true/\SI N i k (q+1024) w c (Ie PL key) r.2):=by
 have hb:w.Yk.Yk.length+1024<=1073741824:=by have:=h.wd.tb;omega
 have hrc:=o6 h.right;have hnum:=h.num;have hl:=h.len;obtain ⟨z,z1,z2⟩:=h.oc.proto;unfold oJ;rw [zZ hv hvN U hM h,bs];show Sat (Option.bind (cJ N ⟨c,w,v⟩ key) _) _
 refine (J2 (v:=v) hN U hM h key).bind fun y hy=> ?_
 rcases hy with ⟨a6,hno⟩|⟨n,u,a6,hn,hu⟩
 ·have y3:y.2.2=false:=by rw [a6]
  rw [y3,nf,ct];exact ad (.inl ⟨by rw [Lj hno],rfl⟩)
 have y1:y.1=u:=by rw [a6]
 have y2:y.2.1=(n:Int):=by rw [a6]
 have y3:y.2.2=true:=by rw [a6]
 have hown:o9 PL key=(u,true):=by rw [<-hu];exact Lk h.nodup hn
 rw [y3,nt,cf,y1,y2,hown];have hlt:=(WQ.1 hn).1
 refine aK (fun h4=>ad (.inr (.inl ⟨J,h4,J⟩))) fun h4=> ?_
 have hnl:(PL.map Iu)[n]? =some (key,u.Yh):=by rw [WR,hn, <-hu];rfl
 show Sat (Option.bind (dW N w.Yk c.Yf key) _) _
 refine (JY N U h.wd.ti hb h.oc.row h.oc.nd key n _ hnl).bind fun r hr=> ?_
 obtain ⟨r3,r4,r5⟩:=hr;rw [r3,V0 (p:=(0:Int)=0) rfl,nt,cf];refine dN (by constructor<;>omega) (dN (by constructor<;>omega) ?_)
 have e3:c.Yb.take ((n:Int)+1).toNat++c.Yb.drop ((n:Int)+2).toNat=c.Yb.eraseIdx (n+1):=by
  rw [List.eraseIdx_eq_take_drop_succ];congr 1
 have e4:oF N c.Yb ((n:Int)+1) ((n:Int)+2)=some (c.Yb.eraseIdx (n+1)):=by
  unfold oF;rw [gp U,e3]
 refine Sat.bind (P:=(· =c.Yb.eraseIdx (n+1))) ⟨_,e4,J⟩ fun s hs=> ?_
 subst hs;have hlen:(c.Yb.eraseIdx (n+1)).length=c.Yb.length - 1:=List.length_eraseIdx_of_lt U;have hlen2:(PL.eraseIdx n).length=PL.length - 1:=List.length_eraseIdx_of_lt hlt
 have hmap:(PL.eraseIdx n).map Iu=(PL.map Iu).eraseIdx n:=by
  rw [List.eraseIdx_eq_take_drop_succ,W5,List.map_take,List.map_drop, <-List.eraseIdx_eq_take_drop_succ]
 rw [<-hmap] at r5
 have hm: ∀x∈c.Yb.eraseIdx (n+1)++c.Ya,ValW w.Yi.m_ x:=fun x hx=>by
  rcases W8.1 hx with hx|hx
  ·exact h.val (V4 _ (List.mem_of_mem_eraseIdx hx))
  exact h.val (V5 _ hx)
 have h00:(c.Yb.eraseIdx (n+1))[0]? =c.Yb[0]? :=List.getElem?_eraseIdx_of_lt U
 have hS: ∀m:Nat,(c.Yb.eraseIdx (n+1))[m+1]? =c.Yb[(if m<n then m else m+1)+1]? :=fun m=>by
  rw [List.getElem?_eraseIdx];by_cases e:m<n
  ·rw [if_pos U,if_pos e]
  rw [if_neg U,if_neg e]
 obtain ⟨s',s1', -⟩:=r5.has r4.ti;have hR:bj (⟨c.XZ,r.1,c.Ye,c.Yg,c.Yb.eraseIdx (n+1),c.Ya⟩:VJ)=true:=zb h.oc.kind s1'.1 hrc.2.1 hrc.2.2 (fun x hx=>(hm x (V4 _ hx)).may) (fun x hx=>(hm x (V5 _ hx)).may) (by show (c.Yb.eraseIdx (n+1)).length<=1025;omega) (z:=z) (h00.trans z1) z2 (by show c.Ya.length<=4096;omega) h.oc.plain
 have htb:r.2.2.Yk.length<=q+1024:=by have:=r4.num;have:=h.wd.tb;omega
 have hep0:=h.wd.ep;have hwd:Wd N k (q+1024) c.Ya.length (Mf w r.2.2):=⟨h.wd.pl,h.wd.hb,r4.ti,htb,hep0.1,by show w.Yo<=_;omega⟩;obtain ⟨e5,e6,e7,e8⟩:=D8 (k':=k) (M':=c.Ya.length) hN hv hvN U hM hwd h.has h.at_ (c':=⟨c.XZ,r.1,c.Ye,c.Yg,c.Yb.eraseIdx (n+1),c.Ya⟩) rfl h.oc.kind hR (fun x hx=>⟨(hm x hx).i64,(hm x hx).ref⟩) (by show k+(c.Yb.eraseIdx (n+1)).length<=k+c.Yb.length;omega) (Xx _)
 have e8: ∀x,aw w.Yi.m_ x=true->aJ (ga w.Yi i (⟨c.XZ,r.1,c.Ye,c.Yg,c.Yb.eraseIdx (n+1),c.Ya⟩:VJ)).m_ x=if x=i then ⟨c.XZ,r.1,c.Ye,c.Yg,c.Yb.eraseIdx (n+1),c.Ya⟩ else aJ w.Yi.m_ x:=e8
 have e9:=Em (c':=⟨c.XZ,r.1,c.Ye,c.Yg,c.Yb.eraseIdx (n+1),c.Ya⟩) e5 (by show 0<=w.Yo/\w.Yo<=2000000000;omega) true
 refine Sat.bind ⟨_,e9,J⟩ fun u' hu'=> ?_
 subst hu';refine ad (.inr (.inr ⟨J,h4,J,⟨c.XZ,r.1,c.Ye,c.Yg,c.Yb.eraseIdx (n+1),c.Ya⟩,?_,⟨J,J,J,h00⟩,?_,?_⟩))
 ·rw [<-LI h.nodup hn hu];refine ⟨⟨e6.pl,e6.hb,e6.ti,e6.tb,?_⟩,e7.has i h.has,?_,⟨h.oc.kind,⟨z,h00.trans z1,z2⟩,h.oc.plain,r5,?_,?_⟩,fun m p hp=> ?_,fun m1 m2 x y hne h1 h2=> ?_⟩
  ·show 0<=w.Yo+_/\w.Yo+_<=((q+1024:Nat):Int);cases (true&&iO (⟨c.XZ,r.1,c.Ye,c.Yg,c.Yb.eraseIdx (n+1),c.Ya⟩:VJ))
   ·show 0<=w.Yo+0/\w.Yo+0<=((q+1024:Nat):Int);omega
   show 0<=w.Yo+1/\w.Yo+1<=((q+1024:Nat):Int);omega
  ·show aJ (ga w.Yi i _).m_ i=_;rw [e8 i h.has,if_pos rfl]
  ·show (c.Yb.eraseIdx (n+1)).length=_;rw [XU];omega
  ·rw [hmap,List.eraseIdx_eq_take_drop_succ,W5,List.map_take,List.map_drop, <-List.eraseIdx_eq_take_drop_succ];exact List.Nodup.sublist (List.eraseIdx_sublist ..) h.oc.nd
  ·have hP:(PL.eraseIdx n)[m]? =PL[if m<n then m else m+1]? :=by
    rw [List.getElem?_eraseIdx];split<;>rfl
   rw [hP] at hp;obtain ⟨x,hx,hsl⟩:=h.each _ p hp;refine ⟨x,(hS m).trans hx,hsl.move fun a _ _ ha h5=>⟨e7.has a ha,?_⟩⟩;show aJ (ga w.Yi i _).m_ a=_;rw [e8 a ha,if_neg fun e=> ?_];subst e;rw [h.at_] at h5;rcases h.oc.kind with hkd|hkd<;>rw [h5] at hkd<;>cases hkd
  rw [hS] at h1 h2;refine h.inj _ _ x y (fun e=>hne ?_) h1 h2;split at e<;>split at e<;>omega
 ·refine ⟨⟨e7.roots,e7.has,e7.spent,e7.config⟩,r4.le,fun a ha hne _=> ?_,fun m x hx _=> .inl ⟨_,(hS m).symm.trans hx⟩⟩;show aJ (ga w.Yi i _).m_ a=_;rw [e8 a ha,if_neg hne]
 unfold Ep;rw [V1 fun e:r.1=c.Yf=> ?_]
 ·rfl
 have h8:=r5;rw [e] at h8;have h9:=congrArg List.length (h8.one (h.oc.row.mono r4.le));rw [hmap] at h9;have h10:((PL.map Iu).eraseIdx n).length=(PL.map Iu).length - 1:=List.length_eraseIdx_of_lt (by rw [XU];exact hlt);rw [XU] at h9 h10;omega
end
end
section
open Go.RowKit
set_option maxRecDepth 20000
def Sep (c d:VJ):Prop:= ∀(n m:Nat) x y,c.Yb[n+1]? =some x->d.Yb[m+1]? =some y->x.XZ=9->y.XZ=9->x.N≠y.N
theorem Sep.symm {d:VJ}(h:Sep c d):Sep d c:=fun n m x y hx hy kx ky e=>h m n y x hy hx ky kx e.symm
theorem ObjC.not5 {t:VH}{l:List (VI×Int)}(h:ObjC t c l):c.XZ≠5:=by
 rcases h.kind with h|h<;>omega
theorem Obj.pair_ne {N:Nat}{w:VS}(h:Obj N i k q w c PL)(hx:c.Yb[n+1]? =some x)(h9:x.XZ=9){j:Int}(hj:(aJ w.Yi.m_ j).XZ≠5):x.N≠j:=fun e=>by
 obtain ⟨⟨g,s,a,ag,rfl, -,e3⟩, -⟩:=h.pair9 hx h9;have e:a=j:=e;rw [<-e,e3] at hj;exact hj J
theorem Obj.keep {N:Nat}{j:Int}{w:VS}{d:VJ}{QL:List VP}(h:Obj N i k q w c PL)(hj:Obj N j k q w d QL)(hij:i≠j)(sep:Sep c d)(h':Obj N i k' q' w' c' PL')(hM:d.Ya.length=c'.Ya.length)(f:FrO i w w' c c'):Obj N j k' q' w' d QL/\Sep c' d:=by
 have h5:(aJ w.Yi.m_ j).XZ≠5:=by rw [hj.at_];exact hj.oc.not5
 have hat:aJ w'.Yi.m_ j=d:=by
  rw [f.rest j hj.has hij.symm fun n x hx h9=>h.pair_ne hx h9 h5];exact hj.at_
 refine ⟨⟨by rw [hM];exact h'.wd,f.fr.has j hj.has,hat,⟨hj.oc.kind,hj.oc.proto,hj.oc.plain,hj.oc.row.mono f.le,hj.oc.num,hj.oc.nd⟩,fun n p hp=> ?_,hj.inj⟩,fun n m x y hx hy kx ky=> ?_⟩
 ·obtain ⟨x,hx,hs⟩:=hj.each n p hp;refine ⟨x,hx,hs.move fun a h9 hxa ha a6=>⟨f.fr.has a ha,f.rest a ha (fun e=> ?_) fun m y hy a8 e=>sep m n y x hy hx a8 h9 (e.trans hxa.symm)⟩⟩;rw [e,h.at_] at a6;exact h.oc.not5 a6
 rcases f.new n x hx kx with ⟨n',hn'⟩|hn
 ·exact sep n' m x y hn' hy kx ky
 intro e;have:=(hj.pair9 hy ky).2;rw [<-e,hn] at this;cases this
def rB (f:Nat->α)(j:Nat)(x:α):Nat->α:=fun m=>if m=j then x else f m
theorem qw (f:Nat->α)(j:Nat)(x:α):rB f j x j=x:=if_pos rfl
theorem sa (f:Nat->α){m:Nat}(x:α)(h:m≠j):rB f j x m=f m:=if_neg h
theorem Hs (f:Nat->α)(j:Nat):rB f j (f j)=f:=by
 funext m;unfold rB;split
 ·rename_i h;rw [h]
 rfl
structure Objs (N n k q:Nat) (w:VS) (A:Nat->Int) (C:Nat->VJ) (P:Nat->List VP):Prop where
 ob: ∀j,j<n->Obj N (A j) k q w (C j) (P j)
 k1: ∀j,j<n->(C j).XZ=1
 sep: ∀i j,i<n->j<n->i≠j->A i≠A j/\Sep (C i) (C j)
section
variable {N:Nat}{w:VS}(h:Objs N n k q w A C P)
include h
theorem Objs.up (h1:k<=k')(h2:q<=q'):Objs N n k' q' w A C P:=⟨fun j hj=>(h.ob j hj).up h1 h2,h.k1,h.sep⟩
theorem Objs.more (hj:j<n):(C j).Ya=[]:=(h.ob j hj).oc.plain (h.k1 j hj)
theorem Objs.upd (hj:j<n)(ho:Obj N (A j) k' q' w' c' PL')(hs:c'.XZ=(C j).XZ)(f:FrO (A j) w w' (C j) c'):Objs N n k' q' w' A (rB C j c') (rB P j PL'):=by
 have k1':c'.XZ=1:=hs.trans (h.k1 j hj);have hm':c'.Ya=[]:=ho.oc.plain k1'
 have key: ∀m,m<n->m≠j->Obj N (A m) k' q' w' (C m) (P m)/\Sep c' (C m):=fun m hm hne=>(h.ob j hj).keep (h.ob m hm) (h.sep j m hj hm hne.symm).1 (h.sep j m hj hm hne.symm).2 ho (by rw [h.more hm,hm']) f
 refine ⟨fun m hm=> ?_,fun m hm=> ?_,fun a b ha hb hab=>⟨(h.sep a b ha hb hab).1,?_⟩⟩
 ·by_cases e:m=j
  ·rw [e,qw,qw];exact ho
  rw [sa _ _ e,sa _ _ e];exact (key m hm e).1
 ·by_cases e:m=j
  ·rw [e,qw];exact k1'
  rw [sa _ _ e];exact h.k1 m hm
 by_cases ea:a=j
 ·have eb:b≠j:=fun e=>hab (ea.trans e.symm)
  rw [ea,qw,sa _ _ eb];exact (key b hb eb).2
 rw [sa _ _ ea];by_cases eb:b=j
 ·rw [eb,qw];exact (key a ha ea).2.symm
 rw [sa _ _ eb];exact (h.sep a b ha hb hab).2
end
end
section
open Go.RowKit
set_option maxRecDepth 20000
theorem Oh {f:List Int}(h:bd x=false):bG ρ f x=x:=by
 unfold bG;rw [h];rfl
theorem zj (ρ:Int->Int)(f:List Int)(x:VN):(bG ρ f x).XZ=x.XZ:=by
 unfold bG;cases bd x&&decide (x.N∈f)<;>rfl
theorem J1 (ρ:Int->Int)(f:List Int):bG ρ f v0=v0:=Oh rfl
def Ky (ρ:Int->Int)(f:List Int)(p:VP):VP:=⟨p.Yl,p.Yh,bG ρ f p.Value,bG ρ f p.Yp,bG ρ f p.Yr⟩
theorem Kx (ρ:Int->Int)(f:List Int)(PL:List VP):(PL.map (Ky ρ f)).map Iu=PL.map Iu:=by
 rw [List.map_map];rfl
theorem Mv.obj {N:Nat}{w:VS}(h:Obj N i k q w c PL)(hm:c.Ya=[]){f:List Int}(m:Mv w.Yi g' ρ f)(hi:i∈f):
  (∃age,aJ g'.m_ (ρ i)=⟨c.XZ,c.Yf,c.Ye,age,c.Yb.map (bG ρ f),[]⟩)/\Obj N (ρ i) k q (EE w g') (aJ g'.m_ (ρ i)) (PL.map (Ky ρ f)):=by
 obtain ⟨m1,age,m2⟩:=m.at_ i hi;obtain ⟨in1, -⟩:=m.cin i hi;rw [h.at_] at in1 m2;have hpl:=m.pl h.wd.pl
 have hm2:aJ g'.m_ (ρ i)=⟨c.XZ,c.Yf,c.Ye,age,c.Yb.map (bG ρ f),[]⟩:=by
  rw [m2];show (⟨c.XZ,c.Yf,c.Ye,age,c.Yb.map (bG ρ f),c.Ya.map (bG ρ f)⟩:VJ)=_;rw [hm];rfl
 have hb:Hb k 0 g':=by
  have a1:=h.wd.hb.hw;have a2:=h.wd.hb.hm;have a3:=h.wd.hb.hr;rw [hm] at a2;have a2:mS w.Yi.m_.Yd+mS w.Yi.m_.Yc<=0:=a2;have e1:=Gu w.Yi.m_.Yd;have e2:=Gu w.Yi.m_.Yc;have e3:=Gu g'.m_.Yd;have e4:=Gu g'.m_.Yc;have b1:=m.sum;have b2:=m.wts;refine ⟨by omega,by omega,?_⟩;rw [m.roots,XU];exact a3
 refine ⟨⟨age,hm2⟩,?_⟩;rw [hm2];refine ⟨⟨hpl,hb,h.wd.ti,h.wd.tb,h.wd.ep⟩,m1,hm2,⟨h.oc.kind,?_,fun _=>J,?_,?_,?_⟩,?_,?_⟩
 ·obtain ⟨z,z1,z2⟩:=h.oc.proto;exact ⟨bG ρ f z,by rw [WR,z1];rfl,by rw [zj];exact z2⟩
 ·rw [Kx];exact h.oc.row
 ·rw [Kx,XU];exact h.oc.num
 ·rw [Kx];exact h.oc.nd
 ·intro n p' hp';rw [WR] at hp';obtain ⟨p,hp,rfl⟩:=Option.map_eq_some_iff.1 hp';obtain ⟨x,x1,x2⟩:=h.each n p hp;refine ⟨bG ρ f x,by rw [WR,x1];rfl,?_⟩;rcases x2 with ⟨a1,a2,a3,a4,a5⟩|⟨a1,a2,a,ag,rfl,a4,a5⟩
  ·refine .inl ⟨a1,congrArg (bG ρ f) a2,?_,?_,by rw [zj];exact a5⟩
   ·show bG ρ f p.Yp=v0;rw [a3,J1]
   show bG ρ f p.Yr=v0;rw [a4,J1]
  have ha:a∈f:=in1 _ (Xd x1) rfl;obtain ⟨b1,age2,b2⟩:=m.at_ a ha;refine .inr ⟨a1,?_,ρ a,age2,sm J ha,b1,?_⟩
  ·show bG ρ f p.Value=v0;rw [a2,J1]
  refine b2.trans ?_;show xG (lI ρ f (aJ w.Yi.m_ a)) age2=_;rw [a5];rfl
 intro n n2 x y hne hx hy kx ky;have hx:(c.Yb.map (bG ρ f))[n+1]? =some x:=hx;have hy:(c.Yb.map (bG ρ f))[n2+1]? =some y:=hy;rw [WR] at hx hy;obtain ⟨x0,a6,rfl⟩:=Option.map_eq_some_iff.1 hx;obtain ⟨y0,a8,rfl⟩:=Option.map_eq_some_iff.1 hy;rw [zj] at kx ky
 have bx:bd x0=true:=by unfold bd;rw [kx];rfl
 have by_:bd y0=true:=by unfold bd;rw [ky];rfl
 have fx:=in1 _ (Xd a6) bx;have fy:=in1 _ (Xd a8) by_;rw [sm bx fx,sm by_ fy];intro e;exact h.inj n n2 x0 y0 hne a6 a8 kx ky (m.inj _ fx _ fy e)
theorem Objs.mv {N:Nat}{w:VS}(h:Objs N n k q w A C P){f:List Int}(m:Mv w.Yi g' ρ f)(hA:∀j,j<n->A j∈f):
  Objs N n k q (EE w g') (fun j=>ρ (A j)) (fun j=>aJ g'.m_ (ρ (A j))) (fun j=>(P j).map (Ky ρ f))/\ ∀j,j<n-> ∃age,aJ g'.m_ (ρ (A j))=⟨(C j).XZ,(C j).Yf,(C j).Ye,age,(C j).Yb.map (bG ρ f),[]⟩:=by
 have key: ∀j,j<n->_:=fun j hj=>Mv.obj (h.ob j hj) (h.more hj) m (hA j hj)
 refine ⟨⟨fun j hj=>(key j hj).2,fun j hj=> ?_,fun a b ha hb hab=>⟨fun e=> ?_,?_⟩⟩,fun j hj=>(key j hj).1⟩
 ·obtain ⟨⟨age,e⟩, -⟩:=key j hj;show (aJ g'.m_ (ρ (A j))).XZ=1;rw [e];exact h.k1 j hj
 ·exact (h.sep a b ha hb hab).1 (m.inj _ (hA a ha) _ (hA b hb) e)
 obtain ⟨⟨age,ea⟩, -⟩:=key a ha;obtain ⟨⟨age2,eb⟩, -⟩:=key b hb;show Sep (aJ g'.m_ (ρ (A a))) (aJ g'.m_ (ρ (A b)));rw [ea,eb];intro n1 n2 x y hx hy kx ky;have hx:((C a).Yb.map (bG ρ f))[n1+1]? =some x:=hx;have hy:((C b).Yb.map (bG ρ f))[n2+1]? =some y:=hy;rw [WR] at hx hy;obtain ⟨x0,a6,rfl⟩:=Option.map_eq_some_iff.1 hx;obtain ⟨y0,a8,rfl⟩:=Option.map_eq_some_iff.1 hy;rw [zj] at kx ky
 have bx:bd x0=true:=by unfold bd;rw [kx];rfl
 have by_:bd y0=true:=by unfold bd;rw [ky];rfl
 have ina:=(m.cin (A a) (hA a ha)).1;rw [(h.ob a ha).at_] at ina;have inb:=(m.cin (A b) (hA b hb)).1;rw [(h.ob b hb).at_] at inb;have fx:=ina _ (Xd a6) bx;have fy:=inb _ (Xd a8) by_;rw [sm bx fx,sm by_ fy];intro e;exact (h.sep a b ha hb hab).2 n1 n2 x0 y0 a6 a8 kx ky (m.inj _ fx _ fy e)
set_option maxRecDepth 20000
def KBox (w:VS):Prop:= ∃x,w.Yi.Ym[19]? =some x/\bd x=true/\(aJ w.Yi.m_ x.N).Ya=[]/\(aJ w.Yi.m_ x.N).XZ≠1/\(aJ w.Yi.m_ x.N).XZ≠2/\(aJ w.Yi.m_ x.N).XZ≠5
theorem Pl.root_has {g:VU}(pl:Pl g)(h:g.Ym[j]? =some x)(hb:bd x=true):in64 x.N/\aw g.m_ x.N=true:=⟨pl.hb.r64 _ (V4 _ (Xd h)),pl.roots _ (qW.2 ⟨x,Xd h,hb,rfl⟩)⟩
theorem KBox.keep {N:Nat}{w:VS}(h:Obj N i k q w c PL)(f:FrO i w w' c c')(hk:KBox w):KBox w':=by
 obtain ⟨x,h1,h2,h3,h4,h5,h6⟩:=hk;have hh:=(h.wd.pl.root_has h1 h2).2
 have e:aJ w'.Yi.m_ x.N=aJ w.Yi.m_ x.N:=f.rest _ hh (fun e=>by
  rw [e,h.at_] at h4 h5;rcases h.oc.kind with hk|hk
  ·exact h4 hk
  ·exact h5 hk) fun n y hy h9=>h.pair_ne hy h9 h6
 exact ⟨x,by rw [f.fr.roots];exact h1,h2,by rw [e];exact h3,by rw [e];exact h4,by rw [e];exact h5,by rw [e];exact h6⟩
theorem KBox.mv {w:VS}{f:List Int}(m:Mv w.Yi w'.Yi ρ f)(hk:KBox w):KBox w':=by
 obtain ⟨x,h1,h2,h3,h4,h5,h6⟩:=hk;have hx:x.N∈f:=m.rin x (Xd h1) h2;obtain ⟨m1,age,m2⟩:=m.at_ _ hx;have e1:(bG ρ f x)=⟨x.XZ,ρ x.N,x.S⟩:=sm h2 hx;refine ⟨bG ρ f x,by rw [m.roots,WR,h1];rfl,by rw [e1];exact h2,?_,?_,?_,?_⟩
 ·rw [e1,m2];show (aJ w.Yi.m_ x.N).Ya.map (bG ρ f)=[];rw [h3];rfl
 all_goals rw [e1,m2]
 ·exact h4
 ·exact h5
 exact h6
section
variable {N:Nat}(hN:6500<N){w:VS}(pl:Pl w.Yi)(hr:w.Yi.Ym.length<=600)(hk:KBox w)
include hN pl hr hk
theorem FT: ∃g' ρ f,eD N w=some (EE w g')/\Mv w.Yi g' ρ f:=by
 obtain ⟨x,h1,hb,hm, -⟩:=hk;obtain ⟨x1,x2⟩:=pl.root_has h1 hb;obtain ⟨g',ρ,f,e,m⟩:=Ot hN pl;obtain ⟨N',rfl⟩: ∃N',N=N'+1:=⟨N - 1,by omega⟩;refine ⟨g',ρ,f,?_,m⟩;have h1':bK (N'+1) w.Yi 19=some x:=HE (N'+1) h1;have h2:aF (N'+1) w x=some (aJ w.Yi.m_ x.N):=De pl.hb.small.cells hb x1 x2;unfold eD;rw [GS (N'+1) hr,bs,h1',bs,h2,bs,bR.eq_2,hm];rw [V1 (p:=(0:Int)<((([]:List VN).length:Nat):Int)) (by simp),cf];unfold ik;have e':df (N'+1) w.Yi=some (0,g'):=e
 have hlen:w.Yi.Ym.length=g'.Ym.length:=by rw [m.roots,XU]
 rw [e',bs];show (fB (N'+1) g' (w.Yi.Ym.length:Int)).bind _=_;rw [hlen,JA,bs];rfl
theorem FS: ∃g' ρ f,eC N w=some (EE w g')/\Mv w.Yi g' ρ f:=by
 obtain ⟨x,h1,hb,hm, -⟩:=hk;obtain ⟨x1,x2⟩:=pl.root_has h1 hb;obtain ⟨g',ρ,f,e,m⟩:=Om hN pl;obtain ⟨N',rfl⟩: ∃N',N=N'+1:=⟨N - 1,by omega⟩;refine ⟨g',ρ,f,?_,m⟩;have h1':bK (N'+1) w.Yi 19=some x:=HE (N'+1) h1;have h2:aF (N'+1) w x=some (aJ w.Yi.m_ x.N):=De pl.hb.small.cells hb x1 x2;unfold eC;rw [GS (N'+1) hr,bs,h1',bs,h2,bs,bQ.eq_2,hm];rw [V1 (p:=(0:Int)<((([]:List VN).length:Nat):Int)) (by simp),cf];unfold ij;have e':dc (N'+1) w.Yi=some (0,g'):=e
 have hlen:w.Yi.Ym.length=g'.Ym.length:=by rw [m.roots,XU]
 rw [e',bs];show (fB (N'+1) g' (w.Yi.Ym.length:Int)).bind _=_;rw [hlen,JA,bs];rfl
theorem PK (h0:0<=w.Yu.YG)(h1:w.Yu.YG<w.Yn.YJ)(h2:w.Yn.YJ<=2000):
  ∃w',fU N w=some (true,w')/\w'.Yu.YG=w.Yu.YG+1/\w'.Yn=w.Yn/\w'.Yk=w.Yk/\w'.Yo=w.Yo/\(w'.Yi=w.Yi\/ ∃ρ f,Mv w.Yi w'.Yi ρ f):=by
 unfold fU;rw [V1 (p:=w.Yn.YJ<=w.Yu.YG) U,cf,r64 U U];obtain ⟨b,hb⟩:=Jy N w.Yn.YL (⟨(⟨w.Yu.YG+1,w.Yu.YI,w.Yu.YK⟩:VG),w.Yn,(),w.Yi,w.Yk,w.Yv,w.Yo,w.YB,w.YC,w.Yw,w.Yx⟩:VS);obtain ⟨b2,a6⟩:=Jy N w.Yn.Yd (⟨(⟨w.Yu.YG+1,w.Yu.YI,w.Yu.YK⟩:VG),w.Yn,(),w.Yi,w.Yk,w.Yv,w.Yo,w.YB,w.YC,w.Yw,w.Yx⟩:VS);rw [hb,bs]
 cases b with
 |true=>
  obtain ⟨g',ρ,f,e,m⟩:=FT hN (w:=(⟨(⟨w.Yu.YG+1,w.Yu.YI,w.Yu.YK⟩:VG),w.Yn,(),w.Yi,w.Yk,w.Yv,w.Yo,w.YB,w.YC,w.Yw,w.Yx⟩:VS)) pl hr hk;rw [ct,e,bs];exact ⟨_,J,J,J,J,J,.inr ⟨ρ,f,m⟩⟩
 | false=>
  rw [cf,a6,bs]
  cases b2 with
  |true=>
   obtain ⟨g',ρ,f,e,m⟩:=FS hN (w:=(⟨(⟨w.Yu.YG+1,w.Yu.YI,w.Yu.YK⟩:VG),w.Yn,(),w.Yi,w.Yk,w.Yv,w.Yo,w.YB,w.YC,w.Yw,w.Yx⟩:VS)) pl hr hk;rw [ct,e,bs];exact ⟨_,J,J,J,J,J,.inr ⟨ρ,f,m⟩⟩
  |false=>
   rw [cf];exact ⟨_,J,J,J,J,J,.inl J⟩
end
theorem Wd.cg {N M:Nat}{w:VS}(h:Wd N k q M w)(e1:w'.Yi=w.Yi)(e2:w'.Yk=w.Yk)(e3:w'.Yo=w.Yo):Wd N k q M w':=⟨by rw [e1];exact h.pl,by rw [e1];exact h.hb,by rw [e2];exact h.ti,by rw [e2];exact h.tb,by rw [e3];exact h.ep⟩
theorem Obj.cg {N:Nat}{w:VS}(h:Obj N i k q w c PL)(e1:w'.Yi=w.Yi)(e2:w'.Yk=w.Yk)(e3:w'.Yo=w.Yo):Obj N i k q w' c PL:=⟨h.wd.cg e1 e2 e3,by rw [e1];exact h.has,by rw [e1];exact h.at_,by rw [e2];exact h.oc,by rw [e1];exact h.each,h.inj⟩
theorem Objs.cg {N:Nat}{w:VS}(h:Objs N n k q w A C P)(e1:w'.Yi=w.Yi)(e2:w'.Yk=w.Yk)(e3:w'.Yo=w.Yo):Objs N n k q w' A C P:=⟨fun j hj=>(h.ob j hj).cg e1 e2 e3,h.k1,h.sep⟩
end
section
open Go.RowKit
set_option maxRecDepth 20000
set_option maxRecDepth 20000
def sB (n b:Int):Bool:=decide ((n.tdiv b).tmod 2=1)
theorem Pj (N:Nat)(h0:0<=a)(h1:a<=63){b:Int}(hb:1<=b):mb N a b=some (sB a b):=by
 unfold mb;refine gp ⟨by omega,?_⟩;rw [Wo h0];have:=Int.ediv_nonneg h0 (show 0<=b by omega);have:=Int.ediv_le_self b h0;constructor<;>omega
theorem Rf {b:Bool}{x y:α}:(bif b then some x else some y)=some (bif b then x else y):=by cases b<;>rfl
theorem Qp: ∀n:_root_.Fin 64,bO .i64 (n.val:Int) 63=0/\(!decide (aq .i64 (n.val:Int) 3=0))=(sB (n.val:Int) 1||sB (n.val:Int) 2)/\(!decide (aq .i64 (n.val:Int) 12=0))=(sB (n.val:Int) 4||sB (n.val:Int) 8)/\(!decide (aq .i64 (n.val:Int) 1=0))=sB (n.val:Int) 1/\(!decide (aq .i64 (n.val:Int) 2=0))=sB (n.val:Int) 2/\(!decide (aq .i64 (n.val:Int) 4=0))=sB (n.val:Int) 4/\(!decide (aq .i64 (n.val:Int) 8=0))=sB (n.val:Int) 8/\(!decide (aq .i64 (n.val:Int) 16=0))=sB (n.val:Int) 16/\(!decide (aq .i64 (n.val:Int) 32=0))=sB (n.val:Int) 32:=by decide+kernel
structure Six (n:Int):Prop where
 z:bO .i64 n 63=0
 b3:(!decide (aq .i64 n 3=0))=(sB n 1||sB n 2)
 b12:(!decide (aq .i64 n 12=0))=(sB n 4||sB n 8)
 b1:(!decide (aq .i64 n 1=0))=sB n 1
 b2:(!decide (aq .i64 n 2=0))=sB n 2
 b4:(!decide (aq .i64 n 4=0))=sB n 4
 b8:(!decide (aq .i64 n 8=0))=sB n 8
 b16:(!decide (aq .i64 n 16=0))=sB n 16
 b32:(!decide (aq .i64 n 32=0))=sB n 32
theorem six {n:Int}(h0:0<=n)(h1:n<=63):Six n:=by
 have hf:=Qp ⟨n.toNat,by omega⟩;simp only [Wt h0] at hf;obtain ⟨f1,f2,f3,f4,f5,f6,f7,f8,f9⟩:=hf;exact ⟨f1,f2,f3,f4,f5,f6,f7,f8,f9⟩
def JO (x y z:Bool):Int:=
 let p:=bif x then dK .i64 0 1 else 0
 let q:=bif y then dK .i64 p 2 else p
 bif z then dK .i64 q 4 else q
section
variable (N:Nat)
theorem O6 (h:Six d.Has):bi N d 1=some (sB d.Has 1)/\bi N d 2=some (sB d.Has 2)/\bi N d 4=some (sB d.Has 4)/\bi N d 8=some (sB d.Has 8)/\bi N d 16=some (sB d.Has 16)/\bi N d 32=some (sB d.Has 32)/\bi N d 3=some (sB d.Has 1||sB d.Has 2)/\bi N d 12=some (sB d.Has 4||sB d.Has 8):=by
 unfold bi;rw [h.b1,h.b2,h.b4,h.b8,h.b16,h.b32,h.b3,h.b12];exact ⟨J,J,J,J,J,J,J,J⟩
theorem UI (h:Six d.Has):tj N d=some (JO (sB d.Has 2) (sB d.Has 16) (sB d.Has 32)):=by
 obtain ⟨-,s2, -, -,a6,a8, -, -⟩:=O6 N h;unfold tj rq rp qf JO;rw [s2,bs,a6,bs,bs,a8,bs,bs,bs,bs];cases sB d.Has 2<;>cases sB d.Has 16<;>cases sB d.Has 32<;>rfl
theorem SU (h0:0<=d.Has)(h1:d.Has<=63){b:Int}(hb:1<=b):dq N d b=some (sB d.Has b):=by
 unfold dq;rw [Pj N h0 h1 hb,bs]
end
theorem Tz {x y:Bool}:(bif x then true else y)=(x||y):=by cases x<;>rfl
end
section
open Go.RowKit
set_option maxRecDepth 20000
structure R25 (d:VF):Prop where
 h:0<=d.Has/\d.Has<=63
 a:0<=d.Yh/\d.Yh<=7
 da:((sB d.Has 1||sB d.Has 2)&&(sB d.Has 4||sB d.Has 8))=false
 a1:(sB d.Yh 1&& !sB d.Has 2)=false
 a2:(sB d.Yh 2&& !sB d.Has 16)=false
 a4:(sB d.Yh 4&& !sB d.Has 32)=false
 v:sB d.Has 1=false->d.Value=v0
 vk:0<=d.Value.XZ/\d.Value.XZ<=7
 g:(sB d.Has 4=false->d.Yp=v0)/\(sB d.Has 4=true->d.Yp.XZ=0\/d.Yp.XZ=7)
 s:(sB d.Has 8=false->d.Yr=v0)/\(sB d.Has 8=true->d.Yr.XZ=0\/d.Yr.XZ=7)
theorem OG (N:Nat)(x:VN)(b:Bool):Sat (ub N x b) fun r=>r=true->(b=false->x=v0)/\(b=true->x.XZ=0\/x.XZ=7):=by
 unfold ub
 cases b with
 |false=>exact ad fun h=>⟨(fun _=>XQ h),fun h=>(by cases h)⟩
 |true=>
  rw [nt,cf]
  refine cz (P:=fun r=>r=true->x.XZ=0\/x.XZ=7) (fun e=>ad fun _=> .inl (XQ e)) (fun _=>ad fun h=> .inr (XQ h)) fun r hr=>ad fun h=>⟨(fun h=>by cases h),fun _=>hr h⟩
theorem PQ (N:Nat)(d:VF):Sat (uQ N d) fun b=>b=true->R25 d:=by
 unfold uQ
 refine cz (P:=fun b=>b=false->0<=d.Has/\d.Has<=63) (fun _=>ad fun h=>by cases h) (fun e=>ad fun h=>by have:=XP e;have:=XP h;omega) fun b2 h2=> ?_
 refine cz (P:=fun b=>b=false->(0<=d.Has/\d.Has<=63)/\0<=d.Yh) (fun _=>ad fun h=>by cases h) (fun e=>ad fun h=>⟨h2 e,by have:=XP h;omega⟩) fun b3 h3=> ?_
 refine cz (P:=fun b=>b=false->(0<=d.Has/\d.Has<=63)/\0<=d.Yh/\d.Yh<=7) (fun _=>ad fun h=>by cases h) (fun e=>ad fun h=>⟨(h3 e).1,(h3 e).2,by have:=XP h;omega⟩) fun b4 h4=> ?_
 cases b4 with
 |true=>
  rw [ct,bs,ct]
  exact ad fun h=>by cases h
 | false=>
  obtain ⟨⟨h0,h1⟩,a0,a1⟩:=h4 rfl
  have hs: ∀b:Int,1<=b->dq N d b=some (sB d.Has b):=fun b hb=>by
   unfold dq;rw [Pj N h0 h1 hb,bs]
  have hda:qF N d=some (sB d.Has 1||sB d.Has 2):=by
   unfold qF;rw [hs 1 U,bs,hs 2 U,bs];cases sB d.Has 1<;>rfl
  have hac:kS N d=some (sB d.Has 4||sB d.Has 8):=by
   unfold kS;rw [hs 4 U,bs,hs 8 U,bs];cases sB d.Has 4<;>rfl
  have hat: ∀b:Int,1<=b->mb N d.Yh b=some (sB d.Yh b):=fun b hb=>Pj N a0 U hb
  rw [cf,hda,bs,hac,bs,hat 1 U,bs,hs 2 U,bs,hat 2 U,bs,hs 16 U,bs,hat 4 U,bs,hs 32 U,bs,hs 1 U,bs,hs 4 U,bs,hs 8 U,bs]
  cases e1:((sB d.Has 1||sB d.Has 2)&&(sB d.Has 4||sB d.Has 8)) with
  |true=>
   rw [XW] at e1;rw [e1.1,e1.2]
   exact ad fun h=>by cases h
  | false=>
   have e1':(bif (sB d.Has 1||sB d.Has 2) then (some (sB d.Has 4||sB d.Has 8)) else (some false):Option Bool)=some false:=by
    rw [<-e1];cases (sB d.Has 1||sB d.Has 2)<;>rfl
   rw [e1',bs,bs,cf]
   have hx: ∀x y:Bool,(bif x then (some (!y)) else (some false):Option Bool)=some (x&& !y):=fun x y=>by cases x<;>rfl
   rw [hx,bs,hx,bs,hx,bs]
   cases e2:(sB d.Yh 1&& !sB d.Has 2) with
   |true=>exact ad fun h=>by cases h
   | false=>
    rw [cf,bs]
    cases e3:(sB d.Yh 2&& !sB d.Has 16) with
    |true=>exact ad fun h=>by cases h
    | false=>
     rw [cf,bs]
     cases e4:(sB d.Yh 4&& !sB d.Has 32) with
     |true=>exact ad fun h=>by cases h
     |false=>
      rw [cf]
      refine cz (P:=fun b=>b=false->sB d.Has 1=false->d.Value=v0) (fun e=>ad fun h _=>by rw [Bool.not_eq_false'] at h;exact XQ h) (fun e=>ad fun _ h=>by rw [h] at e;cases e) fun b0 h23=> ?_
      refine cz (P:=fun b=>b=false->(sB d.Has 1=false->d.Value=v0)/\0<=d.Value.XZ) (fun _=>ad fun h=>by cases h) (fun e=>ad fun h=>⟨h23 e,by have:=XP h;omega⟩) fun b5 h24=> ?_
      refine cz (P:=fun b=>b=false->(sB d.Has 1=false->d.Value=v0)/\0<=d.Value.XZ/\d.Value.XZ<=7) (fun _=>ad fun h=>by cases h) (fun e=>ad fun h=>⟨(h24 e).1,(h24 e).2,by have:=XP h;omega⟩) fun b6 h25=>jI (fun _=>ad fun h=>by cases h) fun e=> ?_
      obtain ⟨v1,v2⟩:=h25 e
      refine (OG N d.Yp _).bind fun b7 hy=> ?_
      refine cz (P:=fun b=>b=true->R25 d) (fun a6=>(OG N d.Yr _).bind fun b9 a8=>ad fun h=>⟨⟨h0,h1⟩,⟨a0,a1⟩,e1,e2,e3,e4,v1,v2,hy a6,a8 h⟩) (fun _=>ad fun h=>by cases h) fun b hb=>ad hb
structure Nrm (p:VP):Prop where
 d:aq .i64 p.Yh 8=0->p.Yp=v0/\p.Yr=v0
 a:aq .i64 p.Yh 8≠0->p.Value=v0
def Ew (a b:Int)(s:Bool)(m:Int):Int:=bif bif s then sB a m else sB b m then m else 0
theorem Pk: ∀a:_root_.Fin 8, ∀b:_root_.Fin 16, ∀s2 a6 a8:Bool,
  dK .i64 (bO .i64 (dK .i64 (dK .i64 0 (aq .i64 (b.val:Int) 6)) 8) (JO false a6 a8)) (aq .i64 (a.val:Int) (JO false a6 a8))=(Ew a.val b.val a6 2+Ew a.val b.val a8 4)+8/\
  dK .i64 (bO .i64 (dK .i64 (aq .i64 (b.val:Int) 1) (aq .i64 (b.val:Int) 6)) (JO s2 a6 a8)) (aq .i64 (a.val:Int) (JO s2 a6 a8))=(Ew a.val b.val a6 2+Ew a.val b.val a8 4)+Ew a.val b.val s2 1/\
  dK .i64 (bO .i64 (dK .i64 0 (aq .i64 (b.val:Int) 6)) (JO s2 a6 a8)) (aq .i64 (a.val:Int) (JO s2 a6 a8))=(Ew a.val b.val a6 2+Ew a.val b.val a8 4)+(bif s2&&sB a.val 1 then 1 else 0):=by decide+kernel
structure Bits (N:Nat) (d:VF) (b:Int):Prop where
 r:R25 d
 six:Six d.Has
 says: ∀x:Int,1<=x->dq N d x=some (sB d.Has x)
 data:qF N d=some (sB d.Has 1||sB d.Has 2)
 acc:kS N d=some (sB d.Has 4||sB d.Has 8)
 da: ∀x:Int,1<=x->mb N d.Yh x=some (sB d.Yh x)
 pb: ∀x:Int,1<=x->mb N b x=some (sB b x)
 a:Six d.Yh
 b:Six b
theorem Il (N:Nat)(h:R25 d){b:Int}(hb:0<=b/\b<=15):Bits N d b:=by
 have hs: ∀x:Int,1<=x->dq N d x=some (sB d.Has x):=fun x hx=>SU N h.h.1 h.h.2 hx
 refine ⟨h,six h.h.1 h.h.2,hs,?_,?_,fun x hx=>Pj N h.a.1 (by have:=h.a;omega) hx,fun x hx=>Pj N hb.1 U hx,six h.a.1 (by have:=h.a;omega),six hb.1 U⟩
 ·unfold qF;rw [hs 1 U,bs,hs 2 U,bs,Rf,bs,Tz]
 unfold kS;rw [hs 4 U,bs,hs 8 U,bs,Rf,bs,Tz]
def JH (k:VI)(p:VP)(d:VF):VP:=
 let was:=sB p.Yh 8
 let SL:=(sB d.Has 4||sB d.Has 8)||(was&& !(sB d.Has 1||sB d.Has 2))
 ⟨k,(Ew d.Yh p.Yh (sB d.Has 16) 2+Ew d.Yh p.Yh (sB d.Has 32) 4)+(bif SL then 8 else bif was then (bif sB d.Has 2&&sB d.Yh 1 then 1 else 0) else Ew d.Yh p.Yh (sB d.Has 2) 1),
  bif sB d.Has 1 then d.Value else bif !SL&& !was then p.Value else v0,
  bif sB d.Has 4 then d.Yp else bif SL&&was then p.Yp else v0,
  bif sB d.Has 8 then d.Yr else bif SL&&was then p.Yr else v0⟩
theorem JE (N:Nat)(k:VI)(hb:0<=p.Yh/\p.Yh<=15)(h:Bits N d p.Yh):oD N p k d=some (JH k p d):=by
 obtain ⟨s1,s2,s4,s8,a8,b0,s3,a6⟩:=O6 N h.six;have hask:=UI N h.six;have hf:=Pk ⟨d.Yh.toNat,by have:=h.r.a;omega⟩ ⟨p.Yh.toNat,by omega⟩ (sB d.Has 2) (sB d.Has 16) (sB d.Has 32);simp only [Wt h.r.a.1,Wt hb.1] at hf;obtain ⟨f1,f2,f3⟩:=hf;have hda:=h.r.da;unfold oD oU oT oS oQ oP oO;simp only [s1,s4,s8,s3,a6,hask,bs,h.b.b8,Rf];unfold JH;simp only;generalize sB d.Has 1=x1 at*;generalize sB d.Has 2=x2 at*;generalize sB d.Has 4=x4 at*;generalize sB d.Has 8=x8 at*;generalize sB p.Yh 8=y at*
 cases x1<;>cases x2<;>cases x4<;>cases x8<;>cases y<;>first
  |exact absurd hda (by decide)
  |exact congrArg some (congrArg (fun a=>(⟨k,a,_,_,_⟩:VP)) f1)
  |exact congrArg some (congrArg (fun a=>(⟨k,a,_,_,_⟩:VP)) f2)
  |exact congrArg some (congrArg (fun a=>(⟨k,a,_,_,_⟩:VP)) f3)
theorem R8 {n b:Int}(h:(!decide (aq .i64 n b=0))=sB n b):decide (aq .i64 n b=0)=!sB n b:=by rw [<-h,Bool.not_not]
theorem Ri (N:Nat)(k:VI)(hb:0<=p.Yh/\p.Yh<=15)(h:R25 d)(has ext:Bool):lM N p has ext k d=bif !has then (bif !ext then some (sH,false) else some (JH k sH d,true)) else (bif !sB p.Yh 4 then px N p d else some false).bind fun b=>some (bif b then (sH,false) else (JH k p d,true)):=by
 have hB:=Il N h hb;have h0:=Il N h (b:=0) ⟨Int.le_refl _,by omega⟩;have hc:=JE N k hb hB
 have hf:va N d k=some (JH k sH d):=by
  unfold va;have:=JE N k (p:=sH) ⟨Int.le_refl _,by show (0:Int)<=15;omega⟩ h0;rw [show (⟨(⟨0,0,⟨#[]⟩⟩:VI),0,(⟨0,0,⟨#[]⟩⟩:VN),(⟨0,0,⟨#[]⟩⟩:VN),(⟨0,0,⟨#[]⟩⟩:VN)⟩:VP)=sH from rfl,this,bs]
 unfold lM;rw [hf,hc,R8 hB.b.b4]
 cases has with
 |false=>cases ext<;>rfl
 | true=>
  rw [nt,cf,cf]
  cases sB p.Yh 4 with
  |true=>rfl
  |false=>
   rw [nf,ct,ct]
   cases e:px N p d with
   |none=>rfl
   |some b=>cases b<;>rfl
set_option maxRecDepth 20000
def Hh (vis loose acc w:Bool):Int:=((bif vis then 2 else 0)+(bif loose then 4 else 0))+(bif acc then 8 else bif w then 1 else 0)
theorem JN: ∀vis loose acc w:Bool,(0<=Hh vis loose acc w/\Hh vis loose acc w<=15/\aq .i64 (Hh vis loose acc w) 9≠9)/\(aq .i64 (Hh vis loose acc w) 8=0↔acc=false):=by decide+kernel
def Ae (p:VP)(d:VF):Bool:=(sB d.Has 4||sB d.Has 8)||(sB p.Yh 8&& !(sB d.Has 1||sB d.Has 2))
theorem JG (k:VI)(p:VP)(d:VF): ∃vis loose w,(JH k p d).Yh=Hh vis loose (Ae p d) w:=by
 unfold JH Ew Hh Ae;simp only;cases (sB d.Has 4||sB d.Has 8)||(sB p.Yh 8&& !(sB d.Has 1||sB d.Has 2))
 ·refine ⟨bif sB d.Has 16 then sB d.Yh 2 else sB p.Yh 2,bif sB d.Has 32 then sB d.Yh 4 else sB p.Yh 4,bif sB p.Yh 8 then sB d.Has 2&&sB d.Yh 1 else bif sB d.Has 2 then sB d.Yh 1 else sB p.Yh 1,?_⟩;cases sB p.Yh 8<;>rfl
 exact ⟨bif sB d.Has 16 then sB d.Yh 2 else sB p.Yh 2,bif sB d.Has 32 then sB d.Yh 4 else sB p.Yh 4,false,J⟩
theorem Rb (k:VI)(p:VP)(d:VF):xq (JH k p d).Yh:=by
 obtain ⟨vis,loose,w,ha⟩:=JG k p d;rw [ha];exact (JN vis loose _ w).1
theorem LK (k:VI)(p:VP)(d:VF):aq .i64 (JH k p d).Yh 8=0↔Ae p d=false:=by
 obtain ⟨vis,loose,w,ha⟩:=JG k p d;rw [ha];exact (JN vis loose _ w).2
theorem Sx {Q:α->Prop}{b c:Bool}{x y z:α}(hx:b=true->Q x)(hy:c=true->Q y)(hz:Q z):Q (bif b then x else bif c then y else z):=by
 cases b with
 |true=>exact hx rfl
 |false=>
  cases c with
  |true=>exact hy rfl
  |false=>exact hz
theorem Dn (m:VR):ValW m v0/\BX v0:=⟨LW m,.inl rfl⟩
theorem Tw {k:VI}(hd:R25 d)(hp:PropW m p)(dv:ValW m d.Value)(dg:ValW m d.Yp)(ds:ValW m d.Yr):PropW m (JH k p d):=by
 have h9:d.Value.XZ≠9:=by have:=hd.vk;omega
 refine ⟨Sx (Q:=fun x=>ValW m x/\x.XZ≠9) (fun _=>⟨dv,h9⟩) (fun _=>hp.v) ⟨LW m,by decide⟩,Sx (Q:=fun x=>ValW m x/\BX x) (fun h=>⟨dg,hd.g.2 h⟩) (fun _=>hp.g) (Dn m),Sx (Q:=fun x=>ValW m x/\BX x) (fun h=>⟨ds,hd.s.2 h⟩) (fun _=>hp.s) (Dn m)⟩
theorem Rc {k:VI}(hd:R25 d):Nrm (JH k p d):=by
 refine ⟨fun e=> ?_,fun e=> ?_⟩
 ·have h0:=(LK k p d).1 e
  have h4:sB d.Has 4=false/\sB d.Has 8=false:=by
   unfold Ae at h0;rw [Bool.or_eq_false_iff,Bool.or_eq_false_iff] at h0;exact h0.1
  constructor
  ·show (bif sB d.Has 4 then d.Yp else bif Ae p d&&sB p.Yh 8 then p.Yp else v0)=v0;rw [h4.1,h0];rfl
  show (bif sB d.Has 8 then d.Yr else bif Ae p d&&sB p.Yh 8 then p.Yr else v0)=v0;rw [h4.2,h0];rfl
 have h0:Ae p d=true:=by
  cases h:Ae p d with
  |true=>rfl
  |false=>exact absurd ((LK k p d).2 h) e
 have h1:sB d.Has 1=false:=by
  cases e1:sB d.Has 1 with
  |false=>rfl
  |true=>
   have hda:=hd.da;unfold Ae at h0;rw [e1] at h0 hda
   cases e4:(sB d.Has 4||sB d.Has 8) with
   |true=>rw [e4] at hda;cases hda
   |false=>rw [e4] at h0;simp at h0
 show (bif sB d.Has 1 then d.Value else bif !Ae p d&& !sB p.Yh 8 then p.Value else v0)=v0;rw [h0,h1];rfl
theorem Nrm.norm (h:Nrm p):mG p=p:=by
 by_cases e:aq .i64 p.Yh 8=0
 ·rw [CV e, <-(h.d e).1];have:=(h.d e).1.trans (h.d e).2.symm
  conv=>lhs;arg 5;rw [this]
 rw [Fe e, <-h.a e]
def LM (p:VP)(d:VF)(eg es ev:Bool):Bool:=
 ((sB d.Has 32&& !decide (aq .i64 d.Yh 4=0))||(sB d.Has 16&& !decide (aq .i64 (Im .i64 d.Yh p.Yh) 2=0)))||
 bif !decide (aq .i64 p.Yh 8=0) then ((sB d.Has 1||sB d.Has 2)||(sB d.Has 4&& !eg))||(sB d.Has 8&& !es) else
 (sB d.Has 4||sB d.Has 8)||(decide (aq .i64 p.Yh 1=0)&&((sB d.Has 2&& !decide (aq .i64 d.Yh 1=0))||(sB d.Has 1&& !ev)))
theorem Ty (b x:Bool):(bif b then true else x)=(b||x):=by cases b<;>rfl
theorem TA (b x:Bool):(bif b then x else false)=(b&&x):=by cases b<;>rfl
theorem Sy (N:Nat)(h:Bits N d p.Yh):px N p d=some (LM p d (decide (d.Yp=p.Yp)) (decide (d.Yr=p.Yr)) (decide (d.Value=p.Value))):=by
 obtain ⟨s1,s2,s4,s8,a6,a8,s3,b0⟩:=O6 N h.six;unfold px LM;simp only [qg,s1,s2,s4,s8,a6,a8,s3,b0,bs,Rf,Ty,TA]
def sF (p:VP)(has ext:Bool)(k:VI)(d:VF):VP×Bool:=
 bif !has then (bif !ext then (sH,false) else (JH k sH d,true)) else
 bif !sB p.Yh 4&&LM p d (decide (d.Yp=p.Yp)) (decide (d.Yr=p.Yr)) (decide (d.Value=p.Value)) then (sH,false) else (JH k p d,true)
theorem Rh (N:Nat)(k:VI)(hb:0<=p.Yh/\p.Yh<=15)(h:R25 d)(has ext:Bool):lM N p has ext k d=some (sF p has ext k d):=by
 rw [Ri N k hb h,Sy N (Il N h hb)];unfold sF;cases has<;>cases ext<;>cases sB p.Yh 4<;>rfl
theorem Nu {has ext:Bool}{k:VI}(h:(sF p has ext k d).2=true)(hd:R25 d)(hp:PropW m p)(dv:ValW m d.Value)(dg:ValW m d.Yp)(ds:ValW m d.Yr):PropW m (sF p has ext k d).1/\(sF p has ext k d).1.Yl=k/\xq (sF p has ext k d).1.Yh/\Nrm (sF p has ext k d).1:=by
 have hz:PropW m sH:=⟨⟨LW m,by decide⟩,Dn m,Dn m⟩
 have key: ∀p,PropW m p->PropW m (JH k p d)/\(JH k p d).Yl=k/\xq (JH k p d).Yh/\Nrm (JH k p d):=fun p hp=>⟨Tw hd hp dv dg ds,rfl,Rb k p d,Rc hd⟩
 unfold sF at h⊢
 cases has with
 |false=>
  cases ext with
  |false=>cases h
  |true=>exact key _ hz
 |true=>
  cases e:(!sB p.Yh 4&&LM p d (decide (d.Yp=p.Yp)) (decide (d.Yr=p.Yr)) (decide (d.Value=p.Value))) with
  |true=>rw [e] at h;cases h
  |false=>exact key p hp
theorem Obj.propW {N:Nat}{w:VS}(h:Obj N i k q w c PL)(hp:p∈PL):PropW w.Yi.m_ p/\Nrm p:=by
 obtain ⟨n,hn⟩:=List.getElem?_of_mem hp;obtain ⟨x,hx,hs⟩:=h.each n p hn;have hv:=h.val (V4 _ (Xd hx));rcases hs with ⟨a1,a2,a3,a4,a5⟩|⟨a1,a2,a,ag,rfl,a4,a5⟩
 ·refine ⟨⟨⟨by rw [a2];exact hv,by rw [a2];exact a5⟩,by rw [a3];exact Dn _,by rw [a4];exact Dn _⟩,⟨fun _=>⟨a3,a4⟩,fun e=>absurd a1 e⟩⟩
 have hr:=(h.wd.pl.cells _ (mP a4)).1
 have hvv: ∀y∈[p.Yp,p.Yr],ValW w.Yi.m_ y:=fun y hy=>h.wd.pl.valW a4 (by rw [a5];exact V4 _ hy)
 rw [a5] at hr;obtain ⟨k1,k2⟩:=Mx hr rfl rfl;exact ⟨⟨by rw [a2];exact ⟨LW _,by decide⟩,⟨hvv _ (by simp),k1⟩,⟨hvv _ (by simp),k2⟩⟩,⟨fun e=>absurd e a1,fun _=>a2⟩⟩
theorem Rv (m:VR):PropW m sH/\Nrm sH:=⟨⟨⟨LW m,by decide⟩,Dn m,Dn m⟩,⟨fun _=>⟨rfl,rfl⟩,fun _=>rfl⟩⟩
theorem P1 {N:Nat}{w:VS}(h:Obj N i k q w c PL)(key:VI):PropW w.Yi.m_ (o9 PL key).1/\Nrm (o9 PL key).1/\0<=(o9 PL key).1.Yh/\(o9 PL key).1.Yh<=15:=by
 unfold o9
 cases e:PL.find? (fun p=>decide (p.Yl=key)) with
 |none=>exact ⟨(Rv _).1,(Rv w.Yi.m_).2,by decide,by decide⟩
 |some p=>
  have hp:=List.mem_of_find?_eq_some e;have:=(h.key hp).2;exact ⟨(h.propW hp).1,(h.propW hp).2,this.1,this.2.1⟩
set_option maxRecDepth 20000
theorem HM (f:List Int)(v:VN):bG (fun x=>x) f v=v:=by
 unfold bG;cases bd v&&decide (v.N∈f)<;>rfl
theorem Qc (f:List Int)(p:VP):Ky (fun x=>x) f p=p:=by
 unfold Ky;rw [HM,HM,HM]
def Bh (A:Nat->Int)(n:Nat):List VN:=(List.range n).map fun j=>(⟨7,A j,⟨#[]⟩⟩:VN)
theorem Ke (A:Nat->Int)(h:j<n):(Bh A n)[j]? =some ⟨7,A j,⟨#[]⟩⟩:=by
 unfold Bh;rw [WR,List.getElem?_range h];rfl
structure St (N n b:Nat) (w:VS) (A:Nat->Int) (C:Nat->VJ) (P:Nat->List VP):Prop where
 ob:Objs N n (80+4*b) (1+1024*b) w A C P
 len: ∀j,j<n->(P j).length<=b
 rts: ∃R,R.length=20/\w.Yi.Ym=R++Bh A n
 box:KBox w
 tu:TU w.Yk
 cfg:w.Yn.YJ=1000
 stp:0<=w.Yu.YG/\w.Yu.YG<=(b:Int)
section
variable {N b:Nat}{w:VS}(h:St N n b w A C P)
include h
theorem St.root (hj:j<n):w.Yi.Ym[20+j]? =some ⟨7,A j,⟨#[]⟩⟩:=by
 obtain ⟨R,h1,h2⟩:=h.rts;rw [h2,WK U,h1,Nat.add_sub_cancel_left];exact Ke A hj
theorem St.at_ (hj:j<n):aD N w (20+(j:Int))=some ⟨7,A j,⟨#[]⟩⟩:=by
 unfold aD;have:=HE N (h.root hj);rw [show ((20+j:Nat):Int)=20+(j:Int) by omega] at this;rw [this,bs]
theorem St.stay:St N n (b+1) w A C P:=⟨h.ob.up U U,fun j hj=>by have:=h.len j hj;omega,h.rts,h.box,h.tu,h.cfg,h.stp.1,by have:=h.stp.2;omega⟩
theorem St.op (hj:j<n)(o:Obj N (A j) (80+4*(b+1)) (1+1024*(b+1)) w' c' PL')(hk:c'.XZ=(C j).XZ)(f:FrO (A j) w w' (C j) c')(hl:PL'.length<=b+1):St N n (b+1) w' A (rB C j c') (rB P j PL'):=by
 refine ⟨h.ob.upd hj o hk f,fun m hm=> ?_,?_,h.box.keep (h.ob.ob j hj) f,f.le.tu h.tu,by rw [f.fr.config];exact h.cfg,by rw [f.fr.spent];exact h.stp.1,by rw [f.fr.spent];have:=h.stp.2;omega⟩
 ·by_cases e:m=j
  ·rw [e,qw];exact hl
  rw [sa _ _ e];have:=h.len m hm;omega
 obtain ⟨R,h1,h2⟩:=h.rts;exact ⟨R,h1,by rw [f.fr.roots];exact h2⟩
theorem St.tick (hN:20000<=N)(hb:b<=120)(hn:0<n): ∃w' ρ f C',fU N w=some (true,w')/\w'.Yo=w.Yo/\St N n (b+1) w' (fun j=>ρ (A j)) C' (fun j=>(P j).map (Ky ρ f))/\(∀j,j<n->A j∈f)/\(∀x∈f, ∀y∈f,ρ x=ρ y->x=y)/\ ∀j,j<n-> ∃age,C' j=⟨(C j).XZ,(C j).Yf,(C j).Ye,age,(C j).Yb.map (bG ρ f),[]⟩:=by
 have wd:=(h.ob.ob 0 hn).wd;have hs1:=h.stp.1;have hs2:=h.stp.2;have hc:=h.cfg;obtain ⟨w',e,t1,t2,t3,t4,t5⟩:=PK (N:=N) U wd.pl (by have:=wd.hb.hr;omega) h.box hs1 (by rw [hc];omega) (by rw [hc];omega);have hup:Objs N n (80+4*(b+1)) (1+1024*(b+1)) w A C P:=h.ob.up U U;rcases t5 with t5|⟨ρ,f,m⟩
 ·refine ⟨w',fun x=>x,(List.range n).map A,C,e,t4,?_,fun j hj=>Xc.2 ⟨j,Xe.2 hj,J⟩,fun x _ y _ e=>e,fun j hj=>⟨(C j).Yg,?_⟩⟩
  ·have ep:(fun j=>(P j).map (Ky (fun x=>x) ((List.range n).map A)))=P:=by
    funext j;exact (List.map_congr_left fun p _=>Qc _ p).trans (List.map_id' _)
   rw [ep];refine ⟨hup.cg t5 t3 t4,fun j hj=>by have:=h.len j hj;omega,?_,?_,by rw [t3];exact h.tu,by rw [t2];exact hc,by omega,by omega⟩
   ·rw [t5];exact h.rts
   unfold KBox;rw [t5];exact h.box
  have e1:(C j).Yb.map (bG (fun x=>x) ((List.range n).map A))=(C j).Yb:=(List.map_congr_left fun v _=>HM _ v).trans (List.map_id' _);have e2:=h.ob.more hj;rw [e1, <-e2]
 have hA: ∀j,j<n->A j∈f:=fun j hj=>m.rin _ (Xd (h.root hj)) rfl
 obtain ⟨o1,o2⟩:=hup.mv m hA;refine ⟨w',ρ,f,fun j=>aJ w'.Yi.m_ (ρ (A j)),e,t4,⟨o1.cg J t3 t4,fun j hj=> ?_,?_,h.box.mv m,by rw [t3];exact h.tu,by rw [t2];exact hc,by omega,by omega⟩,hA,m.inj,o2⟩
 ·rw [XU];have:=h.len j hj;omega
 obtain ⟨R,h1,h2⟩:=h.rts;refine ⟨R.map (bG ρ f),by rw [XU];exact h1,?_⟩;rw [m.roots,h2,W5]
 congr 1
 unfold Bh;rw [List.map_map]
 refine List.map_congr_left fun j hj=> ?_
 exact sm J (hA j (Xe.1 hj))
end
end
section
open Go.RowKit
set_option maxRecDepth 20000
structure VOk (n:Nat) (v:VN):Prop where
 may:v.XZ≠7->mQ v=true
 kd:0<=v.XZ/\v.XZ<=7
 i64:in64 v.N
 ref:v.XZ=7->v.S=⟨#[]⟩/\0<=v.N/\v.N<n
def F7 (A:Nat->Int)(v:VN):VN:=bif decide (v.XZ=7) then ⟨7,A v.N.toNat,⟨#[]⟩⟩ else v
theorem Ht (h:v.XZ≠7):F7 A v=v:=by
 unfold F7;rw [V1 h];rfl
theorem Hu (h:v.XZ=7):F7 A v=⟨7,A v.N.toNat,⟨#[]⟩⟩:=by
 unfold F7;rw [V0 h];rfl
theorem Ui (A:Nat->Int):F7 A v0=v0:=Ht (by decide)
theorem ND (A:Nat->Int)(v:VN):(F7 A v).XZ=v.XZ:=by
 by_cases h:v.XZ=7
 ·rw [Hu h,h]
 rw [Ht h]
def MO (f:VN->VN)(d:VF):VF:=⟨d.Has,d.Yh,f d.Value,f d.Yp,f d.Yr⟩
theorem R25.map {f:VN->VN}(h0:f v0=v0)(hk:∀v,(f v).XZ=v.XZ)(h:R25 d):R25 (MO f d):=⟨h.h,h.a,h.da,h.a1,h.a2,h.a4,fun e=>by show f d.Value=v0;rw [h.v e,h0],by show 0<=(f d.Value).XZ/\(f d.Value).XZ<=7;rw [hk];exact h.vk,⟨fun e=>by show f d.Yp=v0;rw [h.g.1 e,h0],fun e=>by show (f d.Yp).XZ=0\/(f d.Yp).XZ=7;rw [hk];exact h.g.2 e⟩,⟨fun e=>by show f d.Yr=v0;rw [h.s.1 e,h0],fun e=>by show (f d.Yr).XZ=0\/(f d.Yr).XZ=7;rw [hk];exact h.s.2 e⟩⟩
set_option maxRecDepth 20000
theorem Df {s:ByteArray}(h:(s.toList==(⟨#[]⟩:ByteArray).toList)=true):s=⟨#[]⟩:=Cq.1 (eq_of_beq h)
theorem HQ (h0:0<=v.XZ/\v.XZ<=4)(h2:v.XZ≠2)(hs:v.S=⟨#[]⟩)(h3:v.XZ=3-> -9007199254740992<=v.N/\v.N<=9007199254740992)(hn:v.XZ≠3->v.N=0):mQ v=true:=by
 obtain ⟨k,n,s⟩:=v;simp only at*;subst hs;unfold mQ fV;simp only;rw [V1 (show¬k<0 by omega),cf,bs,V1 (show¬9<k by omega),cf,V1 (show¬k=5 by omega),cf,beq_self_eq_true,nt,cf,V1 h2,cf];by_cases e:k=3
 ·obtain ⟨g1,g2⟩:=h3 e;rw [V0 e,ct,V0 g1,ct,V0 g2];rfl
 rw [V1 e,cf,V1 (show¬k=6 by omega),cf,V1 (show¬k=7 by omega),bs,cf,V1 (show¬k=9 by omega),bs,cf,V0 (hn e)];rfl
theorem MN (h5:v.XZ=5)(hn:v.N=0)(hs:(v.S.size:Int)<=65536):mQ v=true:=by
 obtain ⟨k,n,s⟩:=v;have h5:k=5:=h5;have hn:n=0:=hn;have hs:(s.size:Int)<=65536:=hs;subst h5 hn;show Option.getD (some (decide ((s.size:Int)<=65536))) false=true;rw [V0 hs];rfl
theorem Ba (N:Nat)(hn:n<=10)(v:VN):Sat (mW N v (n:Int)) fun b=>b=true->VOk n v:=by
 have small:0<=v.XZ/\v.XZ<=4->v.XZ≠2->v.XZ≠3->Sat (jB N (n:Int) v true) fun b=>b=true->VOk n v:=fun h0 h2 h3=>by
  unfold jB;rw [ct]
  refine cz (P:=fun b=>b=true->VOk n v) (fun e=>ad fun h=> ?_) (fun _=>ad fun h=>by cases h) fun b hb=>ad hb
  have hn:=XQ e;exact ⟨fun _=>HQ h0 h2 (Df h) (fun h=>absurd h h3) fun _=>hn,by omega,by rw [hn];decide,fun h=>by omega⟩
 have rest:v.XZ≠0->v.XZ≠1->v.XZ≠4->Sat (jB N (n:Int) v false) fun b=>b=true->VOk n v:=fun h0 h1 h4=>by
  unfold jB;rw [cf]
  refine aK (fun h3=> ?_) fun h3=>aK (fun h5=> ?_) fun h5=>aK (fun h7=> ?_) fun _=>ad fun h=>by cases h
  ·refine cz (P:=fun b=>b=true->v.S=⟨#[]⟩/\ -9007199254740992<=v.N) (fun e=>ad fun h=>⟨Df e,XQ h⟩) (fun _=>ad fun h=>by cases h) fun b hb=> ?_
   refine cz (P:=fun b=>b=true->VOk n v) (fun e=>ad fun h=> ?_) (fun _=>ad fun h=>by cases h) fun b hb=>ad hb
   obtain ⟨g1,g2⟩:=hb e;have g3:=XQ h;exact ⟨fun _=>HQ U U g1 (fun _=>⟨g2,g3⟩) fun h=>absurd h3 h,by omega,by constructor<;>omega,fun h=>by omega⟩
  ·refine cz (P:=fun b=>b=true->VOk n v) (fun e=>ad fun h=> ?_) (fun _=>ad fun h=>by cases h) fun b hb=>ad hb
   have hn:=XQ e;exact ⟨fun _=>MN h5 hn (XQ h),by omega,by rw [hn];decide,fun h=>by omega⟩
  refine cz (P:=fun b=>b=true->v.S=⟨#[]⟩/\0<=v.N) (fun e=>ad fun h=>⟨Df e,XQ h⟩) (fun _=>ad fun h=>by cases h) fun b hb=> ?_
  refine cz (P:=fun b=>b=true->v.S=⟨#[]⟩/\0<=v.N/\v.N<(n:Int)) (fun e=>ad fun h=>⟨(hb e).1,(hb e).2,XQ h⟩) (fun _=>ad fun h=>by cases h) fun b hb=>ad fun h=> ?_
  obtain ⟨g1,g2,g3⟩:=hb h;exact ⟨fun h=>absurd h7 h,by omega,by constructor<;>omega,fun _=>⟨g1,g2,g3⟩⟩
 unfold mW
 refine aK (fun h0=> ?_) fun h0=>aK (fun h1=> ?_) fun h1=> ?_
 ·rw [V0 h0];exact small U U U
 ·rw [V0 h1];exact small U U U
 by_cases h4:v.XZ=4
 ·rw [V0 h4];exact small U U U
 rw [V1 h4];exact rest h0 h1 h4
set_option maxRecDepth 20000
theorem MF: ∀n:_root_.Fin 64,(0<=bO .i64 (n.val:Int) 1/\bO .i64 (n.val:Int) 1<=63)/\aq .i64 (bO .i64 (n.val:Int) 1) 1=0/\aq .i64 (bO .i64 (n.val:Int) 1) 16=aq .i64 (n.val:Int) 16:=by decide+kernel
theorem Ff {f:Int}(h:0<=f/\f<=63):(0<=bO .i64 f 1/\bO .i64 f 1<=63)/\aq .i64 (bO .i64 f 1) 1=0/\aq .i64 (bO .i64 f 1) 16=aq .i64 f 16:=by
 have:=MF ⟨f.toNat,by omega⟩;simp only [Wt h.1] at this;exact this
def IJ (c:VJ):VJ:=⟨c.XZ,c.Yf,bO .i64 c.Ye 1,c.Yg,c.Yb,c.Ya⟩
theorem Ob {N:Nat}(hN:20000<=N)(hv:v.XZ=7)(hvN:v.N=i)(hk:k<=580)(hq:q<=1000000000){w:VS}(hM:c.Ya.length<=2200)(h:Obj N i k q w c PL): ∃w',ni N w v=some w'/\Obj N i k q w' (IJ c) PL/\FrO i w w' c (IJ c)/\w'.Yo=w.Yo:=by
 have hrc:=o6 h.right;have hep:=h.wd.ep;obtain ⟨w',e1,e2,e3,e4⟩:=NQ hN hv hvN h hk c.Ya hM (fun x hx=>h.val (V5 _ hx)) h.oc.plain (bO .i64 c.Ye 1) (Ff hrc.2.1).1;refine ⟨w',?_,e2,e3,e4⟩;unfold ni;rw [zZ hv hvN hk hM h,bs];show Option.bind (bn N ⟨IJ c,w,v⟩ false) _=_
 have he:0<=w'.Yo/\w'.Yo<=2000000000:=by rw [e4];omega
 rw [Em (c':=IJ c) e1 he false,bs,Wj,Ik]
def Ql (k:VI):Bool:=(cU N k).getD false
theorem KF {N:Nat}(hN:5000<=N)(k:VI):cU N k=some (Ql N k):=by
 obtain ⟨b,h, -⟩:=GT N hN k;unfold Ql;rw [h];rfl
theorem RC {N:Nat}(hN:5000<=N){k:VI}(h:Ql N k=true):C2 N k:=by
 unfold C2;rw [KF hN,h]
def TX (PL:List VP)(ext:Bool)(kind:Int)(key:VI)(d:VF)(x:VN)(a:Int):Bool×List VP×Bool:=
 bif decide (kind=0) then (bif Ql N key then ((sF (o9 PL key).1 (o9 PL key).2 ext key d).2,bif (sF (o9 PL key).1 (o9 PL key).2 ext key d).2 then Ax PL (sF (o9 PL key).1 (o9 PL key).2 ext key d).1 else PL,ext) else (false,PL,ext)) else
 bif decide (kind=1) then (bif (o9 PL key).2 then (bif decide (aq .i64 (o9 PL key).1.Yh 4=0) then (false,PL,ext) else (true,Ie PL key,ext)) else (true,PL,ext)) else
 bif decide (kind=3) then (false,PL,false) else
 bif decide (kind=4) then (bif Ql N key&&(decide (0<=a)&&decide (a<=7)) then (true,Ax PL ⟨key,a,x,v0,v0⟩,ext) else (false,PL,ext)) else (false,PL,ext)
structure OpOk (n:Nat) (x:VM):Prop where
 o:0<=x.O/\x.O<n
 p: -1<=x.P/\x.P<n
 d:R25 x.D
 v:VOk n x.V
 dv:VOk n x.D.Value
 dg:VOk n x.D.Yp
 ds:VOk n x.D.Yr
theorem GC (PL:List VP)(p:VP):(Ax PL p).length<=PL.length+1:=by
 unfold Ax;split
 ·rw [W3];omega
 rw [XS,W4];omega
theorem SB: ∀n:_root_.Fin 8,aq .i64 (n.val:Int) 9≠9/\aq .i64 (n.val:Int) 8=0:=by decide+kernel
theorem a7 (h:0<=a/\a<=7):xq a/\aq .i64 a 8=0:=by
 have:=SB ⟨a.toNat,by omega⟩;simp only [Wt h.1] at this;exact ⟨⟨h.1,by omega,this.1⟩,this.2⟩
theorem Ep.same (w:VS):Ep c c w w:=by
 unfold Ep;rw [V0 rfl,Bool.not_true,Wj,cond_false,Int.add_zero]
section
variable {N b:Nat}(hN:20000<=N)(hn:n<=10)(hb:b<=120){w:VS}(h:St N n b w A C P)
include h
theorem St.to_ (hn:n<=10)(hv:VOk n v):tJ N w 20 v=some (F7 A v):=by
 unfold tJ;by_cases h7:v.XZ=7
 ·obtain ⟨-,h0,h1⟩:=hv.ref h7;have:=h.at_ (j:=v.N.toNat) U;rw [Wt h0] at this;rw [V0 h7,ct,gp (by constructor<;>omega),this,bs,Hu h7]
 rw [V1 h7,cf,Ht h7]
theorem St.valW (hv:VOk n v)(hn:0<n):ValW w.Yi.m_ (F7 A v):=by
 by_cases h7:v.XZ=7
 ·obtain ⟨-,h0,h1⟩:=hv.ref h7;have ho:=h.ob.ob v.N.toNat U;rw [Hu h7];refine ⟨?_,rl ho.wd.pl.hb.small ho.has,fun _=>ho.has⟩
  have:(1:Int)<=A v.N.toNat:=by
   rcases fu ho.has with ⟨j, -,e⟩|⟨j, -,e⟩<;>omega
  unfold mQ fV;rw [show ((⟨7,A v.N.toNat,⟨#[]⟩⟩:VN).S.toList==(⟨#[]⟩:ByteArray).toList)=true from beq_self_eq_true _];show Option.getD (some (decide (1<=A v.N.toNat))) false=true;rw [V0 this];rfl
 rw [Ht h7];refine ⟨hv.may h7,hv.i64,fun hb=> ?_⟩;have:=hv.kd;unfold bd at hb;rw [V1 h7] at hb;have:v.XZ=9:=XQ hb;omega
include hN hn hb
theorem UG {x:VM}(hx:OpOk n x)(h2:x.XZ≠2)(h5:x.XZ≠5)(hj:x.O=(j:Int)):
  Sat (tK N w 20 x) fun r=>r.1=(TX N (P j) (qT (C j)) x.XZ x.K (MO (F7 A) x.D) (F7 A x.V) x.Yh).1/\ ∃c',St N n (b+1) r.2 A (rB C j c') (rB P j (TX N (P j) (qT (C j)) x.XZ x.K (MO (F7 A) x.D) (F7 A x.V) x.Yh).2.1)/\qT c'=(TX N (P j) (qT (C j)) x.XZ x.K (MO (F7 A) x.D) (F7 A x.V) x.Yh).2.2/\iO c'=iO (C j)/\c'.Yb[0]? =(C j).Yb[0]? /\Ep (C j) c' w r.2:=by
 have ho:=hx.o
 have hjn:j<n:=by omega
 have ob:=h.ob.ob j hjn;have hm:=h.ob.more hjn
 have hM:(C j).Ya.length<=2200:=by rw [hm];exact XD _
 have hlen:=h.len j hjn
 have stay: ∀(a:Bool),(a,w).1=a/\ ∃c',St N n (b+1) (a,w).2 A (rB C j c') (rB P j (P j))/\qT c'=qT (C j)/\iO c'=iO (C j)/\c'.Yb[0]? =(C j).Yb[0]? /\Ep (C j) c' w (a,w).2:=fun a=>⟨rfl,C j,by rw [Hs,Hs];exact h.stay,rfl,rfl,rfl,Ep.same w⟩
 have aft: ∀(a:Bool) (w':VS) (PL':List VP),SI N (A j) (80+4*b+4) (1+1024*b+1024) w (C j) PL' w'->PL'.length<=b+1->(a,w').1=a/\ ∃c',St N n (b+1) (a,w').2 A (rB C j c') (rB P j PL')/\qT c'=qT (C j)/\iO c'=iO (C j)/\c'.Yb[0]? =(C j).Yb[0]? /\Ep (C j) c' w (a,w').2:=fun a w' PL' ⟨c',o,s,f,e⟩ hl=>⟨rfl,c',h.op hjn o s.kind f hl,by unfold qT;rw [s.flags],by unfold iO;rw [s.flags],s.head,e⟩
 have hAt:aD N w (20+x.O)=some ⟨7,A j,⟨#[]⟩⟩:=by rw [hj];exact h.at_ hjn
 unfold tK;rw [gp (by constructor<;>omega),hAt,bs,h.to_ hn hx.dv,bs,h.to_ hn hx.dg,bs,h.to_ hn hx.ds,bs];unfold TX
 refine aK (fun e=> ?_) fun e=>aK (fun e1=> ?_) fun e1=>aK (fun e2=>absurd e2 h2) fun _=>aK (fun e3=> ?_) fun e3=>aK (fun e4=> ?_) fun e4=>aK (fun e5=>absurd e5 h5) fun _=> ?_
 ·rw [V0 e,cond_true]
  cases hR:Ql N x.K with
  |false=>
   unfold jw;rw [zZ (v:=⟨7,A j,⟨#[]⟩⟩) rfl rfl U hM ob,bs];show Sat (Option.bind (Option.bind (cU N x.K) _) _) _;rw [KF U,hR,bs,nf,ct,bs];exact ad (stay false)
  | true=>
   rw [cond_true];obtain ⟨o1,o2,o3,o4⟩:=P1 ob x.K;have hd:R25 (MO (F7 A) x.D):=hx.d.map (Ui A) (ND A);have hap:=Rh N x.K ⟨o3,o4⟩ hd (o9 (P j) x.K).2 (qT (C j))
   have hok:=fun e=>Nu (has:=(o9 (P j) x.K).2) (ext:=qT (C j)) (k:=x.K) e hd o1 (h.valW hx.dv U) (h.valW hx.dg U) (h.valW hx.ds U)
   generalize sF (o9 (P j) x.K).1 (o9 (P j) x.K).2 (qT (C j)) x.K (MO (F7 A) x.D)=z at hap hok
   refine Sat.bind (P:=fun r=>r.1=z.2/\(z.2=false->r.2=w)/\(z.2=true->SI N (A j) (80+4*b+4) (1+1024*b+1024) w (C j) (Ax (P j) (mG z.1)) r.2)) (MD hN J J ob U U hM (RC U hR) (p:=z.1) (ok:=z.2) hap (fun e=>⟨(hok e).1,(hok e).2.1,(hok e).2.2.1⟩) U) fun r hr=> ?_
   obtain ⟨r1,r2,r3⟩:=hr
   cases ez:z.2 with
   |false=>
    rw [r1,ez,r2 ez,cond_false];exact ad (stay false)
   |true=>
    rw [r1,ez,cond_true];have r3:=r3 ez;rw [(hok ez).2.2.2.norm] at r3;exact ad (aft true r.2 _ r3 (by have:=GC (P j) z.1;show (Ax (P j) z.1).length<=b+1;omega))
 ·rw [V1 e,cond_false,V0 e1,cond_true]
  refine (MC hN (v:=⟨7,A j,⟨#[]⟩⟩) J J ob U U hM x.K).bind fun r hr=> ?_
  rcases hr with ⟨g1,rfl⟩|⟨g1,g2,rfl⟩|⟨g1,g2,g3,g4⟩
  ·rw [g1,cond_false];exact ad (stay true)
  ·rw [g1,cond_true,V0 g2,cond_true];exact ad (stay false)
  rw [g1,cond_true,V1 g2,cond_false,g3];obtain ⟨c',o,s,f,ep⟩:=g4;refine ad (aft true r.2 _ ⟨c',o.up U (Xx _),s,f,ep⟩ ?_);have:(Ie (P j) x.K).length<=(P j).length:=W0 ..;show (Ie (P j) x.K).length<=b+1;omega
 ·rw [V1 e,cond_false,V1 e1,cond_false,V0 e3,cond_true];obtain ⟨w',g1,g2,g3,g4⟩:=Ob hN (v:=⟨7,A j,⟨#[]⟩⟩) rfl rfl U U hM ob;have hrc:=o6 ob.right;obtain ⟨-,f1,f2⟩:=Ff hrc.2.1;rw [g1,bs];unfold oW;refine ad ⟨J,IJ (C j),h.op hjn (g2.up U U) J g3 (by show (P j).length<=b+1;omega),?_,?_,J,?_⟩
  ·unfold qT;show (!decide (aq .i64 (bO .i64 (C j).Ye 1) 1=0))=false;rw [f1];rfl
  ·unfold iO;show (!decide (aq .i64 (bO .i64 (C j).Ye 1) 16=0))=_;rw [f2]
  unfold Ep;show w'.Yo=w.Yo+(bif !decide ((C j).Yf=(C j).Yf)&&iO (C j) then 1 else 0);rw [V0 rfl,Bool.not_true,Wj,cond_false,Int.add_zero];exact g4
 ·rw [V1 e,cond_false,V1 e1,cond_false,V1 e3,cond_false,V0 e4,cond_true,h.to_ hn hx.v,bs];by_cases ha:Ql N x.K=true/\0<=x.Yh/\x.Yh<=7
  ·obtain ⟨hR,a1,a2⟩:=ha;rw [hR,V0 a1,V0 a2,Bool.and_true,Bool.and_true,cond_true];obtain ⟨b1,b2⟩:=a7 ⟨a1,a2⟩
   have h9:(F7 A x.V).XZ≠9:=by rw [ND];have:=hx.v.kd;omega
   refine (RX hN (v:=⟨7,A j,⟨#[]⟩⟩) J J ob U U hM (RC U hR) (h.valW hx.v U) h9 ⟨a1,a2⟩ b1 U).bind fun r hr=> ?_
   obtain ⟨r1,r2⟩:=hr;rw [CV (p:=⟨x.K,x.Yh,F7 A x.V,v0,v0⟩) b2] at r2;rw [r1];exact ad (aft true r.2 _ r2 (by have:=GC (P j) ⟨x.K,x.Yh,F7 A x.V,v0,v0⟩;show (Ax (P j) ⟨x.K,x.Yh,F7 A x.V,v0,v0⟩).length<=b+1;omega))
  have hc:(Ql N x.K&&(decide (0<=x.Yh)&&decide (x.Yh<=7)))=false:=by
   rw [Bool.eq_false_iff];intro hc;rw [XW,XW,XO,XO] at hc;exact ha hc
  rw [hc,cond_false]
  have:jP N w ⟨7,A j,⟨#[]⟩⟩ x.K (F7 A x.V) x.Yh=some (false,w):=by
   unfold jP;rw [zZ (v:=⟨7,A j,⟨#[]⟩⟩) rfl rfl U hM ob,bs];show Option.bind (cU N x.K) _=_;rw [KF U,bs]
   cases hR:Ql N x.K with
   |false=>rfl
   | true=>
    rw [hR,Wl] at hc;rw [nt,cf,bs];by_cases h0:x.Yh<0
    ·rw [V0 h0];rfl
    rw [V1 h0,cf,bs]
    have:7<x.Yh:=by
     rw [V0 (show 0<=x.Yh by omega),Wl,XN] at hc;omega
    rw [V0 this];rfl
  rw [this,bs];exact ad (stay false)
 rw [V1 e,cond_false,V1 e1,cond_false,V1 e3,cond_false,V1 e4,cond_false];unfold oW;exact ad (stay false)
end
end
section
open Go.RowKit
set_option maxRecDepth 20000
def nullV:VN:=⟨1,0,⟨#[]⟩⟩
def UP:VS:=match qv 64 with
 |some (.inr w)=>w
 |_=>default
theorem Sd (K:Nat):qv (K+64)=some (.inr UP):=by kernel_rfl
def SZ (w:VS):VS:=match eW 64 w nullV 1 with
 |some (v,_,w')=>(match i6 64 w' v with
  |some (_,w2)=>w2
  |none=>default)
 |none=>default
def LX (w:VS):VN×VS:=match eW 64 w nullV 1 with
 |some (v,_,w')=>(v,w')
 |none=>default
def wS:Nat->VS
 |0=>UP
 |j+1=>SZ (wS j)
theorem RO (K:Nat): ∀j:Nat,j<4->eW (K+64) (wS j) nullV 1=some ((LX (wS j)).1,true,(LX (wS j)).2)/\i6 (K+64) (LX (wS j)).2 (LX (wS j)).1=some ((20:Int)+(j:Int),wS (j+1))
 |0,_=>⟨by kernel_rfl,by kernel_rfl⟩
 |1,_=>⟨by kernel_rfl,by kernel_rfl⟩
 |2,_=>⟨by kernel_rfl,by kernel_rfl⟩
 |3,_=>⟨by kernel_rfl,by kernel_rfl⟩
theorem PE (K:Nat):cH (K+64) (wS 0)=some 20:=by kernel_rfl
def Jd (v:VN):Bool:=decide (-9223372036854775808<=v.N)&&decide (v.N<=9223372036854775807)
theorem OD (h:Jd v=true):in64 v.N:=by
 unfold Jd at h;rw [XW,XO,XO] at h;exact h
def RG (g:VU)(c:VJ):Bool:=bj c&&((cp c).all (aw g.m_)&&(!decide (c.XZ=8)&&(!decide (c.XZ=10)&&(c.Yb++c.Ya).all Jd)))
def OF (g:VU):Bool:=decide (ws g.m_.Yd+ws g.m_.Yc<=80)&&(decide (mS g.m_.Yd+mS g.m_.Yc<=0)&&(decide (g.Ym.length<=30)&&(g.Yt.isEmpty&&(decide (g.Ys.at_.map Prod.fst=lr g.m_)&&((g.m_.Yd++g.m_.Yc).all (RG g)&&(g.Ym.all Jd&&(bP g.Ym).all (aw g.m_)))))))
theorem OE {g:VU}(h:OF g=true):Pl g/\Hb 80 0 g:=by
 unfold OF at h;simp only [XW,XO,Wu,List.isEmpty_iff] at h;obtain ⟨h1,h2,h3,h4,h5,h6,h7,h8⟩:=h
 have hc: ∀c∈g.m_.Yd++g.m_.Yc,bj c=true/\(∀x∈cp c,aw g.m_ x=true)/\c.XZ≠8/\c.XZ≠10/\ ∀v∈c.Yb++c.Ya,Jd v=true:=fun c hc=>by
  have:=h6 c hc;unfold RG at this;simpa only [XW,XO,Wu,Bool.not_eq_true',XN] using this
 obtain ⟨n1,n2⟩:=Ja h5;have hb:Hb 80 0 g:=⟨h1,h2,h3⟩;exact ⟨⟨Si U U hb h4 (fun c h v hv=>OD ((hc c h).2.2.2.2 v hv)) (fun v hv=>OD (h7 v hv)) n1 n2,h4,fun c h=>⟨(hc c h).1,(hc c h).2.1,(hc c h).2.2.1,(hc c h).2.2.2.1⟩,h8,ST h5⟩,hb⟩
def tbN:VH:=⟨[(⟨-1,⟨0,0,⟨#[]⟩⟩,0,0⟩:VW)],[]⟩
theorem Hv {s:VW}(h:Has tbN i s):i=0/\s=⟨-1,⟨0,0,⟨#[]⟩⟩,0,0⟩:=by
 have h1:=h.lt
 have h0:i=0:=by
  have:((tbN.Yk.length:Nat):Int)=1:=rfl;omega
 subst h0;exact ⟨J,(XH h.2).symm⟩
theorem RS (N:Nat):TI N tbN:=by
 refine ⟨fun i s h=> ?_,fun k j h=>by cases h⟩;obtain ⟨-,rfl⟩:=Hv h;exact ⟨Int.le_refl _,by show (0:Int)<=1024;omega,fun h=>absurd h (by show¬(0:Int)<0;omega)⟩
theorem RR:TU tbN:=by
 refine ⟨fun i s h hp=> ?_,fun i s h _=>(Hv h).1⟩;obtain ⟨-,rfl⟩:=Hv h;exact absurd hp (by show¬(0:Int)<0;omega)
def rZ (w:VS)(j:Nat):Int:=(rv w.Yi.Ym (20+j)).N
def sR (w:VS)(j:Nat):VJ:=aJ w.Yi.m_ (rZ w j)
def SY (w:VS)(j:Nat):Bool:=aw w.Yi.m_ (rZ w j)&&(decide ((sR w j).XZ=1)&&(decide ((sR w j).Yf=0)&&(decide ((sR w j).Yb=[nullV])&&decide ((sR w j).Ya=[]))))
def Tx (w:VS):Bool:=match w.Yi.Ym[19]? with
 |some x=>bd x&&(decide ((aJ w.Yi.m_ x.N).Ya=[])&&(!decide ((aJ w.Yi.m_ x.N).XZ=1)&&(!decide ((aJ w.Yi.m_ x.N).XZ=2)&& !decide ((aJ w.Yi.m_ x.N).XZ=5))))
 |none=>false
def UT (n:Nat)(w:VS):Bool:=OF w.Yi&&(decide (w.Yk=tbN)&&(decide (w.Yo=0)&&(decide (w.Yn.YJ=1000)&&(decide (w.Yu.YG=0)&&(Tx w&&(decide (w.Yi.Ym.drop 20=Bh (rZ w) n)&&(decide (20<=w.Yi.Ym.length)&&(decide (((List.range n).map (rZ w)).Nodup)&&(List.range n).all (SY w)))))))))
theorem CD (N n:Nat){w:VS}(h:UT n w=true):St N n 0 w (rZ w) (sR w) fun _=> []:=by
 unfold UT at h;simp only [XW,XO,Wu,Xe] at h;obtain ⟨h1,h2,h3,h4,h5,h6,h7,h8,h9,h10⟩:=h;obtain ⟨pl,hb⟩:=OE h1
 have ob: ∀j,j<n->aw w.Yi.m_ (rZ w j)=true/\(sR w j).XZ=1/\(sR w j).Yf=0/\(sR w j).Yb=[nullV]/\(sR w j).Ya=[]:=fun j hj=>by
  have:=h10 j hj;unfold SY at this;simpa only [XW,XO] using this
 have none1: ∀j,j<n-> ∀(m:Nat) x,(sR w j).Yb[m+1]? =some x->False:=fun j hj m x hx=>by
  rw [(ob j hj).2.2.2.1] at hx;cases hx
 refine ⟨⟨fun j hj=> ?_,fun j hj=>(ob j hj).2.1,fun i j hi hj hij=>⟨fun e=> ?_,fun a b x y hx=>(none1 i hi a x hx).elim⟩⟩,fun j hj=>Xx _,⟨w.Yi.Ym.take 20,by rw [XT];omega,by rw [<-h7,Xm]⟩,?_,by rw [h2];exact RR,h4,by omega,by omega⟩
 ·obtain ⟨o1,o2,o3,o4,o5⟩:=ob j hj;refine ⟨⟨pl,by rw [o5];exact hb,by rw [h2];exact RS N,by rw [h2];exact Xx _,by omega,by omega⟩,o1,J,⟨.inl o2,⟨nullV,by rw [o4];rfl,.inl rfl⟩,fun _=>o5,?_,by rw [o4];rfl,List.nodup_nil⟩,fun m p hp=>(by cases hp),fun a b x y _ hx=>(none1 j hj a x hx).elim⟩;rw [h2,o3];exact Row.nil (s:=⟨-1,⟨0,0,⟨#[]⟩⟩,0,0⟩) ⟨Int.le_refl _,J⟩ J
 ·have e1:((List.range n).map (rZ w))[i]? =some (rZ w i):=by rw [WR,List.getElem?_range hi];rfl
  have e2:((List.range n).map (rZ w))[j]? =some (rZ w i):=by rw [WR,List.getElem?_range hj,e];rfl
  exact hij ((List.getElem?_inj (by rw [XU,List.length_range];exact hi) h9).1 (e1.trans e2.symm))
 unfold Tx at h6;split at h6
 ·rename_i x hx
  simp only [XW,XO,Bool.not_eq_true',XN] at h6;exact ⟨x,hx,h6.1,h6.2.1,h6.2.2.1,h6.2.2.2.1,h6.2.2.2.2⟩
 cases h6
theorem Rw (N:Nat): ∀n:Nat,n<=4->St N n 0 (wS n) (rZ (wS n)) (sR (wS n)) fun _=> []
 |0,_=>CD N 0 I
 |1,_=>CD N 1 I
 |2,_=>CD N 2 I
 |3,_=>CD N 3 I
 |4,_=>CD N 4 I
theorem Ow (K:Nat):rA (K+200)=some true:=by kernel_rfl
theorem Lo {N:Nat}(hN:20000<=N):rA N=some true:=by
 obtain ⟨K,rfl⟩: ∃K,N=K+200:=⟨N - 200,by omega⟩;exact Ow K
set_option maxRecDepth 20000
theorem IZ {b:Bool}(h:(!b)=false):b=true:=by cases b<;>first|rfl|cases h
structure OpSz (x:VM):Prop where
 k:x.K.S.size<=140737488355328
 v:x.V.S.size<=140737488355328
 d:x.D.Value.S.size<=140737488355328
theorem Jn {N:Nat}(hn:n<=10)(a0:List VM)(hl:a0.length<=40)(hz:∀x∈a0,OpSz x): ∀(m j:Nat) (s:Int),40<m+j->j<=40->0<=s->s<=70000->(∀(jj:Nat) x,jj<j->a0[jj]? =some x->OpOk n x)->Sat (wo N (n:Int) a0 m s (j:Int)) fun r=>r≠0->r=1/\ ∀x∈a0,OpOk n x
 |0,j,s,h,h2,_,_,_=>by omega
 | m +1,j,s,h,h2,h3,h4,hk=>by
  rw [wo.eq_2]
  refine aK (fun h7=> ?_) fun h7=> ?_
  ·refine t6 U h7 fun x hx=> ?_
   rw [Ws] at hx;have z:=hz x (Xd hx);have z1:=z.k;have z2:=z.v;have z3:=z.d;refine dN (by constructor<;>omega) (dN (by constructor<;>omega) (dN (by constructor<;>omega) (aK (fun _=>ad fun h=>absurd J h) fun h9=> ?_)))
   refine cz (P:=fun b=>b=false->0<=x.O/\x.O<n) (fun _=>ad fun h=>by cases h) (fun e=>ad fun h=>by have:=XP e;have:=XP h;omega) fun b1 p1=> ?_
   refine cz (P:=fun b=>b=false->(0<=x.O/\x.O<n)/\ -1<=x.P) (fun _=>ad fun h=>by cases h) (fun e=>ad fun h=>⟨p1 e,by have:=XP h;omega⟩) fun b2 p2=> ?_
   refine cz (P:=fun b=>b=false->((0<=x.O/\x.O<n)/\ -1<=x.P)/\x.P<n) (fun _=>ad fun h=>by cases h) (fun e=>ad fun h=>⟨p2 e,by have:=XP h;omega⟩) fun b3 p3=> ?_
   refine cz (P:=fun b=>b=false->(((0<=x.O/\x.O<n)/\ -1<=x.P)/\x.P<n)/\R25 x.D) (fun _=>ad fun h=>by cases h) (fun e=>(PQ N x.D).bind fun y hy=>ad fun h=>⟨p3 e,hy (IZ h)⟩) fun b4 p4=> ?_
   refine cz (P:=fun b=>b=false->((((0<=x.O/\x.O<n)/\ -1<=x.P)/\x.P<n)/\R25 x.D)/\VOk n x.V) (fun _=>ad fun h=>by cases h) (fun e=>(Ba N hn x.V).bind fun y hy=>ad fun h=>⟨p4 e,hy (IZ h)⟩) fun b5 p5=> ?_
   refine cz (P:=fun b=>b=false->(((((0<=x.O/\x.O<n)/\ -1<=x.P)/\x.P<n)/\R25 x.D)/\VOk n x.V)/\VOk n x.D.Value) (fun _=>ad fun h=>by cases h) (fun e=>(Ba N hn x.D.Value).bind fun y hy=>ad fun h=>⟨p5 e,hy (IZ h)⟩) fun b6 p6=> ?_
   refine cz (P:=fun b=>b=false->((((((0<=x.O/\x.O<n)/\ -1<=x.P)/\x.P<n)/\R25 x.D)/\VOk n x.V)/\VOk n x.D.Value)/\VOk n x.D.Yp) (fun _=>ad fun h=>by cases h) (fun e=>(Ba N hn x.D.Yp).bind fun y hy=>ad fun h=>⟨p6 e,hy (IZ h)⟩) fun b7 p7=> ?_
   refine cz (P:=fun b=>b=false->OpOk n x) (fun _=>ad fun h=>by cases h) (fun e=>(Ba N hn x.D.Yr).bind fun y hy=>ad fun h=> ?_) fun b8 p8=>jI (fun _=>ad fun h=>absurd J h) fun e8=> ?_
   ·obtain ⟨⟨⟨⟨⟨⟨q1,q2⟩,q3⟩,q4⟩,q5⟩,q6⟩,q7⟩:=p7 e;exact ⟨q1,⟨q2,q3⟩,q4,q5,q6,q7,hy (IZ h)⟩
   refine dN (by constructor<;>omega) ?_
   have:=Jn (N:=N) hn a0 hl hz m (j+1) (s+(((x.K.S.size:Int)+(x.V.S.size:Int))+(x.D.Value.S.size:Int))) U U U U fun jj y hj hy=>by
    by_cases e:jj=j
    ·subst e;rw [hx] at hy;cases hy;exact p8 e8
    exact hk jj y U hy
   exact this
  unfold An
  refine ad fun _=>⟨J,fun x hx=> ?_⟩
  obtain ⟨jj,hj⟩:=List.getElem?_of_mem hx;have:=(WQ.1 hj).1;exact hk jj x U hj
theorem Tj {N:Nat}(hN:20000<=N)(hn:n<=10)(a0:List VM)(hz:∀x∈a0,OpSz x):Sat (yU N a0 (n:Int)) fun r=>r≠0->r=1/\a0.length<=40/\ ∀x∈a0,OpOk n x:=by
 unfold yU
 refine aK (fun _=>ad fun h=>absurd J h) fun h=> ?_
 exact (Jn (N:=N) hn a0 U hz N 0 0 U U U U fun jj x hj=>by omega).mono fun r hr h0=>⟨(hr h0).1,by omega,(hr h0).2⟩
set_option maxRecDepth 20000
def qd (c:VJ)(z:VN):VJ:=⟨c.XZ,c.Yf,c.Ye,c.Yg,c.Yb.set 0 z,c.Ya⟩
theorem N4 {N:Nat}(hN:20000<=N)(hv:v.XZ=7)(hvN:v.N=i){w:VS}(h:Obj N i k q w c PL)(hk:k<=580)(hM:c.Ya.length<=2200)(hz:ValW w.Yi.m_ z)(hz1:z.XZ=1\/z.XZ=7):
  ∃w',cB N w v (qd c z)=some w'/\Obj N i k q w' (qd c z) PL/\FrO i w w' c (qd c z)/\w'.Yo=w.Yo:=by
 have hrc:=o6 h.right;have hnum:=h.num;have hl:=h.len;have h0:(c.Yb.set 0 z)[0]? =some z:=WT U
 have hS: ∀m:Nat,(c.Yb.set 0 z)[m+1]? =c.Yb[m+1]? :=fun m=>WS U
 have hval: ∀x∈c.Yb.set 0 z++c.Ya,ValW w.Yi.m_ x:=fun x hx=>by
  rcases W8.1 hx with hx|hx
  ·rcases List.mem_or_eq_of_mem_set hx with hx|rfl
   ·exact h.val (V4 _ hx)
   exact hz
  exact h.val (V5 _ hx)
 have hR:bj (qd c z)=true:=zb h.oc.kind hrc.1 hrc.2.1 hrc.2.2 (fun x hx=>(hval x (V4 _ hx)).may) (fun x hx=>(hval x (V5 _ hx)).may) (by show (c.Yb.set 0 z).length<=1025;rw [W3];omega) h0 hz1 (by show c.Ya.length<=4096;omega) h.oc.plain;obtain ⟨e1,e2,e3,e4⟩:=D8 (k':=k) (M':=c.Ya.length) hN hv hvN hk hM h.wd h.has h.at_ (c':=qd c z) rfl h.oc.kind hR (fun x hx=>⟨(hval x hx).i64,(hval x hx).ref⟩) (by show k+(c.Yb.set 0 z).length<=k+c.Yb.length;rw [W3];omega) (Xx _);refine ⟨_,e1,⟨e2,e3.has i h.has,?_,⟨h.oc.kind,⟨z,h0,hz1⟩,h.oc.plain,h.oc.row,by show (c.Yb.set 0 z).length=_;rw [W3];exact h.oc.num,h.oc.nd⟩,fun n p hp=> ?_,fun n m x y hne hx hy=>h.inj n m x y hne ((hS n).symm.trans hx) ((hS m).symm.trans hy)⟩,⟨e3,Le.refl _,fun a ha hne _=> ?_,fun n x hx _=> .inl ⟨n,(hS n).symm.trans hx⟩⟩,J⟩
 ·show aJ (ga w.Yi i _).m_ i=_;rw [e4 i h.has,if_pos rfl]
 ·obtain ⟨x,hx,hs⟩:=h.each n p hp;refine ⟨x,(hS n).trans hx,hs.move fun a _ _ ha h5=>⟨e3.has a ha,?_⟩⟩;show aJ (ga w.Yi i _).m_ a=_;rw [e4 a ha,if_neg fun e=> ?_];subst e;rw [h.at_] at h5;rcases h.oc.kind with hkd|hkd<;>rw [h5] at hkd<;>cases hkd
 show aJ (ga w.Yi i _).m_ a=_;rw [e4 a ha,if_neg hne]
theorem Obj.bump {N:Nat}{w:VS}(h:Obj N i k q w c PL)(t:Bool):Obj N i k (q+1) (yK t w) c PL:=by
 have hep:=h.wd.ep;refine ⟨⟨h.wd.pl,h.wd.hb,h.wd.ti,Nat.le_succ_of_le h.wd.tb,?_⟩,h.has,h.at_,h.oc,h.each,h.inj⟩;cases t
 ·show 0<=w.Yo+0/\w.Yo+0<=((q+1:Nat):Int);omega
 show 0<=w.Yo+1/\w.Yo+1<=((q+1:Nat):Int);omega
theorem FrO.bump {w:VS}(f:FrO i w w' c c')(t:Bool):FrO i w (yK t w') c c':=⟨⟨f.fr.roots,f.fr.has,f.fr.spent,f.fr.config⟩,f.le,f.rest,f.new⟩
theorem OM: ∀n:_root_.Fin 64,(0<=dK .i64 (n.val:Int) 16/\dK .i64 (n.val:Int) 16<=63)/\aq .i64 (dK .i64 (n.val:Int) 16) 1=aq .i64 (n.val:Int) 1:=by decide+kernel
theorem Nc {f:Int}(h:0<=f/\f<=63):(0<=dK .i64 f 16/\dK .i64 f 16<=63)/\aq .i64 (dK .i64 f 16) 1=aq .i64 f 1:=by
 have:=OM ⟨f.toNat,by omega⟩;simp only [Wt h.1] at this;exact this
theorem P8 {N:Nat}(hN:20000<=N)(hv:v.XZ=7)(hvN:v.N=i){w:VS}(h:Obj N i k q w c PL)(hk:k<=580)(hM:c.Ya.length<=2200):
  ∃w' c',gb N w v=some w'/\Obj N i k q w' c' PL/\FrO i w w' c c'/\w'.Yo=w.Yo/\c'.XZ=c.XZ/\c'.Yf=c.Yf/\c'.Yb=c.Yb/\qT c'=qT c:=by
 have hrc:=o6 h.right;unfold gb;rw [zZ hv hvN hk hM h,bs];show∃w' c',(bif decide (aq .i64 c.Ye 16=0) then _ else _)=_/\_;by_cases e:aq .i64 c.Ye 16=0
 ·obtain ⟨b1,b2⟩:=Nc hrc.2.1;obtain ⟨w',e1,e2,e3,e4⟩:=NQ hN hv hvN h hk c.Ya hM (fun x hx=>h.val (V5 _ hx)) h.oc.plain (dK .i64 c.Ye 16) b1;refine ⟨w',_,?_,e2,e3,e4,J,J,J,?_⟩
  ·rw [V0 e,ct];have e':cT N w v (⟨c.XZ,c.Yf,dK .i64 c.Ye 16,c.Yg,c.Yb,c.Ya⟩:VJ)=some w':=e1;show Option.bind (cT N w v (⟨c.XZ,c.Yf,dK .i64 c.Ye 16,c.Yg,c.Yb,c.Ya⟩:VJ)) _=_;rw [e',bs]
  unfold qT;show (!decide (aq .i64 (dK .i64 c.Ye 16) 1=0))=_;rw [b2]
 exact ⟨w,c,by rw [V1 e,cf],h,FrO.refl i w c,rfl,rfl,rfl,rfl,rfl⟩
def vj (A:Nat->Int)(t:Int):VN:=bif decide (t<0) then nullV else ⟨7,A t.toNat,⟨#[]⟩⟩
theorem ud (h:t<0):vj A t=nullV:=by unfold vj;rw [V0 h];rfl
theorem pM (h:0<=t):vj A t=⟨7,A t.toNat,⟨#[]⟩⟩:=by unfold vj;rw [V1 U];rfl
theorem RV (A:Nat->Int)(t:Int):(vj A t).XZ=1\/(vj A t).XZ=7:=by
 by_cases h:t<0
 ·rw [ud h];exact .inl J
 rw [pM U];exact .inr J
theorem PY (hA:∀i j,i<n->j<n->A i=A j->i=j){s:Int}(hs:-1<=s/\s<n)(ht:-1<=t/\t<n):vj A s=vj A t↔s=t:=by
 refine ⟨fun e=> ?_,fun e=>by rw [e]⟩;by_cases h1:s<0
 ·by_cases h2:t<0
  ·omega
  rw [ud h1,pM U] at e;cases congrArg VN.XZ e
 by_cases h2:t<0
 ·rw [ud h2,pM U] at e;cases congrArg VN.XZ e
 rw [pM U,pM U] at e;have:=hA _ _ U U (congrArg VN.N e);omega
def DG (f:Int->Int):Nat->Int->Bool
 |0,p=>decide (p<0)
 |k+1,p=>bif decide (p<0) then true else DG f k (f p)
def vO (f:Int->Int):Nat->Int->Int->Bool
 |0,_,_=>false
 |k+1,o,p=>bif decide (p<0) then false else bif decide (p=o) then true else vO f k o (f p)
structure Prs (n:Nat) (A:Nat->Int) (C:Nat->VJ) (f:Int->Int):Prop where
 at_: ∀j:Nat,j<n->(C j).Yb[0]? =some (vj A (f j))
 rng: ∀j:Nat,j<n-> -1<=f j/\f j<n
 ends: ∀j:Nat,j<n->DG f 4 j=true
theorem E2 {N:Nat}(hv:v.XZ=7)(hvN:v.N=i)(hk:k<=580){w:VS}(hM:c.Ya.length<=2200)(h:Obj N i k q w c PL)(hz:c.Yb[0]? =some z):ja N w v=some z:=by
 unfold ja;rw [zZ hv hvN hk hM h,bs];show Option.bind (ap c.Yb 0) _=_;rw [show ap c.Yb 0=some z from hz,bs]
section
variable {N b:Nat}(hn:n<=10){w:VS}(h:St N n b w A C P)
include h
theorem St.inj: ∀i j,i<n->j<n->A i=A j->i=j:=fun i j hi hj e=>by
 by_cases hij:i=j
 ·exact hij
 exact absurd e (h.ob.sep i j hi hj hij).1
theorem St.op2 (hj:j<n){b':Nat}(hb':b<=b')(o:Obj N (A j) (80+4*b') (1+1024*b') w' c' PL')(hk:c'.XZ=(C j).XZ)(f:FrO (A j) w w' (C j) c')(hl:PL'.length<=b'):St N n b' w' A (rB C j c') (rB P j PL'):=by
 refine ⟨h.ob.upd hj o hk f,fun m hm=> ?_,?_,h.box.keep (h.ob.ob j hj) f,f.le.tu h.tu,by rw [f.fr.config];exact h.cfg,by rw [f.fr.spent];exact h.stp.1,by rw [f.fr.spent];have:=h.stp.2;omega⟩
 ·by_cases e:m=j
  ·rw [e,qw];exact hl
  rw [sa _ _ e];have:=h.len m hm;omega
 obtain ⟨R,h1,h2⟩:=h.rts;exact ⟨R,h1,by rw [f.fr.roots];exact h2⟩
theorem St.prVal (hn0:0<n)(hn:n<=10)(ht:-1<=t/\t<n):ValW w.Yi.m_ (vj A t):=by
 by_cases h0:t<0
 ·rw [ud h0];exact ⟨HQ (v:=nullV) (by decide) (by decide) J (fun e=>by cases e) fun _=>J,by decide,fun e=>by cases e⟩
 have:=h.valW (v:=⟨7,t,⟨#[]⟩⟩) ⟨fun e=>absurd rfl e,⟨by show (0:Int)<=7;decide,by show (7:Int)<=7;decide⟩,by show in64 t;constructor<;>omega,fun _=>⟨rfl,by show 0<=t;omega,ht.2⟩⟩ hn0;rw [Hu rfl] at this;rw [pM U];exact this
theorem St.proto_ (hn:n<=10)(ht:-1<=t/\t<n):qX N w 20 t=some (vj A t):=by
 unfold qX;by_cases h0:t<0
 ·rw [V0 h0,ct,ud h0];rfl
 have:=h.at_ (j:=t.toNat) U;rw [Wt U] at this;rw [V1 h0,cf,gp (by constructor<;>omega),this,bs,pM U]
end
end
section
open Go.RowKit
set_option maxRecDepth 20000
theorem Nk {f:Int->Int}{p:Int}(hp:0<=p)(h:DG f (k+1) p=true):DG f k (f p)=true:=by
 unfold DG at h
 rwa [V1 U,cond_false] at h
theorem Uq {N:Nat}(w:VS)(v:VN)(hv:v.XZ=1):bU N w v=some (.inl ()):=by
 unfold bU;rw [V1 U,nf,ct]
theorem Ta {N b:Nat}{w:VS}(h:St N n b w A C P)(hb:b<=120)(ht:-1<=t/\t<n):nJ N w (vj A t)=some true:=by
 unfold nJ;by_cases h0:t<0
 ·rw [ud h0];rfl
 have ob:=h.ob.ob t.toNat U
 have hM:(C t.toNat).Ya.length<=2200:=by rw [h.ob.more U];exact XD _
 rw [pM U,V1 (show¬(7:Int)=1 by omega),cf,zZ (v:=⟨7,A t.toNat,⟨#[]⟩⟩) rfl rfl U hM ob,bs];rfl
section
variable {N b:Nat}(hN:20000<=N)(hn:n<=10)(hb:b<=119){w:VS}(h:St N n b w A C P){f:Int->Int}(hf:Prs n A C f)(hj:j<n)(ht:-1<=t/\t<n)
include hN hn hb h hf hj ht
def Pw (N n b:Nat)(w:VS)(A:Nat->Int)(C:Nat->VJ)(P:Nat->List VP)(j:Nat)(t:Int)(w':VS):Prop:=
 w'.Yo=w.Yo+(bif iO (C j) then 1 else 0)/\ ∃C',St N n (b+1) w' A C' P/\(C' j).Yb[0]? =some (vj A t)/\ ∀m,m<n->qT (C' m)=qT (C m)/\(C' m).Yf=(C m).Yf/\(m≠j->(C' m).Yb[0]? =(C m).Yb[0]?)/\((m:Int)≠t->iO (C' m)=iO (C m))
omit hf in
theorem RT (hjt:t≠(j:Int)):Sat (kE N w (vj A t) ⟨C j,w,⟨7,A j,⟨#[]⟩⟩⟩) fun r=>r.1=true/\Pw N n b w A C P j t r.2:=by
 have ob:=h.ob.ob j hj;have hm:=h.ob.more hj
 have hM:(C j).Ya.length<=2200:=by rw [hm];exact XD _
 have hnum:=ob.num;have hep:=ob.wd.ep;have hlen:=h.len j hj;obtain ⟨w1,e1,e2,e3,e4⟩:=N4 hN (v:=⟨7,A j,⟨#[]⟩⟩) rfl rfl ob U hM (h.prVal U hn ht) (RV A t)
 have he:0<=w1.Yo/\w1.Yo<=2000000000:=by rw [e4];omega
 have hcl:=Em (c':=qd (C j) (vj A t)) e1 he true;have st1:St N n (b+1) (yK (true&&iO (qd (C j) (vj A t))) w1) A (rB C j (qd (C j) (vj A t))) (rB P j (P j)):=h.op2 hj U ((e2.bump _).up U U) rfl (e3.bump _) U;rw [Hs] at st1;unfold kE
 refine t6 U (by show (0:Int)<((C j).Yb.length:Int);omega) fun x _=> ?_
 refine Sat.bind ⟨_,hcl,J⟩ fun y hy=> ?_
 subst hy
 have key: ∀m,m<n->qT (rB C j (qd (C j) (vj A t)) m)=qT (C m)/\(rB C j (qd (C j) (vj A t)) m).Yf=(C m).Yf/\(m≠j->(rB C j (qd (C j) (vj A t)) m).Yb[0]? =(C m).Yb[0]?)/\iO (rB C j (qd (C j) (vj A t)) m)=iO (C m):=fun m _=>by
  by_cases e:m=j
  ·rw [e,qw];exact ⟨J,J,fun h=>absurd J h,J⟩
  rw [sa _ _ e];exact ⟨J,J,fun _=>J,J⟩
 have hs0:(rB C j (qd (C j) (vj A t)) j).Yb[0]? =some (vj A t):=by
  rw [qw];show ((C j).Yb.set 0 (vj A t))[0]? =_;exact WT U
 have hep2:(yK (true&&iO (qd (C j) (vj A t))) w1).Yo=w.Yo+(bif iO (C j) then 1 else 0):=by
  show w1.Yo+(bif iO (C j) then 1 else 0)=_;rw [e4]
 show Sat (Option.bind (gb N (yK (true&&iO (qd (C j) (vj A t))) w1) (vj A t)) _) _;by_cases h0:t<0
 ·rw [ud h0] at*
  have:gb N (yK (true&&iO (qd (C j) nullV)) w1) nullV=some (yK (true&&iO (qd (C j) nullV)) w1):=by
   unfold gb;rw [Uq _ nullV rfl,bs];rfl
  rw [this,bs];refine ad ⟨J,hep2,_,st1,by rw [hs0,ud h0],fun m hm=> ?_⟩;obtain ⟨k1,k2,k3,k4⟩:=key m hm;exact ⟨k1,k2,k3,fun _=>k4⟩
 have hi:t.toNat<n:=by omega
 have hij:t.toNat≠j:=by omega
 have ob2:=st1.ob.ob t.toNat hi
 have hM2:(rB C j (qd (C j) (vj A t)) t.toNat).Ya.length<=2200:=by rw [st1.ob.more hi];exact XD _
 obtain ⟨w2,c2,f1,f2,f3,f4,f5,f6,f7,f8⟩:=P8 hN (v:=⟨7,A t.toNat,⟨#[]⟩⟩) rfl rfl ob2 U hM2
 have f1':gb N (yK (true&&iO (qd (C j) (vj A t))) w1) (vj A t)=some w2:=by rw [pM U];rw [pM U] at f1;exact f1
 rw [f1',bs];have st2:=st1.op2 hi (Xx _) f2 f5 f3 (st1.len _ hi);rw [Hs] at st2;refine ad ⟨J,f4.trans hep2,_,st2,?_,fun m hm=> ?_⟩
 ·rw [sa _ _ hij.symm];exact hs0
 obtain ⟨k1,k2,k3,k4⟩:=key m hm;by_cases e:m=t.toNat
 ·rw [e,qw];rw [e] at k1 k2 k3;exact ⟨f8.trans k1,f6.trans k2,fun hne=>by rw [f7];exact k3 hne,fun hne=>absurd U hne⟩
 rw [sa _ _ e];exact ⟨k1,k2,k3,fun _=>k4⟩
theorem Lc (hjt:t≠(j:Int)): ∀(m k:Nat) (p:Int),k<m->(-1<=p/\p<n)->DG f k p=true->Sat (kD N w ⟨7,A j,⟨#[]⟩⟩ (vj A t) ⟨C j,w,⟨7,A j,⟨#[]⟩⟩⟩ m (vj A p).XZ (vj A p).N (vj A p).S) fun r=>(vO f (k+1) j p=true/\r=(false,w))\/(vO f (k+1) j p=false/\r.1=true/\Pw N n b w A C P j t r.2)
 |0,k,p,hk,_,_=>by omega
 | m+1,k,p,hk,hp,he=>by
  rw [kD.eq_2];by_cases h0:p<0
  ·rw [ud h0,V1 (show¬nullV.XZ=7 by decide),cf]
   have er:vO f (k+1) j p=false:=by unfold vO;rw [V0 h0];rfl
   exact (RT hN hn hb h hj ht hjt).mono fun r hr=> .inr ⟨er,hr⟩
  have hpn:p.toNat<n:=by omega
  have ej:(⟨7,A p.toNat,⟨#[]⟩⟩:VN)=⟨7,A j,⟨#[]⟩⟩↔p=(j:Int):=⟨fun e=>by have:=h.inj _ _ hpn hj (congrArg VN.N e);omega,fun e=>by rw [e,Ws]⟩;rw [pM U,V0 rfl,ct];show Sat (bif decide ((⟨7,A p.toNat,⟨#[]⟩⟩:VN)=⟨7,A j,⟨#[]⟩⟩) then _ else _) _
  refine aK (fun e=>ad ?_) fun e=> ?_
  ·left;refine ⟨?_,J⟩;unfold vO;rw [V1 h0,cond_false,V0 (ej.1 e)];rfl
  have hpj:p≠(j:Int):=fun e2=>e (ej.2 e2)
  have ob:=h.ob.ob p.toNat hpn
  have hM:(C p.toNat).Ya.length<=2200:=by rw [h.ob.more hpn];exact XD _
  have hz:=hf.at_ p.toNat hpn;have hr:=hf.rng p.toNat hpn;rw [Wt U] at hz hr
  obtain ⟨k,rfl⟩: ∃q,k=q+1:=⟨k - 1,by
   cases k with
   |zero=>exact absurd (XQ he) h0
   |succ k=>rfl⟩
  have er:vO f (k+1+1) j p=vO f (k+1) j (f p):=by
   show (bif decide (p<0) then false else bif decide (p=(j:Int)) then true else vO f (k+1) j (f p))=_;rw [V1 h0,cond_false,V1 hpj,cond_false]
  show Sat (Option.bind (ja N w ⟨7,A p.toNat,⟨#[]⟩⟩) _) _;rw [E2 (v:=⟨7,A p.toNat,⟨#[]⟩⟩) rfl rfl U hM ob hz,bs,er];exact Lc hjt m k (f p) U hr (Nk U he)
theorem J8:Sat (mF N w ⟨7,A j,⟨#[]⟩⟩ (vj A t)) fun r=>(f j=t/\r=(true,w))\/(f j≠t/\qT (C j)=false/\r=(false,w))\/(f j≠t/\qT (C j)=true/\vO f 5 j t=true/\r=(false,w))\/(f j≠t/\qT (C j)=true/\vO f 5 j t=false/\t≠(j:Int)/\r.1=true/\Pw N n b w A C P j t r.2):=by
 have ob:=h.ob.ob j hj
 have hM:(C j).Ya.length<=2200:=by rw [h.ob.more hj];exact XD _
 have hz:=hf.at_ j hj;have hr:=hf.rng j hj;have hi:=PY h.inj hr ht;unfold mF;rw [zZ (v:=⟨7,A j,⟨#[]⟩⟩) rfl rfl U hM ob,bs];show Sat (Option.bind (nJ N w (vj A t)) _) _;rw [Ta h U ht,bs,nt,cf];show Sat (Option.bind (ap (C j).Yb 0) _) _;rw [show ap (C j).Yb 0=some (vj A (f j)) from hz,bs]
 refine aK (fun e=>ad (.inl ⟨hi.1 e,J⟩)) fun e=> ?_
 have hne:f j≠t:=fun h=>e (hi.2 h)
 show Sat (bif decide (aq .i64 (C j).Ye 1=0) then _ else _) _
 refine aK (fun e2=>ad (.inr (.inl ⟨hne,by unfold qT;rw [V0 e2];rfl,rfl⟩))) fun e2=> ?_
 have hext:qT (C j)=true:=by unfold qT;rw [V1 e2];rfl
 by_cases hjt:t=(j:Int)
 ·obtain ⟨M,rfl⟩: ∃M,N=M+1:=⟨N - 1,by omega⟩
  have er:vO f 5 j t=true:=by
   unfold vO;rw [V1 (show¬t<0 by omega),cond_false,V0 hjt];rfl
  rw [kD.eq_2,pM U,V0 rfl,ct];show Sat (bif decide ((⟨7,A t.toNat,⟨#[]⟩⟩:VN)=⟨7,A j,⟨#[]⟩⟩) then _ else _) _;rw [V0 (by rw [hjt,Ws]),ct];exact ad (.inr (.inr (.inl ⟨hne,hext,er,J⟩)))
 have he:DG f 4 t=true:=by
  by_cases h0:t<0
  ·unfold DG;rw [V0 h0];rfl
  have:=hf.ends t.toNat U
  rwa [Wt U] at this
 refine (Lc hN hn hb h hf hj ht hjt N 4 t U ht he).mono fun r hr=> ?_
 rcases hr with ⟨r1,r2⟩|⟨r1,r2,r3⟩
 ·exact .inr (.inr (.inl ⟨hne,hext,r1,r2⟩))
 exact .inr (.inr (.inr ⟨hne,hext,r1,hjt,r2,r3⟩))
end
end
section
open Go.RowKit
set_option maxRecDepth 20000
theorem PX (hA:∀j,j<n->A j∈g)(ht:-1<=t/\t<n):bG ρ g (vj A t)=vj (fun j=>ρ (A j)) t:=by
 by_cases h0:t<0
 ·rw [ud h0,ud h0];exact Oh J
 rw [pM U,pM U];exact sm J (hA _ U)
theorem Prs.mv {C':Nat->VJ}{f:Int->Int}(h:Prs n A C f)(hA:∀j,j<n->A j∈g)(hC:∀j,j<n->(C' j).Yb=(C j).Yb.map (bG ρ g)):Prs n (fun j=>ρ (A j)) C' f:=⟨fun j hj=>by rw [hC j hj,WR,h.at_ j hj];exact congrArg some (PX hA (h.rng j hj)),h.rng,h.ends⟩
theorem Prs.upd {f:Int->Int}(h:Prs n A C f)(hc:c'.Yb[0]? =(C j).Yb[0]?):Prs n A (rB C j c') f:=⟨fun m hm=>by
 by_cases e:m=j
 ·rw [e,qw,hc];exact h.at_ j (e▸hm)
 ·rw [sa _ _ e];exact h.at_ m hm,h.rng,h.ends⟩
def fE (p:Int):Int->Int:=fun x=>if x=0 then p else -1
structure Ste (N b:Nat) (a0:Bool) (w:VS) (A:Nat->Int) (C:Nat->VJ) (P:Nat->List VP) (p:Int):Prop where
 st:St N 2 b w A C P
 pr:Prs 2 A C (fE p)
 p01:p= -1\/p=1
 fl:iO (C 0)=a0
theorem OV {p:Int}(hp:p= -1\/p=1)(h0:(C 0).Yb[0]? =some (vj A p))(h1:(C 1).Yb[0]? =some nullV):Prs 2 A C (fE p):=by
 refine ⟨fun j hj=> ?_,fun j hj=> ?_,fun j hj=> ?_⟩
 ·rcases (show j=0\/j=1 by omega) with rfl|rfl
  ·exact h0
  exact h1
 ·rcases (show j=0\/j=1 by omega) with rfl|rfl
  ·show -1<=p/\p<2;omega
  show (-1:Int)<= -1/\(-1:Int)<2;omega
 rcases (show j=0\/j=1 by omega) with rfl|rfl<;>rcases hp with rfl|rfl<;>rfl
def Nq (c c':VJ)(p p':Int):Bool:=!decide (c'.Yf=c.Yf)|| !(decide (p'=1)==decide (p=1))
theorem UH {N b:Nat}(hN:20000<=N)(hb:b<=110){w:VS}{p:Int}(h:Ste N b a0 w A C P p){x:VM}(hx:OpOk 2 x)(h2:x.XZ=2->x.P≠0)(h0:x.O=0):
  Sat (tK N w 20 x) fun r=> ∃A' C' P' p',Ste N (b+1) a0 r.2 A' C' P' p'/\r.2.Yo=w.Yo+(bif Nq (C 0) (C' 0) p p'&&a0 then 1 else 0):=by
 have e0: ∀c:VJ,Nq c c p p=false:=fun c=>by unfold Nq;rw [V0 rfl,beq_self_eq_true];rfl
 have stay: ∃A' C' P' p',Ste N (b+1) a0 w A' C' P' p'/\w.Yo=w.Yo+(bif Nq (C 0) (C' 0) p p'&&a0 then 1 else 0):=⟨A,C,P,p,⟨h.st.stay,h.pr,h.p01,h.fl⟩,by rw [e0,Wj,cond_false,Int.add_zero]⟩;by_cases k2:x.XZ=2
 ·have hP:=h2 k2;have hp:=hx.p;have hp: -1<=x.P/\x.P<((2:Nat):Int):=hp
  have hAt:aD N w (20+x.O)=some ⟨7,A 0,⟨#[]⟩⟩:=by rw [h0];exact h.st.at_ (j:=0) U
  unfold tK;rw [gp (by constructor<;>omega),hAt,bs,h.st.to_ U hx.dv,bs,h.st.to_ U hx.dg,bs,h.st.to_ U hx.ds,bs,V1 (show¬x.XZ=0 by omega),cf,V1 (show¬x.XZ=1 by omega),cf,V0 k2,ct,h.st.proto_ U hp,bs]
  refine (J8 hN U U h.st h.pr (j:=0) U hp).bind fun r hr=>ad ?_
  have a6:fE p ((0:Nat):Int)=p:=rfl;rw [a6] at hr;rcases hr with ⟨-,rfl⟩|⟨-, -,rfl⟩|⟨-, -, -,rfl⟩|⟨hne, -, -, -, -,ep,C',st',hs,hm⟩
  ·exact stay
  ·exact stay
  ·exact stay
  obtain ⟨m1,m2, -,m4⟩:=hm 0 U;obtain ⟨-, -,n3, -⟩:=hm 1 U
  have hp':x.P= -1\/x.P=1:=by omega
  refine ⟨A,C',P,x.P,⟨st',OV hp' hs ?_,hp',(m4 U).trans h.fl⟩,?_⟩
  ·rw [n3 U];exact h.pr.at_ 1 U
  have hp01:=h.p01
  have ec:Nq (C 0) (C' 0) p x.P=true:=by
   unfold Nq
   have:(decide (x.P=1)==decide (p=1))=false:=by
    by_cases e1:x.P=1
    ·rw [V0 e1,V1 (show¬p=1 by omega)];rfl
    rw [V1 e1,V0 (show p=1 by omega)];rfl
   rw [this,Bool.not_false,Bool.or_true]
  rw [ec,Wl, <-h.fl];exact ep
 by_cases k5:x.XZ=5
 ·have hAt:aD N w (20+x.O)=some ⟨7,A 0,⟨#[]⟩⟩:=by rw [h0];exact h.st.at_ (j:=0) U
  unfold tK;rw [gp (by constructor<;>omega),hAt,bs,h.st.to_ U hx.dv,bs,h.st.to_ U hx.dg,bs,h.st.to_ U hx.ds,bs,V1 (show¬x.XZ=0 by omega),cf,V1 (show¬x.XZ=1 by omega),cf,V1 k2,cf,V1 (show¬x.XZ=3 by omega),cf,V1 (show¬x.XZ=4 by omega),cf,V0 k5,ct];obtain ⟨w',ρ,g,C',t1,t2,st',tA, -,tC⟩:=h.st.tick hN U U;rw [t1,bs];unfold oW;obtain ⟨age,c0⟩:=tC 0 U;refine ad ⟨_,C',_,p,⟨st',h.pr.mv tA fun j hj=> ?_,h.p01,?_⟩,?_⟩
  ·obtain ⟨age,c⟩:=tC j hj;rw [c]
  ·rw [c0];exact h.fl
  have ec:Nq (C 0) (C' 0) p p=false:=by
   unfold Nq;rw [c0,V0 rfl,beq_self_eq_true];rfl
  rw [ec,Wj,cond_false,Int.add_zero];exact t2
 refine (UG (n:=2) hN U U h.st hx k2 k5 (j:=0) h0).mono fun r hr=> ?_
 obtain ⟨-,c',st', -,f1,f2,ep⟩:=hr;refine ⟨A,_,_,p,⟨st',h.pr.upd f2,h.p01,by rw [qw];exact f1.trans h.fl⟩,?_⟩
 have ec:Nq (C 0) (rB C 0 c' 0) p p=!decide (c'.Yf=(C 0).Yf):=by
  unfold Nq;rw [qw,beq_self_eq_true,Bool.not_true,Bool.or_false]
 rw [ec, <-h.fl];exact ep
set_option maxRecDepth 20000
def vE:VN:=match eW 64 (wS 2) (⟨7,rZ (wS 2) 0,⟨#[]⟩⟩:VN) 1 with
 |some (v,_,_)=>v
 |none=>default
def wE:VS:=match eW 64 (wS 2) (⟨7,rZ (wS 2) 0,⟨#[]⟩⟩:VN) 1 with
 |some (_,_,w)=>w
 |none=>default
theorem RP (K:Nat):eW (K+64) (wS 2) (⟨7,rZ (wS 2) 0,⟨#[]⟩⟩:VN) 1=some (vE,true,wE):=by kernel_rfl
theorem SR (N:Nat):St N 2 0 wE (rZ wE) (sR wE) fun _=> []:=CD N 2 I
theorem Se {N:Nat}(hN:20000<=N):lZ N=some (wS 0):=by
 obtain ⟨K,rfl⟩: ∃K,N=K+64:=⟨N - 64,by omega⟩;unfold lZ;rw [Sd K,bs];rfl
theorem UU {p:Int}(hp:p= -1\/p=1):decide (vj A p=⟨7,A 1,⟨#[]⟩⟩)=decide (p=1):=by
 rcases hp with rfl|rfl
 ·exact V1 fun e=>by cases congrArg VN.XZ e
 exact V0 J
def UE (x:VM)(p:Int):VM:=⟨x.XZ,0,p,x.K,x.D,x.V,x.Yh⟩
def O3 (b:Nat)(a0:Bool)(w:VS):Prop:= ∃A C P p,Ste N b a0 w A C P p
theorem Jv {N b:Nat}(hN:20000<=N)(hb:b<=110){w:VS}(h:O3 N b a0 w){x:VM}{p0:Int}(hx:OpOk 2 (UE x p0))(h2:x.XZ=2->p0≠0)(a1:List VM)(j:Nat)(hj:j<=40)(kb:Int->VS->Option Bool)(k:∀w',O3 N (b+1) a0 w'->Sat (kb ((j:Int)+1) w') (· =true)):Sat (il N kb a0 20 (j:Int) a1 w x p0) (· =true):=by
 obtain ⟨A,C,P,p,hs⟩:=h;have o0:=hs.st.ob.ob 0 U
 have m0:(C 0).Ya.length<=2200:=by rw [hs.st.ob.more U];exact XD _
 have t0:aD N w 20=some ⟨7,A 0,⟨#[]⟩⟩:=hs.st.at_ (j:=0) U;have t1:aD N w (20+1)=some ⟨7,A 1,⟨#[]⟩⟩:=hs.st.at_ (j:=1) U;have e0:dF N w=some w.Yo:=rfl;have z0:(C 0).Yb[0]? =some (vj A p):=hs.pr.at_ 0 U;unfold il;rw [gp (by constructor<;>omega),e0,bs,t0,bs,Oe (v:=⟨7,A 0,⟨#[]⟩⟩) rfl rfl U m0 o0,bs,bs,E2 (v:=⟨7,A 0,⟨#[]⟩⟩) rfl rfl U m0 o0 z0,bs,t1,bs]
 refine Sat.bind (UH hN hb hs hx h2 J) fun r hr=> ?_
 obtain ⟨A',C',P',p',hs',ep⟩:=hr;have o0':=hs'.st.ob.ob 0 U
 have m0':(C' 0).Ya.length<=2200:=by rw [hs'.st.ob.more U];exact XD _
 have t0':aD N r.2 20=some ⟨7,A' 0,⟨#[]⟩⟩:=hs'.st.at_ (j:=0) U;have t1':aD N r.2 (20+1)=some ⟨7,A' 1,⟨#[]⟩⟩:=hs'.st.at_ (j:=1) U;have e0':dF N r.2=some r.2.Yo:=rfl;have z0':(C' 0).Yb[0]? =some (vj A' p'):=hs'.pr.at_ 0 U;rw [t0',bs,Oe (v:=⟨7,A' 0,⟨#[]⟩⟩) rfl rfl U m0' o0',bs,bs,E2 (v:=⟨7,A' 0,⟨#[]⟩⟩) rfl rfl U m0' o0' z0',bs,gp (by constructor<;>omega),t1',bs,UU hs'.p01,UU hs.p01,e0']
 have eb:(bif !decide ((C' 0).Yf=(C 0).Yf) then (some true) else (some (!((decide (p'=1))==(decide (p=1))))))=some (Nq (C 0) (C' 0) p p'):=by
  unfold Nq;cases decide ((C' 0).Yf=(C 0).Yf)<;>rfl
 rw [eb,bs];generalize Nq (C 0) (C' 0) p p'=c at ep
 have ec:(bif a0 then ((some r.2.Yo).bind fun a6=>some (!(c==(decide (w.Yo<a6))))) else (some false))=some false:=by
  cases a0 with
  |false=>rfl
  | true=>
   rw [ct,bs]
   cases c with
   |false=>
    have ep:r.2.Yo=w.Yo+0:=ep;rw [V1 U];rfl
   |true=>
    have ep:r.2.Yo=w.Yo+1:=ep;rw [V0 U];rfl
 have ed:(bif !a0 then ((some r.2.Yo).bind fun a8=>some (!decide (a8=w.Yo))) else (some false))=some false:=by
  cases a0 with
  |true=>rfl
  |false=>
   have ep:r.2.Yo=w.Yo+(bif c&&false then 1 else 0):=ep;rw [Wi,cond_false,Int.add_zero] at ep;rw [nf,ct,bs,V0 ep];rfl
 rw [ec,bs,cf,ed,bs,bs,cf];exact dN (by constructor<;>omega) (k r.2 ⟨A',C',P',p',hs'⟩)
theorem AP {N:Nat}(hN:20000<=N)(a0:Bool)(a1:List VM)(hl:a1.length<=40)(hok:∀x∈a1,OpOk 2 x): ∀(m j:Nat) (w:VS),a1.length<m+j->j<=a1.length->O3 N j a0 w->Sat (dA N a0 20 a1 m (j:Int) w) (· =true)
 |0,j,w,h,h2,_=>by omega
 | m+1,j,w,h,h2,hT=>by
  rw [dA.eq_2];by_cases h4:j<a1.length
  ·have hx:=hok _ (XY h4);rw [V0 U,ct,aI h4,bs];generalize a1[j]=x at*
   have k: ∀w',O3 N (j+1) a0 w'->Sat (dA N a0 20 a1 m ((j:Int)+1) w') (· =true):=fun w' hT'=>AP hN a0 a1 hl hok m (j+1) w' U U hT'
   have hp:=hx.p
   refine cz (P:=fun c=>c=true↔(x.XZ=2/\x.P=0)) (fun e=>ad ⟨fun h=>⟨XQ e,XQ h⟩,fun h=>V0 h.2⟩) (fun e=>ad ⟨fun h=>(by cases h),fun h=>absurd h.1 (XP e)⟩) fun c hc=>jI (fun e=> ?_) fun e=> ?_
   ·exact Jv hN U hT (p0:=1) ⟨⟨by show (0:Int)<=0;omega,by show (0:Int)<2;omega⟩,⟨by show (-1:Int)<=1;omega,by show (1:Int)<2;omega⟩,hx.d,hx.v,hx.dv,hx.dg,hx.ds⟩ (fun _=>by omega) a1 j U _ k
   exact Jv hN U hT (p0:=x.P) ⟨⟨by show (0:Int)<=0;omega,by show (0:Int)<2;omega⟩,hp,hx.d,hx.v,hx.dv,hx.dg,hx.ds⟩ (fun k2 k0=>by rw [hc.2 ⟨k2,k0⟩] at e;cases e) a1 j U _ k
  have hj:j=a1.length:=by omega
  subst hj;rw [V1 U,cf];unfold nR;rw [Lo hN,bs];exact ad J
theorem G1 {N:Nat}{w:VS}(h:St N 2 0 w (rZ w) (sR w) fun _=> [])(h0:(sR w 0).Yb=[nullV])(h1:(sR w 1).Yb=[nullV])(hf:iO (sR w 0)=a0):O3 N 0 a0 w:=⟨_,_,_, -1,⟨h,OV (.inl rfl) (by rw [h0];rfl) (by rw [h1];rfl),.inl rfl,hf⟩⟩
theorem G7 {N:Nat}(hN:20000<=N)(a0:Bool)(a1:List VM)(hl:a1.length<=40)(hok:∀x∈a1,OpOk 2 x): ∀(m j:Nat),2<m+j->j<=2->Sat (kw N a0 20 a1 m (j:Int) (wS j)) (· =true)
 |0,j,h,h2=>by omega
 | m+1,j,h,h2=>by
  rw [kw.eq_2];by_cases h4:j<2
  ·obtain ⟨K,rfl⟩: ∃K,N=K+64:=⟨N - 64,by omega⟩;obtain ⟨e1,e2⟩:=RO K j U;have e1':eW (K+64) (wS j) (⟨1,0,⟨#[]⟩⟩:VN) 1=some ((LX (wS j)).1,true,(LX (wS j)).2):=e1;rw [V0 U,ct,e1',bs,e2,bs,gp (by constructor<;>omega)];exact G7 hN a0 a1 hl hok m (j+1) U U
  have hj:j=2:=by omega
  subst hj;rw [V1 U,cf];unfold nS
  cases a0 with
  |false=>
   rw [cf];unfold im;exact AP hN false a1 hl hok N 0 (wS 2) U U (G1 (Rw N 2 U) I I I)
  |true=>
   obtain ⟨K,rfl⟩: ∃K,N=K+64:=⟨N - 64,by omega⟩;have hAt:aD (K+64) (wS 2) 20=some ⟨7,rZ (wS 2) 0,⟨#[]⟩⟩:=(Rw (K+64) 2 U).at_ (j:=0) U;rw [ct,hAt,bs,RP K,bs,nt,cf];unfold im;exact AP hN true a1 hl hok (K+64) 0 wE U U (G1 (SR (K+64)) I I I)
theorem Q5 {N:Nat}(hN:20000<=N)(a0:Bool)(a1:List VM)(hz:∀x∈a1,OpSz x):mx N a0 a1=some true:=by
 apply Sat.eq
 have e2:cH N (wS 0)=some 20:=by
  obtain ⟨K,rfl⟩: ∃K,N=K+64:=⟨N - 64,by omega⟩;exact PE K
 unfold mx;rw [Se hN,bs]
 refine (Tj (N:=N) (n:=2) hN U a1 hz).bind fun r hr=> ?_
 refine cz (P:=fun b=>b=false->a1.length<=40/\ ∀x∈a1,OpOk 2 x) (fun _=>ad fun h=>by cases h) (fun e=>ad fun _=>(hr (XP e)).2) fun b hb=>jI (fun _=> ?_) fun e=> ?_
 ·rw [Lo hN,bs];exact ad J
 obtain ⟨hl,hok⟩:=hb e;rw [e2,bs];exact G7 hN a0 a1 hl hok N 0 U U
theorem RY {a0:List VM}(h:TY (fun z=>Hq z) a0): ∀x∈a0,OpSz x:=fun x hx=>by
 have h:=h.2 x hx
 have hr:reachBytes<=140737488355328:=by decide
 exact ⟨Xy h.2.2.2.1.2.2 hr,Xy h.2.2.2.2.2.1.2.2 hr,Xy h.2.2.2.2.1.2.2.1.2.2 hr⟩
theorem Nj (a0:Bool){a1:List VM}(h:TY (fun z=>Hq z) a1):mx 20000 a0 a1=some true:=Q5 (by decide) a0 a1 (RY h)
end
end Go.Proofs.YthhiddkljcacaaaGreat