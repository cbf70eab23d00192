/- Merged texts: part 10. No conditions of their own. -/
import Derived.Test.YtmcifcmlojonnaaGreatDoorG9
import Derived.Test.YtmcifcmlojonnaaGreatDoorG7
import Derived.Test.YtmcifcmlojonnaaGreatDoorG1
import Derived.Test.YtmcifcmlojonnaaGreatDoorG2
import Derived.Test.YtmcifcmlojonnaaGreatDoorRows
import Derived.ProofKit
import Derived.LaidMore
import Derived.OpenShut
import Derived.Stop.Joined
namespace Go.Proofs.YtmcifcmlojonnaaGreatDoor
variable (N:Nat){i:Int}{ρ:Int->Int}{f:List Int}{a1:List WE}{R:List WK}{P S l:List WP}{n1 n2 z:Nat}{α:Type}{c:WI}{x:WK}{d:WL}{g:WN}{x0:WP}{dd:WU}
section
theorem WB:type_of% Tryz.func4:=Tryz.func4
variable {c2:Nat}
open Go.RowKit
set_option maxRecDepth 20000
section
variable (N:Nat)(n s:Int)(y:List WJ)(v:WK)(y16:WI×Bool)(E:List WK)
def U6 (m:Nat)(j:Int)(w:WH):Option (Bool×WH):=jh N n s y v y16 E m j w
theorem UM (m:Nat)(j:Int)(w:WH):U6 N n s y v y16 E (m+1) j w=bif decide (j<(y.length:Int)) then ((au y j).bind fun x=>(bif decide (x.Zg.Za=0) then (some (decide (s<=x.Zg.N))) else (some false)).bind fun b=>bif b then ((fR N w v x.Zg).bind fun z=>aG (in64 (j+1)) (U6 N n s y v y16 E m (j+1) z.2)) else (aG (in64 (j+1)) (U6 N n s y v y16 E m (j+1) w))) else ((cD N w v).bind fun z=>aG ((0:Int)<=s/\s.toNat<=E.length) ((ay N w v (⟨z.1.Za,z.1.Zi,z.1.Ze,z.1.Zf,z.1.Zc,List.take s.toNat E⟩:WI)).bind fun u=>some (decide (s=n),u))):=rfl
end
theorem Oc {s:Int}{p:WJ}(hb:iP s p=false): ∀(A B:List WJ),((A++p::B).map (·.Zg)).Nodup->pM (A.filter (iP s)++p::B) p.Zg=(A++ [p]).filter (iP s)++B:=by
 intro A B hn;rw [X3,X4] at hn
 have hA: ∀x∈A,x.Zg≠p.Zg:=fun x hx e=>by
  have:=(Yh.1 hn).2.2 _ (List.mem_map_of_mem hx) p.Zg (X9 ..);exact this e
 have hB: ∀x∈B,x.Zg≠p.Zg:=fun x hx e=>by
  have:=(Yi.1 (Yh.1 hn).2.1).1;exact this (Yb.2 ⟨x,hx,e⟩)
 unfold pM;rw [XA,XA,XB,XB,hb,WX rfl,List.filter_nil,if_neg (show¬(!true)=true by decide),if_neg (show¬false=true by decide),Xp]
 have e1:(A.filter (iP s)).filter (fun x=> !decide (x.Zg=p.Zg))=A.filter (iP s):=XC.2 fun x hx=>by simp [hA x ((Ya.1 hx).1)]
 have e2:B.filter (fun x=> !decide (x.Zg=p.Zg))=B:=XC.2 fun x hx=>by simp [hB x hx]
 rw [e1,e2]
section
variable {N:Nat}(hN:20000<=N){v:WK}(hv:v.Za=7)(hvN:v.N=i){k:Nat}(hk:k+8<=580){c0:WI}(PL:List WJ)(hnd:(PL.map (·.Zg)).Nodup)(hL:PL.length<1000)(s:Int)(hs:0<=s)(hfirm:∀p∈PL,FS p->p.Zg.N+1<=s)(n:Int)(y16:WI×Bool)(E:List WK)(hE:∀x∈E,Prim x)(hE1:s.toNat<=E.length)(hE2:E.length<=2200)(hM:c0.Zb.length<=2200)(w0:WH)(h2:c0.Za=2)
include hN hv hvN hk hnd hL hs hfirm hE hE1 hE2 hM h2
theorem Qg (q:Nat)(hq:q+1024*1000<=1000000000): ∀(m j:Nat) (w:WH) (c:WI),PL.length<m+j->j<=PL.length->Obj N i k (q+1024*j) w c ((PL.take j).filter (iP s)++PL.drop j)->Same c0 c->FrW w0 w->Sat (U6 N n s PL v y16 E m j w) fun r=>r.1=decide (s=n)/\ ∃c',Obj N i k (q+1024*1000) r.2 c' (PL.filter (iP s))/\c'.Za=2/\c'.Ze=c0.Ze/\c'.Zb=E.take s.toNat/\FrW w0 r.2
 |0,j,w,c,h0,h1,_,_,_=>by omega
 | m +1,j,w,c,h0,h1,ho,hsm,hfr=>by
  have hMc:c.Zb.length<=2200:=by rw [hsm.more];exact hM
  rw [UM];rcases YD j PL.length with hj|hj
  ·have hdrop:PL.drop j=PL[j]::PL.drop (j+1):=Xt hj
   have htake:PL.take (j+1)=PL.take j++ [PL[j]]:=by rw [List.take_add_one,XL hj];rfl
   rw [fO I,ct,aK hj,bs]
   have eb:(bif decide (PL[j].Zg.Za=0) then (some (decide (s<=PL[j].Zg.N))) else (some false))=some (!iP s PL[j]):=by
    unfold iP;cases decide (PL[j].Zg.Za=0)<;>cases decide (s<=PL[j].Zg.N)<;>rfl
   rw [eb,bs]
   cases hb:iP s PL[j] with
   | true=>
    rw [nt,cf,r64 I I];refine Qg q hq m (j+1) w c I hj ?_ hsm hfr
    have e:(PL.take (j+1)).filter (iP s)++PL.drop (j+1)=(PL.take j).filter (iP s)++PL.drop j:=by
     rw [htake,hdrop,XA,XB,hb,List.filter_nil,W0];rfl
    rw [e];exact ho.up (YA _) I
   | false=>
    rw [nf,ct]
    refine (C0 hN hv hvN ho I I hMc PL[j].Zg).bind fun r hr=> ?_
    rw [r64 I I]
    have hat:((PL.take j).filter (iP s)++PL.drop j)[((PL.take j).filter (iP s)).length]? =some PL[j]:=by
     rw [XH (YA _),YF,hdrop];rfl
    have hown:=rA ho.nodup hat;rw [hown] at hr
    have hnf: ¬ai .i64 PL[j].Zd 4=0:=fun e4=>by
     unfold iP at hb;rw [Bool.not_eq_false',Y0] at hb;have h00:=YU hb.1;have hle:=YU hb.2;have:=hfirm PL[j] (Y4 hj) ⟨h00,e4⟩;omega
    rcases hr with ⟨e, -⟩|⟨-,e, -⟩|⟨-, -, -,c2,o2,s2,f2⟩
    ·cases e
    ·exact absurd e hnf
    refine Qg q hq m (j+1) r.2 c2 I hj ?_ (hsm.trans s2) (hfr.trans f2.fr)
    have hsplit:PL.take j++PL[j]::PL.drop (j+1)=PL:=by rw [<-hdrop,Yp]
    have hc:=Oc hb (PL.take j) (PL.drop (j+1)) (by rw [hsplit];exact hnd);rw [hdrop,hc, <-htake] at o2;exact o2.up (YA _) I
  have hj':j=PL.length:=by omega
  subst hj';rw [YZ,List.drop_length,Xp] at ho;rw [fD I,cf,SD hv hvN I hMc ho,bs,cF ⟨hs,hE1⟩];have hrc:=lH ho.right;obtain ⟨w1,p1,o1,f1⟩:=Kt hN hv hvN ho I (E.take s.toNat) (by rw [YX];omega) (fun x hx=>(hE x (Yd hx)).w _) (fun e=>by have:=hsm.kind;omega) c.Ze hrc.2.1 ho.oc.noP;rw [p1,bs];exact ac ⟨J,_,o1.up (YA _) I,hsm.kind.trans h2,hsm.flags,J,hfr.trans f1.fr⟩
end
section
variable {N:Nat}(hN:20000<=N){v:WK}(hv:v.Za=7)(hvN:v.N=i){k q:Nat}(hk:k+8<=580)(hq:q+1024*1000<=1000000000){w:WH}(hM:d.Zk.length<=2200)(hL:d.Zm.length<1000)(h:Sim N i k q w c d)
include hN hv hvN hk hq hM hL h
theorem Qh (n:Int)(y16:WI×Bool)(E:List WK)(hidx:∀p∈d.Zm,p.Zg.Za=0->0<=p.Zg.N/\p.Zg.N<=5000): ∀(m j:Nat) (s:Int),d.Zm.length<m+j->j<=d.Zm.length->ji N n d.Zm w v y16 E m s (j:Int)=nU N n w v y16 E ((d.Zm.drop j).foldl qG s)
 |0,j,s,h0,h1=>by have _:=hN;have _:=hv;have _:=hvN;have _:=hk;have _:=hq;have _:=hM;have _:=h;omega
 | m+1,j,s,h0,h1=>by
  rw [ji.eq_2];unfold nT;rcases YD j d.Zm.length with hj|hj
  ·have hdrop:d.Zm.drop j=d.Zm[j]::d.Zm.drop (j+1):=Xt hj;rw [fO I,ct,aK hj,bs,hdrop,List.foldl_cons]
   have eb:(bif decide (d.Zm[j].Zg.Za=0) then (some (decide (ai .i64 d.Zm[j].Zd 4=0))) else (some false))=some (decide (d.Zm[j].Zg.Za=0)&&decide (ai .i64 d.Zm[j].Zd 4=0)):=by
    cases decide (d.Zm[j].Zg.Za=0)<;>rfl
   rw [eb,bs];unfold qG
   cases eb2:(decide (d.Zm[j].Zg.Za=0)&&decide (ai .i64 d.Zm[j].Zd 4=0)) with
   |true=>
    have h00:d.Zm[j].Zg.Za=0:=YU (Bool.and_eq_true_iff.1 eb2).1;have hb:=hidx d.Zm[j] (Y4 hj) h00;rw [ct,ct,r64 I I,r64 I I];exact Qh n y16 E hidx m (j+1) _ I hj
   |false=>
    rw [cf,cf,r64 I I];exact Qh n y16 E hidx m (j+1) _ I hj
  rw [fD I,cf,Xv hj];rfl
omit hN hv hvN hk hq hM hL in
theorem SF (n:Int)(hn:n<=4096)(y16:WI×Bool): ∀(m:Nat) (E:List WK),5001<m+E.length->E.length<=5000->nS N n w v y16 m E=nV N n w v y16 (dE E n)
 |0,E,h0,h1=>by have _:=h;omega
 | m+1,E,h0,h1=>by
  rw [nS.eq_2];by_cases e:(E.length:Int)<n
  ·rw [WX e,ct,rF (by rw [X0];omega)];have:=SF n hn y16 m (E++ [cB]) (by rw [YW,X0];omega) (by rw [YW,X0];omega);refine this.trans (congrArg _ ?_);unfold dE;rw [W0,show n.toNat - E.length=(n.toNat - (E++ [cB]).length)+1 by rw [YW,X0];omega];rfl
  rw [WY e,cf,FD I]
theorem Jb {n:Int}(hn:n<=2100\/4096<n):Sat (jw N w v n) fun r=> ∃d',lP N d n=some (d',r.1)/\d'.Zk.length<=max d.Zk.length 2101/\d'.Zm.length<=d.Zm.length/\CE N i (k+8) (q+1024*1000) w d' r.2:=by
 have hMc:c.Zb.length<=2200:=by rw [h.el];exact hM
 rw [GZ hN I I h.wf n];unfold jw Eg;rw [xK hv hvN I hM h,bs];show Sat (Option.bind (some (decide (n<0))) _) _;rw [bs];have same: ∃d',some (d,false)=some (d',false)/\d'.Zk.length<=max d.Zk.length 2101/\d'.Zm.length<=d.Zm.length/\CE N i (k+8) (q+1024*1000) w d' w:=⟨d,rfl,by omega,YA _,c,h.up I I,FrW.refl w⟩;by_cases h0:n<0
 ·rw [WX h0,ct,bs,ct,bs,ct];exact ac same
 rw [WY h0,cf,bs];by_cases h1:4096<n
 ·rw [WX h1,ct,bs,ct];exact ac same
 rw [WY h1,cf,Bool.false_or,Bool.false_or];show Sat (Option.bind (Option.bind (bif !decide (ai .i64 c.Ze 32=0) then some (!decide (n=(c.Zb.length:Int))) else some false) _) _) _;rw [h.fx,h.el]
 have eb:(bif d.Zs then some (!decide (n=(d.Zk.length:Int))) else some false)=some (d.Zs&& !decide (n=(d.Zk.length:Int))):=by cases d.Zs<;>rfl
 rw [eb,bs,bs]
 cases ef:(d.Zs&& !decide (n=(d.Zk.length:Int))) with
 |true=>
  rw [ct,cond_true];exact ac same
 | false=>
  rw [cf,cond_false];rw [SF h n I (c,true) N d.Zk I I];unfold nV;have hll:=C9 d.Zk n
  have hidx: ∀p∈d.Zm,p.Zg.Za=0->0<=p.Zg.N/\p.Zg.N<=5000:=fun p hp hp0=>by
   obtain ⟨g1,g2,g3⟩:=h.wf.idx p hp hp0;have:=(XN.1 g3).1;omega
  rw [BL hN hv hvN I hMc h.ob,bs];have a6:=Qh hN hv hvN hk hq hM hL h n (c,true) (dE d.Zk n) hidx N 0 n I I;rw [show ((0:Nat):Int)=0 from rfl] at a6;rw [a6,Xx];unfold nU;rw [BL hN hv hvN I hMc h.ob,bs];have hge:=Be d.Zm n
  have hle:=Bd d.Zm n (max (d.Zk.length:Int) n) I fun p hp hf=>by
   obtain ⟨g1,g2,g3⟩:=h.wf.idx p hp hf.1;have:=(XN.1 g3).1;omega
  have hE: ∀x∈dE d.Zk n,Prim x:=fun x hx=>by
   rcases C8 hx with hx|rfl
   ·exact h.ev x hx
   exact ub
  have hx:=Qg hN hv hvN hk d.Zm h.wf.nd hL (oz d.Zm n) I (fun p hp hf=>EJ d.Zm n hp hf) n (c,true) (dE d.Zk n) hE I I hMc w h.ar q hq N 0 w c I I (by rw [Ys,List.filter_nil,Y3,Xx];exact h.ob.up (YA _) I) (Same.refl c) (FrW.refl w)
  refine Sat.mono hx fun r hr=> ?_
  obtain ⟨r1,c',o,k2,fl,mo,fr⟩:=hr;refine ⟨Lk ⟨d.Ext,d.Zs,dE d.Zk n,d.Zm⟩ n,by rw [r1],?_,XX ..,c',⟨o.up I (YA _),k2,mo,by unfold IB;rw [fl];exact h.ex,by rw [fl];exact h.fx,⟨fun p hp hp0=> ?_,fun p hp=>h.wf.len p ((Ya.1 hp).1),List.Nodup.sublist (List.Sublist.map _ List.filter_sublist) h.wf.nd,fun x hx h8=>Ho (hE x (Yd hx)).may h8⟩,fun p hp=>h.pv p ((Ya.1 hp).1),fun x hx=>hE x (Yd hx)⟩,fr⟩
  ·show ((dE d.Zk n).take _).length<=_;rw [YX];omega
  have hpm:p∈d.Zm:=(Ya.1 hp).1;have hpb:=(Ya.1 hp).2;obtain ⟨g1,g2,g3⟩:=h.wf.idx p hpm hp0
  have hlt:p.Zg.N<oz d.Zm n:=by
   have hpb:iP (oz d.Zm n) p=true:=hpb;unfold iP at hpb;rw [WX hp0,Xg,Bool.not_eq_true',YR] at hpb;omega
  refine ⟨g1,g2,?_⟩;show ((dE d.Zk n).take (oz d.Zm n).toNat)[p.Zg.N.toNat]? =some cB;rw [List.getElem?_take_of_lt I];exact C7 g3
end
end
section
variable {c2:Nat}
open Go.RowKit
set_option maxRecDepth 20000
theorem Tt: ∀f:_root_.Fin 64,ai .i64 (f.val:Int) 16=0->((0<=cP .i64 (f.val:Int) 32/\cP .i64 (f.val:Int) 32<=63)/\ai .i64 (cP .i64 (f.val:Int) 32) 16=0/\ai .i64 (cP .i64 (f.val:Int) 32) 1=ai .i64 (f.val:Int) 1/\ai .i64 (cP .i64 (f.val:Int) 32) 32≠0)/\(0<=be .i64 (f.val:Int) 1/\be .i64 (f.val:Int) 1<=63)/\ai .i64 (be .i64 (f.val:Int) 1) 16=0/\ai .i64 (be .i64 (f.val:Int) 1) 1=0/\ai .i64 (be .i64 (f.val:Int) 1) 32=ai .i64 (f.val:Int) 32:=by decide+kernel
theorem Uz {f:Int}(h:0<=f/\f<=63)(h2:ai .i64 f 16=0):((0<=cP .i64 f 32/\cP .i64 f 32<=63)/\ai .i64 (cP .i64 f 32) 16=0/\ai .i64 (cP .i64 f 32) 1=ai .i64 f 1/\ai .i64 (cP .i64 f 32) 32≠0)/\(0<=be .i64 f 1/\be .i64 f 1<=63)/\ai .i64 (be .i64 f 1) 16=0/\ai .i64 (be .i64 f 1) 1=0/\ai .i64 (be .i64 f 1) 32=ai .i64 f 32:=by
 have:=Tt ⟨f.toNat,by omega⟩;simp only [Xn h.1] at this;exact this h2
def Iw (d:WL)(b:Bool):WL:=⟨d.Ext,b,d.Zk,d.Zm⟩
section
variable {N:Nat}(hN:20000<=N){v:WK}(hv:v.Za=7)(hvN:v.N=i){k q:Nat}(hk:k+8<=580)(hq:q+1024*1000<=1000000000){w:WH}(hM:d.Zk.length<=2200)(hL:d.Zm.length<1000)(h:Sim N i k q w c d)
include hN hv hvN hk hM h
theorem LP (E:List WK)(hE:∀x∈E,Prim x)(hl:E.length<=2200)(hold:∀j:Nat,d.Zk[j]? =some cB->E[j]? =some cB)(f:Int)(hf:0<=f/\f<=63)(a6:ai .i64 f 16=0): ∃w',ay N w v ⟨c.Za,c.Zi,f,c.Zf,c.Zc,E⟩=some w'/\Sim N i k q w' ⟨c.Za,c.Zi,f,c.Zf,c.Zc,E⟩ ⟨!decide (ai .i64 f 1=0),!decide (ai .i64 f 32=0),E,d.Zm⟩/\FrW w w':=by
 have _:=hM
 obtain ⟨w',p,o,fr⟩:=Kt hN hv hvN h.ob I E hl (fun x hx=>(hE x hx).w _) (fun e=>by have:=h.ar;omega) f hf a6;refine ⟨w',p,⟨o,h.ar,J,J,J,⟨fun p hp hp0=> ?_,h.wf.len,h.wf.nd,fun x hx h8=>Ho (hE x hx).may h8⟩,h.pv,hE⟩,fr.fr⟩;obtain ⟨g1,g2,g3⟩:=h.wf.idx p hp hp0;exact ⟨g1,g2,hold _ g3⟩
theorem Su: ∃w',ay N w v ⟨c.Za,c.Zi,cP .i64 c.Ze 32,c.Zf,c.Zc,c.Zb⟩=some w'/\(∃c',Sim N i k q w' c' (Iw d true))/\FrW w w':=by
 obtain ⟨⟨f1,f2,f3,f4⟩, -⟩:=Uz (lH h.ob.right).2.1 h.ob.oc.noP;obtain ⟨w',p,s,fr⟩:=LP hN hv hvN hk hM h c.Zb (by rw [h.el];exact h.ev) (by rw [h.el];exact hM) (fun j hj=>by rw [h.el];exact hj) (cP .i64 c.Ze 32) f1 f2
 have e:(⟨!decide (ai .i64 (cP .i64 c.Ze 32) 1=0),!decide (ai .i64 (cP .i64 c.Ze 32) 32=0),c.Zb,d.Zm⟩:WL)=Iw d true:=by
  rw [f3,WY f4,h.el];unfold Iw;rw [<-h.ex];rfl
 rw [e] at s;exact ⟨w',p,⟨_,s⟩,fr⟩
theorem QV: ∃w',qh N w v=some w'/\(∃c',Sim N i k q w' c' ⟨false,d.Zs,d.Zk,d.Zm⟩)/\FrW w w':=by
 obtain ⟨-,f1,f2,f3,f4⟩:=Uz (lH h.ob.right).2.1 h.ob.oc.noP;obtain ⟨w',p,s,fr⟩:=LP hN hv hvN hk hM h c.Zb (by rw [h.el];exact h.ev) (by rw [h.el];exact hM) (fun j hj=>by rw [h.el];exact hj) (be .i64 c.Ze 1) f1 f2
 have e:(⟨!decide (ai .i64 (be .i64 c.Ze 1) 1=0),!decide (ai .i64 (be .i64 c.Ze 1) 32=0),c.Zb,d.Zm⟩:WL)=⟨false,d.Zs,d.Zk,d.Zm⟩:=by
  rw [f4,WX f3,h.el, <-h.fx];rfl
 rw [e] at s;refine ⟨w',?_,⟨_,s⟩,fr⟩;unfold qh;rw [G9 hv hvN I (by rw [h.el];exact hM) h.ob,bs];show Option.bind (bK N ⟨⟨c.Za,c.Zi,be .i64 c.Ze 1,c.Zf,c.Zc,c.Zb⟩,w,v⟩ false) _=_;rw [II p f2 false,bs]
theorem SP (hx:Prim x)(hl:d.Zk.length<2200):Sat (tj N w v x) fun r=> ∃d',wu N d x=some (d',r.1)/\d'.Zk.length<=d.Zk.length+1/\d'.Zm.length<=d.Zm.length/\CE N i k q w d' r.2:=by
 have same: ∃d',some (d,false)=some (d',false)/\d'.Zk.length<=d.Zk.length+1/\d'.Zm.length<=d.Zm.length/\CE N i k q w d' w:=⟨d,rfl,by omega,YA _,c,h,FrW.refl w⟩;have a6:(!decide (ai .i64 c.Ze 1=0))=d.Ext:=h.ex
 have e1:decide (ai .i64 c.Ze 1=0)=!d.Ext:=by rw [<-a6,Bool.not_not]
 unfold tj wu ya;rw [xK hv hvN I hM h,bs];show Sat (Option.bind (some (decide (ai .i64 c.Ze 1=0))) _) _;rw [e1,bs]
 cases eE:d.Ext with
 |false=>exact ac (by simpa using same)
 | true=>
  rw [nt,cf,cf,bs,h.fx,bs]
  cases eF:d.Zs with
  |true=>exact ac (by simpa using same)
  | false=>
   rw [cf,bs,cf,bs,h.el,WY (show¬4096<=(d.Zk.length:Int) by omega),cf,cf,rF (by rw [X0];omega),rF (by simp only [XY];omega),rF (by simp only [YW,XY,X0];omega)]
   obtain ⟨w',p,s,fr⟩:=LP hN hv hvN hk hM h (d.Zk++ [x]) (fun y hy=>by
    rcases X6.1 hy with hy|hy
    ·exact h.ev y hy
    ·rw [Yg.1 hy];exact hx) (by rw [YW,X0];omega) (fun j hj=>by rw [XG (XN.1 hj).1];exact hj) c.Ze (lH h.ob.right).2.1 h.ob.oc.noP
   rw [p,bs];rw [h.fx,a6,eE,eF] at s;refine ac ⟨_,J,?_,YA _,_,s,fr⟩;show ([]++d.Zk++ [x]).length<=_;rw [Y3,YW,X0];exact YA _
include hL hq
theorem PJ (key:WP):Sat (qy N w v key) fun r=> ∃d',sN N d key=some (d',r.1)/\d'.Zk.length<=d.Zk.length/\d'.Zm.length<=d.Zm.length/\CE N i k (q+1024) w d' r.2:=by
 have hMc:c.Zb.length<=2200:=by rw [h.el];exact hM
 have same: ∀b:Bool, ∃d',some (d,b)=some (d',b)/\d'.Zk.length<=d.Zk.length/\d'.Zm.length<=d.Zm.length/\CE N i k (q+1024) w d' w:=fun b=>⟨d,rfl,YA _,YA _,c,h.up (YA _) I,FrW.refl w⟩
 have ho:=KE hM h.wf h.pv h.ev key;unfold qy sN qa;rw [xK hv hvN I hM h,bs,nt,cf,P9 hN hv hvN I hM h key,bs,Ia hN I I h.wf key,bs]
 cases e2:(nJ d key).2 with
 |false=>rw [nf,ct,ct];exact ac (same true)
 | true=>
  rw [nt,cf,cf];by_cases h4:ai .i64 (nJ d key).1.Zd 4=0
  ·rw [WX h4,ct,ct];exact ac (same false)
  rw [WY h4,cf,cf]
  have hl:key≠lenK:=fun e=>by
   apply h4;unfold nJ;rw [WX e,cond_true];show ai .i64 (bif d.Zs then 0 else 1) 4=0;cases d.Zs<;>decide
  have hlong:=Ib hN (d:=d) I 0 I;rw [FD I] at hlong;have e8:iu N=some cB:=rfl
  have hA:nJ d key=match sE d.Zk key with|some x=>(⟨key,7,x,v0,v0⟩,true)|none=>mW d.Zm key:=by
   unfold nJ;rw [WY hl,cond_false];rfl
  -- what remains when a property is removed
  have hdel:sE d.Zk key=none->Sat ((fR N w v key).bind fun a6=>some (a6.1,a6.2)) fun r=>r.1=true/\CE N i k (q+1024) w ⟨d.Ext,d.Zs,d.Zk,pM d.Zm key⟩ r.2:=fun en=>by
   rw [en] at hA;rw [hA] at e2 h4
   refine (C0 hN hv hvN h.ob I I hMc key).bind fun r hr=>ac ?_
   rcases hr with ⟨e, -⟩|⟨-,e, -⟩|⟨-, -,r1,c2,o2,s2,f2⟩
   ·rw [e2] at e;cases e
   ·exact absurd e h4
   refine ⟨r1,c2,⟨o2,s2.kind.trans h.ar,s2.more.trans h.el,s2.ext.trans h.ex,by rw [s2.flags];exact h.fx,⟨fun p hp hp0=>h.wf.idx p (qv.1 hp).1 hp0,fun p hp=>h.wf.len p (qv.1 hp).1,IG h.wf.nd _,h.wf.hole⟩,fun p hp=>h.pv p (qv.1 hp).1,h.ev⟩,f2.fr⟩
  have hfin: ∀(m:Option (Bool×WH)) (R:Option (WL×Bool)),R=some (⟨d.Ext,d.Zs,d.Zk,pM d.Zm key⟩,true)->(Sat m fun r=>r.1=true/\CE N i k (q+1024) w ⟨d.Ext,d.Zs,d.Zk,pM d.Zm key⟩ r.2)->Sat m fun r=> ∃d',R=some (d',r.1)/\d'.Zk.length<=d.Zk.length/\d'.Zm.length<=d.Zm.length/\CE N i k (q+1024) w d' r.2:=fun m R hR hm=>hm.mono fun r hr=>⟨⟨d.Ext,d.Zs,d.Zk,pM d.Zm key⟩,by rw [hR,hr.1],YA _,XX ..,hr.2⟩
  by_cases h0:key.Za=0
  ·rw [WX h0,ct,ct]
   cases en:sE d.Zk key with
   | some x=>
    obtain ⟨g1,g2,g3,g4,g5⟩:=wa en;have hlt:=(XN.1 g5).1
    have hg:au d.Zk key.N=some x:=by
     have:=aK hlt;rw [show ((key.N.toNat:Nat):Int)=key.N by omega,(XN.1 g5).2] at this;exact this
    have hth:eD N c key.N=some true:=by
     unfold eD;rw [h.el,WX (show key.N<(d.Zk.length:Int) by omega),ct,hg,bs,bs];show some (!decide (x=cB))=_;rw [WY g2];rfl
    rw [hth,bs,bs,ct,h.el,hg,bs,WX (show key.N<(d.Zk.length:Int) by omega),bs,ct,hlong,bs,e8,bs]
    have hno: ∀p∈d.Zm,p.Zg≠key:=fun p hp e=>by
     obtain ⟨-, -,g⟩:=h.wf.idx p hp (by rw [e];exact h0);rw [e,g5] at g;exact g2 (YL g)
    have hset: ∀u∈d.Zk.set key.N.toNat cB,Prim u:=fun u hu=>by
     rcases Ye hu with hu|rfl
     ·exact h.ev u hu
     exact ub
    obtain ⟨w',p,s,fr⟩:=LP hN hv hvN hk hM h (d.Zk.set key.N.toNat cB) hset (by rw [XZ];exact hM) (fun j hj=>by
     by_cases e:key.N.toNat=j
     ·subst e;exact XQ hlt
     ·rw [XP e];exact hj) c.Ze (lH h.ob.right).2.1 h.ob.oc.noP
    have p':ay N w v ⟨c.Za,c.Zi,c.Ze,c.Zf,c.Zc,List.set d.Zk key.N.toNat (⟨8,0,(⟨#[]⟩:ByteArray)⟩:WK)⟩=some w':=p;rw [p',bs];have hwo:=tV hN (d:=⟨d.Ext,d.Zs,List.set d.Zk key.N.toNat cB,d.Zm⟩) (by show d.Zm.length<=1024;omega) key;have a7:(!decide (ai .i64 c.Ze 1=0))=d.Ext:=h.ex;rw [h.fx,a7] at s;refine ac ⟨⟨d.Ext,d.Zs,d.Zk.set key.N.toNat cB,d.Zm⟩,?_,by show (d.Zk.set _ _).length<=_;rw [XZ];exact YA _,YA _,_,s.up (YA _) I,fr⟩;show Option.bind (au d.Zk key.N) _=_;rw [hg,bs];show Option.bind (er N ⟨d.Ext,d.Zs,List.set d.Zk key.N.toNat cB,d.Zm⟩ key) _=_;rw [hwo,bs,MC hno]
   | none=>
    rw [en] at hA;rw [hA] at e2;rcases zh h.wf.nd key with ⟨p,hp,hpk,hop⟩|⟨-,hop⟩
    ·obtain ⟨g1,g2,g3⟩:=h.wf.idx p hp (by rw [hpk];exact h0);rw [hpk] at g1 g2 g3;have hlt:=(XN.1 g3).1
     have hg:au d.Zk key.N=some cB:=by
      have:=aK hlt;rw [show ((key.N.toNat:Nat):Int)=key.N by omega,(XN.1 g3).2] at this;exact this
     have hth:eD N c key.N=some false:=by
      unfold eD;rw [h.el,WX (show key.N<(d.Zk.length:Int) by omega),ct,hg,bs,bs];rfl
     rw [hth,bs,bs,cf,WX (show key.N<(d.Zk.length:Int) by omega),bs,ct,hlong,bs,e8,bs];refine hfin _ _ ?_ (hdel en);show Option.bind (au d.Zk key.N) _=_;rw [hg,bs];have hwo:=tV hN (d:=⟨d.Ext,d.Zs,List.set d.Zk key.N.toNat cB,d.Zm⟩) (by show d.Zm.length<=1024;omega) key;show Option.bind (er N ⟨d.Ext,d.Zs,List.set d.Zk key.N.toNat cB,d.Zm⟩ key) _=_;rw [hwo,bs,Bg g3]
    rw [hop] at e2;cases e2
  rw [WY h0,cf,cf,bs,cf,bs,cf]
  have en:sE d.Zk key=none:=by
   cases e:sE d.Zk key with
   |none=>rfl
   |some x=>exact absurd (by rw [(wa e).2.2.1];rfl) h0
  refine hfin _ _ ?_ (hdel en);show Option.bind (er N d key) _=_;rw [tV hN I key,bs]
end
end
section
variable {c1:Nat}
open Go.RowKit
set_option maxRecDepth 20000
theorem Ub: ∀a:_root_.Fin 8, ∀b s2 x y:Bool,ai .i64 ((kD (a.val:Int) (bif b then 0 else 1) x 2+kD (a.val:Int) (bif b then 0 else 1) y 4)+kD (a.val:Int) (bif b then 0 else 1) s2 1) 1=0↔(bif s2 then !sB (a.val:Int) 1 else b)=true:=by decide+kernel
theorem Ul: ∀b:Bool,sB (bif b then 0 else 1) 8=false/\sB (bif b then 0 else 1) 4=false:=by decide+kernel
theorem Sh: ∀n:_root_.Fin 64,(ai .i64 (n.val:Int) 2=0↔sB (n.val:Int) 2=false)/\(ai .i64 (n.val:Int) 1=0↔sB (n.val:Int) 1=false):=by decide+kernel
theorem H3 {N:Nat}(hN:20000<=N)(hE:d.Zk.length<=5000)(hP:d.Zm.length<=1024)(hw:Wf d){n:Int}{d1:WL}{b:Bool}(e:lP N d n=some (d1,b)):d1.Zs=d.Zs:=by
 rw [GZ hN hE hP hw n] at e;have e:=YL e;unfold Eg at e
 cases e':(decide (n<0)||decide (4096<n)||(d.Zs&& !decide (n=(d.Zk.length:Int)))) with
 |true=>rw [e',cond_true] at e;exact (congrArg (fun z:WL×Bool=>z.1.Zs) e).symm
 |false=>rw [e',cond_false] at e;exact (congrArg (fun z:WL×Bool=>z.1.Zs) e).symm
section
variable {N:Nat}(hN:20000<=N){v:WK}(hv:v.Za=7)(hvN:v.N=i){k q:Nat}(hk:k+8<=580)(hq:q+1024*1000<=1000000000){w:WH}(hM:d.Zk.length<=2190)(hL:d.Zm.length<1000)(h:Sim N i k q w c d)
include hN hv hvN hk hq hM hL h
theorem NK (hd:PD dd): ∃z,lp N (vS d) true d.Ext lenK dd=some z/\dq N (vS d) true true lenK dd=some z/\(z.2=true->(ai .i64 z.1.Zd 1=0↔(bif sB dd.Has 2 then !sB dd.Zd 1 else d.Zs)=true)):=by
 have _:=hv
 have _:=hvN
 have _:=hk
 have _:=hq
 have _:=hL
 have hl:nJ d lenK=(vS d,true):=by
  unfold nJ;rw [WX rfl];rfl
 have ho:=KE I h.wf h.pv h.ev lenK;rw [hl] at ho;have hlb:0<=(vS d).Zd/\(vS d).Zd<=15:=ho.b;have hB:=zr N hd.r hlb;rw [MJ N lenK hlb ho.n hd.r,zu N lenK hlb hd.r,zu N lenK hlb hd.r];obtain ⟨p8,p4⟩:=Ul d.Zs;have e4:sB (vS d).Zd 4=false:=p4;have e8:sB (vS d).Zd 8=false:=p8;rw [nt,cf,e4,nf,ct]
 have hR:keyR N lenK:=by
  unfold keyR aZ;show Option.bind (iX N lenK.S) _=_
  have:iX N lenK.S=some (0,false):=by
   obtain ⟨n,rfl⟩: ∃n,N=n+64:=⟨N - 64,by omega⟩;kernel_rfl
  rw [this];rfl
 obtain ⟨y,hy, -⟩:=MI N hR hd hlb ho.v ho.v8 ho.g ho.s true true;rw [zu N lenK hlb hd.r,nt,cf,e4,nf,ct] at hy;refine ⟨y,hy,hy,fun e=> ?_⟩
 cases hb:ii N (vS d) dd with
 |none=>rw [hb] at hy;cases hy
 | some b=>
  rw [hb,bs] at hy
  cases b with
  |true=>rw [ct] at hy;obtain rfl:=bF hy;cases e
  | false=>
   rw [cf] at hy;obtain rfl:=bF hy
   have hacc:(sB dd.Has 4||sB dd.Has 8)=false:=by
    cases e':(sB dd.Has 4||sB dd.Has 8) with
    |false=>rfl
    | true=>
     rw [<-IL N hlb hB] at hb;unfold pj at hb;rw [hB.says 32 I,bs,hB.da 4 I,bs,Eb,bs] at hb
     cases e5:(bif sB dd.Has 32 then sB dd.Zd 4 else false) with
     |true=>rw [e5,ct] at hb;cases hb
     | false=>
      rw [e5,cf,hB.says 16 I,bs,hB.da 2 I,bs,hB.pb 2 I,bs,Eb,bs] at hb
      cases e6:(bif sB dd.Has 16 then !(sB dd.Zd 2==sB (vS d).Zd 2) else false) with
      |true=>rw [e6,ct] at hb;cases hb
      |false=>
       rw [e6,cf,hB.pb 8 I,bs,e8,cf,hB.acc,bs,e',ct] at hb;cases hb
   have hf:=Ub ⟨dd.Zd.toNat,by have:=hd.r.a;omega⟩ d.Zs (sB dd.Has 2) (sB dd.Has 16) (sB dd.Has 32);simp only [Xn hd.r.a.1] at hf
   have ea:(Gm lenK (vS d) dd).Zd=(kD dd.Zd (bif d.Zs then 0 else 1) (sB dd.Has 16) 2+kD dd.Zd (bif d.Zs then 0 else 1) (sB dd.Has 32) 4)+kD dd.Zd (bif d.Zs then 0 else 1) (sB dd.Has 2) 1:=by
    show _+(bif (sB dd.Has 4||sB dd.Has 8)||(sB (vS d).Zd 8&& !(sB dd.Has 1||sB dd.Has 2)) then (8:Int) else bif sB (vS d).Zd 8 then _ else _)=_;rw [hacc,e8];rfl
   show ai .i64 (Gm lenK (vS d) dd).Zd 1=0↔_;rw [ea];exact hf
def Oh (N:Nat)(i:Int)(k q:Nat)(w:WH)(d d':WL)(w':WH):Prop:=d'.Zk.length<=max d.Zk.length 2101/\d'.Zm.length<=d.Zm.length+1/\CE N i (k+8) (q+1024*1000) w d' w'
theorem PK (a8:k+16<=580)(hd:PD dd)(hval:dd.Value.N<=2100\/4096<dd.Value.N):Sat (mV N w v c dd) fun r=> ∃d',oT N d dd=some (d',r.1,r.2.1)/\Oh N i k q w d d' r.2.2:=by
 have same: ∀b:Bool, ∃d',some (d,false,b)=some (d',false,b)/\Oh N i k q w d d' w:=fun b=>⟨d,rfl,by omega,by omega,c,h.up I I,FrW.refl w⟩
 have eL:bN N=some lenK:=rfl;have eL':bZ N=some lenK:=rfl
 have hl:nJ d lenK=(vS d,true):=by
  unfold nJ;rw [WX rfl];rfl
 obtain ⟨z,z1,z2,z3⟩:=NK hN hv hvN hk hq hM hL h hd;have h6:=Sh ⟨dd.Has.toNat,by have:=hd.r.h;omega⟩;simp only [Xn hd.r.h.1] at h6;have h6a:=Sh ⟨dd.Zd.toNat,by have:=hd.r.a;omega⟩;simp only [Xn hd.r.a.1] at h6a;unfold mV oT;generalize hbad:((bif !decide (ai .i64 dd.Has 1=0) then ((bif !decide (dd.Value.Za=3) then (some true) else (some (decide (dd.Value.N<0)))).bind fun b7=>(bif b7 then (some true) else (some (decide (4096<dd.Value.N)))).bind fun b8=>some b8) else (some false)):Option Bool)=bad
 obtain ⟨b,rfl⟩: ∃b,bad=some b:=by
  rw [<-hbad];cases decide (ai .i64 dd.Has 1=0)<;>cases decide (dd.Value.Za=3)<;>cases decide (dd.Value.N<0)<;>cases decide (4096<dd.Value.N)<;>exact ⟨_,rfl⟩
 rw [bs,bs]
 cases b with
 |true=>exact ac (same true)
 | false=>
  rw [cf,cf,HN I h,bs,eL',bs,z2,bs,eL,bs,Ia hN I I h.wf lenK,bs,bs,hl,z1,bs]
  cases ez:z.2 with
  |false=>exact ac (same false)
  | true=>
   have hw:=z3 ez;rw [nt,cf,cf]
   have hfix:(bif !decide (ai .i64 dd.Has 2=0) then (some (decide (ai .i64 dd.Zd 1=0))) else (some false):Option Bool)=some (sB dd.Has 2&& !sB dd.Zd 1):=by
    have a1:decide (ai .i64 dd.Has 2=0)=!sB dd.Has 2:=by
     cases e:sB dd.Has 2 with
     |false=>rw [WX (h6.1.2 e)];rfl
     |true=>rw [WY fun e2=>by rw [h6.1.1 e2] at e;cases e];rfl
    have a2:decide (ai .i64 dd.Zd 1=0)=!sB dd.Zd 1:=by
     cases e:sB dd.Zd 1 with
     |false=>rw [WX (h6a.2.2 e)];rfl
     |true=>rw [WY fun e2=>by rw [h6a.2.1 e2] at e;cases e];rfl
    rw [a1,a2,Bool.not_not];cases sB dd.Has 2<;>rfl
   have hz1:decide (ai .i64 z.1.Zd 1=0)=(bif sB dd.Has 2 then !sB dd.Zd 1 else d.Zs):=by
    cases e:(bif sB dd.Has 2 then !sB dd.Zd 1 else d.Zs) with
    |true=>exact WX (hw.2 e)
    |false=>exact WY fun e2=>by rw [hw.1 e2] at e;cases e
   rw [hz1];by_cases hs:ai .i64 dd.Has 1=0
   ·rw [WX hs,nt,nf,ct,cf];unfold kc jZ;rw [hfix,bs];obtain ⟨w',p,⟨c',s⟩,fr⟩:=Su hN hv hvN hk I h
    cases e2:sB dd.Has 2 with
    | false=>
     rw [cf];show Sat (bif d.Zs then _ else _) _
     cases eF:d.Zs with
     |false=>
      rw [cf]
      have ed:Iw d false=d:=by unfold Iw;rw [<-eF]
      exact ac ⟨Iw d false,J,by rw [ed];omega,by rw [ed];omega,c,by rw [ed];exact h.up I I,FrW.refl w⟩
     |true=>
      rw [ct,xK hv hvN I I h,bs];show Sat (Option.bind (ay N w v ⟨c.Za,c.Zi,cP .i64 c.Ze 32,c.Zf,c.Zc,c.Zb⟩) _) _;rw [p,bs];exact ac ⟨Iw d true,J,by show d.Zk.length<=_;omega,by show d.Zm.length<=_;omega,c',s.up I I,fr⟩
    | true=>
     rw [ct,Xg]
     cases e1:sB dd.Zd 1 with
     |true=>
      rw [nt,cf,cf];exact ac ⟨d,J,by omega,by omega,c,h.up I I,FrW.refl w⟩
     |false=>
      rw [nf,ct,ct,xK hv hvN I I h,bs];show Sat (Option.bind (ay N w v ⟨c.Za,c.Zi,cP .i64 c.Ze 32,c.Zf,c.Zc,c.Zb⟩) _) _;rw [p,bs];exact ac ⟨Iw d true,J,by show d.Zk.length<=_;omega,by show d.Zm.length<=_;omega,c',s.up I I,fr⟩
   rw [WY hs,nf,nt,ct,cf]
   refine Sat.bind (Jb hN hv hvN hk hq I hL h hval) fun r hr=> ?_
   obtain ⟨d1,e1,l1,l2,c1,s1,f1⟩:=hr;rw [e1,bs];unfold kc jZ;rw [hfix,bs];obtain ⟨w',p,⟨c',s⟩,fr⟩:=Su hN hv hvN (by omega:k+8+8<=580) I s1;have hfx1:d1.Zs=d.Zs:=H3 hN I I h.wf e1;have stay: ∃d',some ((⟨d1.Ext,d1.Zs,d1.Zk,d1.Zm⟩:WL),r.1,false)=some (d',r.1,false)/\Oh N i k q w d d' r.2:=⟨d1,rfl,l1,by omega,c1,s1,f1⟩
   have go:Sat ((cD N r.2 v).bind fun a6=>(ay N r.2 v (⟨a6.1.Za,a6.1.Zi,cP .i64 a6.1.Ze 32,a6.1.Zf,a6.1.Zc,a6.1.Zb⟩:WI)).bind fun a7=>some (r.1,false,a7)) fun z=> ∃d',some ((⟨d1.Ext,true,d1.Zk,d1.Zm⟩:WL),r.1,false)=some (d',z.1,z.2.1)/\Oh N i k q w d d' z.2.2:=by
    rw [xK hv hvN I I s1,bs];show Sat (Option.bind (ay N r.2 v ⟨c1.Za,c1.Zi,cP .i64 c1.Ze 32,c1.Zf,c1.Zc,c1.Zb⟩) _) _;rw [p,bs];exact ac ⟨Iw d1 true,J,l1,by show d1.Zm.length<=_;omega,c',s,f1.trans fr⟩
   cases e2:sB dd.Has 2 with
   | false=>
    rw [cf];show Sat (bif d.Zs then _ else _) _
    cases eF:d.Zs with
    |false=>
     rw [cf];exact ac stay
    |true=>
     have e:d1.Zs=true:=by rw [hfx1,eF]
     rw [ct,Xe,cf,e];exact go
   | true=>
    rw [ct,Xg]
    cases e1:sB dd.Zd 1 with
    |true=>
     rw [nt,cf,cf];exact ac stay
    |false=>
     rw [nf,ct,ct];exact go
end
end
section
open Go.RowKit
set_option maxRecDepth 20000
def PrimB (x:WK):Prop:=(x.Za<7/\kV x=true)\/x=cB
theorem PrimB.prim (h:PrimB x)(hi:in64 x.N):Prim x:=by
 rcases h with ⟨h1,h2⟩|rfl
 ·refine ⟨h2,hi,?_⟩;unfold bL;rw [WY (show¬x.Za=7 by omega),WY (show¬x.Za=9 by omega)];rfl
 exact ub
theorem Vk (h:kV x=true)(h0:x.Za=0):x=v0:=by
 obtain ⟨a,b,s⟩:=x;simp only at h0;subst h0;unfold kV dL at h
 cases e:(s.toList==(⟨#[]⟩:ByteArray).toList) with
 |false=>
  rw [show ((⟨0,b,s⟩:WK).S.toList==(⟨#[]⟩:ByteArray).toList)=false from e] at h;exact absurd h (by show¬(Option.getD (some false) false)=true;decide)
 |true=>
  have hs:=qw.1 (eq_of_beq e);subst hs;rw [show ((⟨0,b,⟨#[]⟩⟩:WK).S.toList==(⟨#[]⟩:ByteArray).toList)=true from e] at h;have h2:(Option.getD (some (decide (b=0))) false)=true:=h;have:b=0:=YU h2;subst this;rfl
theorem PrimB.half (h:PrimB x)(hk:x.Za=0\/x.Za=7):x=v0:=by
 rcases h with ⟨h1,h2⟩|rfl
 ·rcases hk with h0|h7
  ·exact Vk h2 h0
  omega
 rcases hk with h0|h7
 ·cases h0
 cases h7
structure PDesc (dd:WU):Prop where
 i:in64 dd.Has
 a:in64 dd.Zd
 n:in64 dd.Value.N
 v:PrimB dd.Value
 g:PrimB dd.Zq
 s:PrimB dd.Zr
theorem PDesc.pd (h:PDesc dd)(r:R25 dd):PD dd:=by
 refine ⟨r,h.v.prim h.n,fun e=>by have:=r.vk;omega,?_,?_⟩
 ·cases e:sB dd.Has 4 with
  |false=>exact r.g.1 e
  |true=>exact h.g.half (r.g.2 e)
 cases e:sB dd.Has 8 with
 |false=>exact r.s.1 e
 |true=>exact h.s.half (r.s.2 e)
section
variable {N:Nat}(hN:20000<=N){v:WK}(hv:v.Za=7)(hvN:v.N=i){k q:Nat}(hk:k+16<=580)(hq:q+1024*1000<=1000000000){w:WH}(hM:d.Zk.length<=2190)(hL:d.Zm.length<1000)(h:Sim N i k q w c d)
include hN hv hvN hk hq hM hL h
theorem PM {key:WP}(hkey:key.Za=0->key.N<=2100\/4096<=key.N)(hd:PDesc dd)(hval:dd.Value.N<=2100\/4096<dd.Value.N):Sat (eG N w v key dd) fun r=> ∃d',gK N d key dd=some (d',r.1,r.2.1)/\Oh N i k q w d d' r.2.2:=by
 have same: ∃d',some (d,false,false)=some (d',false,false)/\Oh N i k q w d d' w:=⟨d,rfl,by omega,by omega,c,h.up I I,FrW.refl w⟩;have eL:bZ N=some lenK:=rfl;have eL':bN N=some lenK:=rfl;have a7:=Ej N hN key;have b0:=Kr N (d:=dd) hd.i hd.a;obtain ⟨b,hb, -⟩:=Da N I key;obtain ⟨b2,a6,h25⟩:=QC N dd;have hdr:fG N dd=some b2:=b0.symm.trans a6
 have hh: ∀{ρ:Type} (F:WI×Bool->Bool->Option ρ),((cD N w v).bind fun a8=>(bif !a8.2 then (some true) else ((aZ N key).bind fun b5=>some (!b5))).bind fun b6=>F a8 b6)=F (c,true) (!b):=fun F=>by
  rw [xK hv hvN I I h,bs];show Option.bind (Option.bind (aZ N key) _) _=_;rw [hb,bs,bs]
 cases b with
 |false=>
  unfold gK eG;rw [hh,a7,hb,bs];exact ac same
 | true=>
  cases b2 with
  |false=>
   unfold gK eG;rw [hh,a7,hb,bs]
   show Sat (Option.bind (Option.bind (fG N dd) _) _) fun r=> ∃d',Option.bind (Option.bind (d7 N dd) _) _=_/\_
   rw [hdr,a6,bs];exact ac same
  | true=>
   have hR:keyR N key:=hb;have hp:=hd.pd (h25 rfl);by_cases hl:key=lenK
   ·have hx:=PK hN hv hvN I hq hM hL h hk hp hval;unfold gK eG;rw [hh,a7,hb,bs]
    show Sat (Option.bind (Option.bind (fG N dd) _) _) fun r=> ∃d',Option.bind (Option.bind (d7 N dd) _) _=_/\_
    rw [hdr,a6,bs,bs,bs,nt,cf,cf,eL,eL',bs,bs,WX hl,ct,ct]
    refine hx.bind fun r hr=>ac ?_
    obtain ⟨d',r1,r2⟩:=hr;exact ⟨d',by rw [r1];rfl,r2⟩
   refine Sat.mono (N1 hN hv hvN I I I hL h hR hl hkey hp a6 hdr) fun r hr=> ?_
   obtain ⟨d',r1,r2,r3,c',r4,r5⟩:=hr;exact ⟨d',r1,r2,r3,c',r4.up (YA _) I,r5⟩
end
end
section
open Go.RowKit
set_option maxRecDepth 20000
theorem O3 (h:bL x=false):fZ ρ f x=x:=by
 unfold fZ;rw [h];rfl
theorem C5 (ρ:Int->Int)(f:List Int)(x:WK):(fZ ρ f x).Za=x.Za:=by
 unfold fZ;cases bL x&&decide (x.N∈f)<;>rfl
theorem Prim.mov (h:Prim x)(ρ:Int->Int)(f:List Int):fZ ρ f x=x:=O3 h.no
theorem SJ (ρ:Int->Int)(f:List Int):fZ ρ f v0=v0:=O3 rfl
section
variable {N:Nat}{k q:Nat}{w:WH}(h:Sim N i k q w c d)
include h
theorem Mv.sim {g':WN}(m:Mv w.Zo g' ρ f)(hi:i∈f): ∃c',Sim N (ρ i) k q (H4 w g') c' d:=by
 obtain ⟨m1,age,m2⟩:=m.at_ i hi;obtain ⟨in1,in2⟩:=m.cin i hi;rw [h.ob.at_] at in1 in2 m2;have hpl:=m.pl h.ob.wd.pl
 have eM:c.Zb.map (fZ ρ f)=c.Zb:=by
  rw [h.el];exact (List.map_congr_left fun x hx=>(h.ev x hx).mov ρ f).trans (List.map_id' _)
 have hm2:co g'.m_ (ρ i)=⟨c.Za,c.Zi,c.Ze,age,c.Zc.map (fZ ρ f),c.Zb⟩:=by
  rw [m2];show (⟨c.Za,c.Zi,c.Ze,age,c.Zc.map (fZ ρ f),c.Zb.map (fZ ρ f)⟩:WI)=_;rw [eM]
 have hin:co g'.m_ (ρ i)∈g'.m_.Zh++g'.m_.Zj:=o9 m1
 have hb:Hb k c.Zb.length g':=by
  have a1:=h.ob.wd.hb.hw;have a2:=h.ob.wd.hb.hm;have a3:=h.ob.wd.hb.hr;have e1:=GO w.Zo.m_.Zh;have e2:=GO w.Zo.m_.Zj;have e3:=GO g'.m_.Zh;have e4:=GO g'.m_.Zj;have b1:=m.sum;have b2:=m.wts
  have hx:c.Zb.length<=mS g'.m_.Zh+mS g'.m_.Zj:=by
   rcases X6.1 hin with hc|hc
   ·have b:=tI (fun c:WI=>c.Zb.length) hc;have b:(co g'.m_ (ρ i)).Zb.length<=mS g'.m_.Zh:=b;rw [hm2] at b;show c.Zb.length<=_;have b:c.Zb.length<=mS g'.m_.Zh:=b;omega
   have b:=tI (fun c:WI=>c.Zb.length) hc;have b:(co g'.m_ (ρ i)).Zb.length<=mS g'.m_.Zj:=b;rw [hm2] at b;have b:c.Zb.length<=mS g'.m_.Zj:=b;omega
  refine ⟨by omega,by omega,?_⟩;rw [m.roots,YY];exact a3
 refine ⟨⟨c.Za,c.Zi,c.Ze,age,c.Zc.map (fZ ρ f),c.Zb⟩,⟨⟨hpl,hb,h.ob.wd.ti,h.ob.wd.tb⟩,m1,hm2,⟨h.ob.oc.kind,?_,h.ob.oc.plain,h.ob.oc.row,?_,h.ob.oc.nd,h.ob.oc.noP⟩,?_,?_⟩,h.ar,h.el,h.ex,h.fx,h.wf,h.pv,h.ev⟩
 ·obtain ⟨z,z1,z2⟩:=h.ob.oc.proto;exact ⟨fZ ρ f z,by rw [XO,z1];rfl,by rw [C5];exact z2⟩
 ·rw [YY];exact h.ob.oc.num
 ·intro n p hp;obtain ⟨x,x1,x2⟩:=h.ob.each n p hp;have hpv:=h.pv p (Yc hp);refine ⟨fZ ρ f x,by rw [XO,x1];rfl,?_⟩;rcases x2 with ⟨a1,a2,a3,a4,a5⟩|⟨a1,a2,a,ag,rfl,a4,a5⟩
  ·refine .inl ⟨a1,?_,a3,a4,by rw [C5];exact a5⟩;rw [a2,(a2▸hpv.v:Prim x).mov]
  have ha:a∈f:=in1 _ (Yc x1) rfl;obtain ⟨b1,age2,b2⟩:=m.at_ a ha;refine .inr ⟨a1,a2,ρ a,age2,C4 J ha,b1,?_⟩;refine b2.trans ?_;show H5 (rT ρ f (co w.Zo.m_ a)) age2=_;rw [a5,hpv.g,hpv.s];show (⟨5,0,0,age2,[fZ ρ f v0,fZ ρ f v0],[]⟩:WI)=_;rw [SJ]
 intro n n2 x y hne hx hy kx ky;rw [XO] at hx hy;obtain ⟨x0,a6,rfl⟩:=Option.map_eq_some_iff.1 hx;obtain ⟨y0,a7,rfl⟩:=Option.map_eq_some_iff.1 hy;rw [C5] at kx ky
 have bx:bL x0=true:=by unfold bL;rw [kx];rfl
 have by_:bL y0=true:=by unfold bL;rw [ky];rfl
 have fx:=in1 _ (Yc a6) bx;have fy:=in1 _ (Yc a7) by_;rw [C4 bx fx,C4 by_ fy];intro e;exact h.ob.inj n n2 x0 y0 hne a6 a7 kx ky (m.inj _ fx _ fy e)
theorem Q2 (hN:6500<N)(hr:w.Zo.Zt=R++ [⟨7,i,⟨#[]⟩⟩]): ∃g' i' R' c',dp N w.Zo=some (0,g')/\R'.length=R.length/\g'.Zt=R'++ [⟨7,i',⟨#[]⟩⟩]/\Sim N i' k q (H4 w g') c' d:=by
 obtain ⟨g',ρ,f,e,m⟩:=O9 hN h.ob.wd.pl;have hi:i∈f:=m.rin ⟨7,i,⟨#[]⟩⟩ (by rw [hr];exact W3 _ (Yg.2 rfl)) rfl;obtain ⟨c',s⟩:=Mv.sim h m hi;refine ⟨g',ρ i,R.map (fZ ρ f),c',e,YY ..,?_,s⟩;rw [m.roots,hr,X3];show _++ [fZ ρ f ⟨7,i,⟨#[]⟩⟩]=_;rw [C4 rfl hi]
end
end
section
open Go.RowKit
def rk (k:WP):Int:=if k.Za=0 then k.N else 8589934592*k.Za
structure RKey (k:WP):Prop where
 kd:0<=k.Za/\k.Za<=2
 n:k.Za=0->0<=k.N/\k.N<=4294967294
def SoK (l:List WP):Prop:=l.Pairwise (fun a b=>rk a<=rk b)
def EvK (l z:List WP):Prop:= ∀r:Int,l.filter (fun x=>decide (rk x=r))=z.filter (fun x=>decide (rk x=r))
theorem EvK.refl (l:List WP):EvK l l:=fun _=>rfl
theorem EvK.symm {z:List WP}(h:EvK l z):EvK z l:=fun r=>(h r).symm
theorem EvK.trans {y z:List WP}(h:EvK l y)(h2:EvK y z):EvK l z:=fun r=>(h r).trans (h2 r)
theorem EvK.app {a b c d:List WP}(h:EvK a b)(h2:EvK c d):EvK (a++c) (b++d):=fun r=>by
 rw [XA,XA,h r,h2 r]
theorem Cl {r:Int}(h:∀x∈l,rk x≠r):l.filter (fun x=>decide (rk x=r))=[]:=by
 rw [List.filter_eq_nil_iff];intro x hx e;exact h x hx (YU e)
theorem EvK.swap {U V:List WP}(h:∀x∈U, ∀y∈V,rk x≠rk y):EvK (U++V) (V++U):=fun r=>by
 rw [XA,XA];by_cases e: ∃x∈U,rk x=r
 ·obtain ⟨x,hx,rfl⟩:=e;rw [Cl (l:=V) fun y hy e=>h x hx y hy e.symm,Xp,Y3]
 rw [Cl (l:=U) fun x hx e2=>e ⟨x,hx,e2⟩,Xp,Y3]
theorem EvK.perm {z:List WP}(h:EvK l z):l.Perm z:=by
 rw [List.perm_iff_count];intro x
 have e: ∀l:List WP,l.count x=(l.filter (fun y=>decide (rk y=rk x))).count x:=fun l=>by
  rw [List.count_filter (by simp)]
 rw [e l,e z,h]
theorem EvK.len {z:List WP}(h:EvK l z):l.length=z.length:=h.perm.length_eq
theorem EvK.mem {z:List WP}(h:EvK l z){x:WP}:x∈l↔x∈z:=h.perm.mem_iff
theorem SoK.uniq: ∀{l z:List WP},SoK l->SoK z->EvK l z->l=z
 | [],z,_,_,h=>by
  have:=h.len;exact (List.length_eq_zero_iff.1 this.symm).symm
 |a::l,[],_,_,h=>by
  have:=h.len;cases this
 | a::l,b::z,h1,h2,h=>by
  obtain ⟨p1,p2⟩:=Yj.1 h1;obtain ⟨q1,q2⟩:=Yj.1 h2
  have e1:rk a=rk b:=by
   have m1:a∈b::z:=h.mem.1 (X9 ..);have m2:b∈a::l:=h.mem.2 (X9 ..);rcases X7.1 m1 with rfl|m1
   ·rfl
   rcases X7.1 m2 with rfl|m2
   ·rfl
   have:=p1 b m2;have:=q1 a m1;omega
  have e2:=h (rk a);rw [List.filter_cons_of_pos (by simp),List.filter_cons_of_pos (by simp [e1])] at e2;obtain ⟨rfl,e3⟩:=Xq e2;refine congrArg (a:: ·) (SoK.uniq p2 q2 fun r=> ?_);by_cases e:rk a=r
  ·subst e;exact e3
  have:=h r
  rwa [List.filter_cons_of_neg (by simpa using e),List.filter_cons_of_neg (by simpa using e)] at this
theorem SoK.app {a b:List WP}(h1:SoK a)(h2:SoK b)(h:∀x∈a, ∀y∈b,rk x<=rk y):SoK (a++b):=List.pairwise_append.2 ⟨h1,h2,h⟩
theorem SoK.parts {a b:List WP}(h:SoK (a++b)):SoK a/\SoK b/\ ∀x∈a, ∀y∈b,rk x<=rk y:=List.pairwise_append.1 h
theorem SoK.nil:SoK []:=List.Pairwise.nil
theorem SoK.one (x:WP):SoK [x]:=List.pairwise_singleton ..
theorem SA (N:Nat)(a b:Int): ∃z,oM N a b=some z/\(z<0↔a<b):=by
 unfold oM va;rw [bs,bs,WX rfl,WX rfl];simp only [nt,cf];by_cases h:a<b
 ·rw [WX h,ct];exact ⟨-1,J,by omega⟩
 rw [WY h,cf];by_cases h2:b<a
 ·rw [WX h2,ct];exact ⟨1,J,by omega⟩
 rw [WY h2,cf];exact ⟨0,J,by omega⟩
theorem Ep (N:Nat){a b:WP}(ha:RKey a)(hb:RKey b):Sat (nm N a b) fun z=>z<0↔rk a<rk b:=by
 obtain ⟨⟨a1,a2⟩,a3⟩:=ha;obtain ⟨⟨b1,b2⟩,b3⟩:=hb;obtain ⟨z,z1,z2⟩:=SA N a.N b.N;obtain ⟨y,y1,y2⟩:=SA N a.Za b.Za;unfold nm rk;by_cases ha:a.Za=0
 ·rw [WX ha,ct,bs,if_pos ha];have:=a3 ha;by_cases hb:b.Za=0
  ·rw [WX hb,ct,if_pos hb,z1,bs];exact ac z2
  rw [WY hb,cf,if_neg hb,y1,bs];refine ac (y2.trans ?_);omega
 rw [WY ha,cf,bs,cf,if_neg ha,y1,bs];refine ac (y2.trans ?_);by_cases hb:b.Za=0
 ·rw [if_pos hb];have:=b3 hb;omega
 rw [if_neg hb];omega
theorem Gg {l P S:List α}{x:α}(e:l=P++x::S):l[P.length]? =some x:=by
 rw [e,XH (YA _),YF];rfl
theorem fw {ρ:Type}{l P S:List α}{x:α}{f:α->Option ρ}{Q:ρ->Prop}(e:l=P++x::S)(hi:i=(P.length:Int))(k:Sat (f x) Q):Sat ((au l i).bind f) Q:=by
 subst hi
 refine pU I (by rw [e,YW];simp only [XV];omega) fun y hy=> ?_
 rw [Xm,Gg e] at hy;cases hy;exact k
theorem yZ {P S:List α}{x y:α}:(P++x::S).set P.length y=P++y::S:=by
 rw [List.set_append_right _ _ (YA _),YF];rfl
theorem Ve {l P M S:List α}{x y:α}{j:Int}(e:l=P++x::(M++y::S))(hi:i=(P.length:Int))(hj:j=(P.length:Int)+1+M.length):(l.set i.toNat y).set j.toNat x=P++y::(M++x::S):=by
 subst e hi;rw [Xm,yZ]
 have e1:P++y::(M++y::S)=(P++y::M)++y::S:=by simp
 have e2:j.toNat=(P++y::M).length:=by simp;omega
 rw [e1,e2,yZ];simp
theorem Uf {l P M S:List α}{x y:α}{j:Int}(e:l=P++x::(M++y::S))(hi:i=(P.length:Int))(hj:j=(P.length:Int)+1+M.length):(l.set j.toNat x).set i.toNat y=P++y::(M++x::S):=by
 rw [List.set_comm _ _ I];exact Ve e hi hj
end
section
variable {A1 A2:Option Addr}{c1 c2:Nat}
open Go.RowKit
theorem DD (N:Nat)(x y k:Int): ∀(m:Nat) (U V P M S l:List WP) (t:Int),V.length=U.length->U.length<m->x+t=P.length->y+t=P.length+U.length+M.length->k - t=U.length->0<=t->t<=10000->k<=10000->l.length<=10000->l=P++(U++(M++(V++S)))->Sat (cz N x y k m l t) fun r=>r=P++(V++(M++(U++S)))
 |0,U,V,P,M,S,l,t,h1,h2,_,_,_,_,_,_,_,_=>by omega
 | m +1,U,V,P,M,S,l,t,h1,h2,h3,h4,h5,h6,h7,h8,h9,h10=>by
  rw [cz.eq_2]
  cases U with
  |nil=>
   cases V with
   |cons v V=>cases h1
   |nil=>exact az (fun h=>by simp only [XY] at h5;omega) fun _=>ac h10
  | cons u U=>
   cases V with
   |nil=>cases h1
   | cons v V=>
    simp only [XV] at h1 h2 h4 h5;have hlen:=congrArg List.length h10;simp only [YW,XV] at hlen
    refine az (fun h=> ?_) fun h=>by omega
    have ea:l=P++u::((U++M)++v::(V++S)):=by rw [h10];simp
    have eb:l=(P++u::(U++M))++v::(V++S):=by rw [h10];simp
    have ec:l.set ((x+t).toNat) v=P++v::((U++M)++v::(V++S)):=by
     rw [h3,ea,Xm,yZ]
    refine av (by constructor<;>omega) (av (by constructor<;>omega) (av (by constructor<;>omega) (fw eb (by simp only [YW,XV];omega) (av (by constructor<;>omega) (fw ea h3 (fw ea h3 ?_))))));refine fw (l:=l.set ((x+t).toNat) v) (P:=P++v::(U++M)) (x:=v) (S:=V++S) (by rw [ec];simp) (by simp only [YW,XV];omega) (av (by constructor<;>omega) ?_);have e:=Ve (i:=x+t) (j:=y+t) ea h3 (by simp only [YW];omega);have hi:=DD N x y k m U V (P++ [v]) (M++ [u]) S (P++v::((U++M)++u::(V++S))) (t+1) I I (by simp only [YW,XV,XY];omega) (by simp only [YW,XV,XY];omega) I I I h8 (by simp only [YW,XV];omega) (by simp)
    have:Sat (cz N x y k m ((l.set ((x+t).toNat) v).set ((y+t).toNat) u) (t+1)) fun r=>r=P++((v::V)++(M++((u::U)++S))):=by
     rw [e]
     exact hi.mono fun r hr=>by rw [hr];simp
    exact this
theorem Kl (N:Nat)(hN:20000<=N){U V M:List WP}{x y k:Int}(h1:V.length=U.length)(hx:x=P.length)(hy:y=(P.length:Int)+U.length+M.length)(hk:k=U.length)(hl:l.length<=6000)(e:l=P++(U++(M++(V++S)))):Sat (cE N l x y k) fun r=>r=P++(V++(M++(U++S))):=by
 have hlen:=congrArg List.length e;simp only [YW] at hlen;exact DD N x y k N U V P M S l 0 h1 I I I I I I I I e
theorem F9 {j:Nat}(h:j<=l.length): ∃A B,l=A++B/\A.length=j:=⟨l.take j,l.drop j,(Yp j l).symm,by rw [YX];omega⟩
theorem Ao (N:Nat)(hN:20000<=N)(q:Int): ∀(m:Nat) (U V P S l:List WP) (i j:Int),i=U.length->j=V.length->i+j<m->0<i->0<j->q=(P.length:Int)+U.length->l.length<=6000->l=P++(U++(V++S))->Sat (cU N q m l i j) fun r=>r=P++(V++(U++S))
 |0,U,V,P,S,l,i,j,h1,h2,h3,h4,h5,_,_,_=>by omega
 | m+1,U,V,P,S,l,i,j,h1,h2,h3,h4,h5,h6,h7,h8=>by
  have hlen:=congrArg List.length h8;simp only [YW] at hlen;rw [cU.eq_2]
  refine Ei (fun e=>az (fun h=> ?_) fun h=> ?_) fun e=> ?_
  ·obtain ⟨U1,U2,rfl,hU⟩:=F9 (l:=U) (j:=j.toNat) I;simp only [YW] at h1 h6 hlen;refine av (by constructor<;>omega) ((Kl N hN (U:=U1) (V:=V) (P:=P) (M:=U2) (S:=S) I I I I h7 (by rw [h8];simp)).bind fun r hr=>av (by constructor<;>omega) ?_)
   exact (Ao N hN q m U2 U1 (P++V) S r (i - j) j I I I I h5 (by simp only [YW];omega) (by rw [hr];simp only [YW];omega) (by rw [hr];simp)).mono fun z hz=>by rw [hz];simp
  ·have:=YT e;obtain ⟨V1,V2,rfl,hV⟩:=F9 (l:=V) (j:=(j - i).toNat) I;simp only [YW] at h2 hlen;refine av (by constructor<;>omega) (av (by constructor<;>omega) (av (by constructor<;>omega) ((Kl N hN (U:=U) (V:=V2) (P:=P) (M:=V1) (S:=S) I I I I h7 (by rw [h8];simp)).bind fun r hr=>av (by constructor<;>omega) ?_)))
   exact (Ao N hN q m V2 V1 P (U++S) r i (j - i) I I I h4 I I (by rw [hr];simp only [YW];omega) (by rw [hr])).mono fun z hz=>by rw [hz];simp
  have:=YU e;unfold gQ;exact av (by constructor<;>omega) ((Kl N hN (U:=U) (V:=V) (P:=P) (M:=[]) (S:=S) I I (by simp only [XY];omega) I h7 h8).bind fun r hr=>ac (by rw [hr];simp))
theorem Uh (N:Nat)(hN:20000<=N){U V:List WP}{a q b:Int}(ha:a=P.length)(hq:q=(P.length:Int)+U.length)(hb:b=(P.length:Int)+U.length+V.length)(hU:0<U.length)(hV:0<V.length)(hl:l.length<=6000)(e:l=P++(U++(V++S))):Sat (eI N l a q b) fun r=>r=P++(V++(U++S)):=by
 have hlen:=congrArg List.length e;simp only [YW] at hlen;unfold eI;exact av (by constructor<;>omega) (av (by constructor<;>omega) (Ao N hN q N U V P S l _ _ I I I I I hq hl e))
theorem Je (N:Nat)(kb:List WP->Int->Option WV)(a b p5:Int)(h5:0<=p5/\p5<10000)(R:List WP->Prop)(P S:List WP)(hP:a=P.length)(x:WP)(hx:RKey x):
  ∀(m:Nat) (A B l:List WP) (j:Int),j=(P.length:Int)+A.length->A.length<m->l.length<=6000->l=P++(A++x::(B++S))->(∀y∈A,RKey y)->
  (∀A1 A2:List WP,A=A1++A2->(∀y∈A2,rk x<rk y)->(∀y,A1.getLast? =some y->rk y<=rk x)->Sat (kb (P++(A1++x::(A2++(B++S)))) (p5+1)) R)->Sat (bT N kb a b p5 m l j) R
 |0,A,B,l,j,_,h,_,_,_,_=>by omega
 | m +1,A,B,l,j,hj,h,hl,e,hA,hk=>by
  have hlen:=congrArg List.length e;simp only [YW,XV] at hlen;rw [bT.eq_2]
  have stop:(∀y,A.getLast? =some y->rk y<=rk x)->Sat (cK N kb a b p5 l) R:=fun hy=>by
   unfold cK;have:=hk A [] (by simp) (fun y hy=>by cases hy) hy;exact av (by constructor<;>omega) (by rw [e];exact this)
  rcases List.eq_nil_or_concat A with rfl|⟨A',y,rfl⟩
  ·rw [WY (show¬a<j by simp only [XY] at hj;omega),cf,bs,cf]
   exact stop fun y hy=>by cases hy
  rw [List.concat_eq_append] at*;simp only [YW,XV,XY] at hj h hlen
  have ex:l=(P++(A'++ [y]))++x::(B++S):=by rw [e];simp
  have ey:l=(P++A')++y::([]++x::(B++S)):=by rw [e];simp
  have lx:j=(((P++(A'++ [y])).length:Nat):Int):=by simp only [YW,XV,XY];omega
  have ly:j - 1=(((P++A').length:Nat):Int):=by simp only [YW];omega
  rw [WX (show a<j by omega),ct]
  refine Sat.bind (P:=fun c=>c=true↔rk x<rk y) (fw ex lx (av (by constructor<;>omega) (fw ey ly ((Ep N hx (hA y (by simp))).bind fun z hz=>ac (by rw [decide_eq_true_iff];exact hz))))) fun c hc=>dx (fun h1=> ?_) fun h1=> ?_
  ·have hxy:=hc.1 h1;have es:=Uf (i:=j - 1) (j:=j) ey ly (by rw [<-ly];simp only [XY];omega)
   have e2:l.set j.toNat y=(P++A')++y::(y::(B++S)):=by
    rw [ex,lx,Xm,yZ];simp
   refine av (by constructor<;>omega) (av (by constructor<;>omega) (fw ey ly (fw ex lx (fw ex lx (fw (l:=l.set j.toNat y) e2 ly (av (by constructor<;>omega) ?_))))))
   have hi:=Je N kb a b p5 h5 R P S hP x hx m A' (y::B) ((P++A')++x::([]++y::(B++S))) (j - 1) I I (by simp only [YW,XV,XY];omega) (by simp) (fun z hz=>hA z (by simp [hz])) fun A1 A2 h1 h2 h3=>by
    have:=hk A1 (A2++ [y]) (by rw [h1];simp) (fun z hz=>by
     rcases X6.1 hz with hz|hz
     ·exact h2 z hz
     ·rw [Yg.1 hz];exact hxy) h3
    simpa using this
   have:Sat (bT N kb a b p5 m ((l.set j.toNat y).set ((j - 1).toNat) x) (j - 1)) R:=by
    rw [es];exact hi
   exact this
  refine stop fun z hz=> ?_
  rw [List.getLast?_append] at hz
  have:z=y:=by simpa using hz.symm
  subst this
  have: ¬rk x<rk z:=fun h=>by rw [hc.2 h] at h1;cases h1
  omega
theorem SoK.ins {A1 A2:List WP}{x:WP}(h:SoK (A1++A2))(h1:∀y,A1.getLast? =some y->rk y<=rk x)(h2:∀y∈A2,rk x<rk y):SoK (A1++x::A2):=by
 obtain ⟨s1,s2,s3⟩:=h.parts
 refine s1.app (Yj.2 ⟨fun y hy=>by have:=h2 y hy;omega,s2⟩) fun y hy z hz=> ?_
 rcases X7.1 hz with rfl|hz
 ·rcases List.eq_nil_or_concat A1 with rfl|⟨A',w,rfl⟩
  ·cases hy
  rw [List.concat_eq_append] at*;have hw:=h1 w (by simp);rcases X6.1 hy with hy|hy
  ·have:=s1.parts.2.2 y hy w (by simp);omega
  rw [Yg.1 hy];exact hw
 exact s3 y hy z hz
theorem EvK.ins {A1 A2:List WP}{x:WP}(h2:∀y∈A2,rk x<rk y):EvK (A1++x::A2) ((A1++A2)++ [x]):=by
 rw [W0]
 exact (EvK.refl A1).app (EvK.swap (U:=[x]) (V:=A2) fun y hy z hz=>by
  rw [Yg.1 hy];have:=h2 z hz
  omega)
theorem GU (N:Nat)(hN:20000<=N)(a b:Int)(hb:b<=6000)(P S:List WP)(hP:a=P.length): ∀(m:Nat) (A X l:List WP) (i:Int),i=(P.length:Int)+A.length->b=i+X.length->X.length<m->l.length<=6000->l=P++(A++(X++S))->(∀y∈A++X,RKey y)->SoK A->Sat (bB N a b m l i) fun r=> ∃C,r=P++(C++S)/\SoK C/\EvK C (A++X)
 |0,A,X,l,i,_,_,h,_,_,_,_=>by omega
 | m+1,A,X,l,i,hi,hbi,h,hl,e,hR,hs=>by
  have hlen:=congrArg List.length e;simp only [YW] at hlen;rw [bB.eq_2]
  cases X with
  |nil=>exact az (fun h=>by simp only [XY] at hbi;omega) fun _=>ac ⟨A,by rw [e];simp,hs,by rw [Xp];exact EvK.refl A⟩
  |cons x X=>
   simp only [XV] at hbi h hlen
   refine az (fun _=> ?_) fun h=>by omega
   refine Je N _ a b i I _ P (X++S) hP x (hR x (by simp)) N A [] l i hi I hl (by rw [e];simp) (fun y hy=>hR y (by simp [hy])) fun A1 A2 h1 h2 h3=> ?_
   subst h1;simp only [YW] at hi hlen
   refine (GU N hN a b hb P S hP m (A1++x::A2) X _ (i+1) (by simp only [YW,XV];omega) I I (by simp only [YW,XV,XY];omega) (by simp) (fun y hy=>hR y (by simp at hy⊢;rcases hy with h|h|h|h<;>simp [h])) (SoK.ins hs h3 h2)).mono fun r hr=> ?_
   obtain ⟨C,c1,c2,c3⟩:=hr;refine ⟨C,c1,c2,c3.trans ?_⟩;have:=(EvK.ins (A1:=A1) h2).app (EvK.refl X);simpa using this
theorem Sn (N:Nat)(hN:20000<=N){X:List WP}{a b:Int}(ha:a=P.length)(hb:b=a+X.length)(hl:l.length<=6000)(e:l=P++(X++S))(hR:∀y∈X,RKey y):Sat (bD N l a b) fun r=> ∃C,r=P++(C++S)/\SoK C/\EvK C X:=by
 have hlen:=congrArg List.length e;simp only [YW] at hlen;unfold bD;refine av (by constructor<;>omega) ?_
 cases X with
 |nil=>
  obtain ⟨n,rfl⟩: ∃n,N=n+1:=⟨N - 1,by omega⟩;rw [bB.eq_2];simp only [XY] at hb
  exact az (fun h=>by omega) fun _=>ac ⟨[],e,SoK.nil,EvK.refl _⟩
 |cons x X=>
  simp only [XV] at hb hlen;exact GU N hN a b I P S ha N [x] X l (a+1) (by simp only [XV,XY];omega) I I hl e hR (SoK.one x)
end
section
variable {A1 A2:Option Addr}
open Go.RowKit
def U5 (kb:List WP->Int->Int->Int->Option WV)(n:Int):Prop:= ∀(P A B S l:List WP) (x y z:Int),x=P.length->y=x+A.length->z=y+B.length->0<A.length->0<B.length->z - x<n->l.length<=6000->l=P++(A++(B++S))->(∀k∈A++B,RKey k)->SoK A->SoK B->Sat (kb l x y z) fun r=> ∃C,r=P++(C++S)/\SoK C/\EvK C (A++B)
theorem Sk (N:Nat)(kb:List WP->Int->Int->Int->Option WV)(a q b p7:Int)(x:WP): ∀(m:Nat) (hO P T l:List WP) (k:Int),k=P.length->p7=k+1+hO.length->hO.length<m->l.length<=6000->l=P++x::(hO++T)->Sat (cu N kb a q b p7 m l k) fun r=>r=P++(hO++x::T)
 |0,hO,P,T,l,k,_,_,h,_,_=>by omega
 | m+1,hO,P,T,l,k,hk,hp,h,hl,e=>by
  have hlen:=congrArg List.length e;simp only [YW,XV] at hlen;rw [cu.eq_2];refine av (by constructor<;>omega) ?_
  cases hO with
  |nil=>exact az (fun h=>by simp only [XY] at hp;omega) fun _=>ac e
  | cons y hO=>
   simp only [XV] at hp h hlen
   have e':l=P++x::([]++y::(hO++T)):=by rw [e];simp
   have ey:l=(P++ [x])++y::(hO++T):=by rw [e];simp
   have ly:k+1=(((P++ [x]).length:Nat):Int):=by simp only [YW,XV,XY];omega
   have es:=Ve (i:=k) (j:=k+1) e' hk (by simp only [XY];omega)
   have e2:l.set k.toNat y=(P++ [y])++y::(hO++T):=by
    rw [e',hk,Xm,yZ];simp
   refine az (fun _=> ?_) fun h=>by omega
   refine av (by constructor<;>omega) (av (by constructor<;>omega) (fw ey ly (fw e' hk (fw e' hk (fw (l:=l.set k.toNat y) e2 (by simp only [YW,XV,XY];omega) (av (by constructor<;>omega) ?_))))));have hi:=Sk N kb a q b p7 x m hO (P++ [y]) T (P++y::([]++x::(hO++T))) (k+1) (by simp only [YW,XV,XY];omega) I I (by simp only [YW,XV,XY];omega) (by simp)
   have:Sat (cu N kb a q b p7 m ((l.set k.toNat y).set ((k+1).toNat) x) (k+1)) fun r=>r=P++(y::hO++x::T):=by
    rw [es]
    exact hi.mono fun r hr=>by rw [hr];simp
   exact this
theorem Sj (N:Nat)(kb:List WP->Int->Int->Int->Option WV)(a q b p:Int)(x:WP): ∀(m:Nat) (hO P T l:List WP) (k:Int),p=P.length->k=p+hO.length->hO.length<m->l.length<=6000->l=P++(hO++x::T)->Sat (cq N kb a q b p m l k) fun r=>r=P++x::(hO++T)
 |0,hO,P,T,l,k,_,_,h,_,_=>by omega
 | m+1,hO,P,T,l,k,hp,hk,h,hl,e=>by
  have hlen:=congrArg List.length e;simp only [YW,XV] at hlen;rw [cq.eq_2];rcases List.eq_nil_or_concat hO with rfl|⟨Y',y,rfl⟩
  ·exact az (fun h=>by simp only [XY] at hk;omega) fun _=>ac e
  rw [List.concat_eq_append] at*;simp only [YW,XV,XY] at hk h hlen
  have ey:l=(P++Y')++y::([]++x::T):=by rw [e];simp
  have ex:l=(P++(Y'++ [y]))++x::T:=by rw [e];simp
  have ly:k - 1=(((P++Y').length:Nat):Int):=by simp only [YW];omega
  have lx:k=(((P++(Y'++ [y])).length:Nat):Int):=by simp only [YW,XV,XY];omega
  have es:=Uf (i:=k - 1) (j:=k) ey ly (by rw [<-ly];simp only [XY];omega)
  have e2:l.set k.toNat y=(P++Y')++y::(y::T):=by
   rw [ex,lx,Xm,yZ];simp
  refine az (fun _=> ?_) fun h=>by omega
  refine av (by constructor<;>omega) (av (by constructor<;>omega) (fw ey ly (fw ex lx (fw ex lx (fw (l:=l.set k.toNat y) e2 ly (av (by constructor<;>omega) ?_))))));have hi:=Sj N kb a q b p x m Y' P (y::T) ((P++Y')++x::([]++y::T)) (k - 1) hp I I (by simp only [YW,XV,XY];omega) (by simp)
  have:Sat (cq N kb a q b p m ((l.set k.toNat y).set ((k - 1).toNat) x) (k - 1)) fun r=>r=P++x::((Y'++ [y])++T):=by
   rw [es]
   exact hi.mono fun r hr=>by rw [hr];simp
  exact this
theorem Es {M:List WP}{n:Nat}(h:n<M.length): ∃M1 y M2,M=M1++y::M2/\M1.length=n:=by
 refine ⟨M.take n,M[n],M.drop (n+1),?_,by rw [YX];omega⟩;rw [<-Xt h,Yp]
section
variable (N:Nat)(hN:20000<=N)(kb:List WP->Int->Int->Int->Option WV)(a q b:Int){A B:List WP}(ha:a=P.length)(hq:q=a+A.length)(hb:b=q+B.length)(hA:0<A.length)(hB:0<B.length)(hl:l.length<=6000)(e:l=P++(A++(B++S)))(hR:∀k∈A++B,RKey k)(sA:SoK A)(sB:SoK B)
include hN ha hq hb hA hB hl e hR sA sB
theorem SN (hA1:A.length=1): ∀(m:Nat) (B1 Bm B2:List WP) (i j:Int),B=B1++(Bm++B2)->i=q+B1.length->j=i+Bm.length->Bm.length<m->(∀x∈A, ∀y∈B1,rk y<rk x)->(∀x∈A, ∀y∈B2,rk x<=rk y)->Sat (bV N kb a q b l m i j) fun r=> ∃C,r=P++(C++S)/\SoK C/\EvK C (A++B)
 |0,B1,Bm,B2,i,j,_,_,_,h,_,_=>by have _:=hA;have _:=sA;omega
 | m +1,B1,Bm,B2,i,j,eB,hi,hj,h,h1,h2=>by
  obtain ⟨x,eA⟩:=List.length_eq_one_iff.1 hA1
  have hxA:x∈A:=by rw [eA];simp
  have e:l=P++([x]++(B++S)):=by rw [e,eA]
  have hlen:=congrArg List.length e;have hlB:=congrArg List.length eB;simp only [YW,XV,XY] at hlen hlB;rw [bV.eq_2]
  cases hM:Bm with
  | nil=>
   subst hM
   refine az (fun h=>by simp only [XY] at hj;omega) fun _=> ?_
   unfold fV;rw [Y3] at eB
   refine (Sk N kb a q b i x N B1 P (B2++S) l a ha I I hl (by rw [e,eB];simp)).mono fun r hr=> ?_
   rw [eB] at sB;obtain ⟨t1,t2,t3⟩:=sB.parts;refine ⟨B1++x::B2,by rw [hr];simp,t1.app (Yj.2 ⟨h2 x hxA,t2⟩) fun y hy z hz=> ?_,?_⟩
   ·rcases X7.1 hz with rfl|hz
    ·have:=h1 z hxA y hy;omega
    exact t3 y hy z hz
   have:=(EvK.swap (U:=B1) (V:=[x]) fun y hy z hz=>by
     rw [Yg.1 hz];have:=h1 x hxA y hy
     omega).app (EvK.refl B2)
   rw [eA,eB];simpa using this
  | cons y0 Bm0=>
   have hpos:0<Bm.length:=by rw [hM];simp
   refine az (fun _=> ?_) fun h=>by omega
   rw [po I I I];obtain ⟨M1,y,M2,eM,lM⟩:=Es (M:=Bm) (n:=((i+j) / 2 - i).toNat) I
   have eh:l=(P++(x::(B1++M1)))++y::(M2++(B2++S)):=by rw [e,eB,eM];simp
   have lh:(i+j) / 2=(((P++(x::(B1++M1))).length:Nat):Int):=by simp only [YW,XV];omega
   have ex:l=P++x::(B++S):=by rw [e];simp
   have hlM:=congrArg List.length eM;simp only [YW,XV] at hlM
   have sB':SoK ((B1++M1)++y::(M2++B2)):=by
    have:B=(B1++M1)++y::(M2++B2):=by rw [eB,eM];simp
    rw [<-this];exact sB
   obtain ⟨-,t2,t3⟩:=sB'.parts;refine av (by constructor<;>omega) (fw eh lh (fw ex ha ((Ep N (hR y (by rw [eB,eM];simp)) (hR x (W2 _ hxA))).bind fun z hz=>dx (fun c=>av (by constructor<;>omega) ?_) fun c=> ?_)))
   ·have hyx:=hz.1 (YU c);refine SN hA1 m (B1++(M1++ [y])) M2 B2 _ j (by rw [eB,eM];simp) (by simp only [YW,XV,XY];omega) I I (fun x' hx' y' hy'=> ?_) h2;rw [eA] at hx';rw [Yg.1 hx']
    have:y'∈B1++M1\/y'=y:=by simpa [or_assoc] using hy'
    rcases this with h|rfl
    ·have:=t3 y' h y (by simp);omega
    exact hyx
   have hyx: ¬rk y<rk x:=fun h=>YT c (hz.2 h)
   refine SN hA1 m B1 M1 (y::(M2++B2)) i _ (by rw [eB,eM];simp) hi I I h1 fun x' hx' y' hy'=> ?_
   rw [eA] at hx';rw [Yg.1 hx'];rcases X7.1 hy' with rfl|h
   ·omega
   have:=(Yj.1 t2).1 y' h;omega
theorem OD (hB1:B.length=1): ∀(m:Nat) (A1 Am A2:List WP) (i j:Int),A=A1++(Am++A2)->i=a+A1.length->j=i+Am.length->Am.length<m->(∀y∈B, ∀x∈A1,rk x<=rk y)->(∀y∈B, ∀x∈A2,rk y<rk x)->Sat (cr N kb a q b l m i j) fun r=> ∃C,r=P++(C++S)/\SoK C/\EvK C (A++B)
 |0,A1,Am,A2,i,j,_,_,_,h,_,_=>by have _:=hB;have _:=sB;omega
 | m+1,A1,Am,A2,i,j,eA,hi,hj,h,h1,h2=>by
  obtain ⟨x,eB⟩:=List.length_eq_one_iff.1 hB1
  have hxB:x∈B:=by rw [eB];simp
  have e:l=P++(A++([x]++S)):=by rw [e,eB]
  have hlen:=congrArg List.length e;have hlA:=congrArg List.length eA;simp only [YW,XV,XY] at hlen hlA;rw [cr.eq_2]
  cases hM:Am with
  |nil=>
   subst hM
   refine az (fun h=>by simp only [XY] at hj;omega) fun _=> ?_
   unfold fk;rw [Y3] at eA;rw [eA] at sA⊢;rw [eB]
   refine (Sj N kb a q b i x N A2 (P++A1) S l q (by simp only [YW];omega) I I hl (by rw [e,eA];simp)).mono fun r hr=> ?_
   refine ⟨A1++x::A2,by rw [hr];simp,sA.ins (fun y hy=>h1 x hxB y (List.mem_of_getLast? hy)) (h2 x hxB),EvK.ins (h2 x hxB)⟩
  | cons y0 Bm0=>
   have hpos:0<Am.length:=by rw [hM];simp
   refine az (fun _=> ?_) fun h=>by omega
   rw [po I I I];obtain ⟨M1,y,M2,eM,lM⟩:=Es (M:=Am) (n:=((i+j) / 2 - i).toNat) I
   have eh:l=(P++(A1++M1))++y::(M2++(A2++x::S)):=by rw [e,eA,eM];simp
   have lh:(i+j) / 2=(((P++(A1++M1)).length:Nat):Int):=by simp only [YW];omega
   have ex:l=(P++A)++x::S:=by rw [e];simp
   have hlM:=congrArg List.length eM;simp only [YW,XV] at hlM
   have sA':SoK ((A1++M1)++y::(M2++A2)):=by
    have:A=(A1++M1)++y::(M2++A2):=by rw [eA,eM];simp
    rw [<-this];exact sA
   obtain ⟨-,t2,t3⟩:=sA'.parts;refine av (by constructor<;>omega) (fw ex (by simp only [YW];omega) (fw eh lh ((Ep N (hR x (W3 _ hxB)) (hR y (by rw [eA,eM];simp))).bind fun z hz=>Ei (fun c=>av (by constructor<;>omega) ?_) fun c=> ?_)))
   ·have hyx: ¬rk x<rk y:=fun h=>YT c (hz.2 h)
    refine OD hB1 m (A1++(M1++ [y])) M2 A2 _ j (by rw [eA,eM];simp) (by simp only [YW,XV,XY];omega) I I (fun x' hx' y' hy'=> ?_) h2;rw [eB] at hx';rw [Yg.1 hx']
    have:y'∈A1++M1\/y'=y:=by simpa [or_assoc] using hy'
    rcases this with h|rfl
    ·have:=t3 y' h y (by simp);omega
    omega
   have hyx:=hz.1 (YU c)
   refine OD hB1 m A1 M1 (y::(M2++A2)) i _ (by rw [eA,eM];simp) hi I I h1 fun x' hx' y' hy'=> ?_
   rw [eB] at hx';rw [Yg.1 hx'];rcases X7.1 hy' with rfl|h
   ·exact hyx
   have:=(Yj.1 t2).1 y' h;omega
end
end
section
variable {A1 A2:Option Addr}{c1 c2:Nat}
open Go.RowKit
theorem LZ {A1 A2:List WP}(h:SoK l)(e:l=A1++A2){i:Nat}(hx:l[i]? =some x0)(hi:A1.length=i+1): ∀x∈A1,rk x<=rk x0:=by
 subst e;obtain ⟨s1, -, -⟩:=h.parts;rw [XG I] at hx;obtain ⟨h1,h2⟩:=XN.1 hx;intro x hx;obtain ⟨j,hj,rfl⟩:=XU hx;rw [<-h2];by_cases hji:j=i
 ·subst hji;exact Xi _
 exact Yk.1 s1 j i hj h1 I
theorem JI {A1 A2:List WP}(h:SoK l)(e:l=A1++A2){i:Nat}(hx:l[i]? =some x0)(hi:A1.length=i): ∀x∈A2,rk x0<=rk x:=by
 subst e;obtain ⟨-,s1, -⟩:=h.parts;rw [XH I,hi,YF] at hx;obtain ⟨h1,h2⟩:=XN.1 hx;intro x hx;obtain ⟨j,hj,rfl⟩:=XU hx;rw [<-h2];by_cases hji:j=0
 ·subst hji;exact Xi _
 exact Yk.1 s1 0 j h1 hj I
theorem FF (h:l.length=0):l=[]:=List.length_eq_zero_iff.1 h
section
variable (N:Nat)(hN:20000<=N)(kb:List WP->Int->Int->Int->Option WV)(a q b p:Int){A1 A2 B1 B2:List WP}(ha:a=P.length)(hq:q=a+A1.length+A2.length)(hp:p=a+A1.length)(h1:a<q)(h2:q<b)(hB:(B1.length:Int)=(a+b) / 2 - p)(hb:b=q+B1.length+B2.length)(hk:U5 kb (b - a))(hR:∀k∈(A1++A2)++(B1++B2),RKey k)(sA:SoK (A1++A2))(sB:SoK (B1++B2))(hsz:(P.length:Int)+A1.length+A2.length+B1.length+B2.length+S.length<=6000)
include hN ha hq hp h1 h2 hB hb hk hR sA sB hsz
theorem Sl {C:List WP}(hC:C.length=A1.length+B1.length)(e:l=P++(C++(A2++(B2++S)))):Sat (cx N kb b a q p l) fun r=> ∃C2,r=P++(C++(C2++S))/\SoK C2/\EvK C2 (A2++B2):=by
 have _:=hN
 have hlen:=congrArg List.length e;simp only [YW] at hlen;unfold cx;rw [po I I I]
 refine cl (P:=fun c=>c=true↔(a+b) / 2<(a+b) / 2+q - p/\(a+b) / 2+q - p<b) (fun e=>ac ⟨fun e2=>⟨YU e,YU e2⟩,fun h=>WX h.2⟩) (fun e=>ac ⟨fun h=>(by cases h),fun h=>absurd h.1 (YT e)⟩) fun c hc=>dx (fun e2=> ?_) fun e2=> ?_
 ·obtain ⟨h4,h5⟩:=hc.1 e2
  refine (hk (P++C) A2 B2 S l _ _ _ (by simp only [YW];omega) I I I I I I (by rw [e];simp) (fun k hk=>hR k (by simp at hk⊢;rcases hk with h|h<;>simp [h])) sA.parts.2.1 sB.parts.2.1).bind fun r hr=>ac ?_
  obtain ⟨C2,c1,c2,c3⟩:=hr;exact ⟨C2,by rw [c1];simp,c2,c3⟩
 have hn: ¬((a+b) / 2<(a+b) / 2+q - p/\(a+b) / 2+q - p<b):=fun h=>by rw [hc.2 h] at e2;cases e2
 have:A2=[]\/B2=[]:=by
  by_cases hz:A2.length=0
  ·exact .inl (FF hz)
  exact .inr (FF I)
 refine ac ⟨A2++B2,by rw [e];simp,?_,EvK.refl _⟩;rcases this with rfl|rfl
 ·exact sB.parts.2.1
 rw [Xp];exact sA.parts.2.1
theorem Sm (e:l=P++(A1++(B1++(A2++(B2++S))))):Sat (cy N kb a b p q l) fun r=> ∃C1 C2,r=P++(C1++(C2++S))/\SoK C1/\EvK C1 (A1++B1)/\SoK C2/\EvK C2 (A2++B2):=by
 have hlen:=congrArg List.length e;simp only [YW] at hlen;unfold cy;rw [po I I I]
 refine cl (P:=fun c=>c=true↔a<p/\p<(a+b) / 2) (fun e=>ac ⟨fun e2=>⟨YU e,YU e2⟩,fun h=>WX h.2⟩) (fun e=>ac ⟨fun h=>(by cases h),fun h=>absurd h.1 (YT e)⟩) fun c hc=>dx (fun e2=> ?_) fun e2=> ?_
 ·obtain ⟨h4,h5⟩:=hc.1 e2
  refine (hk P A1 B1 (A2++(B2++S)) l _ _ _ ha hp I I I I I (by rw [e]) (fun k hk=>hR k (by simp at hk⊢;rcases hk with h|h<;>simp [h])) sA.parts.1 sB.parts.1).bind fun r hr=> ?_
  obtain ⟨C1,c1,c2,c3⟩:=hr
  refine (Sl N hN kb a q b p ha hq hp h1 h2 hB hb hk hR sA sB hsz (C:=C1) (by rw [c3.len,YW]) c1).mono fun z hz=> ?_
  obtain ⟨C2,d1,d2,d3⟩:=hz;exact ⟨C1,C2,d1,c2,c3,d2,d3⟩
 have hn: ¬(a<p/\p<(a+b) / 2):=fun h=>by rw [hc.2 h] at e2;cases e2
 have:A1=[]\/B1=[]:=by
  by_cases hz:A1.length=0
  ·exact .inl (FF hz)
  exact .inr (FF I)
 refine (Sl N hN kb a q b p ha hq hp h1 h2 hB hb hk hR sA sB hsz (C:=A1++B1) YW (by rw [e];simp)).mono fun z hz=> ?_
 obtain ⟨C2,d1,d2,d3⟩:=hz;refine ⟨A1++B1,C2,d1,?_,EvK.refl _,d2,d3⟩;rcases this with h|h
 ·rw [h];exact sB.parts.1
 rw [h,Xp];exact sA.parts.1
theorem Ui (e:l=P++(A1++(A2++(B1++(B2++S)))))(f1:∀x∈A1, ∀y∈B2,rk x<=rk y)(f2:∀y∈B1, ∀x∈A2,rk y<rk x):Sat (dj N kb a q b l p) fun r=> ∃C,r=P++(C++S)/\SoK C/\EvK C ((A1++A2)++(B1++B2)):=by
 have hlen:=congrArg List.length e;simp only [YW] at hlen
 have fin: ∀r,(∃C1 C2,r=P++(C1++(C2++S))/\SoK C1/\EvK C1 (A1++B1)/\SoK C2/\EvK C2 (A2++B2))-> ∃C,r=P++(C++S)/\SoK C/\EvK C ((A1++A2)++(B1++B2)):=fun r hr=>by
  obtain ⟨C1,C2,c1,c2,c3,c4,c5⟩:=hr;refine ⟨C1++C2,by rw [c1];simp,c2.app c4 fun x hx y hy=> ?_,(c3.app c5).trans ?_⟩
  ·rcases X6.1 (c3.mem.1 hx) with hx|hx<;>rcases X6.1 (c5.mem.1 hy) with hy|hy
   ·exact sA.parts.2.2 x hx y hy
   ·exact f1 x hx y hy
   ·have:=f2 x hx y hy;omega
   exact sB.parts.2.2 x hx y hy
  have:=((EvK.refl A1).app (EvK.swap (U:=B1) (V:=A2) fun y hy x hx=>by have:=f2 y hy x hx;omega)).app (EvK.refl B2);simpa using this
 unfold dj;rw [po I I I];refine av (by constructor<;>omega) (cl (P:=fun c=>c=true↔p<q/\q<(a+b) / 2+q - p) (fun e=>ac ⟨fun e2=>⟨YU e,YU e2⟩,fun h=>WX h.2⟩) (fun e=>ac ⟨fun h=>(by cases h),fun h=>absurd h.1 (YT e)⟩) fun c hc=>dx (fun e2=> ?_) fun e2=> ?_)
 ·obtain ⟨h4,h5⟩:=hc.1 e2
  refine (Uh N hN (P:=P++A1) (U:=A2) (V:=B1) (S:=B2++S) (by simp only [YW];omega) (by simp only [YW];omega) (by simp only [YW];omega) I I I (by rw [e];simp)).bind fun r hr=> ?_
  exact (Sm N hN kb a q b p ha hq hp h1 h2 hB hb hk hR sA sB hsz (by rw [hr];simp)).mono fin
 have hn: ¬(p<q/\q<(a+b) / 2+q - p):=fun h=>by rw [hc.2 h] at e2;cases e2
 have:A2=[]\/B1=[]:=by
  by_cases hz:A2.length=0
  ·exact .inl (FF hz)
  exact .inr (FF I)
 refine (Sm N hN kb a q b p ha hq hp h1 h2 hB hb hk hR sA sB hsz ?_).mono fin;rw [e];rcases this with h|h
 ·rw [h];simp
 rw [h];simp
end
section
variable (N:Nat)(hN:20000<=N)(kb:List WP->Int->Int->Int->Option WV)(a q b:Int){A B:List WP}(ha:a=P.length)(hq:q=a+A.length)(hb:b=q+B.length)(hA:0<A.length)(hB:0<B.length)(hk:U5 kb (b - a))(hl:l.length<=6000)(e:l=P++(A++(B++S)))(hR:∀k∈A++B,RKey k)(sA:SoK A)(sB:SoK B)
include hN ha hq hb hA hB hk hl e hR sA sB
theorem LH: ∀(m:Nat) (i j:Int),j - i<m->a<=i->(a+b) / 2+q - b<=i->i<=j->j<=q->j<=(a+b) / 2->
  (i=a\/i=(a+b) / 2+q - b\/ ∃x y,A[(i - 1 - a).toNat]? =some x/\B[((a+b) / 2 - i).toNat]? =some y/\rk x<=rk y)->
  (j=q\/j=(a+b) / 2\/ ∃x y,A[(j - a).toNat]? =some x/\B[((a+b) / 2 - j - 1).toNat]? =some y/\rk y<rk x)->
  Sat (cp N kb a q b l m i j) fun r=> ∃C,r=P++(C++S)/\SoK C/\EvK C (A++B)
 |0,i,j,h,_,_,_,_,_,_,_=>by omega
 | m+1,i,j,h,h1,h2,h3,h4,h5,hL,hH=>by
  have hlen:=congrArg List.length e;simp only [YW] at hlen;rw [cp.eq_2]
  refine az (fun h8=> ?_) fun h8=> ?_
  ·rw [po (a:=a) (b:=b) I I I,po (a:=i) (b:=j) I I I];obtain ⟨X1,x,X2,eX,lX⟩:=Es (M:=A) (n:=((i+j) / 2 - a).toNat) I;obtain ⟨Y1,y,Y2,eY,lY⟩:=Es (M:=B) (n:=((a+b) / 2 - (i+j) / 2 - 1).toNat) I
   have gx:A[((i+j) / 2 - a).toNat]? =some x:=by rw [<-lX];exact Gg eX
   have gy:B[((a+b) / 2 - (i+j) / 2 - 1).toNat]? =some y:=by rw [<-lY];exact Gg eY
   have ex:l=(P++X1)++x::(X2++(B++S)):=by rw [e,eX];simp
   have ey:l=(P++(A++Y1))++y::(Y2++S):=by rw [e,eY];simp
   refine av (by constructor<;>omega) (av (by constructor<;>omega) (fw ey (by simp only [YW];omega) (fw ex (by simp only [YW];omega) ((Ep N (hR y (by rw [eY];simp)) (hR x (by rw [eX];simp))).bind fun z hz=>Ei (fun c=>av (by constructor<;>omega) ?_) fun c=> ?_))))
   ·have hyx: ¬rk y<rk x:=fun h=>YT c (hz.2 h)
    refine LH m _ _ I I I I h4 h5 (.inr (.inr ⟨x,y,?_,?_,by omega⟩)) hH
    ·rw [show (i+j) / 2+1 - 1 - a=(i+j) / 2 - a by omega];exact gx
    rw [show (a+b) / 2 - ((i+j) / 2+1)=(a+b) / 2 - (i+j) / 2 - 1 by omega];exact gy
   have hyx:=hz.1 (YU c);exact LH m _ _ I h1 h2 I I I hL (.inr (.inr ⟨x,y,gx,gy,hyx⟩))
  have hij:i=j:=by omega
  subst hij;obtain ⟨A1,A2,eA,lA⟩:=F9 (l:=A) (j:=(i - a).toNat) I;obtain ⟨B1,B2,eB,lB⟩:=F9 (l:=B) (j:=((a+b) / 2 - i).toNat) I;have hlA:=congrArg List.length eA;have hlB:=congrArg List.length eB;simp only [YW] at hlA hlB
  have f1: ∀x∈A1, ∀y∈B2,rk x<=rk y:=by
   rcases hL with h|h|⟨x,y,gx,gy,hxy⟩
   ·rw [FF (l:=A1) I];exact fun x hx=>by cases hx
   ·rw [FF (l:=B2) I];exact fun x hx y hy=>by cases hy
   intro x' hx' y' hy';have hA0:0<A1.length:=List.length_pos_of_mem hx';have t1:=LZ sA eA gx I x' hx';have t2:=JI sB eB gy lB y' hy';omega
  have f2: ∀y∈B1, ∀x∈A2,rk y<rk x:=by
   rcases hH with h|h|⟨x,y,gx,gy,hxy⟩
   ·rw [FF (l:=A2) I];exact fun y hy x hx=>by cases hx
   ·rw [FF (l:=B1) I];exact fun x hx=>by cases hx
   intro y' hy' x' hx';have hB0:0<B1.length:=List.length_pos_of_mem hy';have t1:=LZ sB eB gy I y' hy';have t2:=JI sA eA gx lA x' hx';omega
  rw [eA,eB] at hR e⊢;rw [eA] at sA;rw [eB] at sB;exact Ui N hN kb a q b i ha I I I I I I hk hR sA sB I (by rw [e];simp) f1 f2
theorem Uj:Sat (dl N kb a q b l) fun r=> ∃C,r=P++(C++S)/\SoK C/\EvK C (A++B):=by
 have hlen:=congrArg List.length e;simp only [YW] at hlen;unfold dl dk;rw [po I I I];refine av (by constructor<;>omega) (av (by constructor<;>omega) (az (fun h4=> ?_) fun h4=> ?_))
 ·exact av (by constructor<;>omega) (av (by constructor<;>omega) (LH N hN kb a q b ha hq hb hA hB hk hl e hR sA sB N _ _ I I I I I I (.inr (.inl J)) (.inr (.inl J))))
 exact av (by constructor<;>omega) (LH N hN kb a q b ha hq hb hA hB hk hl e hR sA sB N _ _ I I I I I I (.inl J) (.inl J))
end
theorem LG (N:Nat)(hN:20000<=N): ∀m:Nat,U5 (ak N m) m
 |0=>fun P A B S l x y z h1 h2 h3 h4 h5 h6=>by omega
 |m+1=>fun P A B S l x y z h1 h2 h3 h4 h5 h6 h7 h8 h9 s1 s2=>by
  have hlen:=congrArg List.length h8;simp only [YW] at hlen;have ih:=LG N hN m
  have hk:U5 (ak N m) (z - x):=fun P A B S l x' y' z' g1 g2 g3 g4 g5 g6=>ih P A B S l x' y' z' g1 g2 g3 g4 g5 I
  rw [jS];refine av (by constructor<;>omega) (az (fun g=> ?_) fun _=> ?_)
  ·exact SN N hN _ x y z h1 h2 h3 h4 h5 h7 h8 h9 s1 s2 I N [] B [] y z (by simp) (by simp) I I (fun x hx y hy=>by cases hy) (fun x hx y hy=>by cases hy)
  unfold dt;refine av (by constructor<;>omega) (az (fun g=> ?_) fun _=>Uj N hN _ x y z h1 h2 h3 h4 h5 hk h7 h8 h9 s1 s2);exact OD N hN _ x y z h1 h2 h3 h4 h5 h7 h8 h9 s1 s2 I N [] A [] x y (by simp) (by simp) I I (fun x hx y hy=>by cases hy) (fun x hx y hy=>by cases hy)
theorem Si (N:Nat)(hN:20000<=N){A B:List WP}{x y z:Int}(h1:x=P.length)(h2:y=x+A.length)(h3:z=y+B.length)(h4:0<A.length)(h5:0<B.length)(h7:l.length<=6000)(h8:l=P++(A++(B++S)))(h9:∀k∈A++B,RKey k)(s1:SoK A)(s2:SoK B):Sat (bl N l x y z) fun r=> ∃C,r=P++(C++S)/\SoK C/\EvK C (A++B):=by
 have hlen:=congrArg List.length h8;simp only [YW] at hlen;exact LG N hN N P A B S l x y z h1 h2 h3 h4 h5 I h7 h8 h9 s1 s2
end
section
variable {c1 c2:Nat}
open Go.RowKit
inductive Ch (z:Nat):List WP->Prop
 |last {l:List WP}:l.length<=z->SoK l->Ch z l
 |cons {c l:List WP}:c.length=z->SoK c->Ch z l->Ch z (c++l)
theorem Ch.one (h:Ch z l)(hz:l.length<=z):SoK l:=by
 cases h with
 |last _ h=>exact h
 |cons h1 h2 h3=>
  rename_i c l
  rw [YW] at hz;rw [FF (l:=l) I,Xp];exact h2
theorem Ch.rest (h:Ch z l)(h1:z<l.length)(h2:l.length<=2*z): ∃c d,l=c++d/\c.length=z/\SoK c/\SoK d:=by
 cases h with
 |last h=>omega
 |cons a1 a2 a3=>
  rename_i c l
  rw [YW] at h2;exact ⟨c,l,J,a1,a2,a3.one I⟩
theorem Ch.two (hz:0<z)(h:Ch z l)(h1:2*z<=l.length): ∃c d t,l=c++(d++t)/\c.length=z/\d.length=z/\SoK c/\SoK d/\Ch z t:=by
 cases h with
 |last h=>omega
 | cons a1 a2 a3=>
  rename_i c l
  rw [YW] at h1
  cases a3 with
  |last b1 b2=>exact ⟨c,l,[],by simp,a1,by omega,a2,b2,.last (YH _) SoK.nil⟩
  |cons b1 b2 b3=>
   rename_i d t
   exact ⟨c,d,t,J,a1,b1,a2,b2,b3⟩
section
variable (N:Nat)(hN:20000<=N)(n:Nat)(hn:n<=6000)
include hN hn
theorem EQ (kb:List WP->Int->Option WV)(z:Nat)(hz:0<z)(hz2:z<=n)(R:List WP->Prop): ∀(m:Nat) (P X l:List WP) (a b:Int),X.length<m->a=P.length->b=a+2*z->l.length=n->l=P++X->Ch z X->(∀k∈X,RKey k)->(∀hO,Ch (z*2) hO->EvK hO X->Sat (kb (P++hO) ((z:Int)*2)) R)->Sat (dJ N kb n z m l a b) R
 |0,P,X,l,a,b,h,_,_,_,_,_,_,_=>by omega
 | m+1,P,X,l,a,b,h,ha,hb,hl,e,hc,hR,hk=>by
  have hlen:=congrArg List.length e;simp only [YW] at hlen;rw [dJ.eq_2]
  refine az (fun h4=> ?_) fun h4=> ?_
  ·obtain ⟨c,d,t,rfl,l1,l2,s1,s2,h3⟩:=hc.two hz I;simp only [YW] at hlen h;refine av (by constructor<;>omega) ((Si N hN (P:=P) (A:=c) (B:=d) (S:=t) ha I I I I I e (fun k hk=>hR k (by simp at hk⊢;rcases hk with h|h<;>simp [h])) s1 s2).bind fun r hr=>av (by constructor<;>omega) (av (by constructor<;>omega) ?_));obtain ⟨C,c1,c2,c3⟩:=hr;have hC:=c3.len;simp only [YW] at hC
   refine EQ kb z hz hz2 R m (P++C) t r b _ I (by simp only [YW];omega) I (by rw [c1];simp only [YW];omega) (by rw [c1];simp) h3 (fun k hk=>hR k (by simp [hk])) fun hO y1 y2=> ?_
   have:=hk (C++hO) (.cons I c2 y1) (by have:=c3.app y2;simpa using this)
   rwa [<-W0] at this
  unfold gj dK;refine av (by constructor<;>omega) (az (fun h5=> ?_) fun h5=> ?_)
  ·obtain ⟨c,d,rfl,l1,s1,s2⟩:=hc.rest I I;simp only [YW] at hlen h
   refine (Si N hN (P:=P) (A:=c) (B:=d) (S:=[]) ha I I I I I (by rw [e];simp) hR s1 s2).bind fun r hr=>av (by constructor<;>omega) ?_
   obtain ⟨C,c1,c2,c3⟩:=hr;have hC:=c3.len;simp only [YW] at hC;rw [Xp] at c1;rw [c1];exact hk C (.last I c2) c3
  refine av (by constructor<;>omega) ?_;rw [e];exact hk X (.last I (hc.one I)) (EvK.refl X)
theorem ER: ∀(m:Nat) (X:List WP) (z:Nat),n - z<m->0<z->X.length=n->Ch z X->(∀k∈X,RKey k)->Sat (aH N n m X z) fun r=>SoK r/\EvK r X
 |0,X,z,h,_,_,_,_=>by omega
 |m+1,X,z,h,h0,h1,hc,hR=>by
  rw [aH.eq_2]
  refine az (fun h4=> ?_) fun h4=>ac ⟨hc.one I,EvK.refl X⟩
  refine av (by constructor<;>omega) (EQ N hN n hn _ z h0 I _ N [] X X 0 _ I (by simp) I h1 (by simp) hc hR fun hO y1 y2=> ?_)
  have e:((z*2:Nat):Int)=(z:Int)*2:=by omega
  have:=ER m hO (z*2) I I (by rw [y2.len];exact h1) y1 fun k hk=>hR k (y2.mem.1 hk)
  rw [Y3, <-e]
  exact this.mono fun r hr=>⟨hr.1,hr.2.trans y2⟩
theorem GT (R:List WP->Prop): ∀(m:Nat) (P X l:List WP) (a b:Int),X.length<m->a=P.length->b=a+20->l.length=n->l=P++X->(∀k∈X,RKey k)->(∀hO,Ch 20 hO->EvK hO X->Sat (aH N n N (P++hO) 20) R)->Sat (dZ N n m l a b) R
 |0,P,X,l,a,b,h,_,_,_,_,_,_=>by omega
 | m+1,P,X,l,a,b,h,ha,hb,hl,e,hR,hk=>by
  have hlen:=congrArg List.length e;simp only [YW] at hlen;rw [dZ.eq_2]
  refine az (fun h4=> ?_) fun h4=> ?_
  ·obtain ⟨c,t,rfl,l1⟩:=F9 (l:=X) (j:=20) I;simp only [YW] at hlen h
   refine (Sn N hN (P:=P) (X:=c) (S:=t) ha I I e fun k hk=>hR k (by simp [hk])).bind fun r hr=>av (by constructor<;>omega) ?_
   obtain ⟨C,c1,c2,c3⟩:=hr;have hC:=c3.len
   refine GT R m (P++C) t r b _ I (by simp only [YW];omega) J (by rw [c1];simp only [YW];omega) (by rw [c1];simp) (fun k hk=>hR k (by simp [hk])) fun hO y1 y2=> ?_
   have:=hk (C++hO) (.cons I c2 y1) (c3.app y2)
   rwa [<-W0] at this
  unfold gP
  refine (Sn N hN (P:=P) (X:=X) (S:=[]) ha I I (by rw [e];simp) hR).bind fun r hr=> ?_
  obtain ⟨C,c1,c2,c3⟩:=hr;have hC:=c3.len;rw [Xp] at c1;rw [c1];exact hk C (.last I c2) c3
end
theorem SL (N:Nat)(hN:20000<=N)(l:List WP)(hl:l.length<=6000)(hR:∀k∈l,RKey k):Sat (d5 N l) fun r=>SoK r/\EvK r l:=by
 unfold d5 iq
 refine Sat.bind (GT N hN l.length hl (fun r=>SoK r/\EvK r l) N [] l l 0 20 I (by simp) I J (by simp) hR fun hO y1 y2=> ?_) fun r hr=>ac hr
 rw [Y3]
 exact (ER N hN l.length hl N hO 20 I I y2.len y1 fun k hk=>hR k (y2.mem.1 hk)).mono fun r hr=>⟨hr.1,hr.2.trans y2⟩
end
section
variable {A1 A2:Option Addr}
open Go.RowKit
theorem keyR.rk {N:Nat}(hN:5000<=N){k:WP}(h:keyR N k):RKey k:=by
 refine ⟨?_,h.b hN⟩;unfold keyR aZ at h;by_cases h0:k.Za=0
 ·omega
 by_cases h1:k.Za=1
 ·omega
 by_cases h2:k.Za=2
 ·omega
 rw [WY h0,cf,WY h1,cf,WY h2,cf] at h;cases h
theorem pW {ρ:Type}{xs:List α}{n:Nat}{f:α->Option ρ}{R:ρ->Prop}(h1:n<xs.length)(k:∀x,xs[n]? =some x->Sat (f x) R):Sat ((au xs (n:Int)).bind f) R:=pU I I fun x hx=>k x (by rw [Xm] at hx;exact hx)
theorem Hi (N:Nat)(hN:20000<=N)(a:List WP)(ha:a.length<=6000)(hR:∀x∈a,keyR N x): ∀(m i:Nat) (p:List WP),a.length<m+i->i<=a.length->p=a.take i->Sat (nN N a m p (i:Int)) fun r=>SoK r/\EvK r a
 |0,i,p,h,h1,h2=>by omega
 | m+1,i,p,h,h1,h2=>by
  rw [nN.eq_2]
  have hp:p.length<=i:=by rw [h2,YX];omega
  refine az (fun h4=> ?_) fun h4=> ?_
  ·refine pW I fun x hx=> ?_
   rw [show aZ N x=some true from hR x (Yc hx),bs];unfold sV;rw [ct];refine av (by unfold bu;rw [X0];omega) (av (by constructor<;>omega) ?_);refine Hi N hN a ha hR m (i+1) _ I I ?_;rw [h2,List.take_add_one,hx];rfl
  unfold wL;rw [Yq I] at h2;subst h2
  exact (SL N hN p ha fun k hk=>(hR k hk).rk I).bind fun r hr=>ac hr
theorem Tl (N:Nat)(hN:20000<=N)(a:List WP)(ha:a.length<=6000)(hR:∀x∈a,keyR N x):Sat (pF N a) fun r=>SoK r/\EvK r a:=
 Hi N hN a ha hR N 0 [] I I (by simp)
section
variable (N:Nat)(hN:20000<=N)(a b:List WP)(ha:a.length+b.length<=6000)(a0:∀x∈a++b,x.Za=0)(sa:SoK a)(sb:SoK b)
structure Mst (a b out A1 A2 B1 B2:List WP):Prop where
 ea:a=A1++A2
 eb:b=B1++B2
 so:SoK out
 ev:EvK out (A1++B1)
 la: ∀x∈out, ∀y∈A2,rk x<=rk y
 lb: ∀x∈out, ∀y∈B2,rk x<=rk y
 st: ∀y∈B1, ∀x∈A2,rk y<rk x
include ha a0 sa sb
omit ha a0 sb in
theorem Mst.stepA {out A1 A2 B1 B2:List WP}{x:WP}(h:Mst a b out A1 (x::A2) B1 B2)(hx:∀y∈B2,rk x<=rk y):Mst a b (out++ [x]) (A1++ [x]) A2 B1 B2:=by
 have sa':=sa;rw [h.ea] at sa';obtain ⟨-,t2, -⟩:=sa'.parts;obtain ⟨t3, -⟩:=Yj.1 t2;refine ⟨by rw [h.ea];simp,h.eb,h.so.app (SoK.one x) fun y hy z hz=>by rw [Yg.1 hz];exact h.la y hy x (by simp),?_,?_,?_,fun y hy z hz=>h.st y hy z (by simp [hz])⟩
 ·have e1:=h.ev.app (EvK.refl [x])
  have e2:=(EvK.refl A1).app (EvK.swap (U:=B1) (V:=[x]) fun y hy z hz=>by
   rw [Yg.1 hz];have:=h.st y hy x (by simp)
   omega)
  rw [<-W0] at e2;exact e1.trans (by simpa using e2)
 ·intro y hy z hz;rcases X6.1 hy with hy|hy
  ·exact h.la y hy z (by simp [hz])
  rw [Yg.1 hy];exact t3 z hz
 intro y hy z hz;rcases X6.1 hy with hy|hy
 ·exact h.lb y hy z hz
 rw [Yg.1 hy];exact hx z hz
omit ha a0 in
theorem Mst.stepB {out A1 A2 B1 B2:List WP}{y:WP}(h:Mst a b out A1 A2 B1 (y::B2))(hy:∀x,A2.head? =some x->rk y<rk x):Mst a b (out++ [y]) A1 A2 (B1++ [y]) B2:=by
 have sa':=sa;have sb':=sb;rw [h.ea] at sa';rw [h.eb] at sb';obtain ⟨-,t2, -⟩:=sa'.parts;obtain ⟨-,u2, -⟩:=sb'.parts;obtain ⟨u3, -⟩:=Yj.1 u2
 have hA: ∀x∈A2,rk y<rk x:=by
  cases A2 with
  |nil=>exact fun x hx=>by cases hx
  |cons x0 A2=>
   have h0:=hy x0 rfl;intro x hx;rcases X7.1 hx with rfl|hx
   ·exact h0
   have:=(Yj.1 t2).1 x hx;omega
 refine ⟨h.ea,by rw [h.eb];simp,h.so.app (SoK.one y) fun x hx z hz=>by rw [Yg.1 hz];exact h.lb x hx y (by simp),?_,?_,?_,?_⟩
 ·have:=h.ev.app (EvK.refl [y]);simpa using this
 ·intro x hx z hz;rcases X6.1 hx with hx|hx
  ·exact h.la x hx z hz
  rw [Yg.1 hx];have:=hA z hz;omega
 ·intro x hx z hz;rcases X6.1 hx with hx|hx
  ·exact h.lb x hx z (by simp [hz])
  rw [Yg.1 hx];exact u3 z hz
 intro x hx z hz;rcases X6.1 hx with hx|hx
 ·exact h.st x hx z hz
 rw [Yg.1 hx];exact hA z hz
theorem Hf (kb:List WP->Int->Int->Option WV){R:List WP->Prop}{B1 B2:List WP}{y:WP}(hk:∀out A1 A2,Mst a b out A1 A2 (B1++ [y]) B2->Sat (kb out (A1.length:Int) ((B1.length:Int)+1)) R): ∀(m:Nat) (A2 out A1:List WP),A2.length<m->Mst a b out A1 A2 B1 (y::B2)->Sat (t7 N kb (B1.length:Int) a b m out (A1.length:Int)) R
 |0,A2,out,A1,h,_=>by omega
 | m +1,A2,out,A1,h,hs=>by
  rw [t7.eq_2];have hla:=congrArg List.length hs.ea;have hlb:=congrArg List.length hs.eb;have hlo:=hs.ev.len;simp only [YW,XV] at hla hlb hlo;have gy:b[B1.length]? =some y:=Gg hs.eb;have hyb:y.Za=0:=a0 y (by rw [hs.eb];simp)
  have stop:(∀x,A2.head? =some x->rk y<rk x)->Sat (t8 N kb (B1.length:Int) a b out (A1.length:Int)) R:=fun hh=>by
   unfold t8 yf;refine fw hs.eb J (av (by unfold bu;rw [X0];omega) (av (by constructor<;>omega) ?_));exact hk _ _ _ (hs.stepB a b sa sb hh)
  cases A2 with
  |nil=>
   simp only [XY] at hla;rw [WY (show¬((A1.length:Int)<(a.length:Int)) by omega),cf,bs,cf]
   exact stop fun x hx=>by cases hx
  | cons x A2=>
   simp only [XV] at hla h;have hxa:x.Za=0:=a0 x (by rw [hs.ea];simp)
   have rx:rk x=x.N:=by unfold rk;rw [if_pos hxa]
   have ry:rk y=y.N:=by unfold rk;rw [if_pos hyb]
   rw [WX (show ((A1.length:Int)<(a.length:Int)) by omega),ct]
   refine Sat.bind (P:=fun c=>c=true↔rk x<=rk y) (fw hs.ea J (fw hs.eb J (ac (by rw [decide_eq_true_iff,rx,ry])))) fun c hc=>dx (fun h1=> ?_) fun h1=> ?_
   ·refine fw hs.ea J (av (by unfold bu;rw [X0];omega) (av (by constructor<;>omega) ?_));have hxy:=hc.1 h1;have sb':=sb;rw [hs.eb] at sb';obtain ⟨u3, -⟩:=Yj.1 sb'.parts.2.1
    have hs':=hs.stepA a b sa fun z hz=>by
     rcases X7.1 hz with rfl|hz
     ·exact hxy
     have:=u3 z hz;omega
    have:=Hf kb hk m A2 _ _ I hs';rw [show (((A1++ [x]).length:Nat):Int)=(A1.length:Int)+1 by simp] at this;exact this
   refine stop fun z hz=> ?_
   cases hz
   have: ¬rk x<=rk y:=fun h=>by rw [hc.2 h] at h1;cases h1
   omega
theorem DN (hN:20000<=N): ∀(m:Nat) (B2 out A1 A2 B1:List WP),B2.length<m->Mst a b out A1 A2 B1 B2->Sat (vl N a b m out (A1.length:Int) (B1.length:Int)) fun r=>SoK r/\EvK r (a++b)
 |0,B2,out,A1,A2,B1,h,_=>by omega
 | m+1,B2,out,A1,A2,B1,h,hs=>by
  rw [vl.eq_2];have hla:=congrArg List.length hs.ea;have hlb:=congrArg List.length hs.eb;have hlo:=hs.ev.len;simp only [YW] at hla hlb hlo
  cases B2 with
  | nil=>
   simp only [XY] at hlb
   refine az (fun h=>by omega) fun _=> ?_
   unfold zV;rw [Xm]
   have e2:(a.drop A1.length).take (a.length - A1.length)=A2:=by
    rw [Yq (by rw [XW];omega),hs.ea,List.drop_left]
   rw [e2];refine av ⟨by omega,by omega,YA _⟩ (av (by unfold bu;omega) (ac ?_));have sa':=sa;rw [hs.ea] at sa';refine ⟨hs.so.app sa'.parts.2.1 hs.la,?_⟩;have e3:=hs.ev.app (EvK.refl A2);have e4:=(EvK.refl A1).app (EvK.swap (U:=B1) (V:=A2) fun y hy z hz=>by have:=hs.st y hy z hz;omega);rw [hs.ea,hs.eb,Xp];rw [W0] at e3⊢;exact e3.trans e4
  |cons y B2=>
   simp only [XV] at hlb h
   refine az (fun _=> ?_) fun h=>by omega
   refine Hf N a b ha a0 sa sb _ (B1:=B1) (B2:=B2) (y:=y) (fun out A1 A2 hs'=> ?_) N A2 out A1 I hs;have:=DN hN m B2 out A1 A2 (B1++ [y]) I hs';rw [show (((B1++ [y]).length:Nat):Int)=(B1.length:Int)+1 by simp] at this;exact this
theorem O6 (hN:20000<=N):Sat (sQ N a b) fun r=>SoK r/\EvK r (a++b):=by
 unfold sQ;exact DN N a b ha a0 sa sb hN N b [] [] a [] I ⟨J,J,SoK.nil,EvK.refl _,fun x hx=>(by cases hx),fun x hx=>(by cases hx),fun x hx=>by cases hx⟩
end
theorem EL (N:Nat)(hN:20000<=N): ∀(m:Nat) (a:List WP),a.length<m->a.length<=6000->(∀x∈a,x.Za=0)->Sat (lR N m a) fun r=>SoK r/\EvK r a
 |0,a,h,_,_=>by omega
 | m+1,a,h,hl,h0=>by
  rw [E5]
  refine az (fun h1=>ac ⟨?_,EvK.refl a⟩) fun h1=> ?_
  ·match a,h1 with
   | [],_=>exact SoK.nil
   | [x],_=>exact SoK.one x
   |x::y::t,h1=>simp only [XV] at h1;omega
  have hd:((a.length:Int).tdiv 2).toNat=a.length / 2:=by
   rw [Xk I];omega
  have hd0:0<=(a.length:Int).tdiv 2:=by rw [Xk I];omega
  have hd1:(a.length:Int).tdiv 2<=a.length:=by rw [Xk I];omega
  rw [hd];refine av (by constructor<;>omega) (av ⟨hd0,by omega,by omega⟩ (av ⟨hd0,by omega,YA _⟩ ?_))
  have e1:(a.drop 0).take (a.length / 2 - 0)=a.take (a.length / 2):=by rw [Xx,Nat.sub_zero]
  have e2:(a.drop (a.length / 2)).take (a.length - a.length / 2)=a.drop (a.length / 2):=Yq (by rw [XW];omega);rw [e1,e2]
  refine (EL N hN m _ (by rw [YX];omega) (by rw [YX];omega) fun x hx=>h0 x (Yd hx)).bind fun r hr=>(EL N hN m _ (by rw [XW];omega) (by rw [XW];omega) fun x hx=>h0 x (List.mem_of_mem_drop hx)).bind fun z hz=> ?_
  have l1:=hr.2.len;have l2:=hz.2.len;rw [YX] at l1;rw [XW] at l2
  refine (O6 N r z I (fun x hx=> ?_) hr.1 hz.1 hN).bind fun y hy=>ac ⟨hy.1,?_⟩
  ·rcases X6.1 hx with hx|hx
   ·exact h0 x (Yd (hr.2.mem.1 hx))
   exact h0 x (List.mem_of_mem_drop (hz.2.mem.1 hx))
  have:=hr.2.app hz.2;rw [Yp] at this;exact hy.2.trans this
end
section
open Go.RowKit
set_option maxRecDepth 20000
theorem TR {k:WP}(h:k.Za=1):rk k=8589934592:=by unfold rk;rw [if_neg I,h];rfl
theorem Uk {k:WP}(h:k.Za=2):rk k=17179869184:=by unfold rk;rw [if_neg I,h];rfl
theorem VI {k:WP}(h:k.Za=0)(hb:RKey k):0<=rk k/\rk k<=4294967294:=by unfold rk;rw [if_pos h];exact hb.n h
theorem Mk {r:Int}(h:∀x∈l,rk x=r):SoK l:=by
 refine Yk.2 fun i j hi hj hij=> ?_
 have h1:=h _ (Y4 hi);have h2:=h _ (Y4 hj);omega
theorem Nv (N:Nat)(hN:20000<=N)(a p7 p8 p9:List WP)(hl:p7.length+p8.length+p9.length<=6000)(h7:∀x∈p7,x.Za=0/\RKey x)(h8:∀x∈p8,x.Za=1)(h9:∀x∈p9,x.Za=2)(he:EvK (p7++(p8++p9)) a):Sat (wD N p7 p8 p9) fun r=>SoK r/\EvK r a:=by
 unfold wD BA
 refine (EL N hN N p7 I I fun x hx=>(h7 x hx).1).bind fun r hr=> ?_
 have l1:=hr.2.len;refine av (by unfold bu;rw [XY];omega) (av (by unfold bu;rw [Y3];omega) (av (by unfold bu;rw [Y3,YW];omega) (ac ?_)));rw [Y3,W0];refine ⟨hr.1.app ((Mk fun x hx=>TR (h8 x hx)).app (Mk fun x hx=>Uk (h9 x hx)) fun x hx y hy=>by rw [TR (h8 x hx),Uk (h9 y hy)];omega) fun x hx y hy=> ?_,(hr.2.app (EvK.refl _)).trans he⟩;have hx':=h7 x (hr.2.mem.1 hx);have:=VI hx'.1 hx'.2;rcases X6.1 hy with hy|hy
 ·rw [TR (h8 y hy)];omega
 rw [Uk (h9 y hy)];omega
theorem wG (N:Nat)(hN:20000<=N)(a:List WP)(ha:a.length<=6000)(hR:∀x∈a,keyR N x): ∀(m i:Nat) (p7 p8 p9:List WP),a.length<m+i->i<=a.length->p7.length+p8.length+p9.length<=i->(∀x∈p7,x.Za=0/\RKey x)->(∀x∈p8,x.Za=1)->(∀x∈p9,x.Za=2)->EvK (p7++(p8++p9)) (a.take i)->Sat (nH N a m p7 p8 p9 (i:Int)) fun r=>SoK r/\EvK r a
 |0,i,p7,p8,p9,h,h1,_,_,_,_,_=>by omega
 | m +1,i,p7,p8,p9,h,h1,hl,h7,h8,h9,he=>by
  rw [nH.eq_2]
  refine az (fun h4=> ?_) fun h4=> ?_
  ·refine pW I fun x hx=> ?_
   have hxa:=Yc hx;have hxr:=hR x hxa;have hrk:=hxr.rk I;have a6:pC N x=some true:=(Ej N hN x).trans hxr
   have gx:au a (i:Int)=some x:=by
    unfold au;rw [if_neg I,Xm];exact hx
   have et:a.take (i+1)=a.take i++ [x]:=by rw [List.take_add_one,hx];rfl
   have e1:((i:Int)+1)=((i+1:Nat):Int):=by omega
   rw [a6,bs,nt,cf,gx,bs];unfold oF;by_cases k0:x.Za=0
   ·rw [WX k0,ct,bs];refine av (by unfold bu;rw [X0];omega) (av (by constructor<;>omega) ?_);rw [e1];refine wG N hN a ha hR m (i+1) _ p8 p9 I I (by rw [YW,X0];omega) (fun y hy=> ?_) h8 h9 ?_
    ·rcases X6.1 hy with hy|hy
     ·exact h7 y hy
     rw [Yg.1 hy];exact ⟨k0,hrk⟩
    rw [et]
    have s1:=(EvK.refl p7).app (EvK.swap (U:=[x]) (V:=p8++p9) fun y hy z hz=>by
     rw [Yg.1 hy];have:=VI k0 hrk;rcases X6.1 hz with hz|hz
     ·rw [TR (h8 z hz)];omega
     ·rw [Uk (h9 z hz)];omega)
    have s2:=he.app (EvK.refl [x]);rw [W0];refine s1.trans ?_;rw [<-W0];exact s2
   rw [WY k0,cf];by_cases k1:x.Za=1
   ·rw [WX k1,ct,bs];refine av (by unfold bu;rw [X0];omega) (av (by constructor<;>omega) ?_);rw [e1];refine wG N hN a ha hR m (i+1) p7 _ p9 I I (by rw [YW,X0];omega) h7 (fun y hy=> ?_) h9 ?_
    ·rcases X6.1 hy with hy|hy
     ·exact h8 y hy
     rw [Yg.1 hy];exact k1
    rw [et]
    have s1:=(EvK.refl (p7++p8)).app (EvK.swap (U:=[x]) (V:=p9) fun y hy z hz=>by
     rw [Yg.1 hy,TR k1,Uk (h9 z hz)];omega)
    have s2:=he.app (EvK.refl [x]);simp only [W0] at s1 s2⊢;exact s1.trans s2
   have k2:x.Za=2:=by have:=hrk.kd;omega
   rw [WY k1,cf,bs];refine av (by unfold bu;rw [X0];omega) (av (by constructor<;>omega) ?_);rw [e1];refine wG N hN a ha hR m (i+1) p7 p8 _ I I (by rw [YW,X0];omega) h7 h8 (fun y hy=> ?_) ?_
   ·rcases X6.1 hy with hy|hy
    ·exact h9 y hy
    rw [Yg.1 hy];exact k2
   rw [et];have s2:=he.app (EvK.refl [x]);simp only [W0] at s2⊢;exact s2
  rw [Yq I] at he;exact Nv N hN a p7 p8 p9 I h7 h8 h9 he
theorem QK (N:Nat)(hN:20000<=N)(a:List WP)(ha:a.length<=6000)(hR:∀x∈a,keyR N x):Sat (DL N a) fun r=>SoK r/\EvK r a:=
 wG N hN a ha hR N 0 [] [] [] I I (by simp) (fun x hx=>by cases hx) (fun x hx=>by cases hx) (fun x hx=>by cases hx) (by simpa using EvK.refl [])
theorem Sg (N:Nat)(hN:20000<=N)(r:List WP)(hr:r.length<=6000)(hs:SoK r): ∀(m i:Nat),r.length+1<m+i->1<=i->i<=r.length+1->sL N m r (i:Int)=some r
 |0,i,h,_,_=>by omega
 | m+1,i,h,h0,h1=>by
  apply Sat.eq;rw [sL.eq_2]
  refine az (fun h4=> ?_) fun _=>by unfold By;exact ac J
  obtain ⟨n,rfl⟩: ∃n,N=n+1:=⟨N - 1,by omega⟩;rw [Bx.eq_2,WX (show 0<(i:Int) by omega),ct]
  have e1:((i:Int)+1)=((i+1:Nat):Int):=by omega
  have e2:(i:Int) - 1=((i - 1:Nat):Int):=by omega
  have stop:Sat (wy (n+1) (sL (n+1) m) (i:Int) r) (· =r):=by
   unfold wy;refine av (by constructor<;>omega) ?_;rw [e1,Sg (n+1) hN r hr hs m (i+1) I I I];exact ac J
  refine Sat.bind (P:=fun b=>b=true-> ∀x,r[i]? =some x->x.Za=0) (pW I fun x hx=>ac fun h y hy=>by rw [hx] at hy;cases hy;exact YU h) fun b hb=> ?_
  refine cl (P:=fun c=>c=true->b=true/\ ∀x,r[i - 1]? =some x->x.Za=0) (fun e=>av (by constructor<;>omega) (by rw [e2];exact pW I fun x hx=>ac fun h=>⟨e,fun y hy=>by rw [hx] at hy;cases hy;exact YU h⟩)) (fun _=>ac fun h=>by cases h) fun c hc=> ?_
  refine cl (P:=fun z=>z=false) (fun e=>av (by constructor<;>omega) (by
   rw [e2]
   refine pW I fun x hx=>pW I fun y hy=>ac ?_
   obtain ⟨a6,a7⟩:=hc e;have kx:=a7 x hx;have ky:=hb a6 y hy;obtain ⟨a1,rfl⟩:=XN.1 hx;obtain ⟨a2,rfl⟩:=XN.1 hy;have:=Yk.1 hs (i - 1) i a1 a2 I;unfold rk at this;rw [if_pos kx,if_pos ky] at this
   exact WY I)) (fun _=>ac J) fun z hz=> ?_
  rw [hz,cf];exact stop
end
section
open Go.RowKit
set_option maxRecDepth 20000
def dP:Nat->List WK->List WP
 |_,[]=> []
 |j,x::m=>bif decide (x=cB) then dP (j+1) m else jI (j:Int)::dP (j+1) m
theorem te: ∀(j:Nat) (m:List WK),(dP j m).length<=m.length
 |_,[]=>YA _
 |j,x::m=>by
  unfold dP;have:=te (j+1) m;cases decide (x=cB)
  ·rw [cf,XV,XV];omega
  rw [ct,XV];omega
theorem td: ∀(j:Nat) (m:List WK) (k:WP),k∈dP j m-> ∃n:Nat,k=jI (n:Int)/\n<j+m.length
 |_,[],k,h=>by cases h
 | j,x::m,k,h=>by
  unfold dP at h;rw [XV]
  cases e:decide (x=cB) with
  |true=>
   rw [e,ct] at h;obtain ⟨n,h1,h2⟩:=td (j+1) m k h;exact ⟨n,h1,by omega⟩
  |false=>
   rw [e,cf] at h;rcases X7.1 h with h|h
   ·exact ⟨j,h,by omega⟩
   obtain ⟨n,h1,h2⟩:=td (j+1) m k h;exact ⟨n,h1,by omega⟩
def vU (d:WL):List WP:=(dP 0 d.Zk++ [lenK])++d.Zm.map (·.Zg)
theorem PW {ρ:Type}{n r:Option ρ}{x:Nat->Option ρ}:qN none n r x=n:=rfl
theorem Dl (N:Nat)(c:WI)(hc:c.Zb.length<=4096)(w':WH)(v':WK): ∀(m j:Nat) (l:List WP),c.Zb.length<m+j->j<=c.Zb.length->l.length<=j->Sat (eZ N (cM (fun x st=>ik N w' v' x st)) c m (j:Int) (none,l)) fun r=>r=(none,l++dP j (c.Zb.drop j))
 |0,j,l,h1,h2,_=>by omega
 | m +1,j,l,h1,h2,h3=>by
  rw [eZ.eq_2];by_cases h4:j<c.Zb.length
  ·rw [WX I,ct,aK h4,bs,Xt h4];unfold dP
   cases e:decide (c.Zb[j]=(⟨8,0,(⟨#[]⟩:ByteArray)⟩:WK)) with
   |true=>
    rw [nt,cf,show decide (c.Zb[j]=cB)=true from e,ct];exact av (by constructor<;>omega) (Dl N c hc w' v' m (j+1) _ I I I)
   | false=>
    have e2:cM (fun x st=>ik N w' v' x st) ((j:Int),c.Zb[j]) (none,l)=some (true,(none,l++([(⟨0,(j:Int),⟨#[]⟩⟩:WP)]:List WP))):=by
     show Option.map _ (ik N w' v' ((j:Int),c.Zb[j]) l)=_;unfold ik;simp only;rw [cF (by unfold bu;rw [X0];omega)];rfl
    rw [nf,ct,e2,bs,nt,cf,show decide (c.Zb[j]=cB)=false from e,cf];refine av (by constructor<;>omega) ((Dl N c hc w' v' m (j+1) _ I I (by rw [YW,X0];omega)).mono fun r hr=> ?_);rw [hr,W0];rfl
  rw [WY I,cf];exact ac (by rw [Xv I,show dP j []=[] from rfl,Xp])
theorem HO (N:Nat)(w:WH)(y:List WJ)(hy:y.length<=1024): ∀(m j:Nat) (l:List WP),y.length<m+j->j<=y.length->l.length<=4097+j->qx N y m (j:Int) l=pF N (l++(y.drop j).map (·.Zg))
 |0,j,l,h1,h2,_=>by omega
 | m+1,j,l,h1,h2,h3=>by
  rw [qx.eq_2];by_cases h4:j<y.length
  ·rw [WX I,ct,aK h4,bs,cF (by unfold bu;rw [X0];omega),cF (by constructor<;>omega),Xt h4];have:=HO N w y hy m (j+1) (l++ [y[j].Zg]) I I (by rw [YW,X0];omega);simp only [Xj,Xh] at this;rw [this,W0];rfl
  rw [WY I,cf,Xv I,List.map_nil,Xp];unfold uu;cases pF N l<;>rfl
theorem DG (N:Nat)(d:WL)(hy:d.Zm.length<=1024): ∀(m j:Nat) (l:List WP),d.Zm.length<m+j->j<=d.Zm.length->l.length<=5000+j->wx N d m l (j:Int)=sM N (l++(d.Zm.drop j).map (·.Zg))
 |0,j,l,h1,h2,_=>by omega
 | m+1,j,l,h1,h2,h3=>by
  rw [wx.eq_2];by_cases h4:j<d.Zm.length
  ·rw [WX I,ct,aK h4,bs,cF (by unfold bu;rw [X0];omega),cF (by constructor<;>omega),Xt h4];have:=DG N d hy m (j+1) (l++ [d.Zm[j].Zg]) I I (by rw [YW,X0];omega);simp only [Xj,Xh] at this;rw [this,W0];rfl
  rw [WY I,cf,Xv I,List.map_nil,Xp]
theorem Au (N:Nat)(d:WL)(hE:d.Zk.length<=5000)(hh:∀x∈d.Zk,x.Za=8->x=cB): ∀(m j:Nat) (l:List WP),d.Zk.length<m+j->j<=d.Zk.length->l.length<=j->uK N d m l (j:Int)=yb N d (l++dP j (d.Zk.drop j))
 |0,j,l,h1,h2,_=>by omega
 | m+1,j,l,h1,h2,h3=>by
  rw [uK.eq_2];by_cases h4:j<d.Zk.length
  ·have e1:((j:Int)+1)=((j+1:Nat):Int):=by omega
   have ed:decide (d.Zk[j].Za=8)=decide (d.Zk[j]=cB):=by
    by_cases e:d.Zk[j].Za=8
    ·rw [WX e,WX (hh _ (Y4 h4) e)]
    rw [WY e,WY fun e2=>e (by rw [e2];rfl)]
   rw [WX I,ct,aK h4,bs,Xt h4,ed];unfold dP wz
   cases e:decide (d.Zk[j]=cB) with
   |true=>
    rw [nt,cf,ct,cF (by constructor<;>omega),e1];exact Au N d hE hh m (j+1) l I I I
   |false=>
    rw [nf,ct,cf,cF (by unfold bu;rw [X0];omega),cF (by constructor<;>omega),e1];have:=Au N d hE hh m (j+1) (l++ [jI (j:Int)]) I I (by rw [YW,X0];omega);rw [W0] at this;exact this
  rw [WY I,cf,Xv I,show dP j []=[] from rfl,Xp]
section
variable {N:Nat}(hN:20000<=N){v:WK}(hv:v.Za=7)(hvN:v.N=i){k q:Nat}(hk:k<=580){w:WH}(hM:d.Zk.length<=2200)(h:Sim N i k q w c d)
include hN hM h
theorem DO: ∀x∈vU d,keyR N x:=fun x hx=>by
 rcases X6.1 hx with hx|hx
 ·rcases X6.1 hx with hx|hx
  ·obtain ⟨n,rfl,h2⟩:=td _ _ _ hx;unfold keyR aZ jI;rw [show decide ((0:Int)=0)=true from rfl,ct];show Option.bind (bif (⟨#[]⟩:ByteArray).toList==(⟨#[]⟩:ByteArray).toList then some (decide (0<=(n:Int))) else some false) _=_;rw [beq_self_eq_true,ct,WX (show 0<=(n:Int) by omega),bs,ct,WX (show (n:Int)<=4294967294 by omega),bs]
  rw [Yg.1 hx];unfold keyR aZ;show Option.bind (iX N lenK.S) _=_
  have:iX N lenK.S=some (0,false):=by
   obtain ⟨n,rfl⟩: ∃n,N=n+64:=⟨N - 64,by omega⟩;kernel_rfl
  rw [this];rfl
 obtain ⟨p,hp,rfl⟩:=Yb.1 hx;exact (h.pv p hp).k
theorem Hk:(vU d).length<=3300:=by
 have _:=hN
 have h1:=te 0 d.Zk;have h2:=h.ob.len;unfold vU;rw [YW,YW,YY,X0];omega
include hv hvN hk in
theorem Qc:ko N w v=pF N (vU d):=by
 have hel:=te 0 c.Zb
 have hML:c.Zb.length<=2200:=by rw [h.el];exact hM
 have hle:=h.ob.len;have eL:bZ N=some lenK:=rfl;unfold ko rl;rw [xK hv hvN hk hM h,bs,nt,cf,bs];have he:=(Dl N c I w v N 0 [] I I (by simp)).eq;show Option.bind (eZ N (cM (fun x st=>ik N w v x st)) c N ((0:Nat):Int) (none,[])) _=_;rw [he,bs,PW,eL,bs,Xx,Y3,cF (by show (dP 0 c.Zb).length+1<=1099511627776;omega),BL hN hv hvN hk hML h.ob,bs];have:=HO N w d.Zm hle N 0 (dP 0 c.Zb++ [lenK]) I I (by rw [YW,X0];omega);rw [Xx] at this;rw [h.el] at this⊢;exact this
theorem OH:Ay N d=sM N (vU d):=by
 have hel:=te 0 d.Zk;have hle:=h.ob.len;have eL:bN N=some lenK:=rfl;unfold Ay;have e1:=Au N d I h.wf.hole N 0 [] I I (by simp);rw [show ((0:Nat):Int)=0 from rfl,Xx,Y3] at e1;rw [e1];unfold yb;rw [eL,bs,cF (by unfold bu;rw [X0];omega)];have e2:=DG N d hle N 0 (dP 0 d.Zk++ [lenK]) I I (by rw [YW,X0];omega);rw [Xx] at e2;exact e2
include hv hvN hk in
theorem Tm: ∃ks,ko N w v=some ks/\Ay N d=some ks/\SoK ks/\EvK ks (vU d):=by
 have hR:=DO hN hM h;have hl:=Hk hN hM h;obtain ⟨r,e1,s1,s2⟩:=Tl N hN (vU d) I hR;obtain ⟨z,f1,t1,t2⟩:=QK N hN (vU d) I hR;have e:r=z:=s1.uniq t1 (s2.trans t2.symm);subst e;refine ⟨r,(Qc hN hv hvN hk hM h).trans e1,?_,s1,s2⟩;rw [OH hN hM h];unfold sM;rw [f1,bs];have hz:=s2.len;exact Sg N hN r I s1 N 1 I I I
end
end
section
open Go.RowKit
set_option maxRecDepth 20000
structure Sta (N k q:Nat) (w:WH) (d:WL):Prop where
 ex: ∃i R c,w.Zo.Zt=R++ [(⟨7,i,⟨#[]⟩⟩:WK)]/\R.length<=29/\Sim N i k q w c d
theorem Sta.at_ {N k q:Nat}{w:WH}(h:Sta N k q w d): ∃i R c,w.Zo.Zt=R++ [(⟨7,i,⟨#[]⟩⟩:WK)]/\R.length<=29/\Sim N i k q w c d/\dz N w=some ((R.length:Int)+1)/\gt N w ((R.length:Int)+1 - 1)=some ⟨7,i,⟨#[]⟩⟩:=by
 obtain ⟨i,R,c,h1,h2,h3⟩:=h.ex;refine ⟨i,R,c,h1,h2,h3,?_,?_⟩
 ·rw [NH N (by rw [h1,YW,X0];omega),h1,YW,X0];rfl
 unfold gt;rw [show (R.length:Int)+1 - 1=((R.length:Nat):Int) by omega,LI N (v:=⟨7,i,⟨#[]⟩⟩) (by rw [h1];exact Gg rfl),bs]
end
section
open Go.RowKit
set_option maxRecDepth 20000
structure ActOk (a:WE):Prop where
 v:PrimB a.V
 vn:in64 a.V.N
 d:PDesc a.D
 n:a.N<=2000\/4096<a.N
 kn:a.K.N<=2000\/4096<=a.K.N
 dn:a.D.Value.N<=2000\/4096<a.D.Value.N
theorem Sta.of {N k q k' q':Nat}{w w':WH}{d':WL}(h1:w.Zo.Zt=R++ [(⟨7,i,⟨#[]⟩⟩:WK)])(h2:R.length<=29)(h:CE N i k' q' w d' w')(hk:k'<=k)(hq:q'<=q):Sta N k q w' d':=by
 obtain ⟨c',s,f⟩:=h;exact ⟨i,R,c',by rw [f.roots];exact h1,h2,s.up hk hq⟩
def UO (N k q:Nat)(d:WL)(r:WL×Bool×WH):Prop:=r.2.1=true/\r.1.Zk.length<=max (d.Zk.length+1) 2101/\r.1.Zm.length<=d.Zm.length+1/\Sta N (k+8) (q+1024*1000) r.2.2 r.1
theorem Ty {N:Nat}(hN:20000<=N){k q:Nat}(hk:k+16<=580)(hq:q+1024*1000<=1000000000){w:WH}(hM:d.Zk.length<=2190)(hL:d.Zm.length<1000)(h:Sta N k q w d){a:WE}(ha:ActOk a):Sat (tC N w d a) (UO N k q d):=by
 obtain ⟨i,R,c,h1,h2,s,e1,e2⟩:=h.at_;unfold tC;rw [e1,bs,cF (by constructor<;>omega),e2,bs]
 refine az (fun _=> ?_) fun _=>az (fun _=> ?_) fun _=>az (fun _=> ?_) fun _=>az (fun _=> ?_) fun _=>az (fun _=> ?_) fun _=> ?_
 ·refine (PM hN (v:=⟨7,i,⟨#[]⟩⟩) J J hk hq hM hL s (key:=a.K) (fun _=>by have:=ha.kn;omega) ha.d (by have:=ha.dn;omega)).bind fun r hr=> ?_
  obtain ⟨d',r1,r2,r3,r4⟩:=hr;rw [r1,bs,beq_self_eq_true,beq_self_eq_true,ct,bs];exact ac ⟨J,by show d'.Zk.length<=_;omega,r3,Sta.of h1 h2 r4 (YA _) (YA _)⟩
 ·obtain ⟨r,f1,d',r1,r2,r3,r4⟩:=PJ hN (v:=⟨7,i,⟨#[]⟩⟩) rfl rfl I I I hL s a.K;rw [r1,bs,f1,bs,beq_self_eq_true];exact ac ⟨J,by show d'.Zk.length<=_;omega,by show d'.Zm.length<=_;omega,Sta.of h1 h2 r4 I I⟩
 ·obtain ⟨r,f1,d',r1,r2,r3,r4⟩:=Jb hN (v:=⟨7,i,⟨#[]⟩⟩) rfl rfl I hq I hL s (n:=a.N) (by have:=ha.n;omega);rw [r1,bs,f1,bs,beq_self_eq_true];exact ac ⟨J,by show d'.Zk.length<=_;omega,by show d'.Zm.length<=_;omega,Sta.of h1 h2 r4 (YA _) (YA _)⟩
 ·obtain ⟨r,f1,d',r1,r2,r3,r4⟩:=SP hN (v:=⟨7,i,⟨#[]⟩⟩) rfl rfl I I s (ha.v.prim ha.vn) I;rw [r1,bs,f1,bs,beq_self_eq_true];exact ac ⟨J,by show d'.Zk.length<=_;omega,by show d'.Zm.length<=_;omega,Sta.of h1 h2 r4 I I⟩
 ·obtain ⟨w',p,st,fr⟩:=QV hN (v:=⟨7,i,⟨#[]⟩⟩) rfl rfl I I s;obtain ⟨c',st⟩:=st;rw [p,bs];exact ac ⟨J,by show d.Zk.length<=_;omega,by show d.Zm.length<=_;omega,Sta.of h1 h2 ⟨c',st,fr⟩ I I⟩
 obtain ⟨g',i',R',c',m1,m2,m3,m4⟩:=Q2 s I h1;unfold lI;rw [bs,m1,bs,WX rfl];exact ac ⟨J,by show d.Zk.length<=_;omega,by show d.Zm.length<=_;omega,⟨i',R',c',m3,by omega,m4.up I I⟩⟩
end
section
open Go.RowKit
set_option maxRecDepth 20000
def TA:WF:=⟨0,1048576,50,100,0,0,0⟩
def wN0:WH:=match px 64 TA with
 |some (.inr w)=>w.1
 |_=>default
theorem Uu (K:Nat):px (K+64) TA=some (.inr (wN0,0)):=by kernel_rfl
def Hm (v:WK):Bool:=decide (-9223372036854775808<=v.N)&&decide (v.N<=9223372036854775807)
theorem K5 {v:WK}(h:Hm v=true):in64 v.N:=by
 unfold Hm at h;rw [Y0,YS,YS] at h;exact h
def SB (g:WN)(c:WI):Bool:=bQ c&&((fU c).all (aW g.m_)&&(!decide (c.Za=8)&&(!decide (c.Za=10)&&(c.Zc++c.Zb).all Hm)))
def Pk (g:WN):Bool:=decide (ws g.m_.Zh+ws g.m_.Zj<=50)&&(decide (mS g.m_.Zh+mS g.m_.Zj<=0)&&(decide (g.Zt.length=20)&&(g.Zv.isEmpty&&(decide (g.Zw.at_.map Prod.fst=nY g.m_)&&((g.m_.Zh++g.m_.Zj).all (SB g)&&(g.Zt.all Hm&&(dF g.Zt).all (aW g.m_)))))))
theorem Pj:Pk wN0.Zo=true:=by kernel_rfl
theorem Pi (h:Pk g=true):Pl g/\Hb 50 0 g/\g.Zt.length=20:=by
 unfold Pk at h;simp only [Y0,YS,Xo,List.isEmpty_iff] at h;obtain ⟨h1,h2,h3,h4,h5,h6,h7,h8⟩:=h
 have hc: ∀c∈g.m_.Zh++g.m_.Zj,bQ c=true/\(∀x∈fU c,aW g.m_ x=true)/\c.Za≠8/\c.Za≠10/\ ∀v∈c.Zc++c.Zb,Hm v=true:=fun c hc=>by
  have:=h6 c hc;unfold SB at this;simpa only [Y0,YS,Xo,Bool.not_eq_true',YR] using this
 obtain ⟨n1,n2⟩:=JC h5;have hb:Hb 50 0 g:=⟨h1,h2,by omega⟩;exact ⟨⟨Rg I I hb h4 (fun c h v hv=>K5 ((hc c h).2.2.2.2 v hv)) (fun v hv=>K5 (h7 v hv)) n1 n2,h4,fun c h=>⟨(hc c h).1,(hc c h).2.1,(hc c h).2.2.1,(hc c h).2.2.2.1⟩,h8,Ug h5⟩,hb,h3⟩
theorem Pl.root {k M:Nat}(hk:k<=580)(hM:M<=2200)(h:Pl g){v:WK}(s:Hb k M ⟨g.m_,g.Zt++ [v],g.Zv,g.Zw⟩)(hv:aW g.m_ v.N=true)(hi:in64 v.N):Pl ⟨g.m_,g.Zt++ [v],g.Zv,g.Zw⟩:=by
 refine ⟨Rg hk hM s h.pend h.hb.w64 (fun x hx=> ?_) h.hb.nd h.hb.keys,h.pend,h.cells,fun x hx=> ?_,h.set⟩
 ·rcases X6.1 hx with hx|hx
  ·exact h.hb.r64 x (W2 _ hx)
  rw [Yg.1 hx];exact hi
 obtain ⟨y,hy,hb,rfl⟩:=tw.1 hx;rcases X6.1 hy with hy|hy
 ·exact h.roots _ (tw.2 ⟨y,hy,hb,J⟩)
 rw [Yg.1 hy];exact hv
def p0:WK:=rG wN0.Zo.Zt 2
theorem QH:wN0.Zo.Zt[2]? =some p0:=by kernel_rfl
theorem Um:(decide (p0.Za=7)&&(kV p0&&(Hm p0&&aW wN0.Zo.m_ p0.N)))=true:=by kernel_rfl
theorem MF:wN0.Zu=TA/\wN0.ZB=⟨0,0,0⟩:=⟨by kernel_rfl,by kernel_rfl⟩
theorem Ox:wN0.Zp=⟨[(⟨-1,⟨0,0,⟨#[]⟩⟩,0,0⟩:WQ)],[]⟩:=by kernel_rfl
def tbN:WG:=⟨[(⟨-1,⟨0,0,⟨#[]⟩⟩,0,0⟩:WQ)],[]⟩
theorem Qz {s:WQ}(h:Has tbN i s):i=0/\s=⟨-1,⟨0,0,⟨#[]⟩⟩,0,0⟩:=by
 have h1:=h.lt
 have h0:i=0:=by
  have:((tbN.Zp.length:Nat):Int)=1:=rfl;omega
 subst h0;exact ⟨J,(YL h.2).symm⟩
theorem SK (N:Nat):TI N tbN:=by
 refine ⟨fun i s h=> ?_,fun k j h=>by cases h⟩;obtain ⟨-,rfl⟩:=Qz h;exact ⟨Xi _,by show (0:Int)<=1024;omega,fun h=>absurd h (by show¬(0:Int)<0;omega)⟩
def c0 (a0:List WK):WI:=⟨2,0,1,0,[p0],a0⟩
def gA (a0:List WK):WN:=⟨(xx wN0.Zo (c0 a0)).m_,wN0.Zo.Zt++ [(⟨7,nX wN0.Zo,⟨#[]⟩⟩:WK)],wN0.Zo.Zv,wN0.Zo.Zw⟩
theorem Tg {N:Nat}(hN:20000<=N){a0:List WK}(hl:a0.length<=200)(hp:∀x∈a0,PrimB x/\in64 x.N): ∃w v,tz N a0=some (.inr (w,v,true))/\ ∃r,gq N w v=some r/\Sta N 52 1 r.2 ⟨true,false,a0,[]⟩:=by
 obtain ⟨K,rfl⟩: ∃K,N=K+64:=⟨N - 64,by omega⟩;obtain ⟨pl,hb,hr⟩:=Pi Pj;have hp0:=Um;simp only [Y0,YS] at hp0;obtain ⟨q1,q2,q3,q4⟩:=hp0
 have hPr: ∀x∈a0,Prim x:=fun x hx=>(hp x hx).1.prim (hp x hx).2
 have hright:bQ (c0 a0)=true:=zb (.inr rfl) (by show (0:Int)<=0;omega) (by constructor<;>(first|(show (0:Int)<=1;omega)|(show (1:Int)<=63;omega))) (by constructor<;>(first|(show (0:Int)<=0;omega)|(show (0:Int)<=1;omega))) (fun x hx=>by rw [Yg.1 (show x∈[p0] from hx)];exact q2) (fun x hx=>(hPr x hx).may) (by show 1<=1025;omega) (z:=p0) rfl (.inr q1) (by show a0.length<=4096;omega) (fun h=>by cases h)
 have hrefs:Oi wN0.Zo.m_ (c0 a0):=fun x hx=>by
  rcases X6.1 hx with hx|hx
  ·rw [Yg.1 (show x∈[p0] from hx)];exact ⟨K5 q3,fun _=>q4⟩
  exact ⟨(hPr x hx).i64,fun e=>by rw [(hPr x hx).no] at e;cases e⟩
 have a6:Hb 52 a0.length (xx wN0.Zo (c0 a0)):=MN hb _ (by show 50+1+1<=52;omega) (by show 0+a0.length<=a0.length;omega);obtain ⟨p1,p2,p3,p4⟩:=pl.addK I I hright ⟨by show (2:Int)≠8;decide,by show (2:Int)≠10;decide⟩ hrefs a6;have hi:=wM p1.hb.small p3;have a7:Hb 52 a0.length (gA a0):=⟨a6.hw,a6.hm,by show (wN0.Zo.Zt++ [_]).length<=30;rw [YW,hr,X0];omega⟩;have p5:Pl (gA a0):=p1.root I I (v:=⟨7,nX wN0.Zo,⟨#[]⟩⟩) a7 p3 hi
 have e1:eT (K+64) wN0 2=some p0:=by
  unfold eT;rw [show decide ((2:Int)<0)=false from rfl,cf,bs,show decide ((18:Int)<=2)=false from rfl,cf];have:=LI (K+64) QH;rw [show ((2:Nat):Int)=2 from rfl] at this;rw [this,bs]
 let w1:WH:=⟨⟨wN0.ZB.ZR,wN0.ZB.ZL+1,wN0.ZB.ZS⟩,wN0.Zu,(),xx wN0.Zo (c0 a0),wN0.Zp,wN0.Zy,wN0.ZE,wN0.ZF,wN0.ZG,wN0.Zz,wN0.ZA⟩
 have hyl:=pl.hb.small.young;have hsz:(c0 a0).Zc.length<=600/\(c0 a0).Zb.length<=2900:=⟨by show 1<=600;omega,by show a0.length<=2900;omega⟩
 have e2:gr (K+64) wN0 (c0 a0)=some (⟨7,nX wN0.Zo,⟨#[]⟩⟩,true,w1):=by
  have el:(((wN0.Zo.m_.Zh++ [c0 a0]).length:Nat):Int)=(wN0.Zo.m_.Zh.length:Int)+1:=by simp
  have em:eV (K+64) wN0.Zo (c0 a0)=some (nX wN0.Zo,0,xx wN0.Zo (c0 a0)):=by
   unfold eV aL;rw [bs,cf,yE I I,bs,hright,nt,cf,pJ _ _ hsz,bs];show aG (bu (wN0.Zo.m_.Zh.length+ [c0 a0].length)) (aG (in64 (2*((wN0.Zo.m_.Zh++ [c0 a0]).length:Int))) (aG (in64 (2*((wN0.Zo.m_.Zh++ [c0 a0]).length:Int) - 1)) (some (2*((wN0.Zo.m_.Zh++ [c0 a0]).length:Int) - 1,0,xx wN0.Zo (c0 a0)))))=_;rw [rF (by simp only [XV,XY];omega),el,r64 I I,r64 I I,show 2*((wN0.Zo.m_.Zh.length:Int)+1) - 1=nX wN0.Zo by unfold nX;omega]
  unfold gr;rw [MF.1,MF.2,em];show (bif decide ((100:Int)<=0) then _ else _)=_;rw [show decide ((100:Int)<=0)=false from rfl,cf,bs];show (bif !decide ((0:Int)=0) then _ else _)=_;rw [WX rfl,nt,cf,cF (by constructor<;>decide)];show some (_,true,(⟨⟨_,_,_⟩,_,_,_,_,_,_,_,_,_,_⟩:WH))=some (_,true,w1);show _=some (_,true,(⟨⟨wN0.ZB.ZR,wN0.ZB.ZL+1,wN0.ZB.ZS⟩,wN0.Zu,(),xx wN0.Zo (c0 a0),wN0.Zp,wN0.Zy,wN0.ZE,wN0.ZF,wN0.ZG,wN0.Zz,wN0.ZA⟩:WH));rw [MF.1,MF.2]
 refine ⟨w1,⟨7,nX wN0.Zo,⟨#[]⟩⟩,?_,?_⟩
 ·unfold tz;have en:px (K+64) (⟨0,1048576,50,100,0,0,0⟩:WF)=some (.inr (wN0,0)):=Uu K;rw [en,bs];show Option.bind (vd (K+64) wN0 a0) _=_;unfold vd;rw [e1,bs];show Option.bind (Option.bind (gr (K+64) wN0 (c0 a0)) _) _=_;rw [e2];rfl
 refine ⟨((((wN0.Zo.Zt++ [(⟨7,nX wN0.Zo,⟨#[]⟩⟩:WK)]).length:Nat):Int) - 1,⟨w1.ZB,w1.Zu,(),gA a0,w1.Zp,w1.Zy,w1.ZE,w1.ZF,w1.ZG,w1.Zz,w1.ZA⟩),?_,nX wN0.Zo,wN0.Zo.Zt,c0 a0,J,by omega,⟨⟨p5,a7,?_,?_⟩,p3,p4,⟨.inr rfl,⟨p0,rfl,.inr q1⟩,(fun h=>by cases h),.nil (s:=⟨-1,⟨0,0,⟨#[]⟩⟩,0,0⟩) ?_ rfl,rfl,List.nodup_nil,by show ai .i64 1 16=0;decide+kernel⟩,(fun n p h=>by cases h),fun n m x y _ h=>by cases h⟩,rfl,rfl,by kernel_rfl,by kernel_rfl,⟨(fun p h=>by cases h),(fun p h=>by cases h),List.nodup_nil,fun x hx h8=>Ho (hPr x hx).may h8⟩,(fun p h=>by cases h),hPr⟩
 ·unfold gq gF aL
  have hlen:(wN0.Zo.Zt++ [(⟨7,nX wN0.Zo,⟨#[]⟩⟩:WK)]).length=21:=by rw [YW,hr];rfl
  rw [bs,cf];show Option.bind (aG (bu (wN0.Zo.Zt.length+1)) (aG (in64 (((wN0.Zo.Zt++ [(⟨7,nX wN0.Zo,⟨#[]⟩⟩:WK)]).length:Int) - 1)) _)) _=_;rw [rF I,cF (by rw [hlen];constructor<;>decide)];rfl
 ·show TI _ wN0.Zp;rw [Ox];exact SK _
 ·show wN0.Zp.Zp.length<=1;rw [Ox];exact YA _
 show Has wN0.Zp 0 _;rw [Ox];exact ⟨Xi _,J⟩
end
section
open Go.RowKit
set_option maxRecDepth 20000
theorem Ri (K:Nat):pe (K+200)=some true:=by kernel_rfl
theorem K6 {N:Nat}(hN:20000<=N):pe N=some true:=by
 obtain ⟨K,rfl⟩: ∃K,N=K+200:=⟨N - 200,by omega⟩;exact Ri K
end
section
open Go.RowKit
set_option maxRecDepth 20000
theorem Fh (N:Nat)(x:WK):Sat (mZ N x) fun b=>b=true->PrimB x:=by
 have eH:iu N=some cB:=rfl;unfold mZ
 refine cl (P:=fun b=>b=true->PrimB x) (fun e=>by rw [Fy,bs];exact ac fun h=> .inl ⟨YU e,h⟩) (fun _=>ac fun h=>by cases h) fun b hb=> ?_
 exact cl (P:=fun b=>b=true->PrimB x) (fun e=>ac fun _=>hb e) (fun _=>by rw [eH,bs];exact ac fun h=> .inr (YU h)) fun c hc=>ac hc
structure A64 (a:WE):Prop where
 fv:in64 a.V.N
 fh:in64 a.D.Has
 fa:in64 a.D.Zd
 fn:in64 a.D.Value.N
theorem Hd {b:Bool}(h:(!b)=false):b=true:=by cases b<;>first|rfl|cases h
theorem Hs {N:Nat}(a0:List WE)(h64:∀a∈a0,A64 a): ∀(m j:Nat),40<m+j->j<=40->(∀jj x,jj<j->a0[jj]? =some x->ActOk x)->Sat (uC N a0 m (j:Int)) fun b=>b=true-> ∀jj x,jj<40->a0[jj]? =some x->ActOk x
 |0,j,h,h2,_=>by omega
 | m +1,j,h,h2,hk=>by
  rw [uC.eq_2]
  refine cl (P:=fun b=>b=true↔((j:Int)<(a0.length:Int)/\(j:Int)<40)) (fun e=>ac ⟨fun e2=>⟨YU e,YU e2⟩,fun h=>WX h.2⟩) (fun e=>ac ⟨fun h=>(by cases h),fun h=>absurd h.1 (YT e)⟩) fun c hc=>dx (fun e2=> ?_) fun e2=> ?_
  ·obtain ⟨h4,h5⟩:=hc.1 e2
   refine pW I fun x hx=> ?_
   have hxm:=Yc hx;have h6:=h64 x hxm
   refine (Fh N x.V).bind fun y9 h9=> ?_
   refine cl (P:=fun b=>b=false->PrimB x.V/\PrimB x.D.Value) (fun _=>ac fun h=>by cases h) (fun e=>(Fh N x.D.Value).bind fun y hy=>ac fun h=>⟨h9 (Hd e),hy (Hd h)⟩) fun a8 h10=> ?_
   refine cl (P:=fun b=>b=false->(PrimB x.V/\PrimB x.D.Value)/\PrimB x.D.Zq) (fun _=>ac fun h=>by cases h) (fun e=>(Fh N x.D.Zq).bind fun y hy=>ac fun h=>⟨h10 e,hy (Hd h)⟩) fun b12 h12=> ?_
   refine cl (P:=fun b=>b=false->((PrimB x.V/\PrimB x.D.Value)/\PrimB x.D.Zq)/\PrimB x.D.Zr) (fun _=>ac fun h=>by cases h) (fun e=>(Fh N x.D.Zr).bind fun y hy=>ac fun h=>⟨h12 e,hy (Hd h)⟩) fun b0 h14=> ?_
   refine cl (P:=fun b=>b=false->((PrimB x.V/\PrimB x.D.Value)/\PrimB x.D.Zq)/\PrimB x.D.Zr) (fun _=>ac fun h=>by cases h) (fun e=>ac fun _=>h14 e) fun b16 h16=>dx (fun _=>ac fun h=>by cases h) fun a6=> ?_
   refine cl (P:=fun b=>b=false->x.N<=2000\/4096<x.N) (fun _=>ac fun h=>by have:=YT h;omega) (fun e=>ac fun _=>by have:=YT e;omega) fun b5 h18=> ?_
   refine cl (P:=fun b=>b=false->(x.N<=2000\/4096<x.N)/\(x.K.N<=2000\/4096<=x.K.N)) (fun _=>ac fun h=>by cases h) (fun e=>cl (P:=fun b=>b=false->x.K.N<=2000\/4096<=x.K.N) (fun _=>ac fun h=>by have:=YT h;omega) (fun e=>ac fun _=>by have:=YT e;omega) fun b6 h20=>ac fun h=>⟨h18 e,h20 h⟩) fun b7 h19=> ?_
   refine cl (P:=fun b=>b=false->((x.N<=2000\/4096<x.N)/\(x.K.N<=2000\/4096<=x.K.N))/\(x.D.Value.N<=2000\/4096<x.D.Value.N)) (fun _=>ac fun h=>by cases h) (fun e=>cl (P:=fun b=>b=false->x.D.Value.N<=2000\/4096<x.D.Value.N) (fun _=>ac fun h=>by have:=YT h;omega) (fun e=>ac fun _=>by have:=YT e;omega) fun b9 h22=>ac fun h=>⟨h19 e,h22 h⟩) fun c7 h21=>dx (fun _=>ac fun h=>by cases h) fun a7=> ?_
   obtain ⟨⟨⟨v1,v2⟩,v3⟩,v4⟩:=h16 a6;obtain ⟨⟨n1,n2⟩,n3⟩:=h21 a7;refine av (by constructor<;>omega) ?_
   have:=Hs (N:=N) a0 h64 m (j+1) I I fun jj y hj hy=>by
    by_cases e:jj=j
    ·subst e;rw [hx] at hy;cases hy;exact ⟨v1,h6.fv,⟨h6.fh,h6.fa,h6.fn,v2,v3,v4⟩,n1,n2,n3⟩
    exact hk jj y I hy
   exact this
  have hn: ¬((j:Int)<(a0.length:Int)/\(j:Int)<40):=fun h=>by rw [hc.2 h] at e2;cases e2
  exact ac fun _ jj x hj hx=>by
   have:=(XN.1 hx).1;exact hk jj x I hx
end
section
variable {A1 A2:Option Addr}{c1 c2:Nat}
open Go.RowKit Asn
set_option maxRecDepth 20000
def tD (a6:Bool):Option Bool:=
 (bif a6 then ((pe N).bind fun a7=>some a7) else (some false)).bind fun a8=>some a8
def lu (N:Nat)(a8:WV)(b5:WH)(b6:WK):Nat->Int->Int->Bool->Int->Option Bool
 |0,_,_,_,_=>none
 |b7+1,b9,c7,b0,a7=>bif decide (a7<(a8.length:Int)) then ((au a8 a7).bind fun a6=>(bif decide (a6.Za<b9) then (some true) else ((bif decide (a6.Za=0) then ((bif decide (a6.N<=c7) then (some true) else ((km N b5 b6).bind fun c8=>some (decide (c8<=a6.N)))).bind fun c9=>some c9) else (some false)).bind fun d0=>some d0)).bind fun d1=>(bif d1 then (some true) else ((bif decide (a6.Za=1) then (some (!b0)) else (some false)).bind fun d2=>(bif d2 then ((bN N).bind fun d3=>some (!decide (a6=d3))) else (some false)).bind fun d4=>some d4)).bind fun d6=>bif d6 then (some false) else ((bif b0 then (some true) else ((bN N).bind fun e0=>some (decide (a6=e0)))).bind fun e1=>aG (in64 (a7+1)) ((lu N a8 b5 b6 b7) a6.Za a6.N e1 (a7+1)))) else (tD N b0)
def tG (y16_1:WH×WK×Bool)(a6:WH):Option Bool:=
 (dz N a6).bind fun a7=>aG (in64 (a7 - 1)) ((gt N a6 (a7 - 1)).bind fun a8=>(ko N a6 a8).bind fun b0=>lu N b0 a6 a8 N 0 (-1) false 0)
def lw (N:Nat)(a1:List WE)(y16_1:WH×WK×Bool):Nat->Int->WH->Bool->Bool->WW->(List WJ)->Option Bool
 |0,_,_,_,_,_,_=>none
 |b0+1,a6,a8,b5,b6,b7,b9=>(bif decide (a6<(a1.length:Int)) then (some (decide (a6<40))) else (some false)).bind fun c7=>bif c7 then ((au a1 a6).bind fun c8=>(tC N a8 (⟨b5,b6,b7,b9⟩:WL) c8).bind fun a7=>aG (in64 (a6+1)) ((lw N a1 y16_1 b0) (a6+1) a7.2.2 a7.1.Ext a7.1.Zs a7.1.Zk a7.1.Zm)) else (tG N y16_1 a8)
def pQ (a0:WW)(a1:List WE):Option Bool:=
 (tz N a0).bind fun y16=>Ef y16 (fun y16_0=>some false) (fun y16_1=>bif !y16_1.2.2 then (some false) else ((gq N y16_1.1 y16_1.2.1).bind fun a7=>(zd N a0).bind fun a6=>lw N a1 y16_1 N 0 a7.2 a6.Ext a6.Zs a6.Zk a6.Zm))
def mJ (N:Nat)(a0:WW)(a1:List WE):Nat->Int->Option Bool
 |0,_=>none
 |m8+1,p9=>bif decide (p9<(a0.length:Int)) then ((au a0 p9).bind fun a6=>(mZ N a6).bind fun a7=>bif !a7 then ((pe N).bind fun a8=>some a8) else (aG (in64 (p9+1)) ((mJ N a0 a1 m8) (p9+1)))) else (pQ N a0 a1)
def nA (a0:WW)(a1:List WE):Option Bool:=
 (bif decide (200<(a0.length:Int)) then (some true) else ((Ai N a1).bind fun y4=>some (!y4))).bind fun b3=>bif b3 then ((pe N).bind fun y6=>some y6) else (mJ N a0 a1 N 0)
set_option maxHeartbeats 4000000 in
theorem AX {N:Nat}{a0:WW}{r:Bool}(h:nA N a0 a1=some r):Okc W8 4 [W A1 n1 c1,W A2 n2 c2] ([aX A1 n1 c1 a0,iI xX (W A2 n2 c2) a1,ug]) (fun u post=>u=.bool r/\post=[]):=by
 refine CZ WB J J ?_;simp only [qM];refine Y ?_;refine aA<|Y ?_;refine gR (lO 0 J bi J t9)<|Y ?_;obtain ⟨b3,j7,h⟩:=aa h;refine il 4 23 b3 ?_ ?_
 ·clear h;refine fX 19 J (fun g3=> ?_) (fun g3=> ?_)
  ·have h:=cN g3 j7;refine Y ?_;obtain rfl:=bF h;exact bA sA (cS [0,1,2] 3)
  have h:=cO g3 j7;refine Y ?_;obtain ⟨y4,k,h⟩:=aa h;refine gU (aJ (I1 k) J (t5 (dN (i:=1) J J) aw) Gs) (cL g3 J)<|Y ?_;obtain rfl:=bF h;exact bA sA (cS [0,1,2] 3)
 refine Y ?_;refine gH J h ?_ ?_<;>intro h
 ·refine Y ?_;obtain ⟨y6,k,h⟩:=aa h;refine gV (aJ (xC k) J (t5 (dN (i:=2) J J) aw) vg)<|Y ?_;obtain rfl:=bF h;exact pI J J (cS [] 3) ⟨J,J⟩
 refine Y ?_;refine ao (fun s L=>pQ N a0 a1=some r/\s=[(0,W A1 n1 c1),(1,W A2 n2 c2),(4,.bool false)]/\L=[aX A1 n1 c1 a0,iI xX (W A2 n2 c2) a1,ug]) ?_ ?_
 ·refine Y ?_;refine gR (lO 0 J bi J t9)<|Y ?_;refine kq (fun m s L=> ∃p9,mJ N a0 a1 m p9=some r/\s=[(0,W A1 n1 c1),(1,W A2 n2 c2),(4,.bool false),(26,iV (a0.length:Int)),(27,iV p9)]/\L=[aX A1 n1 c1 a0,iI xX (W A2 n2 c2) a1,ug]) N _ _ ⟨0,h,J,J⟩ sA (cS [0,1,2] 3) ?_;rintro (_|m8) _ _ ⟨p9,h,rfl,rfl⟩
  ·exact aU h
  rw [mJ.eq_2] at h;refine Y ?_;refine aA<|gH J h (fun h=> ?_) (fun h=> ?_)
  ·refine Y ?_;refine aA<|Y ?_;obtain ⟨h5,d0,h⟩:=aa h;obtain ⟨h6,h7,d0⟩:=kY d0;refine gR (cT 0 J bi J J t9 size28.out h6 h7)<|gR (eU (us:=[iV h5.Za,iV h5.N,.string h5.S]) 0 J bi J d0 agg28.out (fun _ _ _ h=>by rw [show _=_ from h];rfl)) ?_;obtain ⟨m1,k,h⟩:=aa h;refine gV (aJ (rI k) J (aw) Gq)<|Y ?_;refine gH J h ?_ ?_<;>intro h
   ·refine Y ?_;obtain ⟨m2,k,h⟩:=aa h;refine gV (aJ (xC k) J (t5 (dN (i:=2) J J) aw) vg)<|Y ?_;obtain rfl:=bF h;exact pI J J (cS [] 3) ⟨J,J⟩
   refine Y ?_;obtain ⟨j8,h⟩:=ae h;refine gE (iN J J j8.1 j8.2)<|Y ?_;exact ⟨m8,_,_,WZ _,⟨p9+1,h,J,J⟩,sA,cS [0,1,2] 3⟩
  refine Y ?_;exact ⟨_,_,⟨h,J,J⟩,sA,cS [0,1,2] 3⟩
 rintro _ _ ⟨h,rfl,rfl⟩;refine Y ?_;obtain ⟨y16,d6,h⟩:=aa h;rcases y16 with y16_0|y16_1
 ·replace h:=GS h;refine gV (dM (iR d6) J (bP [0] [] [0,1,2] 3 J))<|mq ?_;refine Y ?_
  refine gB (bJ zero28.out J) fun m3=>Y ?_
  refine gW (am (us:=[iV y16_0.Za,iV y16_0.N,.string y16_0.S]) (cs':=[iV y16_0.Za,iV y16_0.N,.string y16_0.S]) 0 J J J J size28.out J J J)<|mq ?_;refine Y ?_;refine aA<|Y ?_;refine jx J<|Y ?_;obtain rfl:=bF h;exact pI J J (cS [] 4) ⟨J,J⟩
 replace h:=GR h;refine gD (dM (iR d6) J (bP [0] [] [0,1,2] 3 J)) ?_;rintro _ _ ⟨_,⟨d3,h8,h9,rfl,rfl⟩,rfl⟩;refine mq ?_;refine Y ?_
 refine gB (bJ zero28.out J) fun c9=>Y ?_
 refine gW (am (us:=[iV y16_1.2.1.Za,iV y16_1.2.1.N,.string y16_1.2.1.S]) (cs':=[iV y16_1.2.1.Za,iV y16_1.2.1.N,.string y16_1.2.1.S]) 0 J J J J size28.out J J J)<|mq ?_;refine Y ?_;refine aA<|Y ?_;refine gH J h ?_ ?_<;>intro h
 ·refine Y ?_;obtain rfl:=bF h;exact pI J J (cS [] 5) ⟨J,J⟩
 refine Y ?_;refine gR (aC (us:=[iV y16_1.2.1.Za,iV y16_1.2.1.N,.string y16_1.2.1.S]) 0 J J agg28.out J) ?_;obtain ⟨k7,k,h⟩:=aa h;refine gV (dM (xp k) J (bP [] [1] [0,2,3,4] 5 J))<|mq ?_;refine Y ?_;obtain ⟨d4,k,h⟩:=aa h;refine gD (aJ (Kx k) J (t5 (dN (i:=2) J J) aw) Ic) ?_;rintro _ _ ⟨_,⟨i0,i1,i2,i3,i4,i5,rfl,rfl⟩,rfl⟩
 refine gB (bJ zero35.out J) fun j9=>gW (am (us:=(lm d4 i0 i1 i2 i3 i4 i5)) (cs':=(lm d4 i0 i1 i2 i3 i4 i5)) 0 J J J J size35.out J J J)<|mq ?_
 refine Y ?_;refine ao (fun s L=> ∃e0,tG N y16_1 e0=some r/\s=[(4,.bool false),(6,pV d3 0),(7,pV c9 0)]/\L=[oDWorld d3 h8 h9 e0,ah c9 28 [iV y16_1.2.1.Za,iV y16_1.2.1.N,.string y16_1.2.1.S],ug]) ?_ ?_
 ·refine Y ?_;refine kq (fun m s L=> ∃f0 f1 f2 f3 i6 i7 f4 f6 f9 g0 g1 g2,lw N a1 y16_1 m f0 f1 f2 f3 i6 i7=some r/\s=[(1,W A2 n2 c2),(4,.bool false),(6,pV d3 0),(7,pV c9 0),(9,pV j9 0),(10,iV f0)]/\L=[iI xX (W A2 n2 c2) a1,oDWorld d3 h8 h9 f1,ah c9 28 [iV y16_1.2.1.Za,iV y16_1.2.1.N,.string y16_1.2.1.S],aX f4 f6 f9 i6,ux g0 g1 g2 i7,ah j9 35 [.bool f2,.bool f3,W f4 f6 f9,W g0 g1 g2],ug]) N _ _ ⟨0,k7.2,d4.Ext,d4.Zs,d4.Zk,d4.Zm,i0,i1,i2,i3,i4,i5,h,J,J⟩ sA ((bq 1 J).trans ((bq 2 J).trans (cS [6,3,4,1,2,0,7] 8))) ?_;rintro (_|k8) _ _ ⟨f0,f1,f2,f3,i6,i7,f4,f6,f9,g0,g1,g2,h,rfl,rfl⟩
  ·exact aU h
  rw [lw.eq_2] at h;refine aA<|Y ?_;refine gR (lO 0 J bi J z5)<|Y ?_;obtain ⟨k9,e1,h⟩:=aa h;refine il 3 58 k9 ?_ ?_
  ·clear h;refine fX 55 J (fun i8=> ?_) (fun i8=> ?_)
   ·have h:=cN i8 e1;refine Y ?_;obtain rfl:=bF h;exact bA sA (cS [0,1,2,3,4,5,6] 7)
   have h:=cO i8 e1;refine Y ?_;obtain rfl:=bF h;exact bA sA (cS [0,1,2,3,4,5,6] 7)
  refine Y ?_;refine gH J h ?_ ?_<;>intro h
  ·refine Y ?_;refine aA<|wW<|ba O ([iI xX (W A2 n2 c2) a1,ah c9 28 [iV y16_1.2.1.Za,iV y16_1.2.1.N,.string y16_1.2.1.S],ug]) (cS [0,2,6] 7) ?_;refine zE 0 J (aq J) ?_;refine zE 2 J (aq J) ?_;refine zE 3 J (aq J) ?_;obtain ⟨l0,d1,h⟩:=aa h;obtain ⟨i9,j0,d1⟩:=kY d1;refine zR 4 J (cT 0 J bi J J z5 size43.out i9 j0) ?_;refine zR 5 J (eU (us:=Mf l0) 0 J bi J d1 agg43.out (fun _ _ _ h=>by rw [show _=_ from h];rfl)) ?_;refine zD 1 J (uR (aC (us:=[.bool f2,.bool f3,W f4 f6 f9,W g0 g1 g2]) 5 J J agg35.out J)) ?_;rintro _ _ ⟨rfl,rfl⟩;refine nC (cS [0,2,6] 7) ?_;obtain ⟨c7,k,h⟩:=aa h;refine zD 6 J (dM (I2 k) J (bP [3,4,6] [1] [0,2,3,4,5,6] 7 J)) ?_;rintro _ _ ⟨_,⟨g4,g5,g6,g7,g8,g9,rfl,rfl⟩,rfl⟩;refine ⟨[aX g4 g5 g6 c7.1.Zk,ux g7 g8 g9 c7.1.Zm,iI xX (W A2 n2 c2) a1,ah c9 28 [iV y16_1.2.1.Za,iV y16_1.2.1.N,.string y16_1.2.1.S],ug],cS [0,1,3,4,8] 9,(cv_tl).trans (cv_tl),?_⟩;refine bv ?_;refine zE 7 J (aq J) ?_;refine zE 8 J (dW J J) ?_;refine zE 9 J (dW J J) ?_;refine zO 10 J (am (us:=(lm c7.1 g4 g5 g6 g7 g8 g9)) (cs':=(lm c7.1 g4 g5 g6 g7 g8 g9)) 7 J J J J size35.out J J J) ?_;rintro _ _ rfl;refine nC (cS [0,1,3,4,8] 9) ?_;refine bv ?_;refine bn O<|Y ?_;obtain ⟨k0,h⟩:=ae h;refine gE (iN J J k0.1 k0.2)<|Y ?_
   exact ⟨k8,_,_,WZ _,⟨f0+1,c7.2.2,c7.1.Ext,c7.1.Zs,c7.1.Zk,c7.1.Zm,g4,g5,g6,g7,g8,g9,h,J,J⟩,sA,cS [3,2,4,0,1,7,8] 9⟩
  refine Y ?_;exact ⟨_,_,⟨f1,h,J,J⟩,sA,cS [1,2,6] 7⟩
 rintro _ _ ⟨e0,h,rfl,rfl⟩;refine Y ?_;obtain ⟨m4,k,h⟩:=aa h;refine gV (aJ (qK k) J (t5 (uU (i:=0) J) aw) vH) ?_;obtain ⟨k1,h⟩:=ae h;refine gE (wP J J k1.1 k1.2) ?_;obtain ⟨b5,k,h⟩:=aa h;refine gV (aJ (sx k) J (t5 (uU (i:=0) J) aw) xw)<|gW (am (us:=[iV b5.Za,iV b5.N,.string b5.S]) (cs':=[iV b5.Za,iV b5.N,.string b5.S]) 1 J J J J size28.out J J J)<|mq ?_;refine Y ?_;refine ao (fun s L=> ∃j1,tD N j1=some r/\s=[(4,.bool false),(13,.bool j1)]/\L=[ug]) ?_ ?_
 ·refine Y ?_;refine gR (aC (us:=[iV b5.Za,iV b5.N,.string b5.S]) 1 J J agg28.out J) ?_;obtain ⟨j2,k,h⟩:=aa h;refine gD (aJ (vy k) J (t5 (uU (i:=0) J) (t5 (dN (i:=2) J J) aw)) sq) ?_;rintro _ _ ⟨_,⟨k2,k3,k4,rfl,rfl⟩,rfl⟩;refine gR (lO 0 J ap J EM)<|Y ?_;refine kq (fun m s L=> ∃j3 j4 h0 h3,lu N j2 e0 b5 m j3 j4 h0 h3=some r/\s=[(4,.bool false),(6,pV d3 0),(7,pV c9 0),(11,iV j3),(12,iV j4),(13,.bool h0),(78,W k2 k3 k4),(79,iV (j2.length:Int)),(80,iV h3)]/\L=[nZ k2 k3 k4 j2,oDWorld d3 h8 h9 e0,ah c9 28 [iV b5.Za,iV b5.N,.string b5.S],ug]) N _ _ ⟨0,(-1),false,0,h,J,J⟩ sA (cS [0,1,2,3] 4) ?_;rintro (_|l1) _ _ ⟨j3,j4,h0,h3,h,rfl,rfl⟩
  ·exact aU h
  rw [lu.eq_2] at h;refine Y ?_;refine aA<|gH J h (fun h=> ?_) (fun h=> ?_)
  ·refine Y ?_;refine aA<|Y ?_;obtain ⟨a7,d2,h⟩:=aa h;obtain ⟨j5,j6,d2⟩:=kY d2
   refine gR (cT 0 J ap J J EM size39.out j5 j6)<|gR (eU (us:=[iV a7.Za,iV a7.N,.string a7.S]) 0 J ap J d2 agg39.out (fun _ _ _ h=>by rw [show _=_ from h];rfl))<|gB (bJ zero39.out J) fun m5=>gW (am (us:=[iV a7.Za,iV a7.N,.string a7.S]) (cs':=[iV a7.Za,iV a7.N,.string a7.S]) 0 J J J J size39.out J J J)<|mq ?_
   refine Y ?_;refine aA<|aA<|ba O _ (ad _)<|zE 0 J (nu J Cm) ?_;refine zR 1 J (bM 0 J J rR J) ?_;refine zE 2 J (aq J) ?_;refine zE 3 J (Sw J J) ?_;refine zE 4 J (aq J) ?_;obtain ⟨l2,e2,h⟩:=aa h;refine qz (fun l=>((((((((((((((((((l.setIfInBounds 5 true).setIfInBounds 6 true).setIfInBounds 7 true).setIfInBounds 8 true).setIfInBounds 9 true).setIfInBounds 10 true).setIfInBounds 11 true).setIfInBounds 12 true).setIfInBounds 13 true).setIfInBounds 14 true).setIfInBounds 15 true).setIfInBounds 16 true).setIfInBounds 17 true).setIfInBounds 18 true).setIfInBounds 19 true).setIfInBounds 20 true).setIfInBounds 21 true).setIfInBounds 22 true)) 14 106 l2 (fun rest=> ?_) ?_
   ·clear h;refine tq 88 J (fun b6=> ?_) (fun b6=> ?_)
    ·have h:=cN b6 e2;refine dG 5 J O (uj b6 J) J<|dG 6 J O (uj b6 J) J<|dG 7 J O (uj b6 J) J<|dG 8 J O (uj b6 J) J<|zU 9 J ?_;refine zU 10 J ?_;refine zU 11 J ?_;refine zU 12 J ?_;refine zU 13 J ?_;refine zU 14 J ?_;refine zU 15 J ?_;refine zU 16 J ?_;refine zU 17 J ?_;refine zU 18 J ?_;refine zU 19 J ?_;refine zU 20 J ?_;refine dG 21 J O (uj b6 J) J<|zE 22 J (eP b6 J J) ?_;obtain rfl:=bF h;exact ll rest (fj J (aj (aj (aj (aj (aj (aj (aj (aj (aj (aj (aj (aj (aj (aj (aj (aj (aj (aj bw J) J) J) J) J) J) J) J) J) J) J) J) J) J) J) J) J) J)) (ad _) (ad _)
    have h:=cO b6 e2;refine dH 5 J O (nu J Cm) (cL b6 J) J<|r7 6 J O (bM 0 J J rR J) (cL b6 J) J<|dH 7 J O (Ms J J) (cL b6 J) J<|dH 8 J O (aq J) (cL b6 J) J ?_;obtain ⟨l3,e3,h⟩:=aa h;refine qz (fun l=>(((((((((((((l.setIfInBounds 9 true).setIfInBounds 10 true).setIfInBounds 11 true).setIfInBounds 12 true).setIfInBounds 13 true).setIfInBounds 14 true).setIfInBounds 15 true).setIfInBounds 16 true).setIfInBounds 17 true).setIfInBounds 18 true).setIfInBounds 19 true).setIfInBounds 20 true).setIfInBounds 21 true)) 15 105 l3 (fun rest=> ?_) ?_
    ·clear h;refine tq 92 J (fun a8=> ?_) (fun a8=> ?_)
     ·have h:=cN a8 e3;refine dH 9 J O (jD J zo) (bW a8 J) J<|r7 10 J O (bM 0 J J rR J) (bW a8 J) J<|dH 11 J O (aq J) (bW a8 J) J<|dH 12 J O (Sx J J) (bW a8 J) J<|dH 13 J O (aq J) (bW a8 J) J ?_;obtain ⟨l4,e4,h⟩:=aa h;refine qz (fun l=>(((((((l.setIfInBounds 14 true).setIfInBounds 15 true).setIfInBounds 16 true).setIfInBounds 17 true).setIfInBounds 18 true).setIfInBounds 19 true).setIfInBounds 20 true)) 16 104 l4 (fun rest=> ?_) ?_
      ·clear h;refine tq 97 J (fun b0=> ?_) (fun b0=> ?_)
       ·have h:=cN b0 e4;refine dG 14 J O (uj b0 J) J<|dG 15 J O (uj b0 J) J<|dG 16 J O (uj b0 J) J<|dG 17 J O (uj b0 J) J<|dG 18 J O (uj b0 J) J<|dG 19 J O (uj b0 J) J<|dH 20 J O (eP b0 J J) (bW a8 J) J ?_;obtain rfl:=bF h;exact ll rest (fj J (aj (aj (aj (aj (aj (aj (aj bw J) J) J) J) J) J) J)) (ad _) (ad _)
       have h:=cO b0 e4;refine dH 14 J O (jD J zo) (cL b0 J) J<|r7 15 J O (bM 0 J J rR J) (cL b0 J) J<|dH 16 J O (aq J) (cL b0 J) J<|r7 17 J O (aC (us:=[iV b5.Za,iV b5.N,.string b5.S]) 3 J J agg28.out J) (cL b0 J) J ?_;obtain ⟨m6,k,h⟩:=aa h;refine ny 18 J O (aJ (wU k) J (t5 (uU (i:=2) J) aw) ut) J (cL b0 J) J ?_;rintro _ _ ⟨_,⟨rfl,rfl⟩,rfl⟩;refine ⟨_,ad _,ad _,?_⟩;refine dH 19 J O (Sy J J) (cL b0 J) J<|dH 20 J O (fE b0 J J) (bW a8 J) J ?_;obtain rfl:=bF h;exact ll rest (fj J (aj (aj (aj (aj (aj (aj (aj bw J) J) J) J) J) J) J)) (ad _) (ad _)
      refine dH 21 J O (eP a8 J J) (cL b6 J) J ?_;obtain rfl:=bF h;exact ll rest (fj J (aj (aj (aj (aj (aj (aj (aj bw J) J) J) J) J) J) J)) (ad _) (ad _)
     have h:=cO a8 e3;refine dG 9 J O (sk a8 J) J<|dG 10 J O (sk a8 J) J<|dG 11 J O (sk a8 J) J<|dG 12 J O (sk a8 J) J<|dG 13 J O (sk a8 J) J<|zU 14 J ?_;refine zU 15 J ?_;refine zU 16 J ?_;refine zU 17 J ?_;refine zU 18 J ?_;refine zU 19 J ?_;refine dG 20 J O (sk a8 J) J<|dH 21 J O (fE a8 J J) (cL b6 J) J ?_;obtain rfl:=bF h;exact ll rest (fj J (aj (aj (aj (aj (aj (aj (aj (aj (aj (aj (aj (aj (aj bw J) J) J) J) J) J) J) J) J) J) J) J) J)) (ad _) (ad _)
    refine zE 22 J (fE b6 J J) ?_;obtain rfl:=bF h;exact ll rest (fj J (aj (aj (aj (aj (aj (aj bw J) J) J) J) J) J)) (ad _) (ad _)
   refine zE 23 J (aq J) ?_;obtain ⟨l5,e5,h⟩:=aa h;refine qz (fun l=>(((((((((((((l.setIfInBounds 24 true).setIfInBounds 25 true).setIfInBounds 26 true).setIfInBounds 27 true).setIfInBounds 28 true).setIfInBounds 29 true).setIfInBounds 30 true).setIfInBounds 31 true).setIfInBounds 32 true).setIfInBounds 33 true).setIfInBounds 34 true).setIfInBounds 35 true).setIfInBounds 36 true)) 0 120 l5 (fun rest=> ?_) ?_
   ·clear h;refine tq 107 J (fun a6=> ?_) (fun a6=> ?_)
    ·have h:=cN a6 e5;refine dG 24 J O (uj a6 J) J<|dG 25 J O (uj a6 J) J<|dG 26 J O (uj a6 J) J<|dG 27 J O (uj a6 J) J<|zU 28 J ?_;refine zU 29 J ?_;refine dG 30 J O (uj a6 J) J<|dG 31 J O (uj a6 J) J<|zU 32 J ?_;refine zU 33 J ?_;refine zU 34 J ?_;refine dG 35 J O (uj a6 J) J<|zE 36 J (eP a6 J J) ?_;obtain rfl:=bF h;exact ll rest (fj J (aj (aj (aj (aj (aj (aj (aj (aj (aj (aj (aj (aj (aj bw J) J) J) J) J) J) J) J) J) J) J) J) J)) (ad _) (ad _)
    have h:=cO a6 e5;refine dH 24 J O (nu J Cm) (cL a6 J) J<|r7 25 J O (bM 0 J J rR J) (cL a6 J) J<|dH 26 J O (Ms J J) (cL a6 J) J<|dH 27 J O (aq J) (cL a6 J) J ?_;obtain ⟨l6,e6,h⟩:=aa h;refine qz (fun l=>(((l.setIfInBounds 28 true).setIfInBounds 29 true).setIfInBounds 30 true)) 6 114 l6 (fun rest=> ?_) ?_
    ·clear h;refine tq 111 J (fun c8=> ?_) (fun c8=> ?_)
     ·have h:=cN c8 e6;refine dH 28 J O (aq J) (bW c8 J) J<|dH 29 J O (Lc J) (bW c8 J) J<|dH 30 J O (eP c8 J J) (cL a6 J) J ?_;obtain rfl:=bF h;exact ll rest (fj J (aj (aj (aj bw J) J) J)) (ad _) (ad _)
     have h:=cO c8 e6;refine dG 28 J O (sk c8 J) J<|dG 29 J O (sk c8 J) J<|dH 30 J O (fE c8 J J) (cL a6 J) J ?_;obtain rfl:=bF h;exact ll rest (fj J (aj (aj (aj bw J) J) J)) (ad _) (ad _)
    refine dH 31 J O (aq J) (cL a6 J) J ?_;obtain ⟨l7,e7,h⟩:=aa h;refine qz (fun l=>((((l.setIfInBounds 32 true).setIfInBounds 33 true).setIfInBounds 34 true).setIfInBounds 35 true)) 1 119 l7 (fun rest=> ?_) ?_
    ·clear h;refine tq 115 J (fun b7=> ?_) (fun b7=> ?_)
     ·have h:=cN b7 e7;refine r7 32 J O (aC (us:=[iV a7.Za,iV a7.N,.string a7.S]) 0 J J agg39.out J) (bW b7 J) J ?_;obtain ⟨l8,k,h⟩:=aa h;refine ny 33 J O (aJ (iT k) J (aw) mh) J (bW b7 J) J ?_;rintro _ _ ⟨_,⟨rfl,rfl⟩,rfl⟩;refine ⟨_,ad _,ad _,?_⟩;refine dH 34 J O (Dh (x:=a7) (y:=l8) J J) (bW b7 J) J<|dH 35 J O (eP b7 J J) (cL a6 J) J ?_;obtain rfl:=bF h;exact ll rest (fj J (aj (aj (aj (aj bw J) J) J) J)) (ad _) (ad _)
     have h:=cO b7 e7;refine dG 32 J O (sk b7 J) J<|dG 33 J O (sk b7 J) J<|dG 34 J O (sk b7 J) J<|dH 35 J O (fE b7 J J) (cL a6 J) J ?_;obtain rfl:=bF h;exact ll rest (fj J (aj (aj (aj (aj bw J) J) J) J)) (ad _) (ad _)
    refine zE 36 J (fE a6 J J) ?_;obtain rfl:=bF h;exact ll rest (fj J (aj (aj (aj (aj (aj (aj (aj (aj bw J) J) J) J) J) J) J) J)) (ad _) (ad _)
   refine bn O<|qF<|gH J h (fun h=> ?_) (fun h=> ?_)
   ·refine Y ?_;obtain rfl:=bF h;exact pI J J (cS [] 5) ⟨J,J⟩
   refine Y ?_;refine aA<|ba O _ (ad _)<|zE 0 J (aq J) ?_;refine zE 1 J (aq J) ?_;obtain ⟨k5,e8,h⟩:=aa h;refine qz (fun l=>((((l.setIfInBounds 2 true).setIfInBounds 3 true).setIfInBounds 4 true).setIfInBounds 5 true)) 1 126 k5 (fun rest=> ?_) ?_
   ·clear h;refine tq 122 J (fun b9=> ?_) (fun b9=> ?_)
    ·have h:=cN b9 e8;refine dG 2 J O (uj b9 J) J<|dG 3 J O (uj b9 J) J<|dG 4 J O (uj b9 J) J<|zE 5 J (eP b9 J J) ?_;obtain rfl:=bF h;exact ll rest (fj J (aj (aj (aj (aj bw J) J) J) J)) (ad _) (ad _)
    have h:=cO b9 e8;refine r7 2 J O (aC (us:=[iV a7.Za,iV a7.N,.string a7.S]) 0 J J agg39.out J) (cL b9 J) J ?_;obtain ⟨l9,k,h⟩:=aa h;refine ny 3 J O (aJ (iT k) J (aw) mh) J (cL b9 J) J ?_;rintro _ _ ⟨_,⟨rfl,rfl⟩,rfl⟩;refine ⟨_,ad _,ad _,?_⟩;refine dH 4 J O (ul (x:=a7) (y:=l9) J J) (cL b9 J) J<|zE 5 J (fE b9 J J) ?_;obtain rfl:=bF h;exact ll rest (fj J (aj (aj (aj (aj bw J) J) J) J)) (ad _) (ad _)
   refine zE 6 J (ci J) ?_;refine bn O<|qF<|ba O _ (ad _)<|zE 0 J (nu J Cm) ?_;refine zR 1 J (bM 0 J J rR J) ?_;refine zE 2 J (jD J zo) ?_;refine zR 3 J (bM 0 J J rR J) ?_;refine zE 4 J (ci J) ?_;refine zE 5 J (ci J) ?_;refine bn O<|Y ?_;obtain ⟨k6,h⟩:=ae h;refine gE (iN J J k6.1 k6.2)<|Y ?_;exact ⟨l1,_,_,WZ _,⟨a7.Za,a7.N,k5,h3+1,h,J,J⟩,sA,cS [1,2,3,4] 5⟩
  refine Y ?_;exact ⟨_,_,⟨h0,h,J,J⟩,sA,cS [3] 4⟩
 rintro _ _ ⟨j1,h,rfl,rfl⟩;refine Y ?_;obtain ⟨m0,e9,h⟩:=aa h;refine il 2 135 m0 ?_ ?_
 ·clear h;refine fX 133 J (fun h4=> ?_) (fun h4=> ?_)
  ·have h:=cN h4 e9;obtain ⟨m7,k,h⟩:=aa h;refine gU (aJ (xC k) J (t5 (dN (i:=0) J J) aw) vg) (bW h4 J)<|Y ?_;obtain rfl:=bF h;exact bA sA (cS [0] 1)
  have h:=cO h4 e9;refine Y ?_;obtain rfl:=bF h;exact bA sA (cS [0] 1)
 refine Y ?_;obtain rfl:=bF h;exact pI J J (cS [] 1) ⟨J,J⟩
end
section
open Go.RowKit
set_option maxRecDepth 20000
theorem rX: ∀(j:Nat) (m:List WK) (k:WP),k∈dP j m-> ∃n:Nat,k=jI (n:Int)/\j<=n/\ ∃x,m[n - j]? =some x/\x≠cB
 |_,[],k,h=>by cases h
 | j,x::m,k,h=>by
  unfold dP at h
  have tail:k∈dP (j+1) m-> ∃n:Nat,k=jI (n:Int)/\j<=n/\ ∃y,(x::m)[n - j]? =some y/\y≠cB:=fun h=>by
   obtain ⟨n,h1,h2,y,h3,h4⟩:=rX (j+1) m k h;refine ⟨n,h1,by omega,y,?_,h4⟩;rw [show n - j=(n - (j+1))+1 by omega,XI];exact h3
  cases e:decide (x=cB) with
  |true=>rw [e,ct] at h;exact tail h
  |false=>
   rw [e,cf] at h;rcases X7.1 h with h|h
   ·exact ⟨j,h,YA _,x,by rw [YF];rfl,YT e⟩
   exact tail h
theorem yz: ∀(j:Nat) (m:List WK),(dP j m).Nodup
 |_,[]=>List.nodup_nil
 | j,x::m=>by
  unfold dP
  cases e:decide (x=cB) with
  |true=>rw [ct];exact yz (j+1) m
  |false=>
   rw [cf];refine Yi.2 ⟨fun h=> ?_,yz (j+1) m⟩;obtain ⟨n,h1,h2, -⟩:=rX (j+1) m _ h;have:(j:Int)=(n:Int):=congrArg WP.N h1;omega
theorem Pe (h:Wf d):(vU d).Nodup:=by
 unfold vU;rw [Yh];refine ⟨?_,h.nd,fun a ha b hb e=> ?_⟩
 ·rw [Yh];refine ⟨yz _ _,by simp,fun a ha b hb e=> ?_⟩;rw [Yg.1 hb] at e;obtain ⟨n,h1, -⟩:=rX _ _ _ ha;rw [h1] at e;have:(0:Int)=1:=congrArg WP.Za e;omega
 subst e;obtain ⟨p,hp,rfl⟩:=Yb.1 hb;rcases X6.1 ha with ha|ha
 ·obtain ⟨n,h1, -,x,h2,h3⟩:=rX _ _ _ ha;obtain ⟨g1,g2,g3⟩:=h.idx p hp (by rw [h1];rfl)
  have hn:p.Zg.N.toNat=n:=by rw [h1];exact Xm n
  rw [hn] at g3;rw [Nat.sub_zero,g3] at h2;exact h3 (YL h2).symm
 exact h.len p hp (Yg.1 ha)
theorem NM (h:Wf d){k:WP}(hk:k∈vU d)(h0:k.Za=0):k=jI k.N/\0<=k.N/\k.N<d.Zk.length:=by
 rcases X6.1 hk with hk|hk
 ·rcases X6.1 hk with hk|hk
  ·obtain ⟨n,rfl, -,x,h2, -⟩:=rX _ _ _ hk;have:=(XN.1 h2).1;refine ⟨J,by show (0:Int)<=(n:Int);omega,by show (n:Int)<_;omega⟩
  rw [Yg.1 hk] at h0;cases h0
 obtain ⟨p,hp,rfl⟩:=Yb.1 hk;obtain ⟨g1,g2,g3⟩:=h.idx p hp h0;have:=(XN.1 g3).1;exact ⟨g1,g2,by omega⟩
theorem JB (hl:d.Zk.length<=5000): ∃t,(vU d).filter (fun x=>decide (rk x=8589934592))=lenK::t:=by
 unfold vU;refine ⟨(d.Zm.map (·.Zg)).filter (fun x=>decide (rk x=8589934592)),?_⟩;rw [XA,XA,show (dP 0 d.Zk).filter (fun x=>decide (rk x=8589934592))=[] from ?_]
 ·rfl
 refine Cl fun k hk=> ?_
 obtain ⟨n,rfl,h2⟩:=td _ _ _ hk;have:rk (jI (n:Int))=(n:Int):=rfl;omega
def R8 (ks:List WP)(w:WH)(v:WK)(m:Nat)(kd n:Int)(seen:Bool)(j:Int):Option Bool:=lu N ks w v m kd n seen j
theorem R7 (N:Nat)(ks:List WP)(w:WH)(v:WK)(m:Nat)(kd n:Int)(seen:Bool)(j:Int):R8 N ks w v (m+1) kd n seen j=bif decide (j<(ks.length:Int)) then ((au ks j).bind fun x=>(bif decide (x.Za<kd) then (some true) else ((bif decide (x.Za=0) then ((bif decide (x.N<=n) then (some true) else ((km N w v).bind fun a6=>some (decide (a6<=x.N)))).bind fun a7=>some a7) else (some false)).bind fun a8=>some a8)).bind fun b0=>(bif b0 then (some true) else ((bif decide (x.Za=1) then (some (!seen)) else (some false)).bind fun b5=>(bif b5 then ((bN N).bind fun b6=>some (!decide (x=b6))) else (some false)).bind fun b7=>some b7)).bind fun b9=>bif b9 then (some false) else ((bif seen then (some true) else ((bN N).bind fun c7=>some (decide (x=c7)))).bind fun c8=>aG (in64 (j+1)) (R8 N ks w v m x.Za x.N c8 (j+1)))) else ((bif seen then ((pe N).bind fun c9=>some c9) else (some false)).bind fun d0=>some d0):=rfl
theorem Md {x y:WP}(h:rk x<=rk y)(hx:RKey x)(hy:RKey y):x.Za<=y.Za:=by
 have h1:=hx.kd;have h2:=hy.kd;have h3:=hx.n;have h4:=hy.n;unfold rk at h;by_cases e1:x.Za=0
 ·omega
 rw [if_neg e1] at h;by_cases e2:y.Za=0
 ·rw [if_pos e2] at h;have:=h4 e2;omega
 rw [if_neg e2] at h;omega
theorem G4 {N:Nat}(hN:20000<=N){ks:List WP}{w:WH}{v:WK}{len:Nat}(hlen:km N w v=some (len:Int))(hl:ks.length<=6000)(so:SoK ks)(nd:ks.Nodup)(hR:∀k∈ks,RKey k)(hi:∀k∈ks,k.Za=0->k=jI k.N/\0<=k.N/\k.N<len)(hf:∃t,ks.filter (fun x=>decide (rk x=8589934592))=lenK::t): ∀(m:Nat) (K1 K2:List WP) (kd n:Int) (seen:Bool),K2.length<m->ks=K1++K2->(∀x∈K2,kd<=x.Za)->(∀x∈K2,x.Za=0->n<x.N)->(seen=true↔lenK∈K1)->Sat (R8 N ks w v m kd n seen (K1.length:Int)) (· =true)
 |0,K1,K2,kd,n,seen,h,_,_,_,_=>by omega
 | m +1,K1,K2,kd,n,seen,h,e,hA,hB,hC=>by
  have eL:bN N=some lenK:=rfl;have hll:=congrArg List.length e;rw [YW] at hll;obtain ⟨t,ht⟩:=hf
  have hm:lenK∈ks:=by
   have:lenK∈ks.filter (fun x=>decide (rk x=8589934592)):=by rw [ht];exact X9 ..
   exact (Ya.1 this).1
  rw [R7]
  cases K2 with
  |nil=>
   rw [XY] at hll
   refine az (fun h=>by omega) fun _=> ?_
   rw [Xp] at e;have hs:seen=true:=hC.2 (by rw [<-e];exact hm);rw [hs,ct,K6 hN,bs,bs];exact ac J
  | cons x K2=>
   rw [XV] at hll h
   have hx:x∈ks:=by rw [e];simp
   have so':=so;rw [e] at so';obtain ⟨s1, -⟩:=Yj.1 so'.parts.2.1;have nd':=nd;rw [e,Yh] at nd';obtain ⟨-,n2,n3⟩:=nd';obtain ⟨n4, -⟩:=Yi.1 n2
   refine az (fun _=> ?_) fun h=>by omega
   have e1:((K1.length:Int)+1)=(((K1++ [x]).length:Nat):Int):=by simp
   refine fw e J ?_
   have b1:(bif decide (x.Za<kd) then (some true) else ((bif decide (x.Za=0) then ((bif decide (x.N<=n) then (some true) else ((km N w v).bind fun a6=>some (decide (a6<=x.N)))).bind fun a7=>some a7) else (some false)).bind fun a8=>some a8))=some false:=by
    rw [WY (show¬x.Za<kd by have:=hA x (by simp);omega),cf];by_cases h0:x.Za=0
    ·have h1:=hB x (by simp) h0;have h2:=(hi x hx h0).2.2;rw [WX h0,ct,WY (show¬x.N<=n by omega),cf,hlen,bs,bs,bs,WY (show¬(len:Int)<=x.N by omega)]
    rw [WY h0,cf,bs]
   rw [b1,bs,cf]
   have key:x.Za=1->seen=false->x=lenK:=fun k1 hs=>by
    have hno: ∀y∈K1,rk y≠8589934592:=fun y hy hr=>by
     have h2:K1.filter (fun x=>decide (rk x=8589934592))≠[]:=fun h=>by
      have:=List.filter_eq_nil_iff.1 h y hy;simp [hr] at this
     rw [e,XA] at ht;obtain ⟨z,zs,hz⟩:=List.exists_cons_of_ne_nil h2;rw [hz,Xs] at ht;have hzl:=(Xq ht).1;have hz1:z∈K1:=(Ya.1 (show z∈K1.filter (fun x=>decide (rk x=8589934592)) by rw [hz];simp)).1;rw [hzl] at hz1;rw [hC.2 hz1] at hs;cases hs
    rw [e,XA,Cl hno,Y3,List.filter_cons_of_pos (by rw [TR k1];rfl)] at ht;exact (Xq ht).1
   have b2:(bif decide (x.Za=1) then (some (!seen)) else (some false)).bind (fun b0=>(bif b0 then ((bN N).bind fun b5=>some (!decide (x=b5))) else (some false)).bind fun b6=>some b6)=some false:=by
    by_cases k1:x.Za=1
    ·rw [WX k1,ct,bs]
     cases hs:seen with
     |true=>rw [nt,cf,bs]
     |false=>rw [nf,ct,eL,bs,bs,WX (key k1 hs),nt]
    rw [WY k1,cf,bs,cf,bs]
   rw [b2,bs,cf]
   refine cl (P:=fun b=>b=true↔lenK∈K1++ [x]) (fun hs=>ac ⟨fun _=>W2 _ (hC.1 hs),fun _=>J⟩) (fun hs=>by
    rw [eL,bs];refine ac ?_;rw [decide_eq_true_iff];refine ⟨fun h=>by rw [h];simp,fun h=> ?_⟩;rcases X6.1 h with h|h
    ·rw [hC.2 h] at hs;cases hs
    ·exact (Yg.1 h).symm) fun b hb=> ?_
   refine av (by constructor<;>omega) ?_;rw [e1];refine G4 hN hlen hl so nd hR hi ⟨t,ht⟩ m (K1++ [x]) K2 x.Za x.N b I (by rw [e];simp) (fun y hy=>Md (s1 y hy) (hR x hx) (hR y (by rw [e];simp [hy]))) (fun y hy h0=> ?_) hb
   have hy':y∈ks:=by rw [e];simp [hy]
   have hle:=s1 y hy;have hk:=Md hle (hR x hx) (hR y hy')
   have b7:x.Za=0:=by have:=(hR x hx).kd;omega
   unfold rk at hle;rw [if_pos b7,if_pos h0] at hle
   have hne:x.N≠y.N:=fun en=>n4 (by rw [(hi x hx b7).1,en, <-(hi y hy' h0).1];exact hy)
   omega
end
section
open Go.RowKit
set_option maxRecDepth 20000
def VC (a1:List WE)(y:WH×WK×Bool)(m:Nat)(j:Int)(w:WH)(d:WL):Option Bool:=lw N a1 y m j w d.Ext d.Zs d.Zk d.Zm
theorem TN (N:Nat)(a1:List WE)(y:WH×WK×Bool)(m:Nat)(j:Int)(w:WH)(d:WL):VC N a1 y (m+1) j w d=(bif decide (j<(a1.length:Int)) then (some (decide (j<40))) else (some false)).bind fun a8=>bif a8 then ((au a1 j).bind fun b0=>(tC N w d b0).bind fun r=>aG (in64 (j+1)) (VC N a1 y m (j+1) r.2.2 r.1)) else ((dz N w).bind fun a6=>aG (in64 (a6 - 1)) ((gt N w (a6 - 1)).bind fun a7=>(ko N w a7).bind fun b5=>R8 N b5 w a7 N 0 (-1) false 0)):=rfl
theorem Ft {N:Nat}(hN:20000<=N)(a1:List WE)(z:WH×WK×Bool)(hok:∀jj x,jj<40->a1[jj]? =some x->ActOk x): ∀(m j:Nat) (w:WH) (d:WL),40<m+j->j<=40->d.Zk.length<=2101+j->d.Zm.length<=j->Sta N (52+8*j) (1+1024*1000*j) w d->Sat (VC N a1 z m (j:Int) w d) (· =true)
 |0,j,w,d,h,h2,_,_,_=>by omega
 | m+1,j,w,d,h,h2,hE,hP,hS=>by
  rw [TN]
  refine cl (P:=fun b=>b=true↔((j:Int)<(a1.length:Int)/\(j:Int)<40)) (fun e=>ac ⟨fun e2=>⟨YU e,YU e2⟩,fun h=>WX h.2⟩) (fun e=>ac ⟨fun h=>(by cases h),fun h=>absurd h.1 (YT e)⟩) fun c hc=>dx (fun e2=> ?_) fun e2=> ?_
  ·obtain ⟨h4,h5⟩:=hc.1 e2
   refine pW I fun x hx=> ?_
   refine (Ty hN I I I I hS (hok j x I hx)).bind fun r hr=> ?_
   obtain ⟨-,r2,r3,r4⟩:=hr;refine av (by constructor<;>omega) ?_
   have:=Ft hN a1 z hok m (j+1) r.2.2 r.1 I I I I (by
    rw [show 52+8*(j+1)=52+8*j+8 by omega,show 1+1024*1000*(j+1)=1+1024*1000*j+1024*1000 by omega]
    exact r4)
   exact this
  obtain ⟨i,R,c,h1,h2,s,e1,e2⟩:=hS.at_
  have hM:d.Zk.length<=2200:=by omega
  have hk:52+8*j<=580:=by omega
  obtain ⟨ks,k1, -,k3,k4⟩:=Tm hN (v:=⟨7,i,⟨#[]⟩⟩) rfl rfl hk hM s
  have hkl:ks.length<=3300:=by rw [k4.len];exact Hk hN hM s
  rw [e1,bs,cF (by constructor<;>omega),e2,bs,k1,bs];have hr:=DO hN hM s
  have hkR: ∀k∈ks,RKey k:=fun k hk=>(hr k (k4.mem.1 hk)).rk I
  refine G4 hN (TH J J hk hM s) I k3 (k4.perm.nodup_iff.2 (Pe s.wf)) hkR (fun k hk h0=>NM s.wf (k4.mem.1 hk) h0) (by rw [k4];exact JB I) N [] ks 0 (-1) false I J (fun x hx=>(hkR x hx).kd.1) (fun x hx h0=> ?_) ⟨fun h=>(by cases h),fun h=>(by cases h)⟩;have:=(hkR x hx).n h0;omega
theorem BK {N:Nat}(hN:20000<=N)(a0:List WK)(h64:∀x∈a0,in64 x.N)(a1:List WE)(hl:a0.length<=200)(hok:∀jj x,jj<40->a1[jj]? =some x->ActOk x): ∀(m j:Nat),a0.length<m+j->j<=a0.length->(∀jj x,jj<j->a0[jj]? =some x->PrimB x)->Sat (mJ N a0 a1 m (j:Int)) (· =true)
 |0,j,h,h2,_=>by omega
 | m +1,j,h,h2,hk=>by
  rw [mJ.eq_2]
  refine az (fun h4=> ?_) fun h4=> ?_
  ·refine pW I fun x hx=>(Fh N x).bind fun b hb=>dx (fun _=> ?_) fun e=> ?_
   ·rw [K6 hN,bs];exact ac J
   refine av (by constructor<;>omega) ?_
   have:=BK hN a0 h64 a1 hl hok m (j+1) I I fun jj y hj hy=>by
    by_cases e2:jj=j
    ·subst e2;rw [hx] at hy;cases hy;exact hb (Hd e)
    exact hk jj y I hy
   exact this
  have hp: ∀x∈a0,PrimB x/\in64 x.N:=fun x hx=>by
   obtain ⟨jj,hj,e⟩:=XU hx;exact ⟨hk jj x I (by rw [XL hj,e]),h64 x hx⟩
  obtain ⟨w,v,e1,r,e2,hS⟩:=Tg hN hl hp
  have eN:zd N a0=some ⟨true,false,a0,[]⟩:=by
   unfold zd;rw [rF (by rw [XY];omega),Y3]
  unfold pQ;rw [e1,bs];show Sat (bif !true then some false else _) _;rw [nt,cf];show Sat (Option.bind (gq N w v) _) _;rw [e2,bs,eN,bs];have:=Ft hN a1 (w,v,true) hok N 0 r.2 ⟨true,false,a0,[]⟩ I I (by show a0.length<=_;omega) (YA _) hS;exact this
theorem Ns {N:Nat}(hN:20000<=N)(a0:List WK)(a1:List WE)(h0:∀x∈a0,in64 x.N)(h1:∀a∈a1,A64 a):nA N a0 a1=some true:=by
 apply Sat.eq;unfold nA
 refine cl (P:=fun b=>b=false->a0.length<=200/\ ∀jj x,jj<40->a1[jj]? =some x->ActOk x) (fun _=>ac fun h=>by cases h) (fun e=> ?_) fun b hb=>dx (fun _=> ?_) fun e=> ?_
 ·unfold Ai
  refine (Hs (N:=N) a1 h1 N 0 I I fun jj x h=>by omega).bind fun y hy=>ac fun h=>⟨by have:=YT e;omega,hy (Hd h)⟩
 ·rw [K6 hN,bs];exact ac J
 obtain ⟨hl,hok⟩:=hb e
 exact BK hN a0 h0 a1 hl hok N 0 I I fun jj x h=>by omega
end
section
open Go.RowKit
theorem Nt {a0:List WK}(h0:UJ (fun z=>qO z) a0)(h1:UJ (fun z=>HV z) a1):nA 20000 a0 a1=some true:=
 Ns (by decide) a0 a1 (fun x hx=>(h0.2 x hx).2.1) fun a ha=>by
  have h:=h1.2 a ha;exact ⟨h.2.2.2.2.2.1,h.2.2.2.1.1,h.2.2.2.1.2.1,h.2.2.2.1.2.2.1.2.1⟩
end
section
variable {c1 c2:Nat}
open Go.ChangeShapes Go.WideShapes Go.ChangeAt Go.RowKit Go.Deep
theorem gHole:Tryz.prog.globalNamed "pantomime/array.hole" =some 0:=by kernel_rfl
theorem tHole:(Tryz.prog.globals[0]?).map (·.type)=some 28:=by kernel_rfl
set_option maxRecDepth 100000 in
theorem NQ {hJ:World}(h:laidMetH W8 [("pantomime/array.hole",Rows.laid_pantomime_array_hole)] hJ):(aQ 0 28 [.int .i64 8,.int .i64 0,.string ⟨#[]⟩]).ok (fun _=>False) (fun q=>q<hJ.heap.size) hJ:=by
 rw [MakeChecks.laidMetH_plain _ _ _ O] at h;obtain ⟨ps,⟨g0,t0,cs0,f0,p0,q0,hg0,ht0,hv0,hd0, -⟩, -, -⟩:=h;obtain rfl:=YL (gHole.symm.trans hg0);obtain rfl:=YL (tHole.symm.trans ht0);obtain ⟨xs,m,rfl,hx,hl,hn,hf⟩:=DataW.trod_struct Wx hd0
 have hc:Tryz.prog.cellsOf 28=3:=by kernel_rfl
 have z3:Tryz.prog.cellsOf 3=1:=by kernel_rfl
 have z9:Tryz.prog.cellsOf 9=1:=by kernel_rfl
 rw [hc] at hl;obtain ⟨l⟩:=cs0;have hn':xs.length=3:=hn
 match l,xs,hl,hn',hf,hv0,hx with
 | [c0,c1,c2],[x0,x1,x2],_,_,hf,hv0,hx=>
  have k0:DataW.trod (fun _=>()) W8 hJ 0 (fun _=>true) false m 3 (List.take (Tryz.prog.cellsOf 3) (List.drop 0 [c0,c1,c2]))=[x0,x1,x2][0]? :=hf 0 _ rfl;have k1:DataW.trod (fun _=>()) W8 hJ 0 (fun _=>true) false m 3 (List.take (Tryz.prog.cellsOf 3) (List.drop 1 [c0,c1,c2]))=[x0,x1,x2][1]? :=hf 1 _ rfl;have k2:DataW.trod (fun _=>()) W8 hJ 0 (fun _=>true) false m 9 (List.take (Tryz.prog.cellsOf 9) (List.drop 2 [c0,c1,c2]))=[x0,x1,x2][2]? :=hf 2 _ rfl;simp only [z3,z9,Xw,Xx,Yr,Ys,XJ,XI] at k0 k1 k2;obtain ⟨n0,e0,d0, -⟩:=DataW.trod_int Wo k0;obtain ⟨n1,e1,d1, -⟩:=DataW.trod_int Wo k1;obtain ⟨s2,e2,d2, -⟩:=DataW.trod_string Wm k2
  have hx':[(DataW.lit (.int .i64 8):DataW Unit),.lit (.int .i64 0),.lit (.string [])]=[x0.1,x1.1,x2.1]:=by
   have:=congrArg Prod.fst hx;exact DataW.agg.inj this
  rw [d0,d1,d2] at hx';simp only [Xr,DataW.lit.injEq,Lit.int.injEq,Lit.string.injEq,and_true,true_and] at hx';obtain ⟨rfl,rfl,hs⟩:=hx';obtain rfl:=(Xq e0).1;obtain rfl:=(Xq e1).1;obtain rfl:=(Xq e2).1
  have hs2:s2=⟨#[]⟩:=by
   obtain ⟨⟨a⟩⟩:=s2;simp only at hs;rw [<-hs]
  subst hs2;simp only [World.var?,gHole,YI] at hv0;split at hv0
  ·rename_i cs t p hh
   obtain rfl:=bF hv0;have hr:RBlk hJ 0 #[.int .i64 8,.int .i64 0,.string ⟨#[]⟩]:=⟨t,p,hh⟩;exact ⟨hr.lt,hr⟩
  cases hv0
end
end Go.Proofs.YtmcifcmlojonnaaGreatDoor