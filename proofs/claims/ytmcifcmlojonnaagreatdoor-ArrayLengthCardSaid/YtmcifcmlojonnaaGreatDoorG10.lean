/- Merged texts: part 10. No conditions of their own. -/
import Derived.Test.YtmcifcmlojonnaaGreatDoorG9
import Derived.Test.YtmcifcmlojonnaaGreatDoorG7
import Derived.Test.YtmcifcmlojonnaaGreatDoorG3
import Derived.Test.YtmcifcmlojonnaaGreatDoorG8
import Derived.Test.YtmcifcmlojonnaaGreatDoorG1
import Derived.Test.YtmcifcmlojonnaaGreatDoorG2
import Derived.Test.YtmcifcmlojonnaaGreatDoorRows
import Derived.ProofKit
import Derived.LaidMore
import Derived.OpenShut
import Derived.Stop.Joined
namespace Go.Proofs.YtmcifcmlojonnaaGreatDoor
variable {i:Int}{A1 A2 P S ks l:List WL}{R a0:List WV}{z:Nat}{α ρ:Type}{g:WD}{dd:WG}{c:WI}{key x0:WL}{d d':WO}{x:WV}
section
open Go.RowKit
set_option maxRecDepth 20000
theorem O5 (h:ln x=true):0<=x.Za/\x.Za<=9:=by
 unfold ln dK at h;by_cases h0:x.Za<0
 ·rw [WY h0,ct,bs,ct] at h;cases h
 by_cases h9:9<x.Za
 ·rw [WZ h0,cf,WY h9,bs,ct] at h;cases h
 omega
structure PD (d:WG):Prop where
 r:R25 d
 v:Prim d.Value
 v8:d.Value.Za≠8
 g:d.Zq=v0
 s:d.Zr=v0
def DF (vis loose acc w:Bool):Int:=((bif vis then 2 else 0)+(bif loose then 4 else 0))+(bif acc then 8 else bif w then 1 else 0)
theorem JZ: ∀vis loose acc w:Bool,(0<=DF vis loose acc w/\DF vis loose acc w<=15/\ai .i64 (DF vis loose acc w) 9≠9)/\(ai .i64 (DF vis loose acc w) 8=0↔acc=false)/\sB (DF vis loose acc w) 4=loose/\(DF vis loose acc w=7->acc=false/\loose=true):=by decide+kernel
theorem JU (k:WL)(p:WU)(d:WG): ∃vis loose w,(F7 k p d).Zd=DF vis loose ((sB d.Has 4||sB d.Has 8)||(sB p.Zd 8&& !(sB d.Has 1||sB d.Has 2))) w/\loose=bif sB d.Has 32 then sB d.Zd 4 else sB p.Zd 4:=by
 unfold F7 kK DF;simp only;cases (sB d.Has 4||sB d.Has 8)||(sB p.Zd 8&& !(sB d.Has 1||sB d.Has 2))
 ·refine ⟨bif sB d.Has 16 then sB d.Zd 2 else sB p.Zd 2,_,bif sB p.Zd 8 then sB d.Has 2&&sB d.Zd 1 else bif sB d.Has 2 then sB d.Zd 1 else sB p.Zd 1,?_,J⟩;cases sB p.Zd 8<;>rfl
 exact ⟨bif sB d.Has 16 then sB d.Zd 2 else sB p.Zd 2,_,false,J,J⟩
theorem PU {N:Nat}{k:WL}(hk:keyR N k){p:WU}{d:WG}(hd:PD d)(hv:Prim p.Value)(h8:p.Value.Za≠8)(hg:p.Zq=v0)(hs:p.Zr=v0):PV N (F7 k p d):=by
 obtain ⟨vis,loose,w,ha, -⟩:=JU k p d;obtain ⟨m1,m2, -, -⟩:=JZ vis loose ((sB d.Has 4||sB d.Has 8)||(sB p.Zd 8&& !(sB d.Has 1||sB d.Has 2))) w;have hda:=hd.r.da
 have eg:(F7 k p d).Zq=v0:=by
  show (bif sB d.Has 4 then d.Zq else bif _ then p.Zq else v0)=v0;rw [hd.g,hg]
  cases sB d.Has 4<;>first|rfl|skip
  show (bif _ then v0 else v0)=v0;cases ((sB d.Has 4||sB d.Has 8)||(sB p.Zd 8&& !(sB d.Has 1||sB d.Has 2)))&&sB p.Zd 8<;>simp
 have es:(F7 k p d).Zr=v0:=by
  show (bif sB d.Has 8 then d.Zr else bif _ then p.Zr else v0)=v0;rw [hd.s,hs];cases sB d.Has 8<;>simp
 have ev:(F7 k p d).Value=d.Value\/(F7 k p d).Value=p.Value\/(F7 k p d).Value=v0:=by
  show (bif sB d.Has 1 then d.Value else bif _ then p.Value else v0)=_\/(bif sB d.Has 1 then d.Value else bif _ then p.Value else v0)=_\/(bif sB d.Has 1 then d.Value else bif _ then p.Value else v0)=_;cases sB d.Has 1
  ·cases (!((sB d.Has 4||sB d.Has 8)||(sB p.Zd 8&& !(false||sB d.Has 2)))&& !sB p.Zd 8)
   ·exact .inr (.inr J)
   exact .inr (.inl J)
  exact .inl J
 refine ⟨?_,?_,eg,es,by rw [ha];exact m1,⟨fun _=>⟨eg,es⟩,fun e=> ?_⟩,hk⟩
 ·rcases ev with e|e|e<;>rw [e]
  ·exact hd.v
  ·exact hv
  exact LP
 ·rcases ev with e|e|e<;>rw [e]
  ·exact hd.v8
  ·exact h8
  decide
 rw [ha] at e
 have hacc:((sB d.Has 4||sB d.Has 8)||(sB p.Zd 8&& !(sB d.Has 1||sB d.Has 2)))=true:=by
  cases e2:((sB d.Has 4||sB d.Has 8)||(sB p.Zd 8&& !(sB d.Has 1||sB d.Has 2))) with
  |true=>rfl
  |false=>rw [e2] at e m2;exact absurd (m2.2 J) e
 have h1:sB d.Has 1=false:=by
  cases e1:sB d.Has 1 with
  |false=>rfl
  |true=>
   rw [e1] at hacc hda
   cases e4:(sB d.Has 4||sB d.Has 8) with
   |true=>rw [e4] at hda;cases hda
   |false=>rw [e4] at hacc;simp at hacc
 show (bif sB d.Has 1 then d.Value else bif !((sB d.Has 4||sB d.Has 8)||(sB p.Zd 8&& !(sB d.Has 1||sB d.Has 2)))&& !sB p.Zd 8 then p.Value else v0)=v0;rw [hacc,h1];rfl
theorem MD (N:Nat){k:WL}(hk:keyR N k){p:WU}{d:WG}(hd:PD d)(hb:0<=p.Zd/\p.Zd<=15)(hv:Prim p.Value)(h8:p.Value.Za≠8)(hg:p.Zq=v0)(hs:p.Zr=v0)(has ext:Bool): ∃y,du N p has ext k d=some y/\(y.2=true->PV N y.1/\y.1.Zf=k/\(has=true->sB p.Zd 4=false->sB y.1.Zd 4=false)):=by
 rw [zn N k hb hd.r];have hz:PV N (F7 k zeroP d):=PU hk hd LP (by decide) rfl rfl;have hp:=PU hk hd hv h8 hg hs
 cases has with
 |false=>
  cases ext with
  |false=>exact ⟨_,rfl,fun h=>by cases h⟩
  |true=>exact ⟨_,rfl,fun _=>⟨hz,rfl,fun h=>by cases h⟩⟩
 | true=>
  rw [nt,cf]
  cases h4:sB p.Zd 4 with
  |true=>exact ⟨_,rfl,fun _=>⟨hp,rfl,fun _ h=>by cases h⟩⟩
  | false=>
   rw [nf,ct];have hB:=zk N hd.r hb;obtain ⟨vis,loose,w,ha,hl⟩:=JU k p d;obtain ⟨-, -,m3, -⟩:=JZ vis loose ((sB d.Has 4||sB d.Has 8)||(sB p.Zd 8&& !(sB d.Has 1||sB d.Has 2))) w;obtain ⟨-, -, -, -, -,b6, -, -⟩:=Hm N hB.six
   have hbars: ∃b,ic N p d=some b/\(b=false->(sB d.Has 32&&sB d.Zd 4)=false):=by
    rw [<-Iy N hb hB];unfold pp;rw [hB.says 32 I,bs,hB.da 4 I,bs,DU,bs,P0]
    cases e:(sB d.Has 32&&sB d.Zd 4) with
    |true=>exact ⟨true,rfl,fun h=>by cases h⟩
    | false=>
     rw [cf]
     have: ∃b,ic N p d=some b:=by
      obtain ⟨s1,s2,s4,s8,a6,s32',s3,a7⟩:=Hm N hB.six;unfold ic;simp only [kr,s1,s2,s4,s8,a6,s32',s3,a7,bs,DU];cases (bif bif sB d.Has 32 then !decide (ai .i64 d.Zd 4=0) else false then true else bif sB d.Has 16 then !decide (ai .i64 (Ei .i64 d.Zd p.Zd) 2=0) else false)<;>cases decide (ai .i64 p.Zd 8=0)<;>cases (sB d.Has 4||sB d.Has 8)<;>exact ⟨_,rfl⟩
     obtain ⟨b,hb'⟩:=this;rw [<-Iy N hb hB] at hb';unfold pp at hb';rw [hB.says 32 I,bs,hB.da 4 I,bs,DU,bs,P0,e,cf] at hb';exact ⟨b,hb',fun _=>J⟩
   obtain ⟨b,a8,b0⟩:=hbars;rw [a8,bs]
   cases b with
   |true=>exact ⟨_,rfl,fun h=>by cases h⟩
   |false=>
    refine ⟨_,J,fun _=>⟨hp,J,fun _ _=> ?_⟩⟩;show sB (F7 k p d).Zd 4=false;rw [ha,m3,hl,h4];have:=b0 rfl
    cases b5:sB d.Has 32 with
    |true=>rw [b5] at this;exact this
    |false=>rfl
set_option maxRecDepth 20000
structure OwnOk (p:WU):Prop where
 b:0<=p.Zd/\p.Zd<=15
 v:Prim p.Value
 v8:p.Value.Za≠8
 g:p.Zq=v0
 s:p.Zr=v0
 n:Nrm p
theorem PV.own {N:Nat}{p:WU}(h:PV N p):OwnOk p:=⟨⟨h.a.1,h.a.2.1⟩,h.v,h.v8,h.g,h.s,h.n⟩
theorem Oj:OwnOk zeroP:=⟨⟨Xk _,by show (0:Int)<=15;omega⟩,LP,by decide,rfl,rfl,⟨fun _=>⟨rfl,rfl⟩,fun _=>rfl⟩⟩
theorem Jb {n:Int}(h0:-9007199254740992<=n)(h1:n<=9007199254740992):Prim ⟨3,n,⟨#[]⟩⟩:=by
 refine ⟨?_,?_,J⟩
 ·unfold ln dK;rw [show ((⟨3,n,⟨#[]⟩⟩:WV).S.toList==(⟨#[]⟩:ByteArray).toList)=true from beq_self_eq_true _];show (Option.getD (Option.bind (bif decide (-9007199254740992<=n) then some (decide (n<=9007199254740992)) else some false) _) false)=true;rw [WY h0,WY h1];rfl
 show in64 n;unfold in64;omega
theorem Nrm.of {p:WU}(h1:ai .i64 p.Zd 8=0)(h2:p.Zq=v0)(h3:p.Zr=v0):Nrm p:=⟨fun _=>⟨h2,h3⟩,fun e=>absurd h1 e⟩
theorem QO {N:Nat}{PL:List WU}(hn:(PL.map (·.Zf)).Nodup)(hp:∀p∈PL,PV N p)(key:WL):OwnOk (nc PL key).1:=by
 rcases za hn key with ⟨p,hm, -,e⟩|⟨-,e⟩<;>rw [e]
 ·exact (hp p hm).own
 exact Oj
theorem vR {E:List WV}{k:WL}(h:qS E k=some x):x∈E/\x≠bU/\k=jx k.N/\0<=k.N/\E[k.N.toNat]? =some x:=by
 unfold qS at h;by_cases h1:k=jx k.N
 ·by_cases h2:0<=k.N
  ·rw [WY h1,WY h2,Bool.and_self,cond_true] at h
   cases e:E[k.N.toNat]? with
   |none=>rw [e] at h;cases h
   |some y=>
    rw [e] at h;by_cases h3:y=bU
    ·simp only [WY h3,cond_true] at h;cases h
    simp only [WZ h3,cond_false] at h;obtain rfl:=bD h;exact ⟨Yd e,h3,h1,h2,J⟩
  rw [WZ h2,Xf,cond_false] at h;cases h
 rw [WZ h1,Xg,cond_false] at h;cases h
theorem KA {N:Nat}(hE:d.Zk.length<=2200)(hw:Wf d)(hp:∀p∈d.Zm,PV N p)(hv:∀x∈d.Zk,Prim x)(key:WL):OwnOk (iQ d key).1:=by
 unfold iQ
 cases decide (key=lenK) with
 |true=>
  show OwnOk (vb d);unfold vb;cases d.Zs
  ·exact ⟨⟨by show (0:Int)<=1;omega,by show (1:Int)<=15;omega⟩,Jb I I,by show (3:Int)≠8;decide,rfl,rfl,Nrm.of (by show ai .i64 1 8=0;decide) rfl rfl⟩
  exact ⟨⟨by show (0:Int)<=0;omega,by show (0:Int)<=15;omega⟩,Jb I I,by show (3:Int)≠8;decide,rfl,rfl,Nrm.of (by show ai .i64 0 8=0;decide) rfl rfl⟩
 | false=>
  rw [cond_false]
  cases e:qS d.Zk key with
  |none=>exact QO hw.nd hp key
  |some x=>
   obtain ⟨h1,h2, -⟩:=vR e;have hx:=hv x h1;exact ⟨⟨by show (0:Int)<=7;omega,by show (7:Int)<=15;omega⟩,hx,fun h8=>h2 (G5 hx.may h8),J,J,Nrm.of (by show ai .i64 7 8=0;decide) J J⟩
def QX (p:WU):WG:=bif !decide (ai .i64 p.Zd 8=0) then ⟨60,ai .i64 p.Zd 6,v0,p.Zq,p.Zr⟩ else ⟨51,ai .i64 p.Zd 7,p.Value,v0,v0⟩
theorem SZ: ∀a:_root_.Fin 16,ai .i64 (a.val:Int) 9≠9->(0<=ai .i64 (a.val:Int) 6/\ai .i64 (a.val:Int) 6<=7)/\(0<=ai .i64 (a.val:Int) 7/\ai .i64 (a.val:Int) 7<=7)/\sB (ai .i64 (a.val:Int) 6) 1=false/\
  (ai .i64 (a.val:Int) 8=0->kK (ai .i64 (a.val:Int) 7) 7 true 2+kK (ai .i64 (a.val:Int) 7) 7 true 4+kK (ai .i64 (a.val:Int) 7) 7 true 1=(a.val:Int))/\(ai .i64 (a.val:Int) 8≠0->kK (ai .i64 (a.val:Int) 6) 7 true 2+kK (ai .i64 (a.val:Int) 6) 7 true 4+8=(a.val:Int)):=by decide+kernel
theorem PV.of {N:Nat}{p:WU}(h:PV N p):PD (QX p)/\F7 p.Zf ⟨p.Zf,7,v0,v0,v0⟩ (QX p)=p:=by
 have hf:=SZ ⟨p.Zd.toNat,by have:=h.a.1;have:=h.a.2.1;omega⟩;simp only [Xp h.a.1] at hf;obtain ⟨f1,f2,f3,f4,f5⟩:=hf h.a.2.2;have hk:=O5 h.v.may;by_cases h8:ai .i64 p.Zd 8=0
 ·have e:QX p=⟨51,ai .i64 p.Zd 7,p.Value,v0,v0⟩:=by unfold QX;rw [WY h8];rfl
  rw [e];refine ⟨⟨⟨by show (0:Int)<=51/\(51:Int)<=63;decide,f2,by show ((sB 51 1||sB 51 2)&&(sB 51 4||sB 51 8))=false;decide,by show (_&& !sB 51 2)=false;rw [show sB 51 2=true by decide];simp,by show (_&& !sB 51 16)=false;rw [show sB 51 16=true by decide];simp,by show (_&& !sB 51 32)=false;rw [show sB 51 32=true by decide];simp,(fun h=>absurd h (by show¬sB 51 1=false;decide)),⟨hk.1,?_⟩,⟨fun _=>rfl,fun h=>absurd h (by show¬sB 51 4=true;decide)⟩,⟨fun _=>rfl,fun h=>absurd h (by show¬sB 51 8=true;decide)⟩⟩,h.v,h.v8,J,J⟩,?_⟩
  ·have h1:=h.v8;have h2:=h.v.n9;show p.Value.Za<=7;omega
  have hs:=h.n.d h8;show (⟨p.Zf,kK (ai .i64 p.Zd 7) 7 true 2+kK (ai .i64 p.Zd 7) 7 true 4+kK (ai .i64 p.Zd 7) 7 true 1,p.Value,v0,v0⟩:WU)=p;rw [f4 h8, <-hs.1];have:=hs.1.trans hs.2.symm
  conv=>lhs;arg 5;rw [this]
 have e:QX p=⟨60,ai .i64 p.Zd 6,v0,p.Zq,p.Zr⟩:=by unfold QX;rw [WZ h8];rfl
 rw [e];refine ⟨⟨⟨by show (0:Int)<=60/\(60:Int)<=63;decide,f1,by show ((sB 60 1||sB 60 2)&&(sB 60 4||sB 60 8))=false;decide,by show (sB (ai .i64 p.Zd 6) 1&&_)=false;rw [f3];rfl,by show (_&& !sB 60 16)=false;rw [show sB 60 16=true by decide];simp,by show (_&& !sB 60 32)=false;rw [show sB 60 32=true by decide];simp,(fun _=>rfl),by show (0:Int)<=0/\(0:Int)<=7;decide,⟨fun h=>absurd h (by show¬sB 60 4=false;decide),fun _=> .inl (by show p.Zq.Za=0;rw [h.g];rfl)⟩,⟨fun h=>absurd h (by show¬sB 60 8=false;decide),fun _=> .inl (by show p.Zr.Za=0;rw [h.s];rfl)⟩⟩,LP,by show (0:Int)≠8;decide,h.g,h.s⟩,?_⟩;show (⟨p.Zf,kK (ai .i64 p.Zd 6) 7 true 2+kK (ai .i64 p.Zd 6) 7 true 4+8,v0,p.Zq,p.Zr⟩:WU)=p;rw [f5 h8, <-h.n.a h8]
theorem EW {PL:List WU}(hn:(PL.map (·.Zf)).Nodup){p r:WU}(e:p.Zf=r.Zf):uq (uq PL p) r=uq PL r/\nc (uq PL p) r.Zf=(p,true)/\((uq PL p).map (·.Zf)).Nodup:=by
 rcases yl (PL:=PL) (k:=p.Zf) with ⟨n,u,h1,h2, -⟩|h
 ·have hlt:=(XO.1 h1).1;have h3:(PL.set n p)[n]? =some p:=XR hlt
  have h4:((PL.set n p).map (·.Zf)).Nodup:=by
   have:(PL.set n p).map (·.Zf)=PL.map (·.Zf):=by
    rw [List.map_set];refine AV ?_;rw [XP,h1, <-h2];rfl
   rw [this];exact hn
  rw [yZ hn h1 h2,yZ h4 h3 e,yZ hn h1 (h2.trans e),List.set_set, <-e];exact ⟨J,qg h4 h3,h4⟩
 have h3:(PL++ [p])[PL.length]? =some p:=by rw [XI (YB _),YG];rfl
 have h4:((PL++ [p]).map (·.Zf)).Nodup:=by
  rw [X4];refine Yi.2 ⟨hn,by simp,fun a ha b hb' e'=> ?_⟩;rw [List.map_singleton,Yh] at hb';obtain ⟨u,u1,u2⟩:=Yc.1 ha;exact h u u1 (by rw [u2,e',hb'])
 rw [D3 h,yZ h4 h3 e,D3 (p:=r) (by rw [<-e];exact h), <-e];refine ⟨?_,qg h4 h3,h4⟩;rw [List.set_append_right _ _ (YB _),YG];rfl
section
variable {N:Nat}(hN:20000<=N){v:WV}(hv:v.Za=7)(hvN:v.N=i){k q:Nat}{w:WM}{PL:List WU}
include hN hv hvN
theorem TH (h:Obj N i k q w c PL)(hk:k+8<=580)(hq:q+2048<=1000000000)(hM:c.Zb.length<=2200)(hlen:PL.length<1000){p:WU}(hp:PV N p):Sat (uS N w v p) fun w'=>TV N i (k+8) (q+2048) w c (uq PL p) w':=by
 unfold uS
 have hA7:zC 7:=by unfold zC;decide
 refine (SR hN hv hvN h I I hM hp.k (Qs _) (by decide) (a:=7) (by decide) hA7 I).bind fun r hr=> ?_
 obtain ⟨-,c1,o1,s1,f1⟩:=hr;have en:mU (⟨p.Zf,7,v0,v0,v0⟩:WU)=⟨p.Zf,7,v0,v0,v0⟩:=CL (by show ai .i64 7 8=0;decide);rw [en] at o1
 have eof:zi N p=some (QX p):=by
  unfold zi yo QX;rw [bs];cases decide (ai .i64 p.Zd 8=0)<;>rfl
 rw [eof,bs];obtain ⟨g1,g2,g3⟩:=EW h.nodup (p:=⟨p.Zf,7,v0,v0,v0⟩) (r:=p) rfl;obtain ⟨hd,hch⟩:=hp.of
 have happ:du N (nc (uq PL ⟨p.Zf,7,v0,v0,v0⟩) p.Zf).1 (nc (uq PL ⟨p.Zf,7,v0,v0,v0⟩) p.Zf).2 (Il c1) p.Zf (QX p)=some (p,true):=by
  rw [g2];have:=zn N p.Zf (p:=⟨p.Zf,7,v0,v0,v0⟩) (by show (0:Int)<=7/\(7:Int)<=15;decide) hd.r true (Il c1);rw [this,nt,cf,show sB (⟨p.Zf,7,v0,v0,v0⟩:WU).Zd 4=true by show sB 7 4=true;decide,nt,cf,bs,cf,hch]
 have hl:=EX h ⟨p.Zf,7,v0,v0,v0⟩
 refine (GU hN hv hvN o1 I I (by rw [s1.more];exact hM) hp.k happ (fun _=>⟨hp.w _,J,hp.a⟩) I).bind fun r2 hr2=>ac ?_
 obtain ⟨c2,o2,s2,f2⟩:=hr2.2.2 rfl;rw [hp.norm,g1] at o2;exact ⟨c2,o2.up I I,s1.trans s2,f1.trans f2⟩
end
end
section
open Go.RowKit
set_option maxRecDepth 20000
def Cm (N:Nat)(i:Int)(k q:Nat)(w:WM)(d':WO)(w':WM):Prop:= ∃c',Sim N i k q w' c' d'/\FrW w w'
theorem vy {PL:List WU}{r p:WU}(h:p∈uq PL r):p=r\/p∈PL:=by
 unfold uq at h;split at h
 ·rcases Yf h with h|h
  ·exact .inr h
  exact .inl h
 rcases X7.1 h with h|h
 ·exact .inr h
 exact .inl (Yh.1 h)
theorem LM {PL:List WU}(hn:(PL.map (·.Zf)).Nodup)(p:WU):((uq PL p).map (·.Zf)).Nodup:=(EW hn (p:=p) (r:=p) rfl).2.2
theorem Same.ext {c':WI}(h:Same c c'):Il c'=Il c:=by unfold Il;rw [h.flags]
theorem Nm (hl:key≠lenK)(h0:key.Za≠0):iQ d key=nc d.Zm key:=by
 unfold iQ;rw [WZ hl,cond_false]
 cases e:qS d.Zk key with
 |none=>rfl
 |some x=>exact absurd (by rw [(vR e).2.2.1];rfl) h0
section
variable {N:Nat}(hN:20000<=N){v:WV}(hv:v.Za=7)(hvN:v.N=i){k q:Nat}(hk:k+8<=580)(hq:q+2048<=1000000000){w:WM}(hM:d.Zk.length<=2200)(hL:d.Zm.length<1000)(h:Sim N i k q w c d)
include hN hv hvN hk hq hM hL h
theorem AL (hR:keyR N key)(hd:PD dd): ∃z,nJ N d key=some (iQ d key)/\lE N (iQ d key).1 (iQ d key).2 d.Ext key dd=some z/\jh N w v key=some (iQ d key)/\du N (iQ d key).1 (iQ d key).2 (Il c) key dd=some z/\(z.2=true->PV N z.1/\z.1.Zf=key/\((iQ d key).2=true->sB (iQ d key).1.Zd 4=false->sB z.1.Zd 4=false)):=by
 have _:=hq
 have ho:=KA hM h.wf h.pv h.ev key;obtain ⟨z,hz,hz2⟩:=MD N hR hd ho.b ho.v ho.v8 ho.g ho.s (iQ d key).2 d.Ext;exact ⟨z,HV hN I I h.wf key,by rw [ME N key ho.b ho.n hd.r];exact hz,ID hN hv hvN I hM h key,by rw [h.ex];exact hz,hz2⟩
theorem Jc (key:WL)(F:Bool->Option ρ):((lD N d key).bind fun a6=>(bif decide (a6<0) then (some (decide (1024<=(d.Zm.length:Int)))) else (some false)).bind F)=F false:=by
 have _:=hv
 have _:=hvN
 have _:=hk
 have _:=hq
 have _:=hM
 have _:=h
 have e:decide (1024<=(d.Zm.length:Int))=false:=WZ I;rcases yl (PL:=d.Zm) (k:=key) with ⟨n,p,h1,h2,h3⟩|hno
 ·rw [E3 hN I h1 h2 h3,bs,WZ I,cf,bs]
 rw [E1 hN I hno,bs,WY I,ct,e,bs]
theorem Lg (hR:keyR N key)(hl:key≠lenK)(h0:key.Za≠0)(hd:PD dd):
  Sat (jW N w v key dd) fun r=> ∃d',((nJ N d key).bind fun y16=>(lE N y16.1 y16.2 d.Ext key dd).bind fun a6=>bif !a6.2 then (some (d,false,false)) else ((nl N d a6.1).bind fun a7=>some (a7,true,false)))=some (d',r.1,false)/\d'.Zk=d.Zk/\d'.Zm.length<=d.Zm.length+1/\Cm N i (k+8) (q+2048) w d' r.2:=by
 obtain ⟨z,e1,e2, -,e4,hz⟩:=AL hN hv hvN hk hq hM hL h hR hd;rw [e1,bs,e2,bs];rw [Nm hl h0] at e4
 have hMc:c.Zb.length<=2200:=by rw [h.el];exact hM
 refine (GU hN hv hvN h.ob I I hMc hR (p:=z.1) (ok:=z.2) e4 (fun e=>⟨(hz e).1.w _,(hz e).2.1,(hz e).1.a⟩) I).mono fun r hr=> ?_
 obtain ⟨r1,r2,r3⟩:=hr
 cases ez:z.2 with
 |false=>
  rw [r1,ez,nf,ct];refine ⟨d,J,J,by omega,c,?_,?_⟩
  ·rw [r2 ez];exact h.up I I
  rw [r2 ez];exact FrW.refl w
 | true=>
  obtain ⟨c',o,s,f⟩:=r3 ez;obtain ⟨pv,pk, -⟩:=hz ez;rw [r1,ez,nt,cf,LK hN I h.wf.nd,bs];rw [pv.norm] at o;refine ⟨_,J,J,EX h.ob z.1,c',⟨o.up I I,s.kind.trans h.ar,s.more.trans h.el,s.ext.trans h.ex,by rw [s.flags];exact h.fx,⟨fun p hp h00=> ?_,fun p hp=> ?_,LM h.wf.nd _,h.wf.hole⟩,fun p hp=> ?_,h.ev⟩,f.fr⟩
  ·rcases vy hp with rfl|hp
   ·rw [pk] at h00;exact absurd h00 h0
   exact h.wf.idx p hp h00
  ·rcases vy hp with rfl|hp
   ·rw [pk];exact hl
   exact h.wf.len p hp
  rcases vy hp with rfl|hp
  ·exact pv
  exact h.pv p hp
theorem P6 (a6:WU×Bool)(key:WL)(hn:0<=key.N)(a7:WU×Bool): ∀(n:Nat) (m:List WV),5001<n+m.length->m.length<=5000->key.N<=4096->jC N a6 w v c key a7 n m=jE N a6 w v c key a7 (cE m (key.N+1))
 |0,m,g0,g1,g2=>by have _:=hN;have _:=hv;have _:=hvN;have _:=hk;have _:=hq;have _:=hM;have _:=hL;have _:=h;omega
 | n+1,m,g0,g1,g2=>by
  rw [jC.eq_2];by_cases e:(m.length:Int)<=key.N
  ·rw [WY e,ct,rF (by rw [X3];omega)];have:=P6 a6 key hn a7 n (m++ [bU]) (by rw [YX,X3];omega) (by rw [YX,X3];omega) g2;refine this.trans (congrArg _ ?_);unfold cE;rw [W2,show (key.N+1).toNat - m.length=((key.N+1).toNat - (m++ [bU]).length)+1 by rw [YX,X3];omega];rfl
  rw [WZ e,cf,Fk I]
end
end
section
open Go.RowKit
set_option maxRecDepth 20000
theorem Mx {PL:List WU}(h:∀p∈PL,p.Zf≠key):pP PL key=PL:=Mw h
theorem Vz {a:Int}(h:a=7):sB a 4=true:=by rw [h];decide
section
variable {N:Nat}(hN:20000<=N){v:WV}(hv:v.Za=7)(hvN:v.N=i){k q:Nat}(hk:k+8<=580)(hq:q+2048<=1000000000){w:WM}(hM:d.Zk.length<=2200)(hL:d.Zm.length<1000)(h:Sim N i k q w c d)
include hN hv hvN hk hq hM hL h
theorem TC (hR:keyR N key)(h0:key.Za=0)(hn:key.N<=2100){z:WU×Bool}(pv:PV N z.1)(pk:z.1.Zf=key)(hf:(iQ d key).2=true->sB (iQ d key).1.Zd 4=false->sB z.1.Zd 4=false):
  Sat (jE N (nc d.Zm key) w v c key z (cE d.Zk (key.N+1))) fun r=>r.1=true/\r.2.1=false/\ ∃d',((nm N d (key.N+1)).bind fun a6=>bif decide (z.1.Zd=7) then ((aq a6.Zk key.N).bind fun b6=>(ei N (⟨a6.Ext,a6.Zs,List.set a6.Zk key.N.toNat (⟨z.1.Value.Za,z.1.Value.N,z.1.Value.S⟩:WV),a6.Zm⟩:WO) key).bind fun b0=>some (b0,true,false)) else ((ir N).bind fun a7=>(aq a6.Zk key.N).bind fun b7=>(nl N (⟨a6.Ext,a6.Zs,List.set a6.Zk key.N.toNat (⟨a7.Za,a7.N,a7.S⟩:WV),a6.Zm⟩:WO) z.1).bind fun b5=>some (b5,true,false)))=some (d',true,false)/\d'.Zk.length<=max d.Zk.length 2101/\d'.Zm.length<=d.Zm.length+1/\Cm N i (k+8) (q+2048) w d' r.2.2:=by
 have hkey:=Pc hR h0;have hnn:0<=key.N:=(keyR.b I hR h0).1;have hll:=zd d.Zk (key.N+1)
 have hlt:key.N.toNat<(cE d.Zk (key.N+1)).length:=by omega
 have hMc:c.Zb.length<=2200:=by rw [h.el];exact hM
 obtain ⟨x,hx⟩: ∃x,aq (cE d.Zk (key.N+1)) key.N=some x:=by
  have:=aK hlt;rw [show ((key.N.toNat:Nat):Int)=key.N by omega] at this;exact ⟨_,this⟩
 have hrc:=lR h.ob.right
 -- the cell with the elements E2
 have hput: ∀E2:List WV,E2.length=(cE d.Zk (key.N+1)).length->(∀y∈E2,Prim y)-> ∃w1,az N w v ⟨c.Za,c.Zi,c.Ze,c.Zg,c.Zc,E2⟩=some w1/\Obj N i k q w1 ⟨c.Za,c.Zi,c.Ze,c.Zg,c.Zc,E2⟩ d.Zm/\FrO i w w1 c ⟨c.Za,c.Zi,c.Ze,c.Zg,c.Zc,E2⟩:=fun E2 hl hp=>Kp hN hv hvN h.ob I E2 I (fun y hy=>(hp y hy).w _) (fun e=>by have:=h.ar;omega) c.Ze hrc.2.1 h.ob.oc.noP
 have hE1: ∀y∈cE d.Zk (key.N+1),Prim y:=fun y hy=>by
  rcases zc hy with hy|rfl
  ·exact h.ev y hy
  exact tT
 have hset: ∀y,Prim y-> ∀u∈(cE d.Zk (key.N+1)).set key.N.toNat y,Prim u:=fun y hy u hu=>by
  rcases Yf hu with hu|rfl
  ·exact hE1 u hu
  exact hy
 have hidx: ∀(y:WV) (p:WU),p∈d.Zm->p.Zf≠key->p.Zf.Za=0->p.Zf=jx p.Zf.N/\0<=p.Zf.N/\((cE d.Zk (key.N+1)).set key.N.toNat y)[p.Zf.N.toNat]? =some bU:=fun y p hp hne hp0=>by
  obtain ⟨g1,g2,g3⟩:=h.wf.idx p hp hp0;refine ⟨g1,g2,?_⟩;rw [XQ fun e=>hne (by rw [g1,hkey];congr 1;omega)];exact vK g3
 have hl:key≠lenK:=fun e=>by rw [e] at h0;cases h0
 unfold jE;rw [hx,bs,HW hN I (key.N+1) I,bs]
 dsimp only
 rw [hx,bs];by_cases h7:z.1.Zd=7
 ·obtain ⟨w1,p1,o1,f1⟩:=hput ((cE d.Zk (key.N+1)).set key.N.toNat z.1.Value) (X0 ..) (hset _ pv.v)
  have a8: ∃x2,aq (List.set (cE d.Zk (key.N+1)) key.N.toNat (⟨8,0,(⟨#[]⟩:ByteArray)⟩:WV)) key.N=some x2:=by
   have:=aK (xs:=List.set (cE d.Zk (key.N+1)) key.N.toNat (⟨8,0,(⟨#[]⟩:ByteArray)⟩:WV)) (i:=key.N.toNat) (by rw [X0];exact hlt);rw [show ((key.N.toNat:Nat):Int)=key.N by omega] at this;exact ⟨_,this⟩
  obtain ⟨x2,a8⟩:=a8;rw [WY h7,ct,ct,a8,bs,List.set_set];unfold jD;have p1':az N w v ⟨c.Za,c.Zi,c.Ze,c.Zg,c.Zc,List.set (cE d.Zk (key.N+1)) key.N.toNat (⟨z.1.Value.Za,z.1.Value.N,z.1.Value.S⟩:WV)⟩=some w1:=p1;rw [p1',bs,WY h7,ct,tL hN (d:=⟨d.Ext,d.Zs,List.set (cE d.Zk (key.N+1)) key.N.toNat z.1.Value,d.Zm⟩) (by show d.Zm.length<=1024;omega),bs]
  -- what is dropped
  have hdrop:Sat (td N w1 v key (nc d.Zm key).2) fun w2=> ∃c2,Obj N i k (q+1024) w2 c2 (pP d.Zm key)/\Same ⟨c.Za,c.Zi,c.Ze,c.Zg,c.Zc,(cE d.Zk (key.N+1)).set key.N.toNat z.1.Value⟩ c2/\FrW w1 w2:=by
   unfold td;rcases za h.wf.nd key with ⟨p,hp,hpk,ho⟩|⟨hno,ho⟩
   ·rw [ho,ct]
    have hA:iQ d key=(p,true):=by
     unfold iQ;rw [WZ hl,cond_false]
     cases e:qS d.Zk key with
     |none=>exact ho
     |some y=>
      obtain ⟨-,g2, -, -,g5⟩:=vR e;obtain ⟨-, -,g3⟩:=h.wf.idx p hp (by rw [hpk];exact h0);rw [hpk,g5] at g3;exact absurd (YM g3) g2
    have hlo: ¬ai .i64 p.Zd 4=0:=fun e4=>by
     have a:=(h.pv p hp).a;have s6:=six a.1 (by have:=a.2.1;omega)
     have h4:sB p.Zd 4=false:=by rw [<-s6.b4,WY e4];rfl
     rw [hA] at hf;have:=hf rfl h4;rw [Vz h7] at this;cases this
    refine (CK hN hv hvN o1 I I (by show ((cE d.Zk (key.N+1)).set _ _).length<=2200;rw [X0];omega) key).bind fun r hr=>ac ?_
    rw [ho] at hr;rcases hr with ⟨e, -⟩|⟨-,e, -⟩|⟨-, -, -,c2,o2,s2,f2⟩
    ·cases e
    ·exact absurd e hlo
    exact ⟨c2,o2,s2,f2.fr⟩
   rw [ho,cf];exact ac ⟨_,by rw [Mx hno];exact o1.up (YB _) I,Same.refl _,FrW.refl _⟩
  refine hdrop.bind fun w2 hw2=>ac ⟨J,J,_,J,?_,?_,?_⟩
  ·show ((cE d.Zk (key.N+1)).set _ _).length<=_;rw [X0];omega
  ·show (pP d.Zm key).length<=_;exact Nat.le_succ_of_le (XY ..)
  obtain ⟨c2,o2,s2,f2⟩:=hw2;refine ⟨c2,⟨o2.up I I,s2.kind.trans h.ar,s2.more,s2.ext.trans h.ex,by rw [s2.flags];exact h.fx,⟨fun p hp hp0=> ?_,fun p hp=>h.wf.len p (qB.1 hp).1,Is h.wf.nd _,fun u hu h8=>G5 (hset _ pv.v u hu).may h8⟩,fun p hp=>h.pv p (qB.1 hp).1,hset _ pv.v⟩,f1.fr.trans f2⟩;exact hidx _ p (qB.1 hp).1 (qB.1 hp).2 hp0
 obtain ⟨w1,p1,o1,f1⟩:=hput ((cE d.Zk (key.N+1)).set key.N.toNat bU) (X0 ..) (hset _ tT);rw [WZ h7,cf,cf];unfold jD;have p1':az N w v ⟨c.Za,c.Zi,c.Ze,c.Zg,c.Zc,List.set (cE d.Zk (key.N+1)) key.N.toNat (⟨8,0,(⟨#[]⟩:ByteArray)⟩:WV)⟩=some w1:=p1;have e8:ir N=some bU:=rfl;rw [p1',bs,WZ h7,cf,e8,bs,bs,LK hN (d:=⟨d.Ext,d.Zs,List.set (cE d.Zk (key.N+1)) key.N.toNat bU,d.Zm⟩) (by show d.Zm.length<=1024;omega) h.wf.nd,bs]
 refine (TH hN hv hvN o1 hk hq (by show ((cE d.Zk (key.N+1)).set _ _).length<=2200;rw [X0];omega) hL pv).bind fun w2 hw2=>ac ⟨J,J,_,J,?_,?_,?_⟩
 ·show ((cE d.Zk (key.N+1)).set _ _).length<=_;rw [X0];omega
 ·exact EX h.ob z.1
 obtain ⟨c2,o2,s2,f2⟩:=hw2;refine ⟨c2,⟨o2,s2.kind.trans h.ar,s2.more,s2.ext.trans h.ex,by rw [s2.flags];exact h.fx,⟨fun p hp hp0=> ?_,fun p hp=> ?_,LM h.wf.nd _,fun u hu h8=>G5 (hset _ tT u hu).may h8⟩,fun p hp=> ?_,hset _ tT⟩,f1.fr.trans f2.fr⟩
 ·have hat:((cE d.Zk (key.N+1)).set key.N.toNat bU)[key.N.toNat]? =some bU:=XR hlt;by_cases e:p.Zf=key
  ·rw [e];exact ⟨hkey,hnn,hat⟩
  rcases vy hp with rfl|hp
  ·exact absurd pk e
  exact hidx _ p hp e hp0
 ·rcases vy hp with rfl|hp
  ·rw [pk];exact hl
  exact h.wf.len p hp
 rcases vy hp with rfl|hp
 ·exact pv
 exact h.pv p hp
end
end
section
open Go.RowKit
set_option maxRecDepth 20000
section
variable {N:Nat}(hN:20000<=N){v:WV}(hv:v.Za=7)(hvN:v.N=i){k q:Nat}(hk:k+8<=580)(hq:q+2048<=1000000000){w:WM}(hM:d.Zk.length<=2200)(hL:d.Zm.length<1000)(h:Sim N i k q w c d)
include hN hv hvN hk hq hM hL h
def U4 (N:Nat)(i:Int)(k q:Nat)(w:WM)(d d':WO)(w':WM):Prop:=d'.Zk.length<=max d.Zk.length 2101/\d'.Zm.length<=d.Zm.length+1/\Cm N i (k+8) (q+2048) w d' w'
omit hN hv hvN hk hq hM hL in
theorem Em:U4 N i k q w d d w:=⟨by omega,by omega,c,h.up I I,FrW.refl w⟩
theorem NY (hR:keyR N key)(h0:key.Za=0)(hkey:key.N<=2100\/4096<=key.N)(hd:PD dd)(hrr:dW N dd=some true):
  Sat (nR N w v c key dd) fun r=> ∃d',gC N d key dd=some (d',r.1,r.2.1)/\U4 N i k q w d d' r.2.2:=by
 have hl:key≠lenK:=fun e=>by rw [e] at h0;cases h0
 obtain ⟨z,e1,e2,e3,e4,hz⟩:=AL hN hv hvN hk hq hM hL h hR hd
 have hMc:c.Zb.length<=2200:=by rw [h.el];exact hM
 have eL:dp N=some lenK:=rfl;have hnn:0<=key.N:=(keyR.b I hR h0).1
 have eR: ∀{ρ:Type} (F:Bool->Option ρ),((bif !true then (some true) else ((dW N dd).bind fun y9=>some (!y9))).bind F)=F false:=fun F=>by rw [hrr];rfl
 unfold gC nR;rw [HT N hN,show bc N key=some true from hR,bs,eR,cf,eL,bs,WZ hl,cf,e1,bs,e2,bs,e3,bs];have e4':du N (iQ d key).1 (iQ d key).2 (!decide (ai .i64 c.Ze 1=0)) key dd=some z:=e4;rw [e4',bs]
 cases ez:z.2 with
 |false=>
  rw [nf,ct,ct];exact ac ⟨d,J,Em h⟩
 | true=>
  rw [nt,cf,cf,Jc hN hv hvN hk hq hM hL h key,WY h0,nt,cf];by_cases h4:4096<=key.N
  ·rw [WY h4,ct,ct];exact ac ⟨d,J,Em h⟩
  rw [WZ h4,cf,cf,h.el,h.fx]
  have eb: ∀b:Bool,(bif decide ((d.Zk.length:Int)<=key.N) then some b else some false:Option Bool)=some (decide ((d.Zk.length:Int)<=key.N)&&b):=fun b=>by cases decide ((d.Zk.length:Int)<=key.N)<;>rfl
  rw [eb,bs,bs]
  cases ef:(decide ((d.Zk.length:Int)<=key.N)&&d.Zs) with
  |true=>
   rw [ct,ct];exact ac ⟨d,J,Em h⟩
  | false=>
   rw [cf,cf,cf,bs,cf,r64 I I];obtain ⟨pv,pk,hf⟩:=hz ez;have hoo:=OX hN hv hvN I hMc h.ob key;rw [hoo,bs]
   have hfin:Sat (jC N (nc d.Zm key) w v c key z N d.Zk) fun r=> ∃d',((nm N d (key.N+1)).bind fun a6=>bif decide (z.1.Zd=7) then ((aq a6.Zk key.N).bind fun b5=>(ei N (⟨a6.Ext,a6.Zs,List.set a6.Zk key.N.toNat (⟨z.1.Value.Za,z.1.Value.N,z.1.Value.S⟩:WV),a6.Zm⟩:WO) key).bind fun a8=>some (a8,true,false)) else ((ir N).bind fun a7=>(aq a6.Zk key.N).bind fun b6=>(nl N (⟨a6.Ext,a6.Zs,List.set a6.Zk key.N.toNat (⟨a7.Za,a7.N,a7.S⟩:WV),a6.Zm⟩:WO) z.1).bind fun b0=>some (b0,true,false)))=some (d',r.1,r.2.1)/\U4 N i k q w d d' r.2.2:=by
    rw [P6 hN hv hvN hk hq hM hL h (nc d.Zm key) key hnn z N d.Zk I I I]
    refine (TC hN hv hvN hk hq hM hL h hR h0 I pv pk hf).mono fun r hr=> ?_
    obtain ⟨r1,r2,d',r3,r4,r5,r6⟩:=hr;exact ⟨d',by rw [r1,r2];exact r3,r4,r5,r6⟩
   have eb2: ∀b:Bool,(bif b then some (!(nc d.Zm key).2) else some false:Option Bool)=some (b&& !(nc d.Zm key).2):=fun b=>by cases b<;>rfl
   rw [eb2,bs]
   cases ep:(!decide (z.1.Zd=7)&& !(nc d.Zm key).2) with
   |false=>rw [cf,bs,cf];exact hfin
   |true=>
    rw [ct,Bx hN hv hvN I hMc h.ob,bs,WZ (show¬1024<=(d.Zm.length:Int) by omega),bs,cf];exact hfin
theorem NX (hR:keyR N key)(hl:key≠lenK)(hkey:key.Za=0->key.N<=2100\/4096<=key.N)(hd:PD dd)(hrr:dW N dd=some true)(hdr:fD N dd=some true):
  Sat (eu N w v key dd) fun r=> ∃d',gC N d key dd=some (d',r.1,r.2.1)/\U4 N i k q w d d' r.2.2:=by
 have eL:bX N=some lenK:=rfl;have eL':dp N=some lenK:=rfl
 have hMc:c.Zb.length<=2200:=by rw [h.el];exact hM
 unfold eu;rw [xB hv hvN I hM h,bs];show Sat (Option.bind (Option.bind (bc N key) _) _) _;rw [show bc N key=some true from hR,bs,bs];show Sat (Option.bind (Option.bind (fD N dd) _) _) _;rw [hdr,bs,bs,nt,cf,eL,bs,WZ hl,cf];by_cases h0:key.Za=0
 ·rw [WY h0,ct]
  exact (NY hN hv hvN hk hq hM hL h hR h0 (hkey h0) hd hrr).bind fun r hr=>ac hr
 rw [WZ h0,cf]
 refine (Lg hN hv hvN hk hq hM hL h hR hl h0 hd).bind fun r hr=>ac ?_
 obtain ⟨d',r1,r2,r3,r4⟩:=hr;refine ⟨d',?_,by rw [r2];omega,r3,r4⟩;obtain ⟨z,e1,e2, -⟩:=AL hN hv hvN hk hq hM hL h hR hd;rw [e1,bs,e2,bs] at r1
 have eR: ∀{ρ:Type} (F:Bool->Option ρ),((bif !true then (some true) else ((dW N dd).bind fun y9=>some (!y9))).bind F)=F false:=fun F=>by rw [hrr];rfl
 unfold gC;rw [HT N hN,show bc N key=some true from hR,bs,eR,cf,eL',bs,WZ hl,cf,e1,bs,e2,bs,Jc hN hv hvN hk hq hM hL h key,WZ h0,nf,ct,cf];exact r1
end
end
section
open Go.RowKit
set_option maxRecDepth 20000
section
variable (N:Nat)(n s:Int)(y:List WU)(v:WV)(y16:WI×Bool)(E:List WV)
def U6 (m:Nat)(j:Int)(w:WM):Option (Bool×WM):=jp N n s y v y16 E m j w
theorem UM (m:Nat)(j:Int)(w:WM):U6 N n s y v y16 E (m+1) j w=bif decide (j<(y.length:Int)) then ((aq y j).bind fun x=>(bif decide (x.Zf.Za=0) then (some (decide (s<=x.Zf.N))) else (some false)).bind fun b=>bif b then ((fQ N w v x.Zf).bind fun z=>aL (in64 (j+1)) (U6 N n s y v y16 E m (j+1) z.2)) else (aL (in64 (j+1)) (U6 N n s y v y16 E m (j+1) w))) else ((cB N w v).bind fun z=>aL ((0:Int)<=s/\s.toNat<=E.length) ((az N w v (⟨z.1.Za,z.1.Zi,z.1.Ze,z.1.Zg,z.1.Zc,List.take s.toNat E⟩:WI)).bind fun u=>some (decide (s=n),u))):=rfl
end
theorem N8 {s:Int}{p:WU}(hb:fc s p=false): ∀(A B:List WU),((A++p::B).map (·.Zf)).Nodup->pP (A.filter (fc s)++p::B) p.Zf=(A++ [p]).filter (fc s)++B:=by
 intro A B hn;rw [X4,X5] at hn
 have hA: ∀x∈A,x.Zf≠p.Zf:=fun x hx e=>by
  have:=(Yi.1 hn).2.2 _ (List.mem_map_of_mem hx) p.Zf (Ya ..);exact this e
 have hB: ∀x∈B,x.Zf≠p.Zf:=fun x hx e=>by
  have:=(Yj.1 (Yi.1 hn).2.1).1;exact this (Yc.2 ⟨x,hx,e⟩)
 unfold pP;rw [XB,XB,XC,XC,hb,WY rfl,List.filter_nil,if_neg (show¬(!true)=true by decide),if_neg (show¬false=true by decide),Xr]
 have e1:(A.filter (fc s)).filter (fun x=> !decide (x.Zf=p.Zf))=A.filter (fc s):=XD.2 fun x hx=>by simp [hA x ((Yb.1 hx).1)]
 have e2:B.filter (fun x=> !decide (x.Zf=p.Zf))=B:=XD.2 fun x hx=>by simp [hB x hx]
 rw [e1,e2]
section
variable {N:Nat}(hN:20000<=N){v:WV}(hv:v.Za=7)(hvN:v.N=i){k:Nat}(hk:k+8<=580){c0:WI}(PL:List WU)(hnd:(PL.map (·.Zf)).Nodup)(hL:PL.length<1000)(s:Int)(hs:0<=s)(hfirm:∀p∈PL,FD p->p.Zf.N+1<=s)(n:Int)(y16:WI×Bool)(E:List WV)(hE:∀x∈E,Prim x)(hE1:s.toNat<=E.length)(hE2:E.length<=2200)(hM:c0.Zb.length<=2200)(w0:WM)(h2:c0.Za=2)
include hN hv hvN hk hnd hL hs hfirm hE hE1 hE2 hM h2
theorem Qf (q:Nat)(hq:q+1024*1000<=1000000000): ∀(m j:Nat) (w:WM) (c:WI),PL.length<m+j->j<=PL.length->Obj N i k (q+1024*j) w c ((PL.take j).filter (fc s)++PL.drop j)->Same c0 c->FrW w0 w->Sat (U6 N n s PL v y16 E m j w) fun r=>r.1=decide (s=n)/\ ∃c',Obj N i k (q+1024*1000) r.2 c' (PL.filter (fc s))/\c'.Za=2/\c'.Ze=c0.Ze/\c'.Zb=E.take s.toNat/\FrW w0 r.2
 |0,j,w,c,h0,h1,_,_,_=>by omega
 | m +1,j,w,c,h0,h1,ho,hsm,hfr=>by
  have hMc:c.Zb.length<=2200:=by rw [hsm.more];exact hM
  rw [UM];rcases YE j PL.length with hj|hj
  ·have hdrop:PL.drop j=PL[j]::PL.drop (j+1):=Xv hj
   have htake:PL.take (j+1)=PL.take j++ [PL[j]]:=by rw [List.take_add_one,XM hj];rfl
   rw [fN I,ct,aK hj,bs]
   have eb:(bif decide (PL[j].Zf.Za=0) then (some (decide (s<=PL[j].Zf.N))) else (some false))=some (!fc s PL[j]):=by
    unfold fc;cases decide (PL[j].Zf.Za=0)<;>cases decide (s<=PL[j].Zf.N)<;>rfl
   rw [eb,bs]
   cases hb:fc s PL[j] with
   | true=>
    rw [nt,cf,r64 I I];refine Qf q hq m (j+1) w c I hj ?_ hsm hfr
    have e:(PL.take (j+1)).filter (fc s)++PL.drop (j+1)=(PL.take j).filter (fc s)++PL.drop j:=by
     rw [htake,hdrop,XB,XC,hb,List.filter_nil,W2];rfl
    rw [e];exact ho.up (YB _) I
   | false=>
    rw [nf,ct]
    refine (CK hN hv hvN ho I I hMc PL[j].Zf).bind fun r hr=> ?_
    rw [r64 I I]
    have hat:((PL.take j).filter (fc s)++PL.drop j)[((PL.take j).filter (fc s)).length]? =some PL[j]:=by
     rw [XI (YB _),YG,hdrop];rfl
    have hown:=qg ho.nodup hat;rw [hown] at hr
    have hnf: ¬ai .i64 PL[j].Zd 4=0:=fun e4=>by
     unfold fc at hb;rw [Bool.not_eq_false',Y3] at hb;have h00:=YV hb.1;have hle:=YV hb.2;have:=hfirm PL[j] (Y5 hj) ⟨h00,e4⟩;omega
    rcases hr with ⟨e, -⟩|⟨-,e, -⟩|⟨-, -, -,c2,o2,s2,f2⟩
    ·cases e
    ·exact absurd e hnf
    refine Qf q hq m (j+1) r.2 c2 I hj ?_ (hsm.trans s2) (hfr.trans f2.fr)
    have hsplit:PL.take j++PL[j]::PL.drop (j+1)=PL:=by rw [<-hdrop,Yq]
    have hc:=N8 hb (PL.take j) (PL.drop (j+1)) (by rw [hsplit];exact hnd);rw [hdrop,hc, <-htake] at o2;exact o2.up (YB _) I
  have hj':j=PL.length:=by omega
  subst hj';rw [Y0,List.drop_length,Xr] at ho;rw [fC I,cf,SC hv hvN I hMc ho,bs,cU ⟨hs,hE1⟩];have hrc:=lR ho.right;obtain ⟨w1,p1,o1,f1⟩:=Kp hN hv hvN ho I (E.take s.toNat) (by rw [YY];omega) (fun x hx=>(hE x (Ye hx)).w _) (fun e=>by have:=hsm.kind;omega) c.Ze hrc.2.1 ho.oc.noP;rw [p1,bs];exact ac ⟨J,_,o1.up (YB _) I,hsm.kind.trans h2,hsm.flags,J,hfr.trans f1.fr⟩
end
section
variable {N:Nat}(hN:20000<=N){v:WV}(hv:v.Za=7)(hvN:v.N=i){k q:Nat}(hk:k+8<=580)(hq:q+1024*1000<=1000000000){w:WM}(hM:d.Zk.length<=2200)(hL:d.Zm.length<1000)(h:Sim N i k q w c d)
include hN hv hvN hk hq hM hL h
theorem Qg (n:Int)(y16:WI×Bool)(E:List WV)(hidx:∀p∈d.Zm,p.Zf.Za=0->0<=p.Zf.N/\p.Zf.N<=5000): ∀(m j:Nat) (s:Int),d.Zm.length<m+j->j<=d.Zm.length->jq N n d.Zm w v y16 E m s (j:Int)=nU N n w v y16 E ((d.Zm.drop j).foldl qK s)
 |0,j,s,h0,h1=>by have _:=hN;have _:=hv;have _:=hvN;have _:=hk;have _:=hq;have _:=hM;have _:=h;omega
 | m+1,j,s,h0,h1=>by
  rw [jq.eq_2];unfold nT;rcases YE j d.Zm.length with hj|hj
  ·have hdrop:d.Zm.drop j=d.Zm[j]::d.Zm.drop (j+1):=Xv hj;rw [fN I,ct,aK hj,bs,hdrop,List.foldl_cons]
   have eb:(bif decide (d.Zm[j].Zf.Za=0) then (some (decide (ai .i64 d.Zm[j].Zd 4=0))) else (some false))=some (decide (d.Zm[j].Zf.Za=0)&&decide (ai .i64 d.Zm[j].Zd 4=0)):=by
    cases decide (d.Zm[j].Zf.Za=0)<;>rfl
   rw [eb,bs];unfold qK
   cases eb2:(decide (d.Zm[j].Zf.Za=0)&&decide (ai .i64 d.Zm[j].Zd 4=0)) with
   |true=>
    have h00:d.Zm[j].Zf.Za=0:=YV (Bool.and_eq_true_iff.1 eb2).1;have hb:=hidx d.Zm[j] (Y5 hj) h00;rw [ct,ct,r64 I I,r64 I I];exact Qg n y16 E hidx m (j+1) _ I hj
   |false=>
    rw [cf,cf,r64 I I];exact Qg n y16 E hidx m (j+1) _ I hj
  rw [fC I,cf,List.drop_of_length_le hj];rfl
omit hN hv hvN hk hq hM hL in
theorem SE (n:Int)(hn:n<=4096)(y16:WI×Bool): ∀(m:Nat) (E:List WV),5001<m+E.length->E.length<=5000->nS N n w v y16 m E=nV N n w v y16 (cE E n)
 |0,E,h0,h1=>by have _:=h;omega
 | m+1,E,h0,h1=>by
  rw [nS.eq_2];by_cases e:(E.length:Int)<n
  ·rw [WY e,ct,rF (by rw [X3];omega)];have:=SE n hn y16 m (E++ [bU]) (by rw [YX,X3];omega) (by rw [YX,X3];omega);refine this.trans (congrArg _ ?_);unfold cE;rw [W2,show n.toNat - E.length=(n.toNat - (E++ [bU]).length)+1 by rw [YX,X3];omega];rfl
  rw [WZ e,cf,Fk I]
theorem Ey {n:Int}(hn:n<=2100\/4096<n):Sat (ig N w v n) fun r=> ∃d',lV N d n=some (d',r.1)/\d'.Zk.length<=max d.Zk.length 2101/\d'.Zm.length<=d.Zm.length/\Cm N i (k+8) (q+1024*1000) w d' r.2:=by
 have hMc:c.Zb.length<=2200:=by rw [h.el];exact hM
 rw [CC hN I I h.wf n];unfold ig we;rw [xB hv hvN I hM h,bs];show Sat (Option.bind (some (decide (n<0))) _) _;rw [bs];have same: ∃d',some (d,false)=some (d',false)/\d'.Zk.length<=max d.Zk.length 2101/\d'.Zm.length<=d.Zm.length/\Cm N i (k+8) (q+1024*1000) w d' w:=⟨d,rfl,by omega,YB _,c,h.up I I,FrW.refl w⟩;by_cases h0:n<0
 ·rw [WY h0,ct,bs,ct,bs,ct];exact ac same
 rw [WZ h0,cf,bs];by_cases h1:4096<n
 ·rw [WY h1,ct,bs,ct];exact ac same
 rw [WZ h1,cf,Bool.false_or,Bool.false_or];show Sat (Option.bind (Option.bind (bif !decide (ai .i64 c.Ze 32=0) then some (!decide (n=(c.Zb.length:Int))) else some false) _) _) _;rw [h.fx,h.el]
 have eb:(bif d.Zs then some (!decide (n=(d.Zk.length:Int))) else some false)=some (d.Zs&& !decide (n=(d.Zk.length:Int))):=by cases d.Zs<;>rfl
 rw [eb,bs,bs]
 cases ef:(d.Zs&& !decide (n=(d.Zk.length:Int))) with
 |true=>
  rw [ct,cond_true];exact ac same
 | false=>
  rw [cf,cond_false];rw [SE h n I (c,true) N d.Zk I I];unfold nV;have hll:=zd d.Zk n
  have hidx: ∀p∈d.Zm,p.Zf.Za=0->0<=p.Zf.N/\p.Zf.N<=5000:=fun p hp hp0=>by
   obtain ⟨g1,g2,g3⟩:=h.wf.idx p hp hp0;have:=(XO.1 g3).1;omega
  rw [Bx hN hv hvN I hMc h.ob,bs];have a6:=Qg hN hv hvN hk hq hM hL h n (c,true) (cE d.Zk n) hidx N 0 n I I;rw [show ((0:Nat):Int)=0 from rfl] at a6;rw [a6,Xy];unfold nU;rw [Bx hN hv hvN I hMc h.ob,bs];have hge:=yO d.Zm n
  have hle:=yM d.Zm n (max (d.Zk.length:Int) n) I fun p hp hf=>by
   obtain ⟨g1,g2,g3⟩:=h.wf.idx p hp hf.1;have:=(XO.1 g3).1;omega
  have hE: ∀x∈cE d.Zk n,Prim x:=fun x hx=>by
   rcases zc hx with hx|rfl
   ·exact h.ev x hx
   exact tT
  have hx:=Qf hN hv hvN hk d.Zm h.wf.nd hL (nX d.Zm n) I (fun p hp hf=>Er d.Zm n hp hf) n (c,true) (cE d.Zk n) hE I I hMc w h.ar q hq N 0 w c I I (by rw [Yt,List.filter_nil,Y4,Xy];exact h.ob.up (YB _) I) (Same.refl c) (FrW.refl w)
  refine Sat.mono hx fun r hr=> ?_
  obtain ⟨r1,c',o,k2,fl,mo,fr⟩:=hr;refine ⟨It ⟨d.Ext,d.Zs,cE d.Zk n,d.Zm⟩ n,by rw [r1],?_,XY ..,c',⟨o.up I (YB _),k2,mo,by unfold Il;rw [fl];exact h.ex,by rw [fl];exact h.fx,⟨fun p hp hp0=> ?_,fun p hp=>h.wf.len p ((Yb.1 hp).1),List.Nodup.sublist (List.Sublist.map _ List.filter_sublist) h.wf.nd,fun x hx h8=>G5 (hE x (Ye hx)).may h8⟩,fun p hp=>h.pv p ((Yb.1 hp).1),fun x hx=>hE x (Ye hx)⟩,fr⟩
  ·show ((cE d.Zk n).take _).length<=_;rw [YY];omega
  have hpm:p∈d.Zm:=(Yb.1 hp).1;have hpb:=(Yb.1 hp).2;obtain ⟨g1,g2,g3⟩:=h.wf.idx p hpm hp0
  have hlt:p.Zf.N<nX d.Zm n:=by
   have hpb:fc (nX d.Zm n) p=true:=hpb;unfold fc at hpb;rw [WY hp0,Xi,Bool.not_eq_true',YS] at hpb;omega
  refine ⟨g1,g2,?_⟩;show ((cE d.Zk n).take (nX d.Zm n).toNat)[p.Zf.N.toNat]? =some bU;rw [List.getElem?_take_of_lt I];exact vK g3
end
end
section
open Go.RowKit
set_option maxRecDepth 20000
theorem Ts: ∀f:_root_.Fin 64,ai .i64 (f.val:Int) 16=0->((0<=cP .i64 (f.val:Int) 32/\cP .i64 (f.val:Int) 32<=63)/\ai .i64 (cP .i64 (f.val:Int) 32) 16=0/\ai .i64 (cP .i64 (f.val:Int) 32) 1=ai .i64 (f.val:Int) 1/\ai .i64 (cP .i64 (f.val:Int) 32) 32≠0)/\(0<=be .i64 (f.val:Int) 1/\be .i64 (f.val:Int) 1<=63)/\ai .i64 (be .i64 (f.val:Int) 1) 16=0/\ai .i64 (be .i64 (f.val:Int) 1) 1=0/\ai .i64 (be .i64 (f.val:Int) 1) 32=ai .i64 (f.val:Int) 32:=by decide+kernel
theorem Ux {f:Int}(h:0<=f/\f<=63)(h2:ai .i64 f 16=0):((0<=cP .i64 f 32/\cP .i64 f 32<=63)/\ai .i64 (cP .i64 f 32) 16=0/\ai .i64 (cP .i64 f 32) 1=ai .i64 f 1/\ai .i64 (cP .i64 f 32) 32≠0)/\(0<=be .i64 f 1/\be .i64 f 1<=63)/\ai .i64 (be .i64 f 1) 16=0/\ai .i64 (be .i64 f 1) 1=0/\ai .i64 (be .i64 f 1) 32=ai .i64 f 32:=by
 have:=Ts ⟨f.toNat,by omega⟩;simp only [Xp h.1] at this;exact this h2
def Ig (d:WO)(b:Bool):WO:=⟨d.Ext,b,d.Zk,d.Zm⟩
section
variable {N:Nat}(hN:20000<=N){v:WV}(hv:v.Za=7)(hvN:v.N=i){k q:Nat}(hk:k+8<=580)(hq:q+1024*1000<=1000000000){w:WM}(hM:d.Zk.length<=2200)(hL:d.Zm.length<1000)(h:Sim N i k q w c d)
include hN hv hvN hk hM h
theorem LL (E:List WV)(hE:∀x∈E,Prim x)(hl:E.length<=2200)(hold:∀j:Nat,d.Zk[j]? =some bU->E[j]? =some bU)(f:Int)(hf:0<=f/\f<=63)(a6:ai .i64 f 16=0): ∃w',az N w v ⟨c.Za,c.Zi,f,c.Zg,c.Zc,E⟩=some w'/\Sim N i k q w' ⟨c.Za,c.Zi,f,c.Zg,c.Zc,E⟩ ⟨!decide (ai .i64 f 1=0),!decide (ai .i64 f 32=0),E,d.Zm⟩/\FrW w w':=by
 have _:=hM
 obtain ⟨w',p,o,fr⟩:=Kp hN hv hvN h.ob I E hl (fun x hx=>(hE x hx).w _) (fun e=>by have:=h.ar;omega) f hf a6;refine ⟨w',p,⟨o,h.ar,J,J,J,⟨fun p hp hp0=> ?_,h.wf.len,h.wf.nd,fun x hx h8=>G5 (hE x hx).may h8⟩,h.pv,hE⟩,fr.fr⟩;obtain ⟨g1,g2,g3⟩:=h.wf.idx p hp hp0;exact ⟨g1,g2,hold _ g3⟩
theorem Sv: ∃w',az N w v ⟨c.Za,c.Zi,cP .i64 c.Ze 32,c.Zg,c.Zc,c.Zb⟩=some w'/\(∃c',Sim N i k q w' c' (Ig d true))/\FrW w w':=by
 obtain ⟨⟨f1,f2,f3,f4⟩, -⟩:=Ux (lR h.ob.right).2.1 h.ob.oc.noP;obtain ⟨w',p,s,fr⟩:=LL hN hv hvN hk hM h c.Zb (by rw [h.el];exact h.ev) (by rw [h.el];exact hM) (fun j hj=>by rw [h.el];exact hj) (cP .i64 c.Ze 32) f1 f2
 have e:(⟨!decide (ai .i64 (cP .i64 c.Ze 32) 1=0),!decide (ai .i64 (cP .i64 c.Ze 32) 32=0),c.Zb,d.Zm⟩:WO)=Ig d true:=by
  rw [f3,WZ f4,h.el];unfold Ig;rw [<-h.ex];rfl
 rw [e] at s;exact ⟨w',p,⟨_,s⟩,fr⟩
theorem Q0: ∃w',qj N w v=some w'/\(∃c',Sim N i k q w' c' ⟨false,d.Zs,d.Zk,d.Zm⟩)/\FrW w w':=by
 obtain ⟨-,f1,f2,f3,f4⟩:=Ux (lR h.ob.right).2.1 h.ob.oc.noP;obtain ⟨w',p,s,fr⟩:=LL hN hv hvN hk hM h c.Zb (by rw [h.el];exact h.ev) (by rw [h.el];exact hM) (fun j hj=>by rw [h.el];exact hj) (be .i64 c.Ze 1) f1 f2
 have e:(⟨!decide (ai .i64 (be .i64 c.Ze 1) 1=0),!decide (ai .i64 (be .i64 c.Ze 1) 32=0),c.Zb,d.Zm⟩:WO)=⟨false,d.Zs,d.Zk,d.Zm⟩:=by
  rw [f4,WY f3,h.el, <-h.fx];rfl
 rw [e] at s;refine ⟨w',?_,⟨_,s⟩,fr⟩;unfold qj;rw [GT hv hvN I (by rw [h.el];exact hM) h.ob,bs];show Option.bind (bJ N ⟨⟨c.Za,c.Zi,be .i64 c.Ze 1,c.Zg,c.Zc,c.Zb⟩,w,v⟩ false) _=_;rw [Iv p f2 false,bs]
theorem SP (hx:Prim x)(hl:d.Zk.length<2200):Sat (te N w v x) fun r=> ∃d',wl N d x=some (d',r.1)/\d'.Zk.length<=d.Zk.length+1/\d'.Zm.length<=d.Zm.length/\Cm N i k q w d' r.2:=by
 have same: ∃d',some (d,false)=some (d',false)/\d'.Zk.length<=d.Zk.length+1/\d'.Zm.length<=d.Zm.length/\Cm N i k q w d' w:=⟨d,rfl,by omega,YB _,c,h,FrW.refl w⟩;have a6:(!decide (ai .i64 c.Ze 1=0))=d.Ext:=h.ex
 have e1:decide (ai .i64 c.Ze 1=0)=!d.Ext:=by rw [<-a6,Bool.not_not]
 unfold te wl xP;rw [xB hv hvN I hM h,bs];show Sat (Option.bind (some (decide (ai .i64 c.Ze 1=0))) _) _;rw [e1,bs]
 cases eE:d.Ext with
 |false=>exact ac (by simpa using same)
 | true=>
  rw [nt,cf,cf,bs,h.fx,bs]
  cases eF:d.Zs with
  |true=>exact ac (by simpa using same)
  | false=>
   rw [cf,bs,cf,bs,h.el,WZ (show¬4096<=(d.Zk.length:Int) by omega),cf,cf,rF (by rw [X3];omega),rF (by simp only [XZ];omega),rF (by simp only [YX,XZ,X3];omega)]
   obtain ⟨w',p,s,fr⟩:=LL hN hv hvN hk hM h (d.Zk++ [x]) (fun y hy=>by
    rcases X7.1 hy with hy|hy
    ·exact h.ev y hy
    ·rw [Yh.1 hy];exact hx) (by rw [YX,X3];omega) (fun j hj=>by rw [XH (XO.1 hj).1];exact hj) c.Ze (lR h.ob.right).2.1 h.ob.oc.noP
   rw [p,bs];rw [h.fx,a6,eE,eF] at s;refine ac ⟨_,J,?_,YB _,_,s,fr⟩;show ([]++d.Zk++ [x]).length<=_;rw [Y4,YX,X3];exact YB _
include hL hq
theorem PJ (key:WL):Sat (qD N w v key) fun r=> ∃d',sL N d key=some (d',r.1)/\d'.Zk.length<=d.Zk.length/\d'.Zm.length<=d.Zm.length/\Cm N i k (q+1024) w d' r.2:=by
 have hMc:c.Zb.length<=2200:=by rw [h.el];exact hM
 have same: ∀b:Bool, ∃d',some (d,b)=some (d',b)/\d'.Zk.length<=d.Zk.length/\d'.Zm.length<=d.Zm.length/\Cm N i k (q+1024) w d' w:=fun b=>⟨d,rfl,YB _,YB _,c,h.up (YB _) I,FrW.refl w⟩
 have ho:=KA hM h.wf h.pv h.ev key;unfold qD sL qb;rw [xB hv hvN I hM h,bs,nt,cf,ID hN hv hvN I hM h key,bs,HV hN I I h.wf key,bs]
 cases e2:(iQ d key).2 with
 |false=>rw [nf,ct,ct];exact ac (same true)
 | true=>
  rw [nt,cf,cf];by_cases h4:ai .i64 (iQ d key).1.Zd 4=0
  ·rw [WY h4,ct,ct];exact ac (same false)
  rw [WZ h4,cf,cf]
  have hl:key≠lenK:=fun e=>by
   apply h4;unfold iQ;rw [WY e,cond_true];show ai .i64 (bif d.Zs then 0 else 1) 4=0;cases d.Zs<;>decide
  have hlong:=HW hN (d:=d) I 0 I;rw [Fk I] at hlong;have e8:ir N=some bU:=rfl
  have hA:iQ d key=match qS d.Zk key with|some x=>(⟨key,7,x,v0,v0⟩,true)|none=>nc d.Zm key:=by
   unfold iQ;rw [WZ hl,cond_false];rfl
  -- what remains when a property is removed
  have hdel:qS d.Zk key=none->Sat ((fQ N w v key).bind fun a6=>some (a6.1,a6.2)) fun r=>r.1=true/\Cm N i k (q+1024) w ⟨d.Ext,d.Zs,d.Zk,pP d.Zm key⟩ r.2:=fun en=>by
   rw [en] at hA;rw [hA] at e2 h4
   refine (CK hN hv hvN h.ob I I hMc key).bind fun r hr=>ac ?_
   rcases hr with ⟨e, -⟩|⟨-,e, -⟩|⟨-, -,r1,c2,o2,s2,f2⟩
   ·rw [e2] at e;cases e
   ·exact absurd e h4
   refine ⟨r1,c2,⟨o2,s2.kind.trans h.ar,s2.more.trans h.el,s2.ext.trans h.ex,by rw [s2.flags];exact h.fx,⟨fun p hp hp0=>h.wf.idx p (qB.1 hp).1 hp0,fun p hp=>h.wf.len p (qB.1 hp).1,Is h.wf.nd _,h.wf.hole⟩,fun p hp=>h.pv p (qB.1 hp).1,h.ev⟩,f2.fr⟩
  have hfin: ∀(m:Option (Bool×WM)) (R:Option (WO×Bool)),R=some (⟨d.Ext,d.Zs,d.Zk,pP d.Zm key⟩,true)->(Sat m fun r=>r.1=true/\Cm N i k (q+1024) w ⟨d.Ext,d.Zs,d.Zk,pP d.Zm key⟩ r.2)->Sat m fun r=> ∃d',R=some (d',r.1)/\d'.Zk.length<=d.Zk.length/\d'.Zm.length<=d.Zm.length/\Cm N i k (q+1024) w d' r.2:=fun m R hR hm=>hm.mono fun r hr=>⟨⟨d.Ext,d.Zs,d.Zk,pP d.Zm key⟩,by rw [hR,hr.1],YB _,XY ..,hr.2⟩
  by_cases h0:key.Za=0
  ·rw [WY h0,ct,ct]
   cases en:qS d.Zk key with
   | some x=>
    obtain ⟨g1,g2,g3,g4,g5⟩:=vR en;have hlt:=(XO.1 g5).1
    have hg:aq d.Zk key.N=some x:=by
     have:=aK hlt;rw [show ((key.N.toNat:Nat):Int)=key.N by omega,(XO.1 g5).2] at this;exact this
    have hth:er N c key.N=some true:=by
     unfold er;rw [h.el,WY (show key.N<(d.Zk.length:Int) by omega),ct,hg,bs,bs];show some (!decide (x=bU))=_;rw [WZ g2];rfl
    rw [hth,bs,bs,ct,h.el,hg,bs,WY (show key.N<(d.Zk.length:Int) by omega),bs,ct,hlong,bs,e8,bs]
    have hno: ∀p∈d.Zm,p.Zf≠key:=fun p hp e=>by
     obtain ⟨-, -,g⟩:=h.wf.idx p hp (by rw [e];exact h0);rw [e,g5] at g;exact g2 (YM g)
    have hset: ∀u∈d.Zk.set key.N.toNat bU,Prim u:=fun u hu=>by
     rcases Yf hu with hu|rfl
     ·exact h.ev u hu
     exact tT
    obtain ⟨w',p,s,fr⟩:=LL hN hv hvN hk hM h (d.Zk.set key.N.toNat bU) hset (by rw [X0];exact hM) (fun j hj=>by
     by_cases e:key.N.toNat=j
     ·subst e;exact XR hlt
     ·rw [XQ e];exact hj) c.Ze (lR h.ob.right).2.1 h.ob.oc.noP
    have p':az N w v ⟨c.Za,c.Zi,c.Ze,c.Zg,c.Zc,List.set d.Zk key.N.toNat (⟨8,0,(⟨#[]⟩:ByteArray)⟩:WV)⟩=some w':=p;rw [p',bs];have hwo:=tL hN (d:=⟨d.Ext,d.Zs,List.set d.Zk key.N.toNat bU,d.Zm⟩) (by show d.Zm.length<=1024;omega) key;have a7:(!decide (ai .i64 c.Ze 1=0))=d.Ext:=h.ex;rw [h.fx,a7] at s;refine ac ⟨⟨d.Ext,d.Zs,d.Zk.set key.N.toNat bU,d.Zm⟩,?_,by show (d.Zk.set _ _).length<=_;rw [X0];exact YB _,YB _,_,s.up (YB _) I,fr⟩;show Option.bind (aq d.Zk key.N) _=_;rw [hg,bs];show Option.bind (ei N ⟨d.Ext,d.Zs,List.set d.Zk key.N.toNat bU,d.Zm⟩ key) _=_;rw [hwo,bs,Mx hno]
   | none=>
    rw [en] at hA;rw [hA] at e2;rcases za h.wf.nd key with ⟨p,hp,hpk,hop⟩|⟨-,hop⟩
    ·obtain ⟨g1,g2,g3⟩:=h.wf.idx p hp (by rw [hpk];exact h0);rw [hpk] at g1 g2 g3;have hlt:=(XO.1 g3).1
     have hg:aq d.Zk key.N=some bU:=by
      have:=aK hlt;rw [show ((key.N.toNat:Nat):Int)=key.N by omega,(XO.1 g3).2] at this;exact this
     have hth:er N c key.N=some false:=by
      unfold er;rw [h.el,WY (show key.N<(d.Zk.length:Int) by omega),ct,hg,bs,bs];rfl
     rw [hth,bs,bs,cf,WY (show key.N<(d.Zk.length:Int) by omega),bs,ct,hlong,bs,e8,bs];refine hfin _ _ ?_ (hdel en);show Option.bind (aq d.Zk key.N) _=_;rw [hg,bs];have hwo:=tL hN (d:=⟨d.Ext,d.Zs,List.set d.Zk key.N.toNat bU,d.Zm⟩) (by show d.Zm.length<=1024;omega) key;show Option.bind (ei N ⟨d.Ext,d.Zs,List.set d.Zk key.N.toNat bU,d.Zm⟩ key) _=_;rw [hwo,bs,AV g3]
    rw [hop] at e2;cases e2
  rw [WZ h0,cf,cf,bs,cf,bs,cf]
  have en:qS d.Zk key=none:=by
   cases e:qS d.Zk key with
   |none=>rfl
   |some x=>exact absurd (by rw [(vR e).2.2.1];rfl) h0
  refine hfin _ _ ?_ (hdel en);show Option.bind (ei N d key) _=_;rw [tL hN I key,bs]
end
end
section
open Go.RowKit
set_option maxRecDepth 20000
theorem Ua: ∀a:_root_.Fin 8, ∀b s2 x y:Bool,ai .i64 ((kK (a.val:Int) (bif b then 0 else 1) x 2+kK (a.val:Int) (bif b then 0 else 1) y 4)+kK (a.val:Int) (bif b then 0 else 1) s2 1) 1=0↔(bif s2 then !sB (a.val:Int) 1 else b)=true:=by decide+kernel
theorem Uj: ∀b:Bool,sB (bif b then 0 else 1) 8=false/\sB (bif b then 0 else 1) 4=false:=by decide+kernel
theorem Si: ∀n:_root_.Fin 64,(ai .i64 (n.val:Int) 2=0↔sB (n.val:Int) 2=false)/\(ai .i64 (n.val:Int) 1=0↔sB (n.val:Int) 1=false):=by decide+kernel
theorem HN {N:Nat}(hN:20000<=N)(hE:d.Zk.length<=5000)(hP:d.Zm.length<=1024)(hw:Wf d){n:Int}{d1:WO}{b:Bool}(e:lV N d n=some (d1,b)):d1.Zs=d.Zs:=by
 rw [CC hN hE hP hw n] at e;have e:=YM e;unfold we at e
 cases e':(decide (n<0)||decide (4096<n)||(d.Zs&& !decide (n=(d.Zk.length:Int)))) with
 |true=>rw [e',cond_true] at e;exact (congrArg (fun z:WO×Bool=>z.1.Zs) e).symm
 |false=>rw [e',cond_false] at e;exact (congrArg (fun z:WO×Bool=>z.1.Zs) e).symm
section
variable {N:Nat}(hN:20000<=N){v:WV}(hv:v.Za=7)(hvN:v.N=i){k q:Nat}(hk:k+8<=580)(hq:q+1024*1000<=1000000000){w:WM}(hM:d.Zk.length<=2190)(hL:d.Zm.length<1000)(h:Sim N i k q w c d)
include hN hv hvN hk hq hM hL h
theorem ND (hd:PD dd): ∃z,lE N (vb d) true d.Ext lenK dd=some z/\du N (vb d) true true lenK dd=some z/\(z.2=true->(ai .i64 z.1.Zd 1=0↔(bif sB dd.Has 2 then !sB dd.Zd 1 else d.Zs)=true)):=by
 have _:=hv
 have _:=hvN
 have _:=hk
 have _:=hq
 have _:=hL
 have hl:iQ d lenK=(vb d,true):=by
  unfold iQ;rw [WY rfl];rfl
 have ho:=KA I h.wf h.pv h.ev lenK;rw [hl] at ho;have hlb:0<=(vb d).Zd/\(vb d).Zd<=15:=ho.b;have hB:=zk N hd.r hlb;rw [ME N lenK hlb ho.n hd.r,zn N lenK hlb hd.r,zn N lenK hlb hd.r];obtain ⟨p8,p4⟩:=Uj d.Zs;have e4:sB (vb d).Zd 4=false:=p4;have e8:sB (vb d).Zd 8=false:=p8;rw [nt,cf,e4,nf,ct]
 have hR:keyR N lenK:=by
  unfold keyR bc;show Option.bind (jc N lenK.S) _=_
  have:jc N lenK.S=some (0,false):=by
   obtain ⟨n,rfl⟩: ∃n,N=n+64:=⟨N - 64,by omega⟩;kernel_rfl
  rw [this];rfl
 obtain ⟨y,hy, -⟩:=MD N hR hd hlb ho.v ho.v8 ho.g ho.s true true;rw [zn N lenK hlb hd.r,nt,cf,e4,nf,ct] at hy;refine ⟨y,hy,hy,fun e=> ?_⟩
 cases hb:ic N (vb d) dd with
 |none=>rw [hb] at hy;cases hy
 | some b=>
  rw [hb,bs] at hy
  cases b with
  |true=>rw [ct] at hy;obtain rfl:=bD hy;cases e
  | false=>
   rw [cf] at hy;obtain rfl:=bD hy
   have hacc:(sB dd.Has 4||sB dd.Has 8)=false:=by
    cases e':(sB dd.Has 4||sB dd.Has 8) with
    |false=>rfl
    | true=>
     rw [<-Iy N hlb hB] at hb;unfold pp at hb;rw [hB.says 32 I,bs,hB.da 4 I,bs,DU,bs] at hb
     cases e5:(bif sB dd.Has 32 then sB dd.Zd 4 else false) with
     |true=>rw [e5,ct] at hb;cases hb
     | false=>
      rw [e5,cf,hB.says 16 I,bs,hB.da 2 I,bs,hB.pb 2 I,bs,DU,bs] at hb
      cases e6:(bif sB dd.Has 16 then !(sB dd.Zd 2==sB (vb d).Zd 2) else false) with
      |true=>rw [e6,ct] at hb;cases hb
      |false=>
       rw [e6,cf,hB.pb 8 I,bs,e8,cf,hB.acc,bs,e',ct] at hb;cases hb
   have hf:=Ua ⟨dd.Zd.toNat,by have:=hd.r.a;omega⟩ d.Zs (sB dd.Has 2) (sB dd.Has 16) (sB dd.Has 32);simp only [Xp hd.r.a.1] at hf
   have ea:(F7 lenK (vb d) dd).Zd=(kK dd.Zd (bif d.Zs then 0 else 1) (sB dd.Has 16) 2+kK dd.Zd (bif d.Zs then 0 else 1) (sB dd.Has 32) 4)+kK dd.Zd (bif d.Zs then 0 else 1) (sB dd.Has 2) 1:=by
    show _+(bif (sB dd.Has 4||sB dd.Has 8)||(sB (vb d).Zd 8&& !(sB dd.Has 1||sB dd.Has 2)) then (8:Int) else bif sB (vb d).Zd 8 then _ else _)=_;rw [hacc,e8];rfl
   show ai .i64 (F7 lenK (vb d) dd).Zd 1=0↔_;rw [ea];exact hf
def Od (N:Nat)(i:Int)(k q:Nat)(w:WM)(d d':WO)(w':WM):Prop:=d'.Zk.length<=max d.Zk.length 2101/\d'.Zm.length<=d.Zm.length+1/\Cm N i (k+8) (q+1024*1000) w d' w'
theorem PK (a8:k+16<=580)(hd:PD dd)(hval:dd.Value.N<=2100\/4096<dd.Value.N):Sat (nb N w v c dd) fun r=> ∃d',oW N d dd=some (d',r.1,r.2.1)/\Od N i k q w d d' r.2.2:=by
 have same: ∀b:Bool, ∃d',some (d,false,b)=some (d',false,b)/\Od N i k q w d d' w:=fun b=>⟨d,rfl,by omega,by omega,c,h.up I I,FrW.refl w⟩
 have eL:dp N=some lenK:=rfl;have eL':bX N=some lenK:=rfl
 have hl:iQ d lenK=(vb d,true):=by
  unfold iQ;rw [WY rfl];rfl
 obtain ⟨z,z1,z2,z3⟩:=ND hN hv hvN hk hq hM hL h hd;have h6:=Si ⟨dd.Has.toNat,by have:=hd.r.h;omega⟩;simp only [Xp hd.r.h.1] at h6;have h6a:=Si ⟨dd.Zd.toNat,by have:=hd.r.a;omega⟩;simp only [Xp hd.r.a.1] at h6a;unfold nb oW;generalize hbad:((bif !decide (ai .i64 dd.Has 1=0) then ((bif !decide (dd.Value.Za=3) then (some true) else (some (decide (dd.Value.N<0)))).bind fun b7=>(bif b7 then (some true) else (some (decide (4096<dd.Value.N)))).bind fun b8=>some b8) else (some false)):Option Bool)=bad
 obtain ⟨b,rfl⟩: ∃b,bad=some b:=by
  rw [<-hbad];cases decide (ai .i64 dd.Has 1=0)<;>cases decide (dd.Value.Za=3)<;>cases decide (dd.Value.N<0)<;>cases decide (4096<dd.Value.N)<;>exact ⟨_,rfl⟩
 rw [bs,bs]
 cases b with
 |true=>exact ac (same true)
 | false=>
  rw [cf,cf,Hw I h,bs,eL',bs,z2,bs,eL,bs,HV hN I I h.wf lenK,bs,bs,hl,z1,bs]
  cases ez:z.2 with
  |false=>exact ac (same false)
  | true=>
   have hw:=z3 ez;rw [nt,cf,cf]
   have hfix:(bif !decide (ai .i64 dd.Has 2=0) then (some (decide (ai .i64 dd.Zd 1=0))) else (some false):Option Bool)=some (sB dd.Has 2&& !sB dd.Zd 1):=by
    have a1:decide (ai .i64 dd.Has 2=0)=!sB dd.Has 2:=by
     cases e:sB dd.Has 2 with
     |false=>rw [WY (h6.1.2 e)];rfl
     |true=>rw [WZ fun e2=>by rw [h6.1.1 e2] at e;cases e];rfl
    have a2:decide (ai .i64 dd.Zd 1=0)=!sB dd.Zd 1:=by
     cases e:sB dd.Zd 1 with
     |false=>rw [WY (h6a.2.2 e)];rfl
     |true=>rw [WZ fun e2=>by rw [h6a.2.1 e2] at e;cases e];rfl
    rw [a1,a2,Bool.not_not];cases sB dd.Has 2<;>rfl
   have hz1:decide (ai .i64 z.1.Zd 1=0)=(bif sB dd.Has 2 then !sB dd.Zd 1 else d.Zs):=by
    cases e:(bif sB dd.Has 2 then !sB dd.Zd 1 else d.Zs) with
    |true=>exact WY (hw.2 e)
    |false=>exact WZ fun e2=>by rw [hw.1 e2] at e;cases e
   rw [hz1];by_cases hs:ai .i64 dd.Has 1=0
   ·rw [WY hs,nt,nf,ct,cf];unfold km kl;rw [hfix,bs];obtain ⟨w',p,⟨c',s⟩,fr⟩:=Sv hN hv hvN hk I h
    cases e2:sB dd.Has 2 with
    | false=>
     rw [cf];show Sat (bif d.Zs then _ else _) _
     cases eF:d.Zs with
     |false=>
      rw [cf]
      have ed:Ig d false=d:=by unfold Ig;rw [<-eF]
      exact ac ⟨Ig d false,J,by rw [ed];omega,by rw [ed];omega,c,by rw [ed];exact h.up I I,FrW.refl w⟩
     |true=>
      rw [ct,xB hv hvN I I h,bs];show Sat (Option.bind (az N w v ⟨c.Za,c.Zi,cP .i64 c.Ze 32,c.Zg,c.Zc,c.Zb⟩) _) _;rw [p,bs];exact ac ⟨Ig d true,J,by show d.Zk.length<=_;omega,by show d.Zm.length<=_;omega,c',s.up I I,fr⟩
    | true=>
     rw [ct,Xi]
     cases e1:sB dd.Zd 1 with
     |true=>
      rw [nt,cf,cf];exact ac ⟨d,J,by omega,by omega,c,h.up I I,FrW.refl w⟩
     |false=>
      rw [nf,ct,ct,xB hv hvN I I h,bs];show Sat (Option.bind (az N w v ⟨c.Za,c.Zi,cP .i64 c.Ze 32,c.Zg,c.Zc,c.Zb⟩) _) _;rw [p,bs];exact ac ⟨Ig d true,J,by show d.Zk.length<=_;omega,by show d.Zm.length<=_;omega,c',s.up I I,fr⟩
   rw [WZ hs,nf,nt,ct,cf]
   refine Sat.bind (Ey hN hv hvN hk hq I hL h hval) fun r hr=> ?_
   obtain ⟨d1,e1,l1,l2,c1,s1,f1⟩:=hr;rw [e1,bs];unfold km kl;rw [hfix,bs];obtain ⟨w',p,⟨c',s⟩,fr⟩:=Sv hN hv hvN (by omega:k+8+8<=580) I s1;have hfx1:d1.Zs=d.Zs:=HN hN I I h.wf e1;have stay: ∃d',some ((⟨d1.Ext,d1.Zs,d1.Zk,d1.Zm⟩:WO),r.1,false)=some (d',r.1,false)/\Od N i k q w d d' r.2:=⟨d1,rfl,l1,by omega,c1,s1,f1⟩
   have go:Sat ((cB N r.2 v).bind fun a6=>(az N r.2 v (⟨a6.1.Za,a6.1.Zi,cP .i64 a6.1.Ze 32,a6.1.Zg,a6.1.Zc,a6.1.Zb⟩:WI)).bind fun a7=>some (r.1,false,a7)) fun z=> ∃d',some ((⟨d1.Ext,true,d1.Zk,d1.Zm⟩:WO),r.1,false)=some (d',z.1,z.2.1)/\Od N i k q w d d' z.2.2:=by
    rw [xB hv hvN I I s1,bs];show Sat (Option.bind (az N r.2 v ⟨c1.Za,c1.Zi,cP .i64 c1.Ze 32,c1.Zg,c1.Zc,c1.Zb⟩) _) _;rw [p,bs];exact ac ⟨Ig d1 true,J,l1,by show d1.Zm.length<=_;omega,c',s,f1.trans fr⟩
   cases e2:sB dd.Has 2 with
   | false=>
    rw [cf];show Sat (bif d.Zs then _ else _) _
    cases eF:d.Zs with
    |false=>
     rw [cf];exact ac stay
    |true=>
     have e:d1.Zs=true:=by rw [hfx1,eF]
     rw [ct,Xg,cf,e];exact go
   | true=>
    rw [ct,Xi]
    cases e1:sB dd.Zd 1 with
    |true=>
     rw [nt,cf,cf];exact ac stay
    |false=>
     rw [nf,ct,ct];exact go
end
end
section
open Go.RowKit
set_option maxRecDepth 20000
def PrimB (x:WV):Prop:=(x.Za<7/\ln x=true)\/x=bU
theorem PrimB.prim (h:PrimB x)(hi:in64 x.N):Prim x:=by
 rcases h with ⟨h1,h2⟩|rfl
 ·refine ⟨h2,hi,?_⟩;unfold bK;rw [WZ (show¬x.Za=7 by omega),WZ (show¬x.Za=9 by omega)];rfl
 exact tT
theorem Vk (h:ln x=true)(h0:x.Za=0):x=v0:=by
 obtain ⟨a,b,s⟩:=x;simp only at h0;subst h0;unfold ln dK at h
 cases e:(s.toList==(⟨#[]⟩:ByteArray).toList) with
 |false=>
  rw [show ((⟨0,b,s⟩:WV).S.toList==(⟨#[]⟩:ByteArray).toList)=false from e] at h;exact absurd h (by show¬(Option.getD (some false) false)=true;decide)
 |true=>
  have hs:=oS.1 (eq_of_beq e);subst hs;rw [show ((⟨0,b,⟨#[]⟩⟩:WV).S.toList==(⟨#[]⟩:ByteArray).toList)=true from e] at h;have h2:(Option.getD (some (decide (b=0))) false)=true:=h;have:b=0:=YV h2;subst this;rfl
theorem PrimB.half (h:PrimB x)(hk:x.Za=0\/x.Za=7):x=v0:=by
 rcases h with ⟨h1,h2⟩|rfl
 ·rcases hk with h0|h7
  ·exact Vk h2 h0
  omega
 rcases hk with h0|h7
 ·cases h0
 cases h7
structure PDesc (dd:WG):Prop where
 i:in64 dd.Has
 a:in64 dd.Zd
 n:in64 dd.Value.N
 v:PrimB dd.Value
 g:PrimB dd.Zq
 s:PrimB dd.Zr
theorem PDesc.pd (h:PDesc dd)(r:R25 dd):PD dd:=by
 refine ⟨r,h.v.prim h.n,fun e=>by have:=r.vk;omega,?_,?_⟩
 ·cases e:sB dd.Has 4 with
  |false=>exact r.g.1 e
  |true=>exact h.g.half (r.g.2 e)
 cases e:sB dd.Has 8 with
 |false=>exact r.s.1 e
 |true=>exact h.s.half (r.s.2 e)
section
variable {N:Nat}(hN:20000<=N){v:WV}(hv:v.Za=7)(hvN:v.N=i){k q:Nat}(hk:k+16<=580)(hq:q+1024*1000<=1000000000){w:WM}(hM:d.Zk.length<=2190)(hL:d.Zm.length<1000)(h:Sim N i k q w c d)
include hN hv hvN hk hq hM hL h
theorem PM (hkey:key.Za=0->key.N<=2100\/4096<=key.N)(hd:PDesc dd)(hval:dd.Value.N<=2100\/4096<dd.Value.N):Sat (eu N w v key dd) fun r=> ∃d',gC N d key dd=some (d',r.1,r.2.1)/\Od N i k q w d d' r.2.2:=by
 have same: ∃d',some (d,false,false)=some (d',false,false)/\Od N i k q w d d' w:=⟨d,rfl,by omega,by omega,c,h.up I I,FrW.refl w⟩;have eL:bX N=some lenK:=rfl;have eL':dp N=some lenK:=rfl;have a7:=HT N hN key;have b0:=Kn N (d:=dd) hd.i hd.a;obtain ⟨b,hb, -⟩:=CR N I key;obtain ⟨b2,a6,h25⟩:=QC N dd;have hdr:fD N dd=some b2:=b0.symm.trans a6
 have hh: ∀{ρ:Type} (F:WI×Bool->Bool->Option ρ),((cB N w v).bind fun a8=>(bif !a8.2 then (some true) else ((bc N key).bind fun b5=>some (!b5))).bind fun b6=>F a8 b6)=F (c,true) (!b):=fun F=>by
  rw [xB hv hvN I I h,bs];show Option.bind (Option.bind (bc N key) _) _=_;rw [hb,bs,bs]
 cases b with
 |false=>
  unfold gC eu;rw [hh,a7,hb,bs];exact ac same
 | true=>
  cases b2 with
  |false=>
   unfold gC eu;rw [hh,a7,hb,bs]
   show Sat (Option.bind (Option.bind (fD N dd) _) _) fun r=> ∃d',Option.bind (Option.bind (dW N dd) _) _=_/\_
   rw [hdr,a6,bs];exact ac same
  | true=>
   have hR:keyR N key:=hb;have hp:=hd.pd (h25 rfl);by_cases hl:key=lenK
   ·have hx:=PK hN hv hvN I hq hM hL h hk hp hval;unfold gC eu;rw [hh,a7,hb,bs]
    show Sat (Option.bind (Option.bind (fD N dd) _) _) fun r=> ∃d',Option.bind (Option.bind (dW N dd) _) _=_/\_
    rw [hdr,a6,bs,bs,bs,nt,cf,cf,eL,eL',bs,bs,WY hl,ct,ct]
    refine hx.bind fun r hr=>ac ?_
    obtain ⟨d',r1,r2⟩:=hr;exact ⟨d',by rw [r1];rfl,r2⟩
   refine Sat.mono (NX hN hv hvN I I I hL h hR hl hkey hp a6 hdr) fun r hr=> ?_
   obtain ⟨d',r1,r2,r3,c',r4,r5⟩:=hr;exact ⟨d',r1,r2,r3,c',r4.up (YB _) I,r5⟩
end
end
section
open Go.RowKit
set_option maxRecDepth 20000
theorem O1 {ρ:Int->Int}{f:List Int}(h:bK x=false):fX ρ f x=x:=by
 unfold fX;rw [h];rfl
theorem CO (ρ:Int->Int)(f:List Int)(x:WV):(fX ρ f x).Za=x.Za:=by
 unfold fX;cases bK x&&decide (x.N∈f)<;>rfl
theorem Prim.mov (h:Prim x)(ρ:Int->Int)(f:List Int):fX ρ f x=x:=O1 h.no
theorem SI (ρ:Int->Int)(f:List Int):fX ρ f v0=v0:=O1 rfl
section
variable {N:Nat}{k q:Nat}{w:WM}(h:Sim N i k q w c d)
include h
theorem Mv.sim {g':WD}{ρ:Int->Int}{f:List Int}(m:Mv w.Zo g' ρ f)(hi:i∈f): ∃c',Sim N (ρ i) k q (HO w g') c' d:=by
 obtain ⟨m1,age,m2⟩:=m.at_ i hi;obtain ⟨in1,in2⟩:=m.cin i hi;rw [h.ob.at_] at in1 in2 m2;have hpl:=m.pl h.ob.wd.pl
 have eM:c.Zb.map (fX ρ f)=c.Zb:=by
  rw [h.el];exact (List.map_congr_left fun x hx=>(h.ev x hx).mov ρ f).trans (List.map_id' _)
 have hm2:cn g'.m_ (ρ i)=⟨c.Za,c.Zi,c.Ze,age,c.Zc.map (fX ρ f),c.Zb⟩:=by
  rw [m2];show (⟨c.Za,c.Zi,c.Ze,age,c.Zc.map (fX ρ f),c.Zb.map (fX ρ f)⟩:WI)=_;rw [eM]
 have hin:cn g'.m_ (ρ i)∈g'.m_.Zh++g'.m_.Zj:=pf m1
 have hb:Hb k c.Zb.length g':=by
  have a1:=h.ob.wd.hb.hw;have a2:=h.ob.wd.hb.hm;have a3:=h.ob.wd.hb.hr;have e1:=Gz w.Zo.m_.Zh;have e2:=Gz w.Zo.m_.Zj;have e3:=Gz g'.m_.Zh;have e4:=Gz g'.m_.Zj;have b1:=m.sum;have b2:=m.wts
  have hx:c.Zb.length<=mS g'.m_.Zh+mS g'.m_.Zj:=by
   rcases X7.1 hin with hc|hc
   ·have b:=tz (fun c:WI=>c.Zb.length) hc;have b:(cn g'.m_ (ρ i)).Zb.length<=mS g'.m_.Zh:=b;rw [hm2] at b;show c.Zb.length<=_;have b:c.Zb.length<=mS g'.m_.Zh:=b;omega
   have b:=tz (fun c:WI=>c.Zb.length) hc;have b:(cn g'.m_ (ρ i)).Zb.length<=mS g'.m_.Zj:=b;rw [hm2] at b;have b:c.Zb.length<=mS g'.m_.Zj:=b;omega
  refine ⟨by omega,by omega,?_⟩;rw [m.roots,YZ];exact a3
 refine ⟨⟨c.Za,c.Zi,c.Ze,age,c.Zc.map (fX ρ f),c.Zb⟩,⟨⟨hpl,hb,h.ob.wd.ti,h.ob.wd.tb⟩,m1,hm2,⟨h.ob.oc.kind,?_,h.ob.oc.plain,h.ob.oc.row,?_,h.ob.oc.nd,h.ob.oc.noP⟩,?_,?_⟩,h.ar,h.el,h.ex,h.fx,h.wf,h.pv,h.ev⟩
 ·obtain ⟨z,z1,z2⟩:=h.ob.oc.proto;exact ⟨fX ρ f z,by rw [XP,z1];rfl,by rw [CO];exact z2⟩
 ·rw [YZ];exact h.ob.oc.num
 ·intro n p hp;obtain ⟨x,x1,x2⟩:=h.ob.each n p hp;have hpv:=h.pv p (Yd hp);refine ⟨fX ρ f x,by rw [XP,x1];rfl,?_⟩;rcases x2 with ⟨a1,a2,a3,a4,a5⟩|⟨a1,a2,a,ag,rfl,a4,a5⟩
  ·refine .inl ⟨a1,?_,a3,a4,by rw [CO];exact a5⟩;rw [a2,(a2▸hpv.v:Prim x).mov]
  have ha:a∈f:=in1 _ (Yd x1) rfl;obtain ⟨b1,age2,b2⟩:=m.at_ a ha;refine .inr ⟨a1,a2,ρ a,age2,CN J ha,b1,?_⟩;refine b2.trans ?_;show HP (rX ρ f (cn w.Zo.m_ a)) age2=_;rw [a5,hpv.g,hpv.s];show (⟨5,0,0,age2,[fX ρ f v0,fX ρ f v0],[]⟩:WI)=_;rw [SI]
 intro n n2 x y hne hx hy kx ky;rw [XP] at hx hy;obtain ⟨x0,a6,rfl⟩:=Option.map_eq_some_iff.1 hx;obtain ⟨y0,a7,rfl⟩:=Option.map_eq_some_iff.1 hy;rw [CO] at kx ky
 have bx:bK x0=true:=by unfold bK;rw [kx];rfl
 have by_:bK y0=true:=by unfold bK;rw [ky];rfl
 have fx:=in1 _ (Yd a6) bx;have fy:=in1 _ (Yd a7) by_;rw [CN bx fx,CN by_ fy];intro e;exact h.ob.inj n n2 x0 y0 hne a6 a7 kx ky (m.inj _ fx _ fy e)
theorem Q7 (hN:6500<N)(hr:w.Zo.Zt=R++ [⟨7,i,⟨#[]⟩⟩]): ∃g' i' R' c',dt N w.Zo=some (0,g')/\R'.length=R.length/\g'.Zt=R'++ [⟨7,i',⟨#[]⟩⟩]/\Sim N i' k q (HO w g') c' d:=by
 obtain ⟨g',ρ,f,e,m⟩:=O6 hN h.ob.wd.pl;have hi:i∈f:=m.rin ⟨7,i,⟨#[]⟩⟩ (by rw [hr];exact W4 _ (Yh.2 rfl)) rfl;obtain ⟨c',s⟩:=Mv.sim h m hi;refine ⟨g',ρ i,R.map (fX ρ f),c',e,YZ ..,?_,s⟩;rw [m.roots,hr,X4];show _++ [fX ρ f ⟨7,i,⟨#[]⟩⟩]=_;rw [CN rfl hi]
end
end
section
open Go.RowKit
def rk (k:WL):Int:=if k.Za=0 then k.N else 8589934592*k.Za
structure RKey (k:WL):Prop where
 kd:0<=k.Za/\k.Za<=2
 n:k.Za=0->0<=k.N/\k.N<=4294967294
def SoK (l:List WL):Prop:=l.Pairwise (fun a b=>rk a<=rk b)
def EvK (l z:List WL):Prop:= ∀r:Int,l.filter (fun x=>decide (rk x=r))=z.filter (fun x=>decide (rk x=r))
theorem EvK.refl (l:List WL):EvK l l:=fun _=>rfl
theorem EvK.trans {y z:List WL}(h:EvK l y)(h2:EvK y z):EvK l z:=fun r=>(h r).trans (h2 r)
theorem EvK.app {a b c d:List WL}(h:EvK a b)(h2:EvK c d):EvK (a++c) (b++d):=fun r=>by
 rw [XB,XB,h r,h2 r]
theorem JF {r:Int}(h:∀x∈l,rk x≠r):l.filter (fun x=>decide (rk x=r))=[]:=by
 rw [List.filter_eq_nil_iff];intro x hx e;exact h x hx (YV e)
theorem EvK.swap {U V:List WL}(h:∀x∈U, ∀y∈V,rk x≠rk y):EvK (U++V) (V++U):=fun r=>by
 rw [XB,XB];by_cases e: ∃x∈U,rk x=r
 ·obtain ⟨x,hx,rfl⟩:=e;rw [JF (l:=V) fun y hy e=>h x hx y hy e.symm,Xr,Y4]
 rw [JF (l:=U) fun x hx e2=>e ⟨x,hx,e2⟩,Xr,Y4]
theorem EvK.perm {z:List WL}(h:EvK l z):l.Perm z:=by
 rw [List.perm_iff_count];intro x
 have e: ∀l:List WL,l.count x=(l.filter (fun y=>decide (rk y=rk x))).count x:=fun l=>by
  rw [List.count_filter (by simp)]
 rw [e l,e z,h]
theorem EvK.len {z:List WL}(h:EvK l z):l.length=z.length:=h.perm.length_eq
theorem EvK.mem {z:List WL}(h:EvK l z){x:WL}:x∈l↔x∈z:=h.perm.mem_iff
theorem SoK.app {a b:List WL}(h1:SoK a)(h2:SoK b)(h:∀x∈a, ∀y∈b,rk x<=rk y):SoK (a++b):=List.pairwise_append.2 ⟨h1,h2,h⟩
theorem SoK.parts {a b:List WL}(h:SoK (a++b)):SoK a/\SoK b/\ ∀x∈a, ∀y∈b,rk x<=rk y:=List.pairwise_append.1 h
theorem SoK.nil:SoK []:=List.Pairwise.nil
theorem SoK.one (x:WL):SoK [x]:=List.pairwise_singleton ..
theorem Sz (N:Nat)(a b:Int): ∃z,oO N a b=some z/\(z<0↔a<b):=by
 unfold oO uQ;rw [bs,bs,WY rfl,WY rfl];simp only [nt,cf];by_cases h:a<b
 ·rw [WY h,ct];exact ⟨-1,J,by omega⟩
 rw [WZ h,cf];by_cases h2:b<a
 ·rw [WY h2,ct];exact ⟨1,J,by omega⟩
 rw [WZ h2,cf];exact ⟨0,J,by omega⟩
theorem D6 (N:Nat){a b:WL}(ha:RKey a)(hb:RKey b):Sat (nv N a b) fun z=>z<0↔rk a<rk b:=by
 obtain ⟨⟨a1,a2⟩,a3⟩:=ha;obtain ⟨⟨b1,b2⟩,b3⟩:=hb;obtain ⟨z,z1,z2⟩:=Sz N a.N b.N;obtain ⟨y,y1,y2⟩:=Sz N a.Za b.Za;unfold nv rk;by_cases ha:a.Za=0
 ·rw [WY ha,ct,bs,if_pos ha];have:=a3 ha;by_cases hb:b.Za=0
  ·rw [WY hb,ct,if_pos hb,z1,bs];exact ac z2
  rw [WZ hb,cf,if_neg hb,y1,bs];refine ac (y2.trans ?_);omega
 rw [WZ ha,cf,bs,cf,if_neg ha,y1,bs];refine ac (y2.trans ?_);by_cases hb:b.Za=0
 ·rw [if_pos hb];have:=b3 hb;omega
 rw [if_neg hb];omega
theorem IA {l P S:List α}{x:α}(e:l=P++x::S):l[P.length]? =some x:=by
 rw [e,XI (YB _),YG];rfl
theorem iP {l P S:List α}{x:α}{f:α->Option ρ}{Q:ρ->Prop}(e:l=P++x::S)(hi:i=(P.length:Int))(k:Sat (f x) Q):Sat ((aq l i).bind f) Q:=by
 subst hi
 refine pX I (by rw [e,YX];simp only [XW];omega) fun y hy=> ?_
 rw [Xo,IA e] at hy;cases hy;exact k
theorem yQ {P S:List α}{x y:α}:(P++x::S).set P.length y=P++y::S:=by
 rw [List.set_append_right _ _ (YB _),YG];rfl
theorem Ve {l P M S:List α}{x y:α}{j:Int}(e:l=P++x::(M++y::S))(hi:i=(P.length:Int))(hj:j=(P.length:Int)+1+M.length):(l.set i.toNat y).set j.toNat x=P++y::(M++x::S):=by
 subst e hi;rw [Xo,yQ]
 have e1:P++y::(M++y::S)=(P++y::M)++y::S:=by simp
 have e2:j.toNat=(P++y::M).length:=by simp;omega
 rw [e1,e2,yQ];simp
theorem Ue {l P M S:List α}{x y:α}{j:Int}(e:l=P++x::(M++y::S))(hi:i=(P.length:Int))(hj:j=(P.length:Int)+1+M.length):(l.set j.toNat x).set i.toNat y=P++y::(M++x::S):=by
 rw [List.set_comm _ _ I];exact Ve e hi hj
theorem Dm (N:Nat)(x y k:Int): ∀(m:Nat) (U V P M S l:List WL) (t:Int),V.length=U.length->U.length<m->x+t=P.length->y+t=P.length+U.length+M.length->k - t=U.length->0<=t->t<=10000->k<=10000->l.length<=10000->l=P++(U++(M++(V++S)))->Sat (cy N x y k m l t) fun r=>r=P++(V++(M++(U++S)))
 |0,U,V,P,M,S,l,t,h1,h2,_,_,_,_,_,_,_,_=>by omega
 | m +1,U,V,P,M,S,l,t,h1,h2,h3,h4,h5,h6,h7,h8,h9,h10=>by
  rw [cy.eq_2]
  cases U with
  |nil=>
   cases V with
   |cons v V=>cases h1
   |nil=>exact aC (fun h=>by simp only [XZ] at h5;omega) fun _=>ac h10
  | cons u U=>
   cases V with
   |nil=>cases h1
   | cons v V=>
    simp only [XW] at h1 h2 h4 h5;have hlen:=congrArg List.length h10;simp only [YX,XW] at hlen
    refine aC (fun h=> ?_) fun h=>by omega
    have ea:l=P++u::((U++M)++v::(V++S)):=by rw [h10];simp
    have eb:l=(P++u::(U++M))++v::(V++S):=by rw [h10];simp
    have ec:l.set ((x+t).toNat) v=P++v::((U++M)++v::(V++S)):=by
     rw [h3,ea,Xo,yQ]
    refine aw (by constructor<;>omega) (aw (by constructor<;>omega) (aw (by constructor<;>omega) (iP eb (by simp only [YX,XW];omega) (aw (by constructor<;>omega) (iP ea h3 (iP ea h3 ?_))))));refine iP (l:=l.set ((x+t).toNat) v) (P:=P++v::(U++M)) (x:=v) (S:=V++S) (by rw [ec];simp) (by simp only [YX,XW];omega) (aw (by constructor<;>omega) ?_);have e:=Ve (i:=x+t) (j:=y+t) ea h3 (by simp only [YX];omega);have hi:=Dm N x y k m U V (P++ [v]) (M++ [u]) S (P++v::((U++M)++u::(V++S))) (t+1) I I (by simp only [YX,XW,XZ];omega) (by simp only [YX,XW,XZ];omega) I I I h8 (by simp only [YX,XW];omega) (by simp)
    have:Sat (cy N x y k m ((l.set ((x+t).toNat) v).set ((y+t).toNat) u) (t+1)) fun r=>r=P++((v::V)++(M++((u::U)++S))):=by
     rw [e]
     exact hi.mono fun r hr=>by rw [hr];simp
    exact this
theorem Kh (N:Nat)(hN:20000<=N){U V M:List WL}{x y k:Int}(h1:V.length=U.length)(hx:x=P.length)(hy:y=(P.length:Int)+U.length+M.length)(hk:k=U.length)(hl:l.length<=6000)(e:l=P++(U++(M++(V++S)))):Sat (cD N l x y k) fun r=>r=P++(V++(M++(U++S))):=by
 have hlen:=congrArg List.length e;simp only [YX] at hlen;exact Dm N x y k N U V P M S l 0 h1 I I I I I I I I e
theorem FU {j:Nat}(h:j<=l.length): ∃A B,l=A++B/\A.length=j:=⟨l.take j,l.drop j,(Yq j l).symm,by rw [YY];omega⟩
theorem Ai (N:Nat)(hN:20000<=N)(q:Int): ∀(m:Nat) (U V P S l:List WL) (i j:Int),i=U.length->j=V.length->i+j<m->0<i->0<j->q=(P.length:Int)+U.length->l.length<=6000->l=P++(U++(V++S))->Sat (cT N q m l i j) fun r=>r=P++(V++(U++S))
 |0,U,V,P,S,l,i,j,h1,h2,h3,h4,h5,_,_,_=>by omega
 | m+1,U,V,P,S,l,i,j,h1,h2,h3,h4,h5,h6,h7,h8=>by
  have hlen:=congrArg List.length h8;simp only [YX] at hlen;rw [cT.eq_2]
  refine D0 (fun e=>aC (fun h=> ?_) fun h=> ?_) fun e=> ?_
  ·obtain ⟨U1,U2,rfl,hU⟩:=FU (l:=U) (j:=j.toNat) I;simp only [YX] at h1 h6 hlen;refine aw (by constructor<;>omega) ((Kh N hN (U:=U1) (V:=V) (P:=P) (M:=U2) (S:=S) I I I I h7 (by rw [h8];simp)).bind fun r hr=>aw (by constructor<;>omega) ?_)
   exact (Ai N hN q m U2 U1 (P++V) S r (i - j) j I I I I h5 (by simp only [YX];omega) (by rw [hr];simp only [YX];omega) (by rw [hr];simp)).mono fun z hz=>by rw [hz];simp
  ·have:=YU e;obtain ⟨V1,V2,rfl,hV⟩:=FU (l:=V) (j:=(j - i).toNat) I;simp only [YX] at h2 hlen;refine aw (by constructor<;>omega) (aw (by constructor<;>omega) (aw (by constructor<;>omega) ((Kh N hN (U:=U) (V:=V2) (P:=P) (M:=V1) (S:=S) I I I I h7 (by rw [h8];simp)).bind fun r hr=>aw (by constructor<;>omega) ?_)))
   exact (Ai N hN q m V2 V1 P (U++S) r i (j - i) I I I h4 I I (by rw [hr];simp only [YX];omega) (by rw [hr])).mono fun z hz=>by rw [hz];simp
  have:=YV e;unfold gM;exact aw (by constructor<;>omega) ((Kh N hN (U:=U) (V:=V) (P:=P) (M:=[]) (S:=S) I I (by simp only [XZ];omega) I h7 h8).bind fun r hr=>ac (by rw [hr];simp))
theorem Ug (N:Nat)(hN:20000<=N){U V:List WL}{a q b:Int}(ha:a=P.length)(hq:q=(P.length:Int)+U.length)(hb:b=(P.length:Int)+U.length+V.length)(hU:0<U.length)(hV:0<V.length)(hl:l.length<=6000)(e:l=P++(U++(V++S))):Sat (eD N l a q b) fun r=>r=P++(V++(U++S)):=by
 have hlen:=congrArg List.length e;simp only [YX] at hlen;unfold eD;exact aw (by constructor<;>omega) (aw (by constructor<;>omega) (Ai N hN q N U V P S l _ _ I I I I I hq hl e))
theorem I3 (N:Nat)(kb:List WL->Int->Option WX)(a b p5:Int)(h5:0<=p5/\p5<10000)(R:List WL->Prop)(P S:List WL)(hP:a=P.length)(x:WL)(hx:RKey x):
  ∀(m:Nat) (A B l:List WL) (j:Int),j=(P.length:Int)+A.length->A.length<m->l.length<=6000->l=P++(A++x::(B++S))->(∀y∈A,RKey y)->
  (∀A1 A2:List WL,A=A1++A2->(∀y∈A2,rk x<rk y)->(∀y,A1.getLast? =some y->rk y<=rk x)->Sat (kb (P++(A1++x::(A2++(B++S)))) (p5+1)) R)->Sat (bR N kb a b p5 m l j) R
 |0,A,B,l,j,_,h,_,_,_,_=>by omega
 | m +1,A,B,l,j,hj,h,hl,e,hA,hk=>by
  have hlen:=congrArg List.length e;simp only [YX,XW] at hlen;rw [bR.eq_2]
  have stop:(∀y,A.getLast? =some y->rk y<=rk x)->Sat (cL N kb a b p5 l) R:=fun hy=>by
   unfold cL;have:=hk A [] (by simp) (fun y hy=>by cases hy) hy;exact aw (by constructor<;>omega) (by rw [e];exact this)
  rcases List.eq_nil_or_concat A with rfl|⟨A',y,rfl⟩
  ·rw [WZ (show¬a<j by simp only [XZ] at hj;omega),cf,bs,cf]
   exact stop fun y hy=>by cases hy
  rw [List.concat_eq_append] at*;simp only [YX,XW,XZ] at hj h hlen
  have ex:l=(P++(A'++ [y]))++x::(B++S):=by rw [e];simp
  have ey:l=(P++A')++y::([]++x::(B++S)):=by rw [e];simp
  have lx:j=(((P++(A'++ [y])).length:Nat):Int):=by simp only [YX,XW,XZ];omega
  have ly:j - 1=(((P++A').length:Nat):Int):=by simp only [YX];omega
  rw [WY (show a<j by omega),ct]
  refine Sat.bind (P:=fun c=>c=true↔rk x<rk y) (iP ex lx (aw (by constructor<;>omega) (iP ey ly ((D6 N hx (hA y (by simp))).bind fun z hz=>ac (by rw [decide_eq_true_iff];exact hz))))) fun c hc=>dM (fun h1=> ?_) fun h1=> ?_
  ·have hxy:=hc.1 h1;have es:=Ue (i:=j - 1) (j:=j) ey ly (by rw [<-ly];simp only [XZ];omega)
   have e2:l.set j.toNat y=(P++A')++y::(y::(B++S)):=by
    rw [ex,lx,Xo,yQ];simp
   refine aw (by constructor<;>omega) (aw (by constructor<;>omega) (iP ey ly (iP ex lx (iP ex lx (iP (l:=l.set j.toNat y) e2 ly (aw (by constructor<;>omega) ?_))))))
   have hi:=I3 N kb a b p5 h5 R P S hP x hx m A' (y::B) ((P++A')++x::([]++y::(B++S))) (j - 1) I I (by simp only [YX,XW,XZ];omega) (by simp) (fun z hz=>hA z (by simp [hz])) fun A1 A2 h1 h2 h3=>by
    have:=hk A1 (A2++ [y]) (by rw [h1];simp) (fun z hz=>by
     rcases X7.1 hz with hz|hz
     ·exact h2 z hz
     ·rw [Yh.1 hz];exact hxy) h3
    simpa using this
   have:Sat (bR N kb a b p5 m ((l.set j.toNat y).set ((j - 1).toNat) x) (j - 1)) R:=by
    rw [es];exact hi
   exact this
  refine stop fun z hz=> ?_
  rw [List.getLast?_append] at hz
  have:z=y:=by simpa using hz.symm
  subst this
  have: ¬rk x<rk z:=fun h=>by rw [hc.2 h] at h1;cases h1
  omega
theorem SoK.ins {x:WL}(h:SoK (A1++A2))(h1:∀y,A1.getLast? =some y->rk y<=rk x)(h2:∀y∈A2,rk x<rk y):SoK (A1++x::A2):=by
 obtain ⟨s1,s2,s3⟩:=h.parts
 refine s1.app (Yk.2 ⟨fun y hy=>by have:=h2 y hy;omega,s2⟩) fun y hy z hz=> ?_
 rcases X8.1 hz with rfl|hz
 ·rcases List.eq_nil_or_concat A1 with rfl|⟨A',w,rfl⟩
  ·cases hy
  rw [List.concat_eq_append] at*;have hw:=h1 w (by simp);rcases X7.1 hy with hy|hy
  ·have:=s1.parts.2.2 y hy w (by simp);omega
  rw [Yh.1 hy];exact hw
 exact s3 y hy z hz
theorem EvK.ins {x:WL}(h2:∀y∈A2,rk x<rk y):EvK (A1++x::A2) ((A1++A2)++ [x]):=by
 rw [W2]
 exact (EvK.refl A1).app (EvK.swap (U:=[x]) (V:=A2) fun y hy z hz=>by
  rw [Yh.1 hy];have:=h2 z hz
  omega)
theorem GF (N:Nat)(hN:20000<=N)(a b:Int)(hb:b<=6000)(P S:List WL)(hP:a=P.length): ∀(m:Nat) (A X l:List WL) (i:Int),i=(P.length:Int)+A.length->b=i+X.length->X.length<m->l.length<=6000->l=P++(A++(X++S))->(∀y∈A++X,RKey y)->SoK A->Sat (bA N a b m l i) fun r=> ∃C,r=P++(C++S)/\SoK C/\EvK C (A++X)
 |0,A,X,l,i,_,_,h,_,_,_,_=>by omega
 | m+1,A,X,l,i,hi,hbi,h,hl,e,hR,hs=>by
  have hlen:=congrArg List.length e;simp only [YX] at hlen;rw [bA.eq_2]
  cases X with
  |nil=>exact aC (fun h=>by simp only [XZ] at hbi;omega) fun _=>ac ⟨A,by rw [e];simp,hs,by rw [Xr];exact EvK.refl A⟩
  |cons x X=>
   simp only [XW] at hbi h hlen
   refine aC (fun _=> ?_) fun h=>by omega
   refine I3 N _ a b i I _ P (X++S) hP x (hR x (by simp)) N A [] l i hi I hl (by rw [e];simp) (fun y hy=>hR y (by simp [hy])) fun A1 A2 h1 h2 h3=> ?_
   subst h1;simp only [YX] at hi hlen
   refine (GF N hN a b hb P S hP m (A1++x::A2) X _ (i+1) (by simp only [YX,XW];omega) I I (by simp only [YX,XW,XZ];omega) (by simp) (fun y hy=>hR y (by simp at hy⊢;rcases hy with h|h|h|h<;>simp [h])) (SoK.ins hs h3 h2)).mono fun r hr=> ?_
   obtain ⟨C,c1,c2,c3⟩:=hr;refine ⟨C,c1,c2,c3.trans ?_⟩;have:=(EvK.ins (A1:=A1) h2).app (EvK.refl X);simpa using this
theorem So (N:Nat)(hN:20000<=N){X:List WL}{a b:Int}(ha:a=P.length)(hb:b=a+X.length)(hl:l.length<=6000)(e:l=P++(X++S))(hR:∀y∈X,RKey y):Sat (bE N l a b) fun r=> ∃C,r=P++(C++S)/\SoK C/\EvK C X:=by
 have hlen:=congrArg List.length e;simp only [YX] at hlen;unfold bE;refine aw (by constructor<;>omega) ?_
 cases X with
 |nil=>
  obtain ⟨n,rfl⟩: ∃n,N=n+1:=⟨N - 1,by omega⟩;rw [bA.eq_2];simp only [XZ] at hb
  exact aC (fun h=>by omega) fun _=>ac ⟨[],e,SoK.nil,EvK.refl _⟩
 |cons x X=>
  simp only [XW] at hb hlen;exact GF N hN a b I P S ha N [x] X l (a+1) (by simp only [XW,XZ];omega) I I hl e hR (SoK.one x)
def U5 (kb:List WL->Int->Int->Int->Option WX)(n:Int):Prop:= ∀(P A B S l:List WL) (x y z:Int),x=P.length->y=x+A.length->z=y+B.length->0<A.length->0<B.length->z - x<n->l.length<=6000->l=P++(A++(B++S))->(∀k∈A++B,RKey k)->SoK A->SoK B->Sat (kb l x y z) fun r=> ∃C,r=P++(C++S)/\SoK C/\EvK C (A++B)
theorem Sl (N:Nat)(kb:List WL->Int->Int->Int->Option WX)(a q b p7:Int)(x:WL): ∀(m:Nat) (hO P T l:List WL) (k:Int),k=P.length->p7=k+1+hO.length->hO.length<m->l.length<=6000->l=P++x::(hO++T)->Sat (cr N kb a q b p7 m l k) fun r=>r=P++(hO++x::T)
 |0,hO,P,T,l,k,_,_,h,_,_=>by omega
 | m+1,hO,P,T,l,k,hk,hp,h,hl,e=>by
  have hlen:=congrArg List.length e;simp only [YX,XW] at hlen;rw [cr.eq_2];refine aw (by constructor<;>omega) ?_
  cases hO with
  |nil=>exact aC (fun h=>by simp only [XZ] at hp;omega) fun _=>ac e
  | cons y hO=>
   simp only [XW] at hp h hlen
   have e':l=P++x::([]++y::(hO++T)):=by rw [e];simp
   have ey:l=(P++ [x])++y::(hO++T):=by rw [e];simp
   have ly:k+1=(((P++ [x]).length:Nat):Int):=by simp only [YX,XW,XZ];omega
   have es:=Ve (i:=k) (j:=k+1) e' hk (by simp only [XZ];omega)
   have e2:l.set k.toNat y=(P++ [y])++y::(hO++T):=by
    rw [e',hk,Xo,yQ];simp
   refine aC (fun _=> ?_) fun h=>by omega
   refine aw (by constructor<;>omega) (aw (by constructor<;>omega) (iP ey ly (iP e' hk (iP e' hk (iP (l:=l.set k.toNat y) e2 (by simp only [YX,XW,XZ];omega) (aw (by constructor<;>omega) ?_))))));have hi:=Sl N kb a q b p7 x m hO (P++ [y]) T (P++y::([]++x::(hO++T))) (k+1) (by simp only [YX,XW,XZ];omega) I I (by simp only [YX,XW,XZ];omega) (by simp)
   have:Sat (cr N kb a q b p7 m ((l.set k.toNat y).set ((k+1).toNat) x) (k+1)) fun r=>r=P++(y::hO++x::T):=by
    rw [es]
    exact hi.mono fun r hr=>by rw [hr];simp
   exact this
theorem Sk (N:Nat)(kb:List WL->Int->Int->Int->Option WX)(a q b p:Int)(x:WL): ∀(m:Nat) (hO P T l:List WL) (k:Int),p=P.length->k=p+hO.length->hO.length<m->l.length<=6000->l=P++(hO++x::T)->Sat (cp N kb a q b p m l k) fun r=>r=P++x::(hO++T)
 |0,hO,P,T,l,k,_,_,h,_,_=>by omega
 | m+1,hO,P,T,l,k,hp,hk,h,hl,e=>by
  have hlen:=congrArg List.length e;simp only [YX,XW] at hlen;rw [cp.eq_2];rcases List.eq_nil_or_concat hO with rfl|⟨Y',y,rfl⟩
  ·exact aC (fun h=>by simp only [XZ] at hk;omega) fun _=>ac e
  rw [List.concat_eq_append] at*;simp only [YX,XW,XZ] at hk h hlen
  have ey:l=(P++Y')++y::([]++x::T):=by rw [e];simp
  have ex:l=(P++(Y'++ [y]))++x::T:=by rw [e];simp
  have ly:k - 1=(((P++Y').length:Nat):Int):=by simp only [YX];omega
  have lx:k=(((P++(Y'++ [y])).length:Nat):Int):=by simp only [YX,XW,XZ];omega
  have es:=Ue (i:=k - 1) (j:=k) ey ly (by rw [<-ly];simp only [XZ];omega)
  have e2:l.set k.toNat y=(P++Y')++y::(y::T):=by
   rw [ex,lx,Xo,yQ];simp
  refine aC (fun _=> ?_) fun h=>by omega
  refine aw (by constructor<;>omega) (aw (by constructor<;>omega) (iP ey ly (iP ex lx (iP ex lx (iP (l:=l.set k.toNat y) e2 ly (aw (by constructor<;>omega) ?_))))));have hi:=Sk N kb a q b p x m Y' P (y::T) ((P++Y')++x::([]++y::T)) (k - 1) hp I I (by simp only [YX,XW,XZ];omega) (by simp)
  have:Sat (cp N kb a q b p m ((l.set k.toNat y).set ((k - 1).toNat) x) (k - 1)) fun r=>r=P++x::((Y'++ [y])++T):=by
   rw [es]
   exact hi.mono fun r hr=>by rw [hr];simp
  exact this
theorem D8 {M:List WL}{n:Nat}(h:n<M.length): ∃M1 y M2,M=M1++y::M2/\M1.length=n:=by
 refine ⟨M.take n,M[n],M.drop (n+1),?_,by rw [YY];omega⟩;rw [<-Xv h,Yq]
section
variable (N:Nat)(hN:20000<=N)(kb:List WL->Int->Int->Int->Option WX)(a q b:Int){A B:List WL}(ha:a=P.length)(hq:q=a+A.length)(hb:b=q+B.length)(hA:0<A.length)(hB:0<B.length)(hl:l.length<=6000)(e:l=P++(A++(B++S)))(hR:∀k∈A++B,RKey k)(sA:SoK A)(sB:SoK B)
include hN ha hq hb hA hB hl e hR sA sB
theorem SN (hA1:A.length=1): ∀(m:Nat) (B1 Bm B2:List WL) (i j:Int),B=B1++(Bm++B2)->i=q+B1.length->j=i+Bm.length->Bm.length<m->(∀x∈A, ∀y∈B1,rk y<rk x)->(∀x∈A, ∀y∈B2,rk x<=rk y)->Sat (bT N kb a q b l m i j) fun r=> ∃C,r=P++(C++S)/\SoK C/\EvK C (A++B)
 |0,B1,Bm,B2,i,j,_,_,_,h,_,_=>by have _:=hA;have _:=sA;omega
 | m +1,B1,Bm,B2,i,j,eB,hi,hj,h,h1,h2=>by
  obtain ⟨x,eA⟩:=List.length_eq_one_iff.1 hA1
  have hxA:x∈A:=by rw [eA];simp
  have e:l=P++([x]++(B++S)):=by rw [e,eA]
  have hlen:=congrArg List.length e;have hlB:=congrArg List.length eB;simp only [YX,XW,XZ] at hlen hlB;rw [bT.eq_2]
  cases hM:Bm with
  | nil=>
   subst hM
   refine aC (fun h=>by simp only [XZ] at hj;omega) fun _=> ?_
   unfold fU;rw [Y4] at eB
   refine (Sl N kb a q b i x N B1 P (B2++S) l a ha I I hl (by rw [e,eB];simp)).mono fun r hr=> ?_
   rw [eB] at sB;obtain ⟨t1,t2,t3⟩:=sB.parts;refine ⟨B1++x::B2,by rw [hr];simp,t1.app (Yk.2 ⟨h2 x hxA,t2⟩) fun y hy z hz=> ?_,?_⟩
   ·rcases X8.1 hz with rfl|hz
    ·have:=h1 z hxA y hy;omega
    exact t3 y hy z hz
   have:=(EvK.swap (U:=B1) (V:=[x]) fun y hy z hz=>by
     rw [Yh.1 hz];have:=h1 x hxA y hy
     omega).app (EvK.refl B2)
   rw [eA,eB];simpa using this
  | cons y0 Bm0=>
   have hpos:0<Bm.length:=by rw [hM];simp
   refine aC (fun _=> ?_) fun h=>by omega
   rw [pw I I I];obtain ⟨M1,y,M2,eM,lM⟩:=D8 (M:=Bm) (n:=((i+j) / 2 - i).toNat) I
   have eh:l=(P++(x::(B1++M1)))++y::(M2++(B2++S)):=by rw [e,eB,eM];simp
   have lh:(i+j) / 2=(((P++(x::(B1++M1))).length:Nat):Int):=by simp only [YX,XW];omega
   have ex:l=P++x::(B++S):=by rw [e];simp
   have hlM:=congrArg List.length eM;simp only [YX,XW] at hlM
   have sB':SoK ((B1++M1)++y::(M2++B2)):=by
    have:B=(B1++M1)++y::(M2++B2):=by rw [eB,eM];simp
    rw [<-this];exact sB
   obtain ⟨-,t2,t3⟩:=sB'.parts;refine aw (by constructor<;>omega) (iP eh lh (iP ex ha ((D6 N (hR y (by rw [eB,eM];simp)) (hR x (W3 _ hxA))).bind fun z hz=>dM (fun c=>aw (by constructor<;>omega) ?_) fun c=> ?_)))
   ·have hyx:=hz.1 (YV c);refine SN hA1 m (B1++(M1++ [y])) M2 B2 _ j (by rw [eB,eM];simp) (by simp only [YX,XW,XZ];omega) I I (fun x' hx' y' hy'=> ?_) h2;rw [eA] at hx';rw [Yh.1 hx']
    have:y'∈B1++M1\/y'=y:=by simpa [or_assoc] using hy'
    rcases this with h|rfl
    ·have:=t3 y' h y (by simp);omega
    exact hyx
   have hyx: ¬rk y<rk x:=fun h=>YU c (hz.2 h)
   refine SN hA1 m B1 M1 (y::(M2++B2)) i _ (by rw [eB,eM];simp) hi I I h1 fun x' hx' y' hy'=> ?_
   rw [eA] at hx';rw [Yh.1 hx'];rcases X8.1 hy' with rfl|h
   ·omega
   have:=(Yk.1 t2).1 y' h;omega
theorem OA (hB1:B.length=1): ∀(m:Nat) (A1 Am A2:List WL) (i j:Int),A=A1++(Am++A2)->i=a+A1.length->j=i+Am.length->Am.length<m->(∀y∈B, ∀x∈A1,rk x<=rk y)->(∀y∈B, ∀x∈A2,rk y<rk x)->Sat (cq N kb a q b l m i j) fun r=> ∃C,r=P++(C++S)/\SoK C/\EvK C (A++B)
 |0,A1,Am,A2,i,j,_,_,_,h,_,_=>by have _:=hB;have _:=sB;omega
 | m+1,A1,Am,A2,i,j,eA,hi,hj,h,h1,h2=>by
  obtain ⟨x,eB⟩:=List.length_eq_one_iff.1 hB1
  have hxB:x∈B:=by rw [eB];simp
  have e:l=P++(A++([x]++S)):=by rw [e,eB]
  have hlen:=congrArg List.length e;have hlA:=congrArg List.length eA;simp only [YX,XW,XZ] at hlen hlA;rw [cq.eq_2]
  cases hM:Am with
  |nil=>
   subst hM
   refine aC (fun h=>by simp only [XZ] at hj;omega) fun _=> ?_
   unfold fk;rw [Y4] at eA;rw [eA] at sA⊢;rw [eB]
   refine (Sk N kb a q b i x N A2 (P++A1) S l q (by simp only [YX];omega) I I hl (by rw [e,eA];simp)).mono fun r hr=> ?_
   refine ⟨A1++x::A2,by rw [hr];simp,sA.ins (fun y hy=>h1 x hxB y (List.mem_of_getLast? hy)) (h2 x hxB),EvK.ins (h2 x hxB)⟩
  | cons y0 Bm0=>
   have hpos:0<Am.length:=by rw [hM];simp
   refine aC (fun _=> ?_) fun h=>by omega
   rw [pw I I I];obtain ⟨M1,y,M2,eM,lM⟩:=D8 (M:=Am) (n:=((i+j) / 2 - i).toNat) I
   have eh:l=(P++(A1++M1))++y::(M2++(A2++x::S)):=by rw [e,eA,eM];simp
   have lh:(i+j) / 2=(((P++(A1++M1)).length:Nat):Int):=by simp only [YX];omega
   have ex:l=(P++A)++x::S:=by rw [e];simp
   have hlM:=congrArg List.length eM;simp only [YX,XW] at hlM
   have sA':SoK ((A1++M1)++y::(M2++A2)):=by
    have:A=(A1++M1)++y::(M2++A2):=by rw [eA,eM];simp
    rw [<-this];exact sA
   obtain ⟨-,t2,t3⟩:=sA'.parts;refine aw (by constructor<;>omega) (iP ex (by simp only [YX];omega) (iP eh lh ((D6 N (hR x (W4 _ hxB)) (hR y (by rw [eA,eM];simp))).bind fun z hz=>D0 (fun c=>aw (by constructor<;>omega) ?_) fun c=> ?_)))
   ·have hyx: ¬rk x<rk y:=fun h=>YU c (hz.2 h)
    refine OA hB1 m (A1++(M1++ [y])) M2 A2 _ j (by rw [eA,eM];simp) (by simp only [YX,XW,XZ];omega) I I (fun x' hx' y' hy'=> ?_) h2;rw [eB] at hx';rw [Yh.1 hx']
    have:y'∈A1++M1\/y'=y:=by simpa [or_assoc] using hy'
    rcases this with h|rfl
    ·have:=t3 y' h y (by simp);omega
    omega
   have hyx:=hz.1 (YV c)
   refine OA hB1 m A1 M1 (y::(M2++A2)) i _ (by rw [eA,eM];simp) hi I I h1 fun x' hx' y' hy'=> ?_
   rw [eB] at hx';rw [Yh.1 hx'];rcases X8.1 hy' with rfl|h
   ·exact hyx
   have:=(Yk.1 t2).1 y' h;omega
end
end
section
open Go.RowKit
theorem LV (h:SoK l)(e:l=A1++A2){i:Nat}(hx:l[i]? =some x0)(hi:A1.length=i+1): ∀x∈A1,rk x<=rk x0:=by
 subst e;obtain ⟨s1, -, -⟩:=h.parts;rw [XH I] at hx;obtain ⟨h1,h2⟩:=XO.1 hx;intro x hx;obtain ⟨j,hj,rfl⟩:=XV hx;rw [<-h2];by_cases hji:j=i
 ·subst hji;exact Xk _
 exact Yl.1 s1 j i hj h1 I
theorem Jz (h:SoK l)(e:l=A1++A2){i:Nat}(hx:l[i]? =some x0)(hi:A1.length=i): ∀x∈A2,rk x0<=rk x:=by
 subst e;obtain ⟨-,s1, -⟩:=h.parts;rw [XI I,hi,YG] at hx;obtain ⟨h1,h2⟩:=XO.1 hx;intro x hx;obtain ⟨j,hj,rfl⟩:=XV hx;rw [<-h2];by_cases hji:j=0
 ·subst hji;exact Xk _
 exact Yl.1 s1 0 j h1 hj I
theorem Fm (h:l.length=0):l=[]:=List.length_eq_zero_iff.1 h
section
variable (N:Nat)(hN:20000<=N)(kb:List WL->Int->Int->Int->Option WX)(a q b p:Int){B1 B2:List WL}(ha:a=P.length)(hq:q=a+A1.length+A2.length)(hp:p=a+A1.length)(h1:a<q)(h2:q<b)(hB:(B1.length:Int)=(a+b) / 2 - p)(hb:b=q+B1.length+B2.length)(hk:U5 kb (b - a))(hR:∀k∈(A1++A2)++(B1++B2),RKey k)(sA:SoK (A1++A2))(sB:SoK (B1++B2))(hsz:(P.length:Int)+A1.length+A2.length+B1.length+B2.length+S.length<=6000)
include hN ha hq hp h1 h2 hB hb hk hR sA sB hsz
theorem Sm {C:List WL}(hC:C.length=A1.length+B1.length)(e:l=P++(C++(A2++(B2++S)))):Sat (cu N kb b a q p l) fun r=> ∃C2,r=P++(C++(C2++S))/\SoK C2/\EvK C2 (A2++B2):=by
 have _:=hN
 have hlen:=congrArg List.length e;simp only [YX] at hlen;unfold cu;rw [pw I I I]
 refine cz (P:=fun c=>c=true↔(a+b) / 2<(a+b) / 2+q - p/\(a+b) / 2+q - p<b) (fun e=>ac ⟨fun e2=>⟨YV e,YV e2⟩,fun h=>WY h.2⟩) (fun e=>ac ⟨fun h=>(by cases h),fun h=>absurd h.1 (YU e)⟩) fun c hc=>dM (fun e2=> ?_) fun e2=> ?_
 ·obtain ⟨h4,h5⟩:=hc.1 e2
  refine (hk (P++C) A2 B2 S l _ _ _ (by simp only [YX];omega) I I I I I I (by rw [e];simp) (fun k hk=>hR k (by simp at hk⊢;rcases hk with h|h<;>simp [h])) sA.parts.2.1 sB.parts.2.1).bind fun r hr=>ac ?_
  obtain ⟨C2,c1,c2,c3⟩:=hr;exact ⟨C2,by rw [c1];simp,c2,c3⟩
 have hn: ¬((a+b) / 2<(a+b) / 2+q - p/\(a+b) / 2+q - p<b):=fun h=>by rw [hc.2 h] at e2;cases e2
 have:A2=[]\/B2=[]:=by
  by_cases hz:A2.length=0
  ·exact .inl (Fm hz)
  exact .inr (Fm I)
 refine ac ⟨A2++B2,by rw [e];simp,?_,EvK.refl _⟩;rcases this with rfl|rfl
 ·exact sB.parts.2.1
 rw [Xr];exact sA.parts.2.1
theorem Sn (e:l=P++(A1++(B1++(A2++(B2++S))))):Sat (cx N kb a b p q l) fun r=> ∃C1 C2,r=P++(C1++(C2++S))/\SoK C1/\EvK C1 (A1++B1)/\SoK C2/\EvK C2 (A2++B2):=by
 have hlen:=congrArg List.length e;simp only [YX] at hlen;unfold cx;rw [pw I I I]
 refine cz (P:=fun c=>c=true↔a<p/\p<(a+b) / 2) (fun e=>ac ⟨fun e2=>⟨YV e,YV e2⟩,fun h=>WY h.2⟩) (fun e=>ac ⟨fun h=>(by cases h),fun h=>absurd h.1 (YU e)⟩) fun c hc=>dM (fun e2=> ?_) fun e2=> ?_
 ·obtain ⟨h4,h5⟩:=hc.1 e2
  refine (hk P A1 B1 (A2++(B2++S)) l _ _ _ ha hp I I I I I (by rw [e]) (fun k hk=>hR k (by simp at hk⊢;rcases hk with h|h<;>simp [h])) sA.parts.1 sB.parts.1).bind fun r hr=> ?_
  obtain ⟨C1,c1,c2,c3⟩:=hr
  refine (Sm N hN kb a q b p ha hq hp h1 h2 hB hb hk hR sA sB hsz (C:=C1) (by rw [c3.len,YX]) c1).mono fun z hz=> ?_
  obtain ⟨C2,d1,d2,d3⟩:=hz;exact ⟨C1,C2,d1,c2,c3,d2,d3⟩
 have hn: ¬(a<p/\p<(a+b) / 2):=fun h=>by rw [hc.2 h] at e2;cases e2
 have:A1=[]\/B1=[]:=by
  by_cases hz:A1.length=0
  ·exact .inl (Fm hz)
  exact .inr (Fm I)
 refine (Sm N hN kb a q b p ha hq hp h1 h2 hB hb hk hR sA sB hsz (C:=A1++B1) YX (by rw [e];simp)).mono fun z hz=> ?_
 obtain ⟨C2,d1,d2,d3⟩:=hz;refine ⟨A1++B1,C2,d1,?_,EvK.refl _,d2,d3⟩;rcases this with h|h
 ·rw [h];exact sB.parts.1
 rw [h,Xr];exact sA.parts.1
theorem Uh (e:l=P++(A1++(A2++(B1++(B2++S)))))(f1:∀x∈A1, ∀y∈B2,rk x<=rk y)(f2:∀y∈B1, ∀x∈A2,rk y<rk x):Sat (dk N kb a q b l p) fun r=> ∃C,r=P++(C++S)/\SoK C/\EvK C ((A1++A2)++(B1++B2)):=by
 have hlen:=congrArg List.length e;simp only [YX] at hlen
 have fin: ∀r,(∃C1 C2,r=P++(C1++(C2++S))/\SoK C1/\EvK C1 (A1++B1)/\SoK C2/\EvK C2 (A2++B2))-> ∃C,r=P++(C++S)/\SoK C/\EvK C ((A1++A2)++(B1++B2)):=fun r hr=>by
  obtain ⟨C1,C2,c1,c2,c3,c4,c5⟩:=hr;refine ⟨C1++C2,by rw [c1];simp,c2.app c4 fun x hx y hy=> ?_,(c3.app c5).trans ?_⟩
  ·rcases X7.1 (c3.mem.1 hx) with hx|hx<;>rcases X7.1 (c5.mem.1 hy) with hy|hy
   ·exact sA.parts.2.2 x hx y hy
   ·exact f1 x hx y hy
   ·have:=f2 x hx y hy;omega
   exact sB.parts.2.2 x hx y hy
  have:=((EvK.refl A1).app (EvK.swap (U:=B1) (V:=A2) fun y hy x hx=>by have:=f2 y hy x hx;omega)).app (EvK.refl B2);simpa using this
 unfold dk;rw [pw I I I];refine aw (by constructor<;>omega) (cz (P:=fun c=>c=true↔p<q/\q<(a+b) / 2+q - p) (fun e=>ac ⟨fun e2=>⟨YV e,YV e2⟩,fun h=>WY h.2⟩) (fun e=>ac ⟨fun h=>(by cases h),fun h=>absurd h.1 (YU e)⟩) fun c hc=>dM (fun e2=> ?_) fun e2=> ?_)
 ·obtain ⟨h4,h5⟩:=hc.1 e2
  refine (Ug N hN (P:=P++A1) (U:=A2) (V:=B1) (S:=B2++S) (by simp only [YX];omega) (by simp only [YX];omega) (by simp only [YX];omega) I I I (by rw [e];simp)).bind fun r hr=> ?_
  exact (Sn N hN kb a q b p ha hq hp h1 h2 hB hb hk hR sA sB hsz (by rw [hr];simp)).mono fin
 have hn: ¬(p<q/\q<(a+b) / 2+q - p):=fun h=>by rw [hc.2 h] at e2;cases e2
 have:A2=[]\/B1=[]:=by
  by_cases hz:A2.length=0
  ·exact .inl (Fm hz)
  exact .inr (Fm I)
 refine (Sn N hN kb a q b p ha hq hp h1 h2 hB hb hk hR sA sB hsz ?_).mono fin;rw [e];rcases this with h|h
 ·rw [h];simp
 rw [h];simp
end
section
variable (N:Nat)(hN:20000<=N)(kb:List WL->Int->Int->Int->Option WX)(a q b:Int){A B:List WL}(ha:a=P.length)(hq:q=a+A.length)(hb:b=q+B.length)(hA:0<A.length)(hB:0<B.length)(hk:U5 kb (b - a))(hl:l.length<=6000)(e:l=P++(A++(B++S)))(hR:∀k∈A++B,RKey k)(sA:SoK A)(sB:SoK B)
include hN ha hq hb hA hB hk hl e hR sA sB
theorem LD: ∀(m:Nat) (i j:Int),j - i<m->a<=i->(a+b) / 2+q - b<=i->i<=j->j<=q->j<=(a+b) / 2->
  (i=a\/i=(a+b) / 2+q - b\/ ∃x y,A[(i - 1 - a).toNat]? =some x/\B[((a+b) / 2 - i).toNat]? =some y/\rk x<=rk y)->
  (j=q\/j=(a+b) / 2\/ ∃x y,A[(j - a).toNat]? =some x/\B[((a+b) / 2 - j - 1).toNat]? =some y/\rk y<rk x)->
  Sat (co N kb a q b l m i j) fun r=> ∃C,r=P++(C++S)/\SoK C/\EvK C (A++B)
 |0,i,j,h,_,_,_,_,_,_,_=>by omega
 | m+1,i,j,h,h1,h2,h3,h4,h5,hL,hH=>by
  have hlen:=congrArg List.length e;simp only [YX] at hlen;rw [co.eq_2]
  refine aC (fun h8=> ?_) fun h8=> ?_
  ·rw [pw (a:=a) (b:=b) I I I,pw (a:=i) (b:=j) I I I];obtain ⟨X1,x,X2,eX,lX⟩:=D8 (M:=A) (n:=((i+j) / 2 - a).toNat) I;obtain ⟨Y1,y,Y2,eY,lY⟩:=D8 (M:=B) (n:=((a+b) / 2 - (i+j) / 2 - 1).toNat) I
   have gx:A[((i+j) / 2 - a).toNat]? =some x:=by rw [<-lX];exact IA eX
   have gy:B[((a+b) / 2 - (i+j) / 2 - 1).toNat]? =some y:=by rw [<-lY];exact IA eY
   have ex:l=(P++X1)++x::(X2++(B++S)):=by rw [e,eX];simp
   have ey:l=(P++(A++Y1))++y::(Y2++S):=by rw [e,eY];simp
   refine aw (by constructor<;>omega) (aw (by constructor<;>omega) (iP ey (by simp only [YX];omega) (iP ex (by simp only [YX];omega) ((D6 N (hR y (by rw [eY];simp)) (hR x (by rw [eX];simp))).bind fun z hz=>D0 (fun c=>aw (by constructor<;>omega) ?_) fun c=> ?_))))
   ·have hyx: ¬rk y<rk x:=fun h=>YU c (hz.2 h)
    refine LD m _ _ I I I I h4 h5 (.inr (.inr ⟨x,y,?_,?_,by omega⟩)) hH
    ·rw [show (i+j) / 2+1 - 1 - a=(i+j) / 2 - a by omega];exact gx
    rw [show (a+b) / 2 - ((i+j) / 2+1)=(a+b) / 2 - (i+j) / 2 - 1 by omega];exact gy
   have hyx:=hz.1 (YV c);exact LD m _ _ I h1 h2 I I I hL (.inr (.inr ⟨x,y,gx,gy,hyx⟩))
  have hij:i=j:=by omega
  subst hij;obtain ⟨A1,A2,eA,lA⟩:=FU (l:=A) (j:=(i - a).toNat) I;obtain ⟨B1,B2,eB,lB⟩:=FU (l:=B) (j:=((a+b) / 2 - i).toNat) I;have hlA:=congrArg List.length eA;have hlB:=congrArg List.length eB;simp only [YX] at hlA hlB
  have f1: ∀x∈A1, ∀y∈B2,rk x<=rk y:=by
   rcases hL with h|h|⟨x,y,gx,gy,hxy⟩
   ·rw [Fm (l:=A1) I];exact fun x hx=>by cases hx
   ·rw [Fm (l:=B2) I];exact fun x hx y hy=>by cases hy
   intro x' hx' y' hy';have hA0:0<A1.length:=List.length_pos_of_mem hx';have t1:=LV sA eA gx I x' hx';have t2:=Jz sB eB gy lB y' hy';omega
  have f2: ∀y∈B1, ∀x∈A2,rk y<rk x:=by
   rcases hH with h|h|⟨x,y,gx,gy,hxy⟩
   ·rw [Fm (l:=A2) I];exact fun y hy x hx=>by cases hx
   ·rw [Fm (l:=B1) I];exact fun x hx=>by cases hx
   intro y' hy' x' hx';have hB0:0<B1.length:=List.length_pos_of_mem hy';have t1:=LV sB eB gy I y' hy';have t2:=Jz sA eA gx lA x' hx';omega
  rw [eA,eB] at hR e⊢;rw [eA] at sA;rw [eB] at sB;exact Uh N hN kb a q b i ha I I I I I I hk hR sA sB I (by rw [e];simp) f1 f2
theorem Ui:Sat (dm N kb a q b l) fun r=> ∃C,r=P++(C++S)/\SoK C/\EvK C (A++B):=by
 have hlen:=congrArg List.length e;simp only [YX] at hlen;unfold dm dl;rw [pw I I I];refine aw (by constructor<;>omega) (aw (by constructor<;>omega) (aC (fun h4=> ?_) fun h4=> ?_))
 ·exact aw (by constructor<;>omega) (aw (by constructor<;>omega) (LD N hN kb a q b ha hq hb hA hB hk hl e hR sA sB N _ _ I I I I I I (.inr (.inl J)) (.inr (.inl J))))
 exact aw (by constructor<;>omega) (LD N hN kb a q b ha hq hb hA hB hk hl e hR sA sB N _ _ I I I I I I (.inl J) (.inl J))
end
theorem LC (N:Nat)(hN:20000<=N): ∀m:Nat,U5 (ak N m) m
 |0=>fun P A B S l x y z h1 h2 h3 h4 h5 h6=>by omega
 |m+1=>fun P A B S l x y z h1 h2 h3 h4 h5 h6 h7 h8 h9 s1 s2=>by
  have hlen:=congrArg List.length h8;simp only [YX] at hlen;have ih:=LC N hN m
  have hk:U5 (ak N m) (z - x):=fun P A B S l x' y' z' g1 g2 g3 g4 g5 g6=>ih P A B S l x' y' z' g1 g2 g3 g4 g5 I
  rw [ke];refine aw (by constructor<;>omega) (aC (fun g=> ?_) fun _=> ?_)
  ·exact SN N hN _ x y z h1 h2 h3 h4 h5 h7 h8 h9 s1 s2 I N [] B [] y z (by simp) (by simp) I I (fun x hx y hy=>by cases hy) (fun x hx y hy=>by cases hy)
  unfold dx;refine aw (by constructor<;>omega) (aC (fun g=> ?_) fun _=>Ui N hN _ x y z h1 h2 h3 h4 h5 hk h7 h8 h9 s1 s2);exact OA N hN _ x y z h1 h2 h3 h4 h5 h7 h8 h9 s1 s2 I N [] A [] x y (by simp) (by simp) I I (fun x hx y hy=>by cases hy) (fun x hx y hy=>by cases hy)
theorem Sj (N:Nat)(hN:20000<=N){A B:List WL}{x y z:Int}(h1:x=P.length)(h2:y=x+A.length)(h3:z=y+B.length)(h4:0<A.length)(h5:0<B.length)(h7:l.length<=6000)(h8:l=P++(A++(B++S)))(h9:∀k∈A++B,RKey k)(s1:SoK A)(s2:SoK B):Sat (bn N l x y z) fun r=> ∃C,r=P++(C++S)/\SoK C/\EvK C (A++B):=by
 have hlen:=congrArg List.length h8;simp only [YX] at hlen;exact LC N hN N P A B S l x y z h1 h2 h3 h4 h5 I h7 h8 h9 s1 s2
end
section
open Go.RowKit
inductive Ch (z:Nat):List WL->Prop
 |last {l:List WL}:l.length<=z->SoK l->Ch z l
 |cons {c l:List WL}:c.length=z->SoK c->Ch z l->Ch z (c++l)
theorem Ch.one (h:Ch z l)(hz:l.length<=z):SoK l:=by
 cases h with
 |last _ h=>exact h
 |cons h1 h2 h3=>
  rename_i c l
  rw [YX] at hz;rw [Fm (l:=l) I,Xr];exact h2
theorem Ch.rest (h:Ch z l)(h1:z<l.length)(h2:l.length<=2*z): ∃c d,l=c++d/\c.length=z/\SoK c/\SoK d:=by
 cases h with
 |last h=>omega
 |cons a1 a2 a3=>
  rename_i c l
  rw [YX] at h2;exact ⟨c,l,J,a1,a2,a3.one I⟩
theorem Ch.two (hz:0<z)(h:Ch z l)(h1:2*z<=l.length): ∃c d t,l=c++(d++t)/\c.length=z/\d.length=z/\SoK c/\SoK d/\Ch z t:=by
 cases h with
 |last h=>omega
 | cons a1 a2 a3=>
  rename_i c l
  rw [YX] at h1
  cases a3 with
  |last b1 b2=>exact ⟨c,l,[],by simp,a1,by omega,a2,b2,.last (YI _) SoK.nil⟩
  |cons b1 b2 b3=>
   rename_i d t
   exact ⟨c,d,t,J,a1,b1,a2,b2,b3⟩
section
variable (N:Nat)(hN:20000<=N)(n:Nat)(hn:n<=6000)
include hN hn
theorem Ez (kb:List WL->Int->Option WX)(z:Nat)(hz:0<z)(hz2:z<=n)(R:List WL->Prop): ∀(m:Nat) (P X l:List WL) (a b:Int),X.length<m->a=P.length->b=a+2*z->l.length=n->l=P++X->Ch z X->(∀k∈X,RKey k)->(∀hO,Ch (z*2) hO->EvK hO X->Sat (kb (P++hO) ((z:Int)*2)) R)->Sat (dI N kb n z m l a b) R
 |0,P,X,l,a,b,h,_,_,_,_,_,_,_=>by omega
 | m+1,P,X,l,a,b,h,ha,hb,hl,e,hc,hR,hk=>by
  have hlen:=congrArg List.length e;simp only [YX] at hlen;rw [dI.eq_2]
  refine aC (fun h4=> ?_) fun h4=> ?_
  ·obtain ⟨c,d,t,rfl,l1,l2,s1,s2,h3⟩:=hc.two hz I;simp only [YX] at hlen h;refine aw (by constructor<;>omega) ((Sj N hN (P:=P) (A:=c) (B:=d) (S:=t) ha I I I I I e (fun k hk=>hR k (by simp at hk⊢;rcases hk with h|h<;>simp [h])) s1 s2).bind fun r hr=>aw (by constructor<;>omega) (aw (by constructor<;>omega) ?_));obtain ⟨C,c1,c2,c3⟩:=hr;have hC:=c3.len;simp only [YX] at hC
   refine Ez kb z hz hz2 R m (P++C) t r b _ I (by simp only [YX];omega) I (by rw [c1];simp only [YX];omega) (by rw [c1];simp) h3 (fun k hk=>hR k (by simp [hk])) fun hO y1 y2=> ?_
   have:=hk (C++hO) (.cons I c2 y1) (by have:=c3.app y2;simpa using this)
   rwa [<-W2] at this
  unfold ge dJ;refine aw (by constructor<;>omega) (aC (fun h5=> ?_) fun h5=> ?_)
  ·obtain ⟨c,d,rfl,l1,s1,s2⟩:=hc.rest I I;simp only [YX] at hlen h
   refine (Sj N hN (P:=P) (A:=c) (B:=d) (S:=[]) ha I I I I I (by rw [e];simp) hR s1 s2).bind fun r hr=>aw (by constructor<;>omega) ?_
   obtain ⟨C,c1,c2,c3⟩:=hr;have hC:=c3.len;simp only [YX] at hC;rw [Xr] at c1;rw [c1];exact hk C (.last I c2) c3
  refine aw (by constructor<;>omega) ?_;rw [e];exact hk X (.last I (hc.one I)) (EvK.refl X)
theorem EA: ∀(m:Nat) (X:List WL) (z:Nat),n - z<m->0<z->X.length=n->Ch z X->(∀k∈X,RKey k)->Sat (aG N n m X z) fun r=>SoK r/\EvK r X
 |0,X,z,h,_,_,_,_=>by omega
 |m+1,X,z,h,h0,h1,hc,hR=>by
  rw [aG.eq_2]
  refine aC (fun h4=> ?_) fun h4=>ac ⟨hc.one I,EvK.refl X⟩
  refine aw (by constructor<;>omega) (Ez N hN n hn _ z h0 I _ N [] X X 0 _ I (by simp) I h1 (by simp) hc hR fun hO y1 y2=> ?_)
  have e:((z*2:Nat):Int)=(z:Int)*2:=by omega
  have:=EA m hO (z*2) I I (by rw [y2.len];exact h1) y1 fun k hk=>hR k (y2.mem.1 hk)
  rw [Y4, <-e]
  exact this.mono fun r hr=>⟨hr.1,hr.2.trans y2⟩
theorem GE (R:List WL->Prop): ∀(m:Nat) (P X l:List WL) (a b:Int),X.length<m->a=P.length->b=a+20->l.length=n->l=P++X->(∀k∈X,RKey k)->(∀hO,Ch 20 hO->EvK hO X->Sat (aG N n N (P++hO) 20) R)->Sat (dU N n m l a b) R
 |0,P,X,l,a,b,h,_,_,_,_,_,_=>by omega
 | m+1,P,X,l,a,b,h,ha,hb,hl,e,hR,hk=>by
  have hlen:=congrArg List.length e;simp only [YX] at hlen;rw [dU.eq_2]
  refine aC (fun h4=> ?_) fun h4=> ?_
  ·obtain ⟨c,t,rfl,l1⟩:=FU (l:=X) (j:=20) I;simp only [YX] at hlen h
   refine (So N hN (P:=P) (X:=c) (S:=t) ha I I e fun k hk=>hR k (by simp [hk])).bind fun r hr=>aw (by constructor<;>omega) ?_
   obtain ⟨C,c1,c2,c3⟩:=hr;have hC:=c3.len
   refine GE R m (P++C) t r b _ I (by simp only [YX];omega) J (by rw [c1];simp only [YX];omega) (by rw [c1];simp) (fun k hk=>hR k (by simp [hk])) fun hO y1 y2=> ?_
   have:=hk (C++hO) (.cons I c2 y1) (c3.app y2)
   rwa [<-W2] at this
  unfold gL
  refine (So N hN (P:=P) (X:=X) (S:=[]) ha I I (by rw [e];simp) hR).bind fun r hr=> ?_
  obtain ⟨C,c1,c2,c3⟩:=hr;have hC:=c3.len;rw [Xr] at c1;rw [c1];exact hk C (.last I c2) c3
end
theorem SL (N:Nat)(hN:20000<=N)(l:List WL)(hl:l.length<=6000)(hR:∀k∈l,RKey k):Sat (dV N l) fun r=>SoK r/\EvK r l:=by
 unfold dV ip
 refine Sat.bind (GE N hN l.length hl (fun r=>SoK r/\EvK r l) N [] l l 0 20 I (by simp) I J (by simp) hR fun hO y1 y2=> ?_) fun r hr=>ac hr
 rw [Y4]
 exact (EA N hN l.length hl N hO 20 I I y2.len y1 fun k hk=>hR k (y2.mem.1 hk)).mono fun r hr=>⟨hr.1,hr.2.trans y2⟩
end
section
open Go.RowKit
theorem keyR.rk {N:Nat}(hN:5000<=N){k:WL}(h:keyR N k):RKey k:=by
 refine ⟨?_,h.b hN⟩;unfold keyR bc at h;by_cases h0:k.Za=0
 ·omega
 by_cases h1:k.Za=1
 ·omega
 by_cases h2:k.Za=2
 ·omega
 rw [WZ h0,cf,WZ h1,cf,WZ h2,cf] at h;cases h
theorem AW {xs:List α}{n:Nat}{f:α->Option ρ}{R:ρ->Prop}(h1:n<xs.length)(k:∀x,xs[n]? =some x->Sat (f x) R):Sat ((aq xs (n:Int)).bind f) R:=pX I I fun x hx=>k x (by rw [Xo] at hx;exact hx)
theorem G1 (N:Nat)(hN:20000<=N)(a:List WL)(ha:a.length<=6000)(hR:∀x∈a,keyR N x): ∀(m i:Nat) (p:List WL),a.length<m+i->i<=a.length->p=a.take i->Sat (nN N a m p (i:Int)) fun r=>SoK r/\EvK r a
 |0,i,p,h,h1,h2=>by omega
 | m+1,i,p,h,h1,h2=>by
  rw [nN.eq_2]
  have hp:p.length<=i:=by rw [h2,YY];omega
  refine aC (fun h4=> ?_) fun h4=> ?_
  ·refine AW I fun x hx=> ?_
   rw [show bc N x=some true from hR x (Yd hx),bs];unfold sS;rw [ct];refine aw (by unfold cF;rw [X3];omega) (aw (by constructor<;>omega) ?_);refine G1 N hN a ha hR m (i+1) _ I I ?_;rw [h2,List.take_add_one,hx];rfl
  unfold wy;rw [Yr I] at h2;subst h2
  exact (SL N hN p ha fun k hk=>(hR k hk).rk I).bind fun r hr=>ac hr
theorem Tl (N:Nat)(hN:20000<=N)(a:List WL)(ha:a.length<=6000)(hR:∀x∈a,keyR N x):Sat (pI N a) fun r=>SoK r/\EvK r a:=
 G1 N hN a ha hR N 0 [] I I (by simp)
end
section
open Go.RowKit
set_option maxRecDepth 20000
set_option maxRecDepth 20000
def eU:Nat->List WV->List WL
 |_,[]=> []
 |j,x::m=>bif decide (x=bU) then eU (j+1) m else jx (j:Int)::eU (j+1) m
theorem wF: ∀(j:Nat) (m:List WV),(eU j m).length<=m.length
 |_,[]=>YB _
 |j,x::m=>by
  unfold eU;have:=wF (j+1) m;cases decide (x=bU)
  ·rw [cf,XW,XW];omega
  rw [ct,XW];omega
theorem wE: ∀(j:Nat) (m:List WV) (k:WL),k∈eU j m-> ∃n:Nat,k=jx (n:Int)/\n<j+m.length
 |_,[],k,h=>by cases h
 | j,x::m,k,h=>by
  unfold eU at h;rw [XW]
  cases e:decide (x=bU) with
  |true=>
   rw [e,ct] at h;obtain ⟨n,h1,h2⟩:=wE (j+1) m k h;exact ⟨n,h1,by omega⟩
  |false=>
   rw [e,cf] at h;rcases X8.1 h with h|h
   ·exact ⟨j,h,by omega⟩
   obtain ⟨n,h1,h2⟩:=wE (j+1) m k h;exact ⟨n,h1,by omega⟩
def qr (d:WO):List WL:=(eU 0 d.Zk++ [lenK])++d.Zm.map (·.Zf)
theorem PW {n r:Option ρ}{x:Nat->Option ρ}:qT none n r x=n:=rfl
theorem C5 (N:Nat)(c:WI)(hc:c.Zb.length<=4096)(w':WM)(v':WV): ∀(m j:Nat) (l:List WL),c.Zb.length<m+j->j<=c.Zb.length->l.length<=j->Sat (eV N (cN (fun x st=>ii N w' v' x st)) c m (j:Int) (none,l)) fun r=>r=(none,l++eU j (c.Zb.drop j))
 |0,j,l,h1,h2,_=>by omega
 | m +1,j,l,h1,h2,h3=>by
  rw [eV.eq_2];by_cases h4:j<c.Zb.length
  ·rw [WY I,ct,aK h4,bs,Xv h4];unfold eU
   cases e:decide (c.Zb[j]=(⟨8,0,(⟨#[]⟩:ByteArray)⟩:WV)) with
   |true=>
    rw [nt,cf,show decide (c.Zb[j]=bU)=true from e,ct];exact aw (by constructor<;>omega) (C5 N c hc w' v' m (j+1) _ I I I)
   | false=>
    have e2:cN (fun x st=>ii N w' v' x st) ((j:Int),c.Zb[j]) (none,l)=some (true,(none,l++([(⟨0,(j:Int),⟨#[]⟩⟩:WL)]:List WL))):=by
     show Option.map _ (ii N w' v' ((j:Int),c.Zb[j]) l)=_;unfold ii;simp only;rw [cU (by unfold cF;rw [X3];omega)];rfl
    rw [nf,ct,e2,bs,nt,cf,show decide (c.Zb[j]=bU)=false from e,cf];refine aw (by constructor<;>omega) ((C5 N c hc w' v' m (j+1) _ I I (by rw [YX,X3];omega)).mono fun r hr=> ?_);rw [hr,W2];rfl
  rw [WZ I,cf];exact ac (by rw [List.drop_of_length_le I,show eU j []=[] from rfl,Xr])
theorem Hx (N:Nat)(w:WM)(y:List WU)(hy:y.length<=1024): ∀(m j:Nat) (l:List WL),y.length<m+j->j<=y.length->l.length<=4097+j->qC N y m (j:Int) l=pI N (l++(y.drop j).map (·.Zf))
 |0,j,l,h1,h2,_=>by omega
 | m+1,j,l,h1,h2,h3=>by
  rw [qC.eq_2];by_cases h4:j<y.length
  ·rw [WY I,ct,aK h4,bs,cU (by unfold cF;rw [X3];omega),cU (by constructor<;>omega),Xv h4];have:=Hx N w y hy m (j+1) (l++ [y[j].Zf]) I I (by rw [YX,X3];omega);simp only [Xl,Xj] at this;rw [this,W2];rfl
  rw [WZ I,cf,List.drop_of_length_le I,List.map_nil,Xr];unfold uj;cases pI N l<;>rfl
section
variable {N:Nat}(hN:20000<=N){v:WV}(hv:v.Za=7)(hvN:v.N=i){k q:Nat}(hk:k<=580){w:WM}(hM:d.Zk.length<=2200)(h:Sim N i k q w c d)
include hN hM h
theorem Jr: ∀x∈qr d,keyR N x:=fun x hx=>by
 rcases X7.1 hx with hx|hx
 ·rcases X7.1 hx with hx|hx
  ·obtain ⟨n,rfl,h2⟩:=wE _ _ _ hx;unfold keyR bc jx;rw [show decide ((0:Int)=0)=true from rfl,ct];show Option.bind (bif (⟨#[]⟩:ByteArray).toList==(⟨#[]⟩:ByteArray).toList then some (decide (0<=(n:Int))) else some false) _=_;rw [beq_self_eq_true,ct,WY (show 0<=(n:Int) by omega),bs,ct,WY (show (n:Int)<=4294967294 by omega),bs]
  rw [Yh.1 hx];unfold keyR bc;show Option.bind (jc N lenK.S) _=_
  have:jc N lenK.S=some (0,false):=by
   obtain ⟨n,rfl⟩: ∃n,N=n+64:=⟨N - 64,by omega⟩;kernel_rfl
  rw [this];rfl
 obtain ⟨p,hp,rfl⟩:=Yc.1 hx;exact (h.pv p hp).k
theorem CS:(qr d).length<=3300:=by
 have _:=hN
 have h1:=wF 0 d.Zk;have h2:=h.ob.len;unfold qr;rw [YX,YX,YZ,X3];omega
include hv hvN hk in
theorem Qb:kA N w v=pI N (qr d):=by
 have hel:=wF 0 c.Zb
 have hML:c.Zb.length<=2200:=by rw [h.el];exact hM
 have hle:=h.ob.len;have eL:bX N=some lenK:=rfl;unfold kA rv;rw [xB hv hvN hk hM h,bs,nt,cf,bs];have he:=(C5 N c I w v N 0 [] I I (by simp)).eq;show Option.bind (eV N (cN (fun x st=>ii N w v x st)) c N ((0:Nat):Int) (none,[])) _=_;rw [he,bs,PW,eL,bs,Xy,Y4,cU (by show (eU 0 c.Zb).length+1<=1099511627776;omega),Bx hN hv hvN hk hML h.ob,bs];have:=Hx N w d.Zm hle N 0 (eU 0 c.Zb++ [lenK]) I I (by rw [YX,X3];omega);rw [Xy] at this;rw [h.el] at this⊢;exact this
end
end
section
open Go.RowKit
set_option maxRecDepth 20000
structure Sta (N k q:Nat) (w:WM) (d:WO):Prop where
 ex: ∃i R c,w.Zo.Zt=R++ [(⟨7,i,⟨#[]⟩⟩:WV)]/\R.length<=29/\Sim N i k q w c d
theorem Sta.at_ {N k q:Nat}{w:WM}(h:Sta N k q w d): ∃i R c,w.Zo.Zt=R++ [(⟨7,i,⟨#[]⟩⟩:WV)]/\R.length<=29/\Sim N i k q w c d/\eK N w=some ((R.length:Int)+1)/\ji N w ((R.length:Int)+1 - 1)=some ⟨7,i,⟨#[]⟩⟩:=by
 obtain ⟨i,R,c,h1,h2,h3⟩:=h.ex;refine ⟨i,R,c,h1,h2,h3,?_,?_⟩
 ·rw [Nz N (by rw [h1,YX,X3];omega),h1,YX,X3];rfl
 unfold ji;rw [show (R.length:Int)+1 - 1=((R.length:Nat):Int) by omega,LE N (v:=⟨7,i,⟨#[]⟩⟩) (by rw [h1];exact IA rfl),bs]
set_option maxRecDepth 20000
structure ActOk (a:WS):Prop where
 v:PrimB a.V
 vn:in64 a.V.N
 d:PDesc a.D
 n:a.N<=2000\/4096<a.N
 kn:a.K.N<=2000\/4096<=a.K.N
 dn:a.D.Value.N<=2000\/4096<a.D.Value.N
theorem Sta.of {N k q k' q':Nat}{w w':WM}(h1:w.Zo.Zt=R++ [(⟨7,i,⟨#[]⟩⟩:WV)])(h2:R.length<=29)(h:Cm N i k' q' w d' w')(hk:k'<=k)(hq:q'<=q):Sta N k q w' d':=by
 obtain ⟨c',s,f⟩:=h;exact ⟨i,R,c',by rw [f.roots];exact h1,h2,s.up hk hq⟩
def UO (N k q:Nat)(d:WO)(r:WO×Bool×WM):Prop:=r.2.1=true/\r.1.Zk.length<=max (d.Zk.length+1) 2101/\r.1.Zm.length<=d.Zm.length+1/\Sta N (k+8) (q+1024*1000) r.2.2 r.1
theorem Tw {N:Nat}(hN:20000<=N){k q:Nat}(hk:k+16<=580)(hq:q+1024*1000<=1000000000){w:WM}(hM:d.Zk.length<=2190)(hL:d.Zm.length<1000)(h:Sta N k q w d){a:WS}(ha:ActOk a):Sat (tw N w d a) (UO N k q d):=by
 obtain ⟨i,R,c,h1,h2,s,e1,e2⟩:=h.at_;unfold tw;rw [e1,bs,cU (by constructor<;>omega),e2,bs]
 refine aC (fun _=> ?_) fun _=>aC (fun _=> ?_) fun _=>aC (fun _=> ?_) fun _=>aC (fun _=> ?_) fun _=>aC (fun _=> ?_) fun _=> ?_
 ·refine (PM hN (v:=⟨7,i,⟨#[]⟩⟩) J J hk hq hM hL s (key:=a.K) (fun _=>by have:=ha.kn;omega) ha.d (by have:=ha.dn;omega)).bind fun r hr=> ?_
  obtain ⟨d',r1,r2,r3,r4⟩:=hr;rw [r1,bs,beq_self_eq_true,beq_self_eq_true,ct,bs];exact ac ⟨J,by show d'.Zk.length<=_;omega,r3,Sta.of h1 h2 r4 (YB _) (YB _)⟩
 ·obtain ⟨r,f1,d',r1,r2,r3,r4⟩:=PJ hN (v:=⟨7,i,⟨#[]⟩⟩) rfl rfl I I I hL s a.K;rw [r1,bs,f1,bs,beq_self_eq_true];exact ac ⟨J,by show d'.Zk.length<=_;omega,by show d'.Zm.length<=_;omega,Sta.of h1 h2 r4 I I⟩
 ·obtain ⟨r,f1,d',r1,r2,r3,r4⟩:=Ey hN (v:=⟨7,i,⟨#[]⟩⟩) rfl rfl I hq I hL s (n:=a.N) (by have:=ha.n;omega);rw [r1,bs,f1,bs,beq_self_eq_true];exact ac ⟨J,by show d'.Zk.length<=_;omega,by show d'.Zm.length<=_;omega,Sta.of h1 h2 r4 (YB _) (YB _)⟩
 ·obtain ⟨r,f1,d',r1,r2,r3,r4⟩:=SP hN (v:=⟨7,i,⟨#[]⟩⟩) rfl rfl I I s (ha.v.prim ha.vn) I;rw [r1,bs,f1,bs,beq_self_eq_true];exact ac ⟨J,by show d'.Zk.length<=_;omega,by show d'.Zm.length<=_;omega,Sta.of h1 h2 r4 I I⟩
 ·obtain ⟨w',p,st,fr⟩:=Q0 hN (v:=⟨7,i,⟨#[]⟩⟩) rfl rfl I I s;obtain ⟨c',st⟩:=st;rw [p,bs];exact ac ⟨J,by show d.Zk.length<=_;omega,by show d.Zm.length<=_;omega,Sta.of h1 h2 ⟨c',st,fr⟩ I I⟩
 obtain ⟨g',i',R',c',m1,m2,m3,m4⟩:=Q7 s I h1;unfold lS;rw [bs,m1,bs,WY rfl];exact ac ⟨J,by show d.Zk.length<=_;omega,by show d.Zm.length<=_;omega,⟨i',R',c',m3,by omega,m4.up I I⟩⟩
set_option maxRecDepth 20000
def Tz:WP:=⟨0,1048576,50,100,0,0,0⟩
def wN0:WM:=match pB 64 Tz with
 |some (.inr w)=>w.1
 |_=>default
theorem Us (K:Nat):pB (K+64) Tz=some (.inr (wN0,0)):=by kernel_rfl
def G4 (v:WV):Bool:=decide (-9223372036854775808<=v.N)&&decide (v.N<=9223372036854775807)
theorem K0 {v:WV}(h:G4 v=true):in64 v.N:=by
 unfold G4 at h;rw [Y3,YT,YT] at h;exact h
def SA (g:WD)(c:WI):Bool:=bN c&&((fT c).all (aZ g.m_)&&(!decide (c.Za=8)&&(!decide (c.Za=10)&&(c.Zc++c.Zb).all G4)))
def Pi (g:WD):Bool:=decide (ws g.m_.Zh+ws g.m_.Zj<=50)&&(decide (mS g.m_.Zh+mS g.m_.Zj<=0)&&(decide (g.Zt.length=20)&&(g.Zv.isEmpty&&(decide (g.Zw.at_.map Prod.fst=oa g.m_)&&((g.m_.Zh++g.m_.Zj).all (SA g)&&(g.Zt.all G4&&(dG g.Zt).all (aZ g.m_)))))))
theorem Ph:Pi wN0.Zo=true:=by kernel_rfl
theorem Pg (h:Pi g=true):Pl g/\Hb 50 0 g/\g.Zt.length=20:=by
 unfold Pi at h;simp only [Y3,YT,Xq,List.isEmpty_iff] at h;obtain ⟨h1,h2,h3,h4,h5,h6,h7,h8⟩:=h
 have hc: ∀c∈g.m_.Zh++g.m_.Zj,bN c=true/\(∀x∈fT c,aZ g.m_ x=true)/\c.Za≠8/\c.Za≠10/\ ∀v∈c.Zc++c.Zb,G4 v=true:=fun c hc=>by
  have:=h6 c hc;unfold SA at this;simpa only [Y3,YT,Xq,Bool.not_eq_true',YS] using this
 obtain ⟨n1,n2⟩:=Jt h5;have hb:Hb 50 0 g:=⟨h1,h2,by omega⟩;exact ⟨⟨Rk I I hb h4 (fun c h v hv=>K0 ((hc c h).2.2.2.2 v hv)) (fun v hv=>K0 (h7 v hv)) n1 n2,h4,fun c h=>⟨(hc c h).1,(hc c h).2.1,(hc c h).2.2.1,(hc c h).2.2.2.1⟩,h8,Uf h5⟩,hb,h3⟩
theorem Pl.root {k M:Nat}(hk:k<=580)(hM:M<=2200)(h:Pl g){v:WV}(s:Hb k M ⟨g.m_,g.Zt++ [v],g.Zv,g.Zw⟩)(hv:aZ g.m_ v.N=true)(hi:in64 v.N):Pl ⟨g.m_,g.Zt++ [v],g.Zv,g.Zw⟩:=by
 refine ⟨Rk hk hM s h.pend h.hb.w64 (fun x hx=> ?_) h.hb.nd h.hb.keys,h.pend,h.cells,fun x hx=> ?_,h.set⟩
 ·rcases X7.1 hx with hx|hx
  ·exact h.hb.r64 x (W3 _ hx)
  rw [Yh.1 hx];exact hi
 obtain ⟨y,hy,hb,rfl⟩:=tt.1 hx;rcases X7.1 hy with hy|hy
 ·exact h.roots _ (tt.2 ⟨y,hy,hb,J⟩)
 rw [Yh.1 hy];exact hv
def p0:WV:=rK wN0.Zo.Zt 2
theorem QK:wN0.Zo.Zt[2]? =some p0:=by kernel_rfl
theorem Uk:(decide (p0.Za=7)&&(ln p0&&(G4 p0&&aZ wN0.Zo.m_ p0.N)))=true:=by kernel_rfl
theorem MA:wN0.Zu=Tz/\wN0.ZB=⟨0,0,0⟩:=⟨by kernel_rfl,by kernel_rfl⟩
theorem Ot:wN0.Zp=⟨[(⟨-1,⟨0,0,⟨#[]⟩⟩,0,0⟩:WE)],[]⟩:=by kernel_rfl
def tbN:WQ:=⟨[(⟨-1,⟨0,0,⟨#[]⟩⟩,0,0⟩:WE)],[]⟩
theorem Qy {s:WE}(h:Has tbN i s):i=0/\s=⟨-1,⟨0,0,⟨#[]⟩⟩,0,0⟩:=by
 have h1:=h.lt
 have h0:i=0:=by
  have:((tbN.Zp.length:Nat):Int)=1:=rfl;omega
 subst h0;exact ⟨J,(YM h.2).symm⟩
theorem SJ (N:Nat):TI N tbN:=by
 refine ⟨fun i s h=> ?_,fun k j h=>by cases h⟩;obtain ⟨-,rfl⟩:=Qy h;exact ⟨Xk _,by show (0:Int)<=1024;omega,fun h=>absurd h (by show¬(0:Int)<0;omega)⟩
def c0 (a0:List WV):WI:=⟨2,0,1,0,[p0],a0⟩
def gA (a0:List WV):WD:=⟨(xn wN0.Zo (c0 a0)).m_,wN0.Zo.Zt++ [(⟨7,nZ wN0.Zo,⟨#[]⟩⟩:WV)],wN0.Zo.Zv,wN0.Zo.Zw⟩
theorem Tg {N:Nat}(hN:20000<=N)(hl:a0.length<=200)(hp:∀x∈a0,PrimB x/\in64 x.N): ∃w v,tv N a0=some (.inr (w,v,true))/\ ∃r,gm N w v=some r/\Sta N 52 1 r.2 ⟨true,false,a0,[]⟩:=by
 obtain ⟨K,rfl⟩: ∃K,N=K+64:=⟨N - 64,by omega⟩;obtain ⟨pl,hb,hr⟩:=Pg Ph;have hp0:=Uk;simp only [Y3,YT] at hp0;obtain ⟨q1,q2,q3,q4⟩:=hp0
 have hPr: ∀x∈a0,Prim x:=fun x hx=>(hp x hx).1.prim (hp x hx).2
 have hright:bN (c0 a0)=true:=yT (.inr rfl) (by show (0:Int)<=0;omega) (by constructor<;>(first|(show (0:Int)<=1;omega)|(show (1:Int)<=63;omega))) (by constructor<;>(first|(show (0:Int)<=0;omega)|(show (0:Int)<=1;omega))) (fun x hx=>by rw [Yh.1 (show x∈[p0] from hx)];exact q2) (fun x hx=>(hPr x hx).may) (by show 1<=1025;omega) (z:=p0) rfl (.inr q1) (by show a0.length<=4096;omega) (fun h=>by cases h)
 have hrefs:Oe wN0.Zo.m_ (c0 a0):=fun x hx=>by
  rcases X7.1 hx with hx|hx
  ·rw [Yh.1 (show x∈[p0] from hx)];exact ⟨K0 q3,fun _=>q4⟩
  exact ⟨(hPr x hx).i64,fun e=>by rw [(hPr x hx).no] at e;cases e⟩
 have a6:Hb 52 a0.length (xn wN0.Zo (c0 a0)):=MJ hb _ (by show 50+1+1<=52;omega) (by show 0+a0.length<=a0.length;omega);obtain ⟨p1,p2,p3,p4⟩:=pl.addK I I hright ⟨by show (2:Int)≠8;decide,by show (2:Int)≠10;decide⟩ hrefs a6;have hi:=wz p1.hb.small p3;have a7:Hb 52 a0.length (gA a0):=⟨a6.hw,a6.hm,by show (wN0.Zo.Zt++ [_]).length<=30;rw [YX,hr,X3];omega⟩;have p5:Pl (gA a0):=p1.root I I (v:=⟨7,nZ wN0.Zo,⟨#[]⟩⟩) a7 p3 hi
 have e1:eQ (K+64) wN0 2=some p0:=by
  unfold eQ;rw [show decide ((2:Int)<0)=false from rfl,cf,bs,show decide ((18:Int)<=2)=false from rfl,cf];have:=LE (K+64) QK;rw [show ((2:Nat):Int)=2 from rfl] at this;rw [this,bs]
 let w1:WM:=⟨⟨wN0.ZB.ZR,wN0.ZB.ZL+1,wN0.ZB.ZS⟩,wN0.Zu,(),xn wN0.Zo (c0 a0),wN0.Zp,wN0.Zy,wN0.ZE,wN0.ZF,wN0.ZG,wN0.Zz,wN0.ZA⟩
 have hyl:=pl.hb.small.young;have hsz:(c0 a0).Zc.length<=600/\(c0 a0).Zb.length<=2900:=⟨by show 1<=600;omega,by show a0.length<=2900;omega⟩
 have e2:gn (K+64) wN0 (c0 a0)=some (⟨7,nZ wN0.Zo,⟨#[]⟩⟩,true,w1):=by
  have el:(((wN0.Zo.m_.Zh++ [c0 a0]).length:Nat):Int)=(wN0.Zo.m_.Zh.length:Int)+1:=by simp
  have em:eS (K+64) wN0.Zo (c0 a0)=some (nZ wN0.Zo,0,xn wN0.Zo (c0 a0)):=by
   unfold eS aM;rw [bs,cf,yr I I,bs,hright,nt,cf,pM _ _ hsz,bs];show aL (cF (wN0.Zo.m_.Zh.length+ [c0 a0].length)) (aL (in64 (2*((wN0.Zo.m_.Zh++ [c0 a0]).length:Int))) (aL (in64 (2*((wN0.Zo.m_.Zh++ [c0 a0]).length:Int) - 1)) (some (2*((wN0.Zo.m_.Zh++ [c0 a0]).length:Int) - 1,0,xn wN0.Zo (c0 a0)))))=_;rw [rF (by simp only [XW,XZ];omega),el,r64 I I,r64 I I,show 2*((wN0.Zo.m_.Zh.length:Int)+1) - 1=nZ wN0.Zo by unfold nZ;omega]
  unfold gn;rw [MA.1,MA.2,em];show (bif decide ((100:Int)<=0) then _ else _)=_;rw [show decide ((100:Int)<=0)=false from rfl,cf,bs];show (bif !decide ((0:Int)=0) then _ else _)=_;rw [WY rfl,nt,cf,cU (by constructor<;>decide)];show some (_,true,(⟨⟨_,_,_⟩,_,_,_,_,_,_,_,_,_,_⟩:WM))=some (_,true,w1);show _=some (_,true,(⟨⟨wN0.ZB.ZR,wN0.ZB.ZL+1,wN0.ZB.ZS⟩,wN0.Zu,(),xn wN0.Zo (c0 a0),wN0.Zp,wN0.Zy,wN0.ZE,wN0.ZF,wN0.ZG,wN0.Zz,wN0.ZA⟩:WM));rw [MA.1,MA.2]
 refine ⟨w1,⟨7,nZ wN0.Zo,⟨#[]⟩⟩,?_,?_⟩
 ·unfold tv;have en:pB (K+64) (⟨0,1048576,50,100,0,0,0⟩:WP)=some (.inr (wN0,0)):=Us K;rw [en,bs];show Option.bind (uT (K+64) wN0 a0) _=_;unfold uT;rw [e1,bs];show Option.bind (Option.bind (gn (K+64) wN0 (c0 a0)) _) _=_;rw [e2];rfl
 refine ⟨((((wN0.Zo.Zt++ [(⟨7,nZ wN0.Zo,⟨#[]⟩⟩:WV)]).length:Nat):Int) - 1,⟨w1.ZB,w1.Zu,(),gA a0,w1.Zp,w1.Zy,w1.ZE,w1.ZF,w1.ZG,w1.Zz,w1.ZA⟩),?_,nZ wN0.Zo,wN0.Zo.Zt,c0 a0,J,by omega,⟨⟨p5,a7,?_,?_⟩,p3,p4,⟨.inr rfl,⟨p0,rfl,.inr q1⟩,(fun h=>by cases h),.nil (s:=⟨-1,⟨0,0,⟨#[]⟩⟩,0,0⟩) ?_ rfl,rfl,List.nodup_nil,by show ai .i64 1 16=0;decide+kernel⟩,(fun n p h=>by cases h),fun n m x y _ h=>by cases h⟩,rfl,rfl,by kernel_rfl,by kernel_rfl,⟨(fun p h=>by cases h),(fun p h=>by cases h),List.nodup_nil,fun x hx h8=>G5 (hPr x hx).may h8⟩,(fun p h=>by cases h),hPr⟩
 ·unfold gm gu aM
  have hlen:(wN0.Zo.Zt++ [(⟨7,nZ wN0.Zo,⟨#[]⟩⟩:WV)]).length=21:=by rw [YX,hr];rfl
  rw [bs,cf];show Option.bind (aL (cF (wN0.Zo.Zt.length+1)) (aL (in64 (((wN0.Zo.Zt++ [(⟨7,nZ wN0.Zo,⟨#[]⟩⟩:WV)]).length:Int) - 1)) _)) _=_;rw [rF I,cU (by rw [hlen];constructor<;>decide)];rfl
 ·show TI _ wN0.Zp;rw [Ot];exact SJ _
 ·show wN0.Zp.Zp.length<=1;rw [Ot];exact YB _
 show Has wN0.Zp 0 _;rw [Ot];exact ⟨Xk _,J⟩
set_option maxRecDepth 20000
theorem Rm (K:Nat):qV (K+200)=some true:=by kernel_rfl
theorem K4 {N:Nat}(hN:20000<=N):qV N=some true:=by
 obtain ⟨K,rfl⟩: ∃K,N=K+200:=⟨N - 200,by omega⟩;exact Rm K
set_option maxRecDepth 20000
theorem EZ (N:Nat)(x:WV):Sat (ng N x) fun b=>b=true->PrimB x:=by
 have eH:ir N=some bU:=rfl;unfold ng
 refine cz (P:=fun b=>b=true->PrimB x) (fun e=>by rw [Fg,bs];exact ac fun h=> .inl ⟨YV e,h⟩) (fun _=>ac fun h=>by cases h) fun b hb=> ?_
 exact cz (P:=fun b=>b=true->PrimB x) (fun e=>ac fun _=>hb e) (fun _=>by rw [eH,bs];exact ac fun h=> .inr (YV h)) fun c hc=>ac hc
structure A64 (a:WS):Prop where
 fv:in64 a.V.N
 fh:in64 a.D.Has
 fa:in64 a.D.Zd
 fn:in64 a.D.Value.N
theorem GW {b:Bool}(h:(!b)=false):b=true:=by cases b<;>first|rfl|cases h
theorem G9 {N:Nat}(a0:List WS)(h64:∀a∈a0,A64 a): ∀(m j:Nat),40<m+j->j<=40->(∀jj x,jj<j->a0[jj]? =some x->ActOk x)->Sat (uu N a0 m (j:Int)) fun b=>b=true-> ∀jj x,jj<40->a0[jj]? =some x->ActOk x
 |0,j,h,h2,_=>by omega
 | m +1,j,h,h2,hk=>by
  rw [uu.eq_2]
  refine cz (P:=fun b=>b=true↔((j:Int)<(a0.length:Int)/\(j:Int)<40)) (fun e=>ac ⟨fun e2=>⟨YV e,YV e2⟩,fun h=>WY h.2⟩) (fun e=>ac ⟨fun h=>(by cases h),fun h=>absurd h.1 (YU e)⟩) fun c hc=>dM (fun e2=> ?_) fun e2=> ?_
  ·obtain ⟨h4,h5⟩:=hc.1 e2
   refine AW I fun x hx=> ?_
   have hxm:=Yd hx;have h6:=h64 x hxm
   refine (EZ N x.V).bind fun y9 h9=> ?_
   refine cz (P:=fun b=>b=false->PrimB x.V/\PrimB x.D.Value) (fun _=>ac fun h=>by cases h) (fun e=>(EZ N x.D.Value).bind fun y hy=>ac fun h=>⟨h9 (GW e),hy (GW h)⟩) fun a8 h10=> ?_
   refine cz (P:=fun b=>b=false->(PrimB x.V/\PrimB x.D.Value)/\PrimB x.D.Zq) (fun _=>ac fun h=>by cases h) (fun e=>(EZ N x.D.Zq).bind fun y hy=>ac fun h=>⟨h10 e,hy (GW h)⟩) fun b12 h12=> ?_
   refine cz (P:=fun b=>b=false->((PrimB x.V/\PrimB x.D.Value)/\PrimB x.D.Zq)/\PrimB x.D.Zr) (fun _=>ac fun h=>by cases h) (fun e=>(EZ N x.D.Zr).bind fun y hy=>ac fun h=>⟨h12 e,hy (GW h)⟩) fun b0 h14=> ?_
   refine cz (P:=fun b=>b=false->((PrimB x.V/\PrimB x.D.Value)/\PrimB x.D.Zq)/\PrimB x.D.Zr) (fun _=>ac fun h=>by cases h) (fun e=>ac fun _=>h14 e) fun b16 h16=>dM (fun _=>ac fun h=>by cases h) fun a6=> ?_
   refine cz (P:=fun b=>b=false->x.N<=2000\/4096<x.N) (fun _=>ac fun h=>by have:=YU h;omega) (fun e=>ac fun _=>by have:=YU e;omega) fun b5 h18=> ?_
   refine cz (P:=fun b=>b=false->(x.N<=2000\/4096<x.N)/\(x.K.N<=2000\/4096<=x.K.N)) (fun _=>ac fun h=>by cases h) (fun e=>cz (P:=fun b=>b=false->x.K.N<=2000\/4096<=x.K.N) (fun _=>ac fun h=>by have:=YU h;omega) (fun e=>ac fun _=>by have:=YU e;omega) fun b6 h20=>ac fun h=>⟨h18 e,h20 h⟩) fun b7 h19=> ?_
   refine cz (P:=fun b=>b=false->((x.N<=2000\/4096<x.N)/\(x.K.N<=2000\/4096<=x.K.N))/\(x.D.Value.N<=2000\/4096<x.D.Value.N)) (fun _=>ac fun h=>by cases h) (fun e=>cz (P:=fun b=>b=false->x.D.Value.N<=2000\/4096<x.D.Value.N) (fun _=>ac fun h=>by have:=YU h;omega) (fun e=>ac fun _=>by have:=YU e;omega) fun b9 h22=>ac fun h=>⟨h19 e,h22 h⟩) fun c7 h21=>dM (fun _=>ac fun h=>by cases h) fun a7=> ?_
   obtain ⟨⟨⟨v1,v2⟩,v3⟩,v4⟩:=h16 a6;obtain ⟨⟨n1,n2⟩,n3⟩:=h21 a7;refine aw (by constructor<;>omega) ?_
   have:=G9 (N:=N) a0 h64 m (j+1) I I fun jj y hj hy=>by
    by_cases e:jj=j
    ·subst e;rw [hx] at hy;cases hy;exact ⟨v1,h6.fv,⟨h6.fh,h6.fa,h6.fn,v2,v3,v4⟩,n1,n2,n3⟩
    exact hk jj y I hy
   exact this
  have hn: ¬((j:Int)<(a0.length:Int)/\(j:Int)<40):=fun h=>by rw [hc.2 h] at e2;cases e2
  exact ac fun _ jj x hj hx=>by
   have:=(XO.1 hx).1;exact hk jj x I hx
set_option maxRecDepth 20000
theorem pL: ∀(j:Nat) (m:List WV) (k:WL),k∈eU j m-> ∃n:Nat,k=jx (n:Int)/\j<=n/\ ∃x,m[n - j]? =some x/\x≠bU
 |_,[],k,h=>by cases h
 | j,x::m,k,h=>by
  unfold eU at h
  have tail:k∈eU (j+1) m-> ∃n:Nat,k=jx (n:Int)/\j<=n/\ ∃y,(x::m)[n - j]? =some y/\y≠bU:=fun h=>by
   obtain ⟨n,h1,h2,y,h3,h4⟩:=pL (j+1) m k h;refine ⟨n,h1,by omega,y,?_,h4⟩;rw [show n - j=(n - (j+1))+1 by omega,XJ];exact h3
  cases e:decide (x=bU) with
  |true=>rw [e,ct] at h;exact tail h
  |false=>
   rw [e,cf] at h;rcases X8.1 h with h|h
   ·exact ⟨j,h,YB _,x,by rw [YG];rfl,YU e⟩
   exact tail h
theorem ym: ∀(j:Nat) (m:List WV),(eU j m).Nodup
 |_,[]=>List.nodup_nil
 | j,x::m=>by
  unfold eU
  cases e:decide (x=bU) with
  |true=>rw [ct];exact ym (j+1) m
  |false=>
   rw [cf];refine Yj.2 ⟨fun h=> ?_,ym (j+1) m⟩;obtain ⟨n,h1,h2, -⟩:=pL (j+1) m _ h;have:(j:Int)=(n:Int):=congrArg WL.N h1;omega
theorem Js (h:Wf d):(qr d).Nodup:=by
 unfold qr;rw [Yi];refine ⟨?_,h.nd,fun a ha b hb e=> ?_⟩
 ·rw [Yi];refine ⟨ym _ _,by simp,fun a ha b hb e=> ?_⟩;rw [Yh.1 hb] at e;obtain ⟨n,h1, -⟩:=pL _ _ _ ha;rw [h1] at e;have:(0:Int)=1:=congrArg WL.Za e;omega
 subst e;obtain ⟨p,hp,rfl⟩:=Yc.1 hb;rcases X7.1 ha with ha|ha
 ·obtain ⟨n,h1, -,x,h2,h3⟩:=pL _ _ _ ha;obtain ⟨g1,g2,g3⟩:=h.idx p hp (by rw [h1];rfl)
  have hn:p.Zf.N.toNat=n:=by rw [h1];exact Xo n
  rw [hn] at g3;rw [Nat.sub_zero,g3] at h2;exact h3 (YM h2).symm
 exact h.len p hp (Yh.1 ha)
theorem NF (h:Wf d){k:WL}(hk:k∈qr d)(h0:k.Za=0):k=jx k.N/\0<=k.N/\k.N<d.Zk.length:=by
 rcases X7.1 hk with hk|hk
 ·rcases X7.1 hk with hk|hk
  ·obtain ⟨n,rfl, -,x,h2, -⟩:=pL _ _ _ hk;have:=(XO.1 h2).1;refine ⟨J,by show (0:Int)<=(n:Int);omega,by show (n:Int)<_;omega⟩
  rw [Yh.1 hk] at h0;cases h0
 obtain ⟨p,hp,rfl⟩:=Yc.1 hk;obtain ⟨g1,g2,g3⟩:=h.idx p hp h0;have:=(XO.1 g3).1;exact ⟨g1,g2,by omega⟩
def uo {β:Type}(f:α->β)(K:List α):List (α×β):=K.map fun k=>(k,f k)
section
variable {β:Type}[DecidableEq α]{f:α->β}
theorem IX {K:List α}{a:α}(h:a∉K):fp a (uo f K) 0=none:=by
 rw [Me];intro p hp e;obtain ⟨k,hk,rfl⟩:=Yc.1 hp;exact h (e▸hk)
theorem SK {K:List α}{a:α}(h:a∉K):yI (uo f K) a (f a)=uo f (K++ [a]):=by
 unfold yI;rw [IX h];simp [uo]
theorem Ou: ∀{K:List α} {a:α},a∈K->lk (uo f K) a=some (f a)
 |k::K,a,h=>by
  unfold lk uo;rw [X5,List.find?_cons];by_cases e:k=a
  ·subst e;simp
  have h2:a∈K:=(X8.1 h).resolve_left (Ne.symm e);have:=Ou h2;unfold lk uo at this;simp only [e,decide_false];exact this
theorem Pm (a:α): ∀(K:List α) (i:Nat),a∈K->fp a (uo f K) i=some (i+K.idxOf a,f a)
 |k::K,i,h=>by
  show (if a=k then some (i,f k) else fp a (uo f K) (i+1))=_;by_cases e:a=k
  ·subst e;simp
  have h2:a∈K:=(X8.1 h).resolve_left e;rw [if_neg e];rw [Pm a K (i+1) h2,List.idxOf_cons,show (k==a)=false from by simpa using Ne.symm e];show some (i+1+List.idxOf a K,f a)=some (i+(List.idxOf a K+1),f a);rw [show i+1+List.idxOf a K=i+(List.idxOf a K+1) from by omega]
theorem In {K:List α}(hn:K.Nodup)(a:α):K.filter (fun k=> !decide (k=a))=K.erase a:=by
 rw [hn.erase_eq_filter];apply List.filter_congr;intro x _;rfl
theorem Qz {K:List α}(hn:K.Nodup)(a:α):yp (uo f K) a=uo f (K.filter fun k=> !decide (k=a)):=by
 unfold yp;by_cases h:a∈K
 ·rw [Pm a K 0 h,YH];show (uo f K).eraseIdx (K.idxOf a)=_;unfold uo;rw [ts,In hn,List.erase_eq_eraseIdx_of_idxOf rfl]
 rw [IX h];show uo f K=_
 congr 1
 symm
 rw [XD];intro k hk
 have:k≠a:=fun e=>h (e▸hk)
 simp [this]
theorem QD {γ:Type}{f:α->Option Bool}{x y:Option γ}{m:Nat}{p:List α}(hm:p.length<m)(h:∀e∈p,f e=some false):TQ f x y m p=y:=by
 have _:DecidableEq α:=inferInstance
 obtain ⟨m,rfl⟩: ∃q,m=q+1:=⟨m - 1,by omega⟩;show (bif decide (p.length<=m) then (bif p.all fun e=>(f e).isSome then (bif p.any fun e=>f e==some true then x else y) else none) else none)=y
 have h1:(p.all fun e=>(f e).isSome)=true:=Xq.2 fun e he=>by rw [h e he];rfl
 have h2:(p.any fun e=>f e==some true)=false:=by
  rw [List.any_eq_false];intro e he;rw [h e he];decide
 rw [WY I,h1,h2];rfl
end
end
section
open Go.RowKit
set_option maxRecDepth 20000
theorem Dy: ∀(j:Nat) (m:List WV) (n:Nat) (x:WV),m[n]? =some x->x≠bU->jx ((j+n:Nat):Int)∈eU j m
 |_,[],n,x,h,_=>by rw [List.getElem?_nil] at h;cases h
 |j,y::m,0,x,h,hx=>by
  obtain rfl:y=x:=YM h;unfold eU;rw [WZ hx,cf];exact Ya ..
 |j,y::m,n+1,x,h,hx=>by
  rw [XJ] at h;have:=Dy (j+1) m n x h hx;rw [show j+1+n=j+(n+1) by omega] at this;unfold eU
  cases decide (y=bU) with
  |true=>rw [ct];exact this
  |false=>rw [cf];exact X9 _ this
theorem nu {k:WL}:k∈qr d↔(∃(n:Nat) (x:WV),k=jx (n:Int)/\d.Zk[n]? =some x/\x≠bU)\/k=lenK\/ ∃p∈d.Zm,p.Zf=k:=by
 unfold qr;rw [X7,X7,Yh,Yc,or_assoc];refine or_congr ⟨fun h=> ?_,fun ⟨n,x,h1,h2,h3⟩=> ?_⟩ Iff.rfl
 ·obtain ⟨n,h1, -,x,h2,h3⟩:=pL _ _ _ h;exact ⟨n,x,h1,by rwa [Nat.sub_zero] at h2,h3⟩
 have:=Dy 0 d.Zk n x h2 h3;rw [YH] at this
 rwa [h1]
theorem E5 {n:Nat}(h:d.Zk[n]? =some x)(hx:x≠bU):iQ d (jx (n:Int))=(⟨jx (n:Int),7,x,v0,v0⟩,true):=by
 unfold iQ;rw [WZ (Mb _),cond_false,JN h,WZ hx,cond_false]
theorem NU (hw:Wf d){p:WU}(hp:p∈d.Zm):qS d.Zk p.Zf=none:=by
 unfold qS;by_cases h0:p.Zf.Za=0
 ·obtain ⟨g1,g2,g3⟩:=hw.idx p hp h0;rw [g3]
  cases decide (p.Zf=jx p.Zf.N)&&decide (0<=p.Zf.N) with
  |false=>rfl
  |true=>
   show (bif decide (bU=bU) then none else some bU)=none;rw [WY rfl];rfl
 rw [WZ fun e=>h0 (by rw [e];rfl)];rfl
theorem E4 (hw:Wf d){p:WU}(hp:p∈d.Zm):iQ d p.Zf=(p,true):=by
 obtain ⟨n,hn⟩:=List.getElem?_of_mem hp;unfold iQ;rw [WZ (hw.len p hp),cond_false,NU hw hp];exact qg hw.nd hn
theorem QL:iQ d lenK=(vb d,true):=by
 unfold iQ;rw [WY rfl,cond_true]
theorem QM (hw:Wf d){k:WL}(hk:k∈qr d):(iQ d k).2=true:=by
 rcases nu.1 hk with ⟨n,x,rfl,h2,h3⟩|rfl|⟨p,hp,rfl⟩
 ·rw [E5 h2 h3]
 ·rw [QL]
 rw [E4 hw hp]
structure CutR (d d':WO) (n:Int) (b:Bool):Prop where
 done:0<=n->n<=4096->b=decide ((d'.Zk.length:Int)=n)
 wf:Wf d'
 old: ∀k∈qr d',k≠lenK->k∈qr d/\iQ d' k=iQ d k
 gone: ∀k∈qr d,k∉qr d'->k.Za=0/\(d'.Zk.length:Int)<=k.N
theorem CutR.same (hw:Wf d){n:Int}{b:Bool}(h:0<=n->n<=4096->b=decide ((d.Zk.length:Int)=n)):CutR d d n b:=⟨h,hw,fun k hk _=>⟨hk,rfl⟩,fun k hk h=>absurd hk h⟩
theorem O8 {E:List WV}{n:Int}{i:Nat}(h:(cE E n)[i]? =some x)(hx:x≠bU):E[i]? =some x:=by
 unfold cE at h;rcases YE i E.length with hi|hi
 ·rwa [XH hi] at h
 rw [XI hi] at h;exact absurd (List.eq_of_mem_replicate (Yd h)) hx
theorem Ke (hw:Wf d)(n:Int):CutR d (we d n).1 n (we d n).2:=by
 unfold we;by_cases h0:n<0
 ·rw [WY h0]
  exact CutR.same hw fun h=>by omega
 by_cases h1:4096<n
 ·rw [WY h1,Bool.or_true]
  exact CutR.same hw fun _ h=>by omega
 rw [WZ h0,WZ h1,Bool.false_or,Bool.false_or]
 cases hf:(d.Zs&& !decide (n=(d.Zk.length:Int))) with
 |true=>
  rw [Y3,Bool.not_eq_true',YS] at hf
  exact CutR.same hw fun _ _=>(WZ fun e=>hf.2 e.symm).symm
 | false=>
  rw [cond_false];have hge:=yO d.Zm n
  have hle:=yM d.Zm n (max (d.Zk.length:Int) n) I fun p hp hf=>by
   obtain ⟨g1,g2,g3⟩:=hw.idx p hp hf.1;have:=(XO.1 g3).1;omega
  have hll:=zd d.Zk n;generalize hs:nX d.Zm n=s at hge hle
  have hlen:(((cE d.Zk n).take s.toNat).length:Int)=s:=by rw [YY];omega
  have e1:It ⟨d.Ext,d.Zs,cE d.Zk n,d.Zm⟩ n=⟨d.Ext,d.Zs,(cE d.Zk n).take s.toNat,d.Zm.filter (fc s)⟩:=by
   unfold It;rw [hs]
  rw [e1]
  have wf:Wf ⟨d.Ext,d.Zs,(cE d.Zk n).take s.toNat,d.Zm.filter (fc s)⟩:=by
   refine ⟨fun p hp hp0=> ?_,fun p hp=>hw.len p ((Yb.1 hp).1),List.Nodup.sublist (List.Sublist.map _ List.filter_sublist) hw.nd,fun x hx h8=> ?_⟩
   ·obtain ⟨g1,g2,g3⟩:=hw.idx p (Yb.1 hp).1 hp0;have hpb:fc s p=true:=(Yb.1 hp).2;unfold fc at hpb;rw [WY hp0,Xi,Bool.not_eq_true',YS] at hpb;refine ⟨g1,g2,?_⟩;show ((cE d.Zk n).take s.toNat)[p.Zf.N.toNat]? =some bU;rw [List.getElem?_take_of_lt I];exact vK g3
   rcases zc (Ye hx) with h|h
   ·exact hw.hole x h h8
   exact h
  refine ⟨fun _ _=> ?_,wf,fun k hk hkl=> ?_,fun k hk hk'=> ?_⟩
  ·show decide (s=n)=decide ((((cE d.Zk n).take s.toNat).length:Int)=n);rw [hlen]
  ·rcases nu.1 hk with ⟨m,x,rfl,h2,h3⟩|rfl|⟨p,hp,rfl⟩
   ·have h2':((cE d.Zk n).take s.toNat)[m]? =some x:=h2;rw [XS] at h2';split at h2'
    ·have h4:=O8 h2' h3;exact ⟨nu.2 (.inl ⟨m,x,J,h4,h3⟩),(E5 h2 h3).trans (E5 h4 h3).symm⟩
    cases h2'
   ·exact absurd J hkl
   have hp0:p∈d.Zm:=(Yb.1 hp).1;exact ⟨nu.2 (.inr (.inr ⟨p,hp0,J⟩)),(E4 wf hp).trans (E4 hw hp0).symm⟩
  show k.Za=0/\(((cE d.Zk n).take s.toNat).length:Int)<=k.N;rw [hlen];rcases nu.1 hk with ⟨m,x,rfl,h2,h3⟩|rfl|⟨p,hp,rfl⟩
  ·refine ⟨J,?_⟩;show s<=(m:Int);rcases Int.lt_or_le (m:Int) s with h4|h4
   ·refine absurd (nu.2 (.inl ⟨m,x,J,?_,h3⟩)) hk';show ((cE d.Zk n).take s.toNat)[m]? =some x;rw [List.getElem?_take_of_lt I];exact vK h2
   exact h4
  ·exact absurd (nu.2 (.inr (.inl J))) hk'
  cases hb:fc s p with
  |true=>exact absurd (nu.2 (.inr (.inr ⟨p,Yb.2 ⟨hp,hb⟩,rfl⟩))) hk'
  |false=>
   unfold fc at hb;rw [Bool.not_eq_false',Y3,YT,YT] at hb;exact hb
set_option maxRecDepth 20000
def JK (d:WO)(k:WL):WU:=(iQ d k).1
theorem IQ {N:Nat}{n:Int}{w:WM}{v:WV}(hown:∀k,jh N w v k=some (iQ d k))(hn:ks.Nodup)(hl:ks.length<=6000): ∀(m:Nat) (K1 K2:List WL),K2.length<m->ks=K1++K2->fI N n ks w v m (uo (JK d) K1) (K1.length:Int)=kO N n w v (uo (JK d) ks)
 |0,K1,K2,h,_=>by omega
 | m+1,K1,K2,h,e=>by
  have hll:=congrArg List.length e;rw [YX] at hll;rw [fI.eq_2]
  cases K2 with
  |nil=>
   rw [Xr] at e;subst e;rw [WZ (Int.lt_irrefl _),cf]
  | cons x K2=>
   rw [XW] at hll h
   have hj:K1.length<ks.length:=by omega
   have hx:ks[K1.length]=x:=by
    have:ks[K1.length]? =some x:=by rw [e,XI (YB _),YG];rfl
    exact (XO.1 this).2
   rw [WY (show (K1.length:Int)<(ks.length:Int) by omega),ct,aK hj,bs,hx,hown,bs,cU (by constructor<;>omega)]
   have hno:x∉K1:=fun hm=>by
    rw [e,Yi] at hn;exact hn.2.2 x hm x (Ya ..) J
   have:=IQ (n:=n) hown hn hl m (K1++ [x]) K2 I (by rw [e,W2];rfl);rw [YX,X3] at this;rw [<-this];show fI N n ks w v m (yI (uo (JK d) K1) x (JK d x)) _=_;rw [SK hno];rfl
def wR (ks K:List WL):List WL:=ks.filter fun k=>decide (k∉K)
theorem GZ {K:List WL}{k:WL}:k∈wR ks K↔k∈ks/\k∉K:=by
 unfold wR;rw [Yb,YT]
theorem NB {K:List WL}(x:WL):(wR ks K).filter (fun k=> !decide (k=x))=wR ks (K++ [x]):=by
 unfold wR;rw [List.filter_filter];apply List.filter_congr;intro k _;rw [Bool.eq_iff_iff];simp [and_comm]
theorem Jj {N:Nat}{n:Int}{b:Bool}{y:Bool×WM}{v:WV}{ks':List WL}(hown:∀k,jh N y.2 v k=some (iQ d' k))(hc:CutR d d' n b)(hks:∀k,k∈ks↔k∈qr d)(hn:ks.Nodup)(hks':∀k,k∈ks'↔k∈qr d')(hn':ks'.Nodup)(hl:ks'.length<=6000): ∀(m:Nat) (K1 K2:List WL),K2.length<m->ks'=K1++K2->iA N (d'.Zk.length:Int) ks' y v m (uo (JK d) (wR ks K1)) (K1.length:Int)=kN N (d'.Zk.length:Int) (uo (JK d) (wR ks ks'))
 |0,K1,K2,h,_=>by omega
 | m +1,K1,K2,h,e=>by
  have eL:dp N=some lenK:=rfl;have hll:=congrArg List.length e;rw [YX] at hll;rw [iA.eq_2]
  cases K2 with
  |nil=>
   rw [Xr] at e;subst e;rw [WZ (Int.lt_irrefl _),cf]
  | cons x K2=>
   rw [XW] at hll h
   have hj:K1.length<ks'.length:=by omega
   have hx:ks'[K1.length]=x:=by
    have:ks'[K1.length]? =some x:=by rw [e,XI (YB _),YG];rfl
    exact (XO.1 this).2
   have hxm:x∈qr d':=(hks' x).1 (by rw [<-hx];exact Y5 hj);rw [WY (show (K1.length:Int)<(ks'.length:Int) by omega),ct,aK hj,bs,hx,hown,bs,QM hc.wf hxm,nt,cf]
   have b1:(bif decide (x.Za=0) then (some (decide ((d'.Zk.length:Int)<=x.N))) else (some false))=some false:=by
    by_cases h0:x.Za=0
    ·have:=(NF hc.wf hxm h0).2.2;rw [WY h0,ct,WZ I]
    rw [WZ h0,cf]
   rw [b1,bs,bs,cf,eL,bs]
   have hno:x∉K1:=fun hm=>by
    rw [e,Yi] at hn';exact hn'.2.2 x hm x (Ya ..) J
   have b2:(bif !decide (x=lenK) then (some (!decide ((iQ d' x).1=((lk (uo (JK d) (wR ks K1)) x).getD (⟨(⟨0,0,⟨#[]⟩⟩:WL),0,(⟨0,0,⟨#[]⟩⟩:WV),(⟨0,0,⟨#[]⟩⟩:WV),(⟨0,0,⟨#[]⟩⟩:WV)⟩:WU))))) else (some false))=some false:=by
    by_cases hxl:x=lenK
    ·rw [WY hxl,nt,cf]
    obtain ⟨o1,o2⟩:=hc.old x hxm hxl;rw [WZ hxl,nf,ct,Ou (GZ.2 ⟨(hks x).2 o1,hno⟩)];show some (!decide ((iQ d' x).1=(iQ d x).1))=_;rw [o2,WY rfl];rfl
   rw [b2,bs,bs,cf,cU (by constructor<;>omega),Qz (show (wR ks K1).Nodup from List.Nodup.sublist List.filter_sublist hn),NB];have:=Jj hown hc hks hn hks' hn' hl m (K1++ [x]) K2 I (by rw [e,W2];rfl);rw [YX,X3] at this;exact this
set_option maxRecDepth 20000
theorem Sat.of_eq {m m':Option ρ}{R:ρ->Prop}(e:m=m')(h:Sat m' R):Sat m R:=by rw [e];exact h
theorem MH {N:Nat}(hN:20000<=N){v:WV}(hv:v.Za=7)(hvN:v.N=i){k q:Nat}(hk:k<=580){w:WM}(hM:d.Zk.length<=2200)(h:Sim N i k q w c d): ∃ks,kA N w v=some ks/\EvK ks (qr d):=by
 obtain ⟨r,e1, -,s2⟩:=Tl N hN (qr d) (by have:=CS hN hM h;omega) (Jr hN hM h);exact ⟨r,(Qb hN hv hvN hk hM h).trans e1,s2⟩
theorem KR {N:Nat}(hN:20000<=N){k q:Nat}(hk:k+8<=580)(hq:q+1024*1000<=1000000000){w:WM}(hM:d.Zk.length<=2190)(hL:d.Zm.length<1000)(h:Sta N k q w d){n:Int}(hn:n<=2000\/4096<n)(z:WM×WV×Bool):Sat (iC N n z w) (· =true):=by
 obtain ⟨i,R,c,h1,h2,s,e1,e2⟩:=h.at_;obtain ⟨ks,k1,k4⟩:=MH hN (v:=⟨7,i,⟨#[]⟩⟩) rfl rfl I I s
 have hkl:ks.length<=3300:=by rw [k4.len];exact CS hN I s
 have hkn:ks.Nodup:=k4.perm.nodup_iff.2 (Js s.wf);unfold iC;rw [e1,bs,cU (by constructor<;>omega),e2,bs,k1,bs];have hw:=IQ (n:=n) (fun key=>ID hN (v:=⟨7,i,⟨#[]⟩⟩) rfl rfl I I s key) hkn I N [] ks I rfl;refine Sat.of_eq (hw:fI N n ks w _ N [] 0=_) ?_;unfold kO
 refine (Ey hN (v:=⟨7,i,⟨#[]⟩⟩) J J I hq I hL s (n:=n) I).bind fun r hr=> ?_
 obtain ⟨d',r1,r2,r3,c',s',f'⟩:=hr;rw [CC hN I (by have:=s.ob.len;omega) s.wf n] at r1;have hcut:=Ke s.wf n;rw [YM r1] at hcut;replace hcut:CutR d d' n r.1:=hcut
 have hM':d'.Zk.length<=2200:=by omega
 obtain ⟨ks',l1,l4⟩:=MH hN (v:=⟨7,i,⟨#[]⟩⟩) rfl rfl hk hM' s'
 have hkl':ks'.length<=3300:=by rw [l4.len];exact CS hN hM' s'
 rw [TG rfl rfl hk hM' s',bs]
 have b1:Option.bind (bif !(r.1==(decide ((d'.Zk.length:Int)=n))) then (some (decide (0<=n))) else (some false)) (fun a6=>(bif a6 then (some (decide (n<=4096))) else (some false)))=some false:=by
  by_cases h0:0<=n
  ·by_cases h4:n<=4096
   ·rw [hcut.done h0 h4,beq_self_eq_true,nt,cf,bs,cf]
   rw [WY h0,WZ h4];cases r.1==(decide ((d'.Zk.length:Int)=n))<;>rfl
  rw [WZ h0];cases r.1==(decide ((d'.Zk.length:Int)=n))<;>rfl
 rw [show∀{g:Bool->Option Bool},Option.bind (bif !(r.1==(decide ((d'.Zk.length:Int)=n))) then (some (decide (0<=n))) else (some false)) (fun a6=>(bif a6 then (some (decide (n<=4096))) else (some false)).bind g)=(Option.bind (bif !(r.1==(decide ((d'.Zk.length:Int)=n))) then (some (decide (0<=n))) else (some false)) (fun a6=>(bif a6 then (some (decide (n<=4096))) else (some false)))).bind g from (Option.bind_assoc ..).symm,b1,bs,cf,l1,bs];have hno:=Jj (y:=r) (fun key=>ID hN (v:=⟨7,i,⟨#[]⟩⟩) rfl rfl hk hM' s' key) hcut (fun k=>k4.mem) hkn (fun k=>l4.mem) (l4.perm.nodup_iff.2 (Js s'.wf)) I N [] ks' I rfl
 have e0:wR ks []=ks:=XD.2 fun x _=>by simp
 rw [e0] at hno;refine Sat.of_eq (hno:iA N _ ks' r _ N _ 0=_) ?_;unfold kN kL
 have hlen:(uo (JK d) (wR ks ks')).length<N:=by
  have:(wR ks ks').length<=ks.length:=XY ..;unfold uo;rw [YZ];omega
 rw [QD hlen]
 ·unfold og;rw [K4 hN,bs];exact ac J
 intro e he;obtain ⟨k,hk,rfl⟩:=Yc.1 he;obtain ⟨m1,m2⟩:=GZ.1 hk
 obtain ⟨g1,g2⟩:=hcut.gone k (k4.mem.1 m1) fun h=>m2 (l4.mem.2 h)
 show (bif !decide (k.Za=0) then (some true) else (some (decide (k.N<(d'.Zk.length:Int)))))=some false;rw [WY g1,nt,cf,WZ I]
def VC (N:Nat)(n:Int)(a1:List WS)(y:WM×WV×Bool)(m:Nat)(j:Int)(w:WM)(d:WO):Option Bool:=iB N n a1 y m j w d.Ext d.Zs d.Zk d.Zm
theorem TM (N:Nat)(n:Int)(a1:List WS)(y:WM×WV×Bool)(m:Nat)(j:Int)(w:WM)(d:WO):VC N n a1 y (m+1) j w d=(bif decide (j<(a1.length:Int)) then (some (decide (j<40))) else (some false)).bind fun a6=>bif a6 then ((aq a1 j).bind fun a7=>(tw N w d a7).bind fun r=>aL (in64 (j+1)) (VC N n a1 y m (j+1) r.2.2 r.1)) else (iC N n y w):=rfl
theorem Fo {N:Nat}(hN:20000<=N){n:Int}(hn:n<=2000\/4096<n)(a1:List WS)(z:WM×WV×Bool)(hok:∀jj x,jj<40->a1[jj]? =some x->ActOk x): ∀(m j:Nat) (w:WM) (d:WO),40<m+j->j<=40->d.Zk.length<=2101+j->d.Zm.length<=j->Sta N (52+8*j) (1+1024*1000*j) w d->Sat (VC N n a1 z m (j:Int) w d) (· =true)
 |0,j,w,d,h,h2,_,_,_=>by omega
 | m+1,j,w,d,h,h2,hE,hP,hS=>by
  rw [TM]
  refine cz (P:=fun b=>b=true↔((j:Int)<(a1.length:Int)/\(j:Int)<40)) (fun e=>ac ⟨fun e2=>⟨YV e,YV e2⟩,fun h=>WY h.2⟩) (fun e=>ac ⟨fun h=>(by cases h),fun h=>absurd h.1 (YU e)⟩) fun c hc=>dM (fun e2=> ?_) fun e2=> ?_
  ·obtain ⟨h4,h5⟩:=hc.1 e2
   refine AW I fun x hx=> ?_
   refine (Tw hN I I I I hS (hok j x I hx)).bind fun r hr=> ?_
   obtain ⟨-,r2,r3,r4⟩:=hr;refine aw (by constructor<;>omega) ?_
   have:=Fo hN hn a1 z hok m (j+1) r.2.2 r.1 I I I I (by
    rw [show 52+8*(j+1)=52+8*j+8 by omega,show 1+1024*1000*(j+1)=1+1024*1000*j+1024*1000 by omega]
    exact r4)
   exact this
  exact KR hN I I I I hS hn z
theorem BE {N:Nat}(hN:20000<=N){n:Int}(hn:n<=2000\/4096<n)(a0:List WV)(h64:∀x∈a0,in64 x.N)(a1:List WS)(hl:a0.length<=200)(hok:∀jj x,jj<40->a1[jj]? =some x->ActOk x): ∀(m j:Nat),a0.length<m+j->j<=a0.length->(∀jj x,jj<j->a0[jj]? =some x->PrimB x)->Sat (kM N n a0 a1 m (j:Int)) (· =true)
 |0,j,h,h2,_=>by omega
 | m +1,j,h,h2,hk=>by
  rw [kM.eq_2]
  refine aC (fun h4=> ?_) fun h4=> ?_
  ·refine AW I fun x hx=>(EZ N x).bind fun b hb=>dM (fun _=> ?_) fun e=> ?_
   ·rw [K4 hN,bs];exact ac J
   refine aw (by constructor<;>omega) ?_
   have:=BE hN hn a0 h64 a1 hl hok m (j+1) I I fun jj y hj hy=>by
    by_cases e2:jj=j
    ·subst e2;rw [hx] at hy;cases hy;exact hb (GW e)
    exact hk jj y I hy
   exact this
  have hp: ∀x∈a0,PrimB x/\in64 x.N:=fun x hx=>by
   obtain ⟨jj,hj,e⟩:=XV hx;exact ⟨hk jj x I (by rw [XM hj,e]),h64 x hx⟩
  obtain ⟨w,v,e1,r,e2,hS⟩:=Tg hN hl hp
  have eN:yV N a0=some ⟨true,false,a0,[]⟩:=by
   unfold yV;rw [rF (by rw [XZ];omega),Y4]
  unfold pi;rw [e1,bs];show Sat (bif !true then some false else _) _;rw [nt,cf];show Sat (Option.bind (gm N w v) _) _;rw [e2,bs,eN,bs];have:=Fo hN hn a1 (w,v,true) hok N 0 r.2 ⟨true,false,a0,[]⟩ I I (by show a0.length<=_;omega) (YB _) hS;exact this
theorem KP {N:Nat}(hN:20000<=N)(a0:List WV)(a1:List WS)(n:Int)(h0:∀x∈a0,in64 x.N)(h1:∀a∈a1,A64 a):mP N a0 a1 n=some true:=by
 apply Sat.eq;unfold mP
 refine cz (P:=fun b=>b=false->a0.length<=200/\ ∀jj x,jj<40->a1[jj]? =some x->ActOk x) (fun _=>ac fun h=>by cases h) (fun e=> ?_) fun b hb=> ?_
 ·unfold Ac
  refine (G9 (N:=N) a1 h1 N 0 I I fun jj x h=>by omega).bind fun y hy=>ac fun h=>⟨by have:=YU e;omega,hy (GW h)⟩
 refine cz (P:=fun c=>c=false->(a0.length<=200/\ ∀jj x,jj<40->a1[jj]? =some x->ActOk x)/\(n<=2000\/4096<n)) (fun _=>ac fun h=>by cases h) (fun e=> ?_) fun c hc=>dM (fun _=> ?_) fun e=> ?_
 ·refine cz (P:=fun c=>c=false->n<=2000\/4096<n) (fun _=>ac fun h=>by have:=YU h;omega) (fun e=>ac fun _=>by have:=YU e;omega) fun c hc=>ac fun h=>⟨hb e,hc h⟩
 ·rw [K4 hN,bs];exact ac J
 obtain ⟨⟨hl,hok⟩,hn⟩:=hc e
 exact BE hN hn a0 h0 a1 hl hok N 0 I I fun jj x h=>by omega
theorem KQ {a1:List WS}{a2:Int}(h0:UJ (fun z=>qU z) a0)(h1:UJ (fun z=>HF z) a1):mP 20000 a0 a1 a2=some true:=
 KP (by decide) a0 a1 a2 (fun x hx=>(h0.2 x hx).2.1) fun a ha=>by
  have h:=h1.2 a ha;exact ⟨h.2.2.2.2.2.1,h.2.2.2.1.1,h.2.2.2.1.2.1,h.2.2.2.1.2.2.1.2.1⟩
open Go.ChangeShapes Go.WideShapes Go.ChangeAt Go.RowKit Go.Deep
theorem gHole:Tryz.prog.globalNamed "pantomime/array.hole" =some 0:=by kernel_rfl
theorem tHole:(Tryz.prog.globals[0]?).map (·.type)=some 28:=by kernel_rfl
set_option maxRecDepth 100000 in
theorem NJ {hJ:World}(h:laidMetH Xa [("pantomime/array.hole",Rows.laid_pantomime_array_hole)] hJ):(aW 0 28 [.int .i64 8,.int .i64 0,.string ⟨#[]⟩]).ok (fun _=>False) (fun q=>q<hJ.heap.size) hJ:=by
 rw [MakeChecks.laidMetH_plain _ _ _ O] at h;obtain ⟨ps,⟨g0,t0,cs0,f0,p0,q0,hg0,ht0,hv0,hd0, -⟩, -, -⟩:=h;obtain rfl:=YM (gHole.symm.trans hg0);obtain rfl:=YM (tHole.symm.trans ht0);obtain ⟨xs,m,rfl,hx,hl,hn,hf⟩:=DataW.trod_struct WA hd0
 have hc:Tryz.prog.cellsOf 28=3:=by kernel_rfl
 have z3:Tryz.prog.cellsOf 3=1:=by kernel_rfl
 have z9:Tryz.prog.cellsOf 9=1:=by kernel_rfl
 rw [hc] at hl;obtain ⟨l⟩:=cs0;have hn':xs.length=3:=hn
 match l,xs,hl,hn',hf,hv0,hx with
 | [c0,c1,c2],[x0,x1,x2],_,_,hf,hv0,hx=>
  have k0:DataW.trod (fun _=>()) Xa hJ 0 (fun _=>true) false m 3 (List.take (Tryz.prog.cellsOf 3) (List.drop 0 [c0,c1,c2]))=[x0,x1,x2][0]? :=hf 0 _ rfl;have k1:DataW.trod (fun _=>()) Xa hJ 0 (fun _=>true) false m 3 (List.take (Tryz.prog.cellsOf 3) (List.drop 1 [c0,c1,c2]))=[x0,x1,x2][1]? :=hf 1 _ rfl;have k2:DataW.trod (fun _=>()) Xa hJ 0 (fun _=>true) false m 9 (List.take (Tryz.prog.cellsOf 9) (List.drop 2 [c0,c1,c2]))=[x0,x1,x2][2]? :=hf 2 _ rfl;simp only [z3,z9,Xx,Xy,Ys,Yt,XK,XJ] at k0 k1 k2;obtain ⟨n0,e0,d0, -⟩:=DataW.trod_int Wp k0;obtain ⟨n1,e1,d1, -⟩:=DataW.trod_int Wp k1;obtain ⟨s2,e2,d2, -⟩:=DataW.trod_string Wn k2
  have hx':[(DataW.lit (.int .i64 8):DataW Unit),.lit (.int .i64 0),.lit (.string [])]=[x0.1,x1.1,x2.1]:=by
   have:=congrArg Prod.fst hx;exact DataW.agg.inj this
  rw [d0,d1,d2] at hx';simp only [Xt,DataW.lit.injEq,Lit.int.injEq,Lit.string.injEq,and_true,true_and] at hx';obtain ⟨rfl,rfl,hs⟩:=hx';obtain rfl:=(Xs e0).1;obtain rfl:=(Xs e1).1;obtain rfl:=(Xs e2).1
  have hs2:s2=⟨#[]⟩:=by
   obtain ⟨⟨a⟩⟩:=s2;simp only at hs;rw [<-hs]
  subst hs2;simp only [World.var?,gHole,YJ] at hv0;split at hv0
  ·rename_i cs t p hh
   obtain rfl:=bD hv0;have hr:RBlk hJ 0 #[.int .i64 8,.int .i64 0,.string ⟨#[]⟩]:=⟨t,p,hh⟩;exact ⟨hr.lt,hr⟩
  cases hv0
end
end Go.Proofs.YtmcifcmlojonnaaGreatDoor