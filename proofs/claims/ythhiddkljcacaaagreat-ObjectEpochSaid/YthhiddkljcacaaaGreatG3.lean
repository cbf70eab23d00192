/- Merged texts: part 3. No conditions of their own. -/
import Derived.Test.YthhiddkljcacaaaGreatG2
import Derived.Test.YthhiddkljcacaaaGreatChecked
import Derived.ProofKit
import Derived.Shelf.SlIterI.Nil
import Derived.Shelf.SortM.Plain
import Derived.Shelf.SortM.SortNone
import Derived.Shelf.SlGeneric
import Derived.Ground.GgzProg
import Derived.Ground.SlgmProg
import Derived.Test.YthhiddkljcacaaaGreatProg
set_option maxHeartbeats 4000000
namespace Go.Proofs.YthhiddkljcacaaaGreat
variable (N:Nat){listed:Array Bool}{af:Array Edge}{ops:Array Oper}{ats:Array TypeId}{c:Chunk}{X:Cx}{fn:Func}{f:FuncId}{a1 a2:Int}{K:K3}{a0:List (Int×Bool)}{l:List Oper}{xs:List Operand}{rs:List ResultVar}{B2 b bt fuel i k n pd:Nat}{x y:Operand}{gd:Option (Nat×Bool)}{A:Option Addr}{P:Program}{pos:String}{α β ι κ ρ σ:Type}{e t ty:TypeId}{v:Value}{R R':Value->Wa->Prop}{L L' L2 M Z post pre:Wa}{args cs us vs:Wb}{C:World->Prop}{s s2:bA}
section
theorem Vs:type_of% Tryz.underlying9:=Tryz.underlying9
theorem Vr:type_of% Tryz.underlying126:=Tryz.underlying126
theorem Vq:type_of% Tryz.underlying174:=Tryz.underlying174
theorem Vp:type_of% Tryz.underlying156:=Tryz.underlying156
theorem Vo:type_of% Tryz.underlying123:=Tryz.underlying123
theorem Vn:type_of% Tryz.underlying99:=Tryz.underlying99
theorem Vm:type_of% Tryz.underlying72:=Tryz.underlying72
theorem EM:type_of% Tryz.underlying22:=Tryz.underlying22
theorem Ex:type_of% Tryz.underlying3:=Tryz.underlying3
theorem z9:type_of% Tryz.underlying43:=Tryz.underlying43
variable {c1 c2 c3:Nat}
open Go.RowKit
theorem ownsX.take {w:World}{sz c:Nat}(h:ownsX w e sz (.slice A n c) n cs)(hk:k<=n)(hn:0<n):ownsX w e sz (.slice A k c) k (cs.take (k*sz)):=by
 have h1:=h.1;have hm:k*sz<=n*sz:=XB _ hk;refine ⟨by rw [XT];omega,.inr ?_⟩;rcases h.2 with ⟨-,h0⟩|⟨g,cap,cur,e1,p1,p2,p3,p4,p5,p6⟩
 ·omega
 injection e1 with e1 _ e3
 subst e1 e3;exact ⟨g,c,cur,J,p1,p2,Xy hk p3,p4,p5,by rw [<-p6,List.take_take,Nat.min_eq_left hm]⟩
section
variable {d:Option Nat}
theorem Pr {g cap:Nat}(w:World)(inf:TypeInfo)(ht:P.underlying t=some (.slice e))(hi:P.info? e=some inf)(g2:ownsX w e inf.size (.slice (some ⟨g,0,none⟩) n cap) n cs)(a:Addr)(m c:Nat)(news:Wb)(hl:news.length=m*inf.size)(hnews:∀j u,news[j]? =some u->w.cell? (a.add j)=some u)(h1:∀u∈news,u.oneCell'=true)(hge:n+m<=cap):
  ∃w',(Builtin.append_ #[t,t] ty #[.slice (some ⟨g,0,none⟩) n cap,.slice (some a) m c]).run P w=.ok (.slice (some ⟨g,0,none⟩) (n+m) cap) w'/\ownsX w' e inf.size (.slice (some ⟨g,0,none⟩) (n+m) cap) (n+m) (cs++news)/\Fr (· =g) w w':=by
 rcases g2.2 with ⟨e1, -⟩|⟨g',cap',cur,e1,q1,q2,q3,q4,⟨c0,c1,c2,c3⟩,q6⟩
 ·cases e1
 obtain ⟨rfl,rfl⟩:g=g'/\cap=cap':=by injection e1 with e1 _ e3;injection e1 with e1;injection e1 with e1;exact ⟨e1,e3⟩
 have hfc:=run_firstCells_some (P:=P) w inf.size m a m c news hl hnews
 have hle:(n+m)*inf.size<=cur.size:=by rw [c3];exact XB _ U
 have hsum:n*inf.size+news.length<=cur.size:=by rw [hl, <-Xt];exact hle
 obtain ⟨w',s1,s2,s3⟩:=fT (P:=P) (t:=e) news w g (n*inf.size) 0 cur q2 U (Wu.2 h1)
 have hlen:(cs++news).length=(n+m)*inf.size:=by rw [XS,g2.1,hl,Xt]
 refine ⟨w',?_,⟨hlen,.inr ⟨g,cap,_,J,XD _,s3,hge,q4,⟨c0,c1,c2,by rw [BB];exact c3⟩,?_⟩⟩,s2⟩
 ·simp [Builtin.append_,XR ht,sizeOf,typeInfo,hi,Builtin.lenOf,hge,hfc,Addr.add_lit,s1]
 have hcur:cur=cur.toList.toArray:=by simp
 rw [Nat.add_zero,hcur,Ed _ _ _ (by simp;omega),q6, <-hlen,V3, <-V3];exact List.take_left
theorem Ng {t e sz:Nat}{o z:Operand}{c l h m:Nat}(hx:be s x=some (.slice A n c))(hu:P.underlying t=some (.slice e))(hs:kP P e sz=true)(hl:be s o=some (.int .i64 (l:Int)))(hh:be s y=some (.int .i64 (h:Int)))(hm:be s z=some (.int .i64 (m:Int)))(h0:l<=h)(h1:h<=m)(h2:m<=c):Ev P s C ⟨d,.slice t x (some o) (some y) (some z),ty,pos,af,gd⟩ (.slice (mu A m l sz) (h - l) (m - l)):=fun ρ hρ w _=>by
 unfold execOp;simp only [XG,Option.map_none,hρ x _ hx,hρ o _ hl,hρ y _ hh,hρ z _ hm,Instr.sliceAt,Instr.slice,Instr.sliceBounds,XL,XR hu,XK,pn h2,pn h1,pn h0,kO hs w,XM];rfl
theorem Gd {R:Rep α}{c j sz by_:Nat}{xs:List α}(i:Nat)(hi:L[i]? =some (bh R e (.slice A n c) xs))(hx:be s x=some (.slice (mu A c 0 sz) (k - 0) (c - 0)))(hy:be s y=some (.slice (mu A c j sz) (n - j) (c - j)))(ht:P.underlying t=some (.slice e))(hz:ry P e sz by_=true)(hsz:R.sz=sz)(hn:n=xs.length)(h1:k<j)(h2:j<=n)(h3:n<=c):OpX P s L ⟨d,.call ⟨.builtin .append, #[x,y], #[t,t]⟩,ty,pos,af,gd⟩ fun u L'=> ∃A',u=.slice A' (k+(n - j)) c/\L'=L.set i (bh R e (.slice A' (k+(n - j)) c) (xs.take k++xs.drop j)):=fun ρ hρ Z w hw=>by
 subst hsz hn;unfold ry at hz
 cases hinfo:P.info? e with
 |none=>rw [hinfo] at hz;cases hz
 | some inf=>
  rw [hinfo] at hz;simp only [XW] at hz;have e2:=Xu hz.1.1.1;obtain ⟨T,S,hT⟩:=hw;obtain ⟨vss,g1,g2⟩:=hT.ok (aU hi);rcases g2 with ⟨g2,g3⟩|⟨h0, -⟩
  rotate_left
  ·omega
  rcases g2.2 with ⟨-,h0⟩|⟨g,cap,cur,e1,p1,p2,p3,p4,p5,p6⟩
  ·omega
  obtain ⟨rfl,rfl⟩:A=some ⟨g,0,none⟩/\c=cap:=by injection e1 with e1 _ e3;exact ⟨e1,e3⟩
  have ex:(Value.slice (mu (some ⟨g,0,none⟩) c 0 R.sz) (k - 0) (c - 0))=.slice (some ⟨g,0,none⟩) k c:=by
   unfold mu;rw [if_neg U];simp [kc]
  have hk:=g2.take (k:=k) U U;have hrows:=oo g1;have hdrop:(vss.drop j).flatten=vss.flatten.drop (j*R.sz):=za g1 j
  have hlen:(vss.drop j).flatten.length=(xs.length - j)*R.sz:=by
   have:=oo (g1.drop j);rw [WZ] at this;exact this
  have hcells:=me (cap:=c) p2 p6
  have htake:vss.flatten.take (k*R.sz)=(vss.take k).flatten:=by
   have h5:vss.flatten=(vss.take k).flatten++(vss.drop k).flatten:=by rw [<-List.flatten_append,Xm]
   have h6:=oo (g1.take k);rw [XT,Nat.min_eq_left U] at h6;rw [h5, <-h6,List.take_left]
  obtain ⟨a,m2,ea,hnews⟩: ∃(a:Addr) (m2:Nat),(Value.slice (mu (some ⟨g,0,none⟩) c j R.sz) (xs.length - j) (c - j))=.slice (some a) (xs.length - j) m2/\ ∀q u,(vss.drop j).flatten[q]? =some u->w.cell? (a.add q)=some u:=by
   unfold mu;by_cases hc:c=j
   ·rw [if_pos hc];refine ⟨⟨g,0,none⟩,c - j,J,fun q u hq=> ?_⟩;have:(vss.drop j).flatten=[]:=WD (by rw [hlen,show xs.length - j=0 by omega];simp);rw [this] at hq;simp at hq
   rw [if_neg hc];refine ⟨⟨g,j*R.sz,none⟩,c - j,by simp [kc],fun q u hq=> ?_⟩;rw [kc];rw [hdrop,WN] at hq;have:=hcells _ _ hq
   rwa [XC] at this
  obtain ⟨w',r1,r2,r3⟩:=Pr (P:=P) (ty:=ty) w inf ht hinfo (by rw [e2];exact hk) a (xs.length - j) m2 (vss.drop j).flatten (by rw [e2];exact hlen) hnews (Wu.1 (vM (g1.drop j))) U;rw [e2,htake, <-List.flatten_append] at r2
  have hxl:(xs.take k++xs.drop j).length=k+(xs.length - j):=by rw [XS,XT,WZ];omega
  refine .inl ⟨_,w',L.set i (bh R e (.slice (some ⟨g,0,none⟩) (k+(xs.length - j)) c) (xs.take k++xs.drop j)),?_,?_,_,J,J⟩
  ·rw [fz (P:=P) (ρ:=ρ) (d:=d) (ty:=ty) (pos:=pos) (af:=af) (gd:=gd) (b:=.append) (xs:=[x,y]) (ats:= #[t,t]) (vs:=[.slice (some ⟨g,0,none⟩) k c,.slice (some a) (xs.length - j) m2]) (by simp [hρ x _ (hx.trans (congrArg some ex)),hρ y _ (hy.trans (congrArg some ea))]) w];simp only [builtin,XL];have r1':(Builtin.append_ #[t,t] ty [Value.slice (some ⟨g,0,none⟩) k c,.slice (some a) (xs.length - j) m2].toArray).run P w=.ok (.slice (some ⟨g,0,none⟩) (k+(xs.length - j)) c) w':=r1;rw [r1'];rfl
  have hTg:T i g:=g3 g rfl
  have hfin:SepL ((L++Z).set i (bh R e (.slice (some ⟨g,0,none⟩) (k+(xs.length - j)) c) (xs.take k++xs.drop j))) w':=by
   refine hT.upd (aU hi) (T':=T i) (Agr.of_fr r3 fun q hq e=>hq (e▸hTg)) (fun _=> .inl) (fun q hq=>Xz (hT.lt hq) r3.size) ?_
   have hS:Agr S w w':=Agr.of_fr r3 fun q hq e=>hT.ro hTg (e▸hq)
   exact ⟨vss.take k++vss.drop j,((g1.take k).append (g1.drop j)).imp fun _ _=>R.loc hS,.inl ⟨by rw [hxl];exact r2,fun q hq=>by cases hq;exact hTg⟩⟩
  rw [lL Z hi] at hfin;exact hfin
def Ru (P:Program)(e:TypeId):Bool:=match P.info? e with
 |some i=>match i.zero with
  |some z=>z.cells.all (·.oneCell')
  |none=>false
 |none=>false
theorem HJ {R:Rep α}{c o sz by_:Nat}{xs:List α}(i:Nat)(hi:L[i]? =some (bh R e (.slice A n c) xs))(hx:be s x=some (.slice (mu A c n sz) (o - n) (c - n)))(ht:P.underlying t=some (.slice e))(hz:ry P e sz by_=true)(ho:Ru P e=true)(hsz:R.sz=sz)(h1:n<o)(h2:o<=c):OpX P s L ⟨d,.call ⟨.builtin .clear, #[x], #[t]⟩,ty,pos,af,gd⟩ fun u L'=>u=.tuple #[]/\L'=L:=fun ρ hρ Z w hw=>by
 subst hsz;unfold ry at hz
 cases hinfo:P.info? e with
 |none=>rw [hinfo] at hz;cases hz
 | some inf=>
  rw [hinfo] at hz;simp only [XW] at hz;obtain ⟨⟨⟨q2,q3⟩,q4⟩,q5⟩:=hz
  cases hzz:inf.zero with
  |none=>rw [hzz] at q4;cases q4
  | some z=>
   rw [hzz] at q4;have e4:=Xu q4;obtain ⟨T,S,hT⟩:=hw;obtain ⟨vss,g1,g2⟩:=hT.ok (aU hi);rcases g2 with ⟨g2,g3⟩|⟨h0,A0,e0⟩
   rotate_left
   ·injection e0 with _ _ e0;omega
   rcases g2.2 with ⟨e0, -⟩|⟨g,cap,cur,e1,p1,p2,p3,p4,p5,p6⟩
   ·injection e0 with _ _ e0;omega
   obtain ⟨rfl,hn,rfl⟩:A=some ⟨g,0,none⟩/\n=xs.length/\c=cap:=by injection e1 with e1 e2 e3;exact ⟨e1,e2,e3⟩
   subst hn;obtain ⟨c0,k1,k2,k3⟩:=p5
   have ex:(Value.slice (mu (some ⟨g,0,none⟩) c xs.length R.sz) (o - xs.length) (c - xs.length))=.slice (some ⟨g,xs.length*R.sz,none⟩) (o - xs.length) (c - xs.length):=by
    unfold mu;rw [if_neg U];simp [kc]
   have hzl:(Builtin.zeroCells z.cells (o - xs.length)).toList.length=(o - xs.length)*R.sz:=by rw [Array.length_toList,size_zeroCells,e4]
   have hz1:(Builtin.zeroCells z.cells (o - xs.length)).toList.all (·.oneCell')=true:=by
    have ho':z.cells.all (·.oneCell')=true:=by
     unfold Ru at ho;rw [hinfo] at ho;simp only [hzz] at ho;exact ho
    rw [Wu];intro u hu;simp only [Builtin.zeroCells,Array.toList_map,Xc] at hu;obtain ⟨q, -,rfl⟩:=hu;by_cases h9:q%z.cells.size<z.cells.size
    ·rw [getElem!_pos z.cells _ h9];exact Array.all_eq_true.1 ho' _ h9
    rw [getElem!_neg z.cells _ h9];rfl
   have hsum:xs.length*R.sz+(o - xs.length)*R.sz<=cur.size:=by
    rw [<-Xt,k3];exact XB _ U
   obtain ⟨w',s1,s2,s3⟩:=fT (P:=P) (t:=e) (Builtin.zeroCells z.cells (o - xs.length)).toList w g (xs.length*R.sz) 0 cur p2 (by rw [hzl];omega) hz1;refine .inl ⟨.tuple #[],w',L,?_,?_,J,J⟩
   ·rw [fz (P:=P) (ρ:=ρ) (d:=d) (ty:=ty) (pos:=pos) (af:=af) (gd:=gd) (b:=.clear) (xs:=[x]) (ats:= #[t]) (vs:=[.slice (some ⟨g,xs.length*R.sz,none⟩) (o - xs.length) (c - xs.length)]) (by simp [hρ x _ (hx.trans (congrArg some ex))]) w];obtain ⟨q,hq⟩: ∃q,o - xs.length=q+1:=⟨o - xs.length - 1,by omega⟩;rw [hq] at s1⊢;simp only [builtin,Builtin.clear_,XL,WV,WM,XR ht,XK];simp [zeroValue,typeInfo,hinfo,hzz,s1]
   have hTg:T i g:=g3 g rfl
   have hfin:SepL ((L++Z).set i (bh R e (.slice (some ⟨g,0,none⟩) xs.length c) xs)) w':=by
    refine hT.upd (aU hi) (T':=T i) (Agr.of_fr s2 fun q hq e=>hq (e▸hTg)) (fun _=> .inl) (fun q hq=>Xz (hT.lt hq) s2.size) ?_
    have hS:Agr S w w':=Agr.of_fr s2 fun q hq e=>hT.ro hTg (e▸hq)
    refine ⟨vss,g1.imp fun _ _=>R.loc hS,.inl ⟨⟨g2.1,.inr ⟨g,c,_,J,p1,s3,p3,p4,⟨c0,k1,k2,by rw [BB];exact k3⟩,?_⟩⟩,g3⟩⟩
    have hcur:cur=cur.toList.toArray:=by simp
    have hle:xs.length*R.sz<=cur.toList.length:=by simp;omega
    rw [Nat.add_zero,hcur,Ed _ _ _ (by rw [hzl];simp;omega),V3,List.take_append_of_le_length (by rw [XT];omega),List.take_take,Nat.min_self];exact p6
   rw [lL Z hi] at hfin
   have e9:L.set i (bh R e (.slice (some ⟨g,0,none⟩) xs.length c) xs)=L:=by
    apply WE;intro q;by_cases e:i=q
    ·subst e;rw [WT (WQ.1 hi).1,hi]
    rw [WS e]
   rw [e9] at hfin;exact hfin
end
section
theorem SG {R:Rep α}{c:Nat}{xs:List α}(i:Nat)(hi:L[i]? =some (bh R e (.slice A n c) xs))(k:n=xs.length->n<=c->aY X ops l K s L):aY X ops l K s L:=fun H Ds a w ha hd hw=>by
 obtain ⟨T,S,hT⟩:=hw.get (aU hi);obtain ⟨A',c',e1,h1, -⟩:=ak _ _ _ hT
 injection e1 with _ e2 e3
 exact k e2 U H Ds a w ha hd hw
end
end
section
open Go.RowKit
def oF (_:Nat)(a0:List α)(a1 a2:Int):Option (List α):=aE (0<=a1/\a1<=a2/\a2.toNat<=a0.length) (some (a0.take a1.toNat++a0.drop a2.toNat))
theorem CH {N:Nat}{R:Rep α}{a0 r:List α}(h:oF N a0 a1 a2=some r){c:Nat}(hR:R.sz=3:=by rfl):Okc Wc 95 [.slice A n c,.int .i64 a1,.int .i64 a2] [bh R 29 (.slice A n c) a0] (fun u post=> ∃A n c,u=.slice A n c/\post=[bh R 29 (.slice A n c) r]):=by
 obtain ⟨⟨p1,p2,p3⟩,h⟩:=ac h;obtain rfl:=jn h;obtain ⟨i,rfl⟩: ∃i:Nat,a1=(i:Int):=⟨a1.toNat,by omega⟩;obtain ⟨j,rfl⟩: ∃j:Nat,a2=(j:Int):=⟨a2.toNat,by omega⟩;simp only [Ws] at*
 have hij:i<=j:=by omega
 have size3:kP Wc 29 3=true:=by kernel_rfl
 refine Gf Tryz.func95 J J ?_;simp only [uz];refine au ?_;refine ke ?_;refine gT (mi J) J J J ?_;refine Aj ?_;refine AB ?_;refine au ?_;refine ke ?_
 refine SG 0 J fun hn hc=> ?_
 refine gT (ao J) J J J ?_;refine gT (ao J) J J J ?_;refine gT (ao J) J J J ?_;refine gT (ao J) J J J ?_;refine sG (sj 0 J ak J z9) J J J ?_;refine gT (Ng (l:=i) (h:=j) (m:=a0.length) J z9 size3 J J J hij p3 U) J J J ?_;refine Aj ?_;refine AB ?_;refine au ?_;refine au ?_;refine ke ?_;refine gT (ao J) J J J ?_;refine gT (ao J) J J J ?_;refine gT (RF J J) J J J ?_;refine Aj ?_;refine AB ?_;refine K0 J (fun g=> ?_) (fun g=> ?_)
 ·have e:i=j:=by have:=XQ g;omega
  subst e;refine au ?_;refine ke ?_;refine gT (ao J) J J J ?_;refine gT (mi J) J J J ?_;refine Aj ?_;refine AB ?_;refine JV ?_;refine P9 ?_;rw [Xm];exact Ai J J (ah _) ⟨_,_,_,J,J⟩
 have hlt:i<j:=by
  have:=XP g;omega
 refine Is ?_;refine AB ?_;refine au ?_;refine ke ?_;refine gT (ao J) J J J ?_;refine sG (sj 0 J ak J z9) J J J ?_;refine gT (mi J) J J J ?_;refine Aj ?_;refine AB ?_;refine au ?_;refine bm I [] (yC [] 1 J J) ?_;refine yM 0 J I (ao J) J J ?_;refine yM 1 J I (ao J) J J ?_;refine yM 2 J I (rT (lo:=none) (l:=0) (h:=i) J z9 size3 J J (XD _) U) J J ?_;refine yM 3 J I (ao J) J J ?_;refine yM 4 J I (ao J) J J ?_;refine yM 5 J I (rT (hi:=none) (l:=j) (h:=n) J z9 size3 J J U hc) J J ?_;refine Dj 6 J I (Gd (k:=i) (j:=j) (sz:=3) (by_:=32) 0 J J J z9 I hR hn hlt U hc) J J J ?_;rintro _ _ ⟨A',rfl,rfl⟩;refine ⟨[],yC [] 1 J J,ah _,?_⟩;refine yM 7 J I (mi J) J J ?_;refine fg I ?_;refine AB ?_
 have hlen:(a0.take i++a0.drop j).length=i+(n - j):=by rw [XS,XT,WZ];omega
 refine au ?_;refine ke ?_;refine gT (ao J) J J J ?_;refine gT (ao J) J J J ?_;refine sG (sj 0 J ak J z9) J J J ?_;rw [hlen];refine gT (ao J) J J J ?_;refine gT (rT (l:=i+(n - j)) (h:=a0.length) J z9 size3 J J U U) J J J ?_;refine RL (HJ (n:=i+(n - j)) (o:=a0.length) (sz:=3) (by_:=32) 0 J J z9 I I hR U U) J J ?_;rintro _ _ ⟨rfl,rfl⟩;refine Aj ?_;refine AB ?_;refine au ?_;refine ke ?_;refine gT (ao J) J J J ?_;refine gT (mi J) J J J ?_;refine Aj ?_;refine AB ?_;refine JV ?_;exact Ai J J (ah _) ⟨_,_,_,J,J⟩
end
section
open Go.RowKit
section
theorem gH {c:Operand}{x y:Code}{b:Bool}{u v r:Option ρ}(hc:be s c=some (.bool b))(h:(bif b then u else v)=r)(ht:u=r->Wq X x K s L)(hf:v=r->Wq X y K s L):Wq X (.cond c x y) K s L:=K0 hc (fun g=>ht (qi g h)) fun g=>hf (qj g h)
variable {rest:List Oper}{d:Nat}{op:Op}
theorem gV {C:Wa}(h:OpX X.P s L ⟨some d,op,ty,pos,af,gd⟩ fun u L'=> ∃post,(u=v/\post=C)/\L'=post++Z)(k:aY X ops rest K ((d,v)::s) (C++Z))(hn:eF ⟨some d,op,ty,pos,af,gd⟩=true:=by rfl)(hg:aA ops s ⟨some d,op,ty,pos,af,gd⟩=some true:=by rfl)(hd:Nat.ble (d+1) X.n=true:=by rfl):aY X ops (⟨some d,op,ty,pos,af,gd⟩::rest) K s L:=gD h (by rintro _ _ ⟨_,⟨rfl,rfl⟩,rfl⟩;exact k) hn hg hd
theorem gU {C:Wa}(h:OpX X.P s L ⟨some d,op,ty,pos,af,gd⟩ fun u L'=> ∃post,(u=v/\post=C)/\L'=post++Z)(hg:aA ops s ⟨some d,op,ty,pos,af,gd⟩=some true)(k:aY X ops rest K ((d,v)::s) (C++Z))(hn:eF ⟨some d,op,ty,pos,af,gd⟩=true:=by rfl)(hd:Nat.ble (d+1) X.n=true:=by rfl):aY X ops (⟨some d,op,ty,pos,af,gd⟩::rest) K s L:=gD h (by rintro _ _ ⟨_,⟨rfl,rfl⟩,rfl⟩;exact k) hn hg hd
theorem gW (h:OpX X.P s L ⟨none,op,ty,pos,af,gd⟩ fun _ L'=>L'=Z)(k:aY X ops rest K s Z)(hn:eF ⟨none,op,ty,pos,af,gd⟩=true:=by rfl)(hg:aA ops s ⟨none,op,ty,pos,af,gd⟩=some true:=by rfl):aY X ops (⟨none,op,ty,pos,af,gd⟩::rest) K s L:=gO h (by rintro _ _ rfl;exact k) hn hg
theorem gB {F:Nat->Value}{G:Nat->Wa}(h:OpX X.P s L ⟨some d,op,ty,pos,af,gd⟩ fun u L'=> ∃b,u=F b/\L'=G b)(k:∀b,aY X ops rest K ((d,F b)::s) (G b))(hn:eF ⟨some d,op,ty,pos,af,gd⟩=true:=by rfl)(hg:aA ops s ⟨some d,op,ty,pos,af,gd⟩=some true:=by rfl)(hd:Nat.ble (d+1) X.n=true:=by rfl):aY X ops (⟨some d,op,ty,pos,af,gd⟩::rest) K s L:=gD h (by rintro _ _ ⟨b,rfl,rfl⟩;exact k b) hn hg hd
end
end
section
open Go.RowKit
class FcI (P:Program) (t:Nat) (v:outParam Value):Prop where
  out: ∀w,(zeroValue t).run P w=.ok v w
class FcB (P:Program) (t:Nat) (vs:List (Nat×Value)) (v:outParam Value):Prop where
  out: ∀w,(Instr.build t vs.toArray).run P w=.ok v w
class RepF {α:Type} (R:Rep α) (f:outParam (α->Wb)):Prop where
  out: ∀S w vs x,R.rel S w vs x->vs=f x
theorem AE {l:List α}(h:l=[]):l=[]:=h
theorem wF {l t T:List α}{a:α}(h:l=a::t)(k:t=T):l=a::T:=k▸h
inductive FndR (b:Nat) (cs:Wb):Wa->Prop
  |w {bt L:_}:FndR b cs (ae b bt cs::L)
  |r {bt L:_}:FndR b cs (aB b bt cs::L)
  |s {c L:_} (h:FndR b cs L):FndR b cs (c::L)
theorem FndR.ix (h:FndR b cs L): ∃(i:Nat) (bt:TypeId),L[i]? =some (ae b bt cs)\/L[i]? =some (aB b bt cs):=by
  induction h with
  |w=>exact ⟨0,_,.inl rfl⟩
  |r=>exact ⟨0,_,.inr rfl⟩
  |s _ ih=>obtain ⟨i,bt,h⟩:=ih;exact ⟨i+1,bt,h⟩
inductive FndW (b:Nat) (bt:TypeId) (cs cs':Wb):Wa->Wa->Prop
  |w {L:_}:FndW b bt cs cs' (ae b bt cs::L) (ae b bt cs'::L)
  |s {c L L':_} (h:FndW b bt cs cs' L L'):FndW b bt cs cs' (c::L) (c::L')
theorem FndW.ix {cs':Wb}(h:FndW b bt cs cs' L L'): ∃i:Nat,L[i]? =some (ae b bt cs)/\L'=L.set i (ae b bt cs'):=by
  induction h with
  |w=>exact ⟨0,rfl,rfl⟩
  |s _ ih=>obtain ⟨i,h,e⟩:=ih;exact ⟨i+1,h,by rw [e];rfl⟩
inductive FndE {α:Type} (R:Rep α) (v:Value) (xs:List α):Wa->Prop
  |w {c L:_} (h:Gs R v xs c):FndE R v xs (c::L)
  |s {c L:_} (h:FndE R v xs L):FndE R v xs (c::L)
theorem FndE.ix {R:Rep α}{xs:List α}(h:FndE R v xs L): ∃(i:Nat) (c:Chunk),L[i]? =some c/\Gs R v xs c:=by
  induction h with
  |w h=>exact ⟨0,_,rfl,h⟩
  |s _ ih=>obtain ⟨i,c,h⟩:=ih;exact ⟨i+1,c,h⟩
structure RdS (P:Program) (s:bA) (L:Wa) (o:Oper) (v:Value):Prop where
  out:Rd P s L o v
theorem UC:Nd s []=some []:=rfl
theorem UD {r:List (Nat×Operand)}{l:List (Nat×Value)}(h:be s x=some v)(k:Nd s r=some l):Nd s ((i,x)::r)=some ((i,v)::l):=by unfold Nd;rw [h,k]
section
variable {rest:List Oper}{d:Nat}
theorem U9 {op:Op}(h:TW s op=some v):RdS P s L ⟨some d,op,ty,pos,af,gd⟩ v:=⟨fun _ _ _=>fun ρ hρ w _=>O1 h ρ hρ w trivial⟩
theorem U3 {c:Operand}{g:Bool}(hc:be s c=some (.bool g))(hg:g=true)(hx:be s x=some v):RdS P s L ⟨some d,.pick c x y,ty,pos,af,gd⟩ v:=⟨fun _ _ _=>AN hg hc hx⟩
theorem U2 {c:Operand}{g:Bool}(hc:be s c=some (.bool g))(hg:g=false)(hy:be s y=some v):RdS P s L ⟨some d,.pick c x y,ty,pos,af,gd⟩ v:=⟨fun _ _ _=>AO hg hc hy⟩
theorem Ud {t f o:Nat}[h:FcA0 P t f](hx:be s x=some (.pointer (some ⟨b,o,none⟩))):RdS P s L ⟨some d,.fieldAddr t x f,ty,pos,af,gd⟩ (.pointer (some ⟨b,o,none⟩)):=⟨fun _ _ _=>sC hx h.out⟩
theorem U8 {t f o' o:Nat}[h:FcA P t f o'](hx:be s x=some (.pointer (some ⟨b,o,none⟩))):RdS P s L ⟨some d,.fieldAddr t x f,ty,pos,af,gd⟩ (.pointer (some ⟨b,o+o',none⟩)):=⟨fun _ _ _=>jW hx h.out⟩
theorem Vb {o:Nat}[hu:Fc (i9 P t=true)](hx:be s x=some (.pointer (some ⟨b,o,none⟩)))(hi:FndR b cs L)(hc:cs[o]? =some v):RdS P s L ⟨some d,.load t x,ty,pos,af,gd⟩ v:=⟨by
  obtain ⟨i,bt,h|h⟩:=hi.ix
  ·exact bM i h hx hu.out hc
  ·exact Bp i h hx hu.out hc⟩
theorem U1 {o:Nat}[hu:FcG P t n](hx:be s x=some (.pointer (some ⟨b,o,none⟩)))(hi:FndR b cs L)(hc:(cs.drop o).take n=us)(hn:us.length=n):RdS P s L ⟨some d,.load t x,ty,pos,af,gd⟩ (.agg us.toArray):=⟨by
  obtain ⟨i,bt,h|h⟩:=hi.ix
  ·exact jh (us:=us) i h hx (hn▸hu.out) (hn▸hc)
  ·exact NT (us:=us) i h hx (hn▸hu.out) (hn▸hc)⟩
theorem Va {ps:List (Nat×Operand)}{vs:List (Nat×Value)}(hp:Nd s ps=some vs)(hb:FcB P t vs v):RdS P s L ⟨some d,.build t ps.toArray,ty,pos,af,gd⟩ v:=⟨fun _ _ _=>ny hp hb.out⟩
theorem U5 {R:Rep α}{t e sz:Nat}{xs:List α}{i:Int}[hu:FcS P t e][hz:FcZ P e sz](hx:be s x=some v)(hy:be s y=some (.int .i64 i))(he:FndE R v xs L)(h0:0<=i)(h1:i<xs.length):RdS P s L ⟨some d,.indexAddr t x y,ty,pos,af,gd⟩ (dh v i.toNat sz 0):=⟨by
  obtain ⟨j,c,h,e⟩:=he.ix
  exact dp j h e hx hy hu.out hz.out h0 h1⟩
theorem U7 {R:Rep α}{f:α->Wb}{t sz:Nat}{xs:List α}{off:Nat}{y:α}[hu:FcG P t n](hx:be s x=some (dh v k sz off))(he:FndE R v xs L)(hf:RepF R f)(hy:xs[k]? =some y)(hz:R.sz=sz)(hc:((f y).drop off).take n=us)(hn:us.length=n):RdS P s L ⟨some d,.load t x,ty,pos,af,gd⟩ (.agg us.toArray):=⟨by
  obtain ⟨j,c,h,e⟩:=he.ix;subst hz
  exact iv (us:=us) j h e hx hy (hn▸hu.out) fun S w vs hr=>by rw [hf.out _ _ _ _ hr,hn];exact hc⟩
theorem U6 {R:Rep α}{f:α->Wb}{t sz:Nat}{xs:List α}{off:Nat}{y:α}{u:Value}[hu:Fc (i9 P t=true)](hx:be s x=some (dh v k sz off))(he:FndE R v xs L)(hf:RepF R f)(hy:xs[k]? =some y)(hz:R.sz=sz)(hc:(f y)[off]? =some u):RdS P s L ⟨some d,.load t x,ty,pos,af,gd⟩ u:=⟨by
  obtain ⟨j,c,h,e⟩:=he.ix;subst hz
  exact kR (u:=u) j h e hx hy hu.out fun S w vs hr=>by rw [hf.out _ _ _ _ hr];exact hc⟩
theorem tR {op:Op}(h:RdS X.P s L ⟨some d,op,ty,pos,af,gd⟩ v)(hn:eF ⟨some d,op,ty,pos,af,gd⟩=true)(hd:Nat.ble (d+1) X.n=true)(k:aY X ops rest K ((d,v)::s) L):RunT X ops ⟨some d,op,ty,pos,af,gd⟩ rest K s L:=⟨fun hh=>sG h.out hn hh hd k⟩
theorem Vf (h:mR X ops K M fuel listed s L):mR X ops K M fuel listed s L:=h
theorem tN (hr:Region.ready .any ops listed=[])(h:K .normal s L):mR X ops K M 0 listed s L:=fg hr h
theorem tZ {op:Op}(i:Nat)(hI:ops.size - (fuel+1)=i)(hi:ops[i]? =some ⟨some d,op,ty,pos,af,gd⟩)(h:RdS X.P s M ⟨some d,op,ty,pos,af,gd⟩ v)(hk:Od ops listed i=true)(hg:aA ops s ⟨some d,op,ty,pos,af,gd⟩=some true)(hd:Nat.ble (d+1) X.n=true)(k:mR X ops K M fuel (listed.setIfInBounds i true) ((d,v)::s) L):mR X ops K M (fuel+1) listed s L:=zR i hi h.out k hk hg hd
theorem tW {bt:TypeId}{o:Nat}{cs':Wb}[hs:FcZ X.P t n](hx:be s x=some (.pointer (some ⟨b,o,none⟩)))(hy:be s y=some v)(hv:v.cells.toList=us)(hf:FndW b bt cs cs' L L')(hc':cs.take o++us++cs.drop (o+us.length)=cs')(hn:us.length=n)(h1:us.all (·.oneCell')=true)(hc:Nat.ble (o+us.length) cs.length=true)(k:aY X ops rest K s L'):RunT X ops ⟨none,.store t x y,ty,pos,af,gd⟩ rest K s L:=⟨fun hh=>by
  obtain ⟨i,h,e⟩:=hf.ix
  exact gW (ar (us:=us) (cs':=cs') i h hx hy hv (hn▸hs.out) h1 hc hc') (e▸k) J hh⟩
theorem tA [hz:FcI X.P t v](hc:v.cells.toList=cs)(hd:Nat.ble (d+1) X.n=true)(k:∀b,aY X ops rest K ((d,pV b 0)::s) (ae b t cs::L)):RunT X ops ⟨some d,.alloc t,ty,pos,af,gd⟩ rest K s L:=⟨fun hh=>gB (dz hz.out hc) k rfl hh hd⟩
theorem tX (hx:be s x=some v)(hc:v.cells.toList=cs)(hd:Nat.ble (d+1) X.n=true)(k:∀b,aY X ops rest K ((d,pV b 0)::s) (ae b t cs::L)):RunT X ops ⟨some d,.box t x,ty,pos,af,gd⟩ rest K s L:=⟨fun hh=>gB (CT hx hc) k rfl hh hd⟩
end
end
section
open Go.RowKit
def Kc (Q:ι->Wa):Chunk where
 ok _ S w:= ∃x:ι, ∀c∈Q x,c.ok (fun _=>False) S w
 loc:=fun h ⟨x,k⟩=>⟨x,fun c hc=>c.loc (h.mono fun _ hq=>hq.elim False.elim .inr) (k c hc)⟩
 mono:=fun h ⟨x,k⟩=>⟨x,fun c hc=>c.mono h (k c hc)⟩
 ro:=true
 dup:=fun _ _ _ _ h=>h
class LentP {ι κ:Type} (Q:ι->Wa) (R:κ->Wa):Prop where
 out: ∀x,wP (Q x) (Kc R)
class LentQ {ι κ:Type} (Q:ι->Wa) (R:outParam (κ->Wa)):Prop where
 out:LentP Q R
instance lentQP {Q:ι->Wa}{R:κ->Wa}[h:LentQ Q R]:LentP Q R:=h.out
class MemR {ι:Type} (Q:ι->Wa) (c:Chunk):Prop where
 out: ∀x,c∈Q x
theorem LentP.of {Q:ι->Wa}{R:κ->Wa}(h:∀x, ∃y, ∀d∈R y,wP (Q x) d):LentP Q R:=⟨fun x T S w hT=>by
 obtain ⟨y,hy⟩:=h x
 exact ⟨y,fun d hd=>hy d hd T S w hT⟩⟩
theorem zm {Q:ι->Wa}{R:κ->Wa}(hi:L[i]? =some (dO Q))[hp:LentP Q R]:wP L (Kc R):=fun T S w h=>by
 obtain ⟨x,T',h1,h2,h3⟩:=h.ok hi;exact hp.out x T' S w ⟨fun hj=>h1 _ _ hj,fun hij a b=>h2 _ _ _ hij a b,fun a b=>h.ro (h3 _ _ a) b,fun a=>h.lt (h3 _ _ a),h.lts⟩
theorem Eg {Q:ι->Wa}{R:κ->Wa}(hi:L[i]? =some (dO Q))[hp:LentQ Q R]:wP L (Kc R):=zm hi
theorem LentP.sub {η:Type}{Q:ι->Wa}{R:κ->Wa}{R':η->Wa}(i:Nat)(h:∀x,(Q x)[i]? =some (dO R'))[hp:LentP R' R]:LentP Q R:=⟨fun x=>zm (h x)⟩
theorem Qi {Q:ι->Wa}(hi:L[i]? =some (Kc Q))[hp:MemR Q c]:wP L c:=fun T S w h=>by
 obtain ⟨x,hx⟩:=h.ok hi;exact c.mono (fun _ hq=>h.lts hq) (hx c (hp.out x))
theorem tl (h:L.Perm M):Cv L M:=by
 induction h with
 |nil=>exact ah _
 |cons c _ ih=>exact mM c ih
 |swap a b l=>exact yC [1,0] 2 rfl rfl
 |trans _ _ h1 h2=>exact h1.trans h2
theorem IG {L:List α}{c:α}(hk:L[k]? =some c):L=L.take k++c::L.drop (k+1):=by
 obtain ⟨h1,h2⟩:=WQ.1 hk;rw [<-h2,List.getElem_cons_drop,Xm]
theorem okN (h:Okc P f args L R)(hr:∀v post,R v post-> ∃post',R' v post'/\Cv post post'):Okc P f args L R':=⟨h.cal,fun Z w hw=>
 (h.run Z w hw).mono fun _ _ ⟨v,post,h1,h2,h3⟩=>by
  obtain ⟨post',g1,g2⟩:=hr v post h3
  exact ⟨v,post',h1,g2 _ _ h2,g1⟩⟩
theorem Uo {R:ι->Value->Wa->Prop}{Q:ι->Wa}[Inhabited ι](k:Nat)(hk:L[k]? =some (dO Q))(h:∀x,Okc P f args (L.take k++(Q x++L.drop (k+1))) (R x))(hr:∀x v post,R x v post-> ∃post',R' v post'/\Cv post post'):Okc P f args L R':=⟨(h default).cal,fun Z w hw=>by
 rw [IG hk] at hw;obtain ⟨x,hx⟩:=kK (tl Xj Z w hw)
 exact (okN (h x) (hr x)).run Z w (tl (Xi _ _ _) Z w hx)⟩
theorem Nz {Q:ι->Wa}[Inhabited ι](k:Nat)(hk:L[k]? =some (Kc Q))(h:∀x,Okc P f args (L.take k++(Q x++L.drop (k+1))) R):Okc P f args L R:=⟨(h default).cal,fun Z w hw=>by
 rw [IG hk] at hw;have h1:=tl Xj Z w hw;obtain ⟨T,S,hT⟩:=h1;obtain ⟨x,hx⟩:=hT.ok (i:=0) (c:=Kc Q) rfl;obtain ⟨T',h2⟩:=SepL.facts (Q x) hT hx;have h3:Sp Z (Q x++(Kc Q::(L.take k++L.drop (k+1)))) w:=⟨T',S,by rw [V3];exact h2⟩;have h4:Sp Z (Q x++(L.take k++L.drop (k+1))) w:=cv_tl _ _ (tl Xj _ _ h3)
 exact (h x).run Z w (tl (Xi _ _ _) Z w h4)⟩
theorem UW {p:Wa->Prop}{post':Wa}(h:p post')(k:Cv post post'): ∃post',p post'/\Cv post post':=⟨post',h,k⟩
theorem Q8 {Q:ι->Wa}{Q':κ->Wa}(h:∀x, ∃y,(Q x).Perm (c::Q' y)):Cv (dO Q::L) (c::dO Q'::L):=fun Z w hw=>by
 obtain ⟨x,hx⟩:=kK hw;obtain ⟨y,hy⟩:=h x;have h1:Sp Z (c::(Q' y++L)) w:=tl (hy.append_right L) Z w hx;exact mM c (fb (Q:=Q') y) Z w h1
theorem Pa {Q:ι->Wa}{Q':κ->Wa}(h:∀y, ∃x,(c::Q' y).Perm (Q x)):Cv (c::dO Q'::L) (dO Q::L):=fun Z w hw=>by
 obtain ⟨y,hy⟩:=kK (tl (List.Perm.swap _ _ _) Z w hw);obtain ⟨x,hx⟩:=h y;have h1:Sp Z (c::(Q' y++L)) w:=tl Xj Z w hy;exact fb (Q:=Q) x Z w (tl (hx.append_right L) Z w h1)
end
section
open Go.RowKit
inductive FndL:Chunk->Wa->Prop
  |sl {α:Type} {R:Rep α} {v xs L}:FndL (iD R v xs) (iD R v xs::L)
  |so {α:Type} {R:Rep α} {e v xs L}:FndL (iD R v xs) (bh R e v xs::L)
  |bb {b t cs L:_}:FndL (aB b t cs) (ae b t cs::L)
  |br {b:Nat} {t:TypeId} {cs L}:FndL (aB b t cs) (aB b t cs::L)
  |mm {α β:Type} {ek:α->Value} {ev:β->Value} {m kv L}:FndL (nc ek ev m kv) (ax ek ev m kv::L)
  |mr {α β:Type} {ek:α->Value} {ev:β->Value} {m kv L}:FndL (nc ek ev m kv) (nc ek ev m kv::L)
  |pk {ι κ:Type} {Q:ι->Wa} {R:κ->Wa} {L} [h:LentP Q R]:FndL (Kc R) (dO Q::L)
  |pq {ι κ:Type} {Q:ι->Wa} {R:κ->Wa} {L} [h:LentQ Q R]:FndL (Kc R) (dO Q::L)
  |pr {ι:Type} {Q:ι->Wa} {L}:FndL (Kc Q) (Kc Q::L)
  |rm {ι:Type} {Q:ι->Wa} {c L} [h:MemR Q c]:FndL c (Kc Q::L)
  |s {c d L:_} (h:FndL c L):FndL c (d::L)
theorem FndL.lent' (h:FndL c L): ∃(i:Nat) (d:Chunk),L[i]? =some d/\ ∀(L':Wa) (j:Nat),L'[j]? =some d->wP L' c:=by
  induction h with
  |sl=>exact ⟨0,_,rfl,fun _ _ h=>jU h rfl⟩
  |so=>exact ⟨0,_,rfl,fun _ _ h=>gC h⟩
  |bb=>exact ⟨0,_,rfl,fun _ _ h=>pZ h⟩
  |br=>exact ⟨0,_,rfl,fun _ _ h=>jU h rfl⟩
  |mm=>exact ⟨0,_,rfl,fun _ _ h=>Fs h⟩
  |mr=>exact ⟨0,_,rfl,fun _ _ h=>jU h rfl⟩
  |pk=>exact ⟨0,_,rfl,fun _ _ h=>zm h⟩
  |pq=>exact ⟨0,_,rfl,fun _ _ h=>zm h⟩
  |pr=>exact ⟨0,_,rfl,fun _ _ h=>jU h rfl⟩
  |rm=>exact ⟨0,_,rfl,fun _ _ h=>Qi h⟩
  |s _ ih=>obtain ⟨i,d,h1,h2⟩:=ih;exact ⟨i+1,d,h1,h2⟩
theorem FndL.lent (h:FndL c L):wP L c:=by
  obtain ⟨i,d,h1,h2⟩:=h.lent';exact h2 L i h1
def Ct (L pre:Wa):Prop:= ∀c∈pre,wP L c
theorem TN:Ct L []:=aR
theorem TO (h:FndL c L)(k:Ct L pre):Ct L (c::pre):=t9 h.lent k
theorem Qk (h:L'=L)(k:Ct L pre):Ct L' pre:=h▸k
theorem TT {p:α->Prop}{Q:Prop}(k:∀a,p a->Q):(∃a,p a)->Q:=fun ⟨a,h⟩=>k a h
theorem Vk {a b Q:Prop}(k:b->Q):a/\b->Q:=fun h=>k h.2
theorem Vj {C:Wa}(k:∀c∈C,mT c):post=C-> ∀c∈post,mT c:=fun h=>h▸k
theorem TR: ∀c∈([]:Wa),mT c:=aR
theorem TQ {sz:Nat}{en:α->Wb}{h1:∀x,(en x).length=sz}{h2:∀x,(en x).all (·.oneCell')=true}{xs:List α}{l:Wa}(k:∀c∈l,mT c): ∀c∈(bh (Rep.flat sz en h1 h2) e v xs::l),mT c:=t9 rR k
theorem TV {l:Wa}(k:∀c∈l,mT c): ∀c∈(ae b t cs::l),mT c:=t9 BZ k
theorem TS {ek:α->Value}{ev:β->Value}{m:Nat}{kv:List (α×β)}{l:Wa}(k:∀c∈l,mT c): ∀c∈(ax ek ev m kv::l),mT c:=t9 C9 k
inductive FndC (c:Chunk):Wa->Wa->Prop
  |w {L:_}:FndC c (c::L) L
  |s {d L M:_} (h:FndC c L M):FndC c (d::L) (d::M)
theorem Q6 {d:Chunk}:Cv (c::d::L) (d::c::L):=yC [1,0] 2 rfl rfl
theorem FndC.cv (h:FndC c L M):Cv L (c::M):=by
  induction h with
  |w=>exact ah _
  |s _ ih=>exact (mM _ ih).trans Q6
inductive FndD (c:Chunk):Wa->Prop
  |w {L:_}:FndD c (c::L)
  |s {d L:_} (h:FndD c L):FndD c (d::L)
theorem FndD.cv (h:FndD c L)(hc:c.ro=true):Cv L (c::L):=by
  obtain ⟨i,hi⟩: ∃i:Nat,L[i]? =some c:=by
    induction h with
    |w=>exact ⟨0,rfl⟩
    |s _ ih=>obtain ⟨i,h⟩:=ih;exact ⟨i+1,h⟩
  exact Id i hi hc
def Tk (L pre rest:Wa):Prop:=Cv L (pre++rest)
theorem TK:Tk L [] L:=ah _
theorem TL {rest:Wa}(h:FndC c L M)(k:Tk M pre rest):Tk L (c::pre) rest:=h.cv.trans (mM c k)
theorem UR {rest:Wa}(h:FndD c L)(hc:c.ro=true)(k:Tk L pre rest):Tk L (c::pre) rest:=(h.cv hc).trans (mM c k)
theorem TJ {R:Rep α}{xs:List α}{rest:Wa}(h:FndD (iD R v xs) L)(k:Tk L pre rest):Tk L (iD R v xs::pre) rest:=UR h rfl k
theorem TM {rest:Wa}(h:FndD (aB b t cs) L)(k:Tk L pre rest):Tk L (aB b t cs::pre) rest:=UR h rfl k
theorem PJ {rest:Wa}(h:L'=L)(k:Tk L pre rest):Tk L' pre rest:=h▸k
class FcK (P:Program) (f:FuncId):Prop where
  out:qn P f
section
variable {d:Option Nat}
theorem oR (hc:Okc P f vs pre R)(hv:DE s xs=some vs:=by exact rfl)(hp:Ct L pre:=by
      apply Qk (by repeat (first|exact ms rfl|apply jl rfl|exact rfl))
      repeat (first|exact TN|apply TO (by with_reducible repeat (first|apply FndL.bb|apply FndL.br|apply FndL.sl|apply FndL.so|apply FndL.mm|apply FndL.mr|apply FndL.pq|apply FndL.pk|apply FndL.pr|apply FndL.rm|apply FndL.s))|apply leZ))(hr:∀v post,R v post-> ∀c∈post,mT c:=by
      intro v post
      repeat (first|(refine TT ?_;intro _)|refine Vk ?_)
      refine Vj ?_
      repeat (first|exact TR|refine TV ?_|refine TS ?_|refine TQ ?_)):OpX P s L ⟨d,.call ⟨.value (.func f),xs.toArray,ats⟩,ty,pos,af,gd⟩ fun u L'=> ∃post,R u post/\L'=post++L:=kV hc hv hp hr
theorem oC {rest:Wa}(hc:Okc P f vs pre R)(hv:DE s xs=some vs:=by exact rfl)(hp:Tk L pre rest:=by
      apply PJ (by repeat (first|exact ms rfl|apply jl rfl|exact rfl))
      repeat (first|exact TK|apply TJ (by with_reducible repeat (first|apply FndD.w|apply FndD.s))|apply TM (by with_reducible repeat (first|apply FndD.w|apply FndD.s))|apply tkM (by with_reducible repeat (first|apply FndD.w|apply FndD.s))|apply tkR (by with_reducible repeat (first|apply FndD.w|apply FndD.s))|apply TL (by with_reducible repeat (first|apply FndC.w|apply FndC.s)))):OpX P s L ⟨d,.call ⟨.value (.func f),xs.toArray,ats⟩,ty,pos,af,gd⟩ fun u L'=> ∃post,R u post/\L'=post++rest:=Ee hc hv hp
end
inductive FndX (b:Nat) (bt:TypeId) (cs:Wb):Wa->Prop
  |w {L:_}:FndX b bt cs (ae b bt cs::L)
  |s {c L:_} (h:FndX b bt cs L):FndX b bt cs (c::L)
theorem FndX.ix (h:FndX b bt cs L): ∃i:Nat,L[i]? =some (ae b bt cs):=by
  induction h with
  |w=>exact ⟨0,rfl⟩
  |s _ ih=>obtain ⟨i,h⟩:=ih;exact ⟨i+1,h⟩
theorem aN:All2 (vL P L s) [] []:=.nil
theorem aT {t:Nat}(h:jq s t=some v)(k:All2 (vL P L s) rs vs):All2 (vL P L s) (.tmp t::rs) (v::vs):=.cons (qB h) k
theorem aS {t ty:Nat}(hu:FcG P ty n)(hl:jq s t=some (.pointer (some ⟨b,0,none⟩)))(hi:FndX b bt cs L)(hc:cs=us)(hn:us.length=n)(k:All2 (vL P L s) rs vs):All2 (vL P L s) (.cell t ty::rs) (.agg us.toArray::vs):=by
  obtain ⟨i,hi⟩:=hi.ix;subst hc;exact .cons (lC i hi hl (hn▸hu.out)) k
theorem aO {t ty:Nat}(hu:Fc (i9 P ty=true))(hl:jq s t=some (.pointer (some ⟨b,0,none⟩)))(hi:FndX b bt [v] L)(k:All2 (vL P L s) rs vs):All2 (vL P L s) (.cell t ty::rs) (v::vs):=by
  obtain ⟨i,hi⟩:=hi.ix;exact .cons (HD i hi hl hu.out) k
theorem Pc {T:Wa}(h:L'=L)(k:Cv L T):Cv L' T:=h▸k
theorem Tv {T:Wa}(k:Cv L T):Cv (c::L) T:=(cv_tl).trans k
theorem Tt:Cv L []:=fun Z w h=>by
  have:=(yC (L:=L) [] L.length (by simp [Gg]) (by simp)) Z w h;simpa [DT] using this
theorem Tu (h:FndC c L M)(k:Cv M L2):Cv L (c::L2):=h.cv.trans (mM c k)
theorem Ts {R:Rep α}{xs:List α}(h:FndD (iD R v xs) L)(k:Cv L L2):Cv L (iD R v xs::L2):=(h.cv rfl).trans (mM _ k)
theorem UF (hr:fn.results=rs.toArray)(h1:All2 (vL X.P L s) rs vs)(hv:Uf vs=v)(hR:R v L2)(hc:Cv L L2):Ny X fn R .ret s L:=uB hr h1 hv hc hR
theorem eN {p:Prop}(hh:p:=by
    obtain rfl:=jn h
    first|apply UF rfl|apply endN rfl
    repeat (first|exact aN|apply aT rfl|apply aS (by infer_instance) rfl (by with_reducible repeat (first|apply FndX.w|apply FndX.s)) (by repeat (first|exact AE rfl|apply wF rfl)) (by exact rfl)|apply aO (by infer_instance) rfl (by with_reducible repeat (first|apply FndX.w|apply FndX.s)))
    exact J
    repeat (apply Exists.intro)
    exact ⟨J,J⟩
    all_goals (try apply Pc (by repeat (first|exact ms rfl|apply jl rfl|exact rfl)))
    all_goals (repeat (first|exact Tt|apply Ts (by with_reducible repeat (first|apply FndD.w|apply FndD.s))|apply Tu (by with_reducible repeat (first|apply FndC.w|apply FndC.s))|apply cwF (by with_reducible repeat (first|apply FndC.w|apply FndC.s))|apply cwZ|apply cwY|exact ah _|apply Tv))):p:=hh
theorem UV {Fam:bA->Wa->Prop}(h:Fam s2 L2)(hs:AV s s2)(hc:Cv L L2): ∃s2 L2,Fam s2 L2/\AV s s2/\Cv L L2:=⟨s2,L2,h,hs,hc⟩
theorem jN {p:Prop}(hh:p:=by
    apply UV
    repeat (apply Exists.intro)
    exact ⟨h,J,J⟩
    all_goals (try exact sA)
    all_goals (try apply Pc (by repeat (first|exact ms rfl|apply jl rfl|exact rfl)))
    all_goals (repeat (first|exact Tt|apply Ts (by with_reducible repeat (first|apply FndD.w|apply FndD.s))|apply Tu (by with_reducible repeat (first|apply FndC.w|apply FndC.s))|apply cwF (by with_reducible repeat (first|apply FndC.w|apply FndC.s))|apply cwZ|apply cwY|exact ah _|apply Tv))):p:=hh
theorem Ve {Fam:Nat->bA->Wa->Prop}{m:Nat}(h:Fam m s2 L2)(hs:AV s s2)(hc:Cv L L2): ∃m' s3 L3,m'<m+1/\Fam m' s3 L3/\AV s s3/\Cv L L3:=⟨m,s2,L2,V2 _,h,hs,hc⟩
theorem lN {p:Prop}(hh:p:=by
    apply Ve
    repeat (apply Exists.intro)
    exact ⟨h,J,J⟩
    all_goals (try exact sA)
    all_goals (try apply Pc (by repeat (first|exact ms rfl|apply jl rfl|exact rfl)))
    all_goals (repeat (first|exact Tt|apply Ts (by with_reducible repeat (first|apply FndD.w|apply FndD.s))|apply Tu (by with_reducible repeat (first|apply FndC.w|apply FndC.s))|apply cwF (by with_reducible repeat (first|apply FndC.w|apply FndC.s))|apply cwZ|apply cwY|exact ah _|apply Tv))):p:=hh
instance repInt {k:IntKind}:RepF (jM k) (fun x=> [.int k x]):=⟨fun _ _ _ _ h=>h⟩
section
variable {d:Nat}
theorem U4 {R:Rep α}{xs:List α}[hu:FcS P t e](hx:be s x=some v)(he:FndE R v xs L):RdS P s L ⟨some d,.call ⟨.builtin .len, #[x], #[t]⟩,ty,pos,af,gd⟩ (.int .i64 (xs.length:Int)):=⟨by
  obtain ⟨j,c,h,e⟩:=he.ix
  exact sj j h e hx hu.out⟩
theorem Ue {u:TypeId}{a b:Int}(hx:be s x=some (.int .i64 a))(hy:be s y=some (.int .i64 b))(h:in64 (a+b)):RdS P s L ⟨some d,.binOp .add t x y u,ty,pos,af,gd⟩ (.int .i64 (a+b)):=⟨fun _ _ _=>fF hx hy h.1 h.2⟩
theorem Uc {u:TypeId}{a b:Int}(hx:be s x=some (.int .i64 a))(hy:be s y=some (.int .i64 b))(h:in64 (a - b)):RdS P s L ⟨some d,.binOp .sub t x y u,ty,pos,af,gd⟩ (.int .i64 (a - b)):=⟨fun _ _ _=>wK hx hy h.1 h.2⟩
theorem U0 {vs:Array Value}(hx:be s x=some (.tuple vs))(hi:vs.toList[i]? =some v):RdS P s L ⟨some d,.extract x i,ty,pos,af,gd⟩ v:=⟨fun _ _ _=>uy hx (by simpa using hi)⟩
theorem SJ {op:Op}(h:RdS P s L ⟨some d,op,ty,pos,af,gd⟩ v:=by
  first
    |exact U0 rfl rfl
    |exact U9 rfl
    |exact Ud rfl
    |exact U8 rfl
    |exact Vb rfl (by with_reducible repeat (first|apply FndR.w|apply FndR.r|apply FndR.s)) (by exact rfl)
    |exact U1 rfl (by with_reducible repeat (first|apply FndR.w|apply FndR.r|apply FndR.s)) (by repeat (first|exact AE rfl|apply wF rfl)) (by exact rfl)
    |exact Va (by repeat (first|exact UC|apply UD rfl)) (by infer_instance)
    |exact U4 rfl (by with_reducible repeat (first|apply FndE.w bS|apply FndE.w ak|apply FndE.s))
    |exact U5 rfl rfl (by with_reducible repeat (first|apply FndE.w bS|apply FndE.w ak|apply FndE.s)) (by assumption) (by assumption)
    |exact U7 rfl (by with_reducible repeat (first|apply FndE.w bS|apply FndE.w ak|apply FndE.s)) (by infer_instance) (by assumption) (by exact rfl) (by repeat (first|exact AE rfl|apply wF rfl)) (by exact rfl)
    |exact U6 rfl (by with_reducible repeat (first|apply FndE.w bS|apply FndE.w ak|apply FndE.s)) (by infer_instance) (by assumption) (by exact rfl) (by exact rfl)
    |exact Ue rfl rfl (by assumption)
    |exact Uc rfl rfl (by assumption)
    |exact U3 rfl (by assumption) rfl
    |exact U2 rfl (by assumption) rfl):RdS P s L ⟨some d,op,ty,pos,af,gd⟩ v:=h
end
section
theorem SL {A hU:Wa}(h:aY X ops l K s (A++hU)):aY X ops l K s (A++hU):=h
theorem Vg {A:Wa}(h:aY X ops l K s (A.set i c)):aY X ops l K s (A.set i c):=h
theorem Ut {A:Wa}{y:Code}(h:Wq X y K s (A.set i c)):Wq X y K s (A.set i c):=h
theorem Vh {A hU:Wa}{c:Code}(h:Wq X c K s (A++hU)):Wq X c K s (A++hU):=h
end
theorem ab {p q:Prop}(k:q)(h:Bxd q->p:=by
  intro k
  repeat (first
    | (with_reducible first|refine SL ?_|refine Vg ?_
       refine Lw ?_)
    | (with_reducible refine SK ?_
       refine Ux J ?_
       first
         | (refine Ug ?_
            first
              |refine tR SJ rfl rfl ?_
              |refine tW rfl rfl (by repeat (first|exact AE rfl|apply wF rfl)) (by with_reducible repeat (first|apply FndW.w|apply FndW.s)) (by repeat (first|exact AE rfl|apply wF rfl)) (by exact rfl) (by exact rfl) (by exact rfl) ?_
              |refine tA (by repeat (first|exact AE rfl|apply wF rfl)) rfl ?_
              |refine tX rfl (by repeat (first|exact AE rfl|apply wF rfl)) rfl ?_)
         |refine Uh ?_)
    | (with_reducible refine SK ?_
       fail_if_success with_reducible refine Uv ?_
       refine Uu J ?_)
    | (with_reducible first|refine Vh ?_|refine Ut ?_
       refine SQ ?_)
    | (with_reducible refine Us ?_
       first
         |refine au (ke ?_)
         |with_reducible refine ke ?_
         |with_reducible refine Is ?_
         | (fail_if_success with_reducible refine Uw ?_
            with_reducible refine Cw ?_)
         |with_reducible refine JV ?_
         |with_reducible refine KZ ?_)
    | (with_reducible refine Vf ?_
       first
         |refine tZ _ rfl rfl SJ I (by exact rfl) (by exact rfl) ?_
         |refine tU _ rfl rfl (by exact rfl) I (by exact rfl) ?_
         |refine tN I ?_)
    |with_reducible refine AB ?_
    |with_reducible refine Re ?_
    |with_reducible refine Sw ?_
    |with_reducible refine Sv ?_
    |with_reducible refine P9 ?_
    |with_reducible refine R7 ?_)
  exact k.un):p:=h ⟨k⟩
structure CvA (L L2:Wa):Prop where
  out:Cv L L2
theorem cX (h:CvA L L2:=by
    refine CvA.mk ?_;apply Pc (by repeat (first|exact ms rfl|apply jl rfl|exact rfl))
    repeat (first|exact Tt|apply Ts (by with_reducible repeat (first|apply FndD.w|apply FndD.s))|apply Tu (by with_reducible repeat (first|apply FndC.w|apply FndC.s))|apply cwF (by with_reducible repeat (first|apply FndC.w|apply FndC.s))|apply cwZ|apply cwY|exact ah _|apply Tv)):Cv L L2:=h.out
theorem gJ {a b:Bool}(h:some a=some b)(hs:AV s ((pd,.bool a)::s2):=by exact sA)(hl:Cv L L2:=by exact cX):aY X ops [] (vd ((pd,.bool b)::s2) L2) s L:=by
  cases h;exact li hs hl
theorem gS (k pd gc:Nat){c:Bool}{u v:Option Bool}{f:Bool->Option ρ}{r:ρ}(h:(bif c then u else v).bind f=some r)(k2:∀b,f b=some r->aY X ops (l.drop k) K ((pd,.bool b)::s) L)(hc:be s (.tmp gc)=some (.bool c):=by exact rfl)(h1:∀b,c=true->u=some b->aY X ops (l.take k) (vd ((pd,.bool b)::s) L) s L:=by
      intro b g h;refine ab ?_
      exact gJ h)(h2:∀b,c=false->v=some b->aY X ops (l.take k) (vd ((pd,.bool b)::s) L) s L:=by
      intro b g h;refine ab ?_
      exact gJ h):aY X ops l K s L:=by
  obtain ⟨b,hb,h⟩:=aa h;refine vF k pd b ?_ (k2 b h)
  cases hg:c with
  |true=>exact h1 b hg (qi hg hb)
  |false=>exact h2 b hg (qj hg hb)
end
section
open Go.RowKit
theorem aM {xs:List α}{i:Int}{f:α->Option ρ}{r:ρ}(h:(ap xs i).bind f=some r): ∃x,0<=i/\i<xs.length/\xs[i.toNat]? =some x/\f x=some r:=by
  obtain ⟨x,hx,h⟩:=aa h;obtain ⟨l,u,hx⟩:=C6 hx;exact ⟨x,l,u,hx,h⟩
theorem bY {c:Code}{q:Prop}(hf:P.funcs[f]? =some fn)(k:q)(hb:fn.body=some c:=by exact rfl)(hn:Nat.ble args.length fn.ntmps=true:=by exact rfl)(hm:(fn.name== "runtime.NumGoroutine")=false:=by exact rfl)(h:Bxd q->Wq ⟨P,fn.ntmps,none⟩ c (Ny ⟨P,fn.ntmps,none⟩ fn R) (uz args 0) L:=by
      intro k;simp only [uz];refine ab ?_
      exact k.un):Okc P f args L R:=Gf hf hb hn (h ⟨k⟩) hm
theorem eY {p:Prop}(hh:p:=by
    refine ab ?_
    exact eN):p:=hh
theorem jY {p:Prop}(hh:p:=by
    refine ab ?_
    exact jN):p:=hh
theorem lY {p:Prop}(hh:p:=by
    refine ab ?_
    exact lN):p:=hh
theorem gY {p:Prop}(hh:p:=by
    refine ab ?_
    exact gJ h):p:=hh
theorem du {p:Prop}{q:Nat->Prop}(k:∀b,q b)(h:(∀b,Bxd (q b))->p:=by
    intro k;refine ab ?_;intro b;refine ab ?_
    exact (k b).un):p:=h fun b=>⟨k b⟩
theorem sY {p q:Prop}(k:q)(h:Bxd q->p:=by
    intro k;refine ab ?_;refine au ?_;refine ab ?_
    exact k.un):p:=h ⟨k⟩
theorem sZ {p q:Prop}(k:q)(h:Bxd q->p:=by
    intro k;refine au ?_;refine ab ?_
    exact k.un):p:=h ⟨k⟩
section
theorem dI {p:Prop}{c:Operand}{x y:Code}{b:Bool}{u v r:Option ρ}(h:(bif b then u else v)=r)(ht:u=r->Wq X x K s L)(hf:v=r->Wq X y K s L)(h0:Bxd (Wq X (.cond c x y) K s L)->p:=by
      intro k;refine ab ?_
      exact k.un)(hc:be s c=some (.bool b):=by exact rfl):p:=h0 ⟨gH hc h ht hf⟩
variable {rest:List Oper}{d:Nat}{op:Op}{q:Prop}
theorem H3 (h:Rd X.P s L ⟨some d,op,ty,pos,af,gd⟩ v)(k:q)(hr:Bxd q->aY X ops rest K ((d,v)::s) L:=by
      intro k;refine ab ?_
      exact k.un)(hn:eF ⟨some d,op,ty,pos,af,gd⟩=true:=by rfl)(hg:aA ops s ⟨some d,op,ty,pos,af,gd⟩=some true:=by rfl)(hd:Nat.ble (d+1) X.n=true:=by rfl):aY X ops (⟨some d,op,ty,pos,af,gd⟩::rest) K s L:=gR h (hr ⟨k⟩) hn hg hd
theorem dU (h:Ev X.P s (fun _=>True) ⟨some d,op,ty,pos,af,gd⟩ v)(k:q)(hr:Bxd q->aY X ops rest K ((d,v)::s) L:=by
      intro k;refine ab ?_
      exact k.un)(hn:eF ⟨some d,op,ty,pos,af,gd⟩=true:=by rfl)(hg:aA ops s ⟨some d,op,ty,pos,af,gd⟩=some true:=by rfl)(hd:Nat.ble (d+1) X.n=true:=by rfl):aY X ops (⟨some d,op,ty,pos,af,gd⟩::rest) K s L:=gE h (hr ⟨k⟩) hn hg hd
theorem C7 {C:Wa}(h:OpX X.P s L ⟨some d,op,ty,pos,af,gd⟩ fun u L'=> ∃post,(u=v/\post=C)/\L'=post++Z)(k:q)(hr:Bxd q->aY X ops rest K ((d,v)::s) (C++Z):=by
      intro k;refine ab ?_
      exact k.un)(hn:eF ⟨some d,op,ty,pos,af,gd⟩=true:=by rfl)(hg:aA ops s ⟨some d,op,ty,pos,af,gd⟩=some true:=by rfl)(hd:Nat.ble (d+1) X.n=true:=by rfl):aY X ops (⟨some d,op,ty,pos,af,gd⟩::rest) K s L:=gV h (hr ⟨k⟩) hn hg hd
theorem Gl (h:OpX X.P s L ⟨none,op,ty,pos,af,gd⟩ fun _ L'=>L'=Z)(k:q)(hr:Bxd q->aY X ops rest K s Z:=by
      intro k;refine ab ?_
      exact k.un)(hn:eF ⟨none,op,ty,pos,af,gd⟩=true:=by rfl)(hg:aA ops s ⟨none,op,ty,pos,af,gd⟩=some true:=by rfl):aY X ops (⟨none,op,ty,pos,af,gd⟩::rest) K s L:=gW h (hr ⟨k⟩) hn hg
theorem Vi {q:Nat->Prop}(h:OpX X.P s L ⟨some d,op,ty,pos,af,gd⟩ R)(k:∀(b:Nat),q b)(hr:(∀(b:Nat),Bxd (q b))-> ∀v L',R v L'->aY X ops rest K ((d,v)::s) L':=by
      intro k
      first|(rintro _ _ ⟨_,⟨b,rfl,rfl⟩,rfl⟩;refine ab ?_;exact (k b).un)|(rintro _ _ ⟨b,rfl,rfl⟩;refine ab ?_;exact (k b).un))(hn:eF ⟨some d,op,ty,pos,af,gd⟩=true:=by rfl)(hg:aA ops s ⟨some d,op,ty,pos,af,gd⟩=some true:=by rfl)(hd:Nat.ble (d+1) X.n=true:=by rfl):aY X ops (⟨some d,op,ty,pos,af,gd⟩::rest) K s L:=gD h (hr fun b=>⟨k b⟩) hn hg hd
theorem r9 {q:Option Addr->Nat->Nat->Prop}(h:OpX X.P s L ⟨some d,op,ty,pos,af,gd⟩ R)(k:∀(x0:Option Addr) (x1:Nat) (x2:Nat),q x0 x1 x2)(hr:(∀(x0:Option Addr) (x1:Nat) (x2:Nat),Bxd (q x0 x1 x2))-> ∀v L',R v L'->aY X ops rest K ((d,v)::s) L':=by
      intro k
      first|(rintro _ _ ⟨_,⟨x0,x1,x2,rfl,rfl⟩,rfl⟩;refine ab ?_;exact (k x0 x1 x2).un)|(rintro _ _ ⟨x0,x1,x2,rfl,rfl⟩;refine ab ?_;exact (k x0 x1 x2).un))(hn:eF ⟨some d,op,ty,pos,af,gd⟩=true:=by rfl)(hg:aA ops s ⟨some d,op,ty,pos,af,gd⟩=some true:=by rfl)(hd:Nat.ble (d+1) X.n=true:=by rfl):aY X ops (⟨some d,op,ty,pos,af,gd⟩::rest) K s L:=gD h (hr fun x0 x1 x2=>⟨k x0 x1 x2⟩) hn hg hd
theorem UA {q:Option Addr->Nat->Nat->Option Addr->Nat->Nat->Prop}(h:OpX X.P s L ⟨some d,op,ty,pos,af,gd⟩ R)(k:∀(x0:Option Addr) (x1:Nat) (x2:Nat) (x3:Option Addr) (x4:Nat) (x5:Nat),q x0 x1 x2 x3 x4 x5)(hr:(∀(x0:Option Addr) (x1:Nat) (x2:Nat) (x3:Option Addr) (x4:Nat) (x5:Nat),Bxd (q x0 x1 x2 x3 x4 x5))-> ∀v L',R v L'->aY X ops rest K ((d,v)::s) L':=by
      intro k
      first|(rintro _ _ ⟨_,⟨x0,x1,x2,x3,x4,x5,rfl,rfl⟩,rfl⟩;refine ab ?_;exact (k x0 x1 x2 x3 x4 x5).un)|(rintro _ _ ⟨x0,x1,x2,x3,x4,x5,rfl,rfl⟩;refine ab ?_;exact (k x0 x1 x2 x3 x4 x5).un))(hn:eF ⟨some d,op,ty,pos,af,gd⟩=true:=by rfl)(hg:aA ops s ⟨some d,op,ty,pos,af,gd⟩=some true:=by rfl)(hd:Nat.ble (d+1) X.n=true:=by rfl):aY X ops (⟨some d,op,ty,pos,af,gd⟩::rest) K s L:=gD h (hr fun x0 x1 x2 x3 x4 x5=>⟨k x0 x1 x2 x3 x4 x5⟩) hn hg hd
theorem TP {q:Option Addr->Nat->Nat->Option Addr->Nat->Nat->Option Addr->Nat->Nat->Prop}(h:OpX X.P s L ⟨some d,op,ty,pos,af,gd⟩ R)(k:∀(x0:Option Addr) (x1:Nat) (x2:Nat) (x3:Option Addr) (x4:Nat) (x5:Nat) (x6:Option Addr) (x7:Nat) (x8:Nat),q x0 x1 x2 x3 x4 x5 x6 x7 x8)(hr:(∀(x0:Option Addr) (x1:Nat) (x2:Nat) (x3:Option Addr) (x4:Nat) (x5:Nat) (x6:Option Addr) (x7:Nat) (x8:Nat),Bxd (q x0 x1 x2 x3 x4 x5 x6 x7 x8))-> ∀v L',R v L'->aY X ops rest K ((d,v)::s) L':=by
      intro k
      first|(rintro _ _ ⟨_,⟨x0,x1,x2,x3,x4,x5,x6,x7,x8,rfl,rfl⟩,rfl⟩;refine ab ?_;exact (k x0 x1 x2 x3 x4 x5 x6 x7 x8).un)|(rintro _ _ ⟨x0,x1,x2,x3,x4,x5,x6,x7,x8,rfl,rfl⟩;refine ab ?_;exact (k x0 x1 x2 x3 x4 x5 x6 x7 x8).un))(hn:eF ⟨some d,op,ty,pos,af,gd⟩=true:=by rfl)(hg:aA ops s ⟨some d,op,ty,pos,af,gd⟩=some true:=by rfl)(hd:Nat.ble (d+1) X.n=true:=by rfl):aY X ops (⟨some d,op,ty,pos,af,gd⟩::rest) K s L:=gD h (hr fun x0 x1 x2 x3 x4 x5 x6 x7 x8=>⟨k x0 x1 x2 x3 x4 x5 x6 x7 x8⟩) hn hg hd
theorem Ti {q:Option Addr->Nat->Nat->Option Addr->Nat->Nat->Option Addr->Nat->Nat->Option Addr->Nat->Nat->Prop}(h:OpX X.P s L ⟨some d,op,ty,pos,af,gd⟩ R)(k:∀(x0:Option Addr) (x1:Nat) (x2:Nat) (x3:Option Addr) (x4:Nat) (x5:Nat) (x6:Option Addr) (x7:Nat) (x8:Nat) (x9:Option Addr) (a6:Nat) (a8:Nat),q x0 x1 x2 x3 x4 x5 x6 x7 x8 x9 a6 a8)(hr:(∀(x0:Option Addr) (x1:Nat) (x2:Nat) (x3:Option Addr) (x4:Nat) (x5:Nat) (x6:Option Addr) (x7:Nat) (x8:Nat) (x9:Option Addr) (a6:Nat) (a8:Nat),Bxd (q x0 x1 x2 x3 x4 x5 x6 x7 x8 x9 a6 a8))-> ∀v L',R v L'->aY X ops rest K ((d,v)::s) L':=by
      intro k
      first|(rintro _ _ ⟨_,⟨x0,x1,x2,x3,x4,x5,x6,x7,x8,x9,a6,a8,rfl,rfl⟩,rfl⟩;refine ab ?_;exact (k x0 x1 x2 x3 x4 x5 x6 x7 x8 x9 a6 a8).un)|(rintro _ _ ⟨x0,x1,x2,x3,x4,x5,x6,x7,x8,x9,a6,a8,rfl,rfl⟩;refine ab ?_;exact (k x0 x1 x2 x3 x4 x5 x6 x7 x8 x9 a6 a8).un))(hn:eF ⟨some d,op,ty,pos,af,gd⟩=true:=by rfl)(hg:aA ops s ⟨some d,op,ty,pos,af,gd⟩=some true:=by rfl)(hd:Nat.ble (d+1) X.n=true:=by rfl):aY X ops (⟨some d,op,ty,pos,af,gd⟩::rest) K s L:=gD h (hr fun x0 x1 x2 x3 x4 x5 x6 x7 x8 x9 a6 a8=>⟨k x0 x1 x2 x3 x4 x5 x6 x7 x8 x9 a6 a8⟩) hn hg hd
end
def Zl (_:List Nat)(p:Prop):Prop:=p
theorem TG {p:Prop}(h:p):Zl [] p:=h
section
variable {d:Nat}{op:Op}
theorem TZ (i:Nat){l:List Nat}(hi:ops[i]? =some ⟨some d,op,ty,pos,af,gd⟩)(h:RdS X.P s M ⟨some d,op,ty,pos,af,gd⟩ v)(hk:Od ops listed i=true)(hg:aA ops s ⟨some d,op,ty,pos,af,gd⟩=some true)(hd:Nat.ble (d+1) X.n=true)(k:Zl l (mR X ops K M fuel (listed.setIfInBounds i true) ((d,v)::s) L)):Zl (i::l) (mR X ops K M (fuel+1) listed s L):=zR i hi h.out k hk hg hd
end
theorem zY (l:List Nat){p q:Prop}(k:q)(h:Bxd q->Zl l p:=by
    intro k
    repeat (refine TZ _ rfl SJ I (by exact rfl) (by exact rfl) ?_)
    refine TG ?_
    exact k.un):p:=h ⟨k⟩
theorem UY {l:List Nat}{p q:Prop}(f:q->p)(h:Zl l q):Zl l p:=f h
theorem zX (l:List Nat){p q:Prop}(k:q)(h:Bxd q->Zl l p:=by
    intro k
    repeat (refine TZ _ rfl SJ I (by exact rfl) (by exact rfl) ?_)
    refine TG ?_;refine fg I ?_
    exact k.un):p:=h ⟨k⟩
theorem dY (l:List Nat){p q:Prop}(k:q)(h:Bxd q->Zl l p:=by
    intro k;refine UY (fun h=>au (bm I _ (ah _) h)) ?_
    repeat (refine TZ _ rfl SJ I (by exact rfl) (by exact rfl) ?_)
    refine TG ?_
    exact k.un):p:=h ⟨k⟩
theorem bf {P:Wa->Prop}(k:P M)(h:Cv L M:=by exact cX): ∃M',Cv L M'/\Cv M' M/\P M':=Ka h k
section
variable {d:Nat}{op:Op}
theorem It (i:Nat){q:Nat->Prop}(hi:ops[i]? =some ⟨some d,op,ty,pos,af,gd⟩)(h:OpX X.P s L ⟨some d,op,ty,pos,af,gd⟩ R)(k:∀(x0:Nat),q x0)(hq:(∀(x0:Nat),Bxd (q x0))-> ∀v L',R v L'-> ∃M',Cv L' M'/\Cv M' M/\mR X ops K M' fuel (listed.setIfInBounds i true) ((d,v)::s) L':=by
      intro k
      first
        | rintro _ _ ⟨_,⟨x0,rfl,rfl⟩,rfl⟩
          refine bf ?_;refine bp ?_;exact (k x0).un
        | rintro _ _ ⟨x0,rfl,rfl⟩
          refine bf ?_;refine bp ?_
          exact (k x0).un)(hr:Region.ready .any ops listed=[i]:=by kernel_rfl)(hn:eF ⟨some d,op,ty,pos,af,gd⟩=true:=by exact rfl)(hg:aA ops s ⟨some d,op,ty,pos,af,gd⟩=some true:=by exact rfl)(hd:Nat.ble (d+1) X.n=true:=by exact rfl):mR X ops K M (fuel+1) listed s L:=zD i hi h (hq fun x0=>⟨k x0⟩) hr hn hg hd
theorem yQ (i:Nat){q:Option Addr->Nat->Nat->Prop}(hi:ops[i]? =some ⟨some d,op,ty,pos,af,gd⟩)(h:OpX X.P s L ⟨some d,op,ty,pos,af,gd⟩ R)(k:∀(x0:Option Addr) (x1:Nat) (x2:Nat),q x0 x1 x2)(hq:(∀(x0:Option Addr) (x1:Nat) (x2:Nat),Bxd (q x0 x1 x2))-> ∀v L',R v L'-> ∃M',Cv L' M'/\Cv M' M/\mR X ops K M' fuel (listed.setIfInBounds i true) ((d,v)::s) L':=by
      intro k
      first
        | rintro _ _ ⟨_,⟨x0,x1,x2,rfl,rfl⟩,rfl⟩
          refine bf ?_;refine bp ?_;exact (k x0 x1 x2).un
        | rintro _ _ ⟨x0,x1,x2,rfl,rfl⟩
          refine bf ?_;refine bp ?_
          exact (k x0 x1 x2).un)(hr:Region.ready .any ops listed=[i]:=by kernel_rfl)(hn:eF ⟨some d,op,ty,pos,af,gd⟩=true:=by exact rfl)(hg:aA ops s ⟨some d,op,ty,pos,af,gd⟩=some true:=by exact rfl)(hd:Nat.ble (d+1) X.n=true:=by exact rfl):mR X ops K M (fuel+1) listed s L:=zD i hi h (hq fun x0 x1 x2=>⟨k x0 x1 x2⟩) hr hn hg hd
theorem Ub (i:Nat){q:Option Addr->Nat->Nat->Option Addr->Nat->Nat->Prop}(hi:ops[i]? =some ⟨some d,op,ty,pos,af,gd⟩)(h:OpX X.P s L ⟨some d,op,ty,pos,af,gd⟩ R)(k:∀(x0:Option Addr) (x1:Nat) (x2:Nat) (x3:Option Addr) (x4:Nat) (x5:Nat),q x0 x1 x2 x3 x4 x5)(hq:(∀(x0:Option Addr) (x1:Nat) (x2:Nat) (x3:Option Addr) (x4:Nat) (x5:Nat),Bxd (q x0 x1 x2 x3 x4 x5))-> ∀v L',R v L'-> ∃M',Cv L' M'/\Cv M' M/\mR X ops K M' fuel (listed.setIfInBounds i true) ((d,v)::s) L':=by
      intro k
      first
        | rintro _ _ ⟨_,⟨x0,x1,x2,x3,x4,x5,rfl,rfl⟩,rfl⟩
          refine bf ?_;refine bp ?_;exact (k x0 x1 x2 x3 x4 x5).un
        | rintro _ _ ⟨x0,x1,x2,x3,x4,x5,rfl,rfl⟩
          refine bf ?_;refine bp ?_
          exact (k x0 x1 x2 x3 x4 x5).un)(hr:Region.ready .any ops listed=[i]:=by kernel_rfl)(hn:eF ⟨some d,op,ty,pos,af,gd⟩=true:=by exact rfl)(hg:aA ops s ⟨some d,op,ty,pos,af,gd⟩=some true:=by exact rfl)(hd:Nat.ble (d+1) X.n=true:=by exact rfl):mR X ops K M (fuel+1) listed s L:=zD i hi h (hq fun x0 x1 x2 x3 x4 x5=>⟨k x0 x1 x2 x3 x4 x5⟩) hr hn hg hd
theorem AX (i:Nat){q:Option Addr->Nat->Nat->Option Addr->Nat->Nat->Option Addr->Nat->Nat->Option Addr->Nat->Nat->Prop}(hi:ops[i]? =some ⟨some d,op,ty,pos,af,gd⟩)(h:OpX X.P s L ⟨some d,op,ty,pos,af,gd⟩ R)(k:∀(x0:Option Addr) (x1:Nat) (x2:Nat) (x3:Option Addr) (x4:Nat) (x5:Nat) (x6:Option Addr) (x7:Nat) (x8:Nat) (x9:Option Addr) (a6:Nat) (a8:Nat),q x0 x1 x2 x3 x4 x5 x6 x7 x8 x9 a6 a8)(hq:(∀(x0:Option Addr) (x1:Nat) (x2:Nat) (x3:Option Addr) (x4:Nat) (x5:Nat) (x6:Option Addr) (x7:Nat) (x8:Nat) (x9:Option Addr) (a6:Nat) (a8:Nat),Bxd (q x0 x1 x2 x3 x4 x5 x6 x7 x8 x9 a6 a8))-> ∀v L',R v L'-> ∃M',Cv L' M'/\Cv M' M/\mR X ops K M' fuel (listed.setIfInBounds i true) ((d,v)::s) L':=by
      intro k
      first
        | rintro _ _ ⟨_,⟨x0,x1,x2,x3,x4,x5,x6,x7,x8,x9,a6,a8,rfl,rfl⟩,rfl⟩
          refine bf ?_;refine bp ?_;exact (k x0 x1 x2 x3 x4 x5 x6 x7 x8 x9 a6 a8).un
        | rintro _ _ ⟨x0,x1,x2,x3,x4,x5,x6,x7,x8,x9,a6,a8,rfl,rfl⟩
          refine bf ?_;refine bp ?_
          exact (k x0 x1 x2 x3 x4 x5 x6 x7 x8 x9 a6 a8).un)(hr:Region.ready .any ops listed=[i]:=by kernel_rfl)(hn:eF ⟨some d,op,ty,pos,af,gd⟩=true:=by exact rfl)(hg:aA ops s ⟨some d,op,ty,pos,af,gd⟩=some true:=by exact rfl)(hd:Nat.ble (d+1) X.n=true:=by exact rfl):mR X ops K M (fuel+1) listed s L:=zD i hi h (hq fun x0 x1 x2 x3 x4 x5 x6 x7 x8 x9 a6 a8=>⟨k x0 x1 x2 x3 x4 x5 x6 x7 x8 x9 a6 a8⟩) hr hn hg hd
end
theorem aj {α:Sort _}{p:α->Prop}{q:Prop}(k:∀a,p a->q):(∃a,p a)->q:=fun ⟨a,h⟩=>k a h
theorem yy {c:Prop}{X:bA}{hJ:Wa}{q:bA->Wa->Prop}(k:c->q X hJ):c/\s=X/\L=hJ->q s L:=fun ⟨h,e1,e2⟩=>by subst e1 e2;exact k h
end
section
variable {n2:Nat}
open Go.RowKit
section
variable {d:Nat}{op:Op}
theorem UX (i:Nat){l:List Nat}(hi:ops[i]? =some ⟨some d,op,ty,pos,af,gd⟩)(hg:aA ops s ⟨some d,op,ty,pos,af,gd⟩=some false)(hk:Od ops listed i=true)(hd:Nat.ble (d+1) X.n=true)(k:Zl l (mR X ops K M fuel (listed.setIfInBounds i true) ((d,undef)::s) L)):Zl (i::l) (mR X ops K M (fuel+1) listed s L):=Hl i hi hk hg hd k
theorem UZ (i:Nat){l:List Nat}(hi:ops[i]? =some ⟨some d,op,ty,pos,af,gd⟩)(hg:aA ops s ⟨some d,op,ty,pos,af,gd⟩=some true)(h:RdS X.P s M ⟨some d,op,ty,pos,af,gd⟩ v)(hk:Od ops listed i=true)(hd:Nat.ble (d+1) X.n=true)(k:Zl l (mR X ops K M fuel (listed.setIfInBounds i true) ((d,v)::s) L)):Zl (i::l) (mR X ops K M (fuel+1) listed s L):=zR i hi h.out k hk hg hd
end
theorem yY (l:List Nat){p q:Prop}(k:q)(h:Bxd q->Zl l p:=by
  intro k
  repeat (first
   |refine UX _ rfl (by first|exact rfl|exact KM (by assumption) rfl|exact Th (by assumption) rfl) I (by exact rfl) ?_
   |refine UZ _ rfl (by first|exact rfl|exact el (by assumption) rfl|exact pc (by assumption) rfl) SJ I (by exact rfl) ?_)
  refine TG ?_
  exact k.un):p:=h ⟨k⟩
section
theorem yS {n2:Nat}{l:Array Bool}{a b:Bool}(rest:mR X ops K M n2 l ((pd,.bool b)::s2) L2)(h:some a=some b)(hs:AV s ((pd,.bool a)::s2):=by exact sA)(hl:Cv L L2:=by exact cX)(hm:Cv L2 M:=by exact cX):mR X ops K M n2 l s L:=by
 cases h;exact Ir rest hs hl hm
theorem yJ (ix:List Nat)(n2 gc pd:Nat){c:Bool}{u v:Option Bool}{f:Bool->Option ρ}{r:ρ}(h:(bif c then u else v).bind f=some r)(h1:∀b,c=true->u=some b->mR X ops K M n2 (pE listed ix) ((pd,.bool b)::s) L->mR X ops K M fuel listed s L)(h2:∀b,c=false->v=some b->mR X ops K M n2 (pE listed ix) ((pd,.bool b)::s) L->mR X ops K M fuel listed s L)(k2:∀b,f b=some r->mR X ops K M n2 (pE listed ix) ((pd,.bool b)::s) L)(hc:jq s gc=some (.bool c):=by exact rfl):mR X ops K M fuel listed s L:=by
 have _:=hc;obtain ⟨b,hb,h⟩:=aa h
 cases hg:c with
 |true=>exact h1 b hg (qi hg hb) (k2 b h)
 |false=>exact h2 b hg (qj hg hb) (k2 b h)
theorem Lv (k pd gc:Nat){c:Bool}{u v:Option Bool}{f:Bool->Option ρ}{r:ρ}(h:(bif c then u else v).bind f=some r)(h1:∀b,c=true->u=some b->aY X ops (l.take k) (vd ((pd,.bool b)::s) L) s L)(h2:∀b,c=false->v=some b->aY X ops (l.take k) (vd ((pd,.bool b)::s) L) s L)(k2:∀b,f b=some r->aY X ops (l.drop k) K ((pd,.bool b)::s) L)(hc:jq s gc=some (.bool c):=by exact rfl):aY X ops l K s L:=by
 have _:=hc;obtain ⟨b,hb,h⟩:=aa h;refine vF k pd b ?_ (k2 b h)
 cases hg:c with
 |true=>exact h1 b hg (qi hg hb)
 |false=>exact h2 b hg (qj hg hb)
end
section
variable {L0:Wa}{o:Oper}{p:Nat->Oper->Prop}
theorem qE {v':Value}(h:Ev P s (fun _=>True) o v')(k:∀(i:Nat) (o:Oper),i<n->ops[i]? =some o->p i o)(ho:ops[n]? =some o:=by exact rfl)(hp:Rp P ops s L L0 o (Asn.aV v).full->p n o:=by exact id)(hv:v'=v:=by exact rfl)(hg:aA ops s o=some true:=by exact rfl)(hl:Cv L L0:=by exact ah _): ∀(i:Nat) (o:Oper),i<n+1->ops[i]? =some o->p i o:=aH ho (hp (UL h hg (ku hv hl))) k
theorem qR {v':Value}(h:Rd P s L o v')(k:∀(i:Nat) (o:Oper),i<n->ops[i]? =some o->p i o)(ho:ops[n]? =some o:=by exact rfl)(hp:Rp P ops s L L0 o (Asn.aV v).full->p n o:=by exact id)(hv:v'=v:=by exact rfl)(hg:aA ops s o=some true:=by exact rfl)(hl:Cv L L0:=by exact ah _): ∀(i:Nat) (o:Oper),i<n+1->ops[i]? =some o->p i o:=aH ho (hp (wk h hg (ku hv hl))) k
end
end
section
open Go.RowKit
section
variable {nn:Nat}{rr:Option Nat}{rest:List Oper}{d:Nat}{m:Option α}{g:α->Option ρ}{r:ρ}{re:Wa}{p:Prop}
theorem cR {v:α->Value}{C:α->Wa}{q:α->Prop}(h:m.bind g=some r)(c:∀y,m=some y->Okc P f vs pre (fun u post=>u=v y/\post=C y))(k:∀y,g y=some r->q y)(hp:∀y,Bxd (q y)->(aY ⟨P,nn,rr⟩ ops rest K ((d,v y)::s) (C y++L)->aY ⟨P,nn,rr⟩ ops (⟨some d,.call ⟨.value (.func f),xs.toArray,ats⟩,ty,pos,af,gd⟩::rest) K s L)->p:=by
   intro y k1 k2;refine ab ?_;refine k2 ?_;refine ab ?_
   exact k1.un)(hv:DE s xs=some vs:=by exact rfl)(hl:Ct L pre:=by
   apply Qk (by repeat (first|exact ms rfl|apply jl rfl|exact rfl))
   repeat (first|exact TN|apply TO (by with_reducible repeat (first|apply FndL.bb|apply FndL.br|apply FndL.sl|apply FndL.so|apply FndL.mm|apply FndL.mr|apply FndL.pq|apply FndL.pk|apply FndL.pr|apply FndL.rm|apply FndL.s))|apply leZ))(hr:∀y, ∀c∈C y,mT c:=by
   intro y
   repeat (first|exact TR|refine TV ?_|refine TS ?_|refine TQ ?_))(hn:eF ⟨some d,.call ⟨.value (.func f),xs.toArray,ats⟩,ty,pos,af,gd⟩=true:=by rfl)(hg:aA ops s ⟨some d,.call ⟨.value (.func f),xs.toArray,ats⟩,ty,pos,af,gd⟩=some true:=by first|exact rfl|exact el (by assumption) rfl|exact pc (by assumption) rfl)(hd:Nat.ble (d+1) nn=true:=by rfl):p:=by
 obtain ⟨y,hy,h⟩:=aa h
 refine hp y (⟨k y h⟩) fun hq=>gD (kV (c y hy) hv hl (fun u post h=>by obtain ⟨-,rfl⟩:=h;exact hr y)) ?_ hn hg hd
 rintro _ _ ⟨_,⟨rfl,rfl⟩,rfl⟩;exact hq
theorem cC {v:α->Value}{C:α->Wa}{q:α->Prop}(h:m.bind g=some r)(c:∀y,m=some y->Okc P f vs pre (fun u post=>u=v y/\post=C y))(k:∀y,g y=some r->q y)(hp:∀y,Bxd (q y)->(aY ⟨P,nn,rr⟩ ops rest K ((d,v y)::s) (C y++re)->aY ⟨P,nn,rr⟩ ops (⟨some d,.call ⟨.value (.func f),xs.toArray,ats⟩,ty,pos,af,gd⟩::rest) K s L)->p:=by
   intro y k1 k2;refine ab ?_;refine k2 ?_;refine ab ?_
   exact k1.un)(hv:DE s xs=some vs:=by exact rfl)(hl:Tk L pre re:=by
   apply PJ (by repeat (first|exact ms rfl|apply jl rfl|exact rfl))
   repeat (first|exact TK|apply TJ (by with_reducible repeat (first|apply FndD.w|apply FndD.s))|apply TM (by with_reducible repeat (first|apply FndD.w|apply FndD.s))|apply tkM (by with_reducible repeat (first|apply FndD.w|apply FndD.s))|apply tkR (by with_reducible repeat (first|apply FndD.w|apply FndD.s))|apply TL (by with_reducible repeat (first|apply FndC.w|apply FndC.s))))(hn:eF ⟨some d,.call ⟨.value (.func f),xs.toArray,ats⟩,ty,pos,af,gd⟩=true:=by rfl)(hg:aA ops s ⟨some d,.call ⟨.value (.func f),xs.toArray,ats⟩,ty,pos,af,gd⟩=some true:=by first|exact rfl|exact el (by assumption) rfl|exact pc (by assumption) rfl)(hd:Nat.ble (d+1) nn=true:=by rfl):p:=by
 obtain ⟨y,hy,h⟩:=aa h
 refine hp y (⟨k y h⟩) fun hq=>gD (Ee (c y hy) hv hl) ?_ hn hg hd
 rintro _ _ ⟨_,⟨rfl,rfl⟩,rfl⟩;exact hq
theorem LL {v:α->Option Addr->Nat->Nat->Value}{C:α->Option Addr->Nat->Nat->Wa}{q:α->Option Addr->Nat->Nat->Prop}(h:m.bind g=some r)(c:∀y,m=some y->Okc P f vs pre (fun u post=> ∃(x0:Option Addr) (x1:Nat) (x2:Nat),u=v y x0 x1 x2/\post=C y x0 x1 x2))(k:∀y (x0:Option Addr) (x1:Nat) (x2:Nat),g y=some r->q y x0 x1 x2)(hp:∀y,(∀(x0:Option Addr) (x1:Nat) (x2:Nat),Bxd (q y x0 x1 x2))->((∀(x0:Option Addr) (x1:Nat) (x2:Nat),aY ⟨P,nn,rr⟩ ops rest K ((d,v y x0 x1 x2)::s) (C y x0 x1 x2++L))->aY ⟨P,nn,rr⟩ ops (⟨some d,.call ⟨.value (.func f),xs.toArray,ats⟩,ty,pos,af,gd⟩::rest) K s L)->p:=by
   intro y k1 k2;refine ab ?_;refine k2 ?_;intro x0 x1 x2;refine ab ?_
   exact (k1 x0 x1 x2).un)(hv:DE s xs=some vs:=by exact rfl)(hl:Ct L pre:=by
   apply Qk (by repeat (first|exact ms rfl|apply jl rfl|exact rfl))
   repeat (first|exact TN|apply TO (by with_reducible repeat (first|apply FndL.bb|apply FndL.br|apply FndL.sl|apply FndL.so|apply FndL.mm|apply FndL.mr|apply FndL.pq|apply FndL.pk|apply FndL.pr|apply FndL.rm|apply FndL.s))|apply leZ))(hr:∀y (x0:Option Addr) (x1:Nat) (x2:Nat), ∀c∈C y x0 x1 x2,mT c:=by
   intro y x0 x1 x2
   repeat (first|exact TR|refine TV ?_|refine TS ?_|refine TQ ?_))(hn:eF ⟨some d,.call ⟨.value (.func f),xs.toArray,ats⟩,ty,pos,af,gd⟩=true:=by rfl)(hg:aA ops s ⟨some d,.call ⟨.value (.func f),xs.toArray,ats⟩,ty,pos,af,gd⟩=some true:=by first|exact rfl|exact el (by assumption) rfl|exact pc (by assumption) rfl)(hd:Nat.ble (d+1) nn=true:=by rfl):p:=by
 obtain ⟨y,hy,h⟩:=aa h
 refine hp y (fun x0 x1 x2=>⟨k y x0 x1 x2 h⟩) fun hq=>gD (kV (c y hy) hv hl (fun u post h=>by obtain ⟨x0,x1,x2, -,rfl⟩:=h;exact hr y x0 x1 x2)) ?_ hn hg hd
 rintro _ _ ⟨_,⟨x0,x1,x2,rfl,rfl⟩,rfl⟩;exact hq x0 x1 x2
theorem UJ {v:α->Option Addr->Nat->Nat->Value}{C:α->Option Addr->Nat->Nat->Wa}{q:α->Option Addr->Nat->Nat->Prop}(h:m.bind g=some r)(c:∀y,m=some y->Okc P f vs pre (fun u post=> ∃(x0:Option Addr) (x1:Nat) (x2:Nat),u=v y x0 x1 x2/\post=C y x0 x1 x2))(k:∀y (x0:Option Addr) (x1:Nat) (x2:Nat),g y=some r->q y x0 x1 x2)(hp:∀y,(∀(x0:Option Addr) (x1:Nat) (x2:Nat),Bxd (q y x0 x1 x2))->((∀(x0:Option Addr) (x1:Nat) (x2:Nat),aY ⟨P,nn,rr⟩ ops rest K ((d,v y x0 x1 x2)::s) (C y x0 x1 x2++re))->aY ⟨P,nn,rr⟩ ops (⟨some d,.call ⟨.value (.func f),xs.toArray,ats⟩,ty,pos,af,gd⟩::rest) K s L)->p:=by
   intro y k1 k2;refine ab ?_;refine k2 ?_;intro x0 x1 x2;refine ab ?_
   exact (k1 x0 x1 x2).un)(hv:DE s xs=some vs:=by exact rfl)(hl:Tk L pre re:=by
   apply PJ (by repeat (first|exact ms rfl|apply jl rfl|exact rfl))
   repeat (first|exact TK|apply TJ (by with_reducible repeat (first|apply FndD.w|apply FndD.s))|apply TM (by with_reducible repeat (first|apply FndD.w|apply FndD.s))|apply tkM (by with_reducible repeat (first|apply FndD.w|apply FndD.s))|apply tkR (by with_reducible repeat (first|apply FndD.w|apply FndD.s))|apply TL (by with_reducible repeat (first|apply FndC.w|apply FndC.s))))(hn:eF ⟨some d,.call ⟨.value (.func f),xs.toArray,ats⟩,ty,pos,af,gd⟩=true:=by rfl)(hg:aA ops s ⟨some d,.call ⟨.value (.func f),xs.toArray,ats⟩,ty,pos,af,gd⟩=some true:=by first|exact rfl|exact el (by assumption) rfl|exact pc (by assumption) rfl)(hd:Nat.ble (d+1) nn=true:=by rfl):p:=by
 obtain ⟨y,hy,h⟩:=aa h
 refine hp y (fun x0 x1 x2=>⟨k y x0 x1 x2 h⟩) fun hq=>gD (Ee (c y hy) hv hl) ?_ hn hg hd
 rintro _ _ ⟨_,⟨x0,x1,x2,rfl,rfl⟩,rfl⟩;exact hq x0 x1 x2
theorem NA {v:α->Option Addr->Nat->Nat->Option Addr->Nat->Nat->Value}{C:α->Option Addr->Nat->Nat->Option Addr->Nat->Nat->Wa}{q:α->Option Addr->Nat->Nat->Option Addr->Nat->Nat->Prop}(h:m.bind g=some r)(c:∀y,m=some y->Okc P f vs pre (fun u post=> ∃(x0:Option Addr) (x1:Nat) (x2:Nat) (x3:Option Addr) (x4:Nat) (x5:Nat),u=v y x0 x1 x2 x3 x4 x5/\post=C y x0 x1 x2 x3 x4 x5))(k:∀y (x0:Option Addr) (x1:Nat) (x2:Nat) (x3:Option Addr) (x4:Nat) (x5:Nat),g y=some r->q y x0 x1 x2 x3 x4 x5)(hp:∀y,(∀(x0:Option Addr) (x1:Nat) (x2:Nat) (x3:Option Addr) (x4:Nat) (x5:Nat),Bxd (q y x0 x1 x2 x3 x4 x5))->((∀(x0:Option Addr) (x1:Nat) (x2:Nat) (x3:Option Addr) (x4:Nat) (x5:Nat),aY ⟨P,nn,rr⟩ ops rest K ((d,v y x0 x1 x2 x3 x4 x5)::s) (C y x0 x1 x2 x3 x4 x5++L))->aY ⟨P,nn,rr⟩ ops (⟨some d,.call ⟨.value (.func f),xs.toArray,ats⟩,ty,pos,af,gd⟩::rest) K s L)->p:=by
   intro y k1 k2;refine ab ?_;refine k2 ?_;intro x0 x1 x2 x3 x4 x5;refine ab ?_
   exact (k1 x0 x1 x2 x3 x4 x5).un)(hv:DE s xs=some vs:=by exact rfl)(hl:Ct L pre:=by
   apply Qk (by repeat (first|exact ms rfl|apply jl rfl|exact rfl))
   repeat (first|exact TN|apply TO (by with_reducible repeat (first|apply FndL.bb|apply FndL.br|apply FndL.sl|apply FndL.so|apply FndL.mm|apply FndL.mr|apply FndL.pq|apply FndL.pk|apply FndL.pr|apply FndL.rm|apply FndL.s))|apply leZ))(hr:∀y (x0:Option Addr) (x1:Nat) (x2:Nat) (x3:Option Addr) (x4:Nat) (x5:Nat), ∀c∈C y x0 x1 x2 x3 x4 x5,mT c:=by
   intro y x0 x1 x2 x3 x4 x5
   repeat (first|exact TR|refine TV ?_|refine TS ?_|refine TQ ?_))(hn:eF ⟨some d,.call ⟨.value (.func f),xs.toArray,ats⟩,ty,pos,af,gd⟩=true:=by rfl)(hg:aA ops s ⟨some d,.call ⟨.value (.func f),xs.toArray,ats⟩,ty,pos,af,gd⟩=some true:=by first|exact rfl|exact el (by assumption) rfl|exact pc (by assumption) rfl)(hd:Nat.ble (d+1) nn=true:=by rfl):p:=by
 obtain ⟨y,hy,h⟩:=aa h
 refine hp y (fun x0 x1 x2 x3 x4 x5=>⟨k y x0 x1 x2 x3 x4 x5 h⟩) fun hq=>gD (kV (c y hy) hv hl (fun u post h=>by obtain ⟨x0,x1,x2,x3,x4,x5, -,rfl⟩:=h;exact hr y x0 x1 x2 x3 x4 x5)) ?_ hn hg hd
 rintro _ _ ⟨_,⟨x0,x1,x2,x3,x4,x5,rfl,rfl⟩,rfl⟩;exact hq x0 x1 x2 x3 x4 x5
theorem Su {v:α->Option Addr->Nat->Nat->Option Addr->Nat->Nat->Value}{C:α->Option Addr->Nat->Nat->Option Addr->Nat->Nat->Wa}{q:α->Option Addr->Nat->Nat->Option Addr->Nat->Nat->Prop}(h:m.bind g=some r)(c:∀y,m=some y->Okc P f vs pre (fun u post=> ∃(x0:Option Addr) (x1:Nat) (x2:Nat) (x3:Option Addr) (x4:Nat) (x5:Nat),u=v y x0 x1 x2 x3 x4 x5/\post=C y x0 x1 x2 x3 x4 x5))(k:∀y (x0:Option Addr) (x1:Nat) (x2:Nat) (x3:Option Addr) (x4:Nat) (x5:Nat),g y=some r->q y x0 x1 x2 x3 x4 x5)(hp:∀y,(∀(x0:Option Addr) (x1:Nat) (x2:Nat) (x3:Option Addr) (x4:Nat) (x5:Nat),Bxd (q y x0 x1 x2 x3 x4 x5))->((∀(x0:Option Addr) (x1:Nat) (x2:Nat) (x3:Option Addr) (x4:Nat) (x5:Nat),aY ⟨P,nn,rr⟩ ops rest K ((d,v y x0 x1 x2 x3 x4 x5)::s) (C y x0 x1 x2 x3 x4 x5++re))->aY ⟨P,nn,rr⟩ ops (⟨some d,.call ⟨.value (.func f),xs.toArray,ats⟩,ty,pos,af,gd⟩::rest) K s L)->p:=by
   intro y k1 k2;refine ab ?_;refine k2 ?_;intro x0 x1 x2 x3 x4 x5;refine ab ?_
   exact (k1 x0 x1 x2 x3 x4 x5).un)(hv:DE s xs=some vs:=by exact rfl)(hl:Tk L pre re:=by
   apply PJ (by repeat (first|exact ms rfl|apply jl rfl|exact rfl))
   repeat (first|exact TK|apply TJ (by with_reducible repeat (first|apply FndD.w|apply FndD.s))|apply TM (by with_reducible repeat (first|apply FndD.w|apply FndD.s))|apply tkM (by with_reducible repeat (first|apply FndD.w|apply FndD.s))|apply tkR (by with_reducible repeat (first|apply FndD.w|apply FndD.s))|apply TL (by with_reducible repeat (first|apply FndC.w|apply FndC.s))))(hn:eF ⟨some d,.call ⟨.value (.func f),xs.toArray,ats⟩,ty,pos,af,gd⟩=true:=by rfl)(hg:aA ops s ⟨some d,.call ⟨.value (.func f),xs.toArray,ats⟩,ty,pos,af,gd⟩=some true:=by first|exact rfl|exact el (by assumption) rfl|exact pc (by assumption) rfl)(hd:Nat.ble (d+1) nn=true:=by rfl):p:=by
 obtain ⟨y,hy,h⟩:=aa h
 refine hp y (fun x0 x1 x2 x3 x4 x5=>⟨k y x0 x1 x2 x3 x4 x5 h⟩) fun hq=>gD (Ee (c y hy) hv hl) ?_ hn hg hd
 rintro _ _ ⟨_,⟨x0,x1,x2,x3,x4,x5,rfl,rfl⟩,rfl⟩;exact hq x0 x1 x2 x3 x4 x5
end
section
theorem lK {c:Code}(Fam:Nat->bA->Wa->Prop)(m0:Nat)(k:∀m s2 L2,Fam (m+1) s2 L2->Wq X c (nx (fun s' L'=> ∃m' s3 L3,m'<m+1/\Fam m' s3 L3/\AV s' s3/\Cv L' L3) K) s2 L2)(he:∃s2 L2,Fam m0 s2 L2/\AV s s2/\Cv L L2:=by
   apply UV
   repeat (apply Exists.intro)
   exact ⟨h,J,J⟩
   all_goals (try exact sA)
   all_goals (try apply Pc (by repeat (first|exact ms rfl|apply jl rfl|exact rfl)))
   all_goals (repeat (first|exact Tt|apply Ts (by with_reducible repeat (first|apply FndD.w|apply FndD.s))|apply Tu (by with_reducible repeat (first|apply FndC.w|apply FndC.s))|apply cwF (by with_reducible repeat (first|apply FndC.w|apply FndC.s))|apply cwZ|apply cwY|exact ah _|apply Tv)))(hz:∀s2 L2,Fam 0 s2 L2->False:=by
   intro s2 L2
   repeat (refine TT ?_;intro _)
   intro h
   exact az h.1):Wq X (.loop c) K s L:=by
 obtain ⟨s2,L2,h1,h2,h3⟩:=he
 refine ii Fam m0 s2 L2 h1 h2 h3 fun m s3 L3 h=> ?_
 cases m with
 |zero=>exact (hz _ _ h).elim
 |succ m=>exact k m _ _ h
theorem qo (k pd gc:Nat){c:Bool}{u v:Option Bool}{f:Bool->Option ρ}{r:ρ}(h:(bif c then u else v).bind f=some r)(h1:∀b,c=true->u=some b->aY X ops (l.take k) (vd ((pd,.bool b)::s) L) s L)(k2:∀b,f b=some r->aY X ops (l.drop k) K ((pd,.bool b)::s) L)(hc:jq s gc=some (.bool c):=by exact rfl)(h2:∀b,c=false->v=some b->aY X ops (l.take k) (vd ((pd,.bool b)::s) L) s L:=by
   intro b g h
   exact gY):aY X ops l K s L:=Lv k pd gc h h1 h2 k2 hc
theorem AU (k pd gc:Nat){c:Bool}{u v:Option Bool}{f:Bool->Option ρ}{r:ρ}(h:(bif c then u else v).bind f=some r)(h2:∀b,c=false->v=some b->aY X ops (l.take k) (vd ((pd,.bool b)::s) L) s L)(k2:∀b,f b=some r->aY X ops (l.drop k) K ((pd,.bool b)::s) L)(hc:jq s gc=some (.bool c):=by exact rfl)(h1:∀b,c=true->u=some b->aY X ops (l.take k) (vd ((pd,.bool b)::s) L) s L:=by
   intro b g h
   exact gY):aY X ops l K s L:=Lv k pd gc h h1 h2 k2 hc
end
end
end Go.Proofs.YthhiddkljcacaaaGreat
namespace Go.Proofs
open Go.Shelf
def Tryz.keysA_ren:Go.Shelf.Ren:=⟨fun|7=>126|10=>176|n=>n,fun|23=>184|26=>3|3=>4|28=>182|0=>0|27=>181|33=>94|4=>4|n=>n,fun|n=>n⟩
theorem Tryz.keysA:Go.Proofs.SlLaysZI.n7 Tryz.prog Tryz.keysA_ren:={
 mixed:=by kernel_rfl
 f7:=⟨Tryz.f126.name,by decide,Tryz.func126.trans (congrArg some (by kernel_rfl))⟩
 f10:=⟨Tryz.f176.name,by decide,Tryz.func176.trans (congrArg some (by kernel_rfl))⟩
 t0:=Tryz.underlying0
 a0:=Tryz.isAgg0
 z0:=Tryz.sizeOf0
 v0:=Tryz.zeroValue0
 t4:=Tryz.underlying4
 a4:=Tryz.isAgg4
 z4:=Tryz.sizeOf4
 v4:=Tryz.zeroValue4
 t23:=Tryz.underlying184
 a23:=Tryz.isAgg184
 z23:=Tryz.sizeOf184
 v23:=Tryz.zeroValue184
 t26:=Tryz.underlying3
 a26:=Tryz.isAgg3
 z26:=Tryz.sizeOf3
 v26:=Tryz.zeroValue3
 t27:=Tryz.underlying181
 a27:=Tryz.isAgg181
 z27:=Tryz.sizeOf181
 v27:=Tryz.zeroValue181
 t28:=Tryz.underlying182
 a28:=Tryz.isAgg182
 z28:=Tryz.sizeOf182
 v28:=Tryz.zeroValue182
 t33:=Tryz.underlying94
 a33:=Tryz.isAgg94
 z33:=Tryz.sizeOf94
 v33:=Tryz.zeroValue94}
def Tryz.sortedA_ren:Go.Shelf.Ren:=⟨fun|6=>125|8=>174|9=>175|11=>213|13=>215|12=>214|23=>238|24=>239|14=>230|15=>231|16=>232|17=>233|18=>234|19=>235|20=>171|21=>236|22=>237|25=>246|26=>247|27=>248|28=>249|29=>250|30=>212|31=>253|n=>n,fun|26=>3|28=>182|24=>99|0=>0|3=>3|37=>233|48=>282|50=>284|4=>4|40=>276|39=>275|45=>163|5=>5|9=>9|51=>289|55=>293|57=>298|58=>299|33=>94|n=>n,fun|n=>n⟩
theorem Tryz.sortedA:Go.Proofs.SlLaysZI.n6 Tryz.prog Tryz.sortedA_ren:={
 mixed:=by kernel_rfl
 f6:=⟨Tryz.f125.name,by decide,Tryz.func125.trans (congrArg some (by kernel_rfl))⟩
 f8:=⟨Tryz.f174.name,by decide,Tryz.func174.trans (congrArg some (by kernel_rfl))⟩
 f11:=⟨Tryz.f213.name,by decide,Tryz.func213.trans (congrArg some (by kernel_rfl))⟩
 t0:=Tryz.underlying0
 a0:=Tryz.isAgg0
 z0:=Tryz.sizeOf0
 v0:=Tryz.zeroValue0
 t24:=Tryz.underlying99
 a24:=Tryz.isAgg99
 z24:=Tryz.sizeOf99
 v24:=Tryz.zeroValue99
 t26:=Tryz.underlying3
 a26:=Tryz.isAgg3
 z26:=Tryz.sizeOf3
 v26:=Tryz.zeroValue3
 t28:=Tryz.underlying182
 a28:=Tryz.isAgg182
 z28:=Tryz.sizeOf182
 v28:=Tryz.zeroValue182
 i26:=by kernel_rfl}
def Tryz.sortA_ren:Go.Shelf.Ren:=⟨fun|5=>175|8=>215|7=>214|19=>238|20=>239|10=>230|11=>231|12=>232|13=>233|14=>234|15=>235|16=>171|17=>236|18=>237|30=>246|31=>247|32=>248|33=>249|34=>250|35=>212|40=>253|n=>n,fun|23=>99|25=>3|3=>3|32=>233|22=>99|0=>0|44=>282|46=>284|4=>4|36=>276|35=>275|41=>163|5=>5|9=>9|53=>289|57=>293|63=>298|64=>299|n=>n,fun|n=>n⟩
theorem Tryz.sortA:Go.Proofs.SlLaysM.n5 Tryz.prog Tryz.sortA_ren:={
 mixed:=by kernel_rfl
 f5:=⟨Tryz.f175.name,by decide,Tryz.func175.trans (congrArg some (by kernel_rfl))⟩
 f7:=⟨Tryz.f214.name,by decide,Tryz.func214.trans (congrArg some (by kernel_rfl))⟩
 f8:=Tryz.func215.trans (congrArg some (by kernel_rfl))
 f10:=⟨Tryz.f230.name,by decide,Tryz.func230.trans (congrArg some (by kernel_rfl))⟩
 f11:=⟨Tryz.f231.name,by decide,Tryz.func231.trans (congrArg some (by kernel_rfl))⟩
 f12:=⟨Tryz.f232.name,by decide,Tryz.func232.trans (congrArg some (by kernel_rfl))⟩
 f13:=⟨Tryz.f233.name,by decide,Tryz.func233.trans (congrArg some (by kernel_rfl))⟩
 f14:=⟨Tryz.f234.name,by decide,Tryz.func234.trans (congrArg some (by kernel_rfl))⟩
 f15:=⟨Tryz.f235.name,by decide,Tryz.func235.trans (congrArg some (by kernel_rfl))⟩
 f16:=⟨Tryz.f171.name,by decide,Tryz.func171.trans (congrArg some (by kernel_rfl))⟩
 f17:=⟨Tryz.f236.name,by decide,Tryz.func236.trans (congrArg some (by kernel_rfl))⟩
 f18:=⟨Tryz.f237.name,by decide,Tryz.func237.trans (congrArg some (by kernel_rfl))⟩
 f19:=Tryz.func238.trans (congrArg some (by kernel_rfl))
 f20:=Tryz.func239.trans (congrArg some (by kernel_rfl))
 f30:=⟨Tryz.f246.name,by decide,Tryz.func246.trans (congrArg some (by kernel_rfl))⟩
 f31:=Tryz.func247.trans (congrArg some (by kernel_rfl))
 f32:=Tryz.func248.trans (congrArg some (by kernel_rfl))
 f33:=⟨Tryz.f249.name,by decide,Tryz.func249.trans (congrArg some (by kernel_rfl))⟩
 f34:=⟨Tryz.f250.name,by decide,Tryz.func250.trans (congrArg some (by kernel_rfl))⟩
 f35:=⟨Tryz.f212.name,by decide,Tryz.func212.trans (congrArg some (by kernel_rfl))⟩
 f40:=⟨Tryz.f253.name,by decide,Tryz.func253.trans (congrArg some (by kernel_rfl))⟩
 t0:=Tryz.underlying0
 a0:=Tryz.isAgg0
 z0:=Tryz.sizeOf0
 v0:=Tryz.zeroValue0
 t3:=Tryz.underlying3
 a3:=Tryz.isAgg3
 z3:=Tryz.sizeOf3
 v3:=Tryz.zeroValue3
 t4:=Tryz.underlying4
 a4:=Tryz.isAgg4
 z4:=Tryz.sizeOf4
 v4:=Tryz.zeroValue4
 t5:=Tryz.underlying5
 a5:=Tryz.isAgg5
 z5:=Tryz.sizeOf5
 v5:=Tryz.zeroValue5
 t9:=Tryz.underlying9
 a9:=Tryz.isAgg9
 z9:=Tryz.sizeOf9
 v9:=Tryz.zeroValue9
 t22:=Tryz.underlying99
 a22:=Tryz.isAgg99
 z22:=Tryz.sizeOf99
 v22:=Tryz.zeroValue99
 t23:=Tryz.underlying99
 a23:=Tryz.isAgg99
 z23:=Tryz.sizeOf99
 v23:=Tryz.zeroValue99
 t25:=Tryz.underlying3
 a25:=Tryz.isAgg3
 z25:=Tryz.sizeOf3
 v25:=Tryz.zeroValue3
 t32:=Tryz.underlying233
 a32:=Tryz.isAgg233
 z32:=Tryz.sizeOf233
 v32:=Tryz.zeroValue233
 t35:=Tryz.underlying275
 a35:=Tryz.isAgg275
 z35:=Tryz.sizeOf275
 v35:=Tryz.zeroValue275
 t36:=Tryz.underlying276
 a36:=Tryz.isAgg276
 z36:=Tryz.sizeOf276
 v36:=Tryz.zeroValue276
 t41:=Tryz.underlying163
 a41:=Tryz.isAgg163
 z41:=Tryz.sizeOf163
 v41:=Tryz.zeroValue163
 t44:=Tryz.underlying282
 a44:=Tryz.isAgg282
 z44:=Tryz.sizeOf282
 v44:=Tryz.zeroValue282
 t46:=Tryz.underlying284
 a46:=Tryz.isAgg284
 z46:=Tryz.sizeOf284
 v46:=Tryz.zeroValue284
 t53:=Tryz.underlying289
 a53:=Tryz.isAgg289
 z53:=Tryz.sizeOf289
 v53:=Tryz.zeroValue289
 t57:=Tryz.underlying293
 a57:=Tryz.isAgg293
 z57:=Tryz.sizeOf293
 v57:=Tryz.zeroValue293
 t63:=Tryz.underlying298
 a63:=Tryz.isAgg298
 z63:=Tryz.sizeOf298
 v63:=Tryz.zeroValue298
 t64:=Tryz.underlying299
 a64:=Tryz.isAgg299
 z64:=Tryz.sizeOf299
 v64:=Tryz.zeroValue299}
end Go.Proofs
namespace Go.Proofs.YthhiddkljcacaaaGreat
variable (N:Nat){listed:Array Bool}{af:Array Edge}{ops:Array Oper}{ats:Array TypeId}{c:Chunk}{X:Cx}{fn:Func}{f:FuncId}{a1 a2:Int}{K:K3}{a0:List (Int×Bool)}{l:List Oper}{xs:List Operand}{rs:List ResultVar}{B2 b bt fuel i k n pd:Nat}{x y:Operand}{gd:Option (Nat×Bool)}{A:Option Addr}{P:Program}{pos:String}{α β ι κ ρ σ:Type}{e t ty:TypeId}{v:Value}{R R':Value->Wa->Prop}{L L' L2 M Z post pre:Wa}{args cs us vs:Wb}{C:World->Prop}{s s2:bA}
section
variable {B1 M1:Nat}
open Go.RowKit Go.Maps Go.Shelf
def iN (kv:List (Int×β)):List Int:=(kv.map (·.1)).mergeSort (fun x y=>decide (x<=y))
theorem JR (m:Nat):AnyZI.SortsIn Wc Tryz.sortedA_ren Fence.wide m:=
 ⟨fun RH off cap ss W hH hblk hsz=>callsIn_wide.2 (AnyM.slices_Sort_int Tryz.sortA RH off cap ss W hH hblk hsz),
  fun p cap W=>callsIn_wide.2 (AnyM.slices_Sort_int_none Tryz.sortA p cap W)⟩
abbrev Te:Lit->Int:=Go.intOf
def If:Value->Option (DataW Unit×List MemPlace):=fun _=>some (.nil,[])
theorem Ko {ev:β->Value}{w:World}{m:Nat}{kv:List (Int×β)}(h:Mp w m cj ev kv)(hk:∀k∈kv.map (·.1),in64 k)(hd:(kv.map (·.1)).Nodup)(hn:kv.length<=1099511627776): ∃D:DataW Unit,w.ownsMap Wc 3 If m kv.length D/\(intKeys D).Perm (kv.map (·.1))/\Maps.size D=kv.length:=by
 obtain ⟨es,clk,h1,h2,h3,h4⟩:=h
 have hlen:es.size=kv.length:=by simpa using congrArg List.length h2
 have hrd: ∀x∈es.toList, ∃a,a∈kv.map (·.1)/\x.key=cj a/\WideElems.rd Wc 3 If x=some (Lit.int .i64 a,DataW.nil):=by
  intro x hx;have h5:(x.key,x.val)∈es.toList.map (fun e=>(e.key,e.val)):=Xc.2 ⟨x,hx,rfl⟩;rw [h2] at h5;obtain ⟨p,hp,e⟩:=Xc.1 h5;have e1:cj p.1=x.key:=congrArg Prod.fst e;have hp1:p.1∈kv.map (·.1):=Xc.2 ⟨p,hp,rfl⟩;refine ⟨p.1,hp1,e1.symm,?_⟩;have hw:=hk p.1 hp1;unfold WideElems.rd;rw [<-e1];unfold cj;rw [keyOf_int_mk Ex (by have e1:IntKind.i64.min= -9223372036854775808:=rfl;have e2:IntKind.i64.max=9223372036854775807:=rfl;unfold Lit.wf;simp only [e1,e2,XW,XO];exact hw)];rfl
 have hkeys:es.toList.map (·.key)=kv.map (fun p=>cj p.1):=by
  have h5:=congrArg (List.map Prod.fst) h2;simpa [List.map_map,Function.comp_def] using h5
 have hrg:(es.toList.map (WideElems.rg Wc 3 If)).map (fun p=>Te p.1)=kv.map (·.1):=by
  have h6:es.toList.map (fun x=>Te (WideElems.rg Wc 3 If x).1)=(es.toList.map (·.key)).map (fun v=>match v with| .int _ a=>a|_=>0):=by
   rw [List.map_map];apply List.map_congr_left;intro x hx;obtain ⟨a, -,h7,h8⟩:=hrd x hx;simp only [WideElems.rg,h8,XF,Function.comp,h7];rfl
  simp only [List.map_map,Function.comp_def] at h6⊢;rw [h6];have h9:=congrArg (List.map (fun v:Value=>match v with| .int _ a=>a|_=>(0:Int))) hkeys;simp only [List.map_map,Function.comp_def,cj] at h9;exact h9
 refine ⟨_,⟨es,clk,h1,⟨by unfold maxLen;omega,⟨h4,?_,?_⟩,fun x hx=> ?_⟩,by omega,rfl⟩,?_,?_⟩
 ·rw [List.nodup_iff_pairwise_ne,List.pairwise_map]
  exact h3.imp fun h=>by omega
 ·rw [hkeys]
  have:kv.map (fun p=>cj p.1)=(kv.map (·.1)).map cj:=by rw [List.map_map];rfl
  rw [this,List.nodup_iff_pairwise_ne,List.pairwise_map]
  exact (List.nodup_iff_pairwise_ne.1 hd).imp fun h e=>h (by unfold cj at e;injection e)
 ·obtain ⟨a, -, -,h8⟩:=hrd x hx;exact ⟨_,h8⟩
 ·rw [<-hrg];exact ((WideShapes.sorted_perm _).map _)
 rw [Maps.size_eq,(WideShapes.sorted_perm _).length_eq];simp [hlen]
theorem Mw {a b:List Int}(h:a.Perm b):a.mergeSort (fun x y=>decide (x<=y))=b.mergeSort (fun x y=>decide (x<=y)):=by
 have tr: ∀x y z:Int,decide (x<=y)=true->decide (y<=z)=true->decide (x<=z)=true:=by simp;omega
 have tot: ∀x y:Int,(decide (x<=y)||decide (y<=x))=true:=by simp;omega
 have s1:=List.pairwise_mergeSort tr tot a;have s2:=List.pairwise_mergeSort tr tot b;have p:(a.mergeSort (fun x y=>decide (x<=y))).Perm (b.mergeSort (fun x y=>decide (x<=y))):=(List.mergeSort_perm a _).trans (h.trans (List.mergeSort_perm b _).symm);exact p.eq_of_pairwise (by intro x y _ _ h1 h2;simp at h1 h2;omega) s1 s2
def yn (_:Nat)(_:List (Int×β)):Option Unit:=some ()
theorem HR {N:Nat}{r:Unit}(_:yn N a0=some r):Okc Wc 126 [.map (some M1)] [] (fun u post=> ∃a6,u=.func (.func 176) #[] #[.pointer (some ⟨a6,0,none⟩)]/\post=[ae a6 184 [.map (some M1)]]):=by
 refine ⟨⟨_,Tryz.func126,J,J⟩,?_⟩;intro Z w hw;have h:=callsIn_wide.1 (AnyZI.keys_in Tryz.keysA Fence.wide 5 trivial rfl (some M1) w);refine h.mono ?_;rintro e w' ⟨rfl,rfl⟩;refine ⟨_,_,J,?_,w.heap.size,J,J⟩
 exact SepL.new hw (Agr.of_ext ((Ext.refl w).alloc _)) fun _ S _=>⟨(· =w.heap.size),fun q hq=>by subst hq;simp,rfl,Blk.new w _ _⟩
def sb (_:Nat)(kv:List (Int×Bool)):Option VZ:=aE ((∀k∈kv.map Prod.fst,in64 k)/\(kv.map Prod.fst).Nodup/\ci kv.length) (some (iN kv))
theorem CF {N:Nat}{r:List Int}(h:sb N a0=some r){B1 M2:Nat}:Okc Wc 125 [.func (.func 176) #[] #[.pointer (some ⟨B1,0,none⟩)]] [aB B1 184 [.map (some M2)],nc cj fv M2 a0] (fun u post=> ∃A0 n0 c0,u=Y A0 n0 c0/\post=[bh (jM .i64) 3 (Y A0 n0 c0) r]):=by
 refine ⟨⟨_,Tryz.func125,J,J⟩,?_⟩;intro Z w hw;obtain ⟨⟨hk,hd,hn⟩,h⟩:=ac h;obtain rfl:=jn h;obtain ⟨T,S,hs1,hbox⟩:=SepL.get hw (i:=0) (c:=aB B1 184 [.map (some M2)]) rfl;obtain ⟨T2,S2,hs2,hmp⟩:=SepL.get hw (i:=1) (c:=nc cj fv M2 a0) rfl;obtain ⟨D,hown,hperm,hsize⟩:=Ko hmp hk hd hn;have hcell:w.cell? ⟨B1,0,none⟩=some (.map (some M2)):=(RBlk.cells hbox 0).trans rfl
 have hseq:SeqGives Fence.wide 2 Wc 176 #[.pointer (some ⟨B1,0,none⟩)] encZ (fun ss=>ss.Perm (intKeys D)) (Maps.size D) w:=
  AnyZI.keys_gives (ρ:=Tryz.keysA_ren) {Tryz.keysA with} Fence.wide _ trivial rfl U B1 M2 _ D w (RBlk.lt hbox) hcell hown
 have cS:=AnyZI.sorted_in Tryz.sortedA Fence.wide 5 trivial trivial trivial trivial rfl U (JR _) (enters_of Tryz.func175 I rfl) 176 #[.pointer (some ⟨B1,0,none⟩)] trivial (enters_of Tryz.func176 I rfl) _ _ (by rw [hsize];unfold maxLen;omega) (by rw [hsize];omega) _ hseq;refine (callsIn_wide.1 cS).mono ?_;rintro e w' ⟨v,ss,rfl,hS,hrow,hnil,hb⟩;have hkeys:ss.mergeSort (fun x y=>decide (x<=y))=iN a0:=Mw (hS.trans hperm);rw [hkeys] at hrow
 have hlen:ss.length=(iN a0).length:=by rw [<-hkeys,List.length_mergeSort]
 rw [hlen] at hrow
 have hsh: ∃A c,v=.slice A (iN a0).length c:=by
  rcases hrow.2 with ⟨rfl,h0⟩|⟨g,cap,cur,rfl, -⟩
  ·exact ⟨none,0,by rw [h0]⟩
  exact ⟨_,cap,J⟩
 obtain ⟨A,c,rfl⟩:=hsh;refine ⟨_,_,J,?_,A,_,c,J,J⟩;have hz:SepL Z w:=SepL.dropL (A:=[aB B1 184 [.map (some M2)],nc cj fv M2 a0]) hw
 refine SepL.new hz (Agr.of_ext hb) fun _ S _=>⟨fun q=>(Value.slice A (iN a0).length c).ownBlock=some q,fun q hq=>World.ownsRow.lt hrow q hq,(iN a0).map (fun x=> [.int .i64 x]),?_,.inl ⟨?_,fun _ h=>h⟩⟩
 ·induction iN a0 with
  |nil=>exact .nil
  |cons x l ih=>exact .cons rfl ih
 have e:((iN a0).map (fun x=> [Value.int .i64 x])).flatten=(iN a0).map encZ:=by
  induction iN a0 with
  |nil=>rfl
  |cons x l ih=>simp only [W6,WI,ih];rfl
 rw [e];refine .of ⟨hrow.1,?_⟩;rcases hrow.2 with h1|⟨g,cap,cur,e1,hg,r⟩
 ·exact .inl h1
 exact .inr ⟨g,cap,cur,e1,XD _,r⟩
end
section
variable {A1 A2 A3 A4 A5:Option Addr}{B1 B3 B6 M1 M7 c1 c2 c3 c4 c5 n1 n2 n3 n4 n5:Nat}
open Go.RowKit Asn
set_option maxRecDepth 20000
structure VV where
 YN:Int
 YJ:Int
 YD:Int
 YM:Int
 Yd:Int
 YL:Int
 YO:Int
 deriving DecidableEq,Inhabited
def NW:Rep VV:=.flat 7 (fun x=> [iV x.YN,iV x.YJ,iV x.YD,iV x.YM,iV x.Yd,iV x.YL,iV x.YO]) (fun _=>rfl) (fun _=>rfl)
structure VQ where
 at_:V8
 deriving DecidableEq,Inhabited
structure VN where
 XZ:Int
 N:Int
 S:ByteArray
 deriving DecidableEq,Inhabited
abbrev VY:=List VN
def av:Rep VN:=.flat 3 (fun x=> [iV x.XZ,iV x.N,.string x.S]) (fun _=>rfl) (fun _=>rfl)
structure VJ where
 XZ:Int
 Yf:Int
 Ye:Int
 Yg:Int
 Yb:VY
 Ya:VY
 deriving DecidableEq,Inhabited
abbrev V7:=List VJ
def ei:Rep VJ where
 sz:=6
 rel S w vs x:= ∃A4 n4 c4 A5 n5 c5,vs=[iV x.XZ,iV x.Yf,iV x.Ye,iV x.Yg,Y A4 n4 c4,Y A5 n5 c5]/\SlR av S w (Y A4 n4 c4) x.Yb/\SlR av S w (Y A5 n5 c5) x.Ya
 loc:=fun h ⟨_,_,_,_,_,_,e,h4,h5⟩=>⟨_,_,_,_,_,_,e,h4.loc h,h5.loc h⟩
 mono:=fun h ⟨_,_,_,_,_,_,e,h4,h5⟩=>⟨_,_,_,_,_,_,e,h4.mono h,h5.mono h⟩
 len:=fun ⟨_,_,_,_,_,_,e,_⟩=>by rw [e];rfl
 one:=fun ⟨_,_,_,_,_,_,e,_⟩=>by rw [e];rfl
theorem kj (x:VJ):LQ ei x fun vs cs=> ∃A4 n4 c4 A5 n5 c5,vs=[iV x.XZ,iV x.Yf,iV x.Ye,iV x.Yg,Y A4 n4 c4,Y A5 n5 c5]/\cs=[iD av (Y A4 n4 c4) x.Yb,iD av (Y A5 n5 c5) x.Ya]:=fun S w vs ⟨_,_,_,_,_,_,e,h4,h5⟩=>⟨_,⟨_,_,_,_,_,_,e,rfl⟩,t9 h4 (t9 h5 (aR))⟩
structure VR where
 Yd:V7
 Yc:V7
 deriving DecidableEq,Inhabited
structure VU where
 m_:VR
 Ym:VY
 Yt:VY
 Ys:VQ
 deriving DecidableEq,Inhabited
structure VI where
 XZ:Int
 N:Int
 S:ByteArray
 deriving DecidableEq,Inhabited
abbrev V6:=List VI
def Bq:Rep VI:=.flat 3 (fun x=> [iV x.XZ,iV x.N,.string x.S]) (fun _=>rfl) (fun _=>rfl)
structure VW where
 Up:Int
 Yl:VI
 Yh:Int
 YA:Int
 deriving DecidableEq,Inhabited
def bl:Rep VW:=.flat 6 (fun x=> [iV x.Up,iV x.Yl.XZ,iV x.Yl.N,.string x.Yl.S,iV x.Yh,iV x.YA]) (fun _=>rfl) (fun _=>rfl)
structure VL where
 YQ:Int
 YP:VI
 YR:Int
 deriving DecidableEq,Inhabited
def RU:Rep VL:=.flat 5 (fun x=> [iV x.YQ,iV x.YP.XZ,iV x.YP.N,.string x.YP.S,iV x.YR]) (fun _=>rfl) (fun _=>rfl)
structure VH where
 Yk:(List VW)
 Yy:(List (VL×Int))
 deriving DecidableEq,Inhabited
structure VG where
 YG:Int
 YI:Int
 YK:Int
 deriving DecidableEq,Inhabited
def PU:Rep VG:=.flat 3 (fun x=> [iV x.YG,iV x.YI,iV x.YK]) (fun _=>rfl) (fun _=>rfl)
structure VK where
 XZ:Int
 Yl:VI
 S:ByteArray
 deriving DecidableEq,Inhabited
def nH:Rep VK:=.flat 5 (fun x=> [iV x.XZ,iV x.Yl.XZ,iV x.Yl.N,.string x.Yl.S,.string x.S]) (fun _=>rfl) (fun _=>rfl)
structure VS where
 Yu:VG
 Yn:VV
 YS:Unit
 Yi:VU
 Yk:VH
 Yv:(List ByteArray)
 Yo:Int
 YB:Int
 YC:Int
 Yw:(List VK)
 Yx:(List ByteArray)
 deriving DecidableEq,Inhabited
structure VF where
 Has:Int
 Yh:Int
 Value:VN
 Yp:VN
 Yr:VN
 deriving DecidableEq,Inhabited
def NV:Rep VF:=.flat 11 (fun x=> [iV x.Has,iV x.Yh,iV x.Value.XZ,iV x.Value.N,.string x.Value.S,iV x.Yp.XZ,iV x.Yp.N,.string x.Yp.S,iV x.Yr.XZ,iV x.Yr.N,.string x.Yr.S]) (fun _=>rfl) (fun _=>rfl)
structure VM where
 XZ:Int
 O:Int
 P:Int
 K:VI
 D:VF
 V:VN
 Yh:Int
 deriving DecidableEq,Inhabited
def EQ:Rep VM:=.flat 21 (fun x=> [iV x.XZ,iV x.O,iV x.P,iV x.K.XZ,iV x.K.N,.string x.K.S,iV x.D.Has,iV x.D.Yh,iV x.D.Value.XZ,iV x.D.Value.N,.string x.D.Value.S,iV x.D.Yp.XZ,iV x.D.Yp.N,.string x.D.Yp.S,iV x.D.Yr.XZ,iV x.D.Yr.N,.string x.D.Yr.S,iV x.V.XZ,iV x.V.N,.string x.V.S,iV x.Yh]) (fun _=>rfl) (fun _=>rfl)
structure VO where
 Yj:VJ
 w_:VS
 at_:VN
 deriving DecidableEq,Inhabited
structure VP where
 Yl:VI
 Yh:Int
 Value:VN
 Yp:VN
 Yr:VN
 deriving DecidableEq,Inhabited
def wv:Rep VP:=.flat 13 (fun x=> [iV x.Yl.XZ,iV x.Yl.N,.string x.Yl.S,iV x.Yh,iV x.Value.XZ,iV x.Value.N,.string x.Value.S,iV x.Yp.XZ,iV x.Yp.N,.string x.Yp.S,iV x.Yr.XZ,iV x.Yr.N,.string x.Yr.S]) (fun _=>rfl) (fun _=>rfl)
structure VT where
 m_:VR
 Yz:VZ
 Yq:(List (Int×Unit))
 YH:Int
 deriving DecidableEq,Inhabited
structure VX where
 m_:VR
 YF:VZ
 Yq:VZ
 YE:V8
 Yy:Int
 deriving DecidableEq,Inhabited
abbrev aC (A:Option Addr)(n c:Nat):=bh av 29 (.slice A n c)
abbrev aZ (A:Option Addr)(n c:Nat):=iD av (.slice A n c)
abbrev bB (A:Option Addr)(n c:Nat):=iD ei (.slice A n c)
abbrev cL (A:Option Addr)(n c:Nat):=bh ei 45 (.slice A n c)
abbrev fq (A:Option Addr)(n c:Nat):=bh (jM .i64) 3 (.slice A n c)
abbrev fH (A:Option Addr)(n c:Nat):=iD (jM .i64) (.slice A n c)
abbrev iB (A:Option Addr)(n c:Nat):=bh sX 9 (.slice A n c)
abbrev oN (A:Option Addr)(n c:Nat):=bh Bq 34 (.slice A n c)
abbrev sO (A:Option Addr)(n c:Nat):=bh nH 319 (.slice A n c)
abbrev Ur (A:Option Addr)(n c:Nat):=iD Bq (.slice A n c)
abbrev FC (x:VV):Value:=.agg #[iV x.YN,iV x.YJ,iV x.YD,iV x.YM,iV x.Yd,iV x.YL,iV x.YO]
abbrev qP (x:VF):Value:=.agg #[iV x.Has,iV x.Yh,iV x.Value.XZ,iV x.Value.N,.string x.Value.S,iV x.Yp.XZ,iV x.Yp.N,.string x.Yp.S,iV x.Yr.XZ,iV x.Yr.N,.string x.Yr.S]
abbrev nv (x:VI):Value:=.agg #[iV x.XZ,iV x.N,.string x.S]
abbrev UB (x:VM):Value:=.agg #[iV x.XZ,iV x.O,iV x.P,iV x.K.XZ,iV x.K.N,.string x.K.S,iV x.D.Has,iV x.D.Yh,iV x.D.Value.XZ,iV x.D.Value.N,.string x.D.Value.S,iV x.D.Yp.XZ,iV x.D.Yp.N,.string x.D.Yp.S,iV x.D.Yr.XZ,iV x.D.Yr.N,.string x.D.Yr.S,iV x.V.XZ,iV x.V.N,.string x.V.S,iV x.Yh]
abbrev pe (x:VP):Value:=.agg #[iV x.Yl.XZ,iV x.Yl.N,.string x.Yl.S,iV x.Yh,iV x.Value.XZ,iV x.Value.N,.string x.Value.S,iV x.Yp.XZ,iV x.Yp.N,.string x.Yp.S,iV x.Yr.XZ,iV x.Yr.N,.string x.Yr.S]
abbrev Qr (x:VW):Value:=.agg #[iV x.Up,iV x.Yl.XZ,iV x.Yl.N,.string x.Yl.S,iV x.Yh,iV x.YA]
abbrev OH (x:VL):Value:=.agg #[iV x.YQ,iV x.YP.XZ,iV x.YP.N,.string x.YP.S,iV x.YR]
abbrev aX (x:VN):Value:=.agg #[iV x.XZ,iV x.N,.string x.S]
abbrev ur (x:VF):Wb:=[iV x.Has,iV x.Yh,iV x.Value.XZ,iV x.Value.N,.string x.Value.S,iV x.Yp.XZ,iV x.Yp.N,.string x.Yp.S,iV x.Yr.XZ,iV x.Yr.N,.string x.Yr.S]
abbrev BT (x:VI):Wb:=[iV x.XZ,iV x.N,.string x.S]
abbrev Tg (x:VM):Wb:=[iV x.XZ,iV x.O,iV x.P,iV x.K.XZ,iV x.K.N,.string x.K.S,iV x.D.Has,iV x.D.Yh,iV x.D.Value.XZ,iV x.D.Value.N,.string x.D.Value.S,iV x.D.Yp.XZ,iV x.D.Yp.N,.string x.D.Yp.S,iV x.D.Yr.XZ,iV x.D.Yr.N,.string x.D.Yr.S,iV x.V.XZ,iV x.V.N,.string x.V.S,iV x.Yh]
abbrev km (x:VP):Wb:=[iV x.Yl.XZ,iV x.Yl.N,.string x.Yl.S,iV x.Yh,iV x.Value.XZ,iV x.Value.N,.string x.Value.S,iV x.Yp.XZ,iV x.Yp.N,.string x.Yp.S,iV x.Yr.XZ,iV x.Yr.N,.string x.Yr.S]
abbrev Eh (x:VW):Wb:=[iV x.Up,iV x.Yl.XZ,iV x.Yl.N,.string x.Yl.S,iV x.Yh,iV x.YA]
abbrev eE (x:VN):Wb:=[iV x.XZ,iV x.N,.string x.S]
abbrev tD (x:VS)(b d:Nat)(A:Option Addr)(n c:Nat)(A2:Option Addr)(n2 c2:Nat)(A3:Option Addr)(n3 c3:Nat):Wb:=[iV x.Yu.YG,iV x.Yu.YI,iV x.Yu.YK,iV x.Yn.YN,iV x.Yn.YJ,iV x.Yn.YD,iV x.Yn.YM,iV x.Yn.Yd,iV x.Yn.YL,iV x.Yn.YO,.nilIface,pV b 0,pV d 0,.slice A n c,iV x.Yo,iV x.YB,iV x.YC,Y A2 n2 c2,Y A3 n3 c3]
instance call162:FcK Wc 162:=⟨⟨Tryz.f162,Tryz.func162,rfl,rfl⟩⟩
instance call173:FcK Wc 173:=⟨⟨Tryz.f173,Tryz.func173,rfl,rfl⟩⟩
instance call191:FcK Wc 191:=⟨⟨Tryz.f191,Tryz.func191,rfl,rfl⟩⟩
instance call193:FcK Wc 193:=⟨⟨Tryz.f193,Tryz.func193,rfl,rfl⟩⟩
instance call197:FcK Wc 197:=⟨⟨Tryz.f197,Tryz.func197,rfl,rfl⟩⟩
instance call201:FcK Wc 201:=⟨⟨Tryz.f201,Tryz.func201,rfl,rfl⟩⟩
instance call218:FcK Wc 218:=⟨⟨Tryz.f218,Tryz.func218,rfl,rfl⟩⟩
instance call227:FcK Wc 227:=⟨⟨Tryz.f227,Tryz.func227,rfl,rfl⟩⟩
instance call228:FcK Wc 228:=⟨⟨Tryz.f228,Tryz.func228,rfl,rfl⟩⟩
instance call245:FcK Wc 245:=⟨⟨Tryz.f245,Tryz.func245,rfl,rfl⟩⟩
instance call252:FcK Wc 252:=⟨⟨Tryz.f252,Tryz.func252,rfl,rfl⟩⟩
theorem uZ (b o:Nat)(w:World):(Instr.fieldAt 29 (pV b o) 0).run Wc w=.ok (pV b o) w:=by kernel_rfl
theorem Ce (b o:Nat)(w:World):(Instr.fieldAt 29 (pV b o) 1).run Wc w=.ok (.pointer (some ⟨b,o+1,none⟩)) w:=by kernel_rfl
theorem Q0 (b o:Nat)(w:World):(Instr.fieldAt 29 (pV b o) 2).run Wc w=.ok (.pointer (some ⟨b,o+2,none⟩)) w:=by kernel_rfl
theorem QZ (b o:Nat)(w:World):(Instr.fieldAt 34 (pV b o) 0).run Wc w=.ok (pV b o) w:=by kernel_rfl
theorem LD (b o:Nat)(w:World):(Instr.fieldAt 34 (pV b o) 1).run Wc w=.ok (.pointer (some ⟨b,o+1,none⟩)) w:=by kernel_rfl
theorem H8 (b o:Nat)(w:World):(Instr.fieldAt 34 (pV b o) 2).run Wc w=.ok (.pointer (some ⟨b,o+2,none⟩)) w:=by kernel_rfl
theorem QY (b o:Nat)(w:World):(Instr.fieldAt 36 (pV b o) 0).run Wc w=.ok (pV b o) w:=by kernel_rfl
theorem QX (b o:Nat)(w:World):(Instr.fieldAt 36 (pV b o) 1).run Wc w=.ok (.pointer (some ⟨b,o+1,none⟩)) w:=by kernel_rfl
theorem QW (b o:Nat)(w:World):(Instr.fieldAt 36 (pV b o) 2).run Wc w=.ok (.pointer (some ⟨b,o+2,none⟩)) w:=by kernel_rfl
theorem QV (b o:Nat)(w:World):(Instr.fieldAt 36 (pV b o) 3).run Wc w=.ok (.pointer (some ⟨b,o+5,none⟩)) w:=by kernel_rfl
theorem LC (b o:Nat)(w:World):(Instr.fieldAt 36 (pV b o) 4).run Wc w=.ok (.pointer (some ⟨b,o+8,none⟩)) w:=by kernel_rfl
theorem QU (b o:Nat)(w:World):(Instr.fieldAt 38 (pV b o) 0).run Wc w=.ok (pV b o) w:=by kernel_rfl
theorem QT (b o:Nat)(w:World):(Instr.fieldAt 38 (pV b o) 1).run Wc w=.ok (.pointer (some ⟨b,o+1,none⟩)) w:=by kernel_rfl
theorem QR (b o:Nat)(w:World):(Instr.fieldAt 38 (pV b o) 2).run Wc w=.ok (.pointer (some ⟨b,o+2,none⟩)) w:=by kernel_rfl
theorem QQ (b o:Nat)(w:World):(Instr.fieldAt 38 (pV b o) 3).run Wc w=.ok (.pointer (some ⟨b,o+3,none⟩)) w:=by kernel_rfl
theorem QP (b o:Nat)(w:World):(Instr.fieldAt 38 (pV b o) 4).run Wc w=.ok (.pointer (some ⟨b,o+6,none⟩)) w:=by kernel_rfl
theorem QO (b o:Nat)(w:World):(Instr.fieldAt 38 (pV b o) 5).run Wc w=.ok (.pointer (some ⟨b,o+17,none⟩)) w:=by kernel_rfl
theorem QN (b o:Nat)(w:World):(Instr.fieldAt 38 (pV b o) 6).run Wc w=.ok (.pointer (some ⟨b,o+20,none⟩)) w:=by kernel_rfl
theorem QM (b o:Nat)(w:World):(Instr.fieldAt 45 (pV b o) 0).run Wc w=.ok (pV b o) w:=by kernel_rfl
theorem QK (b o:Nat)(w:World):(Instr.fieldAt 45 (pV b o) 1).run Wc w=.ok (.pointer (some ⟨b,o+1,none⟩)) w:=by kernel_rfl
theorem LB (b o:Nat)(w:World):(Instr.fieldAt 45 (pV b o) 2).run Wc w=.ok (.pointer (some ⟨b,o+2,none⟩)) w:=by kernel_rfl
theorem tf (b o:Nat)(w:World):(Instr.fieldAt 45 (pV b o) 3).run Wc w=.ok (.pointer (some ⟨b,o+3,none⟩)) w:=by kernel_rfl
theorem H7 (b o:Nat)(w:World):(Instr.fieldAt 45 (pV b o) 4).run Wc w=.ok (.pointer (some ⟨b,o+4,none⟩)) w:=by kernel_rfl
theorem zr (b o:Nat)(w:World):(Instr.fieldAt 45 (pV b o) 5).run Wc w=.ok (.pointer (some ⟨b,o+5,none⟩)) w:=by kernel_rfl
theorem LA (b o:Nat)(w:World):(Instr.fieldAt 48 (pV b o) 0).run Wc w=.ok (pV b o) w:=by kernel_rfl
theorem QJ (b o:Nat)(w:World):(Instr.fieldAt 48 (pV b o) 1).run Wc w=.ok (.pointer (some ⟨b,o+3,none⟩)) w:=by kernel_rfl
theorem Lz (b o:Nat)(w:World):(Instr.fieldAt 48 (pV b o) 2).run Wc w=.ok (.pointer (some ⟨b,o+4,none⟩)) w:=by kernel_rfl
theorem QI (b o:Nat)(w:World):(Instr.fieldAt 48 (pV b o) 3).run Wc w=.ok (.pointer (some ⟨b,o+7,none⟩)) w:=by kernel_rfl
theorem QH (b o:Nat)(w:World):(Instr.fieldAt 48 (pV b o) 4).run Wc w=.ok (.pointer (some ⟨b,o+10,none⟩)) w:=by kernel_rfl
theorem QG (b o:Nat)(w:World):(Instr.fieldAt 67 (pV b o) 0).run Wc w=.ok (pV b o) w:=by kernel_rfl
theorem QF (b o:Nat)(w:World):(Instr.fieldAt 67 (pV b o) 1).run Wc w=.ok (.pointer (some ⟨b,o+1,none⟩)) w:=by kernel_rfl
theorem QE (b o:Nat)(w:World):(Instr.fieldAt 67 (pV b o) 2).run Wc w=.ok (.pointer (some ⟨b,o+2,none⟩)) w:=by kernel_rfl
theorem QD (b o:Nat)(w:World):(Instr.fieldAt 67 (pV b o) 3).run Wc w=.ok (.pointer (some ⟨b,o+3,none⟩)) w:=by kernel_rfl
theorem QC (b o:Nat)(w:World):(Instr.fieldAt 67 (pV b o) 4).run Wc w=.ok (.pointer (some ⟨b,o+4,none⟩)) w:=by kernel_rfl
theorem QB (b o:Nat)(w:World):(Instr.fieldAt 67 (pV b o) 5).run Wc w=.ok (.pointer (some ⟨b,o+5,none⟩)) w:=by kernel_rfl
theorem QA (b o:Nat)(w:World):(Instr.fieldAt 67 (pV b o) 6).run Wc w=.ok (.pointer (some ⟨b,o+6,none⟩)) w:=by kernel_rfl
theorem Qz (b o:Nat)(w:World):(Instr.fieldAt 78 (pV b o) 0).run Wc w=.ok (pV b o) w:=by kernel_rfl
theorem Qy (b o:Nat)(w:World):(Instr.fieldAt 78 (pV b o) 1).run Wc w=.ok (.pointer (some ⟨b,o+1,none⟩)) w:=by kernel_rfl
theorem Qx (b o:Nat)(w:World):(Instr.fieldAt 85 (pV b o) 0).run Wc w=.ok (pV b o) w:=by kernel_rfl
theorem Qw (b o:Nat)(w:World):(Instr.fieldAt 85 (pV b o) 1).run Wc w=.ok (.pointer (some ⟨b,o+3,none⟩)) w:=by kernel_rfl
theorem H6 (b o:Nat)(w:World):(Instr.fieldAt 85 (pV b o) 3).run Wc w=.ok (.pointer (some ⟨b,o+11,none⟩)) w:=by kernel_rfl
theorem Qv (b o:Nat)(w:World):(Instr.fieldAt 85 (pV b o) 4).run Wc w=.ok (.pointer (some ⟨b,o+12,none⟩)) w:=by kernel_rfl
theorem Qu (b o:Nat)(w:World):(Instr.fieldAt 85 (pV b o) 6).run Wc w=.ok (.pointer (some ⟨b,o+14,none⟩)) w:=by kernel_rfl
theorem Jt (b o:Nat)(w:World):(Instr.fieldAt 103 (pV b o) 0).run Wc w=.ok (pV b o) w:=by kernel_rfl
theorem Js (b o:Nat)(w:World):(Instr.fieldAt 103 (pV b o) 1).run Wc w=.ok (.pointer (some ⟨b,o+6,none⟩)) w:=by kernel_rfl
theorem OU (b o:Nat)(w:World):(Instr.fieldAt 103 (pV b o) 2).run Wc w=.ok (.pointer (some ⟨b,o+7,none⟩)) w:=by kernel_rfl
theorem FP (b o:Nat)(w:World):(Instr.fieldAt 125 (pV b o) 0).run Wc w=.ok (pV b o) w:=by kernel_rfl
theorem FO (b o:Nat)(w:World):(Instr.fieldAt 125 (pV b o) 1).run Wc w=.ok (.pointer (some ⟨b,o+1,none⟩)) w:=by kernel_rfl
theorem FN (b o:Nat)(w:World):(Instr.fieldAt 128 (pV b o) 0).run Wc w=.ok (pV b o) w:=by kernel_rfl
theorem FM (b o:Nat)(w:World):(Instr.fieldAt 128 (pV b o) 1).run Wc w=.ok (.pointer (some ⟨b,o+2,none⟩)) w:=by kernel_rfl
theorem OT (b o:Nat)(w:World):(Instr.fieldAt 128 (pV b o) 2).run Wc w=.ok (.pointer (some ⟨b,o+3,none⟩)) w:=by kernel_rfl
theorem OS (b o:Nat)(w:World):(Instr.fieldAt 128 (pV b o) 3).run Wc w=.ok (.pointer (some ⟨b,o+4,none⟩)) w:=by kernel_rfl
theorem FL (b o:Nat)(w:World):(Instr.fieldAt 159 (pV b o) 0).run Wc w=.ok (pV b o) w:=by kernel_rfl
theorem FK (b o:Nat)(w:World):(Instr.fieldAt 159 (pV b o) 1).run Wc w=.ok (.pointer (some ⟨b,o+1,none⟩)) w:=by kernel_rfl
theorem Ch (b o:Nat)(w:World):(Instr.fieldAt 159 (pV b o) 2).run Wc w=.ok (.pointer (some ⟨b,o+4,none⟩)) w:=by kernel_rfl
theorem FJ (b o:Nat)(w:World):(Instr.fieldAt 159 (pV b o) 3).run Wc w=.ok (.pointer (some ⟨b,o+5,none⟩)) w:=by kernel_rfl
theorem OR (b o:Nat)(w:World):(Instr.fieldAt 186 (pV b o) 0).run Wc w=.ok (pV b o) w:=by kernel_rfl
theorem Cg (b o:Nat)(w:World):(Instr.fieldAt 191 (pV b o) 0).run Wc w=.ok (pV b o) w:=by kernel_rfl
theorem OQ (b o:Nat)(w:World):(Instr.fieldAt 191 (pV b o) 1).run Wc w=.ok (.pointer (some ⟨b,o+1,none⟩)) w:=by kernel_rfl
theorem OP (b o:Nat)(w:World):(Instr.fieldAt 223 (pV b o) 0).run Wc w=.ok (pV b o) w:=by kernel_rfl
theorem Jr (b o:Nat)(w:World):(Instr.fieldAt 223 (pV b o) 1).run Wc w=.ok (.pointer (some ⟨b,o+2,none⟩)) w:=by kernel_rfl
theorem Cf (b o:Nat)(w:World):(Instr.fieldAt 223 (pV b o) 2).run Wc w=.ok (.pointer (some ⟨b,o+3,none⟩)) w:=by kernel_rfl
theorem OO (b o:Nat)(w:World):(Instr.fieldAt 223 (pV b o) 3).run Wc w=.ok (.pointer (some ⟨b,o+4,none⟩)) w:=by kernel_rfl
theorem Jq (b o:Nat)(w:World):(Instr.fieldAt 223 (pV b o) 4).run Wc w=.ok (.pointer (some ⟨b,o+5,none⟩)) w:=by kernel_rfl
theorem Jp (b o:Nat)(w:World):(Instr.fieldAt 269 (pV b o) 0).run Wc w=.ok (pV b o) w:=by kernel_rfl
theorem FI (b o:Nat)(w:World):(Instr.fieldAt 269 (pV b o) 1).run Wc w=.ok (.pointer (some ⟨b,o+2,none⟩)) w:=by kernel_rfl
theorem ON (b o:Nat)(w:World):(Instr.fieldAt 269 (pV b o) 2).run Wc w=.ok (.pointer (some ⟨b,o+3,none⟩)) w:=by kernel_rfl
theorem Jo (b o:Nat)(w:World):(Instr.fieldAt 269 (pV b o) 3).run Wc w=.ok (.pointer (some ⟨b,o+4,none⟩)) w:=by kernel_rfl
theorem ya:i9 Wc 3=true:=by kernel_rfl
theorem Um:i9 Wc 4=true:=by kernel_rfl
theorem Ul:i9 Wc 9=true:=by kernel_rfl
theorem GN:i9 Wc 23=true:=by kernel_rfl
theorem vU:i9 Wc 43=true:=by kernel_rfl
theorem BE:i9 Wc 60=true:=by kernel_rfl
theorem SW:i9 Wc 81=true:=by kernel_rfl
theorem E8:i9 Wc 99=true:=by kernel_rfl
theorem R5:i9 Wc 106=true:=by kernel_rfl
theorem HK:i9 Wc 123=true:=by kernel_rfl
theorem R4:i9 Wc 126=true:=by kernel_rfl
theorem Ku:i9 Wc 156=true:=by kernel_rfl
theorem R3:i9 Wc 184=true:=by kernel_rfl
theorem R2:i9 Wc 189=true:=by kernel_rfl
theorem Kt:i9 Wc 207=true:=by kernel_rfl
theorem R1:i9 Wc 265=true:=by kernel_rfl
theorem R0:i9 Wc 267=true:=by kernel_rfl
instance agg29:FcG Wc 29 3:=⟨by kernel_rfl⟩
instance agg34:FcG Wc 34 3:=⟨by kernel_rfl⟩
instance agg36:FcG Wc 36 11:=⟨by kernel_rfl⟩
instance agg38:FcG Wc 38 21:=⟨by kernel_rfl⟩
instance agg45:FcG Wc 45 6:=⟨by kernel_rfl⟩
instance agg48:FcG Wc 48 13:=⟨by kernel_rfl⟩
instance agg67:FcG Wc 67 7:=⟨by kernel_rfl⟩
instance agg125:FcG Wc 125 2:=⟨by kernel_rfl⟩
instance agg159:FcG Wc 159 6:=⟨by kernel_rfl⟩
instance size3:FcZ Wc 3 1:=⟨by kernel_rfl⟩
instance size4:FcZ Wc 4 1:=⟨by kernel_rfl⟩
instance size29:FcZ Wc 29 3:=⟨by kernel_rfl⟩
instance size34:FcZ Wc 34 3:=⟨by kernel_rfl⟩
instance size36:FcZ Wc 36 11:=⟨by kernel_rfl⟩
instance size38:FcZ Wc 38 21:=⟨by kernel_rfl⟩
instance size43:FcZ Wc 43 1:=⟨by kernel_rfl⟩
instance size45:FcZ Wc 45 6:=⟨by kernel_rfl⟩
instance size48:FcZ Wc 48 13:=⟨by kernel_rfl⟩
instance size99:FcZ Wc 99 1:=⟨by kernel_rfl⟩
instance size123:FcZ Wc 123 1:=⟨by kernel_rfl⟩
instance size125:FcZ Wc 125 2:=⟨by kernel_rfl⟩
instance size156:FcZ Wc 156 1:=⟨by kernel_rfl⟩
instance size159:FcZ Wc 159 6:=⟨by kernel_rfl⟩
instance size184:FcZ Wc 184 1:=⟨by kernel_rfl⟩
instance size207:FcZ Wc 207 1:=⟨by kernel_rfl⟩
instance size265:FcZ Wc 265 1:=⟨by kernel_rfl⟩
instance size296:FcZ Wc 296 0:=⟨by kernel_rfl⟩
instance zero3:FcI Wc 3 (iV 0):=⟨fun w=>by kernel_rfl⟩
instance zero4:FcI Wc 4 (.bool false):=⟨fun w=>by kernel_rfl⟩
instance zero29:FcI Wc 29 (.agg #[iV 0,iV 0,.string ⟨#[]⟩]):=⟨fun w=>by kernel_rfl⟩
instance zero34:FcI Wc 34 (.agg #[iV 0,iV 0,.string ⟨#[]⟩]):=⟨fun w=>by kernel_rfl⟩
instance zero36:FcI Wc 36 (.agg #[iV 0,iV 0,iV 0,iV 0,.string ⟨#[]⟩,iV 0,iV 0,.string ⟨#[]⟩,iV 0,iV 0,.string ⟨#[]⟩]):=⟨fun w=>by kernel_rfl⟩
instance zero38:FcI Wc 38 (.agg #[iV 0,iV 0,iV 0,iV 0,iV 0,.string ⟨#[]⟩,iV 0,iV 0,iV 0,iV 0,.string ⟨#[]⟩,iV 0,iV 0,.string ⟨#[]⟩,iV 0,iV 0,.string ⟨#[]⟩,iV 0,iV 0,.string ⟨#[]⟩,iV 0]):=⟨fun w=>by kernel_rfl⟩
instance zero43:FcI Wc 43 (Y none 0 0):=⟨fun w=>by kernel_rfl⟩
instance zero45:FcI Wc 45 (.agg #[iV 0,iV 0,iV 0,iV 0,Y none 0 0,Y none 0 0]):=⟨fun w=>by kernel_rfl⟩
instance zero48:FcI Wc 48 (.agg #[iV 0,iV 0,.string ⟨#[]⟩,iV 0,iV 0,iV 0,.string ⟨#[]⟩,iV 0,iV 0,.string ⟨#[]⟩,iV 0,iV 0,.string ⟨#[]⟩]):=⟨fun w=>by kernel_rfl⟩
instance zero99:FcI Wc 99 (Y none 0 0):=⟨fun w=>by kernel_rfl⟩
instance zero125:FcI Wc 125 (.agg #[Y none 0 0,Y none 0 0]):=⟨fun w=>by kernel_rfl⟩
instance zero159:FcI Wc 159 (.agg #[iV 0,iV 0,iV 0,.string ⟨#[]⟩,iV 0,iV 0]):=⟨fun w=>by kernel_rfl⟩
instance zero184:FcI Wc 184 (.map none):=⟨fun w=>by kernel_rfl⟩
instance zero207:FcI Wc 207 (.map none):=⟨fun w=>by kernel_rfl⟩
instance zero265:FcI Wc 265 (.pointer none):=⟨fun w=>by kernel_rfl⟩
instance zero296:FcI Wc 296 (.agg #[]):=⟨fun w=>by kernel_rfl⟩
theorem OK (x0_ x1_ x2_ x3_:Int)(x4_a:Option Addr)(x4_n x4_c:Nat)(x5_a:Option Addr)(x5_n x5_c:Nat)(w:World):(Instr.field 45 (.agg #[iV x0_,iV x1_,iV x2_,iV x3_,.slice x4_a x4_n x4_c,.slice x5_a x5_n x5_c]) 0).run Wc w=.ok (iV x0_) w:=by kernel_rfl
theorem Jj (x0_ x1_ x2_ x3_:Int)(x4_a:Option Addr)(x4_n x4_c:Nat)(x5_a:Option Addr)(x5_n x5_c:Nat)(w:World):(Instr.field 45 (.agg #[iV x0_,iV x1_,iV x2_,iV x3_,.slice x4_a x4_n x4_c,.slice x5_a x5_n x5_c]) 1).run Wc w=.ok (iV x1_) w:=by kernel_rfl
theorem OJ (x0_ x1_ x2_ x3_:Int)(x4_a:Option Addr)(x4_n x4_c:Nat)(x5_a:Option Addr)(x5_n x5_c:Nat)(w:World):(Instr.field 45 (.agg #[iV x0_,iV x1_,iV x2_,iV x3_,.slice x4_a x4_n x4_c,.slice x5_a x5_n x5_c]) 3).run Wc w=.ok (iV x3_) w:=by kernel_rfl
theorem FD (x0_ x1_ x2_ x3_:Int)(x4_a:Option Addr)(x4_n x4_c:Nat)(x5_a:Option Addr)(x5_n x5_c:Nat)(w:World):(Instr.field 45 (.agg #[iV x0_,iV x1_,iV x2_,iV x3_,.slice x4_a x4_n x4_c,.slice x5_a x5_n x5_c]) 5).run Wc w=.ok (.slice x5_a x5_n x5_c) w:=by kernel_rfl
instance bld_29_:FcB Wc 29 [] (.agg #[iV 0,iV 0,.string ⟨#[]⟩]):=⟨fun w=>by kernel_rfl⟩
instance bld_29_0 (x0_:Int):FcB Wc 29 [(0,iV x0_)] (.agg #[iV x0_,iV 0,.string ⟨#[]⟩]):=⟨fun w=>by kernel_rfl⟩
instance bld_29_0_1 (x0_ x1_:Int):FcB Wc 29 [(0,iV x0_),(1,iV x1_)] (.agg #[iV x0_,iV x1_,.string ⟨#[]⟩]):=⟨fun w=>by kernel_rfl⟩
instance bld_34_0_2 (x0_:Int)(x2_:ByteArray):FcB Wc 34 [(0,iV x0_),(2,.string x2_)] (.agg #[iV x0_,iV 0,.string x2_]):=⟨fun w=>by kernel_rfl⟩
instance bld_34_1 (x1_:Int):FcB Wc 34 [(1,iV x1_)] (.agg #[iV 0,iV x1_,.string ⟨#[]⟩]):=⟨fun w=>by kernel_rfl⟩
instance bld_36_0_1_2 (x0_ x1_ x2_0_ x2_1_:Int)(x2_2_:ByteArray):FcB Wc 36 [(0,iV x0_),(1,iV x1_),(2,.agg #[iV x2_0_,iV x2_1_,.string x2_2_])] (.agg #[iV x0_,iV x1_,iV x2_0_,iV x2_1_,.string x2_2_,iV 0,iV 0,.string ⟨#[]⟩,iV 0,iV 0,.string ⟨#[]⟩]):=⟨fun w=>by kernel_rfl⟩
instance bld_45_:FcB Wc 45 [] (.agg #[iV 0,iV 0,iV 0,iV 0,Y none 0 0,Y none 0 0]):=⟨fun w=>by kernel_rfl⟩
instance bld_45_0 (x0_:Int):FcB Wc 45 [(0,iV x0_)] (.agg #[iV x0_,iV 0,iV 0,iV 0,Y none 0 0,Y none 0 0]):=⟨fun w=>by kernel_rfl⟩
instance bld_45_0_2_4 (x0_ x2_:Int)(x4_a:Option Addr)(x4_n x4_c:Nat):FcB Wc 45 [(0,iV x0_),(2,iV x2_),(4,.slice x4_a x4_n x4_c)] (.agg #[iV x0_,iV 0,iV x2_,iV 0,.slice x4_a x4_n x4_c,Y none 0 0]):=⟨fun w=>by kernel_rfl⟩
instance bld_45_0_2_4_5 (x0_ x2_:Int)(x4_a:Option Addr)(x4_n x4_c:Nat)(x5_a:Option Addr)(x5_n x5_c:Nat):FcB Wc 45 [(0,iV x0_),(2,iV x2_),(4,.slice x4_a x4_n x4_c),(5,.slice x5_a x5_n x5_c)] (.agg #[iV x0_,iV 0,iV x2_,iV 0,.slice x4_a x4_n x4_c,.slice x5_a x5_n x5_c]):=⟨fun w=>by kernel_rfl⟩
instance bld_45_0_4 (x0_:Int)(x4_a:Option Addr)(x4_n x4_c:Nat):FcB Wc 45 [(0,iV x0_),(4,.slice x4_a x4_n x4_c)] (.agg #[iV x0_,iV 0,iV 0,iV 0,.slice x4_a x4_n x4_c,Y none 0 0]):=⟨fun w=>by kernel_rfl⟩
instance bld_45_5 (x5_a:Option Addr)(x5_n x5_c:Nat):FcB Wc 45 [(5,.slice x5_a x5_n x5_c)] (.agg #[iV 0,iV 0,iV 0,iV 0,Y none 0 0,.slice x5_a x5_n x5_c]):=⟨fun w=>by kernel_rfl⟩
instance bld_48_:FcB Wc 48 [] (.agg #[iV 0,iV 0,.string ⟨#[]⟩,iV 0,iV 0,iV 0,.string ⟨#[]⟩,iV 0,iV 0,.string ⟨#[]⟩,iV 0,iV 0,.string ⟨#[]⟩]):=⟨fun w=>by kernel_rfl⟩
instance bld_48_0 (x0_0_ x0_1_:Int)(x0_2_:ByteArray):FcB Wc 48 [(0,.agg #[iV x0_0_,iV x0_1_,.string x0_2_])] (.agg #[iV x0_0_,iV x0_1_,.string x0_2_,iV 0,iV 0,iV 0,.string ⟨#[]⟩,iV 0,iV 0,.string ⟨#[]⟩,iV 0,iV 0,.string ⟨#[]⟩]):=⟨fun w=>by kernel_rfl⟩
instance bld_48_0_1 (x0_0_ x0_1_:Int)(x0_2_:ByteArray)(x1_:Int):FcB Wc 48 [(0,.agg #[iV x0_0_,iV x0_1_,.string x0_2_]),(1,iV x1_)] (.agg #[iV x0_0_,iV x0_1_,.string x0_2_,iV x1_,iV 0,iV 0,.string ⟨#[]⟩,iV 0,iV 0,.string ⟨#[]⟩,iV 0,iV 0,.string ⟨#[]⟩]):=⟨fun w=>by kernel_rfl⟩
instance bld_48_0_1_2 (x0_0_ x0_1_:Int)(x0_2_:ByteArray)(x1_ x2_0_ x2_1_:Int)(x2_2_:ByteArray):FcB Wc 48 [(0,.agg #[iV x0_0_,iV x0_1_,.string x0_2_]),(1,iV x1_),(2,.agg #[iV x2_0_,iV x2_1_,.string x2_2_])] (.agg #[iV x0_0_,iV x0_1_,.string x0_2_,iV x1_,iV x2_0_,iV x2_1_,.string x2_2_,iV 0,iV 0,.string ⟨#[]⟩,iV 0,iV 0,.string ⟨#[]⟩]):=⟨fun w=>by kernel_rfl⟩
instance bld_67_1_2_3_4_5_6 (x1_ x2_ x3_ x4_ x5_ x6_:Int):FcB Wc 67 [(1,iV x1_),(2,iV x2_),(3,iV x3_),(4,iV x4_),(5,iV x5_),(6,iV x6_)] (.agg #[iV 0,iV x1_,iV x2_,iV x3_,iV x4_,iV x5_,iV x6_]):=⟨fun w=>by kernel_rfl⟩
instance bld_85_1_3_4 (x1_0_ x1_1_ x1_2_ x1_3_ x1_4_ x1_5_ x1_6_:Int)(x3_ x4_:Option Addr):FcB Wc 85 [(1,.agg #[iV x1_0_,iV x1_1_,iV x1_2_,iV x1_3_,iV x1_4_,iV x1_5_,iV x1_6_]),(3,.pointer x3_),(4,.pointer x4_)] (.agg #[iV 0,iV 0,iV 0,iV x1_0_,iV x1_1_,iV x1_2_,iV x1_3_,iV x1_4_,iV x1_5_,iV x1_6_,.nilIface,.pointer x3_,.pointer x4_,Y none 0 0,iV 0,iV 0,iV 0,Y none 0 0,Y none 0 0]):=⟨fun w=>by kernel_rfl⟩
instance bld_103_0_1_2 (x0_0_ x0_1_ x0_2_ x0_3_:Int)(x0_4_a:Option Addr)(x0_4_n x0_4_c:Nat)(x0_5_a:Option Addr)(x0_5_n x0_5_c:Nat)(x1_:Option Addr)(x2_0_ x2_1_:Int)(x2_2_:ByteArray):FcB Wc 103 [(0,.agg #[iV x0_0_,iV x0_1_,iV x0_2_,iV x0_3_,.slice x0_4_a x0_4_n x0_4_c,.slice x0_5_a x0_5_n x0_5_c]),(1,.pointer x1_),(2,.agg #[iV x2_0_,iV x2_1_,.string x2_2_])] (.agg #[iV x0_0_,iV x0_1_,iV x0_2_,iV x0_3_,.slice x0_4_a x0_4_n x0_4_c,.slice x0_5_a x0_5_n x0_5_c,.pointer x1_,iV x2_0_,iV x2_1_,.string x2_2_]):=⟨fun w=>by kernel_rfl⟩
instance bld_125_:FcB Wc 125 [] (.agg #[Y none 0 0,Y none 0 0]):=⟨fun w=>by kernel_rfl⟩
instance bld_128_3 (x3_:Option Addr):FcB Wc 128 [(3,.pointer x3_)] (.agg #[Y none 0 0,Y none 0 0,Y none 0 0,Y none 0 0,.pointer x3_]):=⟨fun w=>by kernel_rfl⟩
instance bld_159_:FcB Wc 159 [] (.agg #[iV 0,iV 0,iV 0,.string ⟨#[]⟩,iV 0,iV 0]):=⟨fun w=>by kernel_rfl⟩
instance bld_159_0 (x0_:Int):FcB Wc 159 [(0,iV x0_)] (.agg #[iV x0_,iV 0,iV 0,.string ⟨#[]⟩,iV 0,iV 0]):=⟨fun w=>by kernel_rfl⟩
instance bld_159_0_1_2_3 (x0_ x1_0_ x1_1_:Int)(x1_2_:ByteArray)(x2_ x3_:Int):FcB Wc 159 [(0,iV x0_),(1,.agg #[iV x1_0_,iV x1_1_,.string x1_2_]),(2,iV x2_),(3,iV x3_)] (.agg #[iV x0_,iV x1_0_,iV x1_1_,.string x1_2_,iV x2_,iV x3_]):=⟨fun w=>by kernel_rfl⟩
instance bld_159_1_2 (x1_0_ x1_1_:Int)(x1_2_:ByteArray)(x2_:Int):FcB Wc 159 [(1,.agg #[iV x1_0_,iV x1_1_,.string x1_2_]),(2,iV x2_)] (.agg #[iV 0,iV x1_0_,iV x1_1_,.string x1_2_,iV x2_,iV 0]):=⟨fun w=>by kernel_rfl⟩
instance bld_186_0 (x0_:Option Nat):FcB Wc 186 [(0,.map x0_)] (.agg #[.map x0_]):=⟨fun w=>by kernel_rfl⟩
instance bld_191_0_1 (x0_a:Option Addr)(x0_n x0_c:Nat)(x1_:Option Nat):FcB Wc 191 [(0,.slice x0_a x0_n x0_c),(1,.map x1_)] (.agg #[.slice x0_a x0_n x0_c,.map x1_]):=⟨fun w=>by kernel_rfl⟩
instance bld_223_0_1_3 (x0_0_a:Option Addr)(x0_0_n x0_0_c:Nat)(x0_1_a:Option Addr)(x0_1_n x0_1_c:Nat)(x1_a:Option Addr)(x1_n x1_c:Nat)(x3_:Option Nat):FcB Wc 223 [(0,.agg #[.slice x0_0_a x0_0_n x0_0_c,.slice x0_1_a x0_1_n x0_1_c]),(1,.slice x1_a x1_n x1_c),(3,.map x3_)] (.agg #[.slice x0_0_a x0_0_n x0_0_c,.slice x0_1_a x0_1_n x0_1_c,.slice x1_a x1_n x1_c,Y none 0 0,.map x3_,iV 0]):=⟨fun w=>by kernel_rfl⟩
instance bld_245_0_1_2 (x0_ x1_0_ x1_1_:Int)(x1_2_:ByteArray)(x2_:Int):FcB Wc 245 [(0,iV x0_),(1,.agg #[iV x1_0_,iV x1_1_,.string x1_2_]),(2,iV x2_)] (.agg #[iV x0_,iV x1_0_,iV x1_1_,.string x1_2_,iV x2_]):=⟨fun w=>by kernel_rfl⟩
instance bld_269_0_2 (x0_0_a:Option Addr)(x0_0_n x0_0_c:Nat)(x0_1_a:Option Addr)(x0_1_n x0_1_c:Nat)(x2_:Option Nat):FcB Wc 269 [(0,.agg #[.slice x0_0_a x0_0_n x0_0_c,.slice x0_1_a x0_1_n x0_1_c]),(2,.map x2_)] (.agg #[.slice x0_0_a x0_0_n x0_0_c,.slice x0_1_a x0_1_n x0_1_c,Y none 0 0,.map x2_,iV 0]):=⟨fun w=>by kernel_rfl⟩
instance bld_296_:FcB Wc 296 [] (.agg #[]):=⟨fun w=>by kernel_rfl⟩
theorem Pi (x0_0_0_ x0_0_1_:Int)(x0_0_2_:ByteArray)(x0_1_ x0_2_0_ x0_2_1_:Int)(x0_2_2_:ByteArray)(x0_3_0_ x0_3_1_:Int)(x0_3_2_:ByteArray)(x0_4_0_ x0_4_1_:Int)(x0_4_2_:ByteArray)(w:World):(Instr.buildSlice 40 1 #[(0,.agg #[iV x0_0_0_,iV x0_0_1_,.string x0_0_2_,iV x0_1_,iV x0_2_0_,iV x0_2_1_,.string x0_2_2_,iV x0_3_0_,iV x0_3_1_,.string x0_3_2_,iV x0_4_0_,iV x0_4_1_,.string x0_4_2_])]).run Wc w=.ok (.slice (some ⟨w.heap.size,0,none⟩) 1 1) (w.alloc (.cells #[iV x0_0_0_,iV x0_0_1_,.string x0_0_2_,iV x0_1_,iV x0_2_0_,iV x0_2_1_,.string x0_2_2_,iV x0_3_0_,iV x0_3_1_,.string x0_3_2_,iV x0_4_0_,iV x0_4_1_,.string x0_4_2_] 48)):=by kernel_rfl
theorem Ph (w:World):(Instr.buildSlice 43 0 #[]).run Wc w=.ok (.slice (some ⟨w.heap.size,0,none⟩) 0 0) (w.alloc (.cells #[] 29)):=by kernel_rfl
theorem rX (x0_0_ x0_1_:Int)(x0_2_:ByteArray)(w:World):(Instr.buildSlice 43 1 #[(0,.agg #[iV x0_0_,iV x0_1_,.string x0_2_])]).run Wc w=.ok (.slice (some ⟨w.heap.size,0,none⟩) 1 1) (w.alloc (.cells #[iV x0_0_,iV x0_1_,.string x0_2_] 29)):=by kernel_rfl
theorem FZ (x0_0_ x0_1_:Int)(x0_2_:ByteArray)(x1_0_ x1_1_:Int)(x1_2_:ByteArray)(w:World):(Instr.buildSlice 43 2 #[(0,.agg #[iV x0_0_,iV x0_1_,.string x0_2_]),(1,.agg #[iV x1_0_,iV x1_1_,.string x1_2_])]).run Wc w=.ok (.slice (some ⟨w.heap.size,0,none⟩) 2 2) (w.alloc (.cells #[iV x0_0_,iV x0_1_,.string x0_2_,iV x1_0_,iV x1_1_,.string x1_2_] 29)):=by kernel_rfl
theorem Pg (x0_0_ x0_1_:Int)(x0_2_:ByteArray)(x1_0_ x1_1_:Int)(x1_2_:ByteArray)(x2_0_ x2_1_:Int)(x2_2_:ByteArray)(w:World):(Instr.buildSlice 43 3 #[(0,.agg #[iV x0_0_,iV x0_1_,.string x0_2_]),(1,.agg #[iV x1_0_,iV x1_1_,.string x1_2_]),(2,.agg #[iV x2_0_,iV x2_1_,.string x2_2_])]).run Wc w=.ok (.slice (some ⟨w.heap.size,0,none⟩) 3 3) (w.alloc (.cells #[iV x0_0_,iV x0_1_,.string x0_2_,iV x1_0_,iV x1_1_,.string x1_2_,iV x2_0_,iV x2_1_,.string x2_2_] 29)):=by kernel_rfl
theorem JM (x0_0_ x0_1_:Int)(x0_2_:ByteArray)(x1_0_ x1_1_:Int)(x1_2_:ByteArray)(x2_0_ x2_1_:Int)(x2_2_:ByteArray)(x3_0_ x3_1_:Int)(x3_2_:ByteArray)(w:World):(Instr.buildSlice 43 4 #[(0,.agg #[iV x0_0_,iV x0_1_,.string x0_2_]),(1,.agg #[iV x1_0_,iV x1_1_,.string x1_2_]),(2,.agg #[iV x2_0_,iV x2_1_,.string x2_2_]),(3,.agg #[iV x3_0_,iV x3_1_,.string x3_2_])]).run Wc w=.ok (.slice (some ⟨w.heap.size,0,none⟩) 4 4) (w.alloc (.cells #[iV x0_0_,iV x0_1_,.string x0_2_,iV x1_0_,iV x1_1_,.string x1_2_,iV x2_0_,iV x2_1_,.string x2_2_,iV x3_0_,iV x3_1_,.string x3_2_] 29)):=by kernel_rfl
theorem JL (x0_0_ x0_1_:Int)(x0_2_:ByteArray)(w:World):(Instr.buildSlice 72 1 #[(0,.agg #[iV x0_0_,iV x0_1_,.string x0_2_])]).run Wc w=.ok (.slice (some ⟨w.heap.size,0,none⟩) 1 1) (w.alloc (.cells #[iV x0_0_,iV x0_1_,.string x0_2_] 34)):=by kernel_rfl
theorem nA (x0_:Int)(w:World):(Instr.buildSlice 99 1 #[(0,iV x0_)]).run Wc w=.ok (.slice (some ⟨w.heap.size,0,none⟩) 1 1) (w.alloc (.cells #[iV x0_] 3)):=by kernel_rfl
theorem Pf (x0_ x1_:Int)(w:World):(Instr.buildSlice 99 2 #[(0,iV x0_),(1,iV x1_)]).run Wc w=.ok (.slice (some ⟨w.heap.size,0,none⟩) 2 2) (w.alloc (.cells #[iV x0_,iV x1_] 3)):=by kernel_rfl
theorem wh (x0_0_ x0_1_ x0_2_ x0_3_:Int)(x0_4_a:Option Addr)(x0_4_n x0_4_c:Nat)(x0_5_a:Option Addr)(x0_5_n x0_5_c:Nat)(w:World):(Instr.buildSlice 123 1 #[(0,.agg #[iV x0_0_,iV x0_1_,iV x0_2_,iV x0_3_,.slice x0_4_a x0_4_n x0_4_c,.slice x0_5_a x0_5_n x0_5_c])]).run Wc w=.ok (.slice (some ⟨w.heap.size,0,none⟩) 1 1) (w.alloc (.cells #[iV x0_0_,iV x0_1_,iV x0_2_,iV x0_3_,.slice x0_4_a x0_4_n x0_4_c,.slice x0_5_a x0_5_n x0_5_c] 45)):=by kernel_rfl
theorem Dg (x0_0_ x0_1_0_ x0_1_1_:Int)(x0_1_2_:ByteArray)(x0_2_ x0_3_:Int)(w:World):(Instr.buildSlice 156 1 #[(0,.agg #[iV x0_0_,iV x0_1_0_,iV x0_1_1_,.string x0_1_2_,iV x0_2_,iV x0_3_])]).run Wc w=.ok (.slice (some ⟨w.heap.size,0,none⟩) 1 1) (w.alloc (.cells #[iV x0_0_,iV x0_1_0_,iV x0_1_1_,.string x0_1_2_,iV x0_2_,iV x0_3_] 159)):=by kernel_rfl
theorem nN (x0_a:Option Addr)(x0_n x0_c:Nat)(x1_a:Option Addr)(x1_n x1_c:Nat)(w:World):(Instr.buildSlice 171 2 #[(0,.slice x0_a x0_n x0_c),(1,.slice x1_a x1_n x1_c)]).run Wc w=.ok (.slice (some ⟨w.heap.size,0,none⟩) 2 2) (w.alloc (.cells #[.slice x0_a x0_n x0_c,.slice x1_a x1_n x1_c] 43)):=by kernel_rfl
theorem He (x0_a:Option Addr)(x0_n x0_c:Nat)(x1_a:Option Addr)(x1_n x1_c:Nat)(w:World):(Instr.buildSlice 174 2 #[(0,.slice x0_a x0_n x0_c),(1,.slice x1_a x1_n x1_c)]).run Wc w=.ok (.slice (some ⟨w.heap.size,0,none⟩) 2 2) (w.alloc (.cells #[.slice x0_a x0_n x0_c,.slice x1_a x1_n x1_c] 123)):=by kernel_rfl
theorem Ns (x0_a:Option Addr)(x0_n x0_c:Nat)(x1_a:Option Addr)(x1_n x1_c:Nat)(w:World):(Instr.buildSlice 230 2 #[(0,.slice x0_a x0_n x0_c),(1,.slice x1_a x1_n x1_c)]).run Wc w=.ok (.slice (some ⟨w.heap.size,0,none⟩) 2 2) (w.alloc (.cells #[.slice x0_a x0_n x0_c,.slice x1_a x1_n x1_c] 99)):=by kernel_rfl
theorem Iw:ry Wc 3 1 8=true:=by kernel_rfl
theorem AW:ry Wc 29 3 32=true:=by kernel_rfl
theorem SM:ry Wc 34 3 32=true:=by kernel_rfl
theorem Iv:ry Wc 45 6 80=true:=by kernel_rfl
theorem Ua:ry Wc 48 13 136=true:=by kernel_rfl
theorem SN:ry Wc 159 6 56=true:=by kernel_rfl
instance:Fc (i9 Wc 3=true):=⟨ya⟩
instance:Fc (i9 Wc 4=true):=⟨Um⟩
instance:Fc (i9 Wc 9=true):=⟨Ul⟩
instance:Fc (i9 Wc 23=true):=⟨GN⟩
instance:Fc (i9 Wc 43=true):=⟨vU⟩
instance:Fc (i9 Wc 60=true):=⟨BE⟩
instance:Fc (i9 Wc 81=true):=⟨SW⟩
instance:Fc (i9 Wc 99=true):=⟨E8⟩
instance:Fc (i9 Wc 106=true):=⟨R5⟩
instance:Fc (i9 Wc 123=true):=⟨HK⟩
instance:Fc (i9 Wc 126=true):=⟨R4⟩
instance:Fc (i9 Wc 156=true):=⟨Ku⟩
instance:Fc (i9 Wc 184=true):=⟨R3⟩
instance:Fc (i9 Wc 189=true):=⟨R2⟩
instance:Fc (i9 Wc 207=true):=⟨Kt⟩
instance:Fc (i9 Wc 265=true):=⟨R1⟩
instance:Fc (i9 Wc 267=true):=⟨R0⟩
instance:FcA0 Wc 29 0:=⟨uZ⟩
instance:FcA Wc 29 1 1:=⟨Ce⟩
instance:FcA Wc 29 2 2:=⟨Q0⟩
instance:FcA0 Wc 34 0:=⟨QZ⟩
instance:FcA Wc 34 1 1:=⟨LD⟩
instance:FcA Wc 34 2 2:=⟨H8⟩
instance:FcA0 Wc 36 0:=⟨QY⟩
instance:FcA Wc 36 1 1:=⟨QX⟩
instance:FcA Wc 36 2 2:=⟨QW⟩
instance:FcA Wc 36 3 5:=⟨QV⟩
instance:FcA Wc 36 4 8:=⟨LC⟩
instance:FcA0 Wc 38 0:=⟨QU⟩
instance:FcA Wc 38 1 1:=⟨QT⟩
instance:FcA Wc 38 2 2:=⟨QR⟩
instance:FcA Wc 38 3 3:=⟨QQ⟩
instance:FcA Wc 38 4 6:=⟨QP⟩
instance:FcA Wc 38 5 17:=⟨QO⟩
instance:FcA Wc 38 6 20:=⟨QN⟩
instance:FcA0 Wc 45 0:=⟨QM⟩
instance:FcA Wc 45 1 1:=⟨QK⟩
instance:FcA Wc 45 2 2:=⟨LB⟩
instance:FcA Wc 45 3 3:=⟨tf⟩
instance:FcA Wc 45 4 4:=⟨H7⟩
instance:FcA Wc 45 5 5:=⟨zr⟩
instance:FcA0 Wc 48 0:=⟨LA⟩
instance:FcA Wc 48 1 3:=⟨QJ⟩
instance:FcA Wc 48 2 4:=⟨Lz⟩
instance:FcA Wc 48 3 7:=⟨QI⟩
instance:FcA Wc 48 4 10:=⟨QH⟩
instance:FcA0 Wc 67 0:=⟨QG⟩
instance:FcA Wc 67 1 1:=⟨QF⟩
instance:FcA Wc 67 2 2:=⟨QE⟩
instance:FcA Wc 67 3 3:=⟨QD⟩
instance:FcA Wc 67 4 4:=⟨QC⟩
instance:FcA Wc 67 5 5:=⟨QB⟩
instance:FcA Wc 67 6 6:=⟨QA⟩
instance:FcA0 Wc 78 0:=⟨Qz⟩
instance:FcA Wc 78 1 1:=⟨Qy⟩
instance:FcA0 Wc 85 0:=⟨Qx⟩
instance:FcA Wc 85 1 3:=⟨Qw⟩
instance:FcA Wc 85 3 11:=⟨H6⟩
instance:FcA Wc 85 4 12:=⟨Qv⟩
instance:FcA Wc 85 6 14:=⟨Qu⟩
instance:FcA0 Wc 103 0:=⟨Jt⟩
instance:FcA Wc 103 1 6:=⟨Js⟩
instance:FcA Wc 103 2 7:=⟨OU⟩
instance:FcA0 Wc 125 0:=⟨FP⟩
instance:FcA Wc 125 1 1:=⟨FO⟩
instance:FcA0 Wc 128 0:=⟨FN⟩
instance:FcA Wc 128 1 2:=⟨FM⟩
instance:FcA Wc 128 2 3:=⟨OT⟩
instance:FcA Wc 128 3 4:=⟨OS⟩
instance:FcA0 Wc 159 0:=⟨FL⟩
instance:FcA Wc 159 1 1:=⟨FK⟩
instance:FcA Wc 159 2 4:=⟨Ch⟩
instance:FcA Wc 159 3 5:=⟨FJ⟩
instance:FcA0 Wc 186 0:=⟨OR⟩
instance:FcA0 Wc 191 0:=⟨Cg⟩
instance:FcA Wc 191 1 1:=⟨OQ⟩
instance:FcA0 Wc 223 0:=⟨OP⟩
instance:FcA Wc 223 1 2:=⟨Jr⟩
instance:FcA Wc 223 2 3:=⟨Cf⟩
instance:FcA Wc 223 3 4:=⟨OO⟩
instance:FcA Wc 223 4 5:=⟨Jq⟩
instance:FcA0 Wc 269 0:=⟨Jp⟩
instance:FcA Wc 269 1 2:=⟨FI⟩
instance:FcA Wc 269 2 3:=⟨ON⟩
instance:FcA Wc 269 3 4:=⟨Jo⟩
theorem GV:Tryz.prog.eqGuardType Tryz.prog.depth 29=false:=by kernel_rfl
theorem LE (x y:VN)(w:World):(Op.equalIn 10000 29 (.agg #[iV x.XZ,iV x.N,.string x.S]) (.agg #[iV y.XZ,iV y.N,.string y.S])).run Wc w=.ok (decide (x=y)) w:=by
 obtain ⟨xKind,xN,xS⟩:=x;obtain ⟨yKind,yN,yS⟩:=y;show (Op.equalIn 10000 29 (.agg #[iV xKind,iV xN,.string xS]) (.agg #[iV yKind,iV yN,.string yS])).run Wc w=_
 go_simp
 simp only [Cq];by_cases h0:xKind=yKind<;>by_cases h1:xN=yN<;>by_cases h2:xS=yS<;>simp [h0,h1,h2]
theorem wg {d:Option Nat}{u:TypeId}{a b:Operand}{x y:VN}(hx:be s a=some (.agg #[iV x.XZ,iV x.N,.string x.S]))(hy:be s b=some (.agg #[iV y.XZ,iV y.N,.string y.S])):Ev Wc s C ⟨d,.binOp .eql 29 a b u,ty,pos,af,gd⟩ (.bool (decide (x=y))):=
 fD hx hy fun w=>by
  rw [XL,run_eqGuard_agg w _ _ _ _ _ _ GV];simp only [XK];rw [run_eql_struct,LE];rfl
theorem Nh {d:Option Nat}{u:TypeId}{a b:Operand}{x y:VN}(hx:be s a=some (.agg #[iV x.XZ,iV x.N,.string x.S]))(hy:be s b=some (.agg #[iV y.XZ,iV y.N,.string y.S])):Ev Wc s C ⟨d,.binOp .neq 29 a b u,ty,pos,af,gd⟩ (.bool (!decide (x=y))):=
 fD hx hy fun w=>by
  rw [XL,run_eqGuard_agg w _ _ _ _ _ _ GV];simp only [XK];rw [run_neq_struct,LE];rfl
theorem MY:Tryz.prog.eqGuardType Tryz.prog.depth 34=false:=by kernel_rfl
theorem Q4 (x y:VI)(w:World):(Op.equalIn 10000 34 (.agg #[iV x.XZ,iV x.N,.string x.S]) (.agg #[iV y.XZ,iV y.N,.string y.S])).run Wc w=.ok (decide (x=y)) w:=by
 obtain ⟨xKind,xN,xS⟩:=x;obtain ⟨yKind,yN,yS⟩:=y;show (Op.equalIn 10000 34 (.agg #[iV xKind,iV xN,.string xS]) (.agg #[iV yKind,iV yN,.string yS])).run Wc w=_
 go_simp
 simp only [Cq];by_cases h0:xKind=yKind<;>by_cases h1:xN=yN<;>by_cases h2:xS=yS<;>simp [h0,h1,h2]
theorem OY {d:Option Nat}{u:TypeId}{a b:Operand}{x y:VI}(hx:be s a=some (.agg #[iV x.XZ,iV x.N,.string x.S]))(hy:be s b=some (.agg #[iV y.XZ,iV y.N,.string y.S])):Ev Wc s C ⟨d,.binOp .eql 34 a b u,ty,pos,af,gd⟩ (.bool (decide (x=y))):=
 fD hx hy fun w=>by
  rw [XL,run_eqGuard_agg w _ _ _ _ _ _ MY];simp only [XK];rw [run_eql_struct,Q4];rfl
theorem O2 (x y:VL)(w:World):(Op.equalIn 10000 245 ((OH x)) ((OH y))).run Wc w=.ok (decide (x=y)) w:=by
 obtain ⟨xup_,⟨xkey_Kind,xkey_N,xkey_S⟩,xattrs_⟩:=x;obtain ⟨yup_,⟨ykey_Kind,ykey_N,ykey_S⟩,yattrs_⟩:=y;show (Op.equalIn 10000 245 (.agg #[iV xup_,iV xkey_Kind,iV xkey_N,.string xkey_S,iV xattrs_]) (.agg #[iV yup_,iV ykey_Kind,iV ykey_N,.string ykey_S,iV yattrs_])).run Wc w=_
 go_simp
 simp only [Cq];by_cases h0:xup_=yup_
 rotate_left
 ·simp [h0]
 by_cases h1:xkey_Kind=ykey_Kind
 rotate_left
 ·simp [h0,h1]
 by_cases h2:xkey_N=ykey_N
 rotate_left
 ·simp [h0,h1,h2]
 by_cases h3:xkey_S=ykey_S
 rotate_left
 ·simp [h0,h1,h2,h3]
 by_cases h4:xattrs_=yattrs_
 rotate_left
 ·simp [h0,h1,h2,h3,h4]
 simp [h0,h1,h2,h3,h4]
def d9 (x:VL):Value:=.agg #[iV x.YQ,iV x.YP.XZ,iV x.YP.N,.string x.YP.S,iV x.YR]
theorem Fu:KeyOk Wc 245 d9 where
 und:=⟨_,Tryz.underlying245,fun a b=> .inl rfl⟩
 eq:=fun a b w=>O2 a b w
 check:=fun e a w=>by
  obtain ⟨xup_,⟨xkey_Kind,xkey_N,xkey_S⟩,xattrs_⟩:=a;kernel_rfl
 bits:=fun a=>by
  obtain ⟨xup_,⟨xkey_Kind,xkey_N,xkey_S⟩,xattrs_⟩:=a;simp [d9,Instr.sameBits,KV]
structure XDHeap where
 A2:Option Addr
 n2:Nat
 c2:Nat
 A3:Option Addr
 n3:Nat
 c3:Nat
 A4:Option Addr
 n4:Nat
 c4:Nat
 A5:Option Addr
 n5:Nat
 c5:Nat
 B6:Nat
 M7:Nat
 deriving Inhabited
def KD (B1:Nat)(e:VU)(x:XDHeap):Wa:=[ae B1 128 [.slice x.A2 x.n2 x.c2,.slice x.A3 x.n3 x.c3,.slice x.A4 x.n4 x.c4,.slice x.A5 x.n5 x.c5,.pointer (some ⟨x.B6,0,none⟩)],bh ei 45 (.slice x.A2 x.n2 x.c2) e.m_.Yd,bh ei 45 (.slice x.A3 x.n3 x.c3) e.m_.Yc,bh av 29 (.slice x.A4 x.n4 x.c4) e.Ym,bh av 29 (.slice x.A5 x.n5 x.c5) e.Yt,ae x.B6 186 [.map (some x.M7)],ax cj fv x.M7 e.Ys.at_]
def Kk (B1:Nat)(e:VU)(x:XDHeap):Wa:=[aB B1 128 [.slice x.A2 x.n2 x.c2,.slice x.A3 x.n3 x.c3,.slice x.A4 x.n4 x.c4,.slice x.A5 x.n5 x.c5,.pointer (some ⟨x.B6,0,none⟩)],iD ei (.slice x.A2 x.n2 x.c2) e.m_.Yd,iD ei (.slice x.A3 x.n3 x.c3) e.m_.Yc,iD av (.slice x.A4 x.n4 x.c4) e.Ym,iD av (.slice x.A5 x.n5 x.c5) e.Yt,aB x.B6 186 [.map (some x.M7)],nc cj fv x.M7 e.Ys.at_]
@[reducible] def oDHeap (B1:Nat)(e:VU):Chunk:=dO (KD B1 e)
@[reducible] def pDHeap (B1:Nat)(e:VU):Chunk:=Kc (Kk B1 e)
theorem Li {B1:Nat}{e:VU}{A2:Option Addr}{n2 c2:Nat}{A3:Option Addr}{n3 c3:Nat}{A4:Option Addr}{n4 c4:Nat}{A5:Option Addr}{n5 c5 B6 M7:Nat}(k:Cv L M):Cv (ae B1 128 [Y A2 n2 c2,Y A3 n3 c3,Y A4 n4 c4,Y A5 n5 c5,pV B6 0]::cL A2 n2 c2 e.m_.Yd::cL A3 n3 c3 e.m_.Yc::aC A4 n4 c4 e.Ym::aC A5 n5 c5 e.Yt::ae B6 186 [.map (some M7)]::ax cj fv M7 e.Ys.at_::L) (oDHeap B1 e::M):=(fb (Q:=KD B1 e) ⟨A2,n2,c2,A3,n3,c3,A4,n4,c4,A5,n5,c5,B6,M7⟩).trans (mM _ k)
instance {B1:Nat}{e:VU}:LentQ (KD B1 e) (Kk B1 e):=⟨.of fun x=>⟨x,t9 (pZ (i:=0) rfl) (t9 (gC (i:=1) rfl) (t9 (gC (i:=2) rfl) (t9 (gC (i:=3) rfl) (t9 (gC (i:=4) rfl) (t9 (pZ (i:=5) rfl) (t9 (Fs (i:=6) rfl) aR))))))⟩⟩
structure XDTable where
 A2:Option Addr
 n2:Nat
 c2:Nat
 M3:Nat
 deriving Inhabited
def HV (B1:Nat)(e:VH)(x:XDTable):Wa:=[ae B1 191 [.slice x.A2 x.n2 x.c2,.map (some x.M3)],bh bl 159 (.slice x.A2 x.n2 x.c2) e.Yk,ax d9 sP x.M3 e.Yy]
def HH (B1:Nat)(e:VH)(x:XDTable):Wa:=[aB B1 191 [.slice x.A2 x.n2 x.c2,.map (some x.M3)],iD bl (.slice x.A2 x.n2 x.c2) e.Yk,nc d9 sP x.M3 e.Yy]
@[reducible] def oDTable (B1:Nat)(e:VH):Chunk:=dO (HV B1 e)
@[reducible] def pDTable (B1:Nat)(e:VH):Chunk:=Kc (HH B1 e)
theorem IU {B1:Nat}{e:VH}{A2:Option Addr}{n2 c2 M3:Nat}(k:Cv L M):Cv (ae B1 191 [Y A2 n2 c2,.map (some M3)]::bh bl 159 (Y A2 n2 c2) e.Yk::ax d9 sP M3 e.Yy::L) (oDTable B1 e::M):=(fb (Q:=HV B1 e) ⟨A2,n2,c2,M3⟩).trans (mM _ k)
instance {B1:Nat}{e:VH}:LentQ (HV B1 e) (HH B1 e):=⟨.of fun x=>⟨x,t9 (pZ (i:=0) rfl) (t9 (gC (i:=1) rfl) (t9 (Fs (i:=2) rfl) aR))⟩⟩
structure XDWorld where
 A4:Option Addr
 n4:Nat
 c4:Nat
 A5:Option Addr
 n5:Nat
 c5:Nat
 A6:Option Addr
 n6:Nat
 c6:Nat
 deriving Inhabited
def BQ (B1 B2 B3:Nat)(e:VS)(x:XDWorld):Wa:=[ae B1 85 [iV e.Yu.YG,iV e.Yu.YI,iV e.Yu.YK,iV e.Yn.YN,iV e.Yn.YJ,iV e.Yn.YD,iV e.Yn.YM,iV e.Yn.Yd,iV e.Yn.YL,iV e.Yn.YO,.nilIface,pV B2 0,pV B3 0,.slice x.A4 x.n4 x.c4,iV e.Yo,iV e.YB,iV e.YC,.slice x.A5 x.n5 x.c5,.slice x.A6 x.n6 x.c6],oDHeap B2 e.Yi,oDTable B3 e.Yk,bh sX 9 (.slice x.A4 x.n4 x.c4) e.Yv,bh nH 319 (.slice x.A5 x.n5 x.c5) e.Yw,bh sX 9 (.slice x.A6 x.n6 x.c6) e.Yx]
def Eb (B1 B2 B3:Nat)(e:VS)(x:XDWorld):Wa:=[aB B1 85 [iV e.Yu.YG,iV e.Yu.YI,iV e.Yu.YK,iV e.Yn.YN,iV e.Yn.YJ,iV e.Yn.YD,iV e.Yn.YM,iV e.Yn.Yd,iV e.Yn.YL,iV e.Yn.YO,.nilIface,pV B2 0,pV B3 0,.slice x.A4 x.n4 x.c4,iV e.Yo,iV e.YB,iV e.YC,.slice x.A5 x.n5 x.c5,.slice x.A6 x.n6 x.c6],pDHeap B2 e.Yi,pDTable B3 e.Yk,iD sX (.slice x.A4 x.n4 x.c4) e.Yv,iD nH (.slice x.A5 x.n5 x.c5) e.Yw,iD sX (.slice x.A6 x.n6 x.c6) e.Yx]
@[reducible] def oDWorld (B1 B2 B3:Nat)(e:VS):Chunk:=dO (BQ B1 B2 B3 e)
@[reducible] def pDWorld (B1 B2 B3:Nat)(e:VS):Chunk:=Kc (Eb B1 B2 B3 e)
theorem IT {B1 B3:Nat}{e:VS}{A4:Option Addr}{n4 c4:Nat}{A5:Option Addr}{n5 c5:Nat}{A6:Option Addr}{n6 c6:Nat}(k:Cv L M):Cv (ae B1 85 (tD e B2 B3 A4 n4 c4 A5 n5 c5 A6 n6 c6)::oDHeap B2 e.Yi::oDTable B3 e.Yk::iB A4 n4 c4 e.Yv::sO A5 n5 c5 e.Yw::iB A6 n6 c6 e.Yx::L) (oDWorld B1 B2 B3 e::M):=(fb (Q:=BQ B1 B2 B3 e) ⟨A4,n4,c4,A5,n5,c5,A6,n6,c6⟩).trans (mM _ k)
instance {B1 B3:Nat}{e:VS}:LentQ (BQ B1 B2 B3 e) (Eb B1 B2 B3 e):=⟨.of fun x=>⟨x,t9 (pZ (i:=0) rfl) (t9 (zm (i:=1) rfl) (t9 (zm (i:=2) rfl) (t9 (gC (i:=3) rfl) (t9 (gC (i:=4) rfl) (t9 (gC (i:=5) rfl) aR)))))⟩⟩
instance {B1 B3:Nat}{e:VS}:LentP (BQ B1 B2 B3 e) (Kk B2 e.Yi):=.sub 1 fun _=>rfl
instance {B1 B3:Nat}{e:VS}:MemR (Eb B1 B2 B3 e) (pDHeap B2 e.Yi):=⟨fun _=>Xa _ (List.mem_cons_self)⟩
@[reducible] def oDWorld_h1 (B1 B2 B3:Nat)(e:VS):Chunk:=dO fun x:XDWorld=> [ae B1 85 [iV e.Yu.YG,iV e.Yu.YI,iV e.Yu.YK,iV e.Yn.YN,iV e.Yn.YJ,iV e.Yn.YD,iV e.Yn.YM,iV e.Yn.Yd,iV e.Yn.YL,iV e.Yn.YO,.nilIface,pV B2 0,pV B3 0,.slice x.A4 x.n4 x.c4,iV e.Yo,iV e.YB,iV e.YC,.slice x.A5 x.n5 x.c5,.slice x.A6 x.n6 x.c6],oDTable B3 e.Yk,bh sX 9 (.slice x.A4 x.n4 x.c4) e.Yv,bh nH 319 (.slice x.A5 x.n5 x.c5) e.Yw,bh sX 9 (.slice x.A6 x.n6 x.c6) e.Yx]
instance {B1 B3:Nat}{e:VS}:LentP (BQ B1 B2 B3 e) (HH B3 e.Yk):=.sub 2 fun _=>rfl
instance {B1 B3:Nat}{e:VS}:MemR (Eb B1 B2 B3 e) (pDTable B3 e.Yk):=⟨fun _=>Xa _ (Xa _ (List.mem_cons_self))⟩
instance:FcS Wc 22 38:=⟨EM⟩
instance:FcS Wc 40 48:=⟨Tryz.underlying40⟩
instance:FcS Wc 43 29:=⟨z9⟩
instance:FcS Wc 53 55:=⟨Tryz.underlying53⟩
instance:FcS Wc 72 34:=⟨Vm⟩
instance:FcS Wc 99 3:=⟨Vn⟩
instance:FcS Wc 123 45:=⟨Vo⟩
instance:FcS Wc 156 159:=⟨Vp⟩
instance:FcS Wc 174 123:=⟨Vq⟩
instance:RepF NW (fun x=> [iV x.YN,iV x.YJ,iV x.YD,iV x.YM,iV x.Yd,iV x.YL,iV x.YO]):=⟨fun _ _ _ _ h=>h⟩
instance:RepF av (fun x=> [iV x.XZ,iV x.N,.string x.S]):=⟨fun _ _ _ _ h=>h⟩
instance:RepF Bq (fun x=> [iV x.XZ,iV x.N,.string x.S]):=⟨fun _ _ _ _ h=>h⟩
instance:RepF bl (fun x=> [iV x.Up,iV x.Yl.XZ,iV x.Yl.N,.string x.Yl.S,iV x.Yh,iV x.YA]):=⟨fun _ _ _ _ h=>h⟩
instance:RepF RU (fun x=> [iV x.YQ,iV x.YP.XZ,iV x.YP.N,.string x.YP.S,iV x.YR]):=⟨fun _ _ _ _ h=>h⟩
instance:RepF PU (fun x=> [iV x.YG,iV x.YI,iV x.YK]):=⟨fun _ _ _ _ h=>h⟩
instance:RepF nH (fun x=> [iV x.XZ,iV x.Yl.XZ,iV x.Yl.N,.string x.Yl.S,.string x.S]):=⟨fun _ _ _ _ h=>h⟩
instance:RepF NV (fun x=> [iV x.Has,iV x.Yh,iV x.Value.XZ,iV x.Value.N,.string x.Value.S,iV x.Yp.XZ,iV x.Yp.N,.string x.Yp.S,iV x.Yr.XZ,iV x.Yr.N,.string x.Yr.S]):=⟨fun _ _ _ _ h=>h⟩
instance:RepF EQ (fun x=> [iV x.XZ,iV x.O,iV x.P,iV x.K.XZ,iV x.K.N,.string x.K.S,iV x.D.Has,iV x.D.Yh,iV x.D.Value.XZ,iV x.D.Value.N,.string x.D.Value.S,iV x.D.Yp.XZ,iV x.D.Yp.N,.string x.D.Yp.S,iV x.D.Yr.XZ,iV x.D.Yr.N,.string x.D.Yr.S,iV x.V.XZ,iV x.V.N,.string x.V.S,iV x.Yh]):=⟨fun _ _ _ _ h=>h⟩
instance:RepF wv (fun x=> [iV x.Yl.XZ,iV x.Yl.N,.string x.Yl.S,iV x.Yh,iV x.Value.XZ,iV x.Value.N,.string x.Value.S,iV x.Yp.XZ,iV x.Yp.N,.string x.Yp.S,iV x.Yr.XZ,iV x.Yr.N,.string x.Yr.S]):=⟨fun _ _ _ _ h=>h⟩
@[reducible] def oDWorld_h2 (B1 B2 B3:Nat)(e:VS):Chunk:=dO fun x:XDWorld=> [ae B1 85 [iV e.Yu.YG,iV e.Yu.YI,iV e.Yu.YK,iV e.Yn.YN,iV e.Yn.YJ,iV e.Yn.YD,iV e.Yn.YM,iV e.Yn.Yd,iV e.Yn.YL,iV e.Yn.YO,.nilIface,pV B2 0,pV B3 0,.slice x.A4 x.n4 x.c4,iV e.Yo,iV e.YB,iV e.YC,.slice x.A5 x.n5 x.c5,.slice x.A6 x.n6 x.c6],oDHeap B2 e.Yi,bh sX 9 (.slice x.A4 x.n4 x.c4) e.Yv,bh nH 319 (.slice x.A5 x.n5 x.c5) e.Yw,bh sX 9 (.slice x.A6 x.n6 x.c6) e.Yx]
theorem Ay {B1 B3:Nat}{e:VS}:Cv (oDWorld B1 B2 B3 e::L) (oDTable B3 e.Yk::oDWorld_h2 B1 B2 B3 e::L):=Q8 fun x=>⟨x,(.trans (.swap _ _ _) (.cons _ (.trans (.swap _ _ _) (.cons _ (.refl _)))):List.Perm _ _).symm⟩
theorem AQ {B1 B3:Nat}{e:VS}{z:VH}:Cv (oDTable B3 z::oDWorld_h2 B1 B2 B3 e::L) (oDWorld B1 B2 B3 (⟨e.Yu,e.Yn,(),e.Yi,z,e.Yv,e.Yo,e.YB,e.YC,e.Yw,e.Yx⟩:VS)::L):=Pa fun x=>⟨x,.trans (.swap _ _ _) (.cons _ (.trans (.swap _ _ _) (.cons _ (.refl _))))⟩
theorem IY {R:ι->Value->Wa->Prop}{Q:ι->Wa}[Inhabited ι](k:Nat)(hk:L[k]? =some (dO Q))(h:∀x,Okc P f args (L.take k++(Q x++L.drop (k+1))) (R x))(hr:∀x v post,R x v post-> ∃post',R' v post'/\Cv post post':=by
   intro x v post
   repeat (refine TT ?_;intro _)
   rintro ⟨rfl,rfl⟩;apply UW
   repeat (apply Exists.intro)
   exact ⟨J,J⟩
   all_goals (repeat (first|with_reducible exact ah _|apply Li|apply IU|apply IT|apply mM))):Okc P f args L R':=Uo k hk h hr
theorem Un (h:Okc P f args L R)(hr:∀v post,R v post-> ∃post',R' v post'/\Cv post post':=by
   intro v post
   repeat (refine TT ?_;intro _)
   rintro ⟨rfl,rfl⟩;apply UW
   repeat (apply Exists.intro)
   exact ⟨J,J⟩
   all_goals (repeat (first|with_reducible exact ah _|apply Li|apply IU|apply IT|apply mM))):Okc P f args L R':=okN h hr
abbrev gk (x:VJ)(A:Option Addr)(n c:Nat)(A2:Option Addr)(n2 c2:Nat):Wb:=[iV x.XZ,iV x.Yf,iV x.Ye,iV x.Yg,.slice A n c,Y A2 n2 c2]
def eo (N:Nat)(a0 a1 a2:Int):Option Bool:=
 (bif decide (a1<=a0) then (some (decide (a0<=a2))) else (some false)).bind fun b1=>some b1
theorem eV {N:Nat}{a0:Int}{r:Bool}(h:eo N a0 a1 a2=some r):Okc Wc 127 [iV a0,iV a1,iV a2] ([]) (fun u post=>u=.bool r/\post=[]):=by
 refine bY Tryz.func127 ?_;refine gS 4 14 10 h ?_;intro b1 h;exact eY
theorem dE {r:Bool}: ∀v post,((fun (u:Value) (post:Wa)=>u=.bool r/\post=[])) v post-> ∀c∈post,mT c:=by
 rintro _ _ ⟨rfl,rfl⟩;exact aR
def zQ (a0:VV):Option Bool:=
 (eo N a0.YN 0 1).bind fun y2=>(bif y2 then ((eo N a0.YJ 0 1073741824).bind fun y4=>some y4) else (some false)).bind fun b3=>(bif b3 then ((eo N a0.YD 1 200).bind fun y6=>some y6) else (some false)).bind fun b5=>(bif b5 then ((eo N a0.YM 0 1048576).bind fun y8=>some y8) else (some false)).bind fun b7=>(bif b7 then ((eo N a0.Yd 0 1073741824).bind fun a6=>some a6) else (some false)).bind fun b9=>(bif b9 then ((eo N a0.YL 0 1073741824).bind fun a8=>some a8) else (some false)).bind fun b0=>(bif b0 then ((eo N a0.YO 0 4).bind fun b6=>some b6) else (some false)).bind fun c0=>some c0
theorem EL {N:Nat}{a0:VV}{r:Bool}(h:zQ N a0=some r):Okc Wc 75 [(FC a0)] ([]) (fun u post=>u=.bool r/\post=[]):=by
 refine bY Tryz.func75 ?_;intro B1;refine ab ?_;obtain ⟨y2,k,h⟩:=aa h;refine C7 (iS (eV k) J J J (aR) dE) ?_
 refine qo 5 13 8 h (fun _ g3 h=> ?_) fun b3 h=> ?_
 ·refine ab ?_;obtain ⟨y4,k,h⟩:=aa h;refine gU (iS (eV k) J J J (aR) dE) (el g3 J) ?_;exact gY
 refine ab ?_
 refine qo 5 19 14 h (fun _ g5 h=> ?_) fun b5 h=> ?_
 ·refine ab ?_;obtain ⟨y6,k,h⟩:=aa h;refine gU (iS (eV k) J J J (aR) dE) (el g5 J) ?_;exact gY
 refine ab ?_
 refine qo 5 25 20 h (fun _ g7 h=> ?_) fun b7 h=> ?_
 ·refine ab ?_;obtain ⟨y8,k,h⟩:=aa h;refine gU (iS (eV k) J J J (aR) dE) (el g7 J) ?_;exact gY
 refine ab ?_
 refine qo 5 31 26 h (fun _ g9 h=> ?_) fun b9 h=> ?_
 ·refine ab ?_;obtain ⟨b0,k,h⟩:=aa h;refine gU (iS (eV k) J J J (aR) dE) (el g9 J) ?_;exact gY
 refine ab ?_
 refine qo 5 37 32 h (fun _ a6 h=> ?_) fun b6 h=> ?_
 ·refine ab ?_;obtain ⟨c0,k,h⟩:=aa h;refine gU (iS (eV k) J J J (aR) dE) (el a6 J) ?_;exact gY
 refine ab ?_
 refine qo 5 43 38 h (fun _ a8 h=> ?_) fun c7 h=> ?_
 ·refine ab ?_;obtain ⟨c8,k,h⟩:=aa h;refine gU (iS (eV k) J J J (aR) dE) (el a8 J) ?_;exact gY
 exact eY
def Bj (N:Nat):Option VQ:=
 some (⟨([]:V8)⟩:VQ)
theorem F9 {N:Nat}{r:VQ}(h:Bj N=some r):Okc Wc 128 [] ([]) (fun u post=> ∃B0 M1,u=pV B0 0/\post=[ae B0 186 [.map (some M1)],ax cj fv M1 r.at_]):=by
 refine bY Tryz.func128 ?_;refine gD (ug (ek:=cj) (ev:=fv)) ?_;rintro _ _ ⟨M1,rfl,rfl⟩;refine ab ?_;intro B2;exact eY
def AF:Option VU:=
 (Bj N).bind fun y1=>some (⟨(⟨[],[]⟩:VR),[],[],y1⟩:VU)
theorem Jg {N:Nat}{r:VU}(h:AF N=some r):Okc Wc 76 [] ([]) (fun u post=> ∃B0 A1 n1 c1 A2 n2 c2 A3 n3 c3 A4 n4 c4 B5 M6,u=pV B0 0/\post=[ae B0 128 [Y A1 n1 c1,Y A2 n2 c2,Y A3 n3 c3,Y A4 n4 c4,pV B5 0],cL A1 n1 c1 r.m_.Yd,cL A2 n2 c2 r.m_.Yc,aC A3 n3 c3 r.Ym,aC A4 n4 c4 r.Yt,ae B5 186 [.map (some M6)],ax cj fv M6 r.Ys.at_]):=by
 refine bY Tryz.func76 ?_;obtain ⟨y1,k,h⟩:=aa h;refine gD (oR (F9 k)) ?_;rintro _ _ ⟨_,⟨B2,M3,rfl,rfl⟩,rfl⟩
 refine du fun B4=> ?_
 obtain rfl:=jn h;exact Ai J J ((bq ei 45 _).trans ((bq ei 45 _).trans ((bq av 29 _).trans ((bq av 29 _).trans (cS [4,3,2,1,0,5,6] 7))))) ⟨_,_,_,_,_,_,_,_,_,_,_,_,_,_,_,J,J⟩
theorem Gk {N:Nat}{r:VU}(h:AF N=some r):Okc Wc 76 [] ([]) (fun u post=> ∃B0,u=pV B0 0/\post=[oDHeap B0 r]):=Un (Jg h)
def xE (N:Nat):Option VH:=
 some (⟨([(⟨(-1),(⟨0,0,⟨#[]⟩⟩:VI),0,0⟩:VW)]:List VW),([]:(List (VL×Int)))⟩:VH)
theorem Hz {N:Nat}{r:VH}(h:xE N=some r):Okc Wc 77 [] ([]) (fun u post=> ∃B0 A1 n1 c1 M2,u=pV B0 0/\post=[ae B0 191 [Y A1 n1 c1,.map (some M2)],bh bl 159 (Y A1 n1 c1) r.Yk,ax d9 sP M2 r.Yy]):=by
 refine bY Tryz.func77 ?_;refine gD (aL (R:=bl) (vss:=[[iV (-1),iV 0,iV 0,.string (⟨#[]⟩),iV 0,iV 0]]) (xs:=[(⟨(-1),(⟨0,0,⟨#[]⟩⟩:VI),0,0⟩:VW)]) J (Dg _ _ _ _ _ _) J J (fun _ _ hr=> .cons J All2.nil)) ?_;rintro _ _ ⟨A1,n1,c1,rfl,rfl⟩;refine gD (ug (ek:=d9) (ev:=sP)) ?_;rintro _ _ ⟨M2,rfl,rfl⟩;refine ab ?_;intro B3;exact eY
theorem ED {N:Nat}{r:VH}(h:xE N=some r):Okc Wc 77 [] ([]) (fun u post=> ∃B0,u=pV B0 0/\post=[oDTable B0 r]):=Un (Hz h)
def aG (N:Nat)(a0:VU):Option Bool:=
 some false
theorem bW {N:Nat}{a0:VU}{r:Bool}(h:aG N a0=some r):Okc Wc 66 [pV B1 0] ([aB B1 128 [Y A2 n2 c2,Y A3 n3 c3,Y A4 n4 c4,Y A5 n5 c5,pV B6 0],bB A2 n2 c2 a0.m_.Yd,bB A3 n3 c3 a0.m_.Yc,aZ A4 n4 c4 a0.Ym,aZ A5 n5 c5 a0.Yt,aB B6 186 [.map (some M7)],nc cj fv M7 a0.Ys.at_]) (fun u post=>u=.bool r/\post=[]):=by
 refine bY Tryz.func66 ?_;refine dU (dZ J Tryz.underlying60) ?_;refine dU (dZ J Vr) ?_;exact eN
def bK (a0:VU)(a1:Int):Option VN:=
 (aG N a0).bind fun y9=>(bif y9 then (some true) else (some (decide (a1<0)))).bind fun a6=>(bif a6 then (some true) else (some (decide ((a0.Ym.length:Int)<=a1)))).bind fun a8=>bif a8 then (some (⟨0,0,⟨#[]⟩⟩:VN)) else ((ap a0.Ym a1).bind fun b0=>some b0)
theorem BU {N:Nat}{a0:VU}{r:VN}(h:bK N a0 a1=some r):Okc Wc 53 [pV B1 0,iV a1] ([aB B1 128 [Y A2 n2 c2,Y A3 n3 c3,Y A4 n4 c4,Y A5 n5 c5,pV B6 0],bB A2 n2 c2 a0.m_.Yd,bB A3 n3 c3 a0.m_.Yc,aZ A4 n4 c4 a0.Ym,aZ A5 n5 c5 a0.Yt,aB B6 186 [.map (some M7)],nc cj fv M7 a0.Ys.at_]) (fun u post=>u=(aX r)/\post=[]):=by
 refine bY Tryz.func53 ?_;intro B8;refine sY ?_
 refine cR h (fun _ k=>bW k) fun y9 h=> ?_
 refine gS 3 10 7 h ?_;intro b5 h;refine ab ?_;refine gS 8 19 11 h ?_;intro b6 h;refine dI h ?_ ?_<;>intro h
 ·exact eY
 refine ab ?_;obtain ⟨b7,a6,a8,b0,h⟩:=aM h;exact eY
theorem ft {N:Nat}{a0:VU}{r:VN}(h:bK N a0 a1=some r):Okc Wc 53 [pV B1 0,iV a1] ([pDHeap B1 a0]) (fun u post=>u=(aX r)/\post=[]):=Nz 0 rfl (fun _=>BU h)
def lX (N:Nat){σ:Type}(fy:(Bool×VN)->σ->Option (Bool×σ))(a1:VJ):Nat->Int->σ->Option σ
 |0,_,_=>none
 |b5+1,a6,b0=>bif decide (a6<(a1.Ya.length:Int)) then ((ap a1.Ya a6).bind fun b6=>(bif !decide (a1.XZ=8) then ((bif !decide (a1.XZ=10) then (some true) else (some (decide (a6.tmod 2=0)))).bind fun b7=>some b7) else (some false)).bind fun b9=>(fy (b9,b6) b0).bind fun a8=>bif !a8.1 then (some a8.2) else (aE (in64 (a6+1)) ((lX N fy a1 b5) (a6+1) a8.2))) else (some b0)
def uC (fy:(Bool×VN)->σ->Option (Bool×σ))(a1:VJ)(p5:σ):Option σ:=
 lX N fy a1 N 0 p5
def lc (N:Nat){σ:Type}(fy:(Bool×VN)->σ->Option (Bool×σ))(a1:VJ):Nat->Int->σ->Option σ
 |0,_,_=>none
 |m6+1,p7,p8=>bif decide (p7<(a1.Yb.length:Int)) then ((ap a1.Yb p7).bind fun a8=>(fy (true,a8) p8).bind fun a6=>bif !a6.1 then (some a6.2) else (aE (in64 (p7+1)) ((lc N fy a1 m6) (p7+1) a6.2))) else (uC N fy a1 p8)
def oE (a1:VJ)(fy:(Bool×VN)->σ->Option (Bool×σ))(s0:σ):Option σ:=
 lc N fy a1 N 0 s0
theorem yI {N:Nat}{a1:VJ}{fy:(Bool×VN)->σ->Option (Bool×σ)}{s0 r:σ}(h:oE N a1 fy s0=some r){l:Nat}{G:σ->Wa}(hY:vc Wc l G (fun x=> [.bool x.1,.agg #[iV x.2.XZ,iV x.2.N,.string x.2.S]]) fy):Okc Wc 218 [.func (.yield l) #[] #[],pV B1 0] (aB B1 45 (gk a1 A2 n2 c2 A3 n3 c3)::aZ A2 n2 c2 a1.Yb::aZ A3 n3 c3 a1.Ya::(G s0)) (fun u post=>u=.tuple #[]/\post=G r):=by
 refine Gf Tryz.func218 J J ?_;simp only [uz];refine ai (fun s L=> ∃p5,uC N fy a1 p5=some r/\s=[(0,.func (.yield l) #[] #[]),(1,pV B1 0)]/\L=aZ A2 n2 c2 a1.Yb::aZ A3 n3 c3 a1.Ya::aB B1 45 (gk a1 A2 n2 c2 A3 n3 c3)::(G p5)) ?_ ?_
 ·refine ab ?_;refine lK (fun m s L=> ∃(p7:Int) (p8:σ),lc N fy a1 m p7 p8=some r/\s=[(0,.func (.yield l) #[] #[]),(1,pV B1 0),(9,Y A2 n2 c2),(10,iV (a1.Yb.length:Int)),(11,iV p7)]/\L=aZ A2 n2 c2 a1.Yb::aZ A3 n3 c3 a1.Ya::aB B1 45 (gk a1 A2 n2 c2 A3 n3 c3)::(G p8)) N ?_;rintro m6 _ _ ⟨p7,p8,h,rfl,rfl⟩;rw [lc.eq_2] at h;refine ab ?_;refine au ?_;refine gH J h ?_ ?_<;>intro h
  ·refine sY ?_;obtain ⟨a6,b6,b7,b9,h⟩:=aM h
   refine du fun c0=> ?_
   obtain ⟨d3,k,h⟩:=aa h;refine gD (zh (a:=(true,a6)) [ae c0 29 [iV a6.XZ,iV a6.N,.string a6.S],aZ A2 n2 c2 a1.Yb,aZ A3 n3 c3 a1.Ya,aB B1 45 (gk a1 A2 n2 c2 A3 n3 c3)] hY k J J) ?_;rintro _ _ ⟨rfl,rfl⟩;refine dI h ?_ ?_<;>intro h
   ·exact eY
   refine ab ?_;obtain ⟨d4,h⟩:=ac h;exact lY
  exact jY
 rintro _ _ ⟨p5,h,rfl,rfl⟩;refine ab ?_;refine lK (fun m s L=> ∃(b0:Int) (b5:σ),lX N fy a1 m b0 b5=some r/\s=[(0,.func (.yield l) #[] #[]),(1,pV B1 0),(21,Y A3 n3 c3),(22,iV (a1.Ya.length:Int)),(23,iV b0)]/\L=aZ A3 n3 c3 a1.Ya::aZ A2 n2 c2 a1.Yb::aB B1 45 (gk a1 A2 n2 c2 A3 n3 c3)::(G b5)) N ?_;rintro d6 _ _ ⟨b0,b5,h,rfl,rfl⟩;rw [lX.eq_2] at h;refine ab ?_;refine au ?_;refine gH J h ?_ ?_<;>intro h
 ·refine sY ?_;obtain ⟨a8,c7,c8,c9,h⟩:=aM h
  refine du fun d0=> ?_
  refine qo 9 40 31 h (fun _ e0 h=> ?_) fun d1 h=> ?_
  ·refine ab ?_
   refine AU 4 39 35 h (fun _ d2 h=> ?_) fun e1 h=> ?_
   ·refine ab ?_;refine gT (pf J J (by decide)) J (pc d2 J) J ?_;exact gY
   exact gY
  refine ab ?_;obtain ⟨e2,k,h⟩:=aa h;refine gD (zh (a:=(d1,a8)) [ae d0 29 [iV a8.XZ,iV a8.N,.string a8.S],aZ A3 n3 c3 a1.Ya,aZ A2 n2 c2 a1.Yb,aB B1 45 (gk a1 A2 n2 c2 A3 n3 c3)] hY k J J) ?_;rintro _ _ ⟨rfl,rfl⟩;refine dI h ?_ ?_<;>intro h
  ·exact eY
  refine ab ?_;obtain ⟨e3,h⟩:=ac h;exact lY
 exact eY
def uD (N:Nat)(a0:VJ):Option Unit:=
 some ()
theorem DK {N:Nat}{a0:VJ}{r:Unit}(h:uD N a0=some r):Okc Wc 184 [.agg #[iV a0.XZ,iV a0.Yf,iV a0.Ye,iV a0.Yg,Y A1 n1 c1,Y A2 n2 c2]] ([aZ A1 n1 c1 a0.Yb,aZ A2 n2 c2 a0.Ya]) (fun u post=> ∃a6,u=.func (.func 218) #[] #[pV a6 0]/\post=[ae a6 45 (gk a0 A1 n1 c1 A2 n2 c2)]):=by
 refine bY Tryz.func184 ?_;intro B3;refine ab ?_;refine dU (eB J) ?_;exact eN
def rU (N:Nat)(a0:VN)(a6:Bool):Option Bool:=
 bif a6 then (some (decide (1<=a0.N))) else ((bif decide (a0.N=0) then (some (decide (0<=a0.XZ))) else (some false)).bind fun a8=>(bif a8 then (some (decide (a0.XZ<=9))) else (some false)).bind fun b0=>some b0)
def wM (a0:VN):Option Bool:=
 bif decide (a0.XZ=5) then ((bif decide (a0.N=0) then (some (decide ((a0.S.size:Int)<=65536))) else (some false)).bind fun b3=>some b3) else (bif !(a0.S.toList==(⟨#[]⟩:ByteArray).toList) then (some false) else (bif decide (a0.XZ=2) then ((bif decide (a0.N=0) then (some true) else (some (decide (a0.N=1)))).bind fun b6=>some b6) else (bif decide (a0.XZ=3) then ((bif decide ((-9007199254740992)<=a0.N) then (some (decide (a0.N<=9007199254740992))) else (some false)).bind fun b8=>some b8) else (bif decide (a0.XZ=6) then (rU N a0 (decide (a0.XZ=6))) else (bif decide (a0.XZ=7) then (rU N a0 (decide (a0.XZ=7))) else (rU N a0 (decide (a0.XZ=9))))))))
theorem JI {N:Nat}{a0:VN}{r:Bool}(h:wM N a0=some r):Okc Wc 185 [(aX a0)] ([]) (fun u post=>u=.bool r/\post=[]):=by
 refine bY Tryz.func185 ?_;intro B1;refine sY ?_;refine gH J h ?_ ?_<;>intro h
 ·refine ab ?_
  refine qo 5 14 9 h (fun _ g3 h=> ?_) fun b3 h=> ?_
  ·refine ab ?_;refine gT (tg J Vs) J (el g3 J) J ?_;exact gY
  exact eY
 refine sY ?_;refine dU (OX J J) ?_;refine gH J h ?_ ?_<;>intro h
 ·exact eY
 refine sY ?_;refine gH J h ?_ ?_<;>intro h
 ·refine ab ?_;refine gS 4 29 25 h ?_;intro b6 h;exact eY
 refine dI h ?_ ?_<;>intro h
 ·refine ab ?_;refine gS 4 39 35 h ?_;intro b8 h;exact eY
 refine ai (fun s L=> ∃a6,rU N a0 a6=some r/\s=[(1,pV B1 0),(2,.bool false),(40,.bool a6)]/\L=[ae B1 29 (eE a0)]) ?_ ?_
 ·refine dI h ?_ ?_<;>intro h
  ·exact jY
  refine dI h ?_ ?_<;>intro h
  ·exact jY
  exact jY
 rintro _ _ ⟨a6,h,rfl,rfl⟩;refine gH J h ?_ ?_<;>intro h
 ·exact eY
 refine ab ?_;refine gS 4 54 50 h ?_;intro a8 h;refine ab ?_;refine gS 4 59 55 h ?_;intro b0 h;exact eY
def jZ (N:Nat)(p2:Bool):Option Bool:=
 bif p2 then (some true) else (some false)
def wN (a0:Int):Option Bool:=
 bif decide (a0=1) then (jZ N (decide (a0=1))) else (bif decide (a0=2) then (jZ N (decide (a0=2))) else (bif decide (a0=3) then (jZ N (decide (a0=3))) else (bif decide (a0=6) then (jZ N (decide (a0=6))) else (bif decide (a0=8) then (jZ N (decide (a0=8))) else (bif decide (a0=9) then (jZ N (decide (a0=9))) else (jZ N (decide (a0=10))))))))
theorem JJ {N:Nat}{a0:Int}{r:Bool}(h:wN N a0=some r):Okc Wc 219 [iV a0] ([]) (fun u post=>u=.bool r/\post=[]):=by
 refine bY Tryz.func219 ?_;refine sZ ?_;refine ai (fun s L=> ∃p2,jZ N p2=some r/\s=[(2,.bool false),(4,.bool p2)]/\L=[]) ?_ ?_
 ·refine dI h ?_ ?_<;>intro h
  ·exact jY
  refine dI h ?_ ?_<;>intro h
  ·exact jY
  refine dI h ?_ ?_<;>intro h
  ·exact jY
  refine dI h ?_ ?_<;>intro h
  ·exact jY
  refine dI h ?_ ?_<;>intro h
  ·exact jY
  refine dI h ?_ ?_<;>intro h
  ·exact jY
  exact jY
 rintro _ _ ⟨p2,h,rfl,rfl⟩;refine gH J h ?_ ?_<;>intro h
 ·exact eY
 exact eY
def iP (N:Nat)(a0:VN)(a1:Int):Option Bool:=
 (bif decide (a0.XZ=0) then (some true) else (some (decide (a0.XZ=a1)))).bind fun b2=>some b2
theorem kZ {N:Nat}{a0:VN}{r:Bool}(h:iP N a0 a1=some r):Okc Wc 220 [(aX a0),iV a1] ([]) (fun u post=>u=.bool r/\post=[]):=by
 refine bY Tryz.func220 ?_;intro B1;refine ab ?_;refine gS 5 13 8 h ?_;intro b2 h;exact eY
def jX (a0:VJ):Option Bool:=
 (wN N a0.XZ).bind fun y4=>(bif y4 then (some true) else ((bif decide (a0.XZ=7) then (some (decide (0<(a0.Yb.length:Int)))) else (some false)).bind fun b6=>some b6)).bind fun b5=>bif b5 then ((bif decide (1<=(a0.Yb.length:Int)) then (some (decide ((a0.Yb.length:Int)<=1025))) else (some false)).bind fun b8=>(bif b8 then ((ap a0.Yb 0).bind fun a6=>(bif decide (a6.XZ=1) then (some true) else ((ap a0.Yb 0).bind fun a8=>some (decide (a8.XZ=7)))).bind fun b0=>some b0) else (some false)).bind fun b9=>some b9) else (bif decide (a0.XZ=7) then (some (decide (a0.Yf=0))) else ((bif !decide (a0.Yf=0) then (some true) else (some (!decide (a0.Ye=0)))).bind fun b7=>bif b7 then (some false) else (bif decide (a0.XZ=5) then ((bif decide ((a0.Yb.length:Int)=2) then ((ap a0.Yb 0).bind fun c0=>(iP N c0 7).bind fun c7=>some c7) else (some false)).bind fun c8=>(bif c8 then ((ap a0.Yb 1).bind fun c9=>(iP N c9 7).bind fun d0=>some d0) else (some false)).bind fun d1=>some d1) else (some (decide ((a0.Yb.length:Int)=0))))))
theorem AS {N:Nat}{a0:VJ}{r:Bool}(h:jX N a0=some r):Okc Wc 186 [.agg #[iV a0.XZ,iV a0.Yf,iV a0.Ye,iV a0.Yg,Y A1 n1 c1,Y A2 n2 c2]] ([aZ A1 n1 c1 a0.Yb,aZ A2 n2 c2 a0.Ya]) (fun u post=>u=.bool r/\post=[]):=by
 refine bY Tryz.func186 ?_;intro B3;refine sY ?_
 refine cR h (fun _ k=>JJ k) fun y4 h=> ?_
 refine AU 10 16 6 h (fun _ g5 h=> ?_) fun b5 h=> ?_
 ·refine ab ?_;refine gS 5 15 10 h ?_;intro b6 h;exact gY
 refine dI h ?_ ?_<;>intro h
 ·refine ab ?_;refine gS 5 26 21 h ?_;intro b8 h;refine ab ?_
  refine qo 15 42 27 h (fun _ g9 h=> ?_) fun b9 h=> ?_
  ·refine ab ?_;obtain ⟨d6,a6,a8,c0,h⟩:=aM h;refine ab ?_;refine sG (vh 1 J bS J (toNat_lt a6 a8) uZ) J (el g9 J) J ?_;refine ab ?_
   refine AU 7 41 34 h (fun _ c7 h=> ?_) fun e0 h=> ?_
   ·refine ab ?_;obtain ⟨e1,b0,b7,c8,h⟩:=aM h;refine ab ?_;refine sG (vh 1 J bS J (toNat_lt b0 b7) uZ) J (pc c7 J) J ?_;exact gY
   exact gY
  exact eY
 refine sY ?_;refine gH J h ?_ ?_<;>intro h
 ·exact eY
 refine sY ?_;refine gS 4 56 52 h ?_;intro e2 h;refine dI h ?_ ?_<;>intro h
 ·exact eY
 refine sY ?_;refine gH J h ?_ ?_<;>intro h
 ·refine ab ?_
  refine qo 6 70 64 h (fun _ e3 h=> ?_) fun e4 h=> ?_
  ·refine ab ?_;obtain ⟨e5,c9,d0,d1,h⟩:=aM h
   refine cR h (fun _ k=>kZ k) fun e6 h=> ?_
   exact gY
  refine ab ?_
  refine qo 6 77 71 h (fun _ e7 h=> ?_) fun e8 h=> ?_
  ·refine ab ?_;obtain ⟨e9,d2,d3,d4,h⟩:=aM h
   refine cR h (fun _ k=>kZ k) fun f1 h=> ?_
   exact gY
  exact eY
 exact eY
def iQ (N:Nat)(a0:VN)(a1 a2:Int):Option Bool:=
 (bif decide (a0.XZ=3) then (some (decide (a1<=a0.N))) else (some false)).bind fun b2=>(bif b2 then (some (decide (a0.N<=a2))) else (some false)).bind fun b3=>some b3
theorem la {N:Nat}{a0:VN}{r:Bool}(h:iQ N a0 a1 a2=some r):Okc Wc 221 [(aX a0),iV a1,iV a2] ([]) (fun u post=>u=.bool r/\post=[]):=by
 refine bY Tryz.func221 ?_;intro B1;refine ab ?_;refine gS 5 15 10 h ?_;intro b2 h;refine ab ?_;refine gS 5 21 16 h ?_;intro b3 h;exact eY
def ju (N:Nat){σ:Type}(fy:VY->σ->Option (Bool×σ))(a1:VY)(a2:Int):Nat->Int->σ->Option σ
 |0,_,_=>none
 |m4+1,p5,p6=>bif decide (p5<(a1.length:Int)) then (aE ((0:Int)<=p5/\p5.toNat<=a1.length/\a1.length<=a1.length) (aE (in64 (p5+(min a2 (((a1.drop p5.toNat).take (a1.length - p5.toNat)).length:Int)))) (aE (in64 (p5+(min a2 (((a1.drop p5.toNat).take (a1.length - p5.toNat)).length:Int)))) (aE ((0:Int)<=p5/\(0:Int)<=p5+(min a2 (((a1.drop p5.toNat).take (a1.length - p5.toNat)).length:Int))/\p5.toNat<=(p5+(min a2 (((a1.drop p5.toNat).take (a1.length - p5.toNat)).length:Int))).toNat/\(p5+(min a2 (((a1.drop p5.toNat).take (a1.length - p5.toNat)).length:Int))).toNat<=a1.length) ((fy ((a1.drop p5.toNat).take ((p5+(min a2 (((a1.drop p5.toNat).take (a1.length - p5.toNat)).length:Int))).toNat - p5.toNat)) p6).bind fun a6=>bif !a6.1 then (some a6.2) else (aE (in64 (p5+a2)) ((ju N fy a1 a2 m4) (p5+a2) a6.2))))))) else (some p6)
def tV (a1:VY)(a2:Int)(fy:VY->σ->Option (Bool×σ))(s0:σ):Option σ:=
 ju N fy a1 a2 N 0 s0
theorem DS {N:Nat}{a1:VY}{fy:VY->σ->Option (Bool×σ)}{s0 r:σ}(h:tV N a1 a2 fy s0=some r){l:Nat}{G:σ->Wa}(hY:wj Wc l G (fun (x:VY) vs cs=> ∃A0 n0 c0,vs=[Y A0 n0 c0]/\cs=[aZ A0 n0 c0 x]) fy):Okc Wc 252 [.func (.yield l) #[] #[],pV B1 0,pV B3 0] (aB B1 43 [Y A2 n2 c2]::aZ A2 n2 c2 a1::aB B3 3 [iV a2]::(G s0)) (fun u post=>u=.tuple #[]/\post=G r):=by
 refine bY Tryz.func252 ?_;refine lK (fun m s L=> ∃(p5:Int) (p6:σ),ju N fy a1 a2 m p5 p6=some r/\s=[(0,.func (.yield l) #[] #[]),(1,pV B1 0),(2,pV B3 0),(4,iV p5)]/\L=aZ A2 n2 c2 a1::aB B1 43 [Y A2 n2 c2]::aB B3 3 [iV a2]::(G p6)) N ?_;rintro m4 _ _ ⟨p5,p6,h,rfl,rfl⟩;rw [ju.eq_2] at h;refine sZ ?_;refine gH J h ?_ ?_<;>intro h
 ·refine sY ?_;refine dY [0,1,2] ?_;obtain ⟨q8,h⟩:=ac h;refine Dk 0 J (l:=p5.toNat) (h:=a1.length) q8.2.1 q8.2.2 ?_;rintro A9 n9 c9 e9;refine zR 3 J (zd 1 J e9 J z9 size29.out J (by rw [Wt q8.1];rfl) q8.2.1) ?_;refine zY [4] ?_;refine zE 5 J (Sm J J Ex Ex) ?_;refine zX [6] ?_;refine ab ?_;obtain ⟨b7,h⟩:=ac h;refine ab ?_;obtain ⟨b9,h⟩:=ac h;refine ab ?_;obtain ⟨a6,h⟩:=ac h;refine PC 1 J (l:=p5.toNat) (h:=(p5+(min a2 (((a1.drop p5.toNat).take (a1.length - p5.toNat)).length:Int))).toNat) a6.2.2.1 a6.2.2.2 ?_;rintro a8 b0 b5 b6;refine gR (Lg 2 J b6 J z9 size29.out J (by rw [Wt a6.1];rfl) (by rw [Wt a6.2.1];rfl) (by rw [Wt a6.2.1];rfl) a6.2.2.1 a6.2.2.2) ?_;obtain ⟨c7,k,h⟩:=aa h;refine gD (GM (a:=(a1.drop p5.toNat).take ((p5+(min a2 (((a1.drop p5.toNat).take (a1.length - p5.toNat)).length:Int))).toNat - p5.toNat)) [aZ a8 b0 b5 ((a1.drop p5.toNat).take ((p5+(min a2 (((a1.drop p5.toNat).take (a1.length - p5.toNat)).length:Int))).toNat - p5.toNat)),aZ A9 n9 c9 ((a1.drop p5.toNat).take (a1.length - p5.toNat)),aZ A2 n2 c2 a1,aB B1 43 [Y A2 n2 c2],aB B3 3 [iV a2]] hY k J J ⟨_,_,_,J,J⟩ (Id 0 J J)) ?_;rintro _ _ ⟨rfl,rfl⟩;refine dI h ?_ ?_<;>intro h
  ·exact eY
  refine ab ?_;obtain ⟨c8,h⟩:=ac h;exact lY
 exact eY
def ly (N:Nat)(a0:VY)(a1:Int):Option Unit:=
 bif decide (a1<1) then none else (some ())
theorem zA {N:Nat}{a0:VY}{r:Unit}(h:ly N a0 a1=some r):Okc Wc 241 [Y A1 n1 c1,iV a1] ([aZ A1 n1 c1 a0]) (fun u post=> ∃a6 a8,u=.func (.func 252) #[] #[pV a6 0,pV a8 0]/\post=[ae a6 43 [Y A1 n1 c1],ae a8 3 [iV a1]]):=by
 refine bY Tryz.func241 ?_;intro B2
 refine du fun B3=> ?_
 refine sZ ?_;refine gH J h ?_ ?_<;>intro h
 ·exact az h
 refine ab ?_;refine dU (eB J) ?_;exact eN
end
end Go.Proofs.YthhiddkljcacaaaGreat