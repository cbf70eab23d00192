/- Merged texts: part 3. No conditions of their own. -/
import Derived.Test.YthhiddkljcacaaaGreatG2
import Derived.Test.YthhiddkljcacaaaGreatChecked
import Derived.ProofKit
import Derived.Shelf.SlIterI.Nil
import Derived.Shelf.SortM.Plain
import Derived.Shelf.SortM.SortNone
import Derived.Shelf.SlGeneric
import Derived.Ground.GgzProg
import Derived.Ground.SlgmProg
import Derived.Test.YthhiddkljcacaaaGreatProg
set_option maxHeartbeats 4000000
namespace Go.Proofs.YthhiddkljcacaaaGreat
variable (N:Nat){listed:Array Bool}{af:Array Edge}{ops:Array Oper}{ats:Array TypeId}{c:Chunk}{X:Cx}{fn:Func}{f:FuncId}{a1 a2:Int}{K:K3}{a0:List (Int×Bool)}{l:List Oper}{xs:List Operand}{rs:List ResultVar}{B2 b bt fuel i k n pd:Nat}{x y:Operand}{gd:Option (Nat×Bool)}{A:Option Addr}{P:Program}{pos:String}{α β ι κ ρ σ:Type}{e t ty:TypeId}{L L' L2 M Z post pre:VI}{args cs us vs:VJ}{v:Value}{R R':Value->VI->Prop}{C:World->Prop}{s s2:bw}
section
theorem U0:type_of% Tryz.underlying9:=Tryz.underlying9
theorem UZ:type_of% Tryz.underlying126:=Tryz.underlying126
theorem UY:type_of% Tryz.underlying174:=Tryz.underlying174
theorem UX:type_of% Tryz.underlying156:=Tryz.underlying156
theorem UW:type_of% Tryz.underlying123:=Tryz.underlying123
theorem UV:type_of% Tryz.underlying99:=Tryz.underlying99
theorem UU:type_of% Tryz.underlying72:=Tryz.underlying72
theorem EM:type_of% Tryz.underlying40:=Tryz.underlying40
theorem Ex:type_of% Tryz.underlying22:=Tryz.underlying22
theorem z9:type_of% Tryz.underlying3:=Tryz.underlying3
theorem t9:type_of% Tryz.underlying43:=Tryz.underlying43
variable {c1 c2 c3:Nat}
open Go.RowKit
theorem ownsX.take {w:World}{sz c:Nat}(h:ownsX w e sz (.slice A n c) n cs)(hk:k<=n)(hn:0<n):ownsX w e sz (.slice A k c) k (cs.take (k*sz)):=by
 have h1:=h.1;have hm:k*sz<=n*sz:=W8 _ hk;refine ⟨by rw [Xq];omega,.inr ?_⟩;rcases h.2 with ⟨-,h0⟩|⟨g,cap,cur,e1,p1,p2,p3,p4,p5,p6⟩
 ·omega
 injection e1 with e1 _ e3
 subst e1 e3;exact ⟨g,c,cur,J,p1,p2,W5 hk p3,p4,p5,by rw [<-p6,List.take_take,Nat.min_eq_left hm]⟩
section
variable {d:Option Nat}
theorem Pc {g cap:Nat}(w:World)(inf:TypeInfo)(ht:P.underlying t=some (.slice e))(hi:P.info? e=some inf)(g2:ownsX w e inf.size (.slice (some ⟨g,0,none⟩) n cap) n cs)(a:Addr)(m c:Nat)(news:VJ)(hl:news.length=m*inf.size)(hnews:∀j u,news[j]? =some u->w.cell? (a.add j)=some u)(h1:∀u∈news,u.oneCell'=true)(hge:n+m<=cap):
  ∃w',(Builtin.append_ #[t,t] ty #[.slice (some ⟨g,0,none⟩) n cap,.slice (some a) m c]).run P w=.ok (.slice (some ⟨g,0,none⟩) (n+m) cap) w'/\ownsX w' e inf.size (.slice (some ⟨g,0,none⟩) (n+m) cap) (n+m) (cs++news)/\Fr (· =g) w w':=by
 rcases g2.2 with ⟨e1, -⟩|⟨g',cap',cur,e1,q1,q2,q3,q4,⟨c0,c1,c2,c3⟩,q6⟩
 ·cases e1
 obtain ⟨rfl,rfl⟩:g=g'/\cap=cap':=by injection e1 with e1 _ e3;injection e1 with e1;injection e1 with e1;exact ⟨e1,e3⟩
 have hfc:=run_firstCells_some (P:=P) w inf.size m a m c news hl hnews
 have hle:(n+m)*inf.size<=cur.size:=by rw [c3];exact W8 _ U
 have hsum:n*inf.size+news.length<=cur.size:=by rw [hl, <-WZ];exact hle
 obtain ⟨w',s1,s2,s3⟩:=fO (P:=P) (t:=e) news w g (n*inf.size) 0 cur q2 U (VY.2 h1)
 have hlen:(cs++news).length=(n+m)*inf.size:=by rw [Xp,g2.1,hl,WZ]
 refine ⟨w',?_,⟨hlen,.inr ⟨g,cap,_,J,Xa _,s3,hge,q4,⟨c0,c1,c2,by rw [Bl];exact c3⟩,?_⟩⟩,s2⟩
 ·simp [Builtin.append_,Xo ht,sizeOf,typeInfo,hi,Builtin.lenOf,hge,hfc,Addr.add_lit,s1]
 have hcur:cur=cur.toList.toArray:=by simp
 rw [Nat.add_zero,hcur,D1 _ _ _ (by simp;omega),q6, <-hlen,VB, <-VB];exact List.take_left
theorem MX {t e sz:Nat}{o z:Operand}{c l h m:Nat}(hx:be s x=some (.slice A n c))(hu:P.underlying t=some (.slice e))(hs:kK P e sz=true)(hl:be s o=some (.int .i64 (l:Int)))(hh:be s y=some (.int .i64 (h:Int)))(hm:be s z=some (.int .i64 (m:Int)))(h0:l<=h)(h1:h<=m)(h2:m<=c):Ev P s C ⟨d,.slice t x (some o) (some y) (some z),ty,pos,af,gd⟩ (.slice (mo A m l sz) (h - l) (m - l)):=fun ρ hρ w _=>by
 unfold execOp;simp only [Xd,Option.map_none,hρ x _ hx,hρ o _ hl,hρ y _ hh,hρ z _ hm,Instr.sliceAt,Instr.slice,Instr.sliceBounds,Xi,Xo hu,Xh,pc h2,pc h1,pc h0,kJ hs w,Xj];rfl
theorem F4 {R:Rep α}{c j sz by_:Nat}{xs:List α}(i:Nat)(hi:L[i]? =some (bh R e (.slice A n c) xs))(hx:be s x=some (.slice (mo A c 0 sz) (k - 0) (c - 0)))(hy:be s y=some (.slice (mo A c j sz) (n - j) (c - j)))(ht:P.underlying t=some (.slice e))(hz:rh P e sz by_=true)(hsz:R.sz=sz)(hn:n=xs.length)(h1:k<j)(h2:j<=n)(h3:n<=c):OpX P s L ⟨d,.call ⟨.builtin .append, #[x,y], #[t,t]⟩,ty,pos,af,gd⟩ fun u L'=> ∃A',u=.slice A' (k+(n - j)) c/\L'=L.set i (bh R e (.slice A' (k+(n - j)) c) (xs.take k++xs.drop j)):=fun ρ hρ Z w hw=>by
 subst hsz hn;unfold rh at hz
 cases hinfo:P.info? e with
 |none=>rw [hinfo] at hz;cases hz
 | some inf=>
  rw [hinfo] at hz;simp only [Xt] at hz;have e2:=W0 hz.1.1.1;obtain ⟨T,S,hT⟩:=hw;obtain ⟨vss,g1,g2⟩:=hT.ok (aR hi);rcases g2 with ⟨g2,g3⟩|⟨h0, -⟩
  rotate_left
  ·omega
  rcases g2.2 with ⟨-,h0⟩|⟨g,cap,cur,e1,p1,p2,p3,p4,p5,p6⟩
  ·omega
  obtain ⟨rfl,rfl⟩:A=some ⟨g,0,none⟩/\c=cap:=by injection e1 with e1 _ e3;exact ⟨e1,e3⟩
  have ex:(Value.slice (mo (some ⟨g,0,none⟩) c 0 R.sz) (k - 0) (c - 0))=.slice (some ⟨g,0,none⟩) k c:=by
   unfold mo;rw [if_neg U];simp [jV]
  have hk:=g2.take (k:=k) U U;have hrows:=nZ g1;have hdrop:(vss.drop j).flatten=vss.flatten.drop (j*R.sz):=yO g1 j
  have hlen:(vss.drop j).flatten.length=(xs.length - j)*R.sz:=by
   have:=nZ (g1.drop j);rw [Ww] at this;exact this
  have hcells:=mb (cap:=c) p2 p6
  have htake:vss.flatten.take (k*R.sz)=(vss.take k).flatten:=by
   have h5:vss.flatten=(vss.take k).flatten++(vss.drop k).flatten:=by rw [<-List.flatten_append,WS]
   have h6:=nZ (g1.take k);rw [Xq,Nat.min_eq_left U] at h6;rw [h5, <-h6,List.take_left]
  obtain ⟨a,m2,ea,hnews⟩: ∃(a:Addr) (m2:Nat),(Value.slice (mo (some ⟨g,0,none⟩) c j R.sz) (xs.length - j) (c - j))=.slice (some a) (xs.length - j) m2/\ ∀q u,(vss.drop j).flatten[q]? =some u->w.cell? (a.add q)=some u:=by
   unfold mo;by_cases hc:c=j
   ·rw [if_pos hc];refine ⟨⟨g,0,none⟩,c - j,J,fun q u hq=> ?_⟩;have:(vss.drop j).flatten=[]:=V7 (by rw [hlen,show xs.length - j=0 by omega];simp);rw [this] at hq;simp at hq
   rw [if_neg hc];refine ⟨⟨g,j*R.sz,none⟩,c - j,by simp [jV],fun q u hq=> ?_⟩;rw [jV];rw [hdrop,Wi] at hq;have:=hcells _ _ hq
   rwa [W9] at this
  obtain ⟨w',r1,r2,r3⟩:=Pc (P:=P) (ty:=ty) w inf ht hinfo (by rw [e2];exact hk) a (xs.length - j) m2 (vss.drop j).flatten (by rw [e2];exact hlen) hnews (VY.1 (vz (g1.drop j))) U;rw [e2,htake, <-List.flatten_append] at r2
  have hxl:(xs.take k++xs.drop j).length=k+(xs.length - j):=by rw [Xp,Xq,Ww];omega
  refine .inl ⟨_,w',L.set i (bh R e (.slice (some ⟨g,0,none⟩) (k+(xs.length - j)) c) (xs.take k++xs.drop j)),?_,?_,_,J,J⟩
  ·rw [fv (P:=P) (ρ:=ρ) (d:=d) (ty:=ty) (pos:=pos) (af:=af) (gd:=gd) (b:=.append) (xs:=[x,y]) (ats:= #[t,t]) (vs:=[.slice (some ⟨g,0,none⟩) k c,.slice (some a) (xs.length - j) m2]) (by simp [hρ x _ (hx.trans (congrArg some ex)),hρ y _ (hy.trans (congrArg some ea))]) w];simp only [builtin,Xi];have r1':(Builtin.append_ #[t,t] ty [Value.slice (some ⟨g,0,none⟩) k c,.slice (some a) (xs.length - j) m2].toArray).run P w=.ok (.slice (some ⟨g,0,none⟩) (k+(xs.length - j)) c) w':=r1;rw [r1'];rfl
  have hTg:T i g:=g3 g rfl
  have hfin:SepL ((L++Z).set i (bh R e (.slice (some ⟨g,0,none⟩) (k+(xs.length - j)) c) (xs.take k++xs.drop j))) w':=by
   refine hT.upd (aR hi) (T':=T i) (Agr.of_fr r3 fun q hq e=>hq (e▸hTg)) (fun _=> .inl) (fun q hq=>W6 (hT.lt hq) r3.size) ?_
   have hS:Agr S w w':=Agr.of_fr r3 fun q hq e=>hT.ro hTg (e▸hq)
   exact ⟨vss.take k++vss.drop j,((g1.take k).append (g1.drop j)).imp fun _ _=>R.loc hS,.inl ⟨by rw [hxl];exact r2,fun q hq=>by cases hq;exact hTg⟩⟩
  rw [lH Z hi] at hfin;exact hfin
def Q9 (P:Program)(e:TypeId):Bool:=match P.info? e with
 |some i=>match i.zero with
  |some z=>z.cells.all (·.oneCell')
  |none=>false
 |none=>false
theorem HG {R:Rep α}{c o sz by_:Nat}{xs:List α}(i:Nat)(hi:L[i]? =some (bh R e (.slice A n c) xs))(hx:be s x=some (.slice (mo A c n sz) (o - n) (c - n)))(ht:P.underlying t=some (.slice e))(hz:rh P e sz by_=true)(ho:Q9 P e=true)(hsz:R.sz=sz)(h1:n<o)(h2:o<=c):OpX P s L ⟨d,.call ⟨.builtin .clear, #[x], #[t]⟩,ty,pos,af,gd⟩ fun u L'=>u=.tuple #[]/\L'=L:=fun ρ hρ Z w hw=>by
 subst hsz;unfold rh at hz
 cases hinfo:P.info? e with
 |none=>rw [hinfo] at hz;cases hz
 | some inf=>
  rw [hinfo] at hz;simp only [Xt] at hz;obtain ⟨⟨⟨q2,q3⟩,q4⟩,q5⟩:=hz
  cases hzz:inf.zero with
  |none=>rw [hzz] at q4;cases q4
  | some z=>
   rw [hzz] at q4;have e4:=W0 q4;obtain ⟨T,S,hT⟩:=hw;obtain ⟨vss,g1,g2⟩:=hT.ok (aR hi);rcases g2 with ⟨g2,g3⟩|⟨h0,A0,e0⟩
   rotate_left
   ·injection e0 with _ _ e0;omega
   rcases g2.2 with ⟨e0, -⟩|⟨g,cap,cur,e1,p1,p2,p3,p4,p5,p6⟩
   ·injection e0 with _ _ e0;omega
   obtain ⟨rfl,hn,rfl⟩:A=some ⟨g,0,none⟩/\n=xs.length/\c=cap:=by injection e1 with e1 e2 e3;exact ⟨e1,e2,e3⟩
   subst hn;obtain ⟨c0,k1,k2,k3⟩:=p5
   have ex:(Value.slice (mo (some ⟨g,0,none⟩) c xs.length R.sz) (o - xs.length) (c - xs.length))=.slice (some ⟨g,xs.length*R.sz,none⟩) (o - xs.length) (c - xs.length):=by
    unfold mo;rw [if_neg U];simp [jV]
   have hzl:(Builtin.zeroCells z.cells (o - xs.length)).toList.length=(o - xs.length)*R.sz:=by rw [Array.length_toList,size_zeroCells,e4]
   have hz1:(Builtin.zeroCells z.cells (o - xs.length)).toList.all (·.oneCell')=true:=by
    have ho':z.cells.all (·.oneCell')=true:=by
     unfold Q9 at ho;rw [hinfo] at ho;simp only [hzz] at ho;exact ho
    rw [VY];intro u hu;simp only [Builtin.zeroCells,Array.toList_map,WI] at hu;obtain ⟨q, -,rfl⟩:=hu;by_cases h9:q%z.cells.size<z.cells.size
    ·rw [getElem!_pos z.cells _ h9];exact Array.all_eq_true.1 ho' _ h9
    rw [getElem!_neg z.cells _ h9];rfl
   have hsum:xs.length*R.sz+(o - xs.length)*R.sz<=cur.size:=by
    rw [<-WZ,k3];exact W8 _ U
   obtain ⟨w',s1,s2,s3⟩:=fO (P:=P) (t:=e) (Builtin.zeroCells z.cells (o - xs.length)).toList w g (xs.length*R.sz) 0 cur p2 (by rw [hzl];omega) hz1;refine .inl ⟨.tuple #[],w',L,?_,?_,J,J⟩
   ·rw [fv (P:=P) (ρ:=ρ) (d:=d) (ty:=ty) (pos:=pos) (af:=af) (gd:=gd) (b:=.clear) (xs:=[x]) (ats:= #[t]) (vs:=[.slice (some ⟨g,xs.length*R.sz,none⟩) (o - xs.length) (c - xs.length)]) (by simp [hρ x _ (hx.trans (congrArg some ex))]) w];obtain ⟨q,hq⟩: ∃q,o - xs.length=q+1:=⟨o - xs.length - 1,by omega⟩;rw [hq] at s1⊢;simp only [builtin,Builtin.clear_,Xi,Ws,Wh,Xo ht,Xh];simp [zeroValue,typeInfo,hinfo,hzz,s1]
   have hTg:T i g:=g3 g rfl
   have hfin:SepL ((L++Z).set i (bh R e (.slice (some ⟨g,0,none⟩) xs.length c) xs)) w':=by
    refine hT.upd (aR hi) (T':=T i) (Agr.of_fr s2 fun q hq e=>hq (e▸hTg)) (fun _=> .inl) (fun q hq=>W6 (hT.lt hq) s2.size) ?_
    have hS:Agr S w w':=Agr.of_fr s2 fun q hq e=>hT.ro hTg (e▸hq)
    refine ⟨vss,g1.imp fun _ _=>R.loc hS,.inl ⟨⟨g2.1,.inr ⟨g,c,_,J,p1,s3,p3,p4,⟨c0,k1,k2,by rw [Bl];exact k3⟩,?_⟩⟩,g3⟩⟩
    have hcur:cur=cur.toList.toArray:=by simp
    have hle:xs.length*R.sz<=cur.toList.length:=by simp;omega
    rw [Nat.add_zero,hcur,D1 _ _ _ (by rw [hzl];simp;omega),VB,List.take_append_of_le_length (by rw [Xq];omega),List.take_take,Nat.min_self];exact p6
   rw [lH Z hi] at hfin
   have e9:L.set i (bh R e (.slice (some ⟨g,0,none⟩) xs.length c) xs)=L:=by
    apply V8;intro q;by_cases e:i=q
    ·subst e;rw [Wo (Wl.1 hi).1,hi]
    rw [Wn e]
   rw [e9] at hfin;exact hfin
end
section
theorem Sj {R:Rep α}{c:Nat}{xs:List α}(i:Nat)(hi:L[i]? =some (bh R e (.slice A n c) xs))(k:n=xs.length->n<=c->aY X ops l K s L):aY X ops l K s L:=fun H Ds a w ha hd hw=>by
 obtain ⟨T,S,hT⟩:=hw.get (aR hi);obtain ⟨A',c',e1,h1, -⟩:=aj _ _ _ hT
 injection e1 with _ e2 e3
 exact k e2 U H Ds a w ha hd hw
end
end
section
open Go.RowKit
def ov (_:Nat)(a0:List α)(a1 a2:Int):Option (List α):=aD (0<=a1/\a1<=a2/\a2.toNat<=a0.length) (some (a0.take a1.toNat++a0.drop a2.toNat))
theorem Ct {N:Nat}{R:Rep α}{a0 r:List α}(h:ov N a0 a1 a2=some r){c:Nat}(hR:R.sz=3:=by rfl):Okc VK 95 [.slice A n c,.int .i64 a1,.int .i64 a2] [bh R 29 (.slice A n c) a0] (fun u post=> ∃A n c,u=.slice A n c/\post=[bh R 29 (.slice A n c) r]):=by
 obtain ⟨⟨p1,p2,p3⟩,h⟩:=ac h;obtain rfl:=jg h;obtain ⟨i,rfl⟩: ∃i:Nat,a1=(i:Int):=⟨a1.toNat,by omega⟩;obtain ⟨j,rfl⟩: ∃j:Nat,a2=(j:Int):=⟨a2.toNat,by omega⟩;simp only [VW] at*
 have hij:i<=j:=by omega
 have size3:kK VK 29 3=true:=by kernel_rfl
 refine F6 Tryz.func95 J J ?_;simp only [uj];refine au ?_;refine jW ?_;refine ie (mf J) J J J ?_;refine z8 ?_;refine An ?_;refine au ?_;refine jW ?_
 refine Sj 0 J fun hn hc=> ?_
 refine ie (ap J) J J J ?_;refine ie (ap J) J J J ?_;refine ie (ap J) J J J ?_;refine ie (ap J) J J J ?_;refine sj (rX 0 J aj J t9) J J J ?_;refine ie (MX (l:=i) (h:=j) (m:=a0.length) J t9 size3 J J J hij p3 U) J J J ?_;refine z8 ?_;refine An ?_;refine au ?_;refine au ?_;refine jW ?_;refine ie (ap J) J J J ?_;refine ie (ap J) J J J ?_;refine ie (Ri J J) J J J ?_;refine z8 ?_;refine An ?_;refine KX J (fun g=> ?_) (fun g=> ?_)
 ·have e:i=j:=by have:=Xn g;omega
  subst e;refine au ?_;refine jW ?_;refine ie (ap J) J J J ?_;refine ie (mf J) J J J ?_;refine z8 ?_;refine An ?_;refine JR ?_;refine PR ?_;rw [WS];exact z7 J J (ah _) ⟨_,_,_,J,J⟩
 have hlt:i<j:=by
  have:=Xm g;omega
 refine Ir ?_;refine An ?_;refine au ?_;refine jW ?_;refine ie (ap J) J J J ?_;refine sj (rX 0 J aj J t9) J J J ?_;refine ie (mf J) J J J ?_;refine z8 ?_;refine An ?_;refine au ?_;refine bi I [] (yp [] 1 J J) ?_;refine wR 0 J I (ap J) J J ?_;refine wR 1 J I (ap J) J J ?_;refine wR 2 J I (rH (lo:=none) (l:=0) (h:=i) J t9 size3 J J (Xa _) U) J J ?_;refine wR 3 J I (ap J) J J ?_;refine wR 4 J I (ap J) J J ?_;refine wR 5 J I (rH (hi:=none) (l:=j) (h:=n) J t9 size3 J J U hc) J J ?_;refine C7 6 J I (F4 (k:=i) (j:=j) (sz:=3) (by_:=32) 0 J J J t9 I hR hn hlt U hc) J J J ?_;rintro _ _ ⟨A',rfl,rfl⟩;refine ⟨[],yp [] 1 J J,ah _,?_⟩;refine wR 7 J I (mf J) J J ?_;refine dB I ?_;refine An ?_
 have hlen:(a0.take i++a0.drop j).length=i+(n - j):=by rw [Xp,Xq,Ww];omega
 refine au ?_;refine jW ?_;refine ie (ap J) J J J ?_;refine ie (ap J) J J J ?_;refine sj (rX 0 J aj J t9) J J J ?_;rw [hlen];refine ie (ap J) J J J ?_;refine ie (rH (l:=i+(n - j)) (h:=a0.length) J t9 size3 J J U U) J J J ?_;refine Rn (HG (n:=i+(n - j)) (o:=a0.length) (sz:=3) (by_:=32) 0 J J t9 I I hR U U) J J ?_;rintro _ _ ⟨rfl,rfl⟩;refine z8 ?_;refine An ?_;refine au ?_;refine jW ?_;refine ie (ap J) J J J ?_;refine ie (mf J) J J J ?_;refine z8 ?_;refine An ?_;refine JR ?_;exact z7 J J (ah _) ⟨_,_,_,J,J⟩
end
section
open Go.RowKit
section
theorem gH {c:Operand}{x y:Code}{b:Bool}{u v r:Option ρ}(hc:be s c=some (.bool b))(h:(bif b then u else v)=r)(ht:u=r->Wq X x K s L)(hf:v=r->Wq X y K s L):Wq X (.cond c x y) K s L:=KX hc (fun g=>ht (pY g h)) fun g=>hf (pZ g h)
variable {rest:List Oper}{d:Nat}{op:Op}
theorem gV {C:VI}(h:OpX X.P s L ⟨some d,op,ty,pos,af,gd⟩ fun u L'=> ∃post,(u=v/\post=C)/\L'=post++Z)(k:aY X ops rest K ((d,v)::s) (C++Z))(hn:eC ⟨some d,op,ty,pos,af,gd⟩=true:=by rfl)(hg:aA ops s ⟨some d,op,ty,pos,af,gd⟩=some true:=by rfl)(hd:Nat.ble (d+1) X.n=true:=by rfl):aY X ops (⟨some d,op,ty,pos,af,gd⟩::rest) K s L:=gD h (by rintro _ _ ⟨_,⟨rfl,rfl⟩,rfl⟩;exact k) hn hg hd
theorem gU {C:VI}(h:OpX X.P s L ⟨some d,op,ty,pos,af,gd⟩ fun u L'=> ∃post,(u=v/\post=C)/\L'=post++Z)(hg:aA ops s ⟨some d,op,ty,pos,af,gd⟩=some true)(k:aY X ops rest K ((d,v)::s) (C++Z))(hn:eC ⟨some d,op,ty,pos,af,gd⟩=true:=by rfl)(hd:Nat.ble (d+1) X.n=true:=by rfl):aY X ops (⟨some d,op,ty,pos,af,gd⟩::rest) K s L:=gD h (by rintro _ _ ⟨_,⟨rfl,rfl⟩,rfl⟩;exact k) hn hg hd
theorem gW (h:OpX X.P s L ⟨none,op,ty,pos,af,gd⟩ fun _ L'=>L'=Z)(k:aY X ops rest K s Z)(hn:eC ⟨none,op,ty,pos,af,gd⟩=true:=by rfl)(hg:aA ops s ⟨none,op,ty,pos,af,gd⟩=some true:=by rfl):aY X ops (⟨none,op,ty,pos,af,gd⟩::rest) K s L:=gO h (by rintro _ _ rfl;exact k) hn hg
theorem gB {F:Nat->Value}{G:Nat->VI}(h:OpX X.P s L ⟨some d,op,ty,pos,af,gd⟩ fun u L'=> ∃b,u=F b/\L'=G b)(k:∀b,aY X ops rest K ((d,F b)::s) (G b))(hn:eC ⟨some d,op,ty,pos,af,gd⟩=true:=by rfl)(hg:aA ops s ⟨some d,op,ty,pos,af,gd⟩=some true:=by rfl)(hd:Nat.ble (d+1) X.n=true:=by rfl):aY X ops (⟨some d,op,ty,pos,af,gd⟩::rest) K s L:=gD h (by rintro _ _ ⟨b,rfl,rfl⟩;exact k b) hn hg hd
end
end
section
open Go.RowKit
class FcI (P:Program) (t:Nat) (v:outParam Value):Prop where
  out: ∀w,(zeroValue t).run P w=.ok v w
class FcB (P:Program) (t:Nat) (vs:List (Nat×Value)) (v:outParam Value):Prop where
  out: ∀w,(Instr.build t vs.toArray).run P w=.ok v w
class RepF {α:Type} (R:Rep α) (f:outParam (α->VJ)):Prop where
  out: ∀S w vs x,R.rel S w vs x->vs=f x
theorem Aq {l:List α}(h:l=[]):l=[]:=h
theorem wq {l t T:List α}{a:α}(h:l=a::t)(k:t=T):l=a::T:=k▸h
inductive FndR (b:Nat) (cs:VJ):VI->Prop
  |w {bt L:_}:FndR b cs (ae b bt cs::L)
  |r {bt L:_}:FndR b cs (aC b bt cs::L)
  |s {c L:_} (h:FndR b cs L):FndR b cs (c::L)
theorem FndR.ix (h:FndR b cs L): ∃(i:Nat) (bt:TypeId),L[i]? =some (ae b bt cs)\/L[i]? =some (aC b bt cs):=by
  induction h with
  |w=>exact ⟨0,_,.inl rfl⟩
  |r=>exact ⟨0,_,.inr rfl⟩
  |s _ ih=>obtain ⟨i,bt,h⟩:=ih;exact ⟨i+1,bt,h⟩
inductive FndW (b:Nat) (bt:TypeId) (cs cs':VJ):VI->VI->Prop
  |w {L:_}:FndW b bt cs cs' (ae b bt cs::L) (ae b bt cs'::L)
  |s {c L L':_} (h:FndW b bt cs cs' L L'):FndW b bt cs cs' (c::L) (c::L')
theorem FndW.ix {cs':VJ}(h:FndW b bt cs cs' L L'): ∃i:Nat,L[i]? =some (ae b bt cs)/\L'=L.set i (ae b bt cs'):=by
  induction h with
  |w=>exact ⟨0,rfl,rfl⟩
  |s _ ih=>obtain ⟨i,h,e⟩:=ih;exact ⟨i+1,h,by rw [e];rfl⟩
inductive FndE {α:Type} (R:Rep α) (v:Value) (xs:List α):VI->Prop
  |w {c L:_} (h:Gh R v xs c):FndE R v xs (c::L)
  |s {c L:_} (h:FndE R v xs L):FndE R v xs (c::L)
theorem FndE.ix {R:Rep α}{xs:List α}(h:FndE R v xs L): ∃(i:Nat) (c:Chunk),L[i]? =some c/\Gh R v xs c:=by
  induction h with
  |w h=>exact ⟨0,_,rfl,h⟩
  |s _ ih=>obtain ⟨i,c,h⟩:=ih;exact ⟨i+1,c,h⟩
structure RdS (P:Program) (s:bw) (L:VI) (o:Oper) (v:Value):Prop where
  out:Rd P s L o v
theorem Ub:MV s []=some []:=rfl
theorem Uc {r:List (Nat×Operand)}{l:List (Nat×Value)}(h:be s x=some v)(k:MV s r=some l):MV s ((i,x)::r)=some ((i,v)::l):=by unfold MV;rw [h,k]
section
variable {rest:List Oper}{d:Nat}
theorem UH {op:Op}(h:Tx s op=some v):RdS P s L ⟨some d,op,ty,pos,af,gd⟩ v:=⟨fun _ _ _=>fun ρ hρ w _=>OM h ρ hρ w trivial⟩
theorem UB {c:Operand}{g:Bool}(hc:be s c=some (.bool g))(hg:g=true)(hx:be s x=some v):RdS P s L ⟨some d,.pick c x y,ty,pos,af,gd⟩ v:=⟨fun _ _ _=>AC hg hc hx⟩
theorem UA {c:Operand}{g:Bool}(hc:be s c=some (.bool g))(hg:g=false)(hy:be s y=some v):RdS P s L ⟨some d,.pick c x y,ty,pos,af,gd⟩ v:=⟨fun _ _ _=>wz hg hc hy⟩
theorem TD {t f o:Nat}[h:FcA0 P t f](hx:be s x=some (.pointer (some ⟨b,o,none⟩))):RdS P s L ⟨some d,.fieldAddr t x f,ty,pos,af,gd⟩ (.pointer (some ⟨b,o,none⟩)):=⟨fun _ _ _=>se hx h.out⟩
theorem UG {t f o' o:Nat}[h:FcA P t f o'](hx:be s x=some (.pointer (some ⟨b,o,none⟩))):RdS P s L ⟨some d,.fieldAddr t x f,ty,pos,af,gd⟩ (.pointer (some ⟨b,o+o',none⟩)):=⟨fun _ _ _=>jS hx h.out⟩
theorem UJ {o:Nat}[hu:Fc (iX P t=true)](hx:be s x=some (.pointer (some ⟨b,o,none⟩)))(hi:FndR b cs L)(hc:cs[o]? =some v):RdS P s L ⟨some d,.load t x,ty,pos,af,gd⟩ v:=⟨by
  obtain ⟨i,bt,h|h⟩:=hi.ix
  ·exact bO i h hx hu.out hc
  ·exact Ba i h hx hu.out hc⟩
theorem Uz {o:Nat}[hu:FcG P t n](hx:be s x=some (.pointer (some ⟨b,o,none⟩)))(hi:FndR b cs L)(hc:(cs.drop o).take n=us)(hn:us.length=n):RdS P s L ⟨some d,.load t x,ty,pos,af,gd⟩ (.agg us.toArray):=⟨by
  obtain ⟨i,bt,h|h⟩:=hi.ix
  ·exact ja (us:=us) i h hx (hn▸hu.out) (hn▸hc)
  ·exact NG (us:=us) i h hx (hn▸hu.out) (hn▸hc)⟩
theorem UI {ps:List (Nat×Operand)}{vs:List (Nat×Value)}(hp:MV s ps=some vs)(hb:FcB P t vs v):RdS P s L ⟨some d,.build t ps.toArray,ty,pos,af,gd⟩ v:=⟨fun _ _ _=>ns hp hb.out⟩
theorem UD {R:Rep α}{t e sz:Nat}{xs:List α}{i:Int}[hu:FcS P t e][hz:FcZ P e sz](hx:be s x=some v)(hy:be s y=some (.int .i64 i))(he:FndE R v xs L)(h0:0<=i)(h1:i<xs.length):RdS P s L ⟨some d,.indexAddr t x y,ty,pos,af,gd⟩ (dk v i.toNat sz 0):=⟨by
  obtain ⟨j,c,h,e⟩:=he.ix
  exact cK j h e hx hy hu.out hz.out h0 h1⟩
theorem UF {R:Rep α}{f:α->VJ}{t sz:Nat}{xs:List α}{off:Nat}{y:α}[hu:FcG P t n](hx:be s x=some (dk v k sz off))(he:FndE R v xs L)(hf:RepF R f)(hy:xs[k]? =some y)(hz:R.sz=sz)(hc:((f y).drop off).take n=us)(hn:us.length=n):RdS P s L ⟨some d,.load t x,ty,pos,af,gd⟩ (.agg us.toArray):=⟨by
  obtain ⟨j,c,h,e⟩:=he.ix;subst hz
  exact gp (us:=us) j h e hx hy (hn▸hu.out) fun S w vs hr=>by rw [hf.out _ _ _ _ hr,hn];exact hc⟩
theorem UE {R:Rep α}{f:α->VJ}{t sz:Nat}{xs:List α}{off:Nat}{y:α}{u:Value}[hu:Fc (iX P t=true)](hx:be s x=some (dk v k sz off))(he:FndE R v xs L)(hf:RepF R f)(hy:xs[k]? =some y)(hz:R.sz=sz)(hc:(f y)[off]? =some u):RdS P s L ⟨some d,.load t x,ty,pos,af,gd⟩ u:=⟨by
  obtain ⟨j,c,h,e⟩:=he.ix;subst hz
  exact kN (u:=u) j h e hx hy hu.out fun S w vs hr=>by rw [hf.out _ _ _ _ hr];exact hc⟩
theorem tR {op:Op}(h:RdS X.P s L ⟨some d,op,ty,pos,af,gd⟩ v)(hn:eC ⟨some d,op,ty,pos,af,gd⟩=true)(hd:Nat.ble (d+1) X.n=true)(k:aY X ops rest K ((d,v)::s) L):RunT X ops ⟨some d,op,ty,pos,af,gd⟩ rest K s L:=⟨fun hh=>sj h.out hn hh hd k⟩
theorem UN (h:mM X ops K M fuel listed s L):mM X ops K M fuel listed s L:=h
theorem tN (hr:Region.ready .any ops listed=[])(h:K .normal s L):mM X ops K M 0 listed s L:=dB hr h
theorem tZ {op:Op}(i:Nat)(hI:ops.size - (fuel+1)=i)(hi:ops[i]? =some ⟨some d,op,ty,pos,af,gd⟩)(h:RdS X.P s M ⟨some d,op,ty,pos,af,gd⟩ v)(hk:N0 ops listed i=true)(hg:aA ops s ⟨some d,op,ty,pos,af,gd⟩=some true)(hd:Nat.ble (d+1) X.n=true)(k:mM X ops K M fuel (listed.setIfInBounds i true) ((d,v)::s) L):mM X ops K M (fuel+1) listed s L:=zR i hi h.out k hk hg hd
theorem tW {bt:TypeId}{o:Nat}{cs':VJ}[hs:FcZ X.P t n](hx:be s x=some (.pointer (some ⟨b,o,none⟩)))(hy:be s y=some v)(hv:v.cells.toList=us)(hf:FndW b bt cs cs' L L')(hc':cs.take o++us++cs.drop (o+us.length)=cs')(hn:us.length=n)(h1:us.all (·.oneCell')=true)(hc:Nat.ble (o+us.length) cs.length=true)(k:aY X ops rest K s L'):RunT X ops ⟨none,.store t x y,ty,pos,af,gd⟩ rest K s L:=⟨fun hh=>by
  obtain ⟨i,h,e⟩:=hf.ix
  exact gW (ar (us:=us) (cs':=cs') i h hx hy hv (hn▸hs.out) h1 hc hc') (e▸k) J hh⟩
theorem tA [hz:FcI X.P t v](hc:v.cells.toList=cs)(hd:Nat.ble (d+1) X.n=true)(k:∀b,aY X ops rest K ((d,pV b 0)::s) (ae b t cs::L)):RunT X ops ⟨some d,.alloc t,ty,pos,af,gd⟩ rest K s L:=⟨fun hh=>gB (cF hz.out hc) k rfl hh hd⟩
theorem tX (hx:be s x=some v)(hc:v.cells.toList=cs)(hd:Nat.ble (d+1) X.n=true)(k:∀b,aY X ops rest K ((d,pV b 0)::s) (ae b t cs::L)):RunT X ops ⟨some d,.box t x,ty,pos,af,gd⟩ rest K s L:=⟨fun hh=>gB (CH hx hc) k rfl hh hd⟩
end
end
section
open Go.RowKit
def Ka (Q:ι->VI):Chunk where
 ok _ S w:= ∃x:ι, ∀c∈Q x,c.ok (fun _=>False) S w
 loc:=fun h ⟨x,k⟩=>⟨x,fun c hc=>c.loc (h.mono fun _ hq=>hq.elim False.elim .inr) (k c hc)⟩
 mono:=fun h ⟨x,k⟩=>⟨x,fun c hc=>c.mono h (k c hc)⟩
 ro:=true
 dup:=fun _ _ _ _ h=>h
class LentP {ι κ:Type} (Q:ι->VI) (R:κ->VI):Prop where
 out: ∀x,wF (Q x) (Ka R)
class LentQ {ι κ:Type} (Q:ι->VI) (R:outParam (κ->VI)):Prop where
 out:LentP Q R
instance lentQP {Q:ι->VI}{R:κ->VI}[h:LentQ Q R]:LentP Q R:=h.out
class MemR {ι:Type} (Q:ι->VI) (c:Chunk):Prop where
 out: ∀x,c∈Q x
theorem LentP.of {Q:ι->VI}{R:κ->VI}(h:∀x, ∃y, ∀d∈R y,wF (Q x) d):LentP Q R:=⟨fun x T S w hT=>by
 obtain ⟨y,hy⟩:=h x
 exact ⟨y,fun d hd=>hy d hd T S w hT⟩⟩
theorem za {Q:ι->VI}{R:κ->VI}(hi:L[i]? =some (dO Q))[hp:LentP Q R]:wF L (Ka R):=fun T S w h=>by
 obtain ⟨x,T',h1,h2,h3⟩:=h.ok hi;exact hp.out x T' S w ⟨fun hj=>h1 _ _ hj,fun hij a b=>h2 _ _ _ hij a b,fun a b=>h.ro (h3 _ _ a) b,fun a=>h.lt (h3 _ _ a),h.lts⟩
theorem D4 {Q:ι->VI}{R:κ->VI}(hi:L[i]? =some (dO Q))[hp:LentQ Q R]:wF L (Ka R):=za hi
theorem LentP.sub {η:Type}{Q:ι->VI}{R:κ->VI}{R':η->VI}(i:Nat)(h:∀x,(Q x)[i]? =some (dO R'))[hp:LentP R' R]:LentP Q R:=⟨fun x=>za (h x)⟩
theorem P0 {Q:ι->VI}(hi:L[i]? =some (Ka Q))[hp:MemR Q c]:wF L c:=fun T S w h=>by
 obtain ⟨x,hx⟩:=h.ok hi;exact c.mono (fun _ hq=>h.lts hq) (hx c (hp.out x))
theorem sR (h:L.Perm M):Cv L M:=by
 induction h with
 |nil=>exact ah _
 |cons c _ ih=>exact mH c ih
 |swap a b l=>exact yp [1,0] 2 rfl rfl
 |trans _ _ h1 h2=>exact h1.trans h2
theorem IC {L:List α}{c:α}(hk:L[k]? =some c):L=L.take k++c::L.drop (k+1):=by
 obtain ⟨h1,h2⟩:=Wl.1 hk;rw [<-h2,List.getElem_cons_drop,WS]
theorem okN (h:Okc P f args L R)(hr:∀v post,R v post-> ∃post',R' v post'/\Cv post post'):Okc P f args L R':=⟨h.cal,fun Z w hw=>
 (h.run Z w hw).mono fun _ _ ⟨v,post,h1,h2,h3⟩=>by
  obtain ⟨post',g1,g2⟩:=hr v post h3
  exact ⟨v,post',h1,g2 _ _ h2,g1⟩⟩
theorem TP {R:ι->Value->VI->Prop}{Q:ι->VI}[Inhabited ι](k:Nat)(hk:L[k]? =some (dO Q))(h:∀x,Okc P f args (L.take k++(Q x++L.drop (k+1))) (R x))(hr:∀x v post,R x v post-> ∃post',R' v post'/\Cv post post'):Okc P f args L R':=⟨(h default).cal,fun Z w hw=>by
 rw [IC hk] at hw;obtain ⟨x,hx⟩:=kF (sR WP Z w hw)
 exact (okN (h x) (hr x)).run Z w (sR (WO _ _ _) Z w hx)⟩
theorem NZ {Q:ι->VI}[Inhabited ι](k:Nat)(hk:L[k]? =some (Ka Q))(h:∀x,Okc P f args (L.take k++(Q x++L.drop (k+1))) R):Okc P f args L R:=⟨(h default).cal,fun Z w hw=>by
 rw [IC hk] at hw;have h1:=sR WP Z w hw;obtain ⟨T,S,hT⟩:=h1;obtain ⟨x,hx⟩:=hT.ok (i:=0) (c:=Ka Q) rfl;obtain ⟨T',h2⟩:=SepL.facts (Q x) hT hx;have h3:Sp Z (Q x++(Ka Q::(L.take k++L.drop (k+1)))) w:=⟨T',S,by rw [VB];exact h2⟩;have h4:Sp Z (Q x++(L.take k++L.drop (k+1))) w:=cv_tl _ _ (sR WP _ _ h3)
 exact (h x).run Z w (sR (WO _ _ _) Z w h4)⟩
theorem Uu {p:VI->Prop}{post':VI}(h:p post')(k:Cv post post'): ∃post',p post'/\Cv post post':=⟨post',h,k⟩
theorem QN {Q:ι->VI}{Q':κ->VI}(h:∀x, ∃y,(Q x).Perm (c::Q' y)):Cv (dO Q::L) (c::dO Q'::L):=fun Z w hw=>by
 obtain ⟨x,hx⟩:=kF hw;obtain ⟨y,hy⟩:=h x;have h1:Sp Z (c::(Q' y++L)) w:=sR (hy.append_right L) Z w hx;exact mH c (eX (Q:=Q') y) Z w h1
theorem OU {Q:ι->VI}{Q':κ->VI}(h:∀y, ∃x,(c::Q' y).Perm (Q x)):Cv (c::dO Q'::L) (dO Q::L):=fun Z w hw=>by
 obtain ⟨y,hy⟩:=kF (sR (List.Perm.swap _ _ _) Z w hw);obtain ⟨x,hx⟩:=h y;have h1:Sp Z (c::(Q' y++L)) w:=sR WP Z w hy;exact eX (Q:=Q) x Z w (sR (hx.append_right L) Z w h1)
end
section
open Go.RowKit
inductive FndL:Chunk->VI->Prop
  |sl {α:Type} {R:Rep α} {v xs L}:FndL (iI R v xs) (iI R v xs::L)
  |so {α:Type} {R:Rep α} {e v xs L}:FndL (iI R v xs) (bh R e v xs::L)
  |bb {b t cs L:_}:FndL (aC b t cs) (ae b t cs::L)
  |br {b:Nat} {t:TypeId} {cs L}:FndL (aC b t cs) (aC b t cs::L)
  |mm {α β:Type} {ek:α->Value} {ev:β->Value} {m kv L}:FndL (mY ek ev m kv) (ax ek ev m kv::L)
  |mr {α β:Type} {ek:α->Value} {ev:β->Value} {m kv L}:FndL (mY ek ev m kv) (mY ek ev m kv::L)
  |pk {ι κ:Type} {Q:ι->VI} {R:κ->VI} {L} [h:LentP Q R]:FndL (Ka R) (dO Q::L)
  |pq {ι κ:Type} {Q:ι->VI} {R:κ->VI} {L} [h:LentQ Q R]:FndL (Ka R) (dO Q::L)
  |pr {ι:Type} {Q:ι->VI} {L}:FndL (Ka Q) (Ka Q::L)
  |rm {ι:Type} {Q:ι->VI} {c L} [h:MemR Q c]:FndL c (Ka Q::L)
  |s {c d L:_} (h:FndL c L):FndL c (d::L)
theorem FndL.lent' (h:FndL c L): ∃(i:Nat) (d:Chunk),L[i]? =some d/\ ∀(L':VI) (j:Nat),L'[j]? =some d->wF L' c:=by
  induction h with
  |sl=>exact ⟨0,_,rfl,fun _ _ h=>jQ h rfl⟩
  |so=>exact ⟨0,_,rfl,fun _ _ h=>gw h⟩
  |bb=>exact ⟨0,_,rfl,fun _ _ h=>pP h⟩
  |br=>exact ⟨0,_,rfl,fun _ _ h=>jQ h rfl⟩
  |mm=>exact ⟨0,_,rfl,fun _ _ h=>Ff h⟩
  |mr=>exact ⟨0,_,rfl,fun _ _ h=>jQ h rfl⟩
  |pk=>exact ⟨0,_,rfl,fun _ _ h=>za h⟩
  |pq=>exact ⟨0,_,rfl,fun _ _ h=>za h⟩
  |pr=>exact ⟨0,_,rfl,fun _ _ h=>jQ h rfl⟩
  |rm=>exact ⟨0,_,rfl,fun _ _ h=>P0 h⟩
  |s _ ih=>obtain ⟨i,d,h1,h2⟩:=ih;exact ⟨i+1,d,h1,h2⟩
theorem FndL.lent (h:FndL c L):wF L c:=by
  obtain ⟨i,d,h1,h2⟩:=h.lent';exact h2 L i h1
def Cg (L pre:VI):Prop:= ∀c∈pre,wF L c
theorem Tn:Cg L []:=aQ
theorem To (h:FndL c L)(k:Cg L pre):Cg L (c::pre):=t0 h.lent k
theorem P2 (h:L'=L)(k:Cg L pre):Cg L' pre:=h▸k
theorem Tv {p:α->Prop}{Q:Prop}(k:∀a,p a->Q):(∃a,p a)->Q:=fun ⟨a,h⟩=>k a h
theorem US {a b Q:Prop}(k:b->Q):a/\b->Q:=fun h=>k h.2
theorem UR {C:VI}(k:∀c∈C,mN c):post=C-> ∀c∈post,mN c:=fun h=>h▸k
theorem Tt: ∀c∈([]:VI),mN c:=aQ
theorem Ts {sz:Nat}{en:α->VJ}{h1:∀x,(en x).length=sz}{h2:∀x,(en x).all (·.oneCell')=true}{xs:List α}{l:VI}(k:∀c∈l,mN c): ∀c∈(bh (Rep.flat sz en h1 h2) e v xs::l),mN c:=t0 rD k
theorem Tw {l:VI}(k:∀c∈l,mN c): ∀c∈(ae b t cs::l),mN c:=t0 BL k
theorem Tu {ek:α->Value}{ev:β->Value}{m:Nat}{kv:List (α×β)}{l:VI}(k:∀c∈l,mN c): ∀c∈(ax ek ev m kv::l),mN c:=t0 CX k
inductive FndC (c:Chunk):VI->VI->Prop
  |w {L:_}:FndC c (c::L) L
  |s {d L M:_} (h:FndC c L M):FndC c (d::L) (d::M)
theorem QK {d:Chunk}:Cv (c::d::L) (d::c::L):=yp [1,0] 2 rfl rfl
theorem FndC.cv (h:FndC c L M):Cv L (c::M):=by
  induction h with
  |w=>exact ah _
  |s _ ih=>exact (mH _ ih).trans QK
inductive FndD (c:Chunk):VI->Prop
  |w {L:_}:FndD c (c::L)
  |s {d L:_} (h:FndD c L):FndD c (d::L)
theorem FndD.cv (h:FndD c L)(hc:c.ro=true):Cv L (c::L):=by
  obtain ⟨i,hi⟩: ∃i:Nat,L[i]? =some c:=by
    induction h with
    |w=>exact ⟨0,rfl⟩
    |s _ ih=>obtain ⟨i,h⟩:=ih;exact ⟨i+1,h⟩
  exact Ib i hi hc
def Tk (L pre rest:VI):Prop:=Cv L (pre++rest)
theorem Tj:Tk L [] L:=ah _
theorem Tl {rest:VI}(h:FndC c L M)(k:Tk M pre rest):Tk L (c::pre) rest:=h.cv.trans (mH c k)
theorem Uq {rest:VI}(h:FndD c L)(hc:c.ro=true)(k:Tk L pre rest):Tk L (c::pre) rest:=(h.cv hc).trans (mH c k)
theorem Ti {R:Rep α}{xs:List α}{rest:VI}(h:FndD (iI R v xs) L)(k:Tk L pre rest):Tk L (iI R v xs::pre) rest:=Uq h rfl k
theorem Tm {rest:VI}(h:FndD (aC b t cs) L)(k:Tk L pre rest):Tk L (aC b t cs::pre) rest:=Uq h rfl k
theorem Pt {rest:VI}(h:L'=L)(k:Tk L pre rest):Tk L' pre rest:=h▸k
class FcK (P:Program) (f:FuncId):Prop where
  out:qc P f
section
variable {d:Option Nat}
theorem oR (hc:Okc P f vs pre R)(hv:Dv s xs=some vs:=by exact rfl)(hp:Cg L pre:=by
      apply P2 (by repeat (first|exact mn rfl|apply jd rfl|exact rfl))
      repeat (first|exact Tn|apply To (by with_reducible repeat (first|apply FndL.bb|apply FndL.br|apply FndL.sl|apply FndL.so|apply FndL.mm|apply FndL.mr|apply FndL.pq|apply FndL.pk|apply FndL.pr|apply FndL.rm|apply FndL.s))|apply leZ))(hr:∀v post,R v post-> ∀c∈post,mN c:=by
      intro v post
      repeat (first|(refine Tv ?_;intro _)|refine US ?_)
      refine UR ?_
      repeat (first|exact Tt|refine Tw ?_|refine Tu ?_|refine Ts ?_)):OpX P s L ⟨d,.call ⟨.value (.func f),xs.toArray,ats⟩,ty,pos,af,gd⟩ fun u L'=> ∃post,R u post/\L'=post++L:=kR hc hv hp hr
theorem oC {rest:VI}(hc:Okc P f vs pre R)(hv:Dv s xs=some vs:=by exact rfl)(hp:Tk L pre rest:=by
      apply Pt (by repeat (first|exact mn rfl|apply jd rfl|exact rfl))
      repeat (first|exact Tj|apply Ti (by with_reducible repeat (first|apply FndD.w|apply FndD.s))|apply Tm (by with_reducible repeat (first|apply FndD.w|apply FndD.s))|apply tkM (by with_reducible repeat (first|apply FndD.w|apply FndD.s))|apply tkR (by with_reducible repeat (first|apply FndD.w|apply FndD.s))|apply Tl (by with_reducible repeat (first|apply FndC.w|apply FndC.s)))):OpX P s L ⟨d,.call ⟨.value (.func f),xs.toArray,ats⟩,ty,pos,af,gd⟩ fun u L'=> ∃post,R u post/\L'=post++rest:=D2 hc hv hp
end
inductive FndX (b:Nat) (bt:TypeId) (cs:VJ):VI->Prop
  |w {L:_}:FndX b bt cs (ae b bt cs::L)
  |s {c L:_} (h:FndX b bt cs L):FndX b bt cs (c::L)
theorem FndX.ix (h:FndX b bt cs L): ∃i:Nat,L[i]? =some (ae b bt cs):=by
  induction h with
  |w=>exact ⟨0,rfl⟩
  |s _ ih=>obtain ⟨i,h⟩:=ih;exact ⟨i+1,h⟩
theorem aN:All2 (vy P L s) [] []:=.nil
theorem aT {t:Nat}(h:jk s t=some v)(k:All2 (vy P L s) rs vs):All2 (vy P L s) (.tmp t::rs) (v::vs):=.cons (qq h) k
theorem aS {t ty:Nat}(hu:FcG P ty n)(hl:jk s t=some (.pointer (some ⟨b,0,none⟩)))(hi:FndX b bt cs L)(hc:cs=us)(hn:us.length=n)(k:All2 (vy P L s) rs vs):All2 (vy P L s) (.cell t ty::rs) (.agg us.toArray::vs):=by
  obtain ⟨i,hi⟩:=hi.ix;subst hc;exact .cons (lz i hi hl (hn▸hu.out)) k
theorem aO {t ty:Nat}(hu:Fc (iX P ty=true))(hl:jk s t=some (.pointer (some ⟨b,0,none⟩)))(hi:FndX b bt [v] L)(k:All2 (vy P L s) rs vs):All2 (vy P L s) (.cell t ty::rs) (v::vs):=by
  obtain ⟨i,hi⟩:=hi.ix;exact .cons (Hy i hi hl hu.out) k
theorem OW {T:VI}(h:L'=L)(k:Cv L T):Cv L' T:=h▸k
theorem SV {T:VI}(k:Cv L T):Cv (c::L) T:=(cv_tl).trans k
theorem ST:Cv L []:=fun Z w h=>by
  have:=(yp (L:=L) [] L.length (by simp [F7]) (by simp)) Z w h;simpa [DH] using this
theorem SU (h:FndC c L M)(k:Cv M L2):Cv L (c::L2):=h.cv.trans (mH c k)
theorem SS {R:Rep α}{xs:List α}(h:FndD (iI R v xs) L)(k:Cv L L2):Cv L (iI R v xs::L2):=(h.cv rfl).trans (mH _ k)
theorem Ud (hr:fn.results=rs.toArray)(h1:All2 (vy X.P L s) rs vs)(hv:TF vs=v)(hR:R v L2)(hc:Cv L L2):Nm X fn R .ret s L:=ul hr h1 hv hc hR
theorem eN {p:Prop}(hh:p:=by
    obtain rfl:=jg h
    first|apply Ud rfl|apply endN rfl
    repeat (first|exact aN|apply aT rfl|apply aS (by infer_instance) rfl (by with_reducible repeat (first|apply FndX.w|apply FndX.s)) (by repeat (first|exact Aq rfl|apply wq rfl)) (by exact rfl)|apply aO (by infer_instance) rfl (by with_reducible repeat (first|apply FndX.w|apply FndX.s)))
    exact J
    repeat (apply Exists.intro)
    exact ⟨J,J⟩
    all_goals (try apply OW (by repeat (first|exact mn rfl|apply jd rfl|exact rfl)))
    all_goals (repeat (first|exact ST|apply SS (by with_reducible repeat (first|apply FndD.w|apply FndD.s))|apply SU (by with_reducible repeat (first|apply FndC.w|apply FndC.s))|apply cwF (by with_reducible repeat (first|apply FndC.w|apply FndC.s))|apply cwZ|apply cwY|exact ah _|apply SV))):p:=hh
theorem Ut {Fam:bw->VI->Prop}(h:Fam s2 L2)(hs:AH s s2)(hc:Cv L L2): ∃s2 L2,Fam s2 L2/\AH s s2/\Cv L L2:=⟨s2,L2,h,hs,hc⟩
theorem jN {p:Prop}(hh:p:=by
    apply Ut
    repeat (apply Exists.intro)
    exact ⟨h,J,J⟩
    all_goals (try exact sA)
    all_goals (try apply OW (by repeat (first|exact mn rfl|apply jd rfl|exact rfl)))
    all_goals (repeat (first|exact ST|apply SS (by with_reducible repeat (first|apply FndD.w|apply FndD.s))|apply SU (by with_reducible repeat (first|apply FndC.w|apply FndC.s))|apply cwF (by with_reducible repeat (first|apply FndC.w|apply FndC.s))|apply cwZ|apply cwY|exact ah _|apply SV))):p:=hh
theorem UM {Fam:Nat->bw->VI->Prop}{m:Nat}(h:Fam m s2 L2)(hs:AH s s2)(hc:Cv L L2): ∃m' s3 L3,m'<m+1/\Fam m' s3 L3/\AH s s3/\Cv L L3:=⟨m,s2,L2,VA _,h,hs,hc⟩
theorem lN {p:Prop}(hh:p:=by
    apply UM
    repeat (apply Exists.intro)
    exact ⟨h,J,J⟩
    all_goals (try exact sA)
    all_goals (try apply OW (by repeat (first|exact mn rfl|apply jd rfl|exact rfl)))
    all_goals (repeat (first|exact ST|apply SS (by with_reducible repeat (first|apply FndD.w|apply FndD.s))|apply SU (by with_reducible repeat (first|apply FndC.w|apply FndC.s))|apply cwF (by with_reducible repeat (first|apply FndC.w|apply FndC.s))|apply cwZ|apply cwY|exact ah _|apply SV))):p:=hh
instance repInt {k:IntKind}:RepF (jI k) (fun x=> [.int k x]):=⟨fun _ _ _ _ h=>h⟩
section
variable {d:Nat}
theorem UC {R:Rep α}{xs:List α}[hu:FcS P t e](hx:be s x=some v)(he:FndE R v xs L):RdS P s L ⟨some d,.call ⟨.builtin .len, #[x], #[t]⟩,ty,pos,af,gd⟩ (.int .i64 (xs.length:Int)):=⟨by
  obtain ⟨j,c,h,e⟩:=he.ix
  exact rX j h e hx hu.out⟩
theorem TE {u:TypeId}{a b:Int}(hx:be s x=some (.int .i64 a))(hy:be s y=some (.int .i64 b))(h:in64 (a+b)):RdS P s L ⟨some d,.binOp .add t x y u,ty,pos,af,gd⟩ (.int .i64 (a+b)):=⟨fun _ _ _=>fU hx hy h.1 h.2⟩
theorem TC {u:TypeId}{a b:Int}(hx:be s x=some (.int .i64 a))(hy:be s y=some (.int .i64 b))(h:in64 (a - b)):RdS P s L ⟨some d,.binOp .sub t x y u,ty,pos,af,gd⟩ (.int .i64 (a - b)):=⟨fun _ _ _=>wy hx hy h.1 h.2⟩
theorem Uy {vs:Array Value}(hx:be s x=some (.tuple vs))(hi:vs.toList[i]? =some v):RdS P s L ⟨some d,.extract x i,ty,pos,af,gd⟩ v:=⟨fun _ _ _=>ui hx (by simpa using hi)⟩
theorem Sm {op:Op}(h:RdS P s L ⟨some d,op,ty,pos,af,gd⟩ v:=by
  first
    |exact Uy rfl rfl
    |exact UH rfl
    |exact TD rfl
    |exact UG rfl
    |exact UJ rfl (by with_reducible repeat (first|apply FndR.w|apply FndR.r|apply FndR.s)) (by exact rfl)
    |exact Uz rfl (by with_reducible repeat (first|apply FndR.w|apply FndR.r|apply FndR.s)) (by repeat (first|exact Aq rfl|apply wq rfl)) (by exact rfl)
    |exact UI (by repeat (first|exact Ub|apply Uc rfl)) (by infer_instance)
    |exact UC rfl (by with_reducible repeat (first|apply FndE.w bU|apply FndE.w aj|apply FndE.s))
    |exact UD rfl rfl (by with_reducible repeat (first|apply FndE.w bU|apply FndE.w aj|apply FndE.s)) (by assumption) (by assumption)
    |exact UF rfl (by with_reducible repeat (first|apply FndE.w bU|apply FndE.w aj|apply FndE.s)) (by infer_instance) (by assumption) (by exact rfl) (by repeat (first|exact Aq rfl|apply wq rfl)) (by exact rfl)
    |exact UE rfl (by with_reducible repeat (first|apply FndE.w bU|apply FndE.w aj|apply FndE.s)) (by infer_instance) (by assumption) (by exact rfl) (by exact rfl)
    |exact TE rfl rfl (by assumption)
    |exact TC rfl rfl (by assumption)
    |exact UB rfl (by assumption) rfl
    |exact UA rfl (by assumption) rfl):RdS P s L ⟨some d,op,ty,pos,af,gd⟩ v:=h
end
section
theorem So {A B:VI}(h:aY X ops l K s (A++B)):aY X ops l K s (A++B):=h
theorem UO {A:VI}(h:aY X ops l K s (A.set i c)):aY X ops l K s (A.set i c):=h
theorem TS {A:VI}{y:Code}(h:Wq X y K s (A.set i c)):Wq X y K s (A.set i c):=h
theorem UP {A B:VI}{c:Code}(h:Wq X c K s (A++B)):Wq X c K s (A++B):=h
end
theorem ab {p q:Prop}(k:q)(h:Bxd q->p:=by
  intro k
  repeat (first
    | (with_reducible first|refine So ?_|refine UO ?_
       refine Lv ?_)
    | (with_reducible refine Sn ?_
       refine TX J ?_
       first
         | (refine TG ?_
            first
              |refine tR Sm rfl rfl ?_
              |refine tW rfl rfl (by repeat (first|exact Aq rfl|apply wq rfl)) (by with_reducible repeat (first|apply FndW.w|apply FndW.s)) (by repeat (first|exact Aq rfl|apply wq rfl)) (by exact rfl) (by exact rfl) (by exact rfl) ?_
              |refine tA (by repeat (first|exact Aq rfl|apply wq rfl)) rfl ?_
              |refine tX rfl (by repeat (first|exact Aq rfl|apply wq rfl)) rfl ?_)
         |refine TH ?_)
    | (with_reducible refine Sn ?_
       fail_if_success with_reducible refine TV ?_
       refine TT J ?_)
    | (with_reducible first|refine UP ?_|refine TS ?_
       refine Sw ?_)
    | (with_reducible refine TR ?_
       first
         |refine au (jW ?_)
         |with_reducible refine jW ?_
         |with_reducible refine Ir ?_
         | (fail_if_success with_reducible refine TW ?_
            with_reducible refine Ci ?_)
         |with_reducible refine JR ?_
         |with_reducible refine KW ?_)
    | (with_reducible refine UN ?_
       first
         |refine tZ _ rfl rfl Sm I (by exact rfl) (by exact rfl) ?_
         |refine tU _ rfl rfl (by exact rfl) I (by exact rfl) ?_
         |refine tN I ?_)
    |with_reducible refine An ?_
    |with_reducible refine QT ?_
    |with_reducible refine R9 ?_
    |with_reducible refine R8 ?_
    |with_reducible refine PR ?_
    |with_reducible refine RM ?_)
  exact k.un):p:=h ⟨k⟩
structure CvA (L L2:VI):Prop where
  out:Cv L L2
theorem cX (h:CvA L L2:=by
    refine CvA.mk ?_;apply OW (by repeat (first|exact mn rfl|apply jd rfl|exact rfl))
    repeat (first|exact ST|apply SS (by with_reducible repeat (first|apply FndD.w|apply FndD.s))|apply SU (by with_reducible repeat (first|apply FndC.w|apply FndC.s))|apply cwF (by with_reducible repeat (first|apply FndC.w|apply FndC.s))|apply cwZ|apply cwY|exact ah _|apply SV)):Cv L L2:=h.out
theorem gJ {a b:Bool}(h:some a=some b)(hs:AH s ((pd,.bool a)::s2):=by exact sA)(hl:Cv L L2:=by exact cX):aY X ops [] (uT ((pd,.bool b)::s2) L2) s L:=by
  cases h;exact ld hs hl
theorem gS (k pd gc:Nat){c:Bool}{u v:Option Bool}{f:Bool->Option ρ}{r:ρ}(h:(bif c then u else v).bind f=some r)(k2:∀b,f b=some r->aY X ops (l.drop k) K ((pd,.bool b)::s) L)(hc:be s (.tmp gc)=some (.bool c):=by exact rfl)(h1:∀b,c=true->u=some b->aY X ops (l.take k) (uT ((pd,.bool b)::s) L) s L:=by
      intro b g h;refine ab ?_
      exact gJ h)(h2:∀b,c=false->v=some b->aY X ops (l.take k) (uT ((pd,.bool b)::s) L) s L:=by
      intro b g h;refine ab ?_
      exact gJ h):aY X ops l K s L:=by
  obtain ⟨b,hb,h⟩:=aa h;refine vo k pd b ?_ (k2 b h)
  cases hg:c with
  |true=>exact h1 b hg (pY hg hb)
  |false=>exact h2 b hg (pZ hg hb)
end
section
open Go.RowKit
theorem aI {xs:List α}{i:Int}{f:α->Option ρ}{r:ρ}(h:(ao xs i).bind f=some r): ∃x,0<=i/\i<xs.length/\xs[i.toNat]? =some x/\f x=some r:=by
  obtain ⟨x,hx,h⟩:=aa h;obtain ⟨l,u,hx⟩:=CV hx;exact ⟨x,l,u,hx,h⟩
theorem bX {c:Code}{q:Prop}(hf:P.funcs[f]? =some fn)(k:q)(hb:fn.body=some c:=by exact rfl)(hn:Nat.ble args.length fn.ntmps=true:=by exact rfl)(hm:(fn.name== "runtime.NumGoroutine")=false:=by exact rfl)(h:Bxd q->Wq ⟨P,fn.ntmps,none⟩ c (Nm ⟨P,fn.ntmps,none⟩ fn R) (uj args 0) L:=by
      intro k;simp only [uj];refine ab ?_
      exact k.un):Okc P f args L R:=F6 hf hb hn (h ⟨k⟩) hm
theorem eY {p:Prop}(hh:p:=by
    refine ab ?_
    exact eN):p:=hh
theorem jY {p:Prop}(hh:p:=by
    refine ab ?_
    exact jN):p:=hh
theorem lY {p:Prop}(hh:p:=by
    refine ab ?_
    exact lN):p:=hh
theorem gY {p:Prop}(hh:p:=by
    refine ab ?_
    exact gJ h):p:=hh
theorem dD {p:Prop}{q:Nat->Prop}(k:∀b,q b)(h:(∀b,Bxd (q b))->p:=by
    intro k;refine ab ?_;intro b;refine ab ?_
    exact (k b).un):p:=h fun b=>⟨k b⟩
theorem sY {p q:Prop}(k:q)(h:Bxd q->p:=by
    intro k;refine ab ?_;refine au ?_;refine ab ?_
    exact k.un):p:=h ⟨k⟩
theorem sZ {p q:Prop}(k:q)(h:Bxd q->p:=by
    intro k;refine au ?_;refine ab ?_
    exact k.un):p:=h ⟨k⟩
section
theorem dU {p:Prop}{c:Operand}{x y:Code}{b:Bool}{u v r:Option ρ}(h:(bif b then u else v)=r)(ht:u=r->Wq X x K s L)(hf:v=r->Wq X y K s L)(h0:Bxd (Wq X (.cond c x y) K s L)->p:=by
      intro k;refine ab ?_
      exact k.un)(hc:be s c=some (.bool b):=by exact rfl):p:=h0 ⟨gH hc h ht hf⟩
variable {rest:List Oper}{d:Nat}{op:Op}{q:Prop}
theorem H0 (h:Rd X.P s L ⟨some d,op,ty,pos,af,gd⟩ v)(k:q)(hr:Bxd q->aY X ops rest K ((d,v)::s) L:=by
      intro k;refine ab ?_
      exact k.un)(hn:eC ⟨some d,op,ty,pos,af,gd⟩=true:=by rfl)(hg:aA ops s ⟨some d,op,ty,pos,af,gd⟩=some true:=by rfl)(hd:Nat.ble (d+1) X.n=true:=by rfl):aY X ops (⟨some d,op,ty,pos,af,gd⟩::rest) K s L:=gR h (hr ⟨k⟩) hn hg hd
theorem dK (h:Ev X.P s (fun _=>True) ⟨some d,op,ty,pos,af,gd⟩ v)(k:q)(hr:Bxd q->aY X ops rest K ((d,v)::s) L:=by
      intro k;refine ab ?_
      exact k.un)(hn:eC ⟨some d,op,ty,pos,af,gd⟩=true:=by rfl)(hg:aA ops s ⟨some d,op,ty,pos,af,gd⟩=some true:=by rfl)(hd:Nat.ble (d+1) X.n=true:=by rfl):aY X ops (⟨some d,op,ty,pos,af,gd⟩::rest) K s L:=gE h (hr ⟨k⟩) hn hg hd
theorem BJ {C:VI}(h:OpX X.P s L ⟨some d,op,ty,pos,af,gd⟩ fun u L'=> ∃post,(u=v/\post=C)/\L'=post++Z)(k:q)(hr:Bxd q->aY X ops rest K ((d,v)::s) (C++Z):=by
      intro k;refine ab ?_
      exact k.un)(hn:eC ⟨some d,op,ty,pos,af,gd⟩=true:=by rfl)(hg:aA ops s ⟨some d,op,ty,pos,af,gd⟩=some true:=by rfl)(hd:Nat.ble (d+1) X.n=true:=by rfl):aY X ops (⟨some d,op,ty,pos,af,gd⟩::rest) K s L:=gV h (hr ⟨k⟩) hn hg hd
theorem Gc (h:OpX X.P s L ⟨none,op,ty,pos,af,gd⟩ fun _ L'=>L'=Z)(k:q)(hr:Bxd q->aY X ops rest K s Z:=by
      intro k;refine ab ?_
      exact k.un)(hn:eC ⟨none,op,ty,pos,af,gd⟩=true:=by rfl)(hg:aA ops s ⟨none,op,ty,pos,af,gd⟩=some true:=by rfl):aY X ops (⟨none,op,ty,pos,af,gd⟩::rest) K s L:=gW h (hr ⟨k⟩) hn hg
theorem UQ {q:Nat->Prop}(h:OpX X.P s L ⟨some d,op,ty,pos,af,gd⟩ R)(k:∀(b:Nat),q b)(hr:(∀(b:Nat),Bxd (q b))-> ∀v L',R v L'->aY X ops rest K ((d,v)::s) L':=by
      intro k
      first|(rintro _ _ ⟨_,⟨b,rfl,rfl⟩,rfl⟩;refine ab ?_;exact (k b).un)|(rintro _ _ ⟨b,rfl,rfl⟩;refine ab ?_;exact (k b).un))(hn:eC ⟨some d,op,ty,pos,af,gd⟩=true:=by rfl)(hg:aA ops s ⟨some d,op,ty,pos,af,gd⟩=some true:=by rfl)(hd:Nat.ble (d+1) X.n=true:=by rfl):aY X ops (⟨some d,op,ty,pos,af,gd⟩::rest) K s L:=gD h (hr fun b=>⟨k b⟩) hn hg hd
theorem rP {q:Option Addr->Nat->Nat->Prop}(h:OpX X.P s L ⟨some d,op,ty,pos,af,gd⟩ R)(k:∀(x0:Option Addr) (x1:Nat) (x2:Nat),q x0 x1 x2)(hr:(∀(x0:Option Addr) (x1:Nat) (x2:Nat),Bxd (q x0 x1 x2))-> ∀v L',R v L'->aY X ops rest K ((d,v)::s) L':=by
      intro k
      first|(rintro _ _ ⟨_,⟨x0,x1,x2,rfl,rfl⟩,rfl⟩;refine ab ?_;exact (k x0 x1 x2).un)|(rintro _ _ ⟨x0,x1,x2,rfl,rfl⟩;refine ab ?_;exact (k x0 x1 x2).un))(hn:eC ⟨some d,op,ty,pos,af,gd⟩=true:=by rfl)(hg:aA ops s ⟨some d,op,ty,pos,af,gd⟩=some true:=by rfl)(hd:Nat.ble (d+1) X.n=true:=by rfl):aY X ops (⟨some d,op,ty,pos,af,gd⟩::rest) K s L:=gD h (hr fun x0 x1 x2=>⟨k x0 x1 x2⟩) hn hg hd
theorem Ua {q:Option Addr->Nat->Nat->Option Addr->Nat->Nat->Prop}(h:OpX X.P s L ⟨some d,op,ty,pos,af,gd⟩ R)(k:∀(x0:Option Addr) (x1:Nat) (x2:Nat) (x3:Option Addr) (x4:Nat) (x5:Nat),q x0 x1 x2 x3 x4 x5)(hr:(∀(x0:Option Addr) (x1:Nat) (x2:Nat) (x3:Option Addr) (x4:Nat) (x5:Nat),Bxd (q x0 x1 x2 x3 x4 x5))-> ∀v L',R v L'->aY X ops rest K ((d,v)::s) L':=by
      intro k
      first|(rintro _ _ ⟨_,⟨x0,x1,x2,x3,x4,x5,rfl,rfl⟩,rfl⟩;refine ab ?_;exact (k x0 x1 x2 x3 x4 x5).un)|(rintro _ _ ⟨x0,x1,x2,x3,x4,x5,rfl,rfl⟩;refine ab ?_;exact (k x0 x1 x2 x3 x4 x5).un))(hn:eC ⟨some d,op,ty,pos,af,gd⟩=true:=by rfl)(hg:aA ops s ⟨some d,op,ty,pos,af,gd⟩=some true:=by rfl)(hd:Nat.ble (d+1) X.n=true:=by rfl):aY X ops (⟨some d,op,ty,pos,af,gd⟩::rest) K s L:=gD h (hr fun x0 x1 x2 x3 x4 x5=>⟨k x0 x1 x2 x3 x4 x5⟩) hn hg hd
theorem Tp {q:Option Addr->Nat->Nat->Option Addr->Nat->Nat->Option Addr->Nat->Nat->Prop}(h:OpX X.P s L ⟨some d,op,ty,pos,af,gd⟩ R)(k:∀(x0:Option Addr) (x1:Nat) (x2:Nat) (x3:Option Addr) (x4:Nat) (x5:Nat) (x6:Option Addr) (x7:Nat) (x8:Nat),q x0 x1 x2 x3 x4 x5 x6 x7 x8)(hr:(∀(x0:Option Addr) (x1:Nat) (x2:Nat) (x3:Option Addr) (x4:Nat) (x5:Nat) (x6:Option Addr) (x7:Nat) (x8:Nat),Bxd (q x0 x1 x2 x3 x4 x5 x6 x7 x8))-> ∀v L',R v L'->aY X ops rest K ((d,v)::s) L':=by
      intro k
      first|(rintro _ _ ⟨_,⟨x0,x1,x2,x3,x4,x5,x6,x7,x8,rfl,rfl⟩,rfl⟩;refine ab ?_;exact (k x0 x1 x2 x3 x4 x5 x6 x7 x8).un)|(rintro _ _ ⟨x0,x1,x2,x3,x4,x5,x6,x7,x8,rfl,rfl⟩;refine ab ?_;exact (k x0 x1 x2 x3 x4 x5 x6 x7 x8).un))(hn:eC ⟨some d,op,ty,pos,af,gd⟩=true:=by rfl)(hg:aA ops s ⟨some d,op,ty,pos,af,gd⟩=some true:=by rfl)(hd:Nat.ble (d+1) X.n=true:=by rfl):aY X ops (⟨some d,op,ty,pos,af,gd⟩::rest) K s L:=gD h (hr fun x0 x1 x2 x3 x4 x5 x6 x7 x8=>⟨k x0 x1 x2 x3 x4 x5 x6 x7 x8⟩) hn hg hd
theorem SJ {q:Option Addr->Nat->Nat->Option Addr->Nat->Nat->Option Addr->Nat->Nat->Option Addr->Nat->Nat->Prop}(h:OpX X.P s L ⟨some d,op,ty,pos,af,gd⟩ R)(k:∀(x0:Option Addr) (x1:Nat) (x2:Nat) (x3:Option Addr) (x4:Nat) (x5:Nat) (x6:Option Addr) (x7:Nat) (x8:Nat) (x9:Option Addr) (a6:Nat) (a8:Nat),q x0 x1 x2 x3 x4 x5 x6 x7 x8 x9 a6 a8)(hr:(∀(x0:Option Addr) (x1:Nat) (x2:Nat) (x3:Option Addr) (x4:Nat) (x5:Nat) (x6:Option Addr) (x7:Nat) (x8:Nat) (x9:Option Addr) (a6:Nat) (a8:Nat),Bxd (q x0 x1 x2 x3 x4 x5 x6 x7 x8 x9 a6 a8))-> ∀v L',R v L'->aY X ops rest K ((d,v)::s) L':=by
      intro k
      first|(rintro _ _ ⟨_,⟨x0,x1,x2,x3,x4,x5,x6,x7,x8,x9,a6,a8,rfl,rfl⟩,rfl⟩;refine ab ?_;exact (k x0 x1 x2 x3 x4 x5 x6 x7 x8 x9 a6 a8).un)|(rintro _ _ ⟨x0,x1,x2,x3,x4,x5,x6,x7,x8,x9,a6,a8,rfl,rfl⟩;refine ab ?_;exact (k x0 x1 x2 x3 x4 x5 x6 x7 x8 x9 a6 a8).un))(hn:eC ⟨some d,op,ty,pos,af,gd⟩=true:=by rfl)(hg:aA ops s ⟨some d,op,ty,pos,af,gd⟩=some true:=by rfl)(hd:Nat.ble (d+1) X.n=true:=by rfl):aY X ops (⟨some d,op,ty,pos,af,gd⟩::rest) K s L:=gD h (hr fun x0 x1 x2 x3 x4 x5 x6 x7 x8 x9 a6 a8=>⟨k x0 x1 x2 x3 x4 x5 x6 x7 x8 x9 a6 a8⟩) hn hg hd
end
def Zl (_:List Nat)(p:Prop):Prop:=p
theorem Tg {p:Prop}(h:p):Zl [] p:=h
section
variable {d:Nat}{op:Op}
theorem TA (i:Nat){l:List Nat}(hi:ops[i]? =some ⟨some d,op,ty,pos,af,gd⟩)(h:RdS X.P s M ⟨some d,op,ty,pos,af,gd⟩ v)(hk:N0 ops listed i=true)(hg:aA ops s ⟨some d,op,ty,pos,af,gd⟩=some true)(hd:Nat.ble (d+1) X.n=true)(k:Zl l (mM X ops K M fuel (listed.setIfInBounds i true) ((d,v)::s) L)):Zl (i::l) (mM X ops K M (fuel+1) listed s L):=zR i hi h.out k hk hg hd
end
theorem zY (l:List Nat){p q:Prop}(k:q)(h:Bxd q->Zl l p:=by
    intro k
    repeat (refine TA _ rfl Sm I (by exact rfl) (by exact rfl) ?_)
    refine Tg ?_
    exact k.un):p:=h ⟨k⟩
theorem Uw {l:List Nat}{p q:Prop}(f:q->p)(h:Zl l q):Zl l p:=f h
theorem zX (l:List Nat){p q:Prop}(k:q)(h:Bxd q->Zl l p:=by
    intro k
    repeat (refine TA _ rfl Sm I (by exact rfl) (by exact rfl) ?_)
    refine Tg ?_;refine dB I ?_
    exact k.un):p:=h ⟨k⟩
theorem dY (l:List Nat){p q:Prop}(k:q)(h:Bxd q->Zl l p:=by
    intro k;refine Uw (fun h=>au (bi I _ (ah _) h)) ?_
    repeat (refine TA _ rfl Sm I (by exact rfl) (by exact rfl) ?_)
    refine Tg ?_
    exact k.un):p:=h ⟨k⟩
theorem aW {P:VI->Prop}(k:P M)(h:Cv L M:=by exact cX): ∃M',Cv L M'/\Cv M' M/\P M':=J8 h k
section
variable {d:Nat}{op:Op}
theorem Gj (i:Nat){q:Nat->Prop}(hi:ops[i]? =some ⟨some d,op,ty,pos,af,gd⟩)(h:OpX X.P s L ⟨some d,op,ty,pos,af,gd⟩ R)(k:∀(x0:Nat),q x0)(hq:(∀(x0:Nat),Bxd (q x0))-> ∀v L',R v L'-> ∃M',Cv L' M'/\Cv M' M/\mM X ops K M' fuel (listed.setIfInBounds i true) ((d,v)::s) L':=by
      intro k
      first
        | rintro _ _ ⟨_,⟨x0,rfl,rfl⟩,rfl⟩
          refine aW ?_;refine bf ?_;exact (k x0).un
        | rintro _ _ ⟨x0,rfl,rfl⟩
          refine aW ?_;refine bf ?_
          exact (k x0).un)(hr:Region.ready .any ops listed=[i]:=by kernel_rfl)(hn:eC ⟨some d,op,ty,pos,af,gd⟩=true:=by exact rfl)(hg:aA ops s ⟨some d,op,ty,pos,af,gd⟩=some true:=by exact rfl)(hd:Nat.ble (d+1) X.n=true:=by exact rfl):mM X ops K M (fuel+1) listed s L:=zD i hi h (hq fun x0=>⟨k x0⟩) hr hn hg hd
theorem yD (i:Nat){q:Option Addr->Nat->Nat->Prop}(hi:ops[i]? =some ⟨some d,op,ty,pos,af,gd⟩)(h:OpX X.P s L ⟨some d,op,ty,pos,af,gd⟩ R)(k:∀(x0:Option Addr) (x1:Nat) (x2:Nat),q x0 x1 x2)(hq:(∀(x0:Option Addr) (x1:Nat) (x2:Nat),Bxd (q x0 x1 x2))-> ∀v L',R v L'-> ∃M',Cv L' M'/\Cv M' M/\mM X ops K M' fuel (listed.setIfInBounds i true) ((d,v)::s) L':=by
      intro k
      first
        | rintro _ _ ⟨_,⟨x0,x1,x2,rfl,rfl⟩,rfl⟩
          refine aW ?_;refine bf ?_;exact (k x0 x1 x2).un
        | rintro _ _ ⟨x0,x1,x2,rfl,rfl⟩
          refine aW ?_;refine bf ?_
          exact (k x0 x1 x2).un)(hr:Region.ready .any ops listed=[i]:=by kernel_rfl)(hn:eC ⟨some d,op,ty,pos,af,gd⟩=true:=by exact rfl)(hg:aA ops s ⟨some d,op,ty,pos,af,gd⟩=some true:=by exact rfl)(hd:Nat.ble (d+1) X.n=true:=by exact rfl):mM X ops K M (fuel+1) listed s L:=zD i hi h (hq fun x0 x1 x2=>⟨k x0 x1 x2⟩) hr hn hg hd
theorem Um (i:Nat){q:Option Addr->Nat->Nat->Option Addr->Nat->Nat->Prop}(hi:ops[i]? =some ⟨some d,op,ty,pos,af,gd⟩)(h:OpX X.P s L ⟨some d,op,ty,pos,af,gd⟩ R)(k:∀(x0:Option Addr) (x1:Nat) (x2:Nat) (x3:Option Addr) (x4:Nat) (x5:Nat),q x0 x1 x2 x3 x4 x5)(hq:(∀(x0:Option Addr) (x1:Nat) (x2:Nat) (x3:Option Addr) (x4:Nat) (x5:Nat),Bxd (q x0 x1 x2 x3 x4 x5))-> ∀v L',R v L'-> ∃M',Cv L' M'/\Cv M' M/\mM X ops K M' fuel (listed.setIfInBounds i true) ((d,v)::s) L':=by
      intro k
      first
        | rintro _ _ ⟨_,⟨x0,x1,x2,x3,x4,x5,rfl,rfl⟩,rfl⟩
          refine aW ?_;refine bf ?_;exact (k x0 x1 x2 x3 x4 x5).un
        | rintro _ _ ⟨x0,x1,x2,x3,x4,x5,rfl,rfl⟩
          refine aW ?_;refine bf ?_
          exact (k x0 x1 x2 x3 x4 x5).un)(hr:Region.ready .any ops listed=[i]:=by kernel_rfl)(hn:eC ⟨some d,op,ty,pos,af,gd⟩=true:=by exact rfl)(hg:aA ops s ⟨some d,op,ty,pos,af,gd⟩=some true:=by exact rfl)(hd:Nat.ble (d+1) X.n=true:=by exact rfl):mM X ops K M (fuel+1) listed s L:=zD i hi h (hq fun x0 x1 x2 x3 x4 x5=>⟨k x0 x1 x2 x3 x4 x5⟩) hr hn hg hd
theorem AJ (i:Nat){q:Option Addr->Nat->Nat->Option Addr->Nat->Nat->Option Addr->Nat->Nat->Option Addr->Nat->Nat->Prop}(hi:ops[i]? =some ⟨some d,op,ty,pos,af,gd⟩)(h:OpX X.P s L ⟨some d,op,ty,pos,af,gd⟩ R)(k:∀(x0:Option Addr) (x1:Nat) (x2:Nat) (x3:Option Addr) (x4:Nat) (x5:Nat) (x6:Option Addr) (x7:Nat) (x8:Nat) (x9:Option Addr) (a6:Nat) (a8:Nat),q x0 x1 x2 x3 x4 x5 x6 x7 x8 x9 a6 a8)(hq:(∀(x0:Option Addr) (x1:Nat) (x2:Nat) (x3:Option Addr) (x4:Nat) (x5:Nat) (x6:Option Addr) (x7:Nat) (x8:Nat) (x9:Option Addr) (a6:Nat) (a8:Nat),Bxd (q x0 x1 x2 x3 x4 x5 x6 x7 x8 x9 a6 a8))-> ∀v L',R v L'-> ∃M',Cv L' M'/\Cv M' M/\mM X ops K M' fuel (listed.setIfInBounds i true) ((d,v)::s) L':=by
      intro k
      first
        | rintro _ _ ⟨_,⟨x0,x1,x2,x3,x4,x5,x6,x7,x8,x9,a6,a8,rfl,rfl⟩,rfl⟩
          refine aW ?_;refine bf ?_;exact (k x0 x1 x2 x3 x4 x5 x6 x7 x8 x9 a6 a8).un
        | rintro _ _ ⟨x0,x1,x2,x3,x4,x5,x6,x7,x8,x9,a6,a8,rfl,rfl⟩
          refine aW ?_;refine bf ?_
          exact (k x0 x1 x2 x3 x4 x5 x6 x7 x8 x9 a6 a8).un)(hr:Region.ready .any ops listed=[i]:=by kernel_rfl)(hn:eC ⟨some d,op,ty,pos,af,gd⟩=true:=by exact rfl)(hg:aA ops s ⟨some d,op,ty,pos,af,gd⟩=some true:=by exact rfl)(hd:Nat.ble (d+1) X.n=true:=by exact rfl):mM X ops K M (fuel+1) listed s L:=zD i hi h (hq fun x0 x1 x2 x3 x4 x5 x6 x7 x8 x9 a6 a8=>⟨k x0 x1 x2 x3 x4 x5 x6 x7 x8 x9 a6 a8⟩) hr hn hg hd
end
theorem ai {α:Sort _}{p:α->Prop}{q:Prop}(k:∀a,p a->q):(∃a,p a)->q:=fun ⟨a,h⟩=>k a h
theorem xi {c:Prop}{X:bw}{hU:VI}{q:bw->VI->Prop}(k:c->q X hU):c/\s=X/\L=hU->q s L:=fun ⟨h,e1,e2⟩=>by subst e1 e2;exact k h
end
section
variable {n2:Nat}
open Go.RowKit
section
variable {d:Nat}{op:Op}
theorem Uv (i:Nat){l:List Nat}(hi:ops[i]? =some ⟨some d,op,ty,pos,af,gd⟩)(hg:aA ops s ⟨some d,op,ty,pos,af,gd⟩=some false)(hk:N0 ops listed i=true)(hd:Nat.ble (d+1) X.n=true)(k:Zl l (mM X ops K M fuel (listed.setIfInBounds i true) ((d,undef)::s) L)):Zl (i::l) (mM X ops K M (fuel+1) listed s L):=Hh i hi hk hg hd k
theorem Ux (i:Nat){l:List Nat}(hi:ops[i]? =some ⟨some d,op,ty,pos,af,gd⟩)(hg:aA ops s ⟨some d,op,ty,pos,af,gd⟩=some true)(h:RdS X.P s M ⟨some d,op,ty,pos,af,gd⟩ v)(hk:N0 ops listed i=true)(hd:Nat.ble (d+1) X.n=true)(k:Zl l (mM X ops K M fuel (listed.setIfInBounds i true) ((d,v)::s) L)):Zl (i::l) (mM X ops K M (fuel+1) listed s L):=zR i hi h.out k hk hg hd
end
theorem yY (l:List Nat){p q:Prop}(k:q)(h:Bxd q->Zl l p:=by
  intro k
  repeat (first
   |refine Uv _ rfl (by first|exact rfl|exact KJ (by assumption) rfl|exact SI (by assumption) rfl) I (by exact rfl) ?_
   |refine Ux _ rfl (by first|exact rfl|exact ew (by assumption) rfl|exact km (by assumption) rfl) Sm I (by exact rfl) ?_)
  refine Tg ?_
  exact k.un):p:=h ⟨k⟩
section
theorem yS {n2:Nat}{l:Array Bool}{a b:Bool}(rest:mM X ops K M n2 l ((pd,.bool b)::s2) L2)(h:some a=some b)(hs:AH s ((pd,.bool a)::s2):=by exact sA)(hl:Cv L L2:=by exact cX)(hm:Cv L2 M:=by exact cX):mM X ops K M n2 l s L:=by
 cases h;exact Iq rest hs hl hm
theorem yJ (ix:List Nat)(n2 gc pd:Nat){c:Bool}{u v:Option Bool}{f:Bool->Option ρ}{r:ρ}(h:(bif c then u else v).bind f=some r)(h1:∀b,c=true->u=some b->mM X ops K M n2 (pw listed ix) ((pd,.bool b)::s) L->mM X ops K M fuel listed s L)(h2:∀b,c=false->v=some b->mM X ops K M n2 (pw listed ix) ((pd,.bool b)::s) L->mM X ops K M fuel listed s L)(k2:∀b,f b=some r->mM X ops K M n2 (pw listed ix) ((pd,.bool b)::s) L)(hc:jk s gc=some (.bool c):=by exact rfl):mM X ops K M fuel listed s L:=by
 have _:=hc;obtain ⟨b,hb,h⟩:=aa h
 cases hg:c with
 |true=>exact h1 b hg (pY hg hb) (k2 b h)
 |false=>exact h2 b hg (pZ hg hb) (k2 b h)
theorem Lu (k pd gc:Nat){c:Bool}{u v:Option Bool}{f:Bool->Option ρ}{r:ρ}(h:(bif c then u else v).bind f=some r)(h1:∀b,c=true->u=some b->aY X ops (l.take k) (uT ((pd,.bool b)::s) L) s L)(h2:∀b,c=false->v=some b->aY X ops (l.take k) (uT ((pd,.bool b)::s) L) s L)(k2:∀b,f b=some r->aY X ops (l.drop k) K ((pd,.bool b)::s) L)(hc:jk s gc=some (.bool c):=by exact rfl):aY X ops l K s L:=by
 have _:=hc;obtain ⟨b,hb,h⟩:=aa h;refine vo k pd b ?_ (k2 b h)
 cases hg:c with
 |true=>exact h1 b hg (pY hg hb)
 |false=>exact h2 b hg (pZ hg hb)
end
section
variable {L0:VI}{o:Oper}{p:Nat->Oper->Prop}
theorem qE {v':Value}(h:Ev P s (fun _=>True) o v')(k:∀(i:Nat) (o:Oper),i<n->ops[i]? =some o->p i o)(ho:ops[n]? =some o:=by exact rfl)(hp:Q4 P ops s L L0 o (Asn.aV v).full->p n o:=by exact id)(hv:v'=v:=by exact rfl)(hg:aA ops s o=some true:=by exact rfl)(hl:Cv L L0:=by exact ah _): ∀(i:Nat) (o:Oper),i<n+1->ops[i]? =some o->p i o:=aH ho (hp (Ui h hg (ko hv hl))) k
theorem qR {v':Value}(h:Rd P s L o v')(k:∀(i:Nat) (o:Oper),i<n->ops[i]? =some o->p i o)(ho:ops[n]? =some o:=by exact rfl)(hp:Q4 P ops s L L0 o (Asn.aV v).full->p n o:=by exact id)(hv:v'=v:=by exact rfl)(hg:aA ops s o=some true:=by exact rfl)(hl:Cv L L0:=by exact ah _): ∀(i:Nat) (o:Oper),i<n+1->ops[i]? =some o->p i o:=aH ho (hp (vU h hg (ko hv hl))) k
end
end
section
open Go.RowKit
section
variable {nn:Nat}{rr:Option Nat}{rest:List Oper}{d:Nat}{m:Option α}{g:α->Option ρ}{r:ρ}{re:VI}{p:Prop}
theorem cR {v:α->Value}{C:α->VI}{q:α->Prop}(h:m.bind g=some r)(c:∀y,m=some y->Okc P f vs pre (fun u post=>u=v y/\post=C y))(k:∀y,g y=some r->q y)(hp:∀y,Bxd (q y)->(aY ⟨P,nn,rr⟩ ops rest K ((d,v y)::s) (C y++L)->aY ⟨P,nn,rr⟩ ops (⟨some d,.call ⟨.value (.func f),xs.toArray,ats⟩,ty,pos,af,gd⟩::rest) K s L)->p:=by
   intro y k1 k2;refine ab ?_;refine k2 ?_;refine ab ?_
   exact k1.un)(hv:Dv s xs=some vs:=by exact rfl)(hl:Cg L pre:=by
   apply P2 (by repeat (first|exact mn rfl|apply jd rfl|exact rfl))
   repeat (first|exact Tn|apply To (by with_reducible repeat (first|apply FndL.bb|apply FndL.br|apply FndL.sl|apply FndL.so|apply FndL.mm|apply FndL.mr|apply FndL.pq|apply FndL.pk|apply FndL.pr|apply FndL.rm|apply FndL.s))|apply leZ))(hr:∀y, ∀c∈C y,mN c:=by
   intro y
   repeat (first|exact Tt|refine Tw ?_|refine Tu ?_|refine Ts ?_))(hn:eC ⟨some d,.call ⟨.value (.func f),xs.toArray,ats⟩,ty,pos,af,gd⟩=true:=by rfl)(hg:aA ops s ⟨some d,.call ⟨.value (.func f),xs.toArray,ats⟩,ty,pos,af,gd⟩=some true:=by first|exact rfl|exact ew (by assumption) rfl|exact km (by assumption) rfl)(hd:Nat.ble (d+1) nn=true:=by rfl):p:=by
 obtain ⟨y,hy,h⟩:=aa h
 refine hp y (⟨k y h⟩) fun hq=>gD (kR (c y hy) hv hl (fun u post h=>by obtain ⟨-,rfl⟩:=h;exact hr y)) ?_ hn hg hd
 rintro _ _ ⟨_,⟨rfl,rfl⟩,rfl⟩;exact hq
theorem cC {v:α->Value}{C:α->VI}{q:α->Prop}(h:m.bind g=some r)(c:∀y,m=some y->Okc P f vs pre (fun u post=>u=v y/\post=C y))(k:∀y,g y=some r->q y)(hp:∀y,Bxd (q y)->(aY ⟨P,nn,rr⟩ ops rest K ((d,v y)::s) (C y++re)->aY ⟨P,nn,rr⟩ ops (⟨some d,.call ⟨.value (.func f),xs.toArray,ats⟩,ty,pos,af,gd⟩::rest) K s L)->p:=by
   intro y k1 k2;refine ab ?_;refine k2 ?_;refine ab ?_
   exact k1.un)(hv:Dv s xs=some vs:=by exact rfl)(hl:Tk L pre re:=by
   apply Pt (by repeat (first|exact mn rfl|apply jd rfl|exact rfl))
   repeat (first|exact Tj|apply Ti (by with_reducible repeat (first|apply FndD.w|apply FndD.s))|apply Tm (by with_reducible repeat (first|apply FndD.w|apply FndD.s))|apply tkM (by with_reducible repeat (first|apply FndD.w|apply FndD.s))|apply tkR (by with_reducible repeat (first|apply FndD.w|apply FndD.s))|apply Tl (by with_reducible repeat (first|apply FndC.w|apply FndC.s))))(hn:eC ⟨some d,.call ⟨.value (.func f),xs.toArray,ats⟩,ty,pos,af,gd⟩=true:=by rfl)(hg:aA ops s ⟨some d,.call ⟨.value (.func f),xs.toArray,ats⟩,ty,pos,af,gd⟩=some true:=by first|exact rfl|exact ew (by assumption) rfl|exact km (by assumption) rfl)(hd:Nat.ble (d+1) nn=true:=by rfl):p:=by
 obtain ⟨y,hy,h⟩:=aa h
 refine hp y (⟨k y h⟩) fun hq=>gD (D2 (c y hy) hv hl) ?_ hn hg hd
 rintro _ _ ⟨_,⟨rfl,rfl⟩,rfl⟩;exact hq
theorem JS {v:α->Option Addr->Nat->Nat->Value}{C:α->Option Addr->Nat->Nat->VI}{q:α->Option Addr->Nat->Nat->Prop}(h:m.bind g=some r)(c:∀y,m=some y->Okc P f vs pre (fun u post=> ∃(x0:Option Addr) (x1:Nat) (x2:Nat),u=v y x0 x1 x2/\post=C y x0 x1 x2))(k:∀y (x0:Option Addr) (x1:Nat) (x2:Nat),g y=some r->q y x0 x1 x2)(hp:∀y,(∀(x0:Option Addr) (x1:Nat) (x2:Nat),Bxd (q y x0 x1 x2))->((∀(x0:Option Addr) (x1:Nat) (x2:Nat),aY ⟨P,nn,rr⟩ ops rest K ((d,v y x0 x1 x2)::s) (C y x0 x1 x2++L))->aY ⟨P,nn,rr⟩ ops (⟨some d,.call ⟨.value (.func f),xs.toArray,ats⟩,ty,pos,af,gd⟩::rest) K s L)->p:=by
   intro y k1 k2;refine ab ?_;refine k2 ?_;intro x0 x1 x2;refine ab ?_
   exact (k1 x0 x1 x2).un)(hv:Dv s xs=some vs:=by exact rfl)(hl:Cg L pre:=by
   apply P2 (by repeat (first|exact mn rfl|apply jd rfl|exact rfl))
   repeat (first|exact Tn|apply To (by with_reducible repeat (first|apply FndL.bb|apply FndL.br|apply FndL.sl|apply FndL.so|apply FndL.mm|apply FndL.mr|apply FndL.pq|apply FndL.pk|apply FndL.pr|apply FndL.rm|apply FndL.s))|apply leZ))(hr:∀y (x0:Option Addr) (x1:Nat) (x2:Nat), ∀c∈C y x0 x1 x2,mN c:=by
   intro y x0 x1 x2
   repeat (first|exact Tt|refine Tw ?_|refine Tu ?_|refine Ts ?_))(hn:eC ⟨some d,.call ⟨.value (.func f),xs.toArray,ats⟩,ty,pos,af,gd⟩=true:=by rfl)(hg:aA ops s ⟨some d,.call ⟨.value (.func f),xs.toArray,ats⟩,ty,pos,af,gd⟩=some true:=by first|exact rfl|exact ew (by assumption) rfl|exact km (by assumption) rfl)(hd:Nat.ble (d+1) nn=true:=by rfl):p:=by
 obtain ⟨y,hy,h⟩:=aa h
 refine hp y (fun x0 x1 x2=>⟨k y x0 x1 x2 h⟩) fun hq=>gD (kR (c y hy) hv hl (fun u post h=>by obtain ⟨x0,x1,x2, -,rfl⟩:=h;exact hr y x0 x1 x2)) ?_ hn hg hd
 rintro _ _ ⟨_,⟨x0,x1,x2,rfl,rfl⟩,rfl⟩;exact hq x0 x1 x2
theorem Uf {v:α->Option Addr->Nat->Nat->Value}{C:α->Option Addr->Nat->Nat->VI}{q:α->Option Addr->Nat->Nat->Prop}(h:m.bind g=some r)(c:∀y,m=some y->Okc P f vs pre (fun u post=> ∃(x0:Option Addr) (x1:Nat) (x2:Nat),u=v y x0 x1 x2/\post=C y x0 x1 x2))(k:∀y (x0:Option Addr) (x1:Nat) (x2:Nat),g y=some r->q y x0 x1 x2)(hp:∀y,(∀(x0:Option Addr) (x1:Nat) (x2:Nat),Bxd (q y x0 x1 x2))->((∀(x0:Option Addr) (x1:Nat) (x2:Nat),aY ⟨P,nn,rr⟩ ops rest K ((d,v y x0 x1 x2)::s) (C y x0 x1 x2++re))->aY ⟨P,nn,rr⟩ ops (⟨some d,.call ⟨.value (.func f),xs.toArray,ats⟩,ty,pos,af,gd⟩::rest) K s L)->p:=by
   intro y k1 k2;refine ab ?_;refine k2 ?_;intro x0 x1 x2;refine ab ?_
   exact (k1 x0 x1 x2).un)(hv:Dv s xs=some vs:=by exact rfl)(hl:Tk L pre re:=by
   apply Pt (by repeat (first|exact mn rfl|apply jd rfl|exact rfl))
   repeat (first|exact Tj|apply Ti (by with_reducible repeat (first|apply FndD.w|apply FndD.s))|apply Tm (by with_reducible repeat (first|apply FndD.w|apply FndD.s))|apply tkM (by with_reducible repeat (first|apply FndD.w|apply FndD.s))|apply tkR (by with_reducible repeat (first|apply FndD.w|apply FndD.s))|apply Tl (by with_reducible repeat (first|apply FndC.w|apply FndC.s))))(hn:eC ⟨some d,.call ⟨.value (.func f),xs.toArray,ats⟩,ty,pos,af,gd⟩=true:=by rfl)(hg:aA ops s ⟨some d,.call ⟨.value (.func f),xs.toArray,ats⟩,ty,pos,af,gd⟩=some true:=by first|exact rfl|exact ew (by assumption) rfl|exact km (by assumption) rfl)(hd:Nat.ble (d+1) nn=true:=by rfl):p:=by
 obtain ⟨y,hy,h⟩:=aa h
 refine hp y (fun x0 x1 x2=>⟨k y x0 x1 x2 h⟩) fun hq=>gD (D2 (c y hy) hv hl) ?_ hn hg hd
 rintro _ _ ⟨_,⟨x0,x1,x2,rfl,rfl⟩,rfl⟩;exact hq x0 x1 x2
theorem Nn {v:α->Option Addr->Nat->Nat->Option Addr->Nat->Nat->Value}{C:α->Option Addr->Nat->Nat->Option Addr->Nat->Nat->VI}{q:α->Option Addr->Nat->Nat->Option Addr->Nat->Nat->Prop}(h:m.bind g=some r)(c:∀y,m=some y->Okc P f vs pre (fun u post=> ∃(x0:Option Addr) (x1:Nat) (x2:Nat) (x3:Option Addr) (x4:Nat) (x5:Nat),u=v y x0 x1 x2 x3 x4 x5/\post=C y x0 x1 x2 x3 x4 x5))(k:∀y (x0:Option Addr) (x1:Nat) (x2:Nat) (x3:Option Addr) (x4:Nat) (x5:Nat),g y=some r->q y x0 x1 x2 x3 x4 x5)(hp:∀y,(∀(x0:Option Addr) (x1:Nat) (x2:Nat) (x3:Option Addr) (x4:Nat) (x5:Nat),Bxd (q y x0 x1 x2 x3 x4 x5))->((∀(x0:Option Addr) (x1:Nat) (x2:Nat) (x3:Option Addr) (x4:Nat) (x5:Nat),aY ⟨P,nn,rr⟩ ops rest K ((d,v y x0 x1 x2 x3 x4 x5)::s) (C y x0 x1 x2 x3 x4 x5++L))->aY ⟨P,nn,rr⟩ ops (⟨some d,.call ⟨.value (.func f),xs.toArray,ats⟩,ty,pos,af,gd⟩::rest) K s L)->p:=by
   intro y k1 k2;refine ab ?_;refine k2 ?_;intro x0 x1 x2 x3 x4 x5;refine ab ?_
   exact (k1 x0 x1 x2 x3 x4 x5).un)(hv:Dv s xs=some vs:=by exact rfl)(hl:Cg L pre:=by
   apply P2 (by repeat (first|exact mn rfl|apply jd rfl|exact rfl))
   repeat (first|exact Tn|apply To (by with_reducible repeat (first|apply FndL.bb|apply FndL.br|apply FndL.sl|apply FndL.so|apply FndL.mm|apply FndL.mr|apply FndL.pq|apply FndL.pk|apply FndL.pr|apply FndL.rm|apply FndL.s))|apply leZ))(hr:∀y (x0:Option Addr) (x1:Nat) (x2:Nat) (x3:Option Addr) (x4:Nat) (x5:Nat), ∀c∈C y x0 x1 x2 x3 x4 x5,mN c:=by
   intro y x0 x1 x2 x3 x4 x5
   repeat (first|exact Tt|refine Tw ?_|refine Tu ?_|refine Ts ?_))(hn:eC ⟨some d,.call ⟨.value (.func f),xs.toArray,ats⟩,ty,pos,af,gd⟩=true:=by rfl)(hg:aA ops s ⟨some d,.call ⟨.value (.func f),xs.toArray,ats⟩,ty,pos,af,gd⟩=some true:=by first|exact rfl|exact ew (by assumption) rfl|exact km (by assumption) rfl)(hd:Nat.ble (d+1) nn=true:=by rfl):p:=by
 obtain ⟨y,hy,h⟩:=aa h
 refine hp y (fun x0 x1 x2 x3 x4 x5=>⟨k y x0 x1 x2 x3 x4 x5 h⟩) fun hq=>gD (kR (c y hy) hv hl (fun u post h=>by obtain ⟨x0,x1,x2,x3,x4,x5, -,rfl⟩:=h;exact hr y x0 x1 x2 x3 x4 x5)) ?_ hn hg hd
 rintro _ _ ⟨_,⟨x0,x1,x2,x3,x4,x5,rfl,rfl⟩,rfl⟩;exact hq x0 x1 x2 x3 x4 x5
theorem R7 {v:α->Option Addr->Nat->Nat->Option Addr->Nat->Nat->Value}{C:α->Option Addr->Nat->Nat->Option Addr->Nat->Nat->VI}{q:α->Option Addr->Nat->Nat->Option Addr->Nat->Nat->Prop}(h:m.bind g=some r)(c:∀y,m=some y->Okc P f vs pre (fun u post=> ∃(x0:Option Addr) (x1:Nat) (x2:Nat) (x3:Option Addr) (x4:Nat) (x5:Nat),u=v y x0 x1 x2 x3 x4 x5/\post=C y x0 x1 x2 x3 x4 x5))(k:∀y (x0:Option Addr) (x1:Nat) (x2:Nat) (x3:Option Addr) (x4:Nat) (x5:Nat),g y=some r->q y x0 x1 x2 x3 x4 x5)(hp:∀y,(∀(x0:Option Addr) (x1:Nat) (x2:Nat) (x3:Option Addr) (x4:Nat) (x5:Nat),Bxd (q y x0 x1 x2 x3 x4 x5))->((∀(x0:Option Addr) (x1:Nat) (x2:Nat) (x3:Option Addr) (x4:Nat) (x5:Nat),aY ⟨P,nn,rr⟩ ops rest K ((d,v y x0 x1 x2 x3 x4 x5)::s) (C y x0 x1 x2 x3 x4 x5++re))->aY ⟨P,nn,rr⟩ ops (⟨some d,.call ⟨.value (.func f),xs.toArray,ats⟩,ty,pos,af,gd⟩::rest) K s L)->p:=by
   intro y k1 k2;refine ab ?_;refine k2 ?_;intro x0 x1 x2 x3 x4 x5;refine ab ?_
   exact (k1 x0 x1 x2 x3 x4 x5).un)(hv:Dv s xs=some vs:=by exact rfl)(hl:Tk L pre re:=by
   apply Pt (by repeat (first|exact mn rfl|apply jd rfl|exact rfl))
   repeat (first|exact Tj|apply Ti (by with_reducible repeat (first|apply FndD.w|apply FndD.s))|apply Tm (by with_reducible repeat (first|apply FndD.w|apply FndD.s))|apply tkM (by with_reducible repeat (first|apply FndD.w|apply FndD.s))|apply tkR (by with_reducible repeat (first|apply FndD.w|apply FndD.s))|apply Tl (by with_reducible repeat (first|apply FndC.w|apply FndC.s))))(hn:eC ⟨some d,.call ⟨.value (.func f),xs.toArray,ats⟩,ty,pos,af,gd⟩=true:=by rfl)(hg:aA ops s ⟨some d,.call ⟨.value (.func f),xs.toArray,ats⟩,ty,pos,af,gd⟩=some true:=by first|exact rfl|exact ew (by assumption) rfl|exact km (by assumption) rfl)(hd:Nat.ble (d+1) nn=true:=by rfl):p:=by
 obtain ⟨y,hy,h⟩:=aa h
 refine hp y (fun x0 x1 x2 x3 x4 x5=>⟨k y x0 x1 x2 x3 x4 x5 h⟩) fun hq=>gD (D2 (c y hy) hv hl) ?_ hn hg hd
 rintro _ _ ⟨_,⟨x0,x1,x2,x3,x4,x5,rfl,rfl⟩,rfl⟩;exact hq x0 x1 x2 x3 x4 x5
end
section
theorem lK {c:Code}(Fam:Nat->bw->VI->Prop)(m0:Nat)(k:∀m s2 L2,Fam (m+1) s2 L2->Wq X c (nx (fun s' L'=> ∃m' s3 L3,m'<m+1/\Fam m' s3 L3/\AH s' s3/\Cv L' L3) K) s2 L2)(he:∃s2 L2,Fam m0 s2 L2/\AH s s2/\Cv L L2:=by
   apply Ut
   repeat (apply Exists.intro)
   exact ⟨h,J,J⟩
   all_goals (try exact sA)
   all_goals (try apply OW (by repeat (first|exact mn rfl|apply jd rfl|exact rfl)))
   all_goals (repeat (first|exact ST|apply SS (by with_reducible repeat (first|apply FndD.w|apply FndD.s))|apply SU (by with_reducible repeat (first|apply FndC.w|apply FndC.s))|apply cwF (by with_reducible repeat (first|apply FndC.w|apply FndC.s))|apply cwZ|apply cwY|exact ah _|apply SV)))(hz:∀s2 L2,Fam 0 s2 L2->False:=by
   intro s2 L2
   repeat (refine Tv ?_;intro _)
   intro h
   exact az h.1):Wq X (.loop c) K s L:=by
 obtain ⟨s2,L2,h1,h2,h3⟩:=he
 refine gZ Fam m0 s2 L2 h1 h2 h3 fun m s3 L3 h=> ?_
 cases m with
 |zero=>exact (hz _ _ h).elim
 |succ m=>exact k m _ _ h
theorem qi (k pd gc:Nat){c:Bool}{u v:Option Bool}{f:Bool->Option ρ}{r:ρ}(h:(bif c then u else v).bind f=some r)(h1:∀b,c=true->u=some b->aY X ops (l.take k) (uT ((pd,.bool b)::s) L) s L)(k2:∀b,f b=some r->aY X ops (l.drop k) K ((pd,.bool b)::s) L)(hc:jk s gc=some (.bool c):=by exact rfl)(h2:∀b,c=false->v=some b->aY X ops (l.take k) (uT ((pd,.bool b)::s) L) s L:=by
   intro b g h
   exact gY):aY X ops l K s L:=Lu k pd gc h h1 h2 k2 hc
theorem BK (k pd gc:Nat){c:Bool}{u v:Option Bool}{f:Bool->Option ρ}{r:ρ}(h:(bif c then u else v).bind f=some r)(h2:∀b,c=false->v=some b->aY X ops (l.take k) (uT ((pd,.bool b)::s) L) s L)(k2:∀b,f b=some r->aY X ops (l.drop k) K ((pd,.bool b)::s) L)(hc:jk s gc=some (.bool c):=by exact rfl)(h1:∀b,c=true->u=some b->aY X ops (l.take k) (uT ((pd,.bool b)::s) L) s L:=by
   intro b g h
   exact gY):aY X ops l K s L:=Lu k pd gc h h1 h2 k2 hc
end
end
end Go.Proofs.YthhiddkljcacaaaGreat
namespace Go.Proofs
open Go.Shelf
def Tryz.keysA_ren:Go.Shelf.Ren:=⟨fun|7=>126|10=>176|n=>n,fun|23=>184|26=>3|3=>4|28=>182|0=>0|27=>181|33=>94|4=>4|n=>n,fun|n=>n⟩
theorem Tryz.keysA:Go.Proofs.SlLaysZI.n7 Tryz.prog Tryz.keysA_ren:={
 mixed:=by kernel_rfl
 f7:=⟨Tryz.f126.name,by decide,Tryz.func126.trans (congrArg some (by kernel_rfl))⟩
 f10:=⟨Tryz.f176.name,by decide,Tryz.func176.trans (congrArg some (by kernel_rfl))⟩
 t0:=Tryz.underlying0
 a0:=Tryz.isAgg0
 z0:=Tryz.sizeOf0
 v0:=Tryz.zeroValue0
 t4:=Tryz.underlying4
 a4:=Tryz.isAgg4
 z4:=Tryz.sizeOf4
 v4:=Tryz.zeroValue4
 t23:=Tryz.underlying184
 a23:=Tryz.isAgg184
 z23:=Tryz.sizeOf184
 v23:=Tryz.zeroValue184
 t26:=Tryz.underlying3
 a26:=Tryz.isAgg3
 z26:=Tryz.sizeOf3
 v26:=Tryz.zeroValue3
 t27:=Tryz.underlying181
 a27:=Tryz.isAgg181
 z27:=Tryz.sizeOf181
 v27:=Tryz.zeroValue181
 t28:=Tryz.underlying182
 a28:=Tryz.isAgg182
 z28:=Tryz.sizeOf182
 v28:=Tryz.zeroValue182
 t33:=Tryz.underlying94
 a33:=Tryz.isAgg94
 z33:=Tryz.sizeOf94
 v33:=Tryz.zeroValue94}
def Tryz.sortedA_ren:Go.Shelf.Ren:=⟨fun|6=>125|8=>174|9=>175|11=>213|13=>215|12=>214|23=>238|24=>239|14=>230|15=>231|16=>232|17=>233|18=>234|19=>235|20=>171|21=>236|22=>237|25=>246|26=>247|27=>248|28=>249|29=>250|30=>212|31=>253|n=>n,fun|26=>3|28=>182|24=>99|0=>0|3=>3|37=>233|48=>282|50=>284|4=>4|40=>276|39=>275|45=>163|5=>5|9=>9|51=>289|55=>293|57=>298|58=>299|33=>94|n=>n,fun|n=>n⟩
theorem Tryz.sortedA:Go.Proofs.SlLaysZI.n6 Tryz.prog Tryz.sortedA_ren:={
 mixed:=by kernel_rfl
 f6:=⟨Tryz.f125.name,by decide,Tryz.func125.trans (congrArg some (by kernel_rfl))⟩
 f8:=⟨Tryz.f174.name,by decide,Tryz.func174.trans (congrArg some (by kernel_rfl))⟩
 f11:=⟨Tryz.f213.name,by decide,Tryz.func213.trans (congrArg some (by kernel_rfl))⟩
 t0:=Tryz.underlying0
 a0:=Tryz.isAgg0
 z0:=Tryz.sizeOf0
 v0:=Tryz.zeroValue0
 t24:=Tryz.underlying99
 a24:=Tryz.isAgg99
 z24:=Tryz.sizeOf99
 v24:=Tryz.zeroValue99
 t26:=Tryz.underlying3
 a26:=Tryz.isAgg3
 z26:=Tryz.sizeOf3
 v26:=Tryz.zeroValue3
 t28:=Tryz.underlying182
 a28:=Tryz.isAgg182
 z28:=Tryz.sizeOf182
 v28:=Tryz.zeroValue182
 i26:=by kernel_rfl}
def Tryz.sortA_ren:Go.Shelf.Ren:=⟨fun|5=>175|8=>215|7=>214|19=>238|20=>239|10=>230|11=>231|12=>232|13=>233|14=>234|15=>235|16=>171|17=>236|18=>237|30=>246|31=>247|32=>248|33=>249|34=>250|35=>212|40=>253|n=>n,fun|23=>99|25=>3|3=>3|32=>233|22=>99|0=>0|44=>282|46=>284|4=>4|36=>276|35=>275|41=>163|5=>5|9=>9|53=>289|57=>293|63=>298|64=>299|n=>n,fun|n=>n⟩
theorem Tryz.sortA:Go.Proofs.SlLaysM.n5 Tryz.prog Tryz.sortA_ren:={
 mixed:=by kernel_rfl
 f5:=⟨Tryz.f175.name,by decide,Tryz.func175.trans (congrArg some (by kernel_rfl))⟩
 f7:=⟨Tryz.f214.name,by decide,Tryz.func214.trans (congrArg some (by kernel_rfl))⟩
 f8:=Tryz.func215.trans (congrArg some (by kernel_rfl))
 f10:=⟨Tryz.f230.name,by decide,Tryz.func230.trans (congrArg some (by kernel_rfl))⟩
 f11:=⟨Tryz.f231.name,by decide,Tryz.func231.trans (congrArg some (by kernel_rfl))⟩
 f12:=⟨Tryz.f232.name,by decide,Tryz.func232.trans (congrArg some (by kernel_rfl))⟩
 f13:=⟨Tryz.f233.name,by decide,Tryz.func233.trans (congrArg some (by kernel_rfl))⟩
 f14:=⟨Tryz.f234.name,by decide,Tryz.func234.trans (congrArg some (by kernel_rfl))⟩
 f15:=⟨Tryz.f235.name,by decide,Tryz.func235.trans (congrArg some (by kernel_rfl))⟩
 f16:=⟨Tryz.f171.name,by decide,Tryz.func171.trans (congrArg some (by kernel_rfl))⟩
 f17:=⟨Tryz.f236.name,by decide,Tryz.func236.trans (congrArg some (by kernel_rfl))⟩
 f18:=⟨Tryz.f237.name,by decide,Tryz.func237.trans (congrArg some (by kernel_rfl))⟩
 f19:=Tryz.func238.trans (congrArg some (by kernel_rfl))
 f20:=Tryz.func239.trans (congrArg some (by kernel_rfl))
 f30:=⟨Tryz.f246.name,by decide,Tryz.func246.trans (congrArg some (by kernel_rfl))⟩
 f31:=Tryz.func247.trans (congrArg some (by kernel_rfl))
 f32:=Tryz.func248.trans (congrArg some (by kernel_rfl))
 f33:=⟨Tryz.f249.name,by decide,Tryz.func249.trans (congrArg some (by kernel_rfl))⟩
 f34:=⟨Tryz.f250.name,by decide,Tryz.func250.trans (congrArg some (by kernel_rfl))⟩
 f35:=⟨Tryz.f212.name,by decide,Tryz.func212.trans (congrArg some (by kernel_rfl))⟩
 f40:=⟨Tryz.f253.name,by decide,Tryz.func253.trans (congrArg some (by kernel_rfl))⟩
 t0:=Tryz.underlying0
 a0:=Tryz.isAgg0
 z0:=Tryz.sizeOf0
 v0:=Tryz.zeroValue0
 t3:=Tryz.underlying3
 a3:=Tryz.isAgg3
 z3:=Tryz.sizeOf3
 v3:=Tryz.zeroValue3
 t4:=Tryz.underlying4
 a4:=Tryz.isAgg4
 z4:=Tryz.sizeOf4
 v4:=Tryz.zeroValue4
 t5:=Tryz.underlying5
 a5:=Tryz.isAgg5
 z5:=Tryz.sizeOf5
 v5:=Tryz.zeroValue5
 t9:=Tryz.underlying9
 a9:=Tryz.isAgg9
 z9:=Tryz.sizeOf9
 v9:=Tryz.zeroValue9
 t22:=Tryz.underlying99
 a22:=Tryz.isAgg99
 z22:=Tryz.sizeOf99
 v22:=Tryz.zeroValue99
 t23:=Tryz.underlying99
 a23:=Tryz.isAgg99
 z23:=Tryz.sizeOf99
 v23:=Tryz.zeroValue99
 t25:=Tryz.underlying3
 a25:=Tryz.isAgg3
 z25:=Tryz.sizeOf3
 v25:=Tryz.zeroValue3
 t32:=Tryz.underlying233
 a32:=Tryz.isAgg233
 z32:=Tryz.sizeOf233
 v32:=Tryz.zeroValue233
 t35:=Tryz.underlying275
 a35:=Tryz.isAgg275
 z35:=Tryz.sizeOf275
 v35:=Tryz.zeroValue275
 t36:=Tryz.underlying276
 a36:=Tryz.isAgg276
 z36:=Tryz.sizeOf276
 v36:=Tryz.zeroValue276
 t41:=Tryz.underlying163
 a41:=Tryz.isAgg163
 z41:=Tryz.sizeOf163
 v41:=Tryz.zeroValue163
 t44:=Tryz.underlying282
 a44:=Tryz.isAgg282
 z44:=Tryz.sizeOf282
 v44:=Tryz.zeroValue282
 t46:=Tryz.underlying284
 a46:=Tryz.isAgg284
 z46:=Tryz.sizeOf284
 v46:=Tryz.zeroValue284
 t53:=Tryz.underlying289
 a53:=Tryz.isAgg289
 z53:=Tryz.sizeOf289
 v53:=Tryz.zeroValue289
 t57:=Tryz.underlying293
 a57:=Tryz.isAgg293
 z57:=Tryz.sizeOf293
 v57:=Tryz.zeroValue293
 t63:=Tryz.underlying298
 a63:=Tryz.isAgg298
 z63:=Tryz.sizeOf298
 v63:=Tryz.zeroValue298
 t64:=Tryz.underlying299
 a64:=Tryz.isAgg299
 z64:=Tryz.sizeOf299
 v64:=Tryz.zeroValue299}
end Go.Proofs
namespace Go.Proofs.YthhiddkljcacaaaGreat
variable (N:Nat){listed:Array Bool}{af:Array Edge}{ops:Array Oper}{ats:Array TypeId}{c:Chunk}{X:Cx}{fn:Func}{f:FuncId}{a1 a2:Int}{K:K3}{a0:List (Int×Bool)}{l:List Oper}{xs:List Operand}{rs:List ResultVar}{B2 b bt fuel i k n pd:Nat}{x y:Operand}{gd:Option (Nat×Bool)}{A:Option Addr}{P:Program}{pos:String}{α β ι κ ρ σ:Type}{e t ty:TypeId}{L L' L2 M Z post pre:VI}{args cs us vs:VJ}{v:Value}{R R':Value->VI->Prop}{C:World->Prop}{s s2:bw}
section
variable {B1 M1:Nat}
open Go.RowKit Go.Maps Go.Shelf
def iF (kv:List (Int×β)):List Int:=(kv.map (·.1)).mergeSort (fun x y=>decide (x<=y))
theorem JN (m:Nat):AnyZI.SortsIn VK Tryz.sortedA_ren Fence.wide m:=
 ⟨fun Rk off cap ss hJ hH hblk hsz=>callsIn_wide.2 (AnyM.slices_Sort_int Tryz.sortA Rk off cap ss hJ hH hblk hsz),
  fun p cap hJ=>callsIn_wide.2 (AnyM.slices_Sort_int_none Tryz.sortA p cap hJ)⟩
abbrev SG:Lit->Int:=Go.intOf
def Id:Value->Option (DataW Unit×List MemPlace):=fun _=>some (.nil,[])
theorem Km {ev:β->Value}{w:World}{m:Nat}{kv:List (Int×β)}(h:Mp w m cj ev kv)(hk:∀k∈kv.map (·.1),in64 k)(hd:(kv.map (·.1)).Nodup)(hn:kv.length<=1099511627776): ∃D:DataW Unit,w.ownsMap VK 3 Id m kv.length D/\(intKeys D).Perm (kv.map (·.1))/\Maps.size D=kv.length:=by
 obtain ⟨es,clk,h1,h2,h3,h4⟩:=h
 have hlen:es.size=kv.length:=by simpa using congrArg List.length h2
 have hrd: ∀x∈es.toList, ∃a,a∈kv.map (·.1)/\x.key=cj a/\WideElems.rd VK 3 Id x=some (Lit.int .i64 a,DataW.nil):=by
  intro x hx;have h5:(x.key,x.val)∈es.toList.map (fun e=>(e.key,e.val)):=WI.2 ⟨x,hx,rfl⟩;rw [h2] at h5;obtain ⟨p,hp,e⟩:=WI.1 h5;have e1:cj p.1=x.key:=congrArg Prod.fst e;have hp1:p.1∈kv.map (·.1):=WI.2 ⟨p,hp,rfl⟩;refine ⟨p.1,hp1,e1.symm,?_⟩;have hw:=hk p.1 hp1;unfold WideElems.rd;rw [<-e1];unfold cj;rw [keyOf_int_mk z9 (by have e1:IntKind.i64.min= -9223372036854775808:=rfl;have e2:IntKind.i64.max=9223372036854775807:=rfl;unfold Lit.wf;simp only [e1,e2,Xt,Xl];exact hw)];rfl
 have hkeys:es.toList.map (·.key)=kv.map (fun p=>cj p.1):=by
  have h5:=congrArg (List.map Prod.fst) h2;simpa [List.map_map,Function.comp_def] using h5
 have hrg:(es.toList.map (WideElems.rg VK 3 Id)).map (fun p=>SG p.1)=kv.map (·.1):=by
  have h6:es.toList.map (fun x=>SG (WideElems.rg VK 3 Id x).1)=(es.toList.map (·.key)).map (fun v=>match v with| .int _ a=>a|_=>0):=by
   rw [List.map_map];apply List.map_congr_left;intro x hx;obtain ⟨a, -,h7,h8⟩:=hrd x hx;simp only [WideElems.rg,h8,Xc,Function.comp,h7];rfl
  simp only [List.map_map,Function.comp_def] at h6⊢;rw [h6];have h9:=congrArg (List.map (fun v:Value=>match v with| .int _ a=>a|_=>(0:Int))) hkeys;simp only [List.map_map,Function.comp_def,cj] at h9;exact h9
 refine ⟨_,⟨es,clk,h1,⟨by unfold maxLen;omega,⟨h4,?_,?_⟩,fun x hx=> ?_⟩,by omega,rfl⟩,?_,?_⟩
 ·rw [List.nodup_iff_pairwise_ne,List.pairwise_map]
  exact h3.imp fun h=>by omega
 ·rw [hkeys]
  have:kv.map (fun p=>cj p.1)=(kv.map (·.1)).map cj:=by rw [List.map_map];rfl
  rw [this,List.nodup_iff_pairwise_ne,List.pairwise_map]
  exact (List.nodup_iff_pairwise_ne.1 hd).imp fun h e=>h (by unfold cj at e;injection e)
 ·obtain ⟨a, -, -,h8⟩:=hrd x hx;exact ⟨_,h8⟩
 ·rw [<-hrg];exact ((WideShapes.sorted_perm _).map _)
 rw [Maps.size_eq,(WideShapes.sorted_perm _).length_eq];simp [hlen]
theorem Mn {a b:List Int}(h:a.Perm b):a.mergeSort (fun x y=>decide (x<=y))=b.mergeSort (fun x y=>decide (x<=y)):=by
 have tr: ∀x y z:Int,decide (x<=y)=true->decide (y<=z)=true->decide (x<=z)=true:=by simp;omega
 have tot: ∀x y:Int,(decide (x<=y)||decide (y<=x))=true:=by simp;omega
 have s1:=List.pairwise_mergeSort tr tot a;have s2:=List.pairwise_mergeSort tr tot b;have p:(a.mergeSort (fun x y=>decide (x<=y))).Perm (b.mergeSort (fun x y=>decide (x<=y))):=(List.mergeSort_perm a _).trans (h.trans (List.mergeSort_perm b _).symm);exact p.eq_of_pairwise (by intro x y _ _ h1 h2;simp at h1 h2;omega) s1 s2
def yc (_:Nat)(_:List (Int×β)):Option Unit:=some ()
theorem HO {N:Nat}{r:Unit}(_:yc N a0=some r):Okc VK 126 [.map (some M1)] [] (fun u post=> ∃a6,u=.func (.func 176) #[] #[.pointer (some ⟨a6,0,none⟩)]/\post=[ae a6 184 [.map (some M1)]]):=by
 refine ⟨⟨_,Tryz.func126,J,J⟩,?_⟩;intro Z w hw;have h:=callsIn_wide.1 (AnyZI.keys_in Tryz.keysA Fence.wide 5 trivial rfl (some M1) w);refine h.mono ?_;rintro e w' ⟨rfl,rfl⟩;refine ⟨_,_,J,?_,w.heap.size,J,J⟩
 exact SepL.new hw (Agr.of_ext ((Ext.refl w).alloc _)) fun _ S _=>⟨(· =w.heap.size),fun q hq=>by subst hq;simp,rfl,Blk.new w _ _⟩
def rQ (_:Nat)(kv:List (Int×Bool)):Option Vx:=aD ((∀k∈kv.map Prod.fst,in64 k)/\(kv.map Prod.fst).Nodup/\bY kv.length) (some (iF kv))
theorem Cr {N:Nat}{r:List Int}(h:rQ N a0=some r){B1 M2:Nat}:Okc VK 125 [.func (.func 176) #[] #[.pointer (some ⟨B1,0,none⟩)]] [aC B1 184 [.map (some M2)],mY cj ft M2 a0] (fun u post=> ∃A0 n0 c0,u=W A0 n0 c0/\post=[bh (jI .i64) 3 (W A0 n0 c0) r]):=by
 refine ⟨⟨_,Tryz.func125,J,J⟩,?_⟩;intro Z w hw;obtain ⟨⟨hk,hd,hn⟩,h⟩:=ac h;obtain rfl:=jg h;obtain ⟨T,S,hs1,hbox⟩:=SepL.get hw (i:=0) (c:=aC B1 184 [.map (some M2)]) rfl;obtain ⟨T2,S2,hs2,hmp⟩:=SepL.get hw (i:=1) (c:=mY cj ft M2 a0) rfl;obtain ⟨D,hown,hperm,hsize⟩:=Km hmp hk hd hn;have hcell:w.cell? ⟨B1,0,none⟩=some (.map (some M2)):=(RBlk.cells hbox 0).trans rfl
 have hseq:SeqGives Fence.wide 2 VK 176 #[.pointer (some ⟨B1,0,none⟩)] encZ (fun ss=>ss.Perm (intKeys D)) (Maps.size D) w:=
  AnyZI.keys_gives (ρ:=Tryz.keysA_ren) {Tryz.keysA with} Fence.wide _ trivial rfl U B1 M2 _ D w (RBlk.lt hbox) hcell hown
 have cS:=AnyZI.sorted_in Tryz.sortedA Fence.wide 5 trivial trivial trivial trivial rfl U (JN _) (enters_of Tryz.func175 I rfl) 176 #[.pointer (some ⟨B1,0,none⟩)] trivial (enters_of Tryz.func176 I rfl) _ _ (by rw [hsize];unfold maxLen;omega) (by rw [hsize];omega) _ hseq;refine (callsIn_wide.1 cS).mono ?_;rintro e w' ⟨v,ss,rfl,hS,hrow,hnil,hb⟩;have hkeys:ss.mergeSort (fun x y=>decide (x<=y))=iF a0:=Mn (hS.trans hperm);rw [hkeys] at hrow
 have hlen:ss.length=(iF a0).length:=by rw [<-hkeys,List.length_mergeSort]
 rw [hlen] at hrow
 have hsh: ∃A c,v=.slice A (iF a0).length c:=by
  rcases hrow.2 with ⟨rfl,h0⟩|⟨g,cap,cur,rfl, -⟩
  ·exact ⟨none,0,by rw [h0]⟩
  exact ⟨_,cap,J⟩
 obtain ⟨A,c,rfl⟩:=hsh;refine ⟨_,_,J,?_,A,_,c,J,J⟩;have hz:SepL Z w:=SepL.dropL (A:=[aC B1 184 [.map (some M2)],mY cj ft M2 a0]) hw
 refine SepL.new hz (Agr.of_ext hb) fun _ S _=>⟨fun q=>(Value.slice A (iF a0).length c).ownBlock=some q,fun q hq=>World.ownsRow.lt hrow q hq,(iF a0).map (fun x=> [.int .i64 x]),?_,.inl ⟨?_,fun _ h=>h⟩⟩
 ·induction iF a0 with
  |nil=>exact .nil
  |cons x l ih=>exact .cons rfl ih
 have e:((iF a0).map (fun x=> [Value.int .i64 x])).flatten=(iF a0).map encZ:=by
  induction iF a0 with
  |nil=>rfl
  |cons x l ih=>simp only [WC,Wc,ih];rfl
 rw [e];refine .of ⟨hrow.1,?_⟩;rcases hrow.2 with h1|⟨g,cap,cur,e1,hg,r⟩
 ·exact .inl h1
 exact .inr ⟨g,cap,cur,e1,Xa _,r⟩
end
section
variable {A1 A2 A3 A4 A5:Option Addr}{B1 B3 B6 M1 M7 c1 c2 c3 c4 c5 n1 n2 n3 n4 n5:Nat}
open Go.RowKit Asn
set_option maxRecDepth 20000
structure Vf where
 Yk:Int
 Yg:Int
 Ya:Int
 Yj:Int
 XA:Int
 Yi:Int
 Yl:Int
 deriving DecidableEq,Inhabited
def NJ:Rep Vf:=.flat 7 (fun x=> [iV x.Yk,iV x.Yg,iV x.Ya,iV x.Yj,iV x.XA,iV x.Yi,iV x.Yl]) (fun _=>rfl) (fun _=>rfl)
structure Vt where
 at_:VG
 deriving DecidableEq,Inhabited
structure Vp where
 Xw:Int
 N:Int
 S:ByteArray
 deriving DecidableEq,Inhabited
abbrev Vw:=List Vp
def av:Rep Vp:=.flat 3 (fun x=> [iV x.Xw,iV x.N,.string x.S]) (fun _=>rfl) (fun _=>rfl)
structure Vd where
 Xw:Int
 XD:Int
 XB:Int
 XC:Int
 Xy:Vw
 Xx:Vw
 deriving DecidableEq,Inhabited
abbrev VF:=List Vd
def ei:Rep Vd where
 sz:=6
 rel S w vs x:= ∃A4 n4 c4 A5 n5 c5,vs=[iV x.Xw,iV x.XD,iV x.XB,iV x.XC,W A4 n4 c4,W A5 n5 c5]/\SlR av S w (W A4 n4 c4) x.Xy/\SlR av S w (W A5 n5 c5) x.Xx
 loc:=fun h ⟨_,_,_,_,_,_,e,h4,h5⟩=>⟨_,_,_,_,_,_,e,h4.loc h,h5.loc h⟩
 mono:=fun h ⟨_,_,_,_,_,_,e,h4,h5⟩=>⟨_,_,_,_,_,_,e,h4.mono h,h5.mono h⟩
 len:=fun ⟨_,_,_,_,_,_,e,_⟩=>by rw [e];rfl
 one:=fun ⟨_,_,_,_,_,_,e,_⟩=>by rw [e];rfl
theorem ke (x:Vd):LM ei x fun vs cs=> ∃A4 n4 c4 A5 n5 c5,vs=[iV x.Xw,iV x.XD,iV x.XB,iV x.XC,W A4 n4 c4,W A5 n5 c5]/\cs=[iI av (W A4 n4 c4) x.Xy,iI av (W A5 n5 c5) x.Xx]:=fun S w vs ⟨_,_,_,_,_,_,e,h4,h5⟩=>⟨_,⟨_,_,_,_,_,_,e,rfl⟩,t0 h4 (t0 h5 (aQ))⟩
structure Ve where
 XA:VF
 Xz:VF
 deriving DecidableEq,Inhabited
structure Vv where
 m_:Ve
 XJ:Vw
 XP:Vw
 XO:Vt
 deriving DecidableEq,Inhabited
structure Vs where
 Xw:Int
 N:Int
 S:ByteArray
 deriving DecidableEq,Inhabited
abbrev VE:=List Vs
def Bb:Rep Vs:=.flat 3 (fun x=> [iV x.Xw,iV x.N,.string x.S]) (fun _=>rfl) (fun _=>rfl)
structure Vq where
 Up:Int
 XI:Vs
 XE:Int
 XX:Int
 deriving DecidableEq,Inhabited
def bn:Rep Vq:=.flat 6 (fun x=> [iV x.Up,iV x.XI.Xw,iV x.XI.N,.string x.XI.S,iV x.XE,iV x.XX]) (fun _=>rfl) (fun _=>rfl)
structure Vu where
 Yn:Int
 Ym:Vs
 Yo:Int
 deriving DecidableEq,Inhabited
def Rx:Rep Vu:=.flat 5 (fun x=> [iV x.Yn,iV x.Ym.Xw,iV x.Ym.N,.string x.Ym.S,iV x.Yo]) (fun _=>rfl) (fun _=>rfl)
structure Vi where
 XH:(List Vq)
 XV:(List (Vu×Int))
 deriving DecidableEq,Inhabited
structure Vg where
 Yd:Int
 Yf:Int
 Yh:Int
 deriving DecidableEq,Inhabited
def PD:Rep Vg:=.flat 3 (fun x=> [iV x.Yd,iV x.Yf,iV x.Yh]) (fun _=>rfl) (fun _=>rfl)
structure Vm where
 Xw:Int
 XI:Vs
 S:ByteArray
 deriving DecidableEq,Inhabited
def oz:Rep Vm:=.flat 5 (fun x=> [iV x.Xw,iV x.XI.Xw,iV x.XI.N,.string x.XI.S,.string x.S]) (fun _=>rfl) (fun _=>rfl)
structure Vj where
 XQ:Vg
 XK:Vf
 Yp:Unit
 XF:Vv
 XH:Vi
 XS:(List ByteArray)
 XR:Int
 XY:Int
 XZ:Int
 XT:(List Vm)
 XU:(List ByteArray)
 deriving DecidableEq,Inhabited
structure Vn where
 Has:Int
 XE:Int
 Value:Vp
 XL:Vp
 XM:Vp
 deriving DecidableEq,Inhabited
def NI:Rep Vn:=.flat 11 (fun x=> [iV x.Has,iV x.XE,iV x.Value.Xw,iV x.Value.N,.string x.Value.S,iV x.XL.Xw,iV x.XL.N,.string x.XL.S,iV x.XM.Xw,iV x.XM.N,.string x.XM.S]) (fun _=>rfl) (fun _=>rfl)
structure Vr where
 Xw:Int
 O:Int
 P:Int
 K:Vs
 D:Vn
 V:Vp
 XE:Int
 deriving DecidableEq,Inhabited
def DL:Rep Vr:=.flat 21 (fun x=> [iV x.Xw,iV x.O,iV x.P,iV x.K.Xw,iV x.K.N,.string x.K.S,iV x.D.Has,iV x.D.XE,iV x.D.Value.Xw,iV x.D.Value.N,.string x.D.Value.S,iV x.D.XL.Xw,iV x.D.XL.N,.string x.D.XL.S,iV x.D.XM.Xw,iV x.D.XM.N,.string x.D.XM.S,iV x.V.Xw,iV x.V.N,.string x.V.S,iV x.XE]) (fun _=>rfl) (fun _=>rfl)
structure Vo where
 XG:Vd
 w_:Vj
 at_:Vp
 deriving DecidableEq,Inhabited
structure Vk where
 XI:Vs
 XE:Int
 Value:Vp
 XL:Vp
 XM:Vp
 deriving DecidableEq,Inhabited
def tG:Rep Vk:=.flat 13 (fun x=> [iV x.XI.Xw,iV x.XI.N,.string x.XI.S,iV x.XE,iV x.Value.Xw,iV x.Value.N,.string x.Value.S,iV x.XL.Xw,iV x.XL.N,.string x.XL.S,iV x.XM.Xw,iV x.XM.N,.string x.XM.S]) (fun _=>rfl) (fun _=>rfl)
structure Vh where
 m_:Ve
 XW:Vx
 XN:(List (Int×Unit))
 Ye:Int
 deriving DecidableEq,Inhabited
structure Vl where
 m_:Ve
 Yc:Vx
 XN:Vx
 Yb:VG
 XV:Int
 deriving DecidableEq,Inhabited
abbrev aB (A:Option Addr)(n c:Nat):=bh av 29 (.slice A n c)
abbrev aZ (A:Option Addr)(n c:Nat):=iI av (.slice A n c)
abbrev bB (A:Option Addr)(n c:Nat):=iI ei (.slice A n c)
abbrev cN (A:Option Addr)(n c:Nat):=bh ei 45 (.slice A n c)
abbrev fm (A:Option Addr)(n c:Nat):=bh (jI .i64) 3 (.slice A n c)
abbrev fC (A:Option Addr)(n c:Nat):=iI (jI .i64) (.slice A n c)
abbrev ir (A:Option Addr)(n c:Nat):=bh uy 9 (.slice A n c)
abbrev oG (A:Option Addr)(n c:Nat):=bh Bb 34 (.slice A n c)
abbrev sy (A:Option Addr)(n c:Nat):=bh oz 319 (.slice A n c)
abbrev TQ (A:Option Addr)(n c:Nat):=iI Bb (.slice A n c)
abbrev Fo (x:Vf):Value:=.agg #[iV x.Yk,iV x.Yg,iV x.Ya,iV x.Yj,iV x.XA,iV x.Yi,iV x.Yl]
abbrev qD (x:Vn):Value:=.agg #[iV x.Has,iV x.XE,iV x.Value.Xw,iV x.Value.N,.string x.Value.S,iV x.XL.Xw,iV x.XL.N,.string x.XL.S,iV x.XM.Xw,iV x.XM.N,.string x.XM.S]
abbrev nq (x:Vs):Value:=.agg #[iV x.Xw,iV x.N,.string x.S]
abbrev SK (x:Vr):Value:=.agg #[iV x.Xw,iV x.O,iV x.P,iV x.K.Xw,iV x.K.N,.string x.K.S,iV x.D.Has,iV x.D.XE,iV x.D.Value.Xw,iV x.D.Value.N,.string x.D.Value.S,iV x.D.XL.Xw,iV x.D.XL.N,.string x.D.XL.S,iV x.D.XM.Xw,iV x.D.XM.N,.string x.D.XM.S,iV x.V.Xw,iV x.V.N,.string x.V.S,iV x.XE]
abbrev oW (x:Vk):Value:=.agg #[iV x.XI.Xw,iV x.XI.N,.string x.XI.S,iV x.XE,iV x.Value.Xw,iV x.Value.N,.string x.Value.S,iV x.XL.Xw,iV x.XL.N,.string x.XL.S,iV x.XM.Xw,iV x.XM.N,.string x.XM.S]
abbrev Qb (x:Vq):Value:=.agg #[iV x.Up,iV x.XI.Xw,iV x.XI.N,.string x.XI.S,iV x.XE,iV x.XX]
abbrev Ou (x:Vu):Value:=.agg #[iV x.Yn,iV x.Ym.Xw,iV x.Ym.N,.string x.Ym.S,iV x.Yo]
abbrev aX (x:Vp):Value:=.agg #[iV x.Xw,iV x.N,.string x.S]
abbrev uc (x:Vn):VJ:=[iV x.Has,iV x.XE,iV x.Value.Xw,iV x.Value.N,.string x.Value.S,iV x.XL.Xw,iV x.XL.N,.string x.XL.S,iV x.XM.Xw,iV x.XM.N,.string x.XM.S]
abbrev BD (x:Vs):VJ:=[iV x.Xw,iV x.N,.string x.S]
abbrev F9 (x:Vr):VJ:=[iV x.Xw,iV x.O,iV x.P,iV x.K.Xw,iV x.K.N,.string x.K.S,iV x.D.Has,iV x.D.XE,iV x.D.Value.Xw,iV x.D.Value.N,.string x.D.Value.S,iV x.D.XL.Xw,iV x.D.XL.N,.string x.D.XL.S,iV x.D.XM.Xw,iV x.D.XM.N,.string x.D.XM.S,iV x.V.Xw,iV x.V.N,.string x.V.S,iV x.XE]
abbrev ki (x:Vk):VJ:=[iV x.XI.Xw,iV x.XI.N,.string x.XI.S,iV x.XE,iV x.Value.Xw,iV x.Value.N,.string x.Value.S,iV x.XL.Xw,iV x.XL.N,.string x.XL.S,iV x.XM.Xw,iV x.XM.N,.string x.XM.S]
abbrev D5 (x:Vq):VJ:=[iV x.Up,iV x.XI.Xw,iV x.XI.N,.string x.XI.S,iV x.XE,iV x.XX]
abbrev ed (x:Vp):VJ:=[iV x.Xw,iV x.N,.string x.S]
abbrev ub (x:Vj)(b d:Nat)(A:Option Addr)(n c:Nat)(A2:Option Addr)(n2 c2:Nat)(A3:Option Addr)(n3 c3:Nat):VJ:=[iV x.XQ.Yd,iV x.XQ.Yf,iV x.XQ.Yh,iV x.XK.Yk,iV x.XK.Yg,iV x.XK.Ya,iV x.XK.Yj,iV x.XK.XA,iV x.XK.Yi,iV x.XK.Yl,.nilIface,pV b 0,pV d 0,.slice A n c,iV x.XR,iV x.XY,iV x.XZ,W A2 n2 c2,W A3 n3 c3]
instance call162:FcK VK 162:=⟨⟨Tryz.f162,Tryz.func162,rfl,rfl⟩⟩
instance call173:FcK VK 173:=⟨⟨Tryz.f173,Tryz.func173,rfl,rfl⟩⟩
instance call191:FcK VK 191:=⟨⟨Tryz.f191,Tryz.func191,rfl,rfl⟩⟩
instance call193:FcK VK 193:=⟨⟨Tryz.f193,Tryz.func193,rfl,rfl⟩⟩
instance call197:FcK VK 197:=⟨⟨Tryz.f197,Tryz.func197,rfl,rfl⟩⟩
instance call201:FcK VK 201:=⟨⟨Tryz.f201,Tryz.func201,rfl,rfl⟩⟩
instance call218:FcK VK 218:=⟨⟨Tryz.f218,Tryz.func218,rfl,rfl⟩⟩
instance call227:FcK VK 227:=⟨⟨Tryz.f227,Tryz.func227,rfl,rfl⟩⟩
instance call228:FcK VK 228:=⟨⟨Tryz.f228,Tryz.func228,rfl,rfl⟩⟩
instance call245:FcK VK 245:=⟨⟨Tryz.f245,Tryz.func245,rfl,rfl⟩⟩
instance call252:FcK VK 252:=⟨⟨Tryz.f252,Tryz.func252,rfl,rfl⟩⟩
theorem uP (b o:Nat)(w:World):(Instr.fieldAt 29 (pV b o) 0).run VK w=.ok (pV b o) w:=by kernel_rfl
theorem BQ (b o:Nat)(w:World):(Instr.fieldAt 29 (pV b o) 1).run VK w=.ok (.pointer (some ⟨b,o+1,none⟩)) w:=by kernel_rfl
theorem QH (b o:Nat)(w:World):(Instr.fieldAt 29 (pV b o) 2).run VK w=.ok (.pointer (some ⟨b,o+2,none⟩)) w:=by kernel_rfl
theorem QG (b o:Nat)(w:World):(Instr.fieldAt 34 (pV b o) 0).run VK w=.ok (pV b o) w:=by kernel_rfl
theorem LA (b o:Nat)(w:World):(Instr.fieldAt 34 (pV b o) 1).run VK w=.ok (.pointer (some ⟨b,o+1,none⟩)) w:=by kernel_rfl
theorem H6 (b o:Nat)(w:World):(Instr.fieldAt 34 (pV b o) 2).run VK w=.ok (.pointer (some ⟨b,o+2,none⟩)) w:=by kernel_rfl
theorem QF (b o:Nat)(w:World):(Instr.fieldAt 36 (pV b o) 0).run VK w=.ok (pV b o) w:=by kernel_rfl
theorem QE (b o:Nat)(w:World):(Instr.fieldAt 36 (pV b o) 1).run VK w=.ok (.pointer (some ⟨b,o+1,none⟩)) w:=by kernel_rfl
theorem QD (b o:Nat)(w:World):(Instr.fieldAt 36 (pV b o) 2).run VK w=.ok (.pointer (some ⟨b,o+2,none⟩)) w:=by kernel_rfl
theorem QC (b o:Nat)(w:World):(Instr.fieldAt 36 (pV b o) 3).run VK w=.ok (.pointer (some ⟨b,o+5,none⟩)) w:=by kernel_rfl
theorem Lz (b o:Nat)(w:World):(Instr.fieldAt 36 (pV b o) 4).run VK w=.ok (.pointer (some ⟨b,o+8,none⟩)) w:=by kernel_rfl
theorem QB (b o:Nat)(w:World):(Instr.fieldAt 38 (pV b o) 0).run VK w=.ok (pV b o) w:=by kernel_rfl
theorem QA (b o:Nat)(w:World):(Instr.fieldAt 38 (pV b o) 1).run VK w=.ok (.pointer (some ⟨b,o+1,none⟩)) w:=by kernel_rfl
theorem Qz (b o:Nat)(w:World):(Instr.fieldAt 38 (pV b o) 2).run VK w=.ok (.pointer (some ⟨b,o+2,none⟩)) w:=by kernel_rfl
theorem Qy (b o:Nat)(w:World):(Instr.fieldAt 38 (pV b o) 3).run VK w=.ok (.pointer (some ⟨b,o+3,none⟩)) w:=by kernel_rfl
theorem Qx (b o:Nat)(w:World):(Instr.fieldAt 38 (pV b o) 4).run VK w=.ok (.pointer (some ⟨b,o+6,none⟩)) w:=by kernel_rfl
theorem Qw (b o:Nat)(w:World):(Instr.fieldAt 38 (pV b o) 5).run VK w=.ok (.pointer (some ⟨b,o+17,none⟩)) w:=by kernel_rfl
theorem Qv (b o:Nat)(w:World):(Instr.fieldAt 38 (pV b o) 6).run VK w=.ok (.pointer (some ⟨b,o+20,none⟩)) w:=by kernel_rfl
theorem Qu (b o:Nat)(w:World):(Instr.fieldAt 45 (pV b o) 0).run VK w=.ok (pV b o) w:=by kernel_rfl
theorem Qt (b o:Nat)(w:World):(Instr.fieldAt 45 (pV b o) 1).run VK w=.ok (.pointer (some ⟨b,o+1,none⟩)) w:=by kernel_rfl
theorem Ly (b o:Nat)(w:World):(Instr.fieldAt 45 (pV b o) 2).run VK w=.ok (.pointer (some ⟨b,o+2,none⟩)) w:=by kernel_rfl
theorem sN (b o:Nat)(w:World):(Instr.fieldAt 45 (pV b o) 3).run VK w=.ok (.pointer (some ⟨b,o+3,none⟩)) w:=by kernel_rfl
theorem H5 (b o:Nat)(w:World):(Instr.fieldAt 45 (pV b o) 4).run VK w=.ok (.pointer (some ⟨b,o+4,none⟩)) w:=by kernel_rfl
theorem zf (b o:Nat)(w:World):(Instr.fieldAt 45 (pV b o) 5).run VK w=.ok (.pointer (some ⟨b,o+5,none⟩)) w:=by kernel_rfl
theorem Ea (b o:Nat)(w:World):(Instr.fieldAt 48 (pV b o) 0).run VK w=.ok (pV b o) w:=by kernel_rfl
theorem H4 (b o:Nat)(w:World):(Instr.fieldAt 48 (pV b o) 1).run VK w=.ok (.pointer (some ⟨b,o+3,none⟩)) w:=by kernel_rfl
theorem D9 (b o:Nat)(w:World):(Instr.fieldAt 48 (pV b o) 2).run VK w=.ok (.pointer (some ⟨b,o+4,none⟩)) w:=by kernel_rfl
theorem Qs (b o:Nat)(w:World):(Instr.fieldAt 48 (pV b o) 3).run VK w=.ok (.pointer (some ⟨b,o+7,none⟩)) w:=by kernel_rfl
theorem Qr (b o:Nat)(w:World):(Instr.fieldAt 48 (pV b o) 4).run VK w=.ok (.pointer (some ⟨b,o+10,none⟩)) w:=by kernel_rfl
theorem Qq (b o:Nat)(w:World):(Instr.fieldAt 67 (pV b o) 0).run VK w=.ok (pV b o) w:=by kernel_rfl
theorem Qp (b o:Nat)(w:World):(Instr.fieldAt 67 (pV b o) 1).run VK w=.ok (.pointer (some ⟨b,o+1,none⟩)) w:=by kernel_rfl
theorem Qo (b o:Nat)(w:World):(Instr.fieldAt 67 (pV b o) 2).run VK w=.ok (.pointer (some ⟨b,o+2,none⟩)) w:=by kernel_rfl
theorem Qn (b o:Nat)(w:World):(Instr.fieldAt 67 (pV b o) 3).run VK w=.ok (.pointer (some ⟨b,o+3,none⟩)) w:=by kernel_rfl
theorem Qm (b o:Nat)(w:World):(Instr.fieldAt 67 (pV b o) 4).run VK w=.ok (.pointer (some ⟨b,o+4,none⟩)) w:=by kernel_rfl
theorem Ql (b o:Nat)(w:World):(Instr.fieldAt 67 (pV b o) 5).run VK w=.ok (.pointer (some ⟨b,o+5,none⟩)) w:=by kernel_rfl
theorem Qk (b o:Nat)(w:World):(Instr.fieldAt 67 (pV b o) 6).run VK w=.ok (.pointer (some ⟨b,o+6,none⟩)) w:=by kernel_rfl
theorem Qj (b o:Nat)(w:World):(Instr.fieldAt 78 (pV b o) 0).run VK w=.ok (pV b o) w:=by kernel_rfl
theorem Qi (b o:Nat)(w:World):(Instr.fieldAt 78 (pV b o) 1).run VK w=.ok (.pointer (some ⟨b,o+1,none⟩)) w:=by kernel_rfl
theorem Qh (b o:Nat)(w:World):(Instr.fieldAt 85 (pV b o) 0).run VK w=.ok (pV b o) w:=by kernel_rfl
theorem Qg (b o:Nat)(w:World):(Instr.fieldAt 85 (pV b o) 1).run VK w=.ok (.pointer (some ⟨b,o+3,none⟩)) w:=by kernel_rfl
theorem H3 (b o:Nat)(w:World):(Instr.fieldAt 85 (pV b o) 3).run VK w=.ok (.pointer (some ⟨b,o+11,none⟩)) w:=by kernel_rfl
theorem Qf (b o:Nat)(w:World):(Instr.fieldAt 85 (pV b o) 4).run VK w=.ok (.pointer (some ⟨b,o+12,none⟩)) w:=by kernel_rfl
theorem Qe (b o:Nat)(w:World):(Instr.fieldAt 85 (pV b o) 6).run VK w=.ok (.pointer (some ⟨b,o+14,none⟩)) w:=by kernel_rfl
theorem Jq (b o:Nat)(w:World):(Instr.fieldAt 103 (pV b o) 0).run VK w=.ok (pV b o) w:=by kernel_rfl
theorem Jp (b o:Nat)(w:World):(Instr.fieldAt 103 (pV b o) 1).run VK w=.ok (.pointer (some ⟨b,o+6,none⟩)) w:=by kernel_rfl
theorem OG (b o:Nat)(w:World):(Instr.fieldAt 103 (pV b o) 2).run VK w=.ok (.pointer (some ⟨b,o+7,none⟩)) w:=by kernel_rfl
theorem FE (b o:Nat)(w:World):(Instr.fieldAt 125 (pV b o) 0).run VK w=.ok (pV b o) w:=by kernel_rfl
theorem FD (b o:Nat)(w:World):(Instr.fieldAt 125 (pV b o) 1).run VK w=.ok (.pointer (some ⟨b,o+1,none⟩)) w:=by kernel_rfl
theorem FC (b o:Nat)(w:World):(Instr.fieldAt 128 (pV b o) 0).run VK w=.ok (pV b o) w:=by kernel_rfl
theorem FB (b o:Nat)(w:World):(Instr.fieldAt 128 (pV b o) 1).run VK w=.ok (.pointer (some ⟨b,o+2,none⟩)) w:=by kernel_rfl
theorem OF (b o:Nat)(w:World):(Instr.fieldAt 128 (pV b o) 2).run VK w=.ok (.pointer (some ⟨b,o+3,none⟩)) w:=by kernel_rfl
theorem OE (b o:Nat)(w:World):(Instr.fieldAt 128 (pV b o) 3).run VK w=.ok (.pointer (some ⟨b,o+4,none⟩)) w:=by kernel_rfl
theorem FA (b o:Nat)(w:World):(Instr.fieldAt 159 (pV b o) 0).run VK w=.ok (pV b o) w:=by kernel_rfl
theorem Fz (b o:Nat)(w:World):(Instr.fieldAt 159 (pV b o) 1).run VK w=.ok (.pointer (some ⟨b,o+1,none⟩)) w:=by kernel_rfl
theorem BT (b o:Nat)(w:World):(Instr.fieldAt 159 (pV b o) 2).run VK w=.ok (.pointer (some ⟨b,o+4,none⟩)) w:=by kernel_rfl
theorem Fy (b o:Nat)(w:World):(Instr.fieldAt 159 (pV b o) 3).run VK w=.ok (.pointer (some ⟨b,o+5,none⟩)) w:=by kernel_rfl
theorem OD (b o:Nat)(w:World):(Instr.fieldAt 186 (pV b o) 0).run VK w=.ok (pV b o) w:=by kernel_rfl
theorem BS (b o:Nat)(w:World):(Instr.fieldAt 191 (pV b o) 0).run VK w=.ok (pV b o) w:=by kernel_rfl
theorem OC (b o:Nat)(w:World):(Instr.fieldAt 191 (pV b o) 1).run VK w=.ok (.pointer (some ⟨b,o+1,none⟩)) w:=by kernel_rfl
theorem OB (b o:Nat)(w:World):(Instr.fieldAt 223 (pV b o) 0).run VK w=.ok (pV b o) w:=by kernel_rfl
theorem Jo (b o:Nat)(w:World):(Instr.fieldAt 223 (pV b o) 1).run VK w=.ok (.pointer (some ⟨b,o+2,none⟩)) w:=by kernel_rfl
theorem BR (b o:Nat)(w:World):(Instr.fieldAt 223 (pV b o) 2).run VK w=.ok (.pointer (some ⟨b,o+3,none⟩)) w:=by kernel_rfl
theorem OA (b o:Nat)(w:World):(Instr.fieldAt 223 (pV b o) 3).run VK w=.ok (.pointer (some ⟨b,o+4,none⟩)) w:=by kernel_rfl
theorem Jn (b o:Nat)(w:World):(Instr.fieldAt 223 (pV b o) 4).run VK w=.ok (.pointer (some ⟨b,o+5,none⟩)) w:=by kernel_rfl
theorem Jm (b o:Nat)(w:World):(Instr.fieldAt 269 (pV b o) 0).run VK w=.ok (pV b o) w:=by kernel_rfl
theorem Fw (b o:Nat)(w:World):(Instr.fieldAt 269 (pV b o) 1).run VK w=.ok (.pointer (some ⟨b,o+2,none⟩)) w:=by kernel_rfl
theorem Oz (b o:Nat)(w:World):(Instr.fieldAt 269 (pV b o) 2).run VK w=.ok (.pointer (some ⟨b,o+3,none⟩)) w:=by kernel_rfl
theorem Jl (b o:Nat)(w:World):(Instr.fieldAt 269 (pV b o) 3).run VK w=.ok (.pointer (some ⟨b,o+4,none⟩)) w:=by kernel_rfl
theorem xP:iX VK 3=true:=by kernel_rfl
theorem TN:iX VK 4=true:=by kernel_rfl
theorem TM:iX VK 9=true:=by kernel_rfl
theorem GH:iX VK 23=true:=by kernel_rfl
theorem vI:iX VK 43=true:=by kernel_rfl
theorem Bo:iX VK 60=true:=by kernel_rfl
theorem SA:iX VK 81=true:=by kernel_rfl
theorem EX:iX VK 99=true:=by kernel_rfl
theorem RJ:iX VK 106=true:=by kernel_rfl
theorem HH:iX VK 123=true:=by kernel_rfl
theorem RI:iX VK 126=true:=by kernel_rfl
theorem Ks:iX VK 156=true:=by kernel_rfl
theorem RH:iX VK 184=true:=by kernel_rfl
theorem RG:iX VK 189=true:=by kernel_rfl
theorem Kr:iX VK 207=true:=by kernel_rfl
theorem RF:iX VK 265=true:=by kernel_rfl
theorem RE:iX VK 267=true:=by kernel_rfl
instance agg29:FcG VK 29 3:=⟨by kernel_rfl⟩
instance agg34:FcG VK 34 3:=⟨by kernel_rfl⟩
instance agg36:FcG VK 36 11:=⟨by kernel_rfl⟩
instance agg38:FcG VK 38 21:=⟨by kernel_rfl⟩
instance agg45:FcG VK 45 6:=⟨by kernel_rfl⟩
instance agg48:FcG VK 48 13:=⟨by kernel_rfl⟩
instance agg67:FcG VK 67 7:=⟨by kernel_rfl⟩
instance agg125:FcG VK 125 2:=⟨by kernel_rfl⟩
instance agg159:FcG VK 159 6:=⟨by kernel_rfl⟩
instance size3:FcZ VK 3 1:=⟨by kernel_rfl⟩
instance size4:FcZ VK 4 1:=⟨by kernel_rfl⟩
instance size29:FcZ VK 29 3:=⟨by kernel_rfl⟩
instance size34:FcZ VK 34 3:=⟨by kernel_rfl⟩
instance size36:FcZ VK 36 11:=⟨by kernel_rfl⟩
instance size38:FcZ VK 38 21:=⟨by kernel_rfl⟩
instance size43:FcZ VK 43 1:=⟨by kernel_rfl⟩
instance size45:FcZ VK 45 6:=⟨by kernel_rfl⟩
instance size48:FcZ VK 48 13:=⟨by kernel_rfl⟩
instance size99:FcZ VK 99 1:=⟨by kernel_rfl⟩
instance size123:FcZ VK 123 1:=⟨by kernel_rfl⟩
instance size125:FcZ VK 125 2:=⟨by kernel_rfl⟩
instance size156:FcZ VK 156 1:=⟨by kernel_rfl⟩
instance size159:FcZ VK 159 6:=⟨by kernel_rfl⟩
instance size184:FcZ VK 184 1:=⟨by kernel_rfl⟩
instance size207:FcZ VK 207 1:=⟨by kernel_rfl⟩
instance size265:FcZ VK 265 1:=⟨by kernel_rfl⟩
instance size296:FcZ VK 296 0:=⟨by kernel_rfl⟩
instance zero3:FcI VK 3 (iV 0):=⟨fun w=>by kernel_rfl⟩
instance zero4:FcI VK 4 (.bool false):=⟨fun w=>by kernel_rfl⟩
instance zero29:FcI VK 29 (.agg #[iV 0,iV 0,.string ⟨#[]⟩]):=⟨fun w=>by kernel_rfl⟩
instance zero34:FcI VK 34 (.agg #[iV 0,iV 0,.string ⟨#[]⟩]):=⟨fun w=>by kernel_rfl⟩
instance zero36:FcI VK 36 (.agg #[iV 0,iV 0,iV 0,iV 0,.string ⟨#[]⟩,iV 0,iV 0,.string ⟨#[]⟩,iV 0,iV 0,.string ⟨#[]⟩]):=⟨fun w=>by kernel_rfl⟩
instance zero38:FcI VK 38 (.agg #[iV 0,iV 0,iV 0,iV 0,iV 0,.string ⟨#[]⟩,iV 0,iV 0,iV 0,iV 0,.string ⟨#[]⟩,iV 0,iV 0,.string ⟨#[]⟩,iV 0,iV 0,.string ⟨#[]⟩,iV 0,iV 0,.string ⟨#[]⟩,iV 0]):=⟨fun w=>by kernel_rfl⟩
instance zero43:FcI VK 43 (W none 0 0):=⟨fun w=>by kernel_rfl⟩
instance zero45:FcI VK 45 (.agg #[iV 0,iV 0,iV 0,iV 0,W none 0 0,W none 0 0]):=⟨fun w=>by kernel_rfl⟩
instance zero48:FcI VK 48 (.agg #[iV 0,iV 0,.string ⟨#[]⟩,iV 0,iV 0,iV 0,.string ⟨#[]⟩,iV 0,iV 0,.string ⟨#[]⟩,iV 0,iV 0,.string ⟨#[]⟩]):=⟨fun w=>by kernel_rfl⟩
instance zero99:FcI VK 99 (W none 0 0):=⟨fun w=>by kernel_rfl⟩
instance zero125:FcI VK 125 (.agg #[W none 0 0,W none 0 0]):=⟨fun w=>by kernel_rfl⟩
instance zero159:FcI VK 159 (.agg #[iV 0,iV 0,iV 0,.string ⟨#[]⟩,iV 0,iV 0]):=⟨fun w=>by kernel_rfl⟩
instance zero184:FcI VK 184 (.map none):=⟨fun w=>by kernel_rfl⟩
instance zero207:FcI VK 207 (.map none):=⟨fun w=>by kernel_rfl⟩
instance zero265:FcI VK 265 (.pointer none):=⟨fun w=>by kernel_rfl⟩
instance zero296:FcI VK 296 (.agg #[]):=⟨fun w=>by kernel_rfl⟩
theorem Ox (x0_ x1_ x2_ x3_:Int)(x4_a:Option Addr)(x4_n x4_c:Nat)(x5_a:Option Addr)(x5_n x5_c:Nat)(w:World):(Instr.field 45 (.agg #[iV x0_,iV x1_,iV x2_,iV x3_,.slice x4_a x4_n x4_c,.slice x5_a x5_n x5_c]) 0).run VK w=.ok (iV x0_) w:=by kernel_rfl
theorem Jg (x0_ x1_ x2_ x3_:Int)(x4_a:Option Addr)(x4_n x4_c:Nat)(x5_a:Option Addr)(x5_n x5_c:Nat)(w:World):(Instr.field 45 (.agg #[iV x0_,iV x1_,iV x2_,iV x3_,.slice x4_a x4_n x4_c,.slice x5_a x5_n x5_c]) 1).run VK w=.ok (iV x1_) w:=by kernel_rfl
theorem Ow (x0_ x1_ x2_ x3_:Int)(x4_a:Option Addr)(x4_n x4_c:Nat)(x5_a:Option Addr)(x5_n x5_c:Nat)(w:World):(Instr.field 45 (.agg #[iV x0_,iV x1_,iV x2_,iV x3_,.slice x4_a x4_n x4_c,.slice x5_a x5_n x5_c]) 3).run VK w=.ok (iV x3_) w:=by kernel_rfl
theorem Fq (x0_ x1_ x2_ x3_:Int)(x4_a:Option Addr)(x4_n x4_c:Nat)(x5_a:Option Addr)(x5_n x5_c:Nat)(w:World):(Instr.field 45 (.agg #[iV x0_,iV x1_,iV x2_,iV x3_,.slice x4_a x4_n x4_c,.slice x5_a x5_n x5_c]) 5).run VK w=.ok (.slice x5_a x5_n x5_c) w:=by kernel_rfl
instance bld_29_:FcB VK 29 [] (.agg #[iV 0,iV 0,.string ⟨#[]⟩]):=⟨fun w=>by kernel_rfl⟩
instance bld_29_0 (x0_:Int):FcB VK 29 [(0,iV x0_)] (.agg #[iV x0_,iV 0,.string ⟨#[]⟩]):=⟨fun w=>by kernel_rfl⟩
instance bld_29_0_1 (x0_ x1_:Int):FcB VK 29 [(0,iV x0_),(1,iV x1_)] (.agg #[iV x0_,iV x1_,.string ⟨#[]⟩]):=⟨fun w=>by kernel_rfl⟩
instance bld_34_0_2 (x0_:Int)(x2_:ByteArray):FcB VK 34 [(0,iV x0_),(2,.string x2_)] (.agg #[iV x0_,iV 0,.string x2_]):=⟨fun w=>by kernel_rfl⟩
instance bld_34_1 (x1_:Int):FcB VK 34 [(1,iV x1_)] (.agg #[iV 0,iV x1_,.string ⟨#[]⟩]):=⟨fun w=>by kernel_rfl⟩
instance bld_36_0_1_2 (x0_ x1_ x2_0_ x2_1_:Int)(x2_2_:ByteArray):FcB VK 36 [(0,iV x0_),(1,iV x1_),(2,.agg #[iV x2_0_,iV x2_1_,.string x2_2_])] (.agg #[iV x0_,iV x1_,iV x2_0_,iV x2_1_,.string x2_2_,iV 0,iV 0,.string ⟨#[]⟩,iV 0,iV 0,.string ⟨#[]⟩]):=⟨fun w=>by kernel_rfl⟩
instance bld_45_:FcB VK 45 [] (.agg #[iV 0,iV 0,iV 0,iV 0,W none 0 0,W none 0 0]):=⟨fun w=>by kernel_rfl⟩
instance bld_45_0 (x0_:Int):FcB VK 45 [(0,iV x0_)] (.agg #[iV x0_,iV 0,iV 0,iV 0,W none 0 0,W none 0 0]):=⟨fun w=>by kernel_rfl⟩
instance bld_45_0_2_4 (x0_ x2_:Int)(x4_a:Option Addr)(x4_n x4_c:Nat):FcB VK 45 [(0,iV x0_),(2,iV x2_),(4,.slice x4_a x4_n x4_c)] (.agg #[iV x0_,iV 0,iV x2_,iV 0,.slice x4_a x4_n x4_c,W none 0 0]):=⟨fun w=>by kernel_rfl⟩
instance bld_45_0_2_4_5 (x0_ x2_:Int)(x4_a:Option Addr)(x4_n x4_c:Nat)(x5_a:Option Addr)(x5_n x5_c:Nat):FcB VK 45 [(0,iV x0_),(2,iV x2_),(4,.slice x4_a x4_n x4_c),(5,.slice x5_a x5_n x5_c)] (.agg #[iV x0_,iV 0,iV x2_,iV 0,.slice x4_a x4_n x4_c,.slice x5_a x5_n x5_c]):=⟨fun w=>by kernel_rfl⟩
instance bld_45_0_4 (x0_:Int)(x4_a:Option Addr)(x4_n x4_c:Nat):FcB VK 45 [(0,iV x0_),(4,.slice x4_a x4_n x4_c)] (.agg #[iV x0_,iV 0,iV 0,iV 0,.slice x4_a x4_n x4_c,W none 0 0]):=⟨fun w=>by kernel_rfl⟩
instance bld_45_5 (x5_a:Option Addr)(x5_n x5_c:Nat):FcB VK 45 [(5,.slice x5_a x5_n x5_c)] (.agg #[iV 0,iV 0,iV 0,iV 0,W none 0 0,.slice x5_a x5_n x5_c]):=⟨fun w=>by kernel_rfl⟩
instance bld_48_:FcB VK 48 [] (.agg #[iV 0,iV 0,.string ⟨#[]⟩,iV 0,iV 0,iV 0,.string ⟨#[]⟩,iV 0,iV 0,.string ⟨#[]⟩,iV 0,iV 0,.string ⟨#[]⟩]):=⟨fun w=>by kernel_rfl⟩
instance bld_48_0 (x0_0_ x0_1_:Int)(x0_2_:ByteArray):FcB VK 48 [(0,.agg #[iV x0_0_,iV x0_1_,.string x0_2_])] (.agg #[iV x0_0_,iV x0_1_,.string x0_2_,iV 0,iV 0,iV 0,.string ⟨#[]⟩,iV 0,iV 0,.string ⟨#[]⟩,iV 0,iV 0,.string ⟨#[]⟩]):=⟨fun w=>by kernel_rfl⟩
instance bld_48_0_1 (x0_0_ x0_1_:Int)(x0_2_:ByteArray)(x1_:Int):FcB VK 48 [(0,.agg #[iV x0_0_,iV x0_1_,.string x0_2_]),(1,iV x1_)] (.agg #[iV x0_0_,iV x0_1_,.string x0_2_,iV x1_,iV 0,iV 0,.string ⟨#[]⟩,iV 0,iV 0,.string ⟨#[]⟩,iV 0,iV 0,.string ⟨#[]⟩]):=⟨fun w=>by kernel_rfl⟩
instance bld_48_0_1_2 (x0_0_ x0_1_:Int)(x0_2_:ByteArray)(x1_ x2_0_ x2_1_:Int)(x2_2_:ByteArray):FcB VK 48 [(0,.agg #[iV x0_0_,iV x0_1_,.string x0_2_]),(1,iV x1_),(2,.agg #[iV x2_0_,iV x2_1_,.string x2_2_])] (.agg #[iV x0_0_,iV x0_1_,.string x0_2_,iV x1_,iV x2_0_,iV x2_1_,.string x2_2_,iV 0,iV 0,.string ⟨#[]⟩,iV 0,iV 0,.string ⟨#[]⟩]):=⟨fun w=>by kernel_rfl⟩
instance bld_67_1_2_3_4_5_6 (x1_ x2_ x3_ x4_ x5_ x6_:Int):FcB VK 67 [(1,iV x1_),(2,iV x2_),(3,iV x3_),(4,iV x4_),(5,iV x5_),(6,iV x6_)] (.agg #[iV 0,iV x1_,iV x2_,iV x3_,iV x4_,iV x5_,iV x6_]):=⟨fun w=>by kernel_rfl⟩
instance bld_85_1_3_4 (x1_0_ x1_1_ x1_2_ x1_3_ x1_4_ x1_5_ x1_6_:Int)(x3_ x4_:Option Addr):FcB VK 85 [(1,.agg #[iV x1_0_,iV x1_1_,iV x1_2_,iV x1_3_,iV x1_4_,iV x1_5_,iV x1_6_]),(3,.pointer x3_),(4,.pointer x4_)] (.agg #[iV 0,iV 0,iV 0,iV x1_0_,iV x1_1_,iV x1_2_,iV x1_3_,iV x1_4_,iV x1_5_,iV x1_6_,.nilIface,.pointer x3_,.pointer x4_,W none 0 0,iV 0,iV 0,iV 0,W none 0 0,W none 0 0]):=⟨fun w=>by kernel_rfl⟩
instance bld_103_0_1_2 (x0_0_ x0_1_ x0_2_ x0_3_:Int)(x0_4_a:Option Addr)(x0_4_n x0_4_c:Nat)(x0_5_a:Option Addr)(x0_5_n x0_5_c:Nat)(x1_:Option Addr)(x2_0_ x2_1_:Int)(x2_2_:ByteArray):FcB VK 103 [(0,.agg #[iV x0_0_,iV x0_1_,iV x0_2_,iV x0_3_,.slice x0_4_a x0_4_n x0_4_c,.slice x0_5_a x0_5_n x0_5_c]),(1,.pointer x1_),(2,.agg #[iV x2_0_,iV x2_1_,.string x2_2_])] (.agg #[iV x0_0_,iV x0_1_,iV x0_2_,iV x0_3_,.slice x0_4_a x0_4_n x0_4_c,.slice x0_5_a x0_5_n x0_5_c,.pointer x1_,iV x2_0_,iV x2_1_,.string x2_2_]):=⟨fun w=>by kernel_rfl⟩
instance bld_125_:FcB VK 125 [] (.agg #[W none 0 0,W none 0 0]):=⟨fun w=>by kernel_rfl⟩
instance bld_128_3 (x3_:Option Addr):FcB VK 128 [(3,.pointer x3_)] (.agg #[W none 0 0,W none 0 0,W none 0 0,W none 0 0,.pointer x3_]):=⟨fun w=>by kernel_rfl⟩
instance bld_159_:FcB VK 159 [] (.agg #[iV 0,iV 0,iV 0,.string ⟨#[]⟩,iV 0,iV 0]):=⟨fun w=>by kernel_rfl⟩
instance bld_159_0 (x0_:Int):FcB VK 159 [(0,iV x0_)] (.agg #[iV x0_,iV 0,iV 0,.string ⟨#[]⟩,iV 0,iV 0]):=⟨fun w=>by kernel_rfl⟩
instance bld_159_0_1_2_3 (x0_ x1_0_ x1_1_:Int)(x1_2_:ByteArray)(x2_ x3_:Int):FcB VK 159 [(0,iV x0_),(1,.agg #[iV x1_0_,iV x1_1_,.string x1_2_]),(2,iV x2_),(3,iV x3_)] (.agg #[iV x0_,iV x1_0_,iV x1_1_,.string x1_2_,iV x2_,iV x3_]):=⟨fun w=>by kernel_rfl⟩
instance bld_159_1_2 (x1_0_ x1_1_:Int)(x1_2_:ByteArray)(x2_:Int):FcB VK 159 [(1,.agg #[iV x1_0_,iV x1_1_,.string x1_2_]),(2,iV x2_)] (.agg #[iV 0,iV x1_0_,iV x1_1_,.string x1_2_,iV x2_,iV 0]):=⟨fun w=>by kernel_rfl⟩
instance bld_186_0 (x0_:Option Nat):FcB VK 186 [(0,.map x0_)] (.agg #[.map x0_]):=⟨fun w=>by kernel_rfl⟩
instance bld_191_0_1 (x0_a:Option Addr)(x0_n x0_c:Nat)(x1_:Option Nat):FcB VK 191 [(0,.slice x0_a x0_n x0_c),(1,.map x1_)] (.agg #[.slice x0_a x0_n x0_c,.map x1_]):=⟨fun w=>by kernel_rfl⟩
instance bld_223_0_1_3 (x0_0_a:Option Addr)(x0_0_n x0_0_c:Nat)(x0_1_a:Option Addr)(x0_1_n x0_1_c:Nat)(x1_a:Option Addr)(x1_n x1_c:Nat)(x3_:Option Nat):FcB VK 223 [(0,.agg #[.slice x0_0_a x0_0_n x0_0_c,.slice x0_1_a x0_1_n x0_1_c]),(1,.slice x1_a x1_n x1_c),(3,.map x3_)] (.agg #[.slice x0_0_a x0_0_n x0_0_c,.slice x0_1_a x0_1_n x0_1_c,.slice x1_a x1_n x1_c,W none 0 0,.map x3_,iV 0]):=⟨fun w=>by kernel_rfl⟩
instance bld_245_0_1_2 (x0_ x1_0_ x1_1_:Int)(x1_2_:ByteArray)(x2_:Int):FcB VK 245 [(0,iV x0_),(1,.agg #[iV x1_0_,iV x1_1_,.string x1_2_]),(2,iV x2_)] (.agg #[iV x0_,iV x1_0_,iV x1_1_,.string x1_2_,iV x2_]):=⟨fun w=>by kernel_rfl⟩
instance bld_269_0_2 (x0_0_a:Option Addr)(x0_0_n x0_0_c:Nat)(x0_1_a:Option Addr)(x0_1_n x0_1_c:Nat)(x2_:Option Nat):FcB VK 269 [(0,.agg #[.slice x0_0_a x0_0_n x0_0_c,.slice x0_1_a x0_1_n x0_1_c]),(2,.map x2_)] (.agg #[.slice x0_0_a x0_0_n x0_0_c,.slice x0_1_a x0_1_n x0_1_c,W none 0 0,.map x2_,iV 0]):=⟨fun w=>by kernel_rfl⟩
instance bld_296_:FcB VK 296 [] (.agg #[]):=⟨fun w=>by kernel_rfl⟩
theorem O3 (x0_0_0_ x0_0_1_:Int)(x0_0_2_:ByteArray)(x0_1_ x0_2_0_ x0_2_1_:Int)(x0_2_2_:ByteArray)(x0_3_0_ x0_3_1_:Int)(x0_3_2_:ByteArray)(x0_4_0_ x0_4_1_:Int)(x0_4_2_:ByteArray)(w:World):(Instr.buildSlice 40 1 #[(0,.agg #[iV x0_0_0_,iV x0_0_1_,.string x0_0_2_,iV x0_1_,iV x0_2_0_,iV x0_2_1_,.string x0_2_2_,iV x0_3_0_,iV x0_3_1_,.string x0_3_2_,iV x0_4_0_,iV x0_4_1_,.string x0_4_2_])]).run VK w=.ok (.slice (some ⟨w.heap.size,0,none⟩) 1 1) (w.alloc (.cells #[iV x0_0_0_,iV x0_0_1_,.string x0_0_2_,iV x0_1_,iV x0_2_0_,iV x0_2_1_,.string x0_2_2_,iV x0_3_0_,iV x0_3_1_,.string x0_3_2_,iV x0_4_0_,iV x0_4_1_,.string x0_4_2_] 48)):=by kernel_rfl
theorem O2 (w:World):(Instr.buildSlice 43 0 #[]).run VK w=.ok (.slice (some ⟨w.heap.size,0,none⟩) 0 0) (w.alloc (.cells #[] 29)):=by kernel_rfl
theorem rL (x0_0_ x0_1_:Int)(x0_2_:ByteArray)(w:World):(Instr.buildSlice 43 1 #[(0,.agg #[iV x0_0_,iV x0_1_,.string x0_2_])]).run VK w=.ok (.slice (some ⟨w.heap.size,0,none⟩) 1 1) (w.alloc (.cells #[iV x0_0_,iV x0_1_,.string x0_2_] 29)):=by kernel_rfl
theorem FO (x0_0_ x0_1_:Int)(x0_2_:ByteArray)(x1_0_ x1_1_:Int)(x1_2_:ByteArray)(w:World):(Instr.buildSlice 43 2 #[(0,.agg #[iV x0_0_,iV x0_1_,.string x0_2_]),(1,.agg #[iV x1_0_,iV x1_1_,.string x1_2_])]).run VK w=.ok (.slice (some ⟨w.heap.size,0,none⟩) 2 2) (w.alloc (.cells #[iV x0_0_,iV x0_1_,.string x0_2_,iV x1_0_,iV x1_1_,.string x1_2_] 29)):=by kernel_rfl
theorem O1 (x0_0_ x0_1_:Int)(x0_2_:ByteArray)(x1_0_ x1_1_:Int)(x1_2_:ByteArray)(x2_0_ x2_1_:Int)(x2_2_:ByteArray)(w:World):(Instr.buildSlice 43 3 #[(0,.agg #[iV x0_0_,iV x0_1_,.string x0_2_]),(1,.agg #[iV x1_0_,iV x1_1_,.string x1_2_]),(2,.agg #[iV x2_0_,iV x2_1_,.string x2_2_])]).run VK w=.ok (.slice (some ⟨w.heap.size,0,none⟩) 3 3) (w.alloc (.cells #[iV x0_0_,iV x0_1_,.string x0_2_,iV x1_0_,iV x1_1_,.string x1_2_,iV x2_0_,iV x2_1_,.string x2_2_] 29)):=by kernel_rfl
theorem JI (x0_0_ x0_1_:Int)(x0_2_:ByteArray)(x1_0_ x1_1_:Int)(x1_2_:ByteArray)(x2_0_ x2_1_:Int)(x2_2_:ByteArray)(x3_0_ x3_1_:Int)(x3_2_:ByteArray)(w:World):(Instr.buildSlice 43 4 #[(0,.agg #[iV x0_0_,iV x0_1_,.string x0_2_]),(1,.agg #[iV x1_0_,iV x1_1_,.string x1_2_]),(2,.agg #[iV x2_0_,iV x2_1_,.string x2_2_]),(3,.agg #[iV x3_0_,iV x3_1_,.string x3_2_])]).run VK w=.ok (.slice (some ⟨w.heap.size,0,none⟩) 4 4) (w.alloc (.cells #[iV x0_0_,iV x0_1_,.string x0_2_,iV x1_0_,iV x1_1_,.string x1_2_,iV x2_0_,iV x2_1_,.string x2_2_,iV x3_0_,iV x3_1_,.string x3_2_] 29)):=by kernel_rfl
theorem JH (x0_0_ x0_1_:Int)(x0_2_:ByteArray)(w:World):(Instr.buildSlice 72 1 #[(0,.agg #[iV x0_0_,iV x0_1_,.string x0_2_])]).run VK w=.ok (.slice (some ⟨w.heap.size,0,none⟩) 1 1) (w.alloc (.cells #[iV x0_0_,iV x0_1_,.string x0_2_] 34)):=by kernel_rfl
theorem nv (x0_:Int)(w:World):(Instr.buildSlice 99 1 #[(0,iV x0_)]).run VK w=.ok (.slice (some ⟨w.heap.size,0,none⟩) 1 1) (w.alloc (.cells #[iV x0_] 3)):=by kernel_rfl
theorem O0 (x0_ x1_:Int)(w:World):(Instr.buildSlice 99 2 #[(0,iV x0_),(1,iV x1_)]).run VK w=.ok (.slice (some ⟨w.heap.size,0,none⟩) 2 2) (w.alloc (.cells #[iV x0_,iV x1_] 3)):=by kernel_rfl
theorem vR (x0_0_ x0_1_ x0_2_ x0_3_:Int)(x0_4_a:Option Addr)(x0_4_n x0_4_c:Nat)(x0_5_a:Option Addr)(x0_5_n x0_5_c:Nat)(w:World):(Instr.buildSlice 123 1 #[(0,.agg #[iV x0_0_,iV x0_1_,iV x0_2_,iV x0_3_,.slice x0_4_a x0_4_n x0_4_c,.slice x0_5_a x0_5_n x0_5_c])]).run VK w=.ok (.slice (some ⟨w.heap.size,0,none⟩) 1 1) (w.alloc (.cells #[iV x0_0_,iV x0_1_,iV x0_2_,iV x0_3_,.slice x0_4_a x0_4_n x0_4_c,.slice x0_5_a x0_5_n x0_5_c] 45)):=by kernel_rfl
theorem C4 (x0_0_ x0_1_0_ x0_1_1_:Int)(x0_1_2_:ByteArray)(x0_2_ x0_3_:Int)(w:World):(Instr.buildSlice 156 1 #[(0,.agg #[iV x0_0_,iV x0_1_0_,iV x0_1_1_,.string x0_1_2_,iV x0_2_,iV x0_3_])]).run VK w=.ok (.slice (some ⟨w.heap.size,0,none⟩) 1 1) (w.alloc (.cells #[iV x0_0_,iV x0_1_0_,iV x0_1_1_,.string x0_1_2_,iV x0_2_,iV x0_3_] 159)):=by kernel_rfl
theorem nJ (x0_a:Option Addr)(x0_n x0_c:Nat)(x1_a:Option Addr)(x1_n x1_c:Nat)(w:World):(Instr.buildSlice 171 2 #[(0,.slice x0_a x0_n x0_c),(1,.slice x1_a x1_n x1_c)]).run VK w=.ok (.slice (some ⟨w.heap.size,0,none⟩) 2 2) (w.alloc (.cells #[.slice x0_a x0_n x0_c,.slice x1_a x1_n x1_c] 43)):=by kernel_rfl
theorem G9 (x0_a:Option Addr)(x0_n x0_c:Nat)(x1_a:Option Addr)(x1_n x1_c:Nat)(w:World):(Instr.buildSlice 174 2 #[(0,.slice x0_a x0_n x0_c),(1,.slice x1_a x1_n x1_c)]).run VK w=.ok (.slice (some ⟨w.heap.size,0,none⟩) 2 2) (w.alloc (.cells #[.slice x0_a x0_n x0_c,.slice x1_a x1_n x1_c] 123)):=by kernel_rfl
theorem Ng (x0_a:Option Addr)(x0_n x0_c:Nat)(x1_a:Option Addr)(x1_n x1_c:Nat)(w:World):(Instr.buildSlice 230 2 #[(0,.slice x0_a x0_n x0_c),(1,.slice x1_a x1_n x1_c)]).run VK w=.ok (.slice (some ⟨w.heap.size,0,none⟩) 2 2) (w.alloc (.cells #[.slice x0_a x0_n x0_c,.slice x1_a x1_n x1_c] 99)):=by kernel_rfl
theorem It:rh VK 3 1 8=true:=by kernel_rfl
theorem AI:rh VK 29 3 32=true:=by kernel_rfl
theorem Sq:rh VK 34 3 32=true:=by kernel_rfl
theorem Is:rh VK 45 6 80=true:=by kernel_rfl
theorem TB:rh VK 48 13 136=true:=by kernel_rfl
theorem Sr:rh VK 159 6 56=true:=by kernel_rfl
instance:Fc (iX VK 3=true):=⟨xP⟩
instance:Fc (iX VK 4=true):=⟨TN⟩
instance:Fc (iX VK 9=true):=⟨TM⟩
instance:Fc (iX VK 23=true):=⟨GH⟩
instance:Fc (iX VK 43=true):=⟨vI⟩
instance:Fc (iX VK 60=true):=⟨Bo⟩
instance:Fc (iX VK 81=true):=⟨SA⟩
instance:Fc (iX VK 99=true):=⟨EX⟩
instance:Fc (iX VK 106=true):=⟨RJ⟩
instance:Fc (iX VK 123=true):=⟨HH⟩
instance:Fc (iX VK 126=true):=⟨RI⟩
instance:Fc (iX VK 156=true):=⟨Ks⟩
instance:Fc (iX VK 184=true):=⟨RH⟩
instance:Fc (iX VK 189=true):=⟨RG⟩
instance:Fc (iX VK 207=true):=⟨Kr⟩
instance:Fc (iX VK 265=true):=⟨RF⟩
instance:Fc (iX VK 267=true):=⟨RE⟩
instance:FcA0 VK 29 0:=⟨uP⟩
instance:FcA VK 29 1 1:=⟨BQ⟩
instance:FcA VK 29 2 2:=⟨QH⟩
instance:FcA0 VK 34 0:=⟨QG⟩
instance:FcA VK 34 1 1:=⟨LA⟩
instance:FcA VK 34 2 2:=⟨H6⟩
instance:FcA0 VK 36 0:=⟨QF⟩
instance:FcA VK 36 1 1:=⟨QE⟩
instance:FcA VK 36 2 2:=⟨QD⟩
instance:FcA VK 36 3 5:=⟨QC⟩
instance:FcA VK 36 4 8:=⟨Lz⟩
instance:FcA0 VK 38 0:=⟨QB⟩
instance:FcA VK 38 1 1:=⟨QA⟩
instance:FcA VK 38 2 2:=⟨Qz⟩
instance:FcA VK 38 3 3:=⟨Qy⟩
instance:FcA VK 38 4 6:=⟨Qx⟩
instance:FcA VK 38 5 17:=⟨Qw⟩
instance:FcA VK 38 6 20:=⟨Qv⟩
instance:FcA0 VK 45 0:=⟨Qu⟩
instance:FcA VK 45 1 1:=⟨Qt⟩
instance:FcA VK 45 2 2:=⟨Ly⟩
instance:FcA VK 45 3 3:=⟨sN⟩
instance:FcA VK 45 4 4:=⟨H5⟩
instance:FcA VK 45 5 5:=⟨zf⟩
instance:FcA0 VK 48 0:=⟨Ea⟩
instance:FcA VK 48 1 3:=⟨H4⟩
instance:FcA VK 48 2 4:=⟨D9⟩
instance:FcA VK 48 3 7:=⟨Qs⟩
instance:FcA VK 48 4 10:=⟨Qr⟩
instance:FcA0 VK 67 0:=⟨Qq⟩
instance:FcA VK 67 1 1:=⟨Qp⟩
instance:FcA VK 67 2 2:=⟨Qo⟩
instance:FcA VK 67 3 3:=⟨Qn⟩
instance:FcA VK 67 4 4:=⟨Qm⟩
instance:FcA VK 67 5 5:=⟨Ql⟩
instance:FcA VK 67 6 6:=⟨Qk⟩
instance:FcA0 VK 78 0:=⟨Qj⟩
instance:FcA VK 78 1 1:=⟨Qi⟩
instance:FcA0 VK 85 0:=⟨Qh⟩
instance:FcA VK 85 1 3:=⟨Qg⟩
instance:FcA VK 85 3 11:=⟨H3⟩
instance:FcA VK 85 4 12:=⟨Qf⟩
instance:FcA VK 85 6 14:=⟨Qe⟩
instance:FcA0 VK 103 0:=⟨Jq⟩
instance:FcA VK 103 1 6:=⟨Jp⟩
instance:FcA VK 103 2 7:=⟨OG⟩
instance:FcA0 VK 125 0:=⟨FE⟩
instance:FcA VK 125 1 1:=⟨FD⟩
instance:FcA0 VK 128 0:=⟨FC⟩
instance:FcA VK 128 1 2:=⟨FB⟩
instance:FcA VK 128 2 3:=⟨OF⟩
instance:FcA VK 128 3 4:=⟨OE⟩
instance:FcA0 VK 159 0:=⟨FA⟩
instance:FcA VK 159 1 1:=⟨Fz⟩
instance:FcA VK 159 2 4:=⟨BT⟩
instance:FcA VK 159 3 5:=⟨Fy⟩
instance:FcA0 VK 186 0:=⟨OD⟩
instance:FcA0 VK 191 0:=⟨BS⟩
instance:FcA VK 191 1 1:=⟨OC⟩
instance:FcA0 VK 223 0:=⟨OB⟩
instance:FcA VK 223 1 2:=⟨Jo⟩
instance:FcA VK 223 2 3:=⟨BR⟩
instance:FcA VK 223 3 4:=⟨OA⟩
instance:FcA VK 223 4 5:=⟨Jn⟩
instance:FcA0 VK 269 0:=⟨Jm⟩
instance:FcA VK 269 1 2:=⟨Fw⟩
instance:FcA VK 269 2 3:=⟨Oz⟩
instance:FcA VK 269 3 4:=⟨Jl⟩
theorem GS:Tryz.prog.eqGuardType Tryz.prog.depth 29=false:=by kernel_rfl
theorem LC (x y:Vp)(w:World):(Op.equalIn 10000 29 (.agg #[iV x.Xw,iV x.N,.string x.S]) (.agg #[iV y.Xw,iV y.N,.string y.S])).run VK w=.ok (decide (x=y)) w:=by
 obtain ⟨xKind,xN,xS⟩:=x;obtain ⟨yKind,yN,yS⟩:=y;show (Op.equalIn 10000 29 (.agg #[iV xKind,iV xN,.string xS]) (.agg #[iV yKind,iV yN,.string yS])).run VK w=_
 go_simp
 simp only [Cd];by_cases h0:xKind=yKind<;>by_cases h1:xN=yN<;>by_cases h2:xS=yS<;>simp [h0,h1,h2]
theorem BU {d:Option Nat}{u:TypeId}{a b:Operand}{x y:Vp}(hx:be s a=some (.agg #[iV x.Xw,iV x.N,.string x.S]))(hy:be s b=some (.agg #[iV y.Xw,iV y.N,.string y.S])):Ev VK s C ⟨d,.binOp .eql 29 a b u,ty,pos,af,gd⟩ (.bool (decide (x=y))):=
 eW hx hy fun w=>by
  rw [Xi,run_eqGuard_agg w _ _ _ _ _ _ GS];simp only [Xh];rw [run_eql_struct,LC];rfl
theorem GW {d:Option Nat}{u:TypeId}{a b:Operand}{x y:Vp}(hx:be s a=some (.agg #[iV x.Xw,iV x.N,.string x.S]))(hy:be s b=some (.agg #[iV y.Xw,iV y.N,.string y.S])):Ev VK s C ⟨d,.binOp .neq 29 a b u,ty,pos,af,gd⟩ (.bool (!decide (x=y))):=
 eW hx hy fun w=>by
  rw [Xi,run_eqGuard_agg w _ _ _ _ _ _ GS];simp only [Xh];rw [run_neq_struct,LC];rfl
theorem GR:Tryz.prog.eqGuardType Tryz.prog.depth 34=false:=by kernel_rfl
theorem LB (x y:Vs)(w:World):(Op.equalIn 10000 34 (.agg #[iV x.Xw,iV x.N,.string x.S]) (.agg #[iV y.Xw,iV y.N,.string y.S])).run VK w=.ok (decide (x=y)) w:=by
 obtain ⟨xKind,xN,xS⟩:=x;obtain ⟨yKind,yN,yS⟩:=y;show (Op.equalIn 10000 34 (.agg #[iV xKind,iV xN,.string xS]) (.agg #[iV yKind,iV yN,.string yS])).run VK w=_
 go_simp
 simp only [Cd];by_cases h0:xKind=yKind<;>by_cases h1:xN=yN<;>by_cases h2:xS=yS<;>simp [h0,h1,h2]
theorem OJ {d:Option Nat}{u:TypeId}{a b:Operand}{x y:Vs}(hx:be s a=some (.agg #[iV x.Xw,iV x.N,.string x.S]))(hy:be s b=some (.agg #[iV y.Xw,iV y.N,.string y.S])):Ev VK s C ⟨d,.binOp .eql 34 a b u,ty,pos,af,gd⟩ (.bool (decide (x=y))):=
 eW hx hy fun w=>by
  rw [Xi,run_eqGuard_agg w _ _ _ _ _ _ GR];simp only [Xh];rw [run_eql_struct,LB];rfl
theorem MY {d:Option Nat}{u:TypeId}{a b:Operand}{x y:Vs}(hx:be s a=some (.agg #[iV x.Xw,iV x.N,.string x.S]))(hy:be s b=some (.agg #[iV y.Xw,iV y.N,.string y.S])):Ev VK s C ⟨d,.binOp .neq 34 a b u,ty,pos,af,gd⟩ (.bool (!decide (x=y))):=
 eW hx hy fun w=>by
  rw [Xi,run_eqGuard_agg w _ _ _ _ _ _ GR];simp only [Xh];rw [run_neq_struct,LB];rfl
theorem ON (x y:Vu)(w:World):(Op.equalIn 10000 245 ((Ou x)) ((Ou y))).run VK w=.ok (decide (x=y)) w:=by
 obtain ⟨xup_,⟨xkey_Kind,xkey_N,xkey_S⟩,xattrs_⟩:=x;obtain ⟨yup_,⟨ykey_Kind,ykey_N,ykey_S⟩,yattrs_⟩:=y;show (Op.equalIn 10000 245 (.agg #[iV xup_,iV xkey_Kind,iV xkey_N,.string xkey_S,iV xattrs_]) (.agg #[iV yup_,iV ykey_Kind,iV ykey_N,.string ykey_S,iV yattrs_])).run VK w=_
 go_simp
 simp only [Cd];by_cases h0:xup_=yup_
 rotate_left
 ·simp [h0]
 by_cases h1:xkey_Kind=ykey_Kind
 rotate_left
 ·simp [h0,h1]
 by_cases h2:xkey_N=ykey_N
 rotate_left
 ·simp [h0,h1,h2]
 by_cases h3:xkey_S=ykey_S
 rotate_left
 ·simp [h0,h1,h2,h3]
 by_cases h4:xattrs_=yattrs_
 rotate_left
 ·simp [h0,h1,h2,h3,h4]
 simp [h0,h1,h2,h3,h4]
def d8 (x:Vu):Value:=.agg #[iV x.Yn,iV x.Ym.Xw,iV x.Ym.N,.string x.Ym.S,iV x.Yo]
theorem Fh:KeyOk VK 245 d8 where
 und:=⟨_,Tryz.underlying245,fun a b=> .inl rfl⟩
 eq:=fun a b w=>ON a b w
 check:=fun e a w=>by
  obtain ⟨xup_,⟨xkey_Kind,xkey_N,xkey_S⟩,xattrs_⟩:=a;kernel_rfl
 bits:=fun a=>by
  obtain ⟨xup_,⟨xkey_Kind,xkey_N,xkey_S⟩,xattrs_⟩:=a;simp [d8,Instr.sameBits,KS]
structure XDHeap where
 A2:Option Addr
 n2:Nat
 c2:Nat
 A3:Option Addr
 n3:Nat
 c3:Nat
 A4:Option Addr
 n4:Nat
 c4:Nat
 A5:Option Addr
 n5:Nat
 c5:Nat
 B6:Nat
 M7:Nat
 deriving Inhabited
def KA (B1:Nat)(e:Vv)(x:XDHeap):VI:=[ae B1 128 [.slice x.A2 x.n2 x.c2,.slice x.A3 x.n3 x.c3,.slice x.A4 x.n4 x.c4,.slice x.A5 x.n5 x.c5,.pointer (some ⟨x.B6,0,none⟩)],bh ei 45 (.slice x.A2 x.n2 x.c2) e.m_.XA,bh ei 45 (.slice x.A3 x.n3 x.c3) e.m_.Xz,bh av 29 (.slice x.A4 x.n4 x.c4) e.XJ,bh av 29 (.slice x.A5 x.n5 x.c5) e.XP,ae x.B6 186 [.map (some x.M7)],ax cj ft x.M7 e.XO.at_]
def Ki (B1:Nat)(e:Vv)(x:XDHeap):VI:=[aC B1 128 [.slice x.A2 x.n2 x.c2,.slice x.A3 x.n3 x.c3,.slice x.A4 x.n4 x.c4,.slice x.A5 x.n5 x.c5,.pointer (some ⟨x.B6,0,none⟩)],iI ei (.slice x.A2 x.n2 x.c2) e.m_.XA,iI ei (.slice x.A3 x.n3 x.c3) e.m_.Xz,iI av (.slice x.A4 x.n4 x.c4) e.XJ,iI av (.slice x.A5 x.n5 x.c5) e.XP,aC x.B6 186 [.map (some x.M7)],mY cj ft x.M7 e.XO.at_]
@[reducible] def oDHeap (B1:Nat)(e:Vv):Chunk:=dO (KA B1 e)
@[reducible] def pDHeap (B1:Nat)(e:Vv):Chunk:=Ka (Ki B1 e)
theorem Lh {B1:Nat}{e:Vv}{A2:Option Addr}{n2 c2:Nat}{A3:Option Addr}{n3 c3:Nat}{A4:Option Addr}{n4 c4:Nat}{A5:Option Addr}{n5 c5 B6 M7:Nat}(k:Cv L M):Cv (ae B1 128 [W A2 n2 c2,W A3 n3 c3,W A4 n4 c4,W A5 n5 c5,pV B6 0]::cN A2 n2 c2 e.m_.XA::cN A3 n3 c3 e.m_.Xz::aB A4 n4 c4 e.XJ::aB A5 n5 c5 e.XP::ae B6 186 [.map (some M7)]::ax cj ft M7 e.XO.at_::L) (oDHeap B1 e::M):=(eX (Q:=KA B1 e) ⟨A2,n2,c2,A3,n3,c3,A4,n4,c4,A5,n5,c5,B6,M7⟩).trans (mH _ k)
instance {B1:Nat}{e:Vv}:LentQ (KA B1 e) (Ki B1 e):=⟨.of fun x=>⟨x,t0 (pP (i:=0) rfl) (t0 (gw (i:=1) rfl) (t0 (gw (i:=2) rfl) (t0 (gw (i:=3) rfl) (t0 (gw (i:=4) rfl) (t0 (pP (i:=5) rfl) (t0 (Ff (i:=6) rfl) aQ))))))⟩⟩
structure XDTable where
 A2:Option Addr
 n2:Nat
 c2:Nat
 M3:Nat
 deriving Inhabited
def HS (B1:Nat)(e:Vi)(x:XDTable):VI:=[ae B1 191 [.slice x.A2 x.n2 x.c2,.map (some x.M3)],bh bn 159 (.slice x.A2 x.n2 x.c2) e.XH,ax d8 sC x.M3 e.XV]
def HE (B1:Nat)(e:Vi)(x:XDTable):VI:=[aC B1 191 [.slice x.A2 x.n2 x.c2,.map (some x.M3)],iI bn (.slice x.A2 x.n2 x.c2) e.XH,mY d8 sC x.M3 e.XV]
@[reducible] def oDTable (B1:Nat)(e:Vi):Chunk:=dO (HS B1 e)
@[reducible] def pDTable (B1:Nat)(e:Vi):Chunk:=Ka (HE B1 e)
theorem IQ {B1:Nat}{e:Vi}{A2:Option Addr}{n2 c2 M3:Nat}(k:Cv L M):Cv (ae B1 191 [W A2 n2 c2,.map (some M3)]::bh bn 159 (W A2 n2 c2) e.XH::ax d8 sC M3 e.XV::L) (oDTable B1 e::M):=(eX (Q:=HS B1 e) ⟨A2,n2,c2,M3⟩).trans (mH _ k)
instance {B1:Nat}{e:Vi}:LentQ (HS B1 e) (HE B1 e):=⟨.of fun x=>⟨x,t0 (pP (i:=0) rfl) (t0 (gw (i:=1) rfl) (t0 (Ff (i:=2) rfl) aQ))⟩⟩
structure XDWorld where
 A4:Option Addr
 n4:Nat
 c4:Nat
 A5:Option Addr
 n5:Nat
 c5:Nat
 A6:Option Addr
 n6:Nat
 c6:Nat
 deriving Inhabited
def BA (B1 B2 B3:Nat)(e:Vj)(x:XDWorld):VI:=[ae B1 85 [iV e.XQ.Yd,iV e.XQ.Yf,iV e.XQ.Yh,iV e.XK.Yk,iV e.XK.Yg,iV e.XK.Ya,iV e.XK.Yj,iV e.XK.XA,iV e.XK.Yi,iV e.XK.Yl,.nilIface,pV B2 0,pV B3 0,.slice x.A4 x.n4 x.c4,iV e.XR,iV e.XY,iV e.XZ,.slice x.A5 x.n5 x.c5,.slice x.A6 x.n6 x.c6],oDHeap B2 e.XF,oDTable B3 e.XH,bh uy 9 (.slice x.A4 x.n4 x.c4) e.XS,bh oz 319 (.slice x.A5 x.n5 x.c5) e.XT,bh uy 9 (.slice x.A6 x.n6 x.c6) e.XU]
def DZ (B1 B2 B3:Nat)(e:Vj)(x:XDWorld):VI:=[aC B1 85 [iV e.XQ.Yd,iV e.XQ.Yf,iV e.XQ.Yh,iV e.XK.Yk,iV e.XK.Yg,iV e.XK.Ya,iV e.XK.Yj,iV e.XK.XA,iV e.XK.Yi,iV e.XK.Yl,.nilIface,pV B2 0,pV B3 0,.slice x.A4 x.n4 x.c4,iV e.XR,iV e.XY,iV e.XZ,.slice x.A5 x.n5 x.c5,.slice x.A6 x.n6 x.c6],pDHeap B2 e.XF,pDTable B3 e.XH,iI uy (.slice x.A4 x.n4 x.c4) e.XS,iI oz (.slice x.A5 x.n5 x.c5) e.XT,iI uy (.slice x.A6 x.n6 x.c6) e.XU]
@[reducible] def oDWorld (B1 B2 B3:Nat)(e:Vj):Chunk:=dO (BA B1 B2 B3 e)
@[reducible] def pDWorld (B1 B2 B3:Nat)(e:Vj):Chunk:=Ka (DZ B1 B2 B3 e)
theorem IP {B1 B3:Nat}{e:Vj}{A4:Option Addr}{n4 c4:Nat}{A5:Option Addr}{n5 c5:Nat}{A6:Option Addr}{n6 c6:Nat}(k:Cv L M):Cv (ae B1 85 (ub e B2 B3 A4 n4 c4 A5 n5 c5 A6 n6 c6)::oDHeap B2 e.XF::oDTable B3 e.XH::ir A4 n4 c4 e.XS::sy A5 n5 c5 e.XT::ir A6 n6 c6 e.XU::L) (oDWorld B1 B2 B3 e::M):=(eX (Q:=BA B1 B2 B3 e) ⟨A4,n4,c4,A5,n5,c5,A6,n6,c6⟩).trans (mH _ k)
instance {B1 B3:Nat}{e:Vj}:LentQ (BA B1 B2 B3 e) (DZ B1 B2 B3 e):=⟨.of fun x=>⟨x,t0 (pP (i:=0) rfl) (t0 (za (i:=1) rfl) (t0 (za (i:=2) rfl) (t0 (gw (i:=3) rfl) (t0 (gw (i:=4) rfl) (t0 (gw (i:=5) rfl) aQ)))))⟩⟩
instance {B1 B3:Nat}{e:Vj}:LentP (BA B1 B2 B3 e) (Ki B2 e.XF):=.sub 1 fun _=>rfl
instance {B1 B3:Nat}{e:Vj}:MemR (DZ B1 B2 B3 e) (pDHeap B2 e.XF):=⟨fun _=>WG _ (List.mem_cons_self)⟩
@[reducible] def oDWorld_h1 (B1 B2 B3:Nat)(e:Vj):Chunk:=dO fun x:XDWorld=> [ae B1 85 [iV e.XQ.Yd,iV e.XQ.Yf,iV e.XQ.Yh,iV e.XK.Yk,iV e.XK.Yg,iV e.XK.Ya,iV e.XK.Yj,iV e.XK.XA,iV e.XK.Yi,iV e.XK.Yl,.nilIface,pV B2 0,pV B3 0,.slice x.A4 x.n4 x.c4,iV e.XR,iV e.XY,iV e.XZ,.slice x.A5 x.n5 x.c5,.slice x.A6 x.n6 x.c6],oDTable B3 e.XH,bh uy 9 (.slice x.A4 x.n4 x.c4) e.XS,bh oz 319 (.slice x.A5 x.n5 x.c5) e.XT,bh uy 9 (.slice x.A6 x.n6 x.c6) e.XU]
instance {B1 B3:Nat}{e:Vj}:LentP (BA B1 B2 B3 e) (HE B3 e.XH):=.sub 2 fun _=>rfl
instance {B1 B3:Nat}{e:Vj}:MemR (DZ B1 B2 B3 e) (pDTable B3 e.XH):=⟨fun _=>WG _ (WG _ (List.mem_cons_self))⟩
instance:FcS VK 22 38:=⟨Ex⟩
instance:FcS VK 40 48:=⟨EM⟩
instance:FcS VK 43 29:=⟨t9⟩
instance:FcS VK 53 55:=⟨Tryz.underlying53⟩
instance:FcS VK 72 34:=⟨UU⟩
instance:FcS VK 99 3:=⟨UV⟩
instance:FcS VK 123 45:=⟨UW⟩
instance:FcS VK 156 159:=⟨UX⟩
instance:FcS VK 174 123:=⟨UY⟩
instance:RepF NJ (fun x=> [iV x.Yk,iV x.Yg,iV x.Ya,iV x.Yj,iV x.XA,iV x.Yi,iV x.Yl]):=⟨fun _ _ _ _ h=>h⟩
instance:RepF av (fun x=> [iV x.Xw,iV x.N,.string x.S]):=⟨fun _ _ _ _ h=>h⟩
instance:RepF Bb (fun x=> [iV x.Xw,iV x.N,.string x.S]):=⟨fun _ _ _ _ h=>h⟩
instance:RepF bn (fun x=> [iV x.Up,iV x.XI.Xw,iV x.XI.N,.string x.XI.S,iV x.XE,iV x.XX]):=⟨fun _ _ _ _ h=>h⟩
instance:RepF Rx (fun x=> [iV x.Yn,iV x.Ym.Xw,iV x.Ym.N,.string x.Ym.S,iV x.Yo]):=⟨fun _ _ _ _ h=>h⟩
instance:RepF PD (fun x=> [iV x.Yd,iV x.Yf,iV x.Yh]):=⟨fun _ _ _ _ h=>h⟩
instance:RepF oz (fun x=> [iV x.Xw,iV x.XI.Xw,iV x.XI.N,.string x.XI.S,.string x.S]):=⟨fun _ _ _ _ h=>h⟩
instance:RepF NI (fun x=> [iV x.Has,iV x.XE,iV x.Value.Xw,iV x.Value.N,.string x.Value.S,iV x.XL.Xw,iV x.XL.N,.string x.XL.S,iV x.XM.Xw,iV x.XM.N,.string x.XM.S]):=⟨fun _ _ _ _ h=>h⟩
instance:RepF DL (fun x=> [iV x.Xw,iV x.O,iV x.P,iV x.K.Xw,iV x.K.N,.string x.K.S,iV x.D.Has,iV x.D.XE,iV x.D.Value.Xw,iV x.D.Value.N,.string x.D.Value.S,iV x.D.XL.Xw,iV x.D.XL.N,.string x.D.XL.S,iV x.D.XM.Xw,iV x.D.XM.N,.string x.D.XM.S,iV x.V.Xw,iV x.V.N,.string x.V.S,iV x.XE]):=⟨fun _ _ _ _ h=>h⟩
instance:RepF tG (fun x=> [iV x.XI.Xw,iV x.XI.N,.string x.XI.S,iV x.XE,iV x.Value.Xw,iV x.Value.N,.string x.Value.S,iV x.XL.Xw,iV x.XL.N,.string x.XL.S,iV x.XM.Xw,iV x.XM.N,.string x.XM.S]):=⟨fun _ _ _ _ h=>h⟩
@[reducible] def oDWorld_h2 (B1 B2 B3:Nat)(e:Vj):Chunk:=dO fun x:XDWorld=> [ae B1 85 [iV e.XQ.Yd,iV e.XQ.Yf,iV e.XQ.Yh,iV e.XK.Yk,iV e.XK.Yg,iV e.XK.Ya,iV e.XK.Yj,iV e.XK.XA,iV e.XK.Yi,iV e.XK.Yl,.nilIface,pV B2 0,pV B3 0,.slice x.A4 x.n4 x.c4,iV e.XR,iV e.XY,iV e.XZ,.slice x.A5 x.n5 x.c5,.slice x.A6 x.n6 x.c6],oDHeap B2 e.XF,bh uy 9 (.slice x.A4 x.n4 x.c4) e.XS,bh oz 319 (.slice x.A5 x.n5 x.c5) e.XT,bh uy 9 (.slice x.A6 x.n6 x.c6) e.XU]
theorem Ak {B1 B3:Nat}{e:Vj}:Cv (oDWorld B1 B2 B3 e::L) (oDTable B3 e.XH::oDWorld_h2 B1 B2 B3 e::L):=QN fun x=>⟨x,(.trans (.swap _ _ _) (.cons _ (.trans (.swap _ _ _) (.cons _ (.refl _)))):List.Perm _ _).symm⟩
theorem AD {B1 B3:Nat}{e:Vj}{z:Vi}:Cv (oDTable B3 z::oDWorld_h2 B1 B2 B3 e::L) (oDWorld B1 B2 B3 (⟨e.XQ,e.XK,(),e.XF,z,e.XS,e.XR,e.XY,e.XZ,e.XT,e.XU⟩:Vj)::L):=OU fun x=>⟨x,.trans (.swap _ _ _) (.cons _ (.trans (.swap _ _ _) (.cons _ (.refl _))))⟩
theorem IV {R:ι->Value->VI->Prop}{Q:ι->VI}[Inhabited ι](k:Nat)(hk:L[k]? =some (dO Q))(h:∀x,Okc P f args (L.take k++(Q x++L.drop (k+1))) (R x))(hr:∀x v post,R x v post-> ∃post',R' v post'/\Cv post post':=by
   intro x v post
   repeat (refine Tv ?_;intro _)
   rintro ⟨rfl,rfl⟩;apply Uu
   repeat (apply Exists.intro)
   exact ⟨J,J⟩
   all_goals (repeat (first|with_reducible exact ah _|apply Lh|apply IQ|apply IP|apply mH))):Okc P f args L R':=TP k hk h hr
theorem TO (h:Okc P f args L R)(hr:∀v post,R v post-> ∃post',R' v post'/\Cv post post':=by
   intro v post
   repeat (refine Tv ?_;intro _)
   rintro ⟨rfl,rfl⟩;apply Uu
   repeat (apply Exists.intro)
   exact ⟨J,J⟩
   all_goals (repeat (first|with_reducible exact ah _|apply Lh|apply IQ|apply IP|apply mH))):Okc P f args L R':=okN h hr
abbrev ga (x:Vd)(A:Option Addr)(n c:Nat)(A2:Option Addr)(n2 c2:Nat):VJ:=[iV x.Xw,iV x.XD,iV x.XB,iV x.XC,.slice A n c,W A2 n2 c2]
def ej (N:Nat)(a0 a1 a2:Int):Option Bool:=
 (bif decide (a1<=a0) then (some (decide (a0<=a2))) else (some false)).bind fun b1=>some b1
theorem eR {N:Nat}{a0:Int}{r:Bool}(h:ej N a0 a1 a2=some r):Okc VK 127 [iV a0,iV a1,iV a2] ([]) (fun u post=>u=.bool r/\post=[]):=by
 refine bX Tryz.func127 ?_;refine gS 4 14 10 h ?_;intro b1 h;exact eY
theorem dH {r:Bool}: ∀v post,((fun (u:Value) (post:VI)=>u=.bool r/\post=[])) v post-> ∀c∈post,mN c:=by
 rintro _ _ ⟨rfl,rfl⟩;exact aQ
def zF (a0:Vf):Option Bool:=
 (ej N a0.Yk 0 1).bind fun y2=>(bif y2 then ((ej N a0.Yg 0 1073741824).bind fun y4=>some y4) else (some false)).bind fun b3=>(bif b3 then ((ej N a0.Ya 1 200).bind fun y6=>some y6) else (some false)).bind fun b5=>(bif b5 then ((ej N a0.Yj 0 1048576).bind fun y8=>some y8) else (some false)).bind fun b7=>(bif b7 then ((ej N a0.XA 0 1073741824).bind fun a6=>some a6) else (some false)).bind fun b9=>(bif b9 then ((ej N a0.Yi 0 1073741824).bind fun a8=>some a8) else (some false)).bind fun b0=>(bif b0 then ((ej N a0.Yl 0 4).bind fun b6=>some b6) else (some false)).bind fun c0=>some c0
theorem EC {N:Nat}{a0:Vf}{r:Bool}(h:zF N a0=some r):Okc VK 75 [(Fo a0)] ([]) (fun u post=>u=.bool r/\post=[]):=by
 refine bX Tryz.func75 ?_;intro B1;refine ab ?_;obtain ⟨y2,k,h⟩:=aa h;refine BJ (iK (eR k) J J J (aQ) dH) ?_
 refine qi 5 13 8 h (fun _ g3 h=> ?_) fun b3 h=> ?_
 ·refine ab ?_;obtain ⟨y4,k,h⟩:=aa h;refine gU (iK (eR k) J J J (aQ) dH) (ew g3 J) ?_;exact gY
 refine ab ?_
 refine qi 5 19 14 h (fun _ g5 h=> ?_) fun b5 h=> ?_
 ·refine ab ?_;obtain ⟨y6,k,h⟩:=aa h;refine gU (iK (eR k) J J J (aQ) dH) (ew g5 J) ?_;exact gY
 refine ab ?_
 refine qi 5 25 20 h (fun _ g7 h=> ?_) fun b7 h=> ?_
 ·refine ab ?_;obtain ⟨y8,k,h⟩:=aa h;refine gU (iK (eR k) J J J (aQ) dH) (ew g7 J) ?_;exact gY
 refine ab ?_
 refine qi 5 31 26 h (fun _ g9 h=> ?_) fun b9 h=> ?_
 ·refine ab ?_;obtain ⟨b0,k,h⟩:=aa h;refine gU (iK (eR k) J J J (aQ) dH) (ew g9 J) ?_;exact gY
 refine ab ?_
 refine qi 5 37 32 h (fun _ a6 h=> ?_) fun b6 h=> ?_
 ·refine ab ?_;obtain ⟨c0,k,h⟩:=aa h;refine gU (iK (eR k) J J J (aQ) dH) (ew a6 J) ?_;exact gY
 refine ab ?_
 refine qi 5 43 38 h (fun _ a8 h=> ?_) fun c7 h=> ?_
 ·refine ab ?_;obtain ⟨c8,k,h⟩:=aa h;refine gU (iK (eR k) J J J (aQ) dH) (ew a8 J) ?_;exact gY
 exact eY
def AU (N:Nat):Option Vt:=
 some (⟨([]:VG)⟩:Vt)
theorem F0 {N:Nat}{r:Vt}(h:AU N=some r):Okc VK 128 [] ([]) (fun u post=> ∃B0 M1,u=pV B0 0/\post=[ae B0 186 [.map (some M1)],ax cj ft M1 r.at_]):=by
 refine bX Tryz.func128 ?_;refine gD (tL (ek:=cj) (ev:=ft)) ?_;rintro _ _ ⟨M1,rfl,rfl⟩;refine ab ?_;intro B2;exact eY
def Ar:Option Vv:=
 (AU N).bind fun y1=>some (⟨(⟨[],[]⟩:Ve),[],[],y1⟩:Vv)
theorem Jd {N:Nat}{r:Vv}(h:Ar N=some r):Okc VK 76 [] ([]) (fun u post=> ∃B0 A1 n1 c1 A2 n2 c2 A3 n3 c3 A4 n4 c4 B5 M6,u=pV B0 0/\post=[ae B0 128 [W A1 n1 c1,W A2 n2 c2,W A3 n3 c3,W A4 n4 c4,pV B5 0],cN A1 n1 c1 r.m_.XA,cN A2 n2 c2 r.m_.Xz,aB A3 n3 c3 r.XJ,aB A4 n4 c4 r.XP,ae B5 186 [.map (some M6)],ax cj ft M6 r.XO.at_]):=by
 refine bX Tryz.func76 ?_;obtain ⟨y1,k,h⟩:=aa h;refine gD (oR (F0 k)) ?_;rintro _ _ ⟨_,⟨B2,M3,rfl,rfl⟩,rfl⟩
 refine dD fun B4=> ?_
 obtain rfl:=jg h;exact z7 J J ((bq ei 45 _).trans ((bq ei 45 _).trans ((bq av 29 _).trans ((bq av 29 _).trans (cS [4,3,2,1,0,5,6] 7))))) ⟨_,_,_,_,_,_,_,_,_,_,_,_,_,_,_,J,J⟩
theorem Gb {N:Nat}{r:Vv}(h:Ar N=some r):Okc VK 76 [] ([]) (fun u post=> ∃B0,u=pV B0 0/\post=[oDHeap B0 r]):=TO (Jd h)
def xv (N:Nat):Option Vi:=
 some (⟨([(⟨(-1),(⟨0,0,⟨#[]⟩⟩:Vs),0,0⟩:Vq)]:List Vq),([]:(List (Vu×Int)))⟩:Vi)
theorem Hv {N:Nat}{r:Vi}(h:xv N=some r):Okc VK 77 [] ([]) (fun u post=> ∃B0 A1 n1 c1 M2,u=pV B0 0/\post=[ae B0 191 [W A1 n1 c1,.map (some M2)],bh bn 159 (W A1 n1 c1) r.XH,ax d8 sC M2 r.XV]):=by
 refine bX Tryz.func77 ?_;refine gD (aL (R:=bn) (vss:=[[iV (-1),iV 0,iV 0,.string (⟨#[]⟩),iV 0,iV 0]]) (xs:=[(⟨(-1),(⟨0,0,⟨#[]⟩⟩:Vs),0,0⟩:Vq)]) J (C4 _ _ _ _ _ _) J J (fun _ _ hr=> .cons J All2.nil)) ?_;rintro _ _ ⟨A1,n1,c1,rfl,rfl⟩;refine gD (tL (ek:=d8) (ev:=sC)) ?_;rintro _ _ ⟨M2,rfl,rfl⟩;refine ab ?_;intro B3;exact eY
theorem Es {N:Nat}{r:Vi}(h:xv N=some r):Okc VK 77 [] ([]) (fun u post=> ∃B0,u=pV B0 0/\post=[oDTable B0 r]):=TO (Hv h)
def aF (N:Nat)(a0:Vv):Option Bool:=
 some false
theorem bW {N:Nat}{a0:Vv}{r:Bool}(h:aF N a0=some r):Okc VK 66 [pV B1 0] ([aC B1 128 [W A2 n2 c2,W A3 n3 c3,W A4 n4 c4,W A5 n5 c5,pV B6 0],bB A2 n2 c2 a0.m_.XA,bB A3 n3 c3 a0.m_.Xz,aZ A4 n4 c4 a0.XJ,aZ A5 n5 c5 a0.XP,aC B6 186 [.map (some M7)],mY cj ft M7 a0.XO.at_]) (fun u post=>u=.bool r/\post=[]):=by
 refine bX Tryz.func66 ?_;refine dK (dz J Tryz.underlying60) ?_;refine dK (dz J UZ) ?_;exact eN
def bL (a0:Vv)(a1:Int):Option Vp:=
 (aF N a0).bind fun y9=>(bif y9 then (some true) else (some (decide (a1<0)))).bind fun a6=>(bif a6 then (some true) else (some (decide ((a0.XJ.length:Int)<=a1)))).bind fun a8=>bif a8 then (some (⟨0,0,⟨#[]⟩⟩:Vp)) else ((ao a0.XJ a1).bind fun b0=>some b0)
theorem BE {N:Nat}{a0:Vv}{r:Vp}(h:bL N a0 a1=some r):Okc VK 53 [pV B1 0,iV a1] ([aC B1 128 [W A2 n2 c2,W A3 n3 c3,W A4 n4 c4,W A5 n5 c5,pV B6 0],bB A2 n2 c2 a0.m_.XA,bB A3 n3 c3 a0.m_.Xz,aZ A4 n4 c4 a0.XJ,aZ A5 n5 c5 a0.XP,aC B6 186 [.map (some M7)],mY cj ft M7 a0.XO.at_]) (fun u post=>u=(aX r)/\post=[]):=by
 refine bX Tryz.func53 ?_;intro B8;refine sY ?_
 refine cR h (fun _ k=>bW k) fun y9 h=> ?_
 refine gS 3 10 7 h ?_;intro b5 h;refine ab ?_;refine gS 8 19 11 h ?_;intro b6 h;refine dU h ?_ ?_<;>intro h
 ·exact eY
 refine ab ?_;obtain ⟨b7,a6,a8,b0,h⟩:=aI h;exact eY
theorem fo {N:Nat}{a0:Vv}{r:Vp}(h:bL N a0 a1=some r):Okc VK 53 [pV B1 0,iV a1] ([pDHeap B1 a0]) (fun u post=>u=(aX r)/\post=[]):=NZ 0 rfl (fun _=>BE h)
def lV (N:Nat){σ:Type}(fy:(Bool×Vp)->σ->Option (Bool×σ))(a1:Vd):Nat->Int->σ->Option σ
 |0,_,_=>none
 |b5+1,a6,b0=>bif decide (a6<(a1.Xx.length:Int)) then ((ao a1.Xx a6).bind fun b6=>(bif !decide (a1.Xw=8) then ((bif !decide (a1.Xw=10) then (some true) else (some (decide (a6.tmod 2=0)))).bind fun b7=>some b7) else (some false)).bind fun b9=>(fy (b9,b6) b0).bind fun a8=>bif !a8.1 then (some a8.2) else (aD (in64 (a6+1)) ((lV N fy a1 b5) (a6+1) a8.2))) else (some b0)
def um (fy:(Bool×Vp)->σ->Option (Bool×σ))(a1:Vd)(p5:σ):Option σ:=
 lV N fy a1 N 0 p5
def kZ (N:Nat){σ:Type}(fy:(Bool×Vp)->σ->Option (Bool×σ))(a1:Vd):Nat->Int->σ->Option σ
 |0,_,_=>none
 |m6+1,p7,p8=>bif decide (p7<(a1.Xy.length:Int)) then ((ao a1.Xy p7).bind fun a8=>(fy (true,a8) p8).bind fun a6=>bif !a6.1 then (some a6.2) else (aD (in64 (p7+1)) ((kZ N fy a1 m6) (p7+1) a6.2))) else (um N fy a1 p8)
def ou (a1:Vd)(fy:(Bool×Vp)->σ->Option (Bool×σ))(s0:σ):Option σ:=
 kZ N fy a1 N 0 s0
theorem yw {N:Nat}{a1:Vd}{fy:(Bool×Vp)->σ->Option (Bool×σ)}{s0 r:σ}(h:ou N a1 fy s0=some r){l:Nat}{G:σ->VI}(hY:uS VK l G (fun x=> [.bool x.1,.agg #[iV x.2.Xw,iV x.2.N,.string x.2.S]]) fy):Okc VK 218 [.func (.yield l) #[] #[],pV B1 0] (aC B1 45 (ga a1 A2 n2 c2 A3 n3 c3)::aZ A2 n2 c2 a1.Xy::aZ A3 n3 c3 a1.Xx::(G s0)) (fun u post=>u=.tuple #[]/\post=G r):=by
 refine F6 Tryz.func218 J J ?_;simp only [uj];refine ak (fun s L=> ∃p5,um N fy a1 p5=some r/\s=[(0,.func (.yield l) #[] #[]),(1,pV B1 0)]/\L=aZ A2 n2 c2 a1.Xy::aZ A3 n3 c3 a1.Xx::aC B1 45 (ga a1 A2 n2 c2 A3 n3 c3)::(G p5)) ?_ ?_
 ·refine ab ?_;refine lK (fun m s L=> ∃(p7:Int) (p8:σ),kZ N fy a1 m p7 p8=some r/\s=[(0,.func (.yield l) #[] #[]),(1,pV B1 0),(9,W A2 n2 c2),(10,iV (a1.Xy.length:Int)),(11,iV p7)]/\L=aZ A2 n2 c2 a1.Xy::aZ A3 n3 c3 a1.Xx::aC B1 45 (ga a1 A2 n2 c2 A3 n3 c3)::(G p8)) N ?_;rintro m6 _ _ ⟨p7,p8,h,rfl,rfl⟩;rw [kZ.eq_2] at h;refine ab ?_;refine au ?_;refine gH J h ?_ ?_<;>intro h
  ·refine sY ?_;obtain ⟨a6,b6,b7,b9,h⟩:=aI h
   refine dD fun c0=> ?_
   obtain ⟨d3,k,h⟩:=aa h;refine gD (yV (a:=(true,a6)) [ae c0 29 [iV a6.Xw,iV a6.N,.string a6.S],aZ A2 n2 c2 a1.Xy,aZ A3 n3 c3 a1.Xx,aC B1 45 (ga a1 A2 n2 c2 A3 n3 c3)] hY k J J) ?_;rintro _ _ ⟨rfl,rfl⟩;refine dU h ?_ ?_<;>intro h
   ·exact eY
   refine ab ?_;obtain ⟨d4,h⟩:=ac h;exact lY
  exact jY
 rintro _ _ ⟨p5,h,rfl,rfl⟩;refine ab ?_;refine lK (fun m s L=> ∃(b0:Int) (b5:σ),lV N fy a1 m b0 b5=some r/\s=[(0,.func (.yield l) #[] #[]),(1,pV B1 0),(21,W A3 n3 c3),(22,iV (a1.Xx.length:Int)),(23,iV b0)]/\L=aZ A3 n3 c3 a1.Xx::aZ A2 n2 c2 a1.Xy::aC B1 45 (ga a1 A2 n2 c2 A3 n3 c3)::(G b5)) N ?_;rintro d6 _ _ ⟨b0,b5,h,rfl,rfl⟩;rw [lV.eq_2] at h;refine ab ?_;refine au ?_;refine gH J h ?_ ?_<;>intro h
 ·refine sY ?_;obtain ⟨a8,c7,c8,c9,h⟩:=aI h
  refine dD fun d0=> ?_
  refine qi 9 40 31 h (fun _ e0 h=> ?_) fun d1 h=> ?_
  ·refine ab ?_
   refine BK 4 39 35 h (fun _ d2 h=> ?_) fun e1 h=> ?_
   ·refine ab ?_;refine ie (oX J J (by decide)) J (km d2 J) J ?_;exact gY
   exact gY
  refine ab ?_;obtain ⟨e2,k,h⟩:=aa h;refine gD (yV (a:=(d1,a8)) [ae d0 29 [iV a8.Xw,iV a8.N,.string a8.S],aZ A3 n3 c3 a1.Xx,aZ A2 n2 c2 a1.Xy,aC B1 45 (ga a1 A2 n2 c2 A3 n3 c3)] hY k J J) ?_;rintro _ _ ⟨rfl,rfl⟩;refine dU h ?_ ?_<;>intro h
  ·exact eY
  refine ab ?_;obtain ⟨e3,h⟩:=ac h;exact lY
 exact eY
def uo (N:Nat)(a0:Vd):Option Unit:=
 some ()
theorem DA {N:Nat}{a0:Vd}{r:Unit}(h:uo N a0=some r):Okc VK 184 [.agg #[iV a0.Xw,iV a0.XD,iV a0.XB,iV a0.XC,W A1 n1 c1,W A2 n2 c2]] ([aZ A1 n1 c1 a0.Xy,aZ A2 n2 c2 a0.Xx]) (fun u post=> ∃a6,u=.func (.func 218) #[] #[pV a6 0]/\post=[ae a6 45 (ga a0 A1 n1 c1 A2 n2 c2)]):=by
 refine bX Tryz.func184 ?_;intro B3;refine ab ?_;refine dK (ey J) ?_;exact eN
def rI (N:Nat)(a0:Vp)(a6:Bool):Option Bool:=
 bif a6 then (some (decide (1<=a0.N))) else ((bif decide (a0.N=0) then (some (decide (0<=a0.Xw))) else (some false)).bind fun a8=>(bif a8 then (some (decide (a0.Xw<=9))) else (some false)).bind fun b0=>some b0)
def wB (a0:Vp):Option Bool:=
 bif decide (a0.Xw=5) then ((bif decide (a0.N=0) then (some (decide ((a0.S.size:Int)<=65536))) else (some false)).bind fun b3=>some b3) else (bif !(a0.S.toList==(⟨#[]⟩:ByteArray).toList) then (some false) else (bif decide (a0.Xw=2) then ((bif decide (a0.N=0) then (some true) else (some (decide (a0.N=1)))).bind fun b6=>some b6) else (bif decide (a0.Xw=3) then ((bif decide ((-9007199254740992)<=a0.N) then (some (decide (a0.N<=9007199254740992))) else (some false)).bind fun b8=>some b8) else (bif decide (a0.Xw=6) then (rI N a0 (decide (a0.Xw=6))) else (bif decide (a0.Xw=7) then (rI N a0 (decide (a0.Xw=7))) else (rI N a0 (decide (a0.Xw=9))))))))
theorem JE {N:Nat}{a0:Vp}{r:Bool}(h:wB N a0=some r):Okc VK 185 [(aX a0)] ([]) (fun u post=>u=.bool r/\post=[]):=by
 refine bX Tryz.func185 ?_;intro B1;refine sY ?_;refine gH J h ?_ ?_<;>intro h
 ·refine ab ?_
  refine qi 5 14 9 h (fun _ g3 h=> ?_) fun b3 h=> ?_
  ·refine ab ?_;refine ie (sO J U0) J (ew g3 J) J ?_;exact gY
  exact eY
 refine sY ?_;refine dK (OI J J) ?_;refine gH J h ?_ ?_<;>intro h
 ·exact eY
 refine sY ?_;refine gH J h ?_ ?_<;>intro h
 ·refine ab ?_;refine gS 4 29 25 h ?_;intro b6 h;exact eY
 refine dU h ?_ ?_<;>intro h
 ·refine ab ?_;refine gS 4 39 35 h ?_;intro b8 h;exact eY
 refine ak (fun s L=> ∃a6,rI N a0 a6=some r/\s=[(1,pV B1 0),(2,.bool false),(40,.bool a6)]/\L=[ae B1 29 (ed a0)]) ?_ ?_
 ·refine dU h ?_ ?_<;>intro h
  ·exact jY
  refine dU h ?_ ?_<;>intro h
  ·exact jY
  exact jY
 rintro _ _ ⟨a6,h,rfl,rfl⟩;refine gH J h ?_ ?_<;>intro h
 ·exact eY
 refine ab ?_;refine gS 4 54 50 h ?_;intro a8 h;refine ab ?_;refine gS 4 59 55 h ?_;intro b0 h;exact eY
def jU (N:Nat)(p2:Bool):Option Bool:=
 bif p2 then (some true) else (some false)
def wD (a0:Int):Option Bool:=
 bif decide (a0=1) then (jU N (decide (a0=1))) else (bif decide (a0=2) then (jU N (decide (a0=2))) else (bif decide (a0=3) then (jU N (decide (a0=3))) else (bif decide (a0=6) then (jU N (decide (a0=6))) else (bif decide (a0=8) then (jU N (decide (a0=8))) else (bif decide (a0=9) then (jU N (decide (a0=9))) else (jU N (decide (a0=10))))))))
theorem JF {N:Nat}{a0:Int}{r:Bool}(h:wD N a0=some r):Okc VK 219 [iV a0] ([]) (fun u post=>u=.bool r/\post=[]):=by
 refine bX Tryz.func219 ?_;refine sZ ?_;refine ak (fun s L=> ∃p2,jU N p2=some r/\s=[(2,.bool false),(4,.bool p2)]/\L=[]) ?_ ?_
 ·refine dU h ?_ ?_<;>intro h
  ·exact jY
  refine dU h ?_ ?_<;>intro h
  ·exact jY
  refine dU h ?_ ?_<;>intro h
  ·exact jY
  refine dU h ?_ ?_<;>intro h
  ·exact jY
  refine dU h ?_ ?_<;>intro h
  ·exact jY
  refine dU h ?_ ?_<;>intro h
  ·exact jY
  exact jY
 rintro _ _ ⟨p2,h,rfl,rfl⟩;refine gH J h ?_ ?_<;>intro h
 ·exact eY
 exact eY
def iG (N:Nat)(a0:Vp)(a1:Int):Option Bool:=
 (bif decide (a0.Xw=0) then (some true) else (some (decide (a0.Xw=a1)))).bind fun b2=>some b2
theorem kW {N:Nat}{a0:Vp}{r:Bool}(h:iG N a0 a1=some r):Okc VK 220 [(aX a0),iV a1] ([]) (fun u post=>u=.bool r/\post=[]):=by
 refine bX Tryz.func220 ?_;intro B1;refine ab ?_;refine gS 5 13 8 h ?_;intro b2 h;exact eY
def jT (a0:Vd):Option Bool:=
 (wD N a0.Xw).bind fun y4=>(bif y4 then (some true) else ((bif decide (a0.Xw=7) then (some (decide (0<(a0.Xy.length:Int)))) else (some false)).bind fun b6=>some b6)).bind fun b5=>bif b5 then ((bif decide (1<=(a0.Xy.length:Int)) then (some (decide ((a0.Xy.length:Int)<=1025))) else (some false)).bind fun b8=>(bif b8 then ((ao a0.Xy 0).bind fun a6=>(bif decide (a6.Xw=1) then (some true) else ((ao a0.Xy 0).bind fun a8=>some (decide (a8.Xw=7)))).bind fun b0=>some b0) else (some false)).bind fun b9=>some b9) else (bif decide (a0.Xw=7) then (some (decide (a0.XD=0))) else ((bif !decide (a0.XD=0) then (some true) else (some (!decide (a0.XB=0)))).bind fun b7=>bif b7 then (some false) else (bif decide (a0.Xw=5) then ((bif decide ((a0.Xy.length:Int)=2) then ((ao a0.Xy 0).bind fun c0=>(iG N c0 7).bind fun c7=>some c7) else (some false)).bind fun c8=>(bif c8 then ((ao a0.Xy 1).bind fun c9=>(iG N c9 7).bind fun d0=>some d0) else (some false)).bind fun d1=>some d1) else (some (decide ((a0.Xy.length:Int)=0))))))
theorem AF {N:Nat}{a0:Vd}{r:Bool}(h:jT N a0=some r):Okc VK 186 [.agg #[iV a0.Xw,iV a0.XD,iV a0.XB,iV a0.XC,W A1 n1 c1,W A2 n2 c2]] ([aZ A1 n1 c1 a0.Xy,aZ A2 n2 c2 a0.Xx]) (fun u post=>u=.bool r/\post=[]):=by
 refine bX Tryz.func186 ?_;intro B3;refine sY ?_
 refine cR h (fun _ k=>JF k) fun y4 h=> ?_
 refine BK 10 16 6 h (fun _ g5 h=> ?_) fun b5 h=> ?_
 ·refine ab ?_;refine gS 5 15 10 h ?_;intro b6 h;exact gY
 refine dU h ?_ ?_<;>intro h
 ·refine ab ?_;refine gS 5 26 21 h ?_;intro b8 h;refine ab ?_
  refine qi 15 42 27 h (fun _ g9 h=> ?_) fun b9 h=> ?_
  ·refine ab ?_;obtain ⟨d6,a6,a8,c0,h⟩:=aI h;refine ab ?_;refine sj (rY 1 J bU J (toNat_lt a6 a8) uP) J (ew g9 J) J ?_;refine ab ?_
   refine BK 7 41 34 h (fun _ c7 h=> ?_) fun e0 h=> ?_
   ·refine ab ?_;obtain ⟨e1,b0,b7,c8,h⟩:=aI h;refine ab ?_;refine sj (rY 1 J bU J (toNat_lt b0 b7) uP) J (km c7 J) J ?_;exact gY
   exact gY
  exact eY
 refine sY ?_;refine gH J h ?_ ?_<;>intro h
 ·exact eY
 refine sY ?_;refine gS 4 56 52 h ?_;intro e2 h;refine dU h ?_ ?_<;>intro h
 ·exact eY
 refine sY ?_;refine gH J h ?_ ?_<;>intro h
 ·refine ab ?_
  refine qi 6 70 64 h (fun _ e3 h=> ?_) fun e4 h=> ?_
  ·refine ab ?_;obtain ⟨e5,c9,d0,d1,h⟩:=aI h
   refine cR h (fun _ k=>kW k) fun e6 h=> ?_
   exact gY
  refine ab ?_
  refine qi 6 77 71 h (fun _ e7 h=> ?_) fun e8 h=> ?_
  ·refine ab ?_;obtain ⟨e9,d2,d3,d4,h⟩:=aI h
   refine cR h (fun _ k=>kW k) fun f1 h=> ?_
   exact gY
  exact eY
 exact eY
def iH (N:Nat)(a0:Vp)(a1 a2:Int):Option Bool:=
 (bif decide (a0.Xw=3) then (some (decide (a1<=a0.N))) else (some false)).bind fun b2=>(bif b2 then (some (decide (a0.N<=a2))) else (some false)).bind fun b3=>some b3
theorem kX {N:Nat}{a0:Vp}{r:Bool}(h:iH N a0 a1 a2=some r):Okc VK 221 [(aX a0),iV a1,iV a2] ([]) (fun u post=>u=.bool r/\post=[]):=by
 refine bX Tryz.func221 ?_;intro B1;refine ab ?_;refine gS 5 15 10 h ?_;intro b2 h;refine ab ?_;refine gS 5 21 16 h ?_;intro b3 h;exact eY
def jo (N:Nat){σ:Type}(fy:Vw->σ->Option (Bool×σ))(a1:Vw)(a2:Int):Nat->Int->σ->Option σ
 |0,_,_=>none
 |m4+1,p5,p6=>bif decide (p5<(a1.length:Int)) then (aD ((0:Int)<=p5/\p5.toNat<=a1.length/\a1.length<=a1.length) (aD (in64 (p5+(min a2 (((a1.drop p5.toNat).take (a1.length - p5.toNat)).length:Int)))) (aD (in64 (p5+(min a2 (((a1.drop p5.toNat).take (a1.length - p5.toNat)).length:Int)))) (aD ((0:Int)<=p5/\(0:Int)<=p5+(min a2 (((a1.drop p5.toNat).take (a1.length - p5.toNat)).length:Int))/\p5.toNat<=(p5+(min a2 (((a1.drop p5.toNat).take (a1.length - p5.toNat)).length:Int))).toNat/\(p5+(min a2 (((a1.drop p5.toNat).take (a1.length - p5.toNat)).length:Int))).toNat<=a1.length) ((fy ((a1.drop p5.toNat).take ((p5+(min a2 (((a1.drop p5.toNat).take (a1.length - p5.toNat)).length:Int))).toNat - p5.toNat)) p6).bind fun a6=>bif !a6.1 then (some a6.2) else (aD (in64 (p5+a2)) ((jo N fy a1 a2 m4) (p5+a2) a6.2))))))) else (some p6)
def tv (a1:Vw)(a2:Int)(fy:Vw->σ->Option (Bool×σ))(s0:σ):Option σ:=
 jo N fy a1 a2 N 0 s0
theorem DG {N:Nat}{a1:Vw}{fy:Vw->σ->Option (Bool×σ)}{s0 r:σ}(h:tv N a1 a2 fy s0=some r){l:Nat}{G:σ->VI}(hY:vT VK l G (fun (x:Vw) vs cs=> ∃A0 n0 c0,vs=[W A0 n0 c0]/\cs=[aZ A0 n0 c0 x]) fy):Okc VK 252 [.func (.yield l) #[] #[],pV B1 0,pV B3 0] (aC B1 43 [W A2 n2 c2]::aZ A2 n2 c2 a1::aC B3 3 [iV a2]::(G s0)) (fun u post=>u=.tuple #[]/\post=G r):=by
 refine bX Tryz.func252 ?_;refine lK (fun m s L=> ∃(p5:Int) (p6:σ),jo N fy a1 a2 m p5 p6=some r/\s=[(0,.func (.yield l) #[] #[]),(1,pV B1 0),(2,pV B3 0),(4,iV p5)]/\L=aZ A2 n2 c2 a1::aC B1 43 [W A2 n2 c2]::aC B3 3 [iV a2]::(G p6)) N ?_;rintro m4 _ _ ⟨p5,p6,h,rfl,rfl⟩;rw [jo.eq_2] at h;refine sZ ?_;refine gH J h ?_ ?_<;>intro h
 ·refine sY ?_;refine dY [0,1,2] ?_;obtain ⟨q8,h⟩:=ac h;refine C8 0 J (l:=p5.toNat) (h:=a1.length) q8.2.1 q8.2.2 ?_;rintro A9 n9 c9 e9;refine zR 3 J (yQ 1 J e9 J t9 size29.out J (by rw [VX q8.1];rfl) q8.2.1) ?_;refine zY [4] ?_;refine zE 5 J (R1 J J z9 z9) ?_;refine zX [6] ?_;refine ab ?_;obtain ⟨b7,h⟩:=ac h;refine ab ?_;obtain ⟨b9,h⟩:=ac h;refine ab ?_;obtain ⟨a6,h⟩:=ac h;refine Pn 1 J (l:=p5.toNat) (h:=(p5+(min a2 (((a1.drop p5.toNat).take (a1.length - p5.toNat)).length:Int))).toNat) a6.2.2.1 a6.2.2.2 ?_;rintro a8 b0 b5 b6;refine gR (Ld 2 J b6 J t9 size29.out J (by rw [VX a6.1];rfl) (by rw [VX a6.2.1];rfl) (by rw [VX a6.2.1];rfl) a6.2.2.1 a6.2.2.2) ?_;obtain ⟨c7,k,h⟩:=aa h;refine gD (GG (a:=(a1.drop p5.toNat).take ((p5+(min a2 (((a1.drop p5.toNat).take (a1.length - p5.toNat)).length:Int))).toNat - p5.toNat)) [aZ a8 b0 b5 ((a1.drop p5.toNat).take ((p5+(min a2 (((a1.drop p5.toNat).take (a1.length - p5.toNat)).length:Int))).toNat - p5.toNat)),aZ A9 n9 c9 ((a1.drop p5.toNat).take (a1.length - p5.toNat)),aZ A2 n2 c2 a1,aC B1 43 [W A2 n2 c2],aC B3 3 [iV a2]] hY k J J ⟨_,_,_,J,J⟩ (Ib 0 J J)) ?_;rintro _ _ ⟨rfl,rfl⟩;refine dU h ?_ ?_<;>intro h
  ·exact eY
  refine ab ?_;obtain ⟨c8,h⟩:=ac h;exact lY
 exact eY
def lw (N:Nat)(a0:Vw)(a1:Int):Option Unit:=
 bif decide (a1<1) then none else (some ())
theorem zo {N:Nat}{a0:Vw}{r:Unit}(h:lw N a0 a1=some r):Okc VK 241 [W A1 n1 c1,iV a1] ([aZ A1 n1 c1 a0]) (fun u post=> ∃a6 a8,u=.func (.func 252) #[] #[pV a6 0,pV a8 0]/\post=[ae a6 43 [W A1 n1 c1],ae a8 3 [iV a1]]):=by
 refine bX Tryz.func241 ?_;intro B2
 refine dD fun B3=> ?_
 refine sZ ?_;refine gH J h ?_ ?_<;>intro h
 ·exact az h
 refine ab ?_;refine dK (ey J) ?_;exact eN
end
end Go.Proofs.YthhiddkljcacaaaGreat