/- Merged texts: part 3. No conditions of their own. -/
import Derived.Test.YtmcifcmlojonnaaGreatDoorG2
import Derived.Test.YtmcifcmlojonnaaGreatDoorChecked
import Derived.ProofKit
set_option maxHeartbeats 4000000
namespace Go.Proofs.YtmcifcmlojonnaaGreatDoor
variable (N:Nat){listed:Array Bool}{af:Array Edge}{ops:Array Oper}{ats:Array TypeId}{c:Chunk}{X:Cx}{fn:Func}{f:FuncId}{a0 a1:Int}{K:K3}{l:List Oper}{xs:List Operand}{rs:List ResultVar}{B2 B3 bt fuel i k n:Nat}{op:Op}{x:Operand}{gd:Option (Nat×Bool)}{P:Program}{pos:String}{α ι κ ρ σ:Type}{t ty:TypeId}{v:Value}{R R':Value->W6->Prop}{A L L' L2 M post pre:W6}{args cs us vs:W7}{C:World->Prop}{s s2:bH}
section
theorem Wn:type_of% Tryz.underlying122:=Tryz.underlying122
theorem Wm:type_of% Tryz.underlying9:=Tryz.underlying9
theorem Wl:type_of% Tryz.underlying167:=Tryz.underlying167
theorem Wk:type_of% Tryz.underlying144:=Tryz.underlying144
theorem Wj:type_of% Tryz.underlying119:=Tryz.underlying119
theorem EM:type_of% Tryz.underlying47:=Tryz.underlying47
theorem Ex:type_of% Tryz.underlying33:=Tryz.underlying33
theorem z5:type_of% Tryz.underlying23:=Tryz.underlying23
open Go.RowKit
class FcI (P:Program) (t:Nat) (v:outParam Value):Prop where
  out: ∀w,(zeroValue t).run P w=.ok v w
class FcB (P:Program) (t:Nat) (vs:List (Nat×Value)) (v:outParam Value):Prop where
  out: ∀w,(Instr.build t vs.toArray).run P w=.ok v w
class RepF {α:Type} (R:Rep α) (f:outParam (α->W7)):Prop where
  out: ∀S w vs x,R.rel S w vs x->vs=f x
theorem AF {l:List α}(h:l=[]):l=[]:=h
theorem wK {l t T:List α}{a:α}(h:l=a::t)(k:t=T):l=a::T:=k▸h
inductive FndR (b:Nat) (cs:W7):W6->Prop
  |w {bt L:_}:FndR b cs (ah b bt cs::L)
  |r {bt L:_}:FndR b cs (aQ b bt cs::L)
  |s {c L:_} (h:FndR b cs L):FndR b cs (c::L)
theorem FndR.ix {b:Nat}(h:FndR b cs L): ∃(i:Nat) (bt:TypeId),L[i]? =some (ah b bt cs)\/L[i]? =some (aQ b bt cs):=by
  induction h with
  |w=>exact ⟨0,_,.inl rfl⟩
  |r=>exact ⟨0,_,.inr rfl⟩
  |s _ ih=>obtain ⟨i,bt,h⟩:=ih;exact ⟨i+1,bt,h⟩
inductive FndW (b:Nat) (bt:TypeId) (cs cs':W7):W6->W6->Prop
  |w {L:_}:FndW b bt cs cs' (ah b bt cs::L) (ah b bt cs'::L)
  |s {c L L':_} (h:FndW b bt cs cs' L L'):FndW b bt cs cs' (c::L) (c::L')
theorem FndW.ix {b:Nat}{cs':W7}(h:FndW b bt cs cs' L L'): ∃i:Nat,L[i]? =some (ah b bt cs)/\L'=L.set i (ah b bt cs'):=by
  induction h with
  |w=>exact ⟨0,rfl,rfl⟩
  |s _ ih=>obtain ⟨i,h,e⟩:=ih;exact ⟨i+1,h,by rw [e];rfl⟩
inductive FndE {α:Type} (R:Rep α) (v:Value) (xs:List α):W6->Prop
  |w {c L:_} (h:HR R v xs c):FndE R v xs (c::L)
  |s {c L:_} (h:FndE R v xs L):FndE R v xs (c::L)
theorem FndE.ix {R:Rep α}{xs:List α}(h:FndE R v xs L): ∃(i:Nat) (c:Chunk),L[i]? =some c/\HR R v xs c:=by
  induction h with
  |w h=>exact ⟨0,_,rfl,h⟩
  |s _ ih=>obtain ⟨i,c,h⟩:=ih;exact ⟨i+1,c,h⟩
structure RdS (P:Program) (s:bH) (L:W6) (o:Oper) (v:Value):Prop where
  out:Rd P s L o v
theorem Vt:NV s []=some []:=rfl
theorem Vu {r:List (Nat×Operand)}{l:List (Nat×Value)}(h:bp s x=some v)(k:NV s r=some l):NV s ((i,x)::r)=some ((i,v)::l):=by unfold NV;rw [h,k]
section
variable {rest:List Oper}{d:Nat}
theorem V0 (h:U3 s op=some v):RdS P s L ⟨some d,op,ty,pos,af,gd⟩ v:=⟨fun _ _ _=>fun ρ hρ w _=>PA h ρ hρ w trivial⟩
theorem VU {c y:Operand}{g:Bool}(hc:bp s c=some (.bool g))(hg:g=true)(hx:bp s x=some v):RdS P s L ⟨some d,.pick c x y,ty,pos,af,gd⟩ v:=⟨fun _ _ _=>eP hg hc hx⟩
theorem VT {c y:Operand}{g:Bool}(hc:bp s c=some (.bool g))(hg:g=false)(hy:bp s y=some v):RdS P s L ⟨some d,.pick c x y,ty,pos,af,gd⟩ v:=⟨fun _ _ _=>fE hg hc hy⟩
theorem U9 {t f b o:Nat}[h:FcA0 P t f](hx:bp s x=some (.pointer (some ⟨b,o,none⟩))):RdS P s L ⟨some d,.fieldAddr t x f,ty,pos,af,gd⟩ (.pointer (some ⟨b,o,none⟩)):=⟨fun _ _ _=>nu hx h.out⟩
theorem VZ {t f o' b o:Nat}[h:FcA P t f o'](hx:bp s x=some (.pointer (some ⟨b,o,none⟩))):RdS P s L ⟨some d,.fieldAddr t x f,ty,pos,af,gd⟩ (.pointer (some ⟨b,o+o',none⟩)):=⟨fun _ _ _=>jD hx h.out⟩
theorem V4 {b o:Nat}[hu:Fc (iw P t=true)](hx:bp s x=some (.pointer (some ⟨b,o,none⟩)))(hi:FndR b cs L)(hc:cs[o]? =some v):RdS P s L ⟨some d,.load t x,ty,pos,af,gd⟩ v:=⟨by
  obtain ⟨i,bt,h|h⟩:=hi.ix
  ·exact bM i h hx hu.out hc
  ·exact Br i h hx hu.out hc⟩
theorem VS {b o:Nat}[hu:FcG P t n](hx:bp s x=some (.pointer (some ⟨b,o,none⟩)))(hi:FndR b cs L)(hc:(cs.drop o).take n=us)(hn:us.length=n):RdS P s L ⟨some d,.load t x,ty,pos,af,gd⟩ (.agg us.toArray):=⟨by
  obtain ⟨i,bt,h|h⟩:=hi.ix
  ·exact aC (us:=us) i h hx (hn▸hu.out) (hn▸hc)
  ·exact OJ (us:=us) i h hx (hn▸hu.out) (hn▸hc)⟩
theorem V3 {ps:List (Nat×Operand)}{vs:List (Nat×Value)}(hp:NV s ps=some vs)(hb:FcB P t vs v):RdS P s L ⟨some d,.build t ps.toArray,ty,pos,af,gd⟩ v:=⟨fun _ _ _=>nv hp hb.out⟩
theorem VW {R:Rep α}{t e sz:Nat}{y:Operand}{xs:List α}{i:Int}[hu:FcS P t e][hz:FcZ P e sz](hx:bp s x=some v)(hy:bp s y=some (.int .i64 i))(he:FndE R v xs L)(h0:0<=i)(h1:i<xs.length):RdS P s L ⟨some d,.indexAddr t x y,ty,pos,af,gd⟩ (dD v i.toNat sz 0):=⟨by
  obtain ⟨j,c,h,e⟩:=he.ix
  exact cT j h e hx hy hu.out hz.out h0 h1⟩
theorem VY {R:Rep α}{f:α->W7}{t sz:Nat}{xs:List α}{off:Nat}{y:α}[hu:FcG P t n](hx:bp s x=some (dD v k sz off))(he:FndE R v xs L)(hf:RepF R f)(hy:xs[k]? =some y)(hz:R.sz=sz)(hc:((f y).drop off).take n=us)(hn:us.length=n):RdS P s L ⟨some d,.load t x,ty,pos,af,gd⟩ (.agg us.toArray):=⟨by
  obtain ⟨j,c,h,e⟩:=he.ix;subst hz
  exact eU (us:=us) j h e hx hy (hn▸hu.out) fun S w vs hr=>by rw [hf.out _ _ _ _ hr,hn];exact hc⟩
theorem VX {R:Rep α}{f:α->W7}{t sz:Nat}{xs:List α}{off:Nat}{y:α}{u:Value}[hu:Fc (iw P t=true)](hx:bp s x=some (dD v k sz off))(he:FndE R v xs L)(hf:RepF R f)(hy:xs[k]? =some y)(hz:R.sz=sz)(hc:(f y)[off]? =some u):RdS P s L ⟨some d,.load t x,ty,pos,af,gd⟩ u:=⟨by
  obtain ⟨j,c,h,e⟩:=he.ix;subst hz
  exact mg (u:=u) j h e hx hy hu.out fun S w vs hr=>by rw [hf.out _ _ _ _ hr];exact hc⟩
theorem tR (h:RdS X.P s L ⟨some d,op,ty,pos,af,gd⟩ v)(hn:fc ⟨some d,op,ty,pos,af,gd⟩=true)(hd:Nat.ble (d+1) X.n=true)(k:bj X ops rest K ((d,v)::s) L):RunT X ops ⟨some d,op,ty,pos,af,gd⟩ rest K s L:=⟨fun hh=>r8 h.out hn hh hd k⟩
theorem V9 (h:mI X ops K M fuel listed s L):mI X ops K M fuel listed s L:=h
theorem tN (hr:Region.ready .any ops listed=[])(h:K .normal s L):mI X ops K M 0 listed s L:=bn hr h
theorem tZ (i:Nat)(hI:ops.size - (fuel+1)=i)(hi:ops[i]? =some ⟨some d,op,ty,pos,af,gd⟩)(h:RdS X.P s M ⟨some d,op,ty,pos,af,gd⟩ v)(hk:Om ops listed i=true)(hg:aD ops s ⟨some d,op,ty,pos,af,gd⟩=some true)(hd:Nat.ble (d+1) X.n=true)(k:mI X ops K M fuel (listed.setIfInBounds i true) ((d,v)::s) L):mI X ops K M (fuel+1) listed s L:=zR i hi h.out k hk hg hd
theorem tW {bt:TypeId}{y:Operand}{b o:Nat}{cs':W7}[hs:FcZ X.P t n](hx:bp s x=some (.pointer (some ⟨b,o,none⟩)))(hy:bp s y=some v)(hv:v.cells.toList=us)(hf:FndW b bt cs cs' L L')(hc':cs.take o++us++cs.drop (o+us.length)=cs')(hn:us.length=n)(h1:us.all (·.oneCell')=true)(hc:Nat.ble (o+us.length) cs.length=true)(k:bj X ops rest K s L'):RunT X ops ⟨none,.store t x y,ty,pos,af,gd⟩ rest K s L:=⟨fun hh=>by
  obtain ⟨i,h,e⟩:=hf.ix
  exact gW (am (us:=us) (cs':=cs') i h hx hy hv (hn▸hs.out) h1 hc hc') (e▸k) J hh⟩
theorem tA [hz:FcI X.P t v](hc:v.cells.toList=cs)(hd:Nat.ble (d+1) X.n=true)(k:∀b,bj X ops rest K ((d,pV b 0)::s) (ah b t cs::L)):RunT X ops ⟨some d,.alloc t,ty,pos,af,gd⟩ rest K s L:=⟨fun hh=>gB (bJ hz.out hc) k rfl hh hd⟩
theorem tX (hx:bp s x=some v)(hc:v.cells.toList=cs)(hd:Nat.ble (d+1) X.n=true)(k:∀b,bj X ops rest K ((d,pV b 0)::s) (ah b t cs::L)):RunT X ops ⟨some d,.box t x,ty,pos,af,gd⟩ rest K s L:=⟨fun hh=>gB (qY hx hc) k rfl hh hd⟩
end
end
section
open Go.RowKit
def Kn (Q:ι->W6):Chunk where
 ok _ S w:= ∃x:ι, ∀c∈Q x,c.ok (fun _=>False) S w
 loc:=fun h ⟨x,k⟩=>⟨x,fun c hc=>c.loc (h.mono fun _ hq=>hq.elim False.elim .inr) (k c hc)⟩
 mono:=fun h ⟨x,k⟩=>⟨x,fun c hc=>c.mono h (k c hc)⟩
 ro:=true
 dup:=fun _ _ _ _ h=>h
class LentP {ι κ:Type} (Q:ι->W6) (R:κ->W6):Prop where
 out: ∀x,xy (Q x) (Kn R)
class LentQ {ι κ:Type} (Q:ι->W6) (R:outParam (κ->W6)):Prop where
 out:LentP Q R
instance lentQP {Q:ι->W6}{R:κ->W6}[h:LentQ Q R]:LentP Q R:=h.out
class MemR {ι:Type} (Q:ι->W6) (c:Chunk):Prop where
 out: ∀x,c∈Q x
theorem LentP.of {Q:ι->W6}{R:κ->W6}(h:∀x, ∃y, ∀d∈R y,xy (Q x) d):LentP Q R:=⟨fun x T S w hT=>by
 obtain ⟨y,hy⟩:=h x
 exact ⟨y,fun d hd=>hy d hd T S w hT⟩⟩
theorem zj {Q:ι->W6}{R:κ->W6}(hi:L[i]? =some (d8 Q))[hp:LentP Q R]:xy L (Kn R):=fun T S w h=>by
 obtain ⟨x,T',h1,h2,h3⟩:=h.ok hi;exact hp.out x T' S w ⟨fun hj=>h1 _ _ hj,fun hij a b=>h2 _ _ _ hij a b,fun a b=>h.ro (h3 _ _ a) b,fun a=>h.lt (h3 _ _ a),h.lts⟩
theorem uU {Q:ι->W6}{R:κ->W6}(hi:L[i]? =some (d8 Q))[hp:LentQ Q R]:xy L (Kn R):=zj hi
theorem LentP.sub {η:Type}{Q:ι->W6}{R:κ->W6}{R':η->W6}(i:Nat)(h:∀x,(Q x)[i]? =some (d8 R'))[hp:LentP R' R]:LentP Q R:=⟨fun x=>zj (h x)⟩
theorem Q5 {Q:ι->W6}(hi:L[i]? =some (Kn Q))[hp:MemR Q c]:xy L c:=fun T S w h=>by
 obtain ⟨x,hx⟩:=h.ok hi;exact c.mono (fun _ hq=>h.lts hq) (hx c (hp.out x))
theorem tf (h:L.Perm M):Cv L M:=by
 induction h with
 |nil=>exact ad _
 |cons c _ ih=>exact mT c ih
 |swap a b l=>exact yD [1,0] 2 rfl rfl
 |trans _ _ h1 h2=>exact h1.trans h2
theorem I7 {L:List α}{c:α}(hk:L[k]? =some c):L=L.take k++c::L.drop (k+1):=by
 obtain ⟨h1,h2⟩:=XN.1 hk;rw [<-h2,List.getElem_cons_drop,Yp]
theorem VJ (h:Okc P f args L R)(hr:∀v post,R v post-> ∃post',R' v post'/\Cv post post'):Okc P f args L R':=⟨h.cal,fun Z w hw=>
 (h.run Z w hw).mono fun _ _ ⟨v,post,h1,h2,h3⟩=>by
  obtain ⟨post',g1,g2⟩:=hr v post h3
  exact ⟨v,post',h1,g2 _ _ h2,g1⟩⟩
theorem Vj {R:ι->Value->W6->Prop}{Q:ι->W6}[Inhabited ι](k:Nat)(hk:L[k]? =some (d8 Q))(h:∀x,Okc P f args (L.take k++(Q x++L.drop (k+1))) (R x))(hr:∀x v post,R x v post-> ∃post',R' v post'/\Cv post post'):Okc P f args L R':=⟨(h default).cal,fun Z w hw=>by
 rw [I7 hk] at hw;obtain ⟨x,hx⟩:=kN (tf Ym Z w hw)
 exact (VJ (h x) (hr x)).run Z w (tf (Yl _ _ _) Z w hx)⟩
theorem Nz {Q:ι->W6}[Inhabited ι](k:Nat)(hk:L[k]? =some (Kn Q))(h:∀x,Okc P f args (L.take k++(Q x++L.drop (k+1))) R):Okc P f args L R:=⟨(h default).cal,fun Z w hw=>by
 rw [I7 hk] at hw;have h1:=tf Ym Z w hw;obtain ⟨T,S,hT⟩:=h1;obtain ⟨x,hx⟩:=hT.ok (i:=0) (c:=Kn Q) rfl;obtain ⟨T',h2⟩:=SepL.facts (Q x) hT hx;have h3:Sp Z (Q x++(Kn Q::(L.take k++L.drop (k+1)))) w:=⟨T',S,by rw [W0];exact h2⟩;have h4:Sp Z (Q x++(L.take k++L.drop (k+1))) w:=cv_tl _ _ (tf Ym _ _ h3)
 exact (h x).run Z w (tf (Yl _ _ _) Z w h4)⟩
theorem VL {p:W6->Prop}{post':W6}(h:p post')(k:Cv post post'): ∃post',p post'/\Cv post post':=⟨post',h,k⟩
theorem MA {Q:ι->W6}{Q':κ->W6}(h:∀x, ∃y,(Q x).Perm (c::Q' y)):Cv (d8 Q::L) (c::d8 Q'::L):=fun Z w hw=>by
 obtain ⟨x,hx⟩:=kN hw;obtain ⟨y,hy⟩:=h x;have h1:Sp Z (c::(Q' y++L)) w:=tf (hy.append_right L) Z w hx;exact mT c (fH (Q:=Q') y) Z w h1
theorem JU {Q:ι->W6}{Q':κ->W6}(h:∀y, ∃x,(c::Q' y).Perm (Q x)):Cv (c::d8 Q'::L) (d8 Q::L):=fun Z w hw=>by
 obtain ⟨y,hy⟩:=kN (tf (List.Perm.swap _ _ _) Z w hw);obtain ⟨x,hx⟩:=h y;have h1:Sp Z (c::(Q' y++L)) w:=tf Ym Z w hy;exact fH (Q:=Q) x Z w (tf (hx.append_right L) Z w h1)
end
section
open Go.RowKit
inductive FndL:Chunk->W6->Prop
  |sl {α:Type} {R:Rep α} {v xs L}:FndL (iI R v xs) (iI R v xs::L)
  |so {α:Type} {R:Rep α} {e v xs L}:FndL (iI R v xs) (bc R e v xs::L)
  |bb {b t cs L:_}:FndL (aQ b t cs) (ah b t cs::L)
  |br {b:Nat} {t:TypeId} {cs L}:FndL (aQ b t cs) (aQ b t cs::L)
  |mm {α β:Type} {ek:α->Value} {ev:β->Value} {m kv L}:FndL (qD ek ev m kv) (bE ek ev m kv::L)
  |mr {α β:Type} {ek:α->Value} {ev:β->Value} {m kv L}:FndL (qD ek ev m kv) (qD ek ev m kv::L)
  |pk {ι κ:Type} {Q:ι->W6} {R:κ->W6} {L} [h:LentP Q R]:FndL (Kn R) (d8 Q::L)
  |pq {ι κ:Type} {Q:ι->W6} {R:κ->W6} {L} [h:LentQ Q R]:FndL (Kn R) (d8 Q::L)
  |pr {ι:Type} {Q:ι->W6} {L}:FndL (Kn Q) (Kn Q::L)
  |rm {ι:Type} {Q:ι->W6} {c L} [h:MemR Q c]:FndL c (Kn Q::L)
  |s {c d L:_} (h:FndL c L):FndL c (d::L)
theorem FndL.lent' (h:FndL c L): ∃(i:Nat) (d:Chunk),L[i]? =some d/\ ∀(L':W6) (j:Nat),L'[j]? =some d->xy L' c:=by
  induction h with
  |sl=>exact ⟨0,_,rfl,fun _ _ h=>dN h rfl⟩
  |so=>exact ⟨0,_,rfl,fun _ _ h=>jp h⟩
  |bb=>exact ⟨0,_,rfl,fun _ _ h=>yq h⟩
  |br=>exact ⟨0,_,rfl,fun _ _ h=>dN h rfl⟩
  |mm=>exact ⟨0,_,rfl,fun _ _ h=>FE h⟩
  |mr=>exact ⟨0,_,rfl,fun _ _ h=>dN h rfl⟩
  |pk=>exact ⟨0,_,rfl,fun _ _ h=>zj h⟩
  |pq=>exact ⟨0,_,rfl,fun _ _ h=>zj h⟩
  |pr=>exact ⟨0,_,rfl,fun _ _ h=>dN h rfl⟩
  |rm=>exact ⟨0,_,rfl,fun _ _ h=>Q5 h⟩
  |s _ ih=>obtain ⟨i,d,h1,h2⟩:=ih;exact ⟨i+1,d,h1,h2⟩
theorem FndL.lent (h:FndL c L):xy L c:=by
  obtain ⟨i,d,h1,h2⟩:=h.lent';exact h2 L i h1
def CG (L pre:W6):Prop:= ∀c∈pre,xy L c
theorem UU:CG L []:=aw
theorem UV (h:FndL c L)(k:CG L pre):CG L (c::pre):=t5 h.lent k
theorem Q9 (h:L'=L)(k:CG L pre):CG L' pre:=h▸k
theorem UZ {p:α->Prop}{Q:Prop}(k:∀a,p a->Q):(∃a,p a)->Q:=fun ⟨a,h⟩=>k a h
theorem Wh {a b Q:Prop}(k:b->Q):a/\b->Q:=fun h=>k h.2
theorem Wg {C:W6}(k:∀c∈C,im c):post=C-> ∀c∈post,im c:=fun h=>h▸k
theorem UX: ∀c∈([]:W6),im c:=aw
theorem UW {sz:Nat}{en:α->W7}{h1:∀x,(en x).length=sz}{h2:∀x,(en x).all (·.oneCell')=true}{e:TypeId}{xs:List α}{l:W6}(k:∀c∈l,im c): ∀c∈(bc (Rep.flat sz en h1 h2) e v xs::l),im c:=t5 qp k
theorem U0 {b:Nat}{l:W6}(k:∀c∈l,im c): ∀c∈(ah b t cs::l),im c:=t5 Cg k
theorem UY {β:Type}{ek:α->Value}{ev:β->Value}{m:Nat}{kv:List (α×β)}{l:W6}(k:∀c∈l,im c): ∀c∈(bE ek ev m kv::l),im c:=t5 Df k
inductive FndC (c:Chunk):W6->W6->Prop
  |w {L:_}:FndC c (c::L) L
  |s {d L M:_} (h:FndC c L M):FndC c (d::L) (d::M)
theorem RX {d:Chunk}:Cv (c::d::L) (d::c::L):=yD [1,0] 2 rfl rfl
theorem FndC.cv (h:FndC c L M):Cv L (c::M):=by
  induction h with
  |w=>exact ad _
  |s _ ih=>exact (mT _ ih).trans RX
inductive FndD (c:Chunk):W6->Prop
  |w {L:_}:FndD c (c::L)
  |s {d L:_} (h:FndD c L):FndD c (d::L)
theorem FndD.cv (h:FndD c L)(hc:c.ro=true):Cv L (c::L):=by
  obtain ⟨i,hi⟩: ∃i:Nat,L[i]? =some c:=by
    induction h with
    |w=>exact ⟨0,rfl⟩
    |s _ ih=>obtain ⟨i,h⟩:=ih;exact ⟨i+1,h⟩
  exact Lj i hi hc
def Tk (L pre rest:W6):Prop:=Cv L (pre++rest)
theorem UR:Tk L [] L:=ad _
theorem US {rest:W6}(h:FndC c L M)(k:Tk M pre rest):Tk L (c::pre) rest:=h.cv.trans (mT c k)
theorem VG {rest:W6}(h:FndD c L)(hc:c.ro=true)(k:Tk L pre rest):Tk L (c::pre) rest:=(h.cv hc).trans (mT c k)
theorem UQ {R:Rep α}{xs:List α}{rest:W6}(h:FndD (iI R v xs) L)(k:Tk L pre rest):Tk L (iI R v xs::pre) rest:=VG h rfl k
theorem UT {b:Nat}{rest:W6}(h:FndD (aQ b t cs) L)(k:Tk L pre rest):Tk L (aQ b t cs::pre) rest:=VG h rfl k
theorem Qy {rest:W6}(h:L'=L)(k:Tk L pre rest):Tk L' pre rest:=h▸k
class FcK (P:Program) (f:FuncId):Prop where
  out:qB P f
section
variable {d:Option Nat}
theorem oR (hc:Okc P f vs pre R)(hv:F2 s xs=some vs:=by exact rfl)(hp:CG L pre:=by
      apply Q9 (by repeat (first|exact mG rfl|apply jB rfl|exact rfl))
      repeat (first|exact UU|apply UV (by with_reducible repeat (first|apply FndL.bb|apply FndL.br|apply FndL.sl|apply FndL.so|apply FndL.mm|apply FndL.mr|apply FndL.pq|apply FndL.pk|apply FndL.pr|apply FndL.rm|apply FndL.s))|apply leZ))(hr:∀v post,R v post-> ∀c∈post,im c:=by
      intro v post
      repeat (first|(refine UZ ?_;intro _)|refine Wh ?_)
      refine Wg ?_
      repeat (first|exact UX|refine U0 ?_|refine UY ?_|refine UW ?_)):OpX P s L ⟨d,.call ⟨.value (.func f),xs.toArray,ats⟩,ty,pos,af,gd⟩ fun u L'=> ∃post,R u post/\L'=post++L:=aJ hc hv hp hr
theorem oC {rest:W6}(hc:Okc P f vs pre R)(hv:F2 s xs=some vs:=by exact rfl)(hp:Tk L pre rest:=by
      apply Qy (by repeat (first|exact mG rfl|apply jB rfl|exact rfl))
      repeat (first|exact UR|apply UQ (by with_reducible repeat (first|apply FndD.w|apply FndD.s))|apply UT (by with_reducible repeat (first|apply FndD.w|apply FndD.s))|apply tkM (by with_reducible repeat (first|apply FndD.w|apply FndD.s))|apply tkR (by with_reducible repeat (first|apply FndD.w|apply FndD.s))|apply US (by with_reducible repeat (first|apply FndC.w|apply FndC.s)))):OpX P s L ⟨d,.call ⟨.value (.func f),xs.toArray,ats⟩,ty,pos,af,gd⟩ fun u L'=> ∃post,R u post/\L'=post++rest:=dM hc hv hp
end
inductive FndX (b:Nat) (bt:TypeId) (cs:W7):W6->Prop
  |w {L:_}:FndX b bt cs (ah b bt cs::L)
  |s {c L:_} (h:FndX b bt cs L):FndX b bt cs (c::L)
theorem FndX.ix {b:Nat}(h:FndX b bt cs L): ∃i:Nat,L[i]? =some (ah b bt cs):=by
  induction h with
  |w=>exact ⟨0,rfl⟩
  |s _ ih=>obtain ⟨i,h⟩:=ih;exact ⟨i+1,h⟩
theorem aN:All2 (vF P L s) [] []:=.nil
theorem aT {t:Nat}(h:jH s t=some v)(k:All2 (vF P L s) rs vs):All2 (vF P L s) (.tmp t::rs) (v::vs):=.cons (dS h) k
theorem aS {t ty b:Nat}(hu:FcG P ty n)(hl:jH s t=some (.pointer (some ⟨b,0,none⟩)))(hi:FndX b bt cs L)(hc:cs=us)(hn:us.length=n)(k:All2 (vF P L s) rs vs):All2 (vF P L s) (.cell t ty::rs) (.agg us.toArray::vs):=by
  obtain ⟨i,hi⟩:=hi.ix;subst hc;exact .cons (du i hi hl (hn▸hu.out)) k
theorem aO {t ty b:Nat}(hu:Fc (iw P ty=true))(hl:jH s t=some (.pointer (some ⟨b,0,none⟩)))(hi:FndX b bt [v] L)(k:All2 (vF P L s) rs vs):All2 (vF P L s) (.cell t ty::rs) (v::vs):=by
  obtain ⟨i,hi⟩:=hi.ix;exact .cons (H7 i hi hl hu.out) k
theorem PQ {T:W6}(h:L'=L)(k:Cv L T):Cv L' T:=h▸k
theorem UH {T:W6}(k:Cv L T):Cv (c::L) T:=(cv_tl).trans k
theorem UF:Cv L []:=fun Z w h=>by
  have:=(yD (L:=L) [] L.length (by simp [GC]) (by simp)) Z w h;simpa [D3] using this
theorem UG (h:FndC c L M)(k:Cv M L2):Cv L (c::L2):=h.cv.trans (mT c k)
theorem UE {R:Rep α}{xs:List α}(h:FndD (iI R v xs) L)(k:Cv L L2):Cv L (iI R v xs::L2):=(h.cv rfl).trans (mT _ k)
theorem Vv (hr:fn.results=rs.toArray)(h1:All2 (vF X.P L s) rs vs)(hv:Vb vs=v)(hR:R v L2)(hc:Cv L L2):Ol X fn R .ret s L:=kB hr h1 hv hc hR
theorem eN {p:Prop}(hh:p:=by
    obtain rfl:=bF h
    first|apply Vv rfl|apply endN rfl
    repeat (first|exact aN|apply aT rfl|apply aS (by infer_instance) rfl (by with_reducible repeat (first|apply FndX.w|apply FndX.s)) (by repeat (first|exact AF rfl|apply wK rfl)) (by exact rfl)|apply aO (by infer_instance) rfl (by with_reducible repeat (first|apply FndX.w|apply FndX.s)))
    exact J
    repeat (apply Exists.intro)
    exact ⟨J,J⟩
    all_goals (try apply PQ (by repeat (first|exact mG rfl|apply jB rfl|exact rfl)))
    all_goals (repeat (first|exact UF|apply UE (by with_reducible repeat (first|apply FndD.w|apply FndD.s))|apply UG (by with_reducible repeat (first|apply FndC.w|apply FndC.s))|apply cwF (by with_reducible repeat (first|apply FndC.w|apply FndC.s))|apply cwZ|apply cwY|exact ad _|apply UH))):p:=hh
theorem VK {Fam:bH->W6->Prop}(h:Fam s2 L2)(hs:AV s s2)(hc:Cv L L2): ∃s2 L2,Fam s2 L2/\AV s s2/\Cv L L2:=⟨s2,L2,h,hs,hc⟩
theorem jN {p:Prop}(hh:p:=by
    apply VK
    repeat (apply Exists.intro)
    exact ⟨h,J,J⟩
    all_goals (try exact sA)
    all_goals (try apply PQ (by repeat (first|exact mG rfl|apply jB rfl|exact rfl)))
    all_goals (repeat (first|exact UF|apply UE (by with_reducible repeat (first|apply FndD.w|apply FndD.s))|apply UG (by with_reducible repeat (first|apply FndC.w|apply FndC.s))|apply cwF (by with_reducible repeat (first|apply FndC.w|apply FndC.s))|apply cwZ|apply cwY|exact ad _|apply UH))):p:=hh
theorem V8 {Fam:Nat->bH->W6->Prop}{m:Nat}(h:Fam m s2 L2)(hs:AV s s2)(hc:Cv L L2): ∃m' s3 L3,m'<m+1/\Fam m' s3 L3/\AV s s3/\Cv L L3:=⟨m,s2,L2,WZ _,h,hs,hc⟩
theorem lN {p:Prop}(hh:p:=by
    apply V8
    repeat (apply Exists.intro)
    exact ⟨h,J,J⟩
    all_goals (try exact sA)
    all_goals (try apply PQ (by repeat (first|exact mG rfl|apply jB rfl|exact rfl)))
    all_goals (repeat (first|exact UF|apply UE (by with_reducible repeat (first|apply FndD.w|apply FndD.s))|apply UG (by with_reducible repeat (first|apply FndC.w|apply FndC.s))|apply cwF (by with_reducible repeat (first|apply FndC.w|apply FndC.s))|apply cwZ|apply cwY|exact ad _|apply UH))):p:=hh
instance repInt {k:IntKind}:RepF (nE k) (fun x=> [.int k x]):=⟨fun _ _ _ _ h=>h⟩
section
variable {d:Nat}
theorem VV {R:Rep α}{e:TypeId}{xs:List α}[hu:FcS P t e](hx:bp s x=some v)(he:FndE R v xs L):RdS P s L ⟨some d,.call ⟨.builtin .len, #[x], #[t]⟩,ty,pos,af,gd⟩ (.int .i64 (xs.length:Int)):=⟨by
  obtain ⟨j,c,h,e⟩:=he.ix
  exact lO j h e hx hu.out⟩
theorem Va {u:TypeId}{y:Operand}{a b:Int}(hx:bp s x=some (.int .i64 a))(hy:bp s y=some (.int .i64 b))(h:in64 (a+b)):RdS P s L ⟨some d,.binOp .add t x y u,ty,pos,af,gd⟩ (.int .i64 (a+b)):=⟨fun _ _ _=>iN hx hy h.1 h.2⟩
theorem U8 {u:TypeId}{y:Operand}{a b:Int}(hx:bp s x=some (.int .i64 a))(hy:bp s y=some (.int .i64 b))(h:in64 (a - b)):RdS P s L ⟨some d,.binOp .sub t x y u,ty,pos,af,gd⟩ (.int .i64 (a - b)):=⟨fun _ _ _=>wP hx hy h.1 h.2⟩
theorem VR {vs:Array Value}(hx:bp s x=some (.tuple vs))(hi:vs.toList[i]? =some v):RdS P s L ⟨some d,.extract x i,ty,pos,af,gd⟩ v:=⟨fun _ _ _=>dW hx (by simpa using hi)⟩
theorem TQ (h:RdS P s L ⟨some d,op,ty,pos,af,gd⟩ v:=by
  first
    |exact VR rfl rfl
    |exact V0 rfl
    |exact U9 rfl
    |exact VZ rfl
    |exact V4 rfl (by with_reducible repeat (first|apply FndR.w|apply FndR.r|apply FndR.s)) (by exact rfl)
    |exact VS rfl (by with_reducible repeat (first|apply FndR.w|apply FndR.r|apply FndR.s)) (by repeat (first|exact AF rfl|apply wK rfl)) (by exact rfl)
    |exact V3 (by repeat (first|exact Vt|apply Vu rfl)) (by infer_instance)
    |exact VV rfl (by with_reducible repeat (first|apply FndE.w bi|apply FndE.w ap|apply FndE.s))
    |exact VW rfl rfl (by with_reducible repeat (first|apply FndE.w bi|apply FndE.w ap|apply FndE.s)) (by assumption) (by assumption)
    |exact VY rfl (by with_reducible repeat (first|apply FndE.w bi|apply FndE.w ap|apply FndE.s)) (by infer_instance) (by assumption) (by exact rfl) (by repeat (first|exact AF rfl|apply wK rfl)) (by exact rfl)
    |exact VX rfl (by with_reducible repeat (first|apply FndE.w bi|apply FndE.w ap|apply FndE.s)) (by infer_instance) (by assumption) (by exact rfl) (by exact rfl)
    |exact Va rfl rfl (by assumption)
    |exact U8 rfl rfl (by assumption)
    |exact VU rfl (by assumption) rfl
    |exact VT rfl (by assumption) rfl):RdS P s L ⟨some d,op,ty,pos,af,gd⟩ v:=h
end
section
theorem TT {B:W6}(h:bj X ops l K s (A++B)):bj X ops l K s (A++B):=h
theorem Wa (h:bj X ops l K s (A.set i c)):bj X ops l K s (A.set i c):=h
theorem Vm {y:Code}(h:Wq X y K s (A.set i c)):Wq X y K s (A.set i c):=h
theorem Wb {B:W6}{c:Code}(h:Wq X c K s (A++B)):Wq X c K s (A++B):=h
end
theorem ab {p q:Prop}(k:q)(h:Bxd q->p:=by
  intro k
  repeat (first
    | (with_reducible first|refine TT ?_|refine Wa ?_
       refine mq ?_)
    | (with_reducible refine TS ?_
       refine Vq J ?_
       first
         | (refine Vc ?_
            first
              |refine tR TQ rfl rfl ?_
              |refine tW rfl rfl (by repeat (first|exact AF rfl|apply wK rfl)) (by with_reducible repeat (first|apply FndW.w|apply FndW.s)) (by repeat (first|exact AF rfl|apply wK rfl)) (by exact rfl) (by exact rfl) (by exact rfl) ?_
              |refine tA (by repeat (first|exact AF rfl|apply wK rfl)) rfl ?_
              |refine tX rfl (by repeat (first|exact AF rfl|apply wK rfl)) rfl ?_)
         |refine Vd ?_)
    | (with_reducible refine TS ?_
       fail_if_success with_reducible refine Vo ?_
       refine Vn J ?_)
    | (with_reducible first|refine Wb ?_|refine Vm ?_
       refine Uc ?_)
    | (with_reducible refine Vl ?_
       first
         |refine aA (kp ?_)
         |with_reducible refine kp ?_
         |with_reducible refine IW ?_
         | (fail_if_success with_reducible refine Vp ?_
            with_reducible refine wW ?_)
         |with_reducible refine Kd ?_
         |with_reducible refine Lw ?_)
    | (with_reducible refine V9 ?_
       first
         |refine tZ _ rfl rfl TQ O (by exact rfl) (by exact rfl) ?_
         |refine tU _ rfl rfl (by exact rfl) O (by exact rfl) ?_
         |refine tN O ?_)
    |with_reducible refine qF ?_
    |with_reducible refine R1 ?_
    |with_reducible refine TC ?_
    |with_reducible refine TB ?_
    |with_reducible refine QT ?_
    |with_reducible refine Ta ?_)
  exact k.un):p:=h ⟨k⟩
structure CvA (L L2:W6):Prop where
  out:Cv L L2
theorem cX (h:CvA L L2:=by
    refine CvA.mk ?_;apply PQ (by repeat (first|exact mG rfl|apply jB rfl|exact rfl))
    repeat (first|exact UF|apply UE (by with_reducible repeat (first|apply FndD.w|apply FndD.s))|apply UG (by with_reducible repeat (first|apply FndC.w|apply FndC.s))|apply cwF (by with_reducible repeat (first|apply FndC.w|apply FndC.s))|apply cwZ|apply cwY|exact ad _|apply UH)):Cv L L2:=h.out
theorem gJ {pd:Nat}{a b:Bool}(h:some a=some b)(hs:AV s ((pd,.bool a)::s2):=by exact sA)(hl:Cv L L2:=by exact cX):bj X ops [] (ve ((pd,.bool b)::s2) L2) s L:=by
  cases h;exact bA hs hl
theorem gS (k pd gc:Nat){c:Bool}{u v:Option Bool}{f:Bool->Option ρ}{r:ρ}(h:(bif c then u else v).bind f=some r)(k2:∀b,f b=some r->bj X ops (l.drop k) K ((pd,.bool b)::s) L)(hc:bp s (.tmp gc)=some (.bool c):=by exact rfl)(h1:∀b,c=true->u=some b->bj X ops (l.take k) (ve ((pd,.bool b)::s) L) s L:=by
      intro b g h;refine ab ?_
      exact gJ h)(h2:∀b,c=false->v=some b->bj X ops (l.take k) (ve ((pd,.bool b)::s) L) s L:=by
      intro b g h;refine ab ?_
      exact gJ h):bj X ops l K s L:=by
  obtain ⟨b,hb,h⟩:=aa h;refine il k pd b ?_ (k2 b h)
  cases hg:c with
  |true=>exact h1 b hg (cN hg hb)
  |false=>exact h2 b hg (cO hg hb)
end
section
open Go.RowKit
theorem bz {xs:List α}{i:Int}{f:α->Option ρ}{r:ρ}(h:(au xs i).bind f=some r): ∃x,0<=i/\i<xs.length/\xs[i.toNat]? =some x/\f x=some r:=by
  obtain ⟨x,hx,h⟩:=aa h;obtain ⟨l,u,hx⟩:=kY hx;exact ⟨x,l,u,hx,h⟩
theorem ce {c:Code}{q:Prop}(hf:P.funcs[f]? =some fn)(k:q)(hb:fn.body=some c:=by exact rfl)(hn:Nat.ble args.length fn.ntmps=true:=by exact rfl)(hm:(fn.name== "runtime.NumGoroutine")=false:=by exact rfl)(h:Bxd q->Wq ⟨P,fn.ntmps,none⟩ c (Ol ⟨P,fn.ntmps,none⟩ fn R) (qM args 0) L:=by
      intro k;simp only [qM];refine ab ?_
      exact k.un):Okc P f args L R:=CZ hf hb hn (h ⟨k⟩) hm
theorem eY {p:Prop}(hh:p:=by
    refine ab ?_
    exact eN):p:=hh
theorem jY {p:Prop}(hh:p:=by
    refine ab ?_
    exact jN):p:=hh
theorem lY {p:Prop}(hh:p:=by
    refine ab ?_
    exact lN):p:=hh
theorem gY {p:Prop}(hh:p:=by
    refine ab ?_
    exact gJ h):p:=hh
theorem cn {p:Prop}{q:Nat->Prop}(k:∀b,q b)(h:(∀b,Bxd (q b))->p:=by
    intro k;refine ab ?_;intro b;refine ab ?_
    exact (k b).un):p:=h fun b=>⟨k b⟩
theorem sY {p q:Prop}(k:q)(h:Bxd q->p:=by
    intro k;refine ab ?_;refine aA ?_;refine ab ?_
    exact k.un):p:=h ⟨k⟩
theorem sZ {p q:Prop}(k:q)(h:Bxd q->p:=by
    intro k;refine aA ?_;refine ab ?_
    exact k.un):p:=h ⟨k⟩
section
theorem dr {p:Prop}{c:Operand}{x y:Code}{b:Bool}{u v r:Option ρ}(h:(bif b then u else v)=r)(ht:u=r->Wq X x K s L)(hf:v=r->Wq X y K s L)(h0:Bxd (Wq X (.cond c x y) K s L)->p:=by
      intro k;refine ab ?_
      exact k.un)(hc:bp s c=some (.bool b):=by exact rfl):p:=h0 ⟨gH hc h ht hf⟩
variable {rest:List Oper}{d:Nat}{q:Prop}
theorem K9 (h:Rd X.P s L ⟨some d,op,ty,pos,af,gd⟩ v)(k:q)(hr:Bxd q->bj X ops rest K ((d,v)::s) L:=by
      intro k;refine ab ?_
      exact k.un)(hn:fc ⟨some d,op,ty,pos,af,gd⟩=true:=by rfl)(hg:aD ops s ⟨some d,op,ty,pos,af,gd⟩=some true:=by rfl)(hd:Nat.ble (d+1) X.n=true:=by rfl):bj X ops (⟨some d,op,ty,pos,af,gd⟩::rest) K s L:=gR h (hr ⟨k⟩) hn hg hd
theorem ga (h:Ev X.P s (fun _=>True) ⟨some d,op,ty,pos,af,gd⟩ v)(k:q)(hr:Bxd q->bj X ops rest K ((d,v)::s) L:=by
      intro k;refine ab ?_
      exact k.un)(hn:fc ⟨some d,op,ty,pos,af,gd⟩=true:=by rfl)(hg:aD ops s ⟨some d,op,ty,pos,af,gd⟩=some true:=by rfl)(hd:Nat.ble (d+1) X.n=true:=by rfl):bj X ops (⟨some d,op,ty,pos,af,gd⟩::rest) K s L:=gE h (hr ⟨k⟩) hn hg hd
theorem Gl {C Z:W6}(h:OpX X.P s L ⟨some d,op,ty,pos,af,gd⟩ fun u L'=> ∃post,(u=v/\post=C)/\L'=post++Z)(k:q)(hr:Bxd q->bj X ops rest K ((d,v)::s) (C++Z):=by
      intro k;refine ab ?_
      exact k.un)(hn:fc ⟨some d,op,ty,pos,af,gd⟩=true:=by rfl)(hg:aD ops s ⟨some d,op,ty,pos,af,gd⟩=some true:=by rfl)(hd:Nat.ble (d+1) X.n=true:=by rfl):bj X ops (⟨some d,op,ty,pos,af,gd⟩::rest) K s L:=gV h (hr ⟨k⟩) hn hg hd
theorem Hr {Z:W6}(h:OpX X.P s L ⟨none,op,ty,pos,af,gd⟩ fun _ L'=>L'=Z)(k:q)(hr:Bxd q->bj X ops rest K s Z:=by
      intro k;refine ab ?_
      exact k.un)(hn:fc ⟨none,op,ty,pos,af,gd⟩=true:=by rfl)(hg:aD ops s ⟨none,op,ty,pos,af,gd⟩=some true:=by rfl):bj X ops (⟨none,op,ty,pos,af,gd⟩::rest) K s L:=gW h (hr ⟨k⟩) hn hg
theorem We {q:Nat->Prop}(h:OpX X.P s L ⟨some d,op,ty,pos,af,gd⟩ R)(k:∀(b:Nat),q b)(hr:(∀(b:Nat),Bxd (q b))-> ∀v L',R v L'->bj X ops rest K ((d,v)::s) L':=by
      intro k
      first|(rintro _ _ ⟨_,⟨b,rfl,rfl⟩,rfl⟩;refine ab ?_;exact (k b).un)|(rintro _ _ ⟨b,rfl,rfl⟩;refine ab ?_;exact (k b).un))(hn:fc ⟨some d,op,ty,pos,af,gd⟩=true:=by rfl)(hg:aD ops s ⟨some d,op,ty,pos,af,gd⟩=some true:=by rfl)(hd:Nat.ble (d+1) X.n=true:=by rfl):bj X ops (⟨some d,op,ty,pos,af,gd⟩::rest) K s L:=gD h (hr fun b=>⟨k b⟩) hn hg hd
theorem vo {q:Option Addr->Nat->Nat->Prop}(h:OpX X.P s L ⟨some d,op,ty,pos,af,gd⟩ R)(k:∀(x0:Option Addr) (x1:Nat) (x2:Nat),q x0 x1 x2)(hr:(∀(x0:Option Addr) (x1:Nat) (x2:Nat),Bxd (q x0 x1 x2))-> ∀v L',R v L'->bj X ops rest K ((d,v)::s) L':=by
      intro k
      first|(rintro _ _ ⟨_,⟨x0,x1,x2,rfl,rfl⟩,rfl⟩;refine ab ?_;exact (k x0 x1 x2).un)|(rintro _ _ ⟨x0,x1,x2,rfl,rfl⟩;refine ab ?_;exact (k x0 x1 x2).un))(hn:fc ⟨some d,op,ty,pos,af,gd⟩=true:=by rfl)(hg:aD ops s ⟨some d,op,ty,pos,af,gd⟩=some true:=by rfl)(hd:Nat.ble (d+1) X.n=true:=by rfl):bj X ops (⟨some d,op,ty,pos,af,gd⟩::rest) K s L:=gD h (hr fun x0 x1 x2=>⟨k x0 x1 x2⟩) hn hg hd
theorem St {q:Option Addr->Nat->Nat->Option Addr->Nat->Nat->Prop}(h:OpX X.P s L ⟨some d,op,ty,pos,af,gd⟩ R)(k:∀(x0:Option Addr) (x1:Nat) (x2:Nat) (x3:Option Addr) (x4:Nat) (x5:Nat),q x0 x1 x2 x3 x4 x5)(hr:(∀(x0:Option Addr) (x1:Nat) (x2:Nat) (x3:Option Addr) (x4:Nat) (x5:Nat),Bxd (q x0 x1 x2 x3 x4 x5))-> ∀v L',R v L'->bj X ops rest K ((d,v)::s) L':=by
      intro k
      first|(rintro _ _ ⟨_,⟨x0,x1,x2,x3,x4,x5,rfl,rfl⟩,rfl⟩;refine ab ?_;exact (k x0 x1 x2 x3 x4 x5).un)|(rintro _ _ ⟨x0,x1,x2,x3,x4,x5,rfl,rfl⟩;refine ab ?_;exact (k x0 x1 x2 x3 x4 x5).un))(hn:fc ⟨some d,op,ty,pos,af,gd⟩=true:=by rfl)(hg:aD ops s ⟨some d,op,ty,pos,af,gd⟩=some true:=by rfl)(hd:Nat.ble (d+1) X.n=true:=by rfl):bj X ops (⟨some d,op,ty,pos,af,gd⟩::rest) K s L:=gD h (hr fun x0 x1 x2 x3 x4 x5=>⟨k x0 x1 x2 x3 x4 x5⟩) hn hg hd
theorem Wc {q:Option Addr->Nat->Nat->Option Addr->Nat->Nat->Option Addr->Nat->Nat->Prop}(h:OpX X.P s L ⟨some d,op,ty,pos,af,gd⟩ R)(k:∀(x0:Option Addr) (x1:Nat) (x2:Nat) (x3:Option Addr) (x4:Nat) (x5:Nat) (x6:Option Addr) (x7:Nat) (x8:Nat),q x0 x1 x2 x3 x4 x5 x6 x7 x8)(hr:(∀(x0:Option Addr) (x1:Nat) (x2:Nat) (x3:Option Addr) (x4:Nat) (x5:Nat) (x6:Option Addr) (x7:Nat) (x8:Nat),Bxd (q x0 x1 x2 x3 x4 x5 x6 x7 x8))-> ∀v L',R v L'->bj X ops rest K ((d,v)::s) L':=by
      intro k
      first|(rintro _ _ ⟨_,⟨x0,x1,x2,x3,x4,x5,x6,x7,x8,rfl,rfl⟩,rfl⟩;refine ab ?_;exact (k x0 x1 x2 x3 x4 x5 x6 x7 x8).un)|(rintro _ _ ⟨x0,x1,x2,x3,x4,x5,x6,x7,x8,rfl,rfl⟩;refine ab ?_;exact (k x0 x1 x2 x3 x4 x5 x6 x7 x8).un))(hn:fc ⟨some d,op,ty,pos,af,gd⟩=true:=by rfl)(hg:aD ops s ⟨some d,op,ty,pos,af,gd⟩=some true:=by rfl)(hd:Nat.ble (d+1) X.n=true:=by rfl):bj X ops (⟨some d,op,ty,pos,af,gd⟩::rest) K s L:=gD h (hr fun x0 x1 x2 x3 x4 x5 x6 x7 x8=>⟨k x0 x1 x2 x3 x4 x5 x6 x7 x8⟩) hn hg hd
theorem Ux {q:Option Addr->Nat->Nat->Option Addr->Nat->Nat->Option Addr->Nat->Nat->Option Addr->Nat->Nat->Prop}(h:OpX X.P s L ⟨some d,op,ty,pos,af,gd⟩ R)(k:∀(x0:Option Addr) (x1:Nat) (x2:Nat) (x3:Option Addr) (x4:Nat) (x5:Nat) (x6:Option Addr) (x7:Nat) (x8:Nat) (x9:Option Addr) (a6:Nat) (a7:Nat),q x0 x1 x2 x3 x4 x5 x6 x7 x8 x9 a6 a7)(hr:(∀(x0:Option Addr) (x1:Nat) (x2:Nat) (x3:Option Addr) (x4:Nat) (x5:Nat) (x6:Option Addr) (x7:Nat) (x8:Nat) (x9:Option Addr) (a6:Nat) (a7:Nat),Bxd (q x0 x1 x2 x3 x4 x5 x6 x7 x8 x9 a6 a7))-> ∀v L',R v L'->bj X ops rest K ((d,v)::s) L':=by
      intro k
      first|(rintro _ _ ⟨_,⟨x0,x1,x2,x3,x4,x5,x6,x7,x8,x9,a6,a7,rfl,rfl⟩,rfl⟩;refine ab ?_;exact (k x0 x1 x2 x3 x4 x5 x6 x7 x8 x9 a6 a7).un)|(rintro _ _ ⟨x0,x1,x2,x3,x4,x5,x6,x7,x8,x9,a6,a7,rfl,rfl⟩;refine ab ?_;exact (k x0 x1 x2 x3 x4 x5 x6 x7 x8 x9 a6 a7).un))(hn:fc ⟨some d,op,ty,pos,af,gd⟩=true:=by rfl)(hg:aD ops s ⟨some d,op,ty,pos,af,gd⟩=some true:=by rfl)(hd:Nat.ble (d+1) X.n=true:=by rfl):bj X ops (⟨some d,op,ty,pos,af,gd⟩::rest) K s L:=gD h (hr fun x0 x1 x2 x3 x4 x5 x6 x7 x8 x9 a6 a7=>⟨k x0 x1 x2 x3 x4 x5 x6 x7 x8 x9 a6 a7⟩) hn hg hd
end
def Zl (_:List Nat)(p:Prop):Prop:=p
theorem UP {p:Prop}(h:p):Zl [] p:=h
section
variable {d:Nat}
theorem U7 (i:Nat){l:List Nat}(hi:ops[i]? =some ⟨some d,op,ty,pos,af,gd⟩)(h:RdS X.P s M ⟨some d,op,ty,pos,af,gd⟩ v)(hk:Om ops listed i=true)(hg:aD ops s ⟨some d,op,ty,pos,af,gd⟩=some true)(hd:Nat.ble (d+1) X.n=true)(k:Zl l (mI X ops K M fuel (listed.setIfInBounds i true) ((d,v)::s) L)):Zl (i::l) (mI X ops K M (fuel+1) listed s L):=zR i hi h.out k hk hg hd
end
theorem zY (l:List Nat){p q:Prop}(k:q)(h:Bxd q->Zl l p:=by
    intro k
    repeat (refine U7 _ rfl TQ O (by exact rfl) (by exact rfl) ?_)
    refine UP ?_
    exact k.un):p:=h ⟨k⟩
theorem VO {l:List Nat}{p q:Prop}(f:q->p)(h:Zl l q):Zl l p:=f h
theorem zX (l:List Nat){p q:Prop}(k:q)(h:Bxd q->Zl l p:=by
    intro k
    repeat (refine U7 _ rfl TQ O (by exact rfl) (by exact rfl) ?_)
    refine UP ?_;refine bn O ?_
    exact k.un):p:=h ⟨k⟩
theorem dY (l:List Nat){p q:Prop}(k:q)(h:Bxd q->Zl l p:=by
    intro k;refine VO (fun h=>aA (ba O _ (ad _) h)) ?_
    repeat (refine U7 _ rfl TQ O (by exact rfl) (by exact rfl) ?_)
    refine UP ?_
    exact k.un):p:=h ⟨k⟩
theorem ca {P:W6->Prop}(k:P M)(h:Cv L M:=by exact cX): ∃M',Cv L M'/\Cv M' M/\P M':=nC h k
section
variable {d:Nat}
theorem MR (i:Nat){q:Nat->Prop}(hi:ops[i]? =some ⟨some d,op,ty,pos,af,gd⟩)(h:OpX X.P s L ⟨some d,op,ty,pos,af,gd⟩ R)(k:∀(x0:Nat),q x0)(hq:(∀(x0:Nat),Bxd (q x0))-> ∀v L',R v L'-> ∃M',Cv L' M'/\Cv M' M/\mI X ops K M' fuel (listed.setIfInBounds i true) ((d,v)::s) L':=by
      intro k
      first
        | rintro _ _ ⟨_,⟨x0,rfl,rfl⟩,rfl⟩
          refine ca ?_;refine bv ?_;exact (k x0).un
        | rintro _ _ ⟨x0,rfl,rfl⟩
          refine ca ?_;refine bv ?_
          exact (k x0).un)(hr:Region.ready .any ops listed=[i]:=by kernel_rfl)(hn:fc ⟨some d,op,ty,pos,af,gd⟩=true:=by exact rfl)(hg:aD ops s ⟨some d,op,ty,pos,af,gd⟩=some true:=by exact rfl)(hd:Nat.ble (d+1) X.n=true:=by exact rfl):mI X ops K M (fuel+1) listed s L:=zD i hi h (hq fun x0=>⟨k x0⟩) hr hn hg hd
theorem Du (i:Nat){q:Option Addr->Nat->Nat->Prop}(hi:ops[i]? =some ⟨some d,op,ty,pos,af,gd⟩)(h:OpX X.P s L ⟨some d,op,ty,pos,af,gd⟩ R)(k:∀(x0:Option Addr) (x1:Nat) (x2:Nat),q x0 x1 x2)(hq:(∀(x0:Option Addr) (x1:Nat) (x2:Nat),Bxd (q x0 x1 x2))-> ∀v L',R v L'-> ∃M',Cv L' M'/\Cv M' M/\mI X ops K M' fuel (listed.setIfInBounds i true) ((d,v)::s) L':=by
      intro k
      first
        | rintro _ _ ⟨_,⟨x0,x1,x2,rfl,rfl⟩,rfl⟩
          refine ca ?_;refine bv ?_;exact (k x0 x1 x2).un
        | rintro _ _ ⟨x0,x1,x2,rfl,rfl⟩
          refine ca ?_;refine bv ?_
          exact (k x0 x1 x2).un)(hr:Region.ready .any ops listed=[i]:=by kernel_rfl)(hn:fc ⟨some d,op,ty,pos,af,gd⟩=true:=by exact rfl)(hg:aD ops s ⟨some d,op,ty,pos,af,gd⟩=some true:=by exact rfl)(hd:Nat.ble (d+1) X.n=true:=by exact rfl):mI X ops K M (fuel+1) listed s L:=zD i hi h (hq fun x0 x1 x2=>⟨k x0 x1 x2⟩) hr hn hg hd
theorem VQ (i:Nat){q:Option Addr->Nat->Nat->Option Addr->Nat->Nat->Prop}(hi:ops[i]? =some ⟨some d,op,ty,pos,af,gd⟩)(h:OpX X.P s L ⟨some d,op,ty,pos,af,gd⟩ R)(k:∀(x0:Option Addr) (x1:Nat) (x2:Nat) (x3:Option Addr) (x4:Nat) (x5:Nat),q x0 x1 x2 x3 x4 x5)(hq:(∀(x0:Option Addr) (x1:Nat) (x2:Nat) (x3:Option Addr) (x4:Nat) (x5:Nat),Bxd (q x0 x1 x2 x3 x4 x5))-> ∀v L',R v L'-> ∃M',Cv L' M'/\Cv M' M/\mI X ops K M' fuel (listed.setIfInBounds i true) ((d,v)::s) L':=by
      intro k
      first
        | rintro _ _ ⟨_,⟨x0,x1,x2,x3,x4,x5,rfl,rfl⟩,rfl⟩
          refine ca ?_;refine bv ?_;exact (k x0 x1 x2 x3 x4 x5).un
        | rintro _ _ ⟨x0,x1,x2,x3,x4,x5,rfl,rfl⟩
          refine ca ?_;refine bv ?_
          exact (k x0 x1 x2 x3 x4 x5).un)(hr:Region.ready .any ops listed=[i]:=by kernel_rfl)(hn:fc ⟨some d,op,ty,pos,af,gd⟩=true:=by exact rfl)(hg:aD ops s ⟨some d,op,ty,pos,af,gd⟩=some true:=by exact rfl)(hd:Nat.ble (d+1) X.n=true:=by exact rfl):mI X ops K M (fuel+1) listed s L:=zD i hi h (hq fun x0 x1 x2 x3 x4 x5=>⟨k x0 x1 x2 x3 x4 x5⟩) hr hn hg hd
theorem MQ (i:Nat){q:Option Addr->Nat->Nat->Option Addr->Nat->Nat->Option Addr->Nat->Nat->Option Addr->Nat->Nat->Prop}(hi:ops[i]? =some ⟨some d,op,ty,pos,af,gd⟩)(h:OpX X.P s L ⟨some d,op,ty,pos,af,gd⟩ R)(k:∀(x0:Option Addr) (x1:Nat) (x2:Nat) (x3:Option Addr) (x4:Nat) (x5:Nat) (x6:Option Addr) (x7:Nat) (x8:Nat) (x9:Option Addr) (a6:Nat) (a7:Nat),q x0 x1 x2 x3 x4 x5 x6 x7 x8 x9 a6 a7)(hq:(∀(x0:Option Addr) (x1:Nat) (x2:Nat) (x3:Option Addr) (x4:Nat) (x5:Nat) (x6:Option Addr) (x7:Nat) (x8:Nat) (x9:Option Addr) (a6:Nat) (a7:Nat),Bxd (q x0 x1 x2 x3 x4 x5 x6 x7 x8 x9 a6 a7))-> ∀v L',R v L'-> ∃M',Cv L' M'/\Cv M' M/\mI X ops K M' fuel (listed.setIfInBounds i true) ((d,v)::s) L':=by
      intro k
      first
        | rintro _ _ ⟨_,⟨x0,x1,x2,x3,x4,x5,x6,x7,x8,x9,a6,a7,rfl,rfl⟩,rfl⟩
          refine ca ?_;refine bv ?_;exact (k x0 x1 x2 x3 x4 x5 x6 x7 x8 x9 a6 a7).un
        | rintro _ _ ⟨x0,x1,x2,x3,x4,x5,x6,x7,x8,x9,a6,a7,rfl,rfl⟩
          refine ca ?_;refine bv ?_
          exact (k x0 x1 x2 x3 x4 x5 x6 x7 x8 x9 a6 a7).un)(hr:Region.ready .any ops listed=[i]:=by kernel_rfl)(hn:fc ⟨some d,op,ty,pos,af,gd⟩=true:=by exact rfl)(hg:aD ops s ⟨some d,op,ty,pos,af,gd⟩=some true:=by exact rfl)(hd:Nat.ble (d+1) X.n=true:=by exact rfl):mI X ops K M (fuel+1) listed s L:=zD i hi h (hq fun x0 x1 x2 x3 x4 x5 x6 x7 x8 x9 a6 a7=>⟨k x0 x1 x2 x3 x4 x5 x6 x7 x8 x9 a6 a7⟩) hr hn hg hd
end
theorem aM {α:Sort _}{p:α->Prop}{q:Prop}(k:∀a,p a->q):(∃a,p a)->q:=fun ⟨a,h⟩=>k a h
theorem Lb {c:Prop}{X:bH}{hO:W6}{q:bH->W6->Prop}(k:c->q X hO):c/\s=X/\L=hO->q s L:=fun ⟨h,e1,e2⟩=>by subst e1 e2;exact k h
end
section
variable {n2:Nat}
open Go.RowKit
section
variable {d:Nat}
theorem VN (i:Nat){l:List Nat}(hi:ops[i]? =some ⟨some d,op,ty,pos,af,gd⟩)(hg:aD ops s ⟨some d,op,ty,pos,af,gd⟩=some false)(hk:Om ops listed i=true)(hd:Nat.ble (d+1) X.n=true)(k:Zl l (mI X ops K M fuel (listed.setIfInBounds i true) ((d,undef)::s) L)):Zl (i::l) (mI X ops K M (fuel+1) listed s L):=dG i hi hk hg hd k
theorem VP (i:Nat){l:List Nat}(hi:ops[i]? =some ⟨some d,op,ty,pos,af,gd⟩)(hg:aD ops s ⟨some d,op,ty,pos,af,gd⟩=some true)(h:RdS X.P s M ⟨some d,op,ty,pos,af,gd⟩ v)(hk:Om ops listed i=true)(hd:Nat.ble (d+1) X.n=true)(k:Zl l (mI X ops K M fuel (listed.setIfInBounds i true) ((d,v)::s) L)):Zl (i::l) (mI X ops K M (fuel+1) listed s L):=zR i hi h.out k hk hg hd
end
theorem yY (l:List Nat){p q:Prop}(k:q)(h:Bxd q->Zl l p:=by
  intro k
  repeat (first
   |refine VN _ rfl (by first|exact rfl|exact sk (by assumption) rfl|exact uj (by assumption) rfl) O (by exact rfl) ?_
   |refine VP _ rfl (by first|exact rfl|exact bW (by assumption) rfl|exact cL (by assumption) rfl) TQ O (by exact rfl) ?_)
  refine UP ?_
  exact k.un):p:=h ⟨k⟩
section
theorem yS {n2 pd:Nat}{l:Array Bool}{a b:Bool}(rest:mI X ops K M n2 l ((pd,.bool b)::s2) L2)(h:some a=some b)(hs:AV s ((pd,.bool a)::s2):=by exact sA)(hl:Cv L L2:=by exact cX)(hm:Cv L2 M:=by exact cX):mI X ops K M n2 l s L:=by
 cases h;exact ll rest hs hl hm
theorem yJ (ix:List Nat)(n2 gc pd:Nat){c:Bool}{u v:Option Bool}{f:Bool->Option ρ}{r:ρ}(h:(bif c then u else v).bind f=some r)(h1:∀b,c=true->u=some b->mI X ops K M n2 (pT listed ix) ((pd,.bool b)::s) L->mI X ops K M fuel listed s L)(h2:∀b,c=false->v=some b->mI X ops K M n2 (pT listed ix) ((pd,.bool b)::s) L->mI X ops K M fuel listed s L)(k2:∀b,f b=some r->mI X ops K M n2 (pT listed ix) ((pd,.bool b)::s) L)(hc:jH s gc=some (.bool c):=by exact rfl):mI X ops K M fuel listed s L:=by
 have _:=hc;obtain ⟨b,hb,h⟩:=aa h
 cases hg:c with
 |true=>exact h1 b hg (cN hg hb) (k2 b h)
 |false=>exact h2 b hg (cO hg hb) (k2 b h)
theorem JJ (k pd gc:Nat){c:Bool}{u v:Option Bool}{f:Bool->Option ρ}{r:ρ}(h:(bif c then u else v).bind f=some r)(h1:∀b,c=true->u=some b->bj X ops (l.take k) (ve ((pd,.bool b)::s) L) s L)(h2:∀b,c=false->v=some b->bj X ops (l.take k) (ve ((pd,.bool b)::s) L) s L)(k2:∀b,f b=some r->bj X ops (l.drop k) K ((pd,.bool b)::s) L)(hc:jH s gc=some (.bool c):=by exact rfl):bj X ops l K s L:=by
 have _:=hc;obtain ⟨b,hb,h⟩:=aa h;refine il k pd b ?_ (k2 b h)
 cases hg:c with
 |true=>exact h1 b hg (cN hg hb)
 |false=>exact h2 b hg (cO hg hb)
end
section
variable {L0:W6}{o:Oper}{p:Nat->Oper->Prop}
theorem qE {v':Value}(h:Ev P s (fun _=>True) o v')(k:∀(i:Nat) (o:Oper),i<n->ops[i]? =some o->p i o)(ho:ops[n]? =some o:=by exact rfl)(hp:R6 P ops s L L0 o (Asn.aV v).full->p n o:=by exact id)(hv:v'=v:=by exact rfl)(hg:aD ops s o=some true:=by exact rfl)(hl:Cv L L0:=by exact ad _): ∀(i:Nat) (o:Oper),i<n+1->ops[i]? =some o->p i o:=aF ho (hp (VA h hg (iH hv hl))) k
theorem qR {v':Value}(h:Rd P s L o v')(k:∀(i:Nat) (o:Oper),i<n->ops[i]? =some o->p i o)(ho:ops[n]? =some o:=by exact rfl)(hp:R6 P ops s L L0 o (Asn.aV v).full->p n o:=by exact id)(hv:v'=v:=by exact rfl)(hg:aD ops s o=some true:=by exact rfl)(hl:Cv L L0:=by exact ad _): ∀(i:Nat) (o:Oper),i<n+1->ops[i]? =some o->p i o:=aF ho (hp (yQ h hg (iH hv hl))) k
end
end
section
open Go.RowKit
section
variable {nn:Nat}{rr:Option Nat}{rest:List Oper}{d:Nat}{m:Option α}{g:α->Option ρ}{r:ρ}{re:W6}{p:Prop}
theorem cR {v:α->Value}{C:α->W6}{q:α->Prop}(h:m.bind g=some r)(c:∀y,m=some y->Okc P f vs pre (fun u post=>u=v y/\post=C y))(k:∀y,g y=some r->q y)(hp:∀y,Bxd (q y)->(bj ⟨P,nn,rr⟩ ops rest K ((d,v y)::s) (C y++L)->bj ⟨P,nn,rr⟩ ops (⟨some d,.call ⟨.value (.func f),xs.toArray,ats⟩,ty,pos,af,gd⟩::rest) K s L)->p:=by
   intro y k1 k2;refine ab ?_;refine k2 ?_;refine ab ?_
   exact k1.un)(hv:F2 s xs=some vs:=by exact rfl)(hl:CG L pre:=by
   apply Q9 (by repeat (first|exact mG rfl|apply jB rfl|exact rfl))
   repeat (first|exact UU|apply UV (by with_reducible repeat (first|apply FndL.bb|apply FndL.br|apply FndL.sl|apply FndL.so|apply FndL.mm|apply FndL.mr|apply FndL.pq|apply FndL.pk|apply FndL.pr|apply FndL.rm|apply FndL.s))|apply leZ))(hr:∀y, ∀c∈C y,im c:=by
   intro y
   repeat (first|exact UX|refine U0 ?_|refine UY ?_|refine UW ?_))(hn:fc ⟨some d,.call ⟨.value (.func f),xs.toArray,ats⟩,ty,pos,af,gd⟩=true:=by rfl)(hg:aD ops s ⟨some d,.call ⟨.value (.func f),xs.toArray,ats⟩,ty,pos,af,gd⟩=some true:=by first|exact rfl|exact bW (by assumption) rfl|exact cL (by assumption) rfl)(hd:Nat.ble (d+1) nn=true:=by rfl):p:=by
 obtain ⟨y,hy,h⟩:=aa h
 refine hp y (⟨k y h⟩) fun hq=>gD (aJ (c y hy) hv hl (fun u post h=>by obtain ⟨-,rfl⟩:=h;exact hr y)) ?_ hn hg hd
 rintro _ _ ⟨_,⟨rfl,rfl⟩,rfl⟩;exact hq
theorem cC {v:α->Value}{C:α->W6}{q:α->Prop}(h:m.bind g=some r)(c:∀y,m=some y->Okc P f vs pre (fun u post=>u=v y/\post=C y))(k:∀y,g y=some r->q y)(hp:∀y,Bxd (q y)->(bj ⟨P,nn,rr⟩ ops rest K ((d,v y)::s) (C y++re)->bj ⟨P,nn,rr⟩ ops (⟨some d,.call ⟨.value (.func f),xs.toArray,ats⟩,ty,pos,af,gd⟩::rest) K s L)->p:=by
   intro y k1 k2;refine ab ?_;refine k2 ?_;refine ab ?_
   exact k1.un)(hv:F2 s xs=some vs:=by exact rfl)(hl:Tk L pre re:=by
   apply Qy (by repeat (first|exact mG rfl|apply jB rfl|exact rfl))
   repeat (first|exact UR|apply UQ (by with_reducible repeat (first|apply FndD.w|apply FndD.s))|apply UT (by with_reducible repeat (first|apply FndD.w|apply FndD.s))|apply tkM (by with_reducible repeat (first|apply FndD.w|apply FndD.s))|apply tkR (by with_reducible repeat (first|apply FndD.w|apply FndD.s))|apply US (by with_reducible repeat (first|apply FndC.w|apply FndC.s))))(hn:fc ⟨some d,.call ⟨.value (.func f),xs.toArray,ats⟩,ty,pos,af,gd⟩=true:=by rfl)(hg:aD ops s ⟨some d,.call ⟨.value (.func f),xs.toArray,ats⟩,ty,pos,af,gd⟩=some true:=by first|exact rfl|exact bW (by assumption) rfl|exact cL (by assumption) rfl)(hd:Nat.ble (d+1) nn=true:=by rfl):p:=by
 obtain ⟨y,hy,h⟩:=aa h
 refine hp y (⟨k y h⟩) fun hq=>gD (dM (c y hy) hv hl) ?_ hn hg hd
 rintro _ _ ⟨_,⟨rfl,rfl⟩,rfl⟩;exact hq
theorem MG {v:α->Option Addr->Nat->Nat->Value}{C:α->Option Addr->Nat->Nat->W6}{q:α->Option Addr->Nat->Nat->Prop}(h:m.bind g=some r)(c:∀y,m=some y->Okc P f vs pre (fun u post=> ∃(x0:Option Addr) (x1:Nat) (x2:Nat),u=v y x0 x1 x2/\post=C y x0 x1 x2))(k:∀y (x0:Option Addr) (x1:Nat) (x2:Nat),g y=some r->q y x0 x1 x2)(hp:∀y,(∀(x0:Option Addr) (x1:Nat) (x2:Nat),Bxd (q y x0 x1 x2))->((∀(x0:Option Addr) (x1:Nat) (x2:Nat),bj ⟨P,nn,rr⟩ ops rest K ((d,v y x0 x1 x2)::s) (C y x0 x1 x2++L))->bj ⟨P,nn,rr⟩ ops (⟨some d,.call ⟨.value (.func f),xs.toArray,ats⟩,ty,pos,af,gd⟩::rest) K s L)->p:=by
   intro y k1 k2;refine ab ?_;refine k2 ?_;intro x0 x1 x2;refine ab ?_
   exact (k1 x0 x1 x2).un)(hv:F2 s xs=some vs:=by exact rfl)(hl:CG L pre:=by
   apply Q9 (by repeat (first|exact mG rfl|apply jB rfl|exact rfl))
   repeat (first|exact UU|apply UV (by with_reducible repeat (first|apply FndL.bb|apply FndL.br|apply FndL.sl|apply FndL.so|apply FndL.mm|apply FndL.mr|apply FndL.pq|apply FndL.pk|apply FndL.pr|apply FndL.rm|apply FndL.s))|apply leZ))(hr:∀y (x0:Option Addr) (x1:Nat) (x2:Nat), ∀c∈C y x0 x1 x2,im c:=by
   intro y x0 x1 x2
   repeat (first|exact UX|refine U0 ?_|refine UY ?_|refine UW ?_))(hn:fc ⟨some d,.call ⟨.value (.func f),xs.toArray,ats⟩,ty,pos,af,gd⟩=true:=by rfl)(hg:aD ops s ⟨some d,.call ⟨.value (.func f),xs.toArray,ats⟩,ty,pos,af,gd⟩=some true:=by first|exact rfl|exact bW (by assumption) rfl|exact cL (by assumption) rfl)(hd:Nat.ble (d+1) nn=true:=by rfl):p:=by
 obtain ⟨y,hy,h⟩:=aa h
 refine hp y (fun x0 x1 x2=>⟨k y x0 x1 x2 h⟩) fun hq=>gD (aJ (c y hy) hv hl (fun u post h=>by obtain ⟨x0,x1,x2, -,rfl⟩:=h;exact hr y x0 x1 x2)) ?_ hn hg hd
 rintro _ _ ⟨_,⟨x0,x1,x2,rfl,rfl⟩,rfl⟩;exact hq x0 x1 x2
theorem VM {v:α->Option Addr->Nat->Nat->Value}{C:α->Option Addr->Nat->Nat->W6}{q:α->Option Addr->Nat->Nat->Prop}(h:m.bind g=some r)(c:∀y,m=some y->Okc P f vs pre (fun u post=> ∃(x0:Option Addr) (x1:Nat) (x2:Nat),u=v y x0 x1 x2/\post=C y x0 x1 x2))(k:∀y (x0:Option Addr) (x1:Nat) (x2:Nat),g y=some r->q y x0 x1 x2)(hp:∀y,(∀(x0:Option Addr) (x1:Nat) (x2:Nat),Bxd (q y x0 x1 x2))->((∀(x0:Option Addr) (x1:Nat) (x2:Nat),bj ⟨P,nn,rr⟩ ops rest K ((d,v y x0 x1 x2)::s) (C y x0 x1 x2++re))->bj ⟨P,nn,rr⟩ ops (⟨some d,.call ⟨.value (.func f),xs.toArray,ats⟩,ty,pos,af,gd⟩::rest) K s L)->p:=by
   intro y k1 k2;refine ab ?_;refine k2 ?_;intro x0 x1 x2;refine ab ?_
   exact (k1 x0 x1 x2).un)(hv:F2 s xs=some vs:=by exact rfl)(hl:Tk L pre re:=by
   apply Qy (by repeat (first|exact mG rfl|apply jB rfl|exact rfl))
   repeat (first|exact UR|apply UQ (by with_reducible repeat (first|apply FndD.w|apply FndD.s))|apply UT (by with_reducible repeat (first|apply FndD.w|apply FndD.s))|apply tkM (by with_reducible repeat (first|apply FndD.w|apply FndD.s))|apply tkR (by with_reducible repeat (first|apply FndD.w|apply FndD.s))|apply US (by with_reducible repeat (first|apply FndC.w|apply FndC.s))))(hn:fc ⟨some d,.call ⟨.value (.func f),xs.toArray,ats⟩,ty,pos,af,gd⟩=true:=by rfl)(hg:aD ops s ⟨some d,.call ⟨.value (.func f),xs.toArray,ats⟩,ty,pos,af,gd⟩=some true:=by first|exact rfl|exact bW (by assumption) rfl|exact cL (by assumption) rfl)(hd:Nat.ble (d+1) nn=true:=by rfl):p:=by
 obtain ⟨y,hy,h⟩:=aa h
 refine hp y (fun x0 x1 x2=>⟨k y x0 x1 x2 h⟩) fun hq=>gD (dM (c y hy) hv hl) ?_ hn hg hd
 rintro _ _ ⟨_,⟨x0,x1,x2,rfl,rfl⟩,rfl⟩;exact hq x0 x1 x2
theorem IK {v:α->Option Addr->Nat->Nat->Option Addr->Nat->Nat->Value}{C:α->Option Addr->Nat->Nat->Option Addr->Nat->Nat->W6}{q:α->Option Addr->Nat->Nat->Option Addr->Nat->Nat->Prop}(h:m.bind g=some r)(c:∀y,m=some y->Okc P f vs pre (fun u post=> ∃(x0:Option Addr) (x1:Nat) (x2:Nat) (x3:Option Addr) (x4:Nat) (x5:Nat),u=v y x0 x1 x2 x3 x4 x5/\post=C y x0 x1 x2 x3 x4 x5))(k:∀y (x0:Option Addr) (x1:Nat) (x2:Nat) (x3:Option Addr) (x4:Nat) (x5:Nat),g y=some r->q y x0 x1 x2 x3 x4 x5)(hp:∀y,(∀(x0:Option Addr) (x1:Nat) (x2:Nat) (x3:Option Addr) (x4:Nat) (x5:Nat),Bxd (q y x0 x1 x2 x3 x4 x5))->((∀(x0:Option Addr) (x1:Nat) (x2:Nat) (x3:Option Addr) (x4:Nat) (x5:Nat),bj ⟨P,nn,rr⟩ ops rest K ((d,v y x0 x1 x2 x3 x4 x5)::s) (C y x0 x1 x2 x3 x4 x5++L))->bj ⟨P,nn,rr⟩ ops (⟨some d,.call ⟨.value (.func f),xs.toArray,ats⟩,ty,pos,af,gd⟩::rest) K s L)->p:=by
   intro y k1 k2;refine ab ?_;refine k2 ?_;intro x0 x1 x2 x3 x4 x5;refine ab ?_
   exact (k1 x0 x1 x2 x3 x4 x5).un)(hv:F2 s xs=some vs:=by exact rfl)(hl:CG L pre:=by
   apply Q9 (by repeat (first|exact mG rfl|apply jB rfl|exact rfl))
   repeat (first|exact UU|apply UV (by with_reducible repeat (first|apply FndL.bb|apply FndL.br|apply FndL.sl|apply FndL.so|apply FndL.mm|apply FndL.mr|apply FndL.pq|apply FndL.pk|apply FndL.pr|apply FndL.rm|apply FndL.s))|apply leZ))(hr:∀y (x0:Option Addr) (x1:Nat) (x2:Nat) (x3:Option Addr) (x4:Nat) (x5:Nat), ∀c∈C y x0 x1 x2 x3 x4 x5,im c:=by
   intro y x0 x1 x2 x3 x4 x5
   repeat (first|exact UX|refine U0 ?_|refine UY ?_|refine UW ?_))(hn:fc ⟨some d,.call ⟨.value (.func f),xs.toArray,ats⟩,ty,pos,af,gd⟩=true:=by rfl)(hg:aD ops s ⟨some d,.call ⟨.value (.func f),xs.toArray,ats⟩,ty,pos,af,gd⟩=some true:=by first|exact rfl|exact bW (by assumption) rfl|exact cL (by assumption) rfl)(hd:Nat.ble (d+1) nn=true:=by rfl):p:=by
 obtain ⟨y,hy,h⟩:=aa h
 refine hp y (fun x0 x1 x2 x3 x4 x5=>⟨k y x0 x1 x2 x3 x4 x5 h⟩) fun hq=>gD (aJ (c y hy) hv hl (fun u post h=>by obtain ⟨x0,x1,x2,x3,x4,x5, -,rfl⟩:=h;exact hr y x0 x1 x2 x3 x4 x5)) ?_ hn hg hd
 rintro _ _ ⟨_,⟨x0,x1,x2,x3,x4,x5,rfl,rfl⟩,rfl⟩;exact hq x0 x1 x2 x3 x4 x5
theorem TU {v:α->Option Addr->Nat->Nat->Option Addr->Nat->Nat->Value}{C:α->Option Addr->Nat->Nat->Option Addr->Nat->Nat->W6}{q:α->Option Addr->Nat->Nat->Option Addr->Nat->Nat->Prop}(h:m.bind g=some r)(c:∀y,m=some y->Okc P f vs pre (fun u post=> ∃(x0:Option Addr) (x1:Nat) (x2:Nat) (x3:Option Addr) (x4:Nat) (x5:Nat),u=v y x0 x1 x2 x3 x4 x5/\post=C y x0 x1 x2 x3 x4 x5))(k:∀y (x0:Option Addr) (x1:Nat) (x2:Nat) (x3:Option Addr) (x4:Nat) (x5:Nat),g y=some r->q y x0 x1 x2 x3 x4 x5)(hp:∀y,(∀(x0:Option Addr) (x1:Nat) (x2:Nat) (x3:Option Addr) (x4:Nat) (x5:Nat),Bxd (q y x0 x1 x2 x3 x4 x5))->((∀(x0:Option Addr) (x1:Nat) (x2:Nat) (x3:Option Addr) (x4:Nat) (x5:Nat),bj ⟨P,nn,rr⟩ ops rest K ((d,v y x0 x1 x2 x3 x4 x5)::s) (C y x0 x1 x2 x3 x4 x5++re))->bj ⟨P,nn,rr⟩ ops (⟨some d,.call ⟨.value (.func f),xs.toArray,ats⟩,ty,pos,af,gd⟩::rest) K s L)->p:=by
   intro y k1 k2;refine ab ?_;refine k2 ?_;intro x0 x1 x2 x3 x4 x5;refine ab ?_
   exact (k1 x0 x1 x2 x3 x4 x5).un)(hv:F2 s xs=some vs:=by exact rfl)(hl:Tk L pre re:=by
   apply Qy (by repeat (first|exact mG rfl|apply jB rfl|exact rfl))
   repeat (first|exact UR|apply UQ (by with_reducible repeat (first|apply FndD.w|apply FndD.s))|apply UT (by with_reducible repeat (first|apply FndD.w|apply FndD.s))|apply tkM (by with_reducible repeat (first|apply FndD.w|apply FndD.s))|apply tkR (by with_reducible repeat (first|apply FndD.w|apply FndD.s))|apply US (by with_reducible repeat (first|apply FndC.w|apply FndC.s))))(hn:fc ⟨some d,.call ⟨.value (.func f),xs.toArray,ats⟩,ty,pos,af,gd⟩=true:=by rfl)(hg:aD ops s ⟨some d,.call ⟨.value (.func f),xs.toArray,ats⟩,ty,pos,af,gd⟩=some true:=by first|exact rfl|exact bW (by assumption) rfl|exact cL (by assumption) rfl)(hd:Nat.ble (d+1) nn=true:=by rfl):p:=by
 obtain ⟨y,hy,h⟩:=aa h
 refine hp y (fun x0 x1 x2 x3 x4 x5=>⟨k y x0 x1 x2 x3 x4 x5 h⟩) fun hq=>gD (dM (c y hy) hv hl) ?_ hn hg hd
 rintro _ _ ⟨_,⟨x0,x1,x2,x3,x4,x5,rfl,rfl⟩,rfl⟩;exact hq x0 x1 x2 x3 x4 x5
end
section
theorem lK {c:Code}(Fam:Nat->bH->W6->Prop)(m0:Nat)(k:∀m s2 L2,Fam (m+1) s2 L2->Wq X c (nx (fun s' L'=> ∃m' s3 L3,m'<m+1/\Fam m' s3 L3/\AV s' s3/\Cv L' L3) K) s2 L2)(he:∃s2 L2,Fam m0 s2 L2/\AV s s2/\Cv L L2:=by
   apply VK
   repeat (apply Exists.intro)
   exact ⟨h,J,J⟩
   all_goals (try exact sA)
   all_goals (try apply PQ (by repeat (first|exact mG rfl|apply jB rfl|exact rfl)))
   all_goals (repeat (first|exact UF|apply UE (by with_reducible repeat (first|apply FndD.w|apply FndD.s))|apply UG (by with_reducible repeat (first|apply FndC.w|apply FndC.s))|apply cwF (by with_reducible repeat (first|apply FndC.w|apply FndC.s))|apply cwZ|apply cwY|exact ad _|apply UH)))(hz:∀s2 L2,Fam 0 s2 L2->False:=by
   intro s2 L2
   repeat (refine UZ ?_;intro _)
   intro h
   exact aU h.1):Wq X (.loop c) K s L:=by
 obtain ⟨s2,L2,h1,h2,h3⟩:=he
 refine kq Fam m0 s2 L2 h1 h2 h3 fun m s3 L3 h=> ?_
 cases m with
 |zero=>exact (hz _ _ h).elim
 |succ m=>exact k m _ _ h
theorem oo (k pd gc:Nat){c:Bool}{u v:Option Bool}{f:Bool->Option ρ}{r:ρ}(h:(bif c then u else v).bind f=some r)(h1:∀b,c=true->u=some b->bj X ops (l.take k) (ve ((pd,.bool b)::s) L) s L)(k2:∀b,f b=some r->bj X ops (l.drop k) K ((pd,.bool b)::s) L)(hc:jH s gc=some (.bool c):=by exact rfl)(h2:∀b,c=false->v=some b->bj X ops (l.take k) (ve ((pd,.bool b)::s) L) s L:=by
   intro b g h
   exact gY):bj X ops l K s L:=JJ k pd gc h h1 h2 k2 hc
theorem xc (k pd gc:Nat){c:Bool}{u v:Option Bool}{f:Bool->Option ρ}{r:ρ}(h:(bif c then u else v).bind f=some r)(h2:∀b,c=false->v=some b->bj X ops (l.take k) (ve ((pd,.bool b)::s) L) s L)(k2:∀b,f b=some r->bj X ops (l.drop k) K ((pd,.bool b)::s) L)(hc:jH s gc=some (.bool c):=by exact rfl)(h1:∀b,c=true->u=some b->bj X ops (l.take k) (ve ((pd,.bool b)::s) L) s L:=by
   intro b g h
   exact gY):bj X ops l K s L:=JJ k pd gc h h1 h2 k2 hc
end
end
section
variable {A1 A2 A3 A4 A5:Option Addr}{B1 B6 M7 c1 c2 c3 c4 c5 n1 n2 n3 n4 n5:Nat}
open Go.RowKit Asn
set_option maxRecDepth 20000
structure WK where
 Za:Int
 N:Int
 S:ByteArray
 deriving DecidableEq,Inhabited
abbrev WW:=List WK
def ax:Rep WK:=.flat 3 (fun x=> [iV x.Za,iV x.N,.string x.S]) (fun _=>rfl) (fun _=>rfl)
structure WP where
 Za:Int
 N:Int
 S:ByteArray
 deriving DecidableEq,Inhabited
abbrev WV:=List WP
def sy:Rep WP:=.flat 3 (fun x=> [iV x.Za,iV x.N,.string x.S]) (fun _=>rfl) (fun _=>rfl)
structure WU where
 Has:Int
 Zd:Int
 Value:WK
 Zq:WK
 Zr:WK
 deriving DecidableEq,Inhabited
def OL:Rep WU:=.flat 11 (fun x=> [iV x.Has,iV x.Zd,iV x.Value.Za,iV x.Value.N,.string x.Value.S,iV x.Zq.Za,iV x.Zq.N,.string x.Zq.S,iV x.Zr.Za,iV x.Zr.N,.string x.Zr.S]) (fun _=>rfl) (fun _=>rfl)
structure WE where
 Za:Int
 N:Int
 K:WP
 D:WU
 V:WK
 deriving DecidableEq,Inhabited
def xX:Rep WE:=.flat 19 (fun x=> [iV x.Za,iV x.N,iV x.K.Za,iV x.K.N,.string x.K.S,iV x.D.Has,iV x.D.Zd,iV x.D.Value.Za,iV x.D.Value.N,.string x.D.Value.S,iV x.D.Zq.Za,iV x.D.Zq.N,.string x.D.Zq.S,iV x.D.Zr.Za,iV x.D.Zr.N,.string x.D.Zr.S,iV x.V.Za,iV x.V.N,.string x.V.S]) (fun _=>rfl) (fun _=>rfl)
structure WF where
 ZM:Int
 ZN:Int
 ZI:Int
 ZK:Int
 Zh:Int
 ZO:Int
 ZP:Int
 deriving DecidableEq,Inhabited
def OM:Rep WF:=.flat 7 (fun x=> [iV x.ZM,iV x.ZN,iV x.ZI,iV x.ZK,iV x.Zh,iV x.ZO,iV x.ZP]) (fun _=>rfl) (fun _=>rfl)
structure WT where
 at_:(List (Int×Bool))
 deriving DecidableEq,Inhabited
structure WI where
 Za:Int
 Zi:Int
 Ze:Int
 Zf:Int
 Zc:WW
 Zb:WW
 deriving DecidableEq,Inhabited
abbrev W5:=List WI
def jG:Rep WI where
 sz:=6
 rel S w vs x:= ∃A4 n4 c4 A5 n5 c5,vs=[iV x.Za,iV x.Zi,iV x.Ze,iV x.Zf,W A4 n4 c4,W A5 n5 c5]/\SlR ax S w (W A4 n4 c4) x.Zc/\SlR ax S w (W A5 n5 c5) x.Zb
 loc:=fun h ⟨_,_,_,_,_,_,e,h4,h5⟩=>⟨_,_,_,_,_,_,e,h4.loc h,h5.loc h⟩
 mono:=fun h ⟨_,_,_,_,_,_,e,h4,h5⟩=>⟨_,_,_,_,_,_,e,h4.mono h,h5.mono h⟩
 len:=fun ⟨_,_,_,_,_,_,e,_⟩=>by rw [e];rfl
 one:=fun ⟨_,_,_,_,_,_,e,_⟩=>by rw [e];rfl
theorem uc (x:WI):Qe jG x fun vs cs=> ∃A4 n4 c4 A5 n5 c5,vs=[iV x.Za,iV x.Zi,iV x.Ze,iV x.Zf,W A4 n4 c4,W A5 n5 c5]/\cs=[iI ax (W A4 n4 c4) x.Zc,iI ax (W A5 n5 c5) x.Zb]:=fun S w vs ⟨_,_,_,_,_,_,e,h4,h5⟩=>⟨_,⟨_,_,_,_,_,_,e,rfl⟩,t5 h4 (t5 h5 (aw))⟩
structure WO where
 Zh:W5
 Zj:W5
 deriving DecidableEq,Inhabited
structure WN where
 m_:WO
 Zt:WW
 Zv:WW
 Zw:WT
 deriving DecidableEq,Inhabited
structure WQ where
 Up:Int
 Zg:WP
 Zd:Int
 ZC:Int
 deriving DecidableEq,Inhabited
def bC:Rep WQ:=.flat 6 (fun x=> [iV x.Up,iV x.Zg.Za,iV x.Zg.N,.string x.Zg.S,iV x.Zd,iV x.ZC]) (fun _=>rfl) (fun _=>rfl)
structure WM where
 ZT:Int
 ZQ:WP
 ZU:Int
 deriving DecidableEq,Inhabited
def SO:Rep WM:=.flat 5 (fun x=> [iV x.ZT,iV x.ZQ.Za,iV x.ZQ.N,.string x.ZQ.S,iV x.ZU]) (fun _=>rfl) (fun _=>rfl)
structure WG where
 Zp:(List WQ)
 ZD:(List (WM×Int))
 deriving DecidableEq,Inhabited
structure WS where
 ZR:Int
 ZL:Int
 ZS:Int
 deriving DecidableEq,Inhabited
def QF:Rep WS:=.flat 3 (fun x=> [iV x.ZR,iV x.ZL,iV x.ZS]) (fun _=>rfl) (fun _=>rfl)
structure WC where
 Za:Int
 Zg:WP
 S:ByteArray
 deriving DecidableEq,Inhabited
def nF:Rep WC:=.flat 5 (fun x=> [iV x.Za,iV x.Zg.Za,iV x.Zg.N,.string x.Zg.S,.string x.S]) (fun _=>rfl) (fun _=>rfl)
structure WH where
 ZB:WS
 Zu:WF
 ZV:Unit
 Zo:WN
 Zp:WG
 Zy:(List ByteArray)
 ZE:Int
 ZF:Int
 ZG:Int
 Zz:(List WC)
 ZA:(List ByteArray)
 deriving DecidableEq,Inhabited
structure WD where
 Zn:WI
 w_:WH
 at_:WK
 deriving DecidableEq,Inhabited
structure WJ where
 Zg:WP
 Zd:Int
 Value:WK
 Zq:WK
 Zr:WK
 deriving DecidableEq,Inhabited
def ir:Rep WJ:=.flat 13 (fun x=> [iV x.Zg.Za,iV x.Zg.N,.string x.Zg.S,iV x.Zd,iV x.Value.Za,iV x.Value.N,.string x.Value.S,iV x.Zq.Za,iV x.Zq.N,.string x.Zq.S,iV x.Zr.Za,iV x.Zr.N,.string x.Zr.S]) (fun _=>rfl) (fun _=>rfl)
structure WL where
 Ext:Bool
 Zs:Bool
 Zk:WW
 Zm:(List WJ)
 deriving DecidableEq,Inhabited
structure WR where
 m_:WO
 Zx:W4
 ZJ:(List (Int×Unit))
 ZH:Int
 deriving DecidableEq,Inhabited
abbrev bf (A:Option Addr)(n c:Nat):=bc ax 28 (.slice A n c)
abbrev aX (A:Option Addr)(n c:Nat):=iI ax (.slice A n c)
abbrev iE (A:Option Addr)(n c:Nat):=iI jG (.slice A n c)
abbrev nZ (A:Option Addr)(n c:Nat):=bc sy 39 (.slice A n c)
abbrev iF (A:Option Addr)(n c:Nat):=bc jG 94 (.slice A n c)
abbrev ux (A:Option Addr)(n c:Nat):=iI ir (.slice A n c)
abbrev pG (A:Option Addr)(n c:Nat):=bc sJ 9 (.slice A n c)
abbrev uA (A:Option Addr)(n c:Nat):=bc (nE .i64) 3 (.slice A n c)
abbrev xz (A:Option Addr)(n c:Nat):=iI (nE .i64) (.slice A n c)
abbrev AI (A:Option Addr)(n c:Nat):=bc nF 309 (.slice A n c)
abbrev KY (A:Option Addr)(n c:Nat):=iI sy (.slice A n c)
abbrev Uy (x:WE):Value:=.agg #[iV x.Za,iV x.N,iV x.K.Za,iV x.K.N,.string x.K.S,iV x.D.Has,iV x.D.Zd,iV x.D.Value.Za,iV x.D.Value.N,.string x.D.Value.S,iV x.D.Zq.Za,iV x.D.Zq.N,.string x.D.Zq.S,iV x.D.Zr.Za,iV x.D.Zr.N,.string x.D.Zr.S,iV x.V.Za,iV x.V.N,.string x.V.S]
abbrev FR (x:WF):Value:=.agg #[iV x.ZM,iV x.ZN,iV x.ZI,iV x.ZK,iV x.Zh,iV x.ZO,iV x.ZP]
abbrev fW (x:WU):Value:=.agg #[iV x.Has,iV x.Zd,iV x.Value.Za,iV x.Value.N,.string x.Value.S,iV x.Zq.Za,iV x.Zq.N,.string x.Zq.S,iV x.Zr.Za,iV x.Zr.N,.string x.Zr.S]
abbrev eW (x:WP):Value:=.agg #[iV x.Za,iV x.N,.string x.S]
abbrev cG (x:WJ):Value:=.agg #[iV x.Zg.Za,iV x.Zg.N,.string x.Zg.S,iV x.Zd,iV x.Value.Za,iV x.Value.N,.string x.Value.S,iV x.Zq.Za,iV x.Zq.N,.string x.Zq.S,iV x.Zr.Za,iV x.Zr.N,.string x.Zr.S]
abbrev Rk (x:WQ):Value:=.agg #[iV x.Up,iV x.Zg.Za,iV x.Zg.N,.string x.Zg.S,iV x.Zd,iV x.ZC]
abbrev Pn (x:WM):Value:=.agg #[iV x.ZT,iV x.ZQ.Za,iV x.ZQ.N,.string x.ZQ.S,iV x.ZU]
abbrev aE (x:WK):Value:=.agg #[iV x.Za,iV x.N,.string x.S]
abbrev Mf (x:WE):W7:=[iV x.Za,iV x.N,iV x.K.Za,iV x.K.N,.string x.K.S,iV x.D.Has,iV x.D.Zd,iV x.D.Value.Za,iV x.D.Value.N,.string x.D.Value.S,iV x.D.Zq.Za,iV x.D.Zq.N,.string x.D.Zq.S,iV x.D.Zr.Za,iV x.D.Zr.N,.string x.D.Zr.S,iV x.V.Za,iV x.V.N,.string x.V.S]
abbrev iy (x:WU):W7:=[iV x.Has,iV x.Zd,iV x.Value.Za,iV x.Value.N,.string x.Value.S,iV x.Zq.Za,iV x.Zq.N,.string x.Zq.S,iV x.Zr.Za,iV x.Zr.N,.string x.Zr.S]
abbrev ls (x:WP):W7:=[iV x.Za,iV x.N,.string x.S]
abbrev cm (x:WJ):W7:=[iV x.Zg.Za,iV x.Zg.N,.string x.Zg.S,iV x.Zd,iV x.Value.Za,iV x.Value.N,.string x.Value.S,iV x.Zq.Za,iV x.Zq.N,.string x.Zq.S,iV x.Zr.Za,iV x.Zr.N,.string x.Zr.S]
abbrev Et (x:WQ):W7:=[iV x.Up,iV x.Zg.Za,iV x.Zg.N,.string x.Zg.S,iV x.Zd,iV x.ZC]
abbrev bS (x:WK):W7:=[iV x.Za,iV x.N,.string x.S]
abbrev Ac (x:WH)(b d:Nat)(A:Option Addr)(n c:Nat)(A2:Option Addr)(n2 c2:Nat)(A3:Option Addr)(n3 c3:Nat):W7:=[iV x.ZB.ZR,iV x.ZB.ZL,iV x.ZB.ZS,iV x.Zu.ZM,iV x.Zu.ZN,iV x.Zu.ZI,iV x.Zu.ZK,iV x.Zu.Zh,iV x.Zu.ZO,iV x.Zu.ZP,.nilIface,pV b 0,pV d 0,.slice A n c,iV x.ZE,iV x.ZF,iV x.ZG,W A2 n2 c2,W A3 n3 c3]
instance call85:FcK W8 85:=⟨⟨Tryz.f85,Tryz.func85,rfl,rfl⟩⟩
instance call159:FcK W8 159:=⟨⟨Tryz.f159,Tryz.func159,rfl,rfl⟩⟩
instance call163:FcK W8 163:=⟨⟨Tryz.f163,Tryz.func163,rfl,rfl⟩⟩
instance call167:FcK W8 167:=⟨⟨Tryz.f167,Tryz.func167,rfl,rfl⟩⟩
instance call197:FcK W8 197:=⟨⟨Tryz.f197,Tryz.func197,rfl,rfl⟩⟩
instance call199:FcK W8 199:=⟨⟨Tryz.f199,Tryz.func199,rfl,rfl⟩⟩
instance call204:FcK W8 204:=⟨⟨Tryz.f204,Tryz.func204,rfl,rfl⟩⟩
instance call221:FcK W8 221:=⟨⟨Tryz.f221,Tryz.func221,rfl,rfl⟩⟩
instance call229:FcK W8 229:=⟨⟨Tryz.f229,Tryz.func229,rfl,rfl⟩⟩
theorem ta (b o:Nat)(w:World):(Instr.fieldAt 28 (pV b o) 0).run W8 w=.ok (pV b o) w:=by kernel_rfl
theorem Mr (b o:Nat)(w:World):(Instr.fieldAt 28 (pV b o) 1).run W8 w=.ok (.pointer (some ⟨b,o+1,none⟩)) w:=by kernel_rfl
theorem RU (b o:Nat)(w:World):(Instr.fieldAt 28 (pV b o) 2).run W8 w=.ok (.pointer (some ⟨b,o+2,none⟩)) w:=by kernel_rfl
theorem Mq (b o:Nat)(w:World):(Instr.fieldAt 35 (pV b o) 0).run W8 w=.ok (pV b o) w:=by kernel_rfl
theorem RT (b o:Nat)(w:World):(Instr.fieldAt 35 (pV b o) 1).run W8 w=.ok (.pointer (some ⟨b,o+1,none⟩)) w:=by kernel_rfl
theorem IA (b o:Nat)(w:World):(Instr.fieldAt 35 (pV b o) 2).run W8 w=.ok (.pointer (some ⟨b,o+2,none⟩)) w:=by kernel_rfl
theorem RS (b o:Nat)(w:World):(Instr.fieldAt 35 (pV b o) 3).run W8 w=.ok (.pointer (some ⟨b,o+3,none⟩)) w:=by kernel_rfl
theorem Cm (b o:Nat)(w:World):(Instr.fieldAt 39 (pV b o) 0).run W8 w=.ok (pV b o) w:=by kernel_rfl
theorem zo (b o:Nat)(w:World):(Instr.fieldAt 39 (pV b o) 1).run W8 w=.ok (.pointer (some ⟨b,o+1,none⟩)) w:=by kernel_rfl
theorem RR (b o:Nat)(w:World):(Instr.fieldAt 39 (pV b o) 2).run W8 w=.ok (.pointer (some ⟨b,o+2,none⟩)) w:=by kernel_rfl
theorem RQ (b o:Nat)(w:World):(Instr.fieldAt 41 (pV b o) 0).run W8 w=.ok (pV b o) w:=by kernel_rfl
theorem Mo (b o:Nat)(w:World):(Instr.fieldAt 41 (pV b o) 1).run W8 w=.ok (.pointer (some ⟨b,o+1,none⟩)) w:=by kernel_rfl
theorem RP (b o:Nat)(w:World):(Instr.fieldAt 41 (pV b o) 2).run W8 w=.ok (.pointer (some ⟨b,o+2,none⟩)) w:=by kernel_rfl
theorem RO (b o:Nat)(w:World):(Instr.fieldAt 41 (pV b o) 3).run W8 w=.ok (.pointer (some ⟨b,o+5,none⟩)) w:=by kernel_rfl
theorem Mn (b o:Nat)(w:World):(Instr.fieldAt 41 (pV b o) 4).run W8 w=.ok (.pointer (some ⟨b,o+8,none⟩)) w:=by kernel_rfl
theorem RN (b o:Nat)(w:World):(Instr.fieldAt 43 (pV b o) 0).run W8 w=.ok (pV b o) w:=by kernel_rfl
theorem RM (b o:Nat)(w:World):(Instr.fieldAt 43 (pV b o) 1).run W8 w=.ok (.pointer (some ⟨b,o+1,none⟩)) w:=by kernel_rfl
theorem RL (b o:Nat)(w:World):(Instr.fieldAt 43 (pV b o) 2).run W8 w=.ok (.pointer (some ⟨b,o+2,none⟩)) w:=by kernel_rfl
theorem RJ (b o:Nat)(w:World):(Instr.fieldAt 43 (pV b o) 3).run W8 w=.ok (.pointer (some ⟨b,o+5,none⟩)) w:=by kernel_rfl
theorem RI (b o:Nat)(w:World):(Instr.fieldAt 43 (pV b o) 4).run W8 w=.ok (.pointer (some ⟨b,o+16,none⟩)) w:=by kernel_rfl
theorem Iz (b o:Nat)(w:World):(Instr.fieldAt 50 (pV b o) 0).run W8 w=.ok (pV b o) w:=by kernel_rfl
theorem Mm (b o:Nat)(w:World):(Instr.fieldAt 50 (pV b o) 1).run W8 w=.ok (.pointer (some ⟨b,o+3,none⟩)) w:=by kernel_rfl
theorem RH (b o:Nat)(w:World):(Instr.fieldAt 50 (pV b o) 2).run W8 w=.ok (.pointer (some ⟨b,o+4,none⟩)) w:=by kernel_rfl
theorem RG (b o:Nat)(w:World):(Instr.fieldAt 50 (pV b o) 3).run W8 w=.ok (.pointer (some ⟨b,o+7,none⟩)) w:=by kernel_rfl
theorem RF (b o:Nat)(w:World):(Instr.fieldAt 50 (pV b o) 4).run W8 w=.ok (.pointer (some ⟨b,o+10,none⟩)) w:=by kernel_rfl
theorem RE (b o:Nat)(w:World):(Instr.fieldAt 69 (pV b o) 0).run W8 w=.ok (pV b o) w:=by kernel_rfl
theorem RD (b o:Nat)(w:World):(Instr.fieldAt 69 (pV b o) 1).run W8 w=.ok (.pointer (some ⟨b,o+1,none⟩)) w:=by kernel_rfl
theorem RC (b o:Nat)(w:World):(Instr.fieldAt 69 (pV b o) 2).run W8 w=.ok (.pointer (some ⟨b,o+2,none⟩)) w:=by kernel_rfl
theorem Rz (b o:Nat)(w:World):(Instr.fieldAt 69 (pV b o) 3).run W8 w=.ok (.pointer (some ⟨b,o+3,none⟩)) w:=by kernel_rfl
theorem Ry (b o:Nat)(w:World):(Instr.fieldAt 69 (pV b o) 4).run W8 w=.ok (.pointer (some ⟨b,o+4,none⟩)) w:=by kernel_rfl
theorem Rx (b o:Nat)(w:World):(Instr.fieldAt 69 (pV b o) 5).run W8 w=.ok (.pointer (some ⟨b,o+5,none⟩)) w:=by kernel_rfl
theorem Rw (b o:Nat)(w:World):(Instr.fieldAt 69 (pV b o) 6).run W8 w=.ok (.pointer (some ⟨b,o+6,none⟩)) w:=by kernel_rfl
theorem Rv (b o:Nat)(w:World):(Instr.fieldAt 73 (pV b o) 1).run W8 w=.ok (.pointer (some ⟨b,o+1,none⟩)) w:=by kernel_rfl
theorem Ru (b o:Nat)(w:World):(Instr.fieldAt 81 (pV b o) 0).run W8 w=.ok (pV b o) w:=by kernel_rfl
theorem Rt (b o:Nat)(w:World):(Instr.fieldAt 81 (pV b o) 1).run W8 w=.ok (.pointer (some ⟨b,o+3,none⟩)) w:=by kernel_rfl
theorem Rs (b o:Nat)(w:World):(Instr.fieldAt 81 (pV b o) 3).run W8 w=.ok (.pointer (some ⟨b,o+11,none⟩)) w:=by kernel_rfl
theorem Rr (b o:Nat)(w:World):(Instr.fieldAt 81 (pV b o) 4).run W8 w=.ok (.pointer (some ⟨b,o+12,none⟩)) w:=by kernel_rfl
theorem Rq (b o:Nat)(w:World):(Instr.fieldAt 81 (pV b o) 6).run W8 w=.ok (.pointer (some ⟨b,o+14,none⟩)) w:=by kernel_rfl
theorem Rp (b o:Nat)(w:World):(Instr.fieldAt 94 (pV b o) 0).run W8 w=.ok (pV b o) w:=by kernel_rfl
theorem Rn (b o:Nat)(w:World):(Instr.fieldAt 94 (pV b o) 1).run W8 w=.ok (.pointer (some ⟨b,o+1,none⟩)) w:=by kernel_rfl
theorem Ml (b o:Nat)(w:World):(Instr.fieldAt 94 (pV b o) 2).run W8 w=.ok (.pointer (some ⟨b,o+2,none⟩)) w:=by kernel_rfl
theorem sX (b o:Nat)(w:World):(Instr.fieldAt 94 (pV b o) 3).run W8 w=.ok (.pointer (some ⟨b,o+3,none⟩)) w:=by kernel_rfl
theorem Iy (b o:Nat)(w:World):(Instr.fieldAt 94 (pV b o) 4).run W8 w=.ok (.pointer (some ⟨b,o+4,none⟩)) w:=by kernel_rfl
theorem wO (b o:Nat)(w:World):(Instr.fieldAt 94 (pV b o) 5).run W8 w=.ok (.pointer (some ⟨b,o+5,none⟩)) w:=by kernel_rfl
theorem F1 (b o:Nat)(w:World):(Instr.fieldAt 121 (pV b o) 0).run W8 w=.ok (pV b o) w:=by kernel_rfl
theorem Px (b o:Nat)(w:World):(Instr.fieldAt 121 (pV b o) 1).run W8 w=.ok (.pointer (some ⟨b,o+1,none⟩)) w:=by kernel_rfl
theorem F0 (b o:Nat)(w:World):(Instr.fieldAt 124 (pV b o) 0).run W8 w=.ok (pV b o) w:=by kernel_rfl
theorem FZ (b o:Nat)(w:World):(Instr.fieldAt 124 (pV b o) 1).run W8 w=.ok (.pointer (some ⟨b,o+2,none⟩)) w:=by kernel_rfl
theorem Pw (b o:Nat)(w:World):(Instr.fieldAt 124 (pV b o) 2).run W8 w=.ok (.pointer (some ⟨b,o+3,none⟩)) w:=by kernel_rfl
theorem Pv (b o:Nat)(w:World):(Instr.fieldAt 124 (pV b o) 3).run W8 w=.ok (.pointer (some ⟨b,o+4,none⟩)) w:=by kernel_rfl
theorem JQ (b o:Nat)(w:World):(Instr.fieldAt 135 (pV b o) 0).run W8 w=.ok (pV b o) w:=by kernel_rfl
theorem JP (b o:Nat)(w:World):(Instr.fieldAt 135 (pV b o) 1).run W8 w=.ok (.pointer (some ⟨b,o+6,none⟩)) w:=by kernel_rfl
theorem Pu (b o:Nat)(w:World):(Instr.fieldAt 135 (pV b o) 2).run W8 w=.ok (.pointer (some ⟨b,o+7,none⟩)) w:=by kernel_rfl
theorem FY (b o:Nat)(w:World):(Instr.fieldAt 166 (pV b o) 0).run W8 w=.ok (pV b o) w:=by kernel_rfl
theorem FX (b o:Nat)(w:World):(Instr.fieldAt 166 (pV b o) 1).run W8 w=.ok (.pointer (some ⟨b,o+1,none⟩)) w:=by kernel_rfl
theorem Co (b o:Nat)(w:World):(Instr.fieldAt 166 (pV b o) 2).run W8 w=.ok (.pointer (some ⟨b,o+4,none⟩)) w:=by kernel_rfl
theorem FW (b o:Nat)(w:World):(Instr.fieldAt 166 (pV b o) 3).run W8 w=.ok (.pointer (some ⟨b,o+5,none⟩)) w:=by kernel_rfl
theorem Cn (b o:Nat)(w:World):(Instr.fieldAt 170 (pV b o) 0).run W8 w=.ok (pV b o) w:=by kernel_rfl
theorem Pt (b o:Nat)(w:World):(Instr.fieldAt 170 (pV b o) 1).run W8 w=.ok (.pointer (some ⟨b,o+1,none⟩)) w:=by kernel_rfl
theorem Ps (b o:Nat)(w:World):(Instr.fieldAt 213 (pV b o) 0).run W8 w=.ok (pV b o) w:=by kernel_rfl
theorem JO (b o:Nat)(w:World):(Instr.fieldAt 249 (pV b o) 0).run W8 w=.ok (pV b o) w:=by kernel_rfl
theorem FV (b o:Nat)(w:World):(Instr.fieldAt 249 (pV b o) 1).run W8 w=.ok (.pointer (some ⟨b,o+2,none⟩)) w:=by kernel_rfl
theorem Pr (b o:Nat)(w:World):(Instr.fieldAt 249 (pV b o) 2).run W8 w=.ok (.pointer (some ⟨b,o+3,none⟩)) w:=by kernel_rfl
theorem JN (b o:Nat)(w:World):(Instr.fieldAt 249 (pV b o) 3).run W8 w=.ok (.pointer (some ⟨b,o+4,none⟩)) w:=by kernel_rfl
theorem rR:iw W8 3=true:=by kernel_rfl
theorem Uq:iw W8 4=true:=by kernel_rfl
theorem Vh:iw W8 9=true:=by kernel_rfl
theorem sC:iw W8 22=true:=by kernel_rfl
theorem Us:iw W8 26=true:=by kernel_rfl
theorem So:iw W8 29=true:=by kernel_rfl
theorem Ur:iw W8 33=true:=by kernel_rfl
theorem Uo:iw W8 47=true:=by kernel_rfl
theorem Fq:iw W8 76=true:=by kernel_rfl
theorem Un:iw W8 77=true:=by kernel_rfl
theorem KP:iw W8 119=true:=by kernel_rfl
theorem SX:iw W8 122=true:=by kernel_rfl
theorem KO:iw W8 144=true:=by kernel_rfl
theorem KN:iw W8 167=true:=by kernel_rfl
theorem SW:iw W8 168=true:=by kernel_rfl
theorem KM:iw W8 182=true:=by kernel_rfl
theorem SV:iw W8 211=true:=by kernel_rfl
theorem SU:iw W8 245=true:=by kernel_rfl
theorem ST:iw W8 247=true:=by kernel_rfl
instance agg28:FcG W8 28 3:=⟨by kernel_rfl⟩
instance agg35:FcG W8 35 4:=⟨by kernel_rfl⟩
instance agg39:FcG W8 39 3:=⟨by kernel_rfl⟩
instance agg41:FcG W8 41 11:=⟨by kernel_rfl⟩
instance agg43:FcG W8 43 19:=⟨by kernel_rfl⟩
instance agg50:FcG W8 50 13:=⟨by kernel_rfl⟩
instance agg69:FcG W8 69 7:=⟨by kernel_rfl⟩
instance agg94:FcG W8 94 6:=⟨by kernel_rfl⟩
instance agg121:FcG W8 121 2:=⟨by kernel_rfl⟩
instance agg166:FcG W8 166 6:=⟨by kernel_rfl⟩
instance size3:FcZ W8 3 1:=⟨by kernel_rfl⟩
instance size4:FcZ W8 4 1:=⟨by kernel_rfl⟩
instance size22:FcZ W8 22 1:=⟨by kernel_rfl⟩
instance size28:FcZ W8 28 3:=⟨by kernel_rfl⟩
instance size33:FcZ W8 33 1:=⟨by kernel_rfl⟩
instance size35:FcZ W8 35 4:=⟨by kernel_rfl⟩
instance size39:FcZ W8 39 3:=⟨by kernel_rfl⟩
instance size41:FcZ W8 41 11:=⟨by kernel_rfl⟩
instance size43:FcZ W8 43 19:=⟨by kernel_rfl⟩
instance size47:FcZ W8 47 1:=⟨by kernel_rfl⟩
instance size50:FcZ W8 50 13:=⟨by kernel_rfl⟩
instance size94:FcZ W8 94 6:=⟨by kernel_rfl⟩
instance size119:FcZ W8 119 1:=⟨by kernel_rfl⟩
instance size121:FcZ W8 121 2:=⟨by kernel_rfl⟩
instance size144:FcZ W8 144 1:=⟨by kernel_rfl⟩
instance size166:FcZ W8 166 6:=⟨by kernel_rfl⟩
instance size167:FcZ W8 167 1:=⟨by kernel_rfl⟩
instance size182:FcZ W8 182 1:=⟨by kernel_rfl⟩
instance size211:FcZ W8 211 1:=⟨by kernel_rfl⟩
instance size245:FcZ W8 245 1:=⟨by kernel_rfl⟩
instance size278:FcZ W8 278 0:=⟨by kernel_rfl⟩
instance zero3:FcI W8 3 (iV 0):=⟨fun w=>by kernel_rfl⟩
instance zero4:FcI W8 4 (.bool false):=⟨fun w=>by kernel_rfl⟩
instance zero22:FcI W8 22 (W none 0 0):=⟨fun w=>by kernel_rfl⟩
instance zero28:FcI W8 28 (.agg #[iV 0,iV 0,.string ⟨#[]⟩]):=⟨fun w=>by kernel_rfl⟩
instance zero35:FcI W8 35 (.agg #[.bool false,.bool false,W none 0 0,W none 0 0]):=⟨fun w=>by kernel_rfl⟩
instance zero39:FcI W8 39 (.agg #[iV 0,iV 0,.string ⟨#[]⟩]):=⟨fun w=>by kernel_rfl⟩
instance zero41:FcI W8 41 (.agg #[iV 0,iV 0,iV 0,iV 0,.string ⟨#[]⟩,iV 0,iV 0,.string ⟨#[]⟩,iV 0,iV 0,.string ⟨#[]⟩]):=⟨fun w=>by kernel_rfl⟩
instance zero43:FcI W8 43 (.agg #[iV 0,iV 0,iV 0,iV 0,.string ⟨#[]⟩,iV 0,iV 0,iV 0,iV 0,.string ⟨#[]⟩,iV 0,iV 0,.string ⟨#[]⟩,iV 0,iV 0,.string ⟨#[]⟩,iV 0,iV 0,.string ⟨#[]⟩]):=⟨fun w=>by kernel_rfl⟩
instance zero47:FcI W8 47 (W none 0 0):=⟨fun w=>by kernel_rfl⟩
instance zero50:FcI W8 50 (.agg #[iV 0,iV 0,.string ⟨#[]⟩,iV 0,iV 0,iV 0,.string ⟨#[]⟩,iV 0,iV 0,.string ⟨#[]⟩,iV 0,iV 0,.string ⟨#[]⟩]):=⟨fun w=>by kernel_rfl⟩
instance zero94:FcI W8 94 (.agg #[iV 0,iV 0,iV 0,iV 0,W none 0 0,W none 0 0]):=⟨fun w=>by kernel_rfl⟩
instance zero121:FcI W8 121 (.agg #[W none 0 0,W none 0 0]):=⟨fun w=>by kernel_rfl⟩
instance zero144:FcI W8 144 (W none 0 0):=⟨fun w=>by kernel_rfl⟩
instance zero166:FcI W8 166 (.agg #[iV 0,iV 0,iV 0,.string ⟨#[]⟩,iV 0,iV 0]):=⟨fun w=>by kernel_rfl⟩
instance zero182:FcI W8 182 (.map none):=⟨fun w=>by kernel_rfl⟩
instance zero211:FcI W8 211 (.map none):=⟨fun w=>by kernel_rfl⟩
instance zero245:FcI W8 245 (.pointer none):=⟨fun w=>by kernel_rfl⟩
instance zero278:FcI W8 278 (.agg #[]):=⟨fun w=>by kernel_rfl⟩
theorem Pp (x0_ x1_ x2_ x3_:Int)(x4_a:Option Addr)(x4_n x4_c:Nat)(x5_a:Option Addr)(x5_n x5_c:Nat)(w:World):(Instr.field 94 (.agg #[iV x0_,iV x1_,iV x2_,iV x3_,.slice x4_a x4_n x4_c,.slice x5_a x5_n x5_c]) 0).run W8 w=.ok (iV x0_) w:=by kernel_rfl
instance bld_28_:FcB W8 28 [] (.agg #[iV 0,iV 0,.string ⟨#[]⟩]):=⟨fun w=>by kernel_rfl⟩
instance bld_28_0 (x0_:Int):FcB W8 28 [(0,iV x0_)] (.agg #[iV x0_,iV 0,.string ⟨#[]⟩]):=⟨fun w=>by kernel_rfl⟩
instance bld_28_0_1 (x0_ x1_:Int):FcB W8 28 [(0,iV x0_),(1,iV x1_)] (.agg #[iV x0_,iV x1_,.string ⟨#[]⟩]):=⟨fun w=>by kernel_rfl⟩
instance bld_35_0_2 (x0_:Bool)(x2_a:Option Addr)(x2_n x2_c:Nat):FcB W8 35 [(0,.bool x0_),(2,.slice x2_a x2_n x2_c)] (.agg #[.bool x0_,.bool false,.slice x2_a x2_n x2_c,W none 0 0]):=⟨fun w=>by kernel_rfl⟩
instance bld_39_0_1 (x0_ x1_:Int):FcB W8 39 [(0,iV x0_),(1,iV x1_)] (.agg #[iV x0_,iV x1_,.string ⟨#[]⟩]):=⟨fun w=>by kernel_rfl⟩
instance bld_39_0_2 (x0_:Int)(x2_:ByteArray):FcB W8 39 [(0,iV x0_),(2,.string x2_)] (.agg #[iV x0_,iV 0,.string x2_]):=⟨fun w=>by kernel_rfl⟩
instance bld_39_1 (x1_:Int):FcB W8 39 [(1,iV x1_)] (.agg #[iV 0,iV x1_,.string ⟨#[]⟩]):=⟨fun w=>by kernel_rfl⟩
instance bld_41_0_1_2 (x0_ x1_ x2_0_ x2_1_:Int)(x2_2_:ByteArray):FcB W8 41 [(0,iV x0_),(1,iV x1_),(2,.agg #[iV x2_0_,iV x2_1_,.string x2_2_])] (.agg #[iV x0_,iV x1_,iV x2_0_,iV x2_1_,.string x2_2_,iV 0,iV 0,.string ⟨#[]⟩,iV 0,iV 0,.string ⟨#[]⟩]):=⟨fun w=>by kernel_rfl⟩
instance bld_41_0_1_3_4 (x0_ x1_ x3_0_ x3_1_:Int)(x3_2_:ByteArray)(x4_0_ x4_1_:Int)(x4_2_:ByteArray):FcB W8 41 [(0,iV x0_),(1,iV x1_),(3,.agg #[iV x3_0_,iV x3_1_,.string x3_2_]),(4,.agg #[iV x4_0_,iV x4_1_,.string x4_2_])] (.agg #[iV x0_,iV x1_,iV 0,iV 0,.string ⟨#[]⟩,iV x3_0_,iV x3_1_,.string x3_2_,iV x4_0_,iV x4_1_,.string x4_2_]):=⟨fun w=>by kernel_rfl⟩
instance bld_50_:FcB W8 50 [] (.agg #[iV 0,iV 0,.string ⟨#[]⟩,iV 0,iV 0,iV 0,.string ⟨#[]⟩,iV 0,iV 0,.string ⟨#[]⟩,iV 0,iV 0,.string ⟨#[]⟩]):=⟨fun w=>by kernel_rfl⟩
instance bld_50_0 (x0_0_ x0_1_:Int)(x0_2_:ByteArray):FcB W8 50 [(0,.agg #[iV x0_0_,iV x0_1_,.string x0_2_])] (.agg #[iV x0_0_,iV x0_1_,.string x0_2_,iV 0,iV 0,iV 0,.string ⟨#[]⟩,iV 0,iV 0,.string ⟨#[]⟩,iV 0,iV 0,.string ⟨#[]⟩]):=⟨fun w=>by kernel_rfl⟩
instance bld_50_0_1 (x0_0_ x0_1_:Int)(x0_2_:ByteArray)(x1_:Int):FcB W8 50 [(0,.agg #[iV x0_0_,iV x0_1_,.string x0_2_]),(1,iV x1_)] (.agg #[iV x0_0_,iV x0_1_,.string x0_2_,iV x1_,iV 0,iV 0,.string ⟨#[]⟩,iV 0,iV 0,.string ⟨#[]⟩,iV 0,iV 0,.string ⟨#[]⟩]):=⟨fun w=>by kernel_rfl⟩
instance bld_50_0_1_2 (x0_0_ x0_1_:Int)(x0_2_:ByteArray)(x1_ x2_0_ x2_1_:Int)(x2_2_:ByteArray):FcB W8 50 [(0,.agg #[iV x0_0_,iV x0_1_,.string x0_2_]),(1,iV x1_),(2,.agg #[iV x2_0_,iV x2_1_,.string x2_2_])] (.agg #[iV x0_0_,iV x0_1_,.string x0_2_,iV x1_,iV x2_0_,iV x2_1_,.string x2_2_,iV 0,iV 0,.string ⟨#[]⟩,iV 0,iV 0,.string ⟨#[]⟩]):=⟨fun w=>by kernel_rfl⟩
instance bld_50_0_2 (x0_0_ x0_1_:Int)(x0_2_:ByteArray)(x2_0_ x2_1_:Int)(x2_2_:ByteArray):FcB W8 50 [(0,.agg #[iV x0_0_,iV x0_1_,.string x0_2_]),(2,.agg #[iV x2_0_,iV x2_1_,.string x2_2_])] (.agg #[iV x0_0_,iV x0_1_,.string x0_2_,iV 0,iV x2_0_,iV x2_1_,.string x2_2_,iV 0,iV 0,.string ⟨#[]⟩,iV 0,iV 0,.string ⟨#[]⟩]):=⟨fun w=>by kernel_rfl⟩
instance bld_69_1_2_3 (x1_ x2_ x3_:Int):FcB W8 69 [(1,iV x1_),(2,iV x2_),(3,iV x3_)] (.agg #[iV 0,iV x1_,iV x2_,iV x3_,iV 0,iV 0,iV 0]):=⟨fun w=>by kernel_rfl⟩
instance bld_81_1_3_4 (x1_0_ x1_1_ x1_2_ x1_3_ x1_4_ x1_5_ x1_6_:Int)(x3_ x4_:Option Addr):FcB W8 81 [(1,.agg #[iV x1_0_,iV x1_1_,iV x1_2_,iV x1_3_,iV x1_4_,iV x1_5_,iV x1_6_]),(3,.pointer x3_),(4,.pointer x4_)] (.agg #[iV 0,iV 0,iV 0,iV x1_0_,iV x1_1_,iV x1_2_,iV x1_3_,iV x1_4_,iV x1_5_,iV x1_6_,.nilIface,.pointer x3_,.pointer x4_,W none 0 0,iV 0,iV 0,iV 0,W none 0 0,W none 0 0]):=⟨fun w=>by kernel_rfl⟩
instance bld_94_:FcB W8 94 [] (.agg #[iV 0,iV 0,iV 0,iV 0,W none 0 0,W none 0 0]):=⟨fun w=>by kernel_rfl⟩
instance bld_94_0 (x0_:Int):FcB W8 94 [(0,iV x0_)] (.agg #[iV x0_,iV 0,iV 0,iV 0,W none 0 0,W none 0 0]):=⟨fun w=>by kernel_rfl⟩
instance bld_94_0_2_4 (x0_ x2_:Int)(x4_a:Option Addr)(x4_n x4_c:Nat):FcB W8 94 [(0,iV x0_),(2,iV x2_),(4,.slice x4_a x4_n x4_c)] (.agg #[iV x0_,iV 0,iV x2_,iV 0,.slice x4_a x4_n x4_c,W none 0 0]):=⟨fun w=>by kernel_rfl⟩
instance bld_94_0_2_4_5 (x0_ x2_:Int)(x4_a:Option Addr)(x4_n x4_c:Nat)(x5_a:Option Addr)(x5_n x5_c:Nat):FcB W8 94 [(0,iV x0_),(2,iV x2_),(4,.slice x4_a x4_n x4_c),(5,.slice x5_a x5_n x5_c)] (.agg #[iV x0_,iV 0,iV x2_,iV 0,.slice x4_a x4_n x4_c,.slice x5_a x5_n x5_c]):=⟨fun w=>by kernel_rfl⟩
instance bld_94_0_4 (x0_:Int)(x4_a:Option Addr)(x4_n x4_c:Nat):FcB W8 94 [(0,iV x0_),(4,.slice x4_a x4_n x4_c)] (.agg #[iV x0_,iV 0,iV 0,iV 0,.slice x4_a x4_n x4_c,W none 0 0]):=⟨fun w=>by kernel_rfl⟩
instance bld_121_:FcB W8 121 [] (.agg #[W none 0 0,W none 0 0]):=⟨fun w=>by kernel_rfl⟩
instance bld_124_3 (x3_:Option Addr):FcB W8 124 [(3,.pointer x3_)] (.agg #[W none 0 0,W none 0 0,W none 0 0,W none 0 0,.pointer x3_]):=⟨fun w=>by kernel_rfl⟩
instance bld_135_0_1_2 (x0_0_ x0_1_ x0_2_ x0_3_:Int)(x0_4_a:Option Addr)(x0_4_n x0_4_c:Nat)(x0_5_a:Option Addr)(x0_5_n x0_5_c:Nat)(x1_:Option Addr)(x2_0_ x2_1_:Int)(x2_2_:ByteArray):FcB W8 135 [(0,.agg #[iV x0_0_,iV x0_1_,iV x0_2_,iV x0_3_,.slice x0_4_a x0_4_n x0_4_c,.slice x0_5_a x0_5_n x0_5_c]),(1,.pointer x1_),(2,.agg #[iV x2_0_,iV x2_1_,.string x2_2_])] (.agg #[iV x0_0_,iV x0_1_,iV x0_2_,iV x0_3_,.slice x0_4_a x0_4_n x0_4_c,.slice x0_5_a x0_5_n x0_5_c,.pointer x1_,iV x2_0_,iV x2_1_,.string x2_2_]):=⟨fun w=>by kernel_rfl⟩
instance bld_166_:FcB W8 166 [] (.agg #[iV 0,iV 0,iV 0,.string ⟨#[]⟩,iV 0,iV 0]):=⟨fun w=>by kernel_rfl⟩
instance bld_166_0 (x0_:Int):FcB W8 166 [(0,iV x0_)] (.agg #[iV x0_,iV 0,iV 0,.string ⟨#[]⟩,iV 0,iV 0]):=⟨fun w=>by kernel_rfl⟩
instance bld_166_0_1_2_3 (x0_ x1_0_ x1_1_:Int)(x1_2_:ByteArray)(x2_ x3_:Int):FcB W8 166 [(0,iV x0_),(1,.agg #[iV x1_0_,iV x1_1_,.string x1_2_]),(2,iV x2_),(3,iV x3_)] (.agg #[iV x0_,iV x1_0_,iV x1_1_,.string x1_2_,iV x2_,iV x3_]):=⟨fun w=>by kernel_rfl⟩
instance bld_166_1_2 (x1_0_ x1_1_:Int)(x1_2_:ByteArray)(x2_:Int):FcB W8 166 [(1,.agg #[iV x1_0_,iV x1_1_,.string x1_2_]),(2,iV x2_)] (.agg #[iV 0,iV x1_0_,iV x1_1_,.string x1_2_,iV x2_,iV 0]):=⟨fun w=>by kernel_rfl⟩
instance bld_170_0_1 (x0_a:Option Addr)(x0_n x0_c:Nat)(x1_:Option Nat):FcB W8 170 [(0,.slice x0_a x0_n x0_c),(1,.map x1_)] (.agg #[.slice x0_a x0_n x0_c,.map x1_]):=⟨fun w=>by kernel_rfl⟩
instance bld_213_0 (x0_:Option Nat):FcB W8 213 [(0,.map x0_)] (.agg #[.map x0_]):=⟨fun w=>by kernel_rfl⟩
instance bld_233_0_1_2 (x0_ x1_0_ x1_1_:Int)(x1_2_:ByteArray)(x2_:Int):FcB W8 233 [(0,iV x0_),(1,.agg #[iV x1_0_,iV x1_1_,.string x1_2_]),(2,iV x2_)] (.agg #[iV x0_,iV x1_0_,iV x1_1_,.string x1_2_,iV x2_]):=⟨fun w=>by kernel_rfl⟩
instance bld_249_0_2 (x0_0_a:Option Addr)(x0_0_n x0_0_c:Nat)(x0_1_a:Option Addr)(x0_1_n x0_1_c:Nat)(x2_:Option Nat):FcB W8 249 [(0,.agg #[.slice x0_0_a x0_0_n x0_0_c,.slice x0_1_a x0_1_n x0_1_c]),(2,.map x2_)] (.agg #[.slice x0_0_a x0_0_n x0_0_c,.slice x0_1_a x0_1_n x0_1_c,W none 0 0,.map x2_,iV 0]):=⟨fun w=>by kernel_rfl⟩
instance bld_278_:FcB W8 278 [] (.agg #[]):=⟨fun w=>by kernel_rfl⟩
theorem yK (w:World):(Instr.buildSlice 22 0 #[]).run W8 w=.ok (.slice (some ⟨w.heap.size,0,none⟩) 0 0) (w.alloc (.cells #[] 28)):=by kernel_rfl
theorem jr (x0_0_ x0_1_:Int)(x0_2_:ByteArray)(w:World):(Instr.buildSlice 22 1 #[(0,.agg #[iV x0_0_,iV x0_1_,.string x0_2_])]).run W8 w=.ok (.slice (some ⟨w.heap.size,0,none⟩) 1 1) (w.alloc (.cells #[iV x0_0_,iV x0_1_,.string x0_2_] 28)):=by kernel_rfl
theorem J3 (x0_0_ x0_1_:Int)(x0_2_:ByteArray)(x1_0_ x1_1_:Int)(x1_2_:ByteArray)(w:World):(Instr.buildSlice 22 2 #[(0,.agg #[iV x0_0_,iV x0_1_,.string x0_2_]),(1,.agg #[iV x1_0_,iV x1_1_,.string x1_2_])]).run W8 w=.ok (.slice (some ⟨w.heap.size,0,none⟩) 2 2) (w.alloc (.cells #[iV x0_0_,iV x0_1_,.string x0_2_,iV x1_0_,iV x1_1_,.string x1_2_] 28)):=by kernel_rfl
theorem Cy (x0_0_ x0_1_:Int)(x0_2_:ByteArray)(x1_0_ x1_1_:Int)(x1_2_:ByteArray)(x2_0_ x2_1_:Int)(x2_2_:ByteArray)(w:World):(Instr.buildSlice 22 3 #[(0,.agg #[iV x0_0_,iV x0_1_,.string x0_2_]),(1,.agg #[iV x1_0_,iV x1_1_,.string x1_2_]),(2,.agg #[iV x2_0_,iV x2_1_,.string x2_2_])]).run W8 w=.ok (.slice (some ⟨w.heap.size,0,none⟩) 3 3) (w.alloc (.cells #[iV x0_0_,iV x0_1_,.string x0_2_,iV x1_0_,iV x1_1_,.string x1_2_,iV x2_0_,iV x2_1_,.string x2_2_] 28)):=by kernel_rfl
theorem PZ (x0_0_ x0_1_:Int)(x0_2_:ByteArray)(x1_0_ x1_1_:Int)(x1_2_:ByteArray)(x2_0_ x2_1_:Int)(x2_2_:ByteArray)(x3_0_ x3_1_:Int)(x3_2_:ByteArray)(w:World):(Instr.buildSlice 22 4 #[(0,.agg #[iV x0_0_,iV x0_1_,.string x0_2_]),(1,.agg #[iV x1_0_,iV x1_1_,.string x1_2_]),(2,.agg #[iV x2_0_,iV x2_1_,.string x2_2_]),(3,.agg #[iV x3_0_,iV x3_1_,.string x3_2_])]).run W8 w=.ok (.slice (some ⟨w.heap.size,0,none⟩) 4 4) (w.alloc (.cells #[iV x0_0_,iV x0_1_,.string x0_2_,iV x1_0_,iV x1_1_,.string x1_2_,iV x2_0_,iV x2_1_,.string x2_2_,iV x3_0_,iV x3_1_,.string x3_2_] 28)):=by kernel_rfl
theorem J2 (w:World):(Instr.buildSlice 33 0 #[]).run W8 w=.ok (.slice (some ⟨w.heap.size,0,none⟩) 0 0) (w.alloc (.cells #[] 50)):=by kernel_rfl
theorem Ge (x0_0_0_ x0_0_1_:Int)(x0_0_2_:ByteArray)(x0_1_ x0_2_0_ x0_2_1_:Int)(x0_2_2_:ByteArray)(x0_3_0_ x0_3_1_:Int)(x0_3_2_:ByteArray)(x0_4_0_ x0_4_1_:Int)(x0_4_2_:ByteArray)(w:World):(Instr.buildSlice 33 1 #[(0,.agg #[iV x0_0_0_,iV x0_0_1_,.string x0_0_2_,iV x0_1_,iV x0_2_0_,iV x0_2_1_,.string x0_2_2_,iV x0_3_0_,iV x0_3_1_,.string x0_3_2_,iV x0_4_0_,iV x0_4_1_,.string x0_4_2_])]).run W8 w=.ok (.slice (some ⟨w.heap.size,0,none⟩) 1 1) (w.alloc (.cells #[iV x0_0_0_,iV x0_0_1_,.string x0_0_2_,iV x0_1_,iV x0_2_0_,iV x0_2_1_,.string x0_2_2_,iV x0_3_0_,iV x0_3_1_,.string x0_3_2_,iV x0_4_0_,iV x0_4_1_,.string x0_4_2_] 50)):=by kernel_rfl
theorem yI (x0_0_ x0_1_:Int)(x0_2_:ByteArray)(w:World):(Instr.buildSlice 47 1 #[(0,.agg #[iV x0_0_,iV x0_1_,.string x0_2_])]).run W8 w=.ok (.slice (some ⟨w.heap.size,0,none⟩) 1 1) (w.alloc (.cells #[iV x0_0_,iV x0_1_,.string x0_2_] 39)):=by kernel_rfl
theorem PY (x0_0_ x0_1_:Int)(x0_2_:ByteArray)(x1_0_ x1_1_:Int)(x1_2_:ByteArray)(w:World):(Instr.buildSlice 47 2 #[(0,.agg #[iV x0_0_,iV x0_1_,.string x0_2_]),(1,.agg #[iV x1_0_,iV x1_1_,.string x1_2_])]).run W8 w=.ok (.slice (some ⟨w.heap.size,0,none⟩) 2 2) (w.alloc (.cells #[iV x0_0_,iV x0_1_,.string x0_2_,iV x1_0_,iV x1_1_,.string x1_2_] 39)):=by kernel_rfl
theorem PX (x0_0_ x0_1_:Int)(x0_2_:ByteArray)(x1_0_ x1_1_:Int)(x1_2_:ByteArray)(x2_0_ x2_1_:Int)(x2_2_:ByteArray)(w:World):(Instr.buildSlice 47 3 #[(0,.agg #[iV x0_0_,iV x0_1_,.string x0_2_]),(1,.agg #[iV x1_0_,iV x1_1_,.string x1_2_]),(2,.agg #[iV x2_0_,iV x2_1_,.string x2_2_])]).run W8 w=.ok (.slice (some ⟨w.heap.size,0,none⟩) 3 3) (w.alloc (.cells #[iV x0_0_,iV x0_1_,.string x0_2_,iV x1_0_,iV x1_1_,.string x1_2_,iV x2_0_,iV x2_1_,.string x2_2_] 39)):=by kernel_rfl
theorem HJ (x0_0_ x0_1_ x0_2_ x0_3_:Int)(x0_4_a:Option Addr)(x0_4_n x0_4_c:Nat)(x0_5_a:Option Addr)(x0_5_n x0_5_c:Nat)(w:World):(Instr.buildSlice 119 1 #[(0,.agg #[iV x0_0_,iV x0_1_,iV x0_2_,iV x0_3_,.slice x0_4_a x0_4_n x0_4_c,.slice x0_5_a x0_5_n x0_5_c])]).run W8 w=.ok (.slice (some ⟨w.heap.size,0,none⟩) 1 1) (w.alloc (.cells #[iV x0_0_,iV x0_1_,iV x0_2_,iV x0_3_,.slice x0_4_a x0_4_n x0_4_c,.slice x0_5_a x0_5_n x0_5_c] 94)):=by kernel_rfl
theorem rj (x0_:Int)(w:World):(Instr.buildSlice 144 1 #[(0,iV x0_)]).run W8 w=.ok (.slice (some ⟨w.heap.size,0,none⟩) 1 1) (w.alloc (.cells #[iV x0_] 3)):=by kernel_rfl
theorem Oa (x0_ x1_:Int)(w:World):(Instr.buildSlice 144 2 #[(0,iV x0_),(1,iV x1_)]).run W8 w=.ok (.slice (some ⟨w.heap.size,0,none⟩) 2 2) (w.alloc (.cells #[iV x0_,iV x1_] 3)):=by kernel_rfl
theorem Dn (x0_0_ x0_1_0_ x0_1_1_:Int)(x0_1_2_:ByteArray)(x0_2_ x0_3_:Int)(w:World):(Instr.buildSlice 167 1 #[(0,.agg #[iV x0_0_,iV x0_1_0_,iV x0_1_1_,.string x0_1_2_,iV x0_2_,iV x0_3_])]).run W8 w=.ok (.slice (some ⟨w.heap.size,0,none⟩) 1 1) (w.alloc (.cells #[iV x0_0_,iV x0_1_0_,iV x0_1_1_,.string x0_1_2_,iV x0_2_,iV x0_3_] 166)):=by kernel_rfl
theorem zq (x0_a:Option Addr)(x0_n x0_c:Nat)(x1_a:Option Addr)(x1_n x1_c:Nat)(w:World):(Instr.buildSlice 216 2 #[(0,.slice x0_a x0_n x0_c),(1,.slice x1_a x1_n x1_c)]).run W8 w=.ok (.slice (some ⟨w.heap.size,0,none⟩) 2 2) (w.alloc (.cells #[.slice x0_a x0_n x0_c,.slice x1_a x1_n x1_c] 22)):=by kernel_rfl
theorem N9 (x0_a:Option Addr)(x0_n x0_c:Nat)(x1_a:Option Addr)(x1_n x1_c:Nat)(w:World):(Instr.buildSlice 218 2 #[(0,.slice x0_a x0_n x0_c),(1,.slice x1_a x1_n x1_c)]).run W8 w=.ok (.slice (some ⟨w.heap.size,0,none⟩) 2 2) (w.alloc (.cells #[.slice x0_a x0_n x0_c,.slice x1_a x1_n x1_c] 119)):=by kernel_rfl
theorem Se:rH W8 3 1 8=true:=by kernel_rfl
theorem r9:rH W8 28 3 32=true:=by kernel_rfl
theorem Oo:rH W8 39 3 32=true:=by kernel_rfl
theorem Qo:rH W8 50 13 136=true:=by kernel_rfl
theorem TX:rH W8 94 6 80=true:=by kernel_rfl
theorem TY:rH W8 166 6 56=true:=by kernel_rfl
instance:Fc (iw W8 3=true):=⟨rR⟩
instance:Fc (iw W8 4=true):=⟨Uq⟩
instance:Fc (iw W8 9=true):=⟨Vh⟩
instance:Fc (iw W8 22=true):=⟨sC⟩
instance:Fc (iw W8 26=true):=⟨Us⟩
instance:Fc (iw W8 29=true):=⟨So⟩
instance:Fc (iw W8 33=true):=⟨Ur⟩
instance:Fc (iw W8 47=true):=⟨Uo⟩
instance:Fc (iw W8 76=true):=⟨Fq⟩
instance:Fc (iw W8 77=true):=⟨Un⟩
instance:Fc (iw W8 119=true):=⟨KP⟩
instance:Fc (iw W8 122=true):=⟨SX⟩
instance:Fc (iw W8 144=true):=⟨KO⟩
instance:Fc (iw W8 167=true):=⟨KN⟩
instance:Fc (iw W8 168=true):=⟨SW⟩
instance:Fc (iw W8 182=true):=⟨KM⟩
instance:Fc (iw W8 211=true):=⟨SV⟩
instance:Fc (iw W8 245=true):=⟨SU⟩
instance:Fc (iw W8 247=true):=⟨ST⟩
instance:FcA0 W8 28 0:=⟨ta⟩
instance:FcA W8 28 1 1:=⟨Mr⟩
instance:FcA W8 28 2 2:=⟨RU⟩
instance:FcA0 W8 35 0:=⟨Mq⟩
instance:FcA W8 35 1 1:=⟨RT⟩
instance:FcA W8 35 2 2:=⟨IA⟩
instance:FcA W8 35 3 3:=⟨RS⟩
instance:FcA0 W8 39 0:=⟨Cm⟩
instance:FcA W8 39 1 1:=⟨zo⟩
instance:FcA W8 39 2 2:=⟨RR⟩
instance:FcA0 W8 41 0:=⟨RQ⟩
instance:FcA W8 41 1 1:=⟨Mo⟩
instance:FcA W8 41 2 2:=⟨RP⟩
instance:FcA W8 41 3 5:=⟨RO⟩
instance:FcA W8 41 4 8:=⟨Mn⟩
instance:FcA0 W8 43 0:=⟨RN⟩
instance:FcA W8 43 1 1:=⟨RM⟩
instance:FcA W8 43 2 2:=⟨RL⟩
instance:FcA W8 43 3 5:=⟨RJ⟩
instance:FcA W8 43 4 16:=⟨RI⟩
instance:FcA0 W8 50 0:=⟨Iz⟩
instance:FcA W8 50 1 3:=⟨Mm⟩
instance:FcA W8 50 2 4:=⟨RH⟩
instance:FcA W8 50 3 7:=⟨RG⟩
instance:FcA W8 50 4 10:=⟨RF⟩
instance:FcA0 W8 69 0:=⟨RE⟩
instance:FcA W8 69 1 1:=⟨RD⟩
instance:FcA W8 69 2 2:=⟨RC⟩
instance:FcA W8 69 3 3:=⟨Rz⟩
instance:FcA W8 69 4 4:=⟨Ry⟩
instance:FcA W8 69 5 5:=⟨Rx⟩
instance:FcA W8 69 6 6:=⟨Rw⟩
instance:FcA W8 73 1 1:=⟨Rv⟩
instance:FcA0 W8 81 0:=⟨Ru⟩
instance:FcA W8 81 1 3:=⟨Rt⟩
instance:FcA W8 81 3 11:=⟨Rs⟩
instance:FcA W8 81 4 12:=⟨Rr⟩
instance:FcA W8 81 6 14:=⟨Rq⟩
instance:FcA0 W8 94 0:=⟨Rp⟩
instance:FcA W8 94 1 1:=⟨Rn⟩
instance:FcA W8 94 2 2:=⟨Ml⟩
instance:FcA W8 94 3 3:=⟨sX⟩
instance:FcA W8 94 4 4:=⟨Iy⟩
instance:FcA W8 94 5 5:=⟨wO⟩
instance:FcA0 W8 121 0:=⟨F1⟩
instance:FcA W8 121 1 1:=⟨Px⟩
instance:FcA0 W8 124 0:=⟨F0⟩
instance:FcA W8 124 1 2:=⟨FZ⟩
instance:FcA W8 124 2 3:=⟨Pw⟩
instance:FcA W8 124 3 4:=⟨Pv⟩
instance:FcA0 W8 135 0:=⟨JQ⟩
instance:FcA W8 135 1 6:=⟨JP⟩
instance:FcA W8 135 2 7:=⟨Pu⟩
instance:FcA0 W8 166 0:=⟨FY⟩
instance:FcA W8 166 1 1:=⟨FX⟩
instance:FcA W8 166 2 4:=⟨Co⟩
instance:FcA W8 166 3 5:=⟨FW⟩
instance:FcA0 W8 170 0:=⟨Cn⟩
instance:FcA W8 170 1 1:=⟨Pt⟩
instance:FcA0 W8 213 0:=⟨Ps⟩
instance:FcA0 W8 249 0:=⟨JO⟩
instance:FcA W8 249 1 2:=⟨FV⟩
instance:FcA W8 249 2 3:=⟨Pr⟩
instance:FcA W8 249 3 4:=⟨JN⟩
theorem Hq:Tryz.prog.eqGuardType Tryz.prog.depth 28=false:=by kernel_rfl
theorem Mw (x y:WK)(w:World):(Op.equalIn 10000 28 (.agg #[iV x.Za,iV x.N,.string x.S]) (.agg #[iV y.Za,iV y.N,.string y.S])).run W8 w=.ok (decide (x=y)) w:=by
 obtain ⟨xKind,xN,xS⟩:=x;obtain ⟨yKind,yN,yS⟩:=y;show (Op.equalIn 10000 28 (.agg #[iV xKind,iV xN,.string xS]) (.agg #[iV yKind,iV yN,.string yS])).run W8 w=_
 go_simp
 simp only [qw];by_cases h0:xKind=yKind<;>by_cases h1:xN=yN<;>by_cases h2:xS=yS<;>simp [h0,h1,h2]
theorem vX {d:Option Nat}{u:TypeId}{a b:Operand}{x y:WK}(hx:bp s a=some (.agg #[iV x.Za,iV x.N,.string x.S]))(hy:bp s b=some (.agg #[iV y.Za,iV y.N,.string y.S])):Ev W8 s C ⟨d,.binOp .eql 28 a b u,ty,pos,af,gd⟩ (.bool (decide (x=y))):=
 fF hx hy fun w=>by
  rw [YP,run_eqGuard_agg w _ _ _ _ _ _ Hq];simp only [YO];rw [run_eql_struct,Mw];rfl
theorem Di {d:Option Nat}{u:TypeId}{a b:Operand}{x y:WK}(hx:bp s a=some (.agg #[iV x.Za,iV x.N,.string x.S]))(hy:bp s b=some (.agg #[iV y.Za,iV y.N,.string y.S])):Ev W8 s C ⟨d,.binOp .neq 28 a b u,ty,pos,af,gd⟩ (.bool (!decide (x=y))):=
 fF hx hy fun w=>by
  rw [YP,run_eqGuard_agg w _ _ _ _ _ _ Hq];simp only [YO];rw [run_neq_struct,Mw];rfl
theorem Hp:Tryz.prog.eqGuardType Tryz.prog.depth 39=false:=by kernel_rfl
theorem Mu (x y:WP)(w:World):(Op.equalIn 10000 39 (.agg #[iV x.Za,iV x.N,.string x.S]) (.agg #[iV y.Za,iV y.N,.string y.S])).run W8 w=.ok (decide (x=y)) w:=by
 obtain ⟨xKind,xN,xS⟩:=x;obtain ⟨yKind,yN,yS⟩:=y;show (Op.equalIn 10000 39 (.agg #[iV xKind,iV xN,.string xS]) (.agg #[iV yKind,iV yN,.string yS])).run W8 w=_
 go_simp
 simp only [qw];by_cases h0:xKind=yKind<;>by_cases h1:xN=yN<;>by_cases h2:xS=yS<;>simp [h0,h1,h2]
theorem ul {d:Option Nat}{u:TypeId}{a b:Operand}{x y:WP}(hx:bp s a=some (.agg #[iV x.Za,iV x.N,.string x.S]))(hy:bp s b=some (.agg #[iV y.Za,iV y.N,.string y.S])):Ev W8 s C ⟨d,.binOp .eql 39 a b u,ty,pos,af,gd⟩ (.bool (decide (x=y))):=
 fF hx hy fun w=>by
  rw [YP,run_eqGuard_agg w _ _ _ _ _ _ Hp];simp only [YO];rw [run_eql_struct,Mu];rfl
theorem Dh {d:Option Nat}{u:TypeId}{a b:Operand}{x y:WP}(hx:bp s a=some (.agg #[iV x.Za,iV x.N,.string x.S]))(hy:bp s b=some (.agg #[iV y.Za,iV y.N,.string y.S])):Ev W8 s C ⟨d,.binOp .neq 39 a b u,ty,pos,af,gd⟩ (.bool (!decide (x=y))):=
 fF hx hy fun w=>by
  rw [YP,run_eqGuard_agg w _ _ _ _ _ _ Hp];simp only [YO];rw [run_neq_struct,Mu];rfl
theorem PB (x y:WM)(w:World):(Op.equalIn 10000 233 ((Pn x)) ((Pn y))).run W8 w=.ok (decide (x=y)) w:=by
 obtain ⟨xup_,⟨xkey_Kind,xkey_N,xkey_S⟩,xattrs_⟩:=x;obtain ⟨yup_,⟨ykey_Kind,ykey_N,ykey_S⟩,yattrs_⟩:=y;show (Op.equalIn 10000 233 (.agg #[iV xup_,iV xkey_Kind,iV xkey_N,.string xkey_S,iV xattrs_]) (.agg #[iV yup_,iV ykey_Kind,iV ykey_N,.string ykey_S,iV yattrs_])).run W8 w=_
 go_simp
 simp only [qw];by_cases h0:xup_=yup_
 rotate_left
 ·simp [h0]
 by_cases h1:xkey_Kind=ykey_Kind
 rotate_left
 ·simp [h0,h1]
 by_cases h2:xkey_N=ykey_N
 rotate_left
 ·simp [h0,h1,h2]
 by_cases h3:xkey_S=ykey_S
 rotate_left
 ·simp [h0,h1,h2,h3]
 by_cases h4:xattrs_=yattrs_
 rotate_left
 ·simp [h0,h1,h2,h3,h4]
 simp [h0,h1,h2,h3,h4]
def eC (x:WM):Value:=.agg #[iV x.ZT,iV x.ZQ.Za,iV x.ZQ.N,.string x.ZQ.S,iV x.ZU]
theorem FI:KeyOk W8 233 eC where
 und:=⟨_,Tryz.underlying233,fun a b=> .inl rfl⟩
 eq:=fun a b w=>PB a b w
 check:=fun e a w=>by
  obtain ⟨xup_,⟨xkey_Kind,xkey_N,xkey_S⟩,xattrs_⟩:=a;kernel_rfl
 bits:=fun a=>by
  obtain ⟨xup_,⟨xkey_Kind,xkey_N,xkey_S⟩,xattrs_⟩:=a;simp [eC,Instr.sameBits,Lr]
structure XDHeap where
 A2:Option Addr
 n2:Nat
 c2:Nat
 A3:Option Addr
 n3:Nat
 c3:Nat
 A4:Option Addr
 n4:Nat
 c4:Nat
 A5:Option Addr
 n5:Nat
 c5:Nat
 B6:Nat
 M7:Nat
 deriving Inhabited
def KV (B1:Nat)(e:WN)(x:XDHeap):W6:=[ah B1 124 [.slice x.A2 x.n2 x.c2,.slice x.A3 x.n3 x.c3,.slice x.A4 x.n4 x.c4,.slice x.A5 x.n5 x.c5,.pointer (some ⟨x.B6,0,none⟩)],bc jG 94 (.slice x.A2 x.n2 x.c2) e.m_.Zh,bc jG 94 (.slice x.A3 x.n3 x.c3) e.m_.Zj,bc ax 28 (.slice x.A4 x.n4 x.c4) e.Zt,bc ax 28 (.slice x.A5 x.n5 x.c5) e.Zv,ah x.B6 213 [.map (some x.M7)],bE jC qL x.M7 e.Zw.at_]
def KA (B1:Nat)(e:WN)(x:XDHeap):W6:=[aQ B1 124 [.slice x.A2 x.n2 x.c2,.slice x.A3 x.n3 x.c3,.slice x.A4 x.n4 x.c4,.slice x.A5 x.n5 x.c5,.pointer (some ⟨x.B6,0,none⟩)],iI jG (.slice x.A2 x.n2 x.c2) e.m_.Zh,iI jG (.slice x.A3 x.n3 x.c3) e.m_.Zj,iI ax (.slice x.A4 x.n4 x.c4) e.Zt,iI ax (.slice x.A5 x.n5 x.c5) e.Zv,aQ x.B6 213 [.map (some x.M7)],qD jC qL x.M7 e.Zw.at_]
@[reducible] def oDHeap (B1:Nat)(e:WN):Chunk:=d8 (KV B1 e)
@[reducible] def pDHeap (B1:Nat)(e:WN):Chunk:=Kn (KA B1 e)
theorem LU {B1:Nat}{e:WN}{A2:Option Addr}{n2 c2:Nat}{A3:Option Addr}{n3 c3:Nat}{A4:Option Addr}{n4 c4:Nat}{A5:Option Addr}{n5 c5 B6 M7:Nat}(k:Cv L M):Cv (ah B1 124 [W A2 n2 c2,W A3 n3 c3,W A4 n4 c4,W A5 n5 c5,pV B6 0]::iF A2 n2 c2 e.m_.Zh::iF A3 n3 c3 e.m_.Zj::bf A4 n4 c4 e.Zt::bf A5 n5 c5 e.Zv::ah B6 213 [.map (some M7)]::bE jC qL M7 e.Zw.at_::L) (oDHeap B1 e::M):=(fH (Q:=KV B1 e) ⟨A2,n2,c2,A3,n3,c3,A4,n4,c4,A5,n5,c5,B6,M7⟩).trans (mT _ k)
instance {B1:Nat}{e:WN}:LentQ (KV B1 e) (KA B1 e):=⟨.of fun x=>⟨x,t5 (yq (i:=0) rfl) (t5 (jp (i:=1) rfl) (t5 (jp (i:=2) rfl) (t5 (jp (i:=3) rfl) (t5 (jp (i:=4) rfl) (t5 (yq (i:=5) rfl) (t5 (FE (i:=6) rfl) aw))))))⟩⟩
structure XDTable where
 A2:Option Addr
 n2:Nat
 c2:Nat
 M3:Nat
 deriving Inhabited
def Io (B1:Nat)(e:WG)(x:XDTable):W6:=[ah B1 170 [.slice x.A2 x.n2 x.c2,.map (some x.M3)],bc bC 166 (.slice x.A2 x.n2 x.c2) e.Zp,bE eC we x.M3 e.ZD]
def Ii (B1:Nat)(e:WG)(x:XDTable):W6:=[aQ B1 170 [.slice x.A2 x.n2 x.c2,.map (some x.M3)],iI bC (.slice x.A2 x.n2 x.c2) e.Zp,qD eC we x.M3 e.ZD]
@[reducible] def oDTable (B1:Nat)(e:WG):Chunk:=d8 (Io B1 e)
@[reducible] def pDTable (B1:Nat)(e:WG):Chunk:=Kn (Ii B1 e)
theorem Jp {B1:Nat}{e:WG}{A2:Option Addr}{n2 c2 M3:Nat}(k:Cv L M):Cv (ah B1 170 [W A2 n2 c2,.map (some M3)]::bc bC 166 (W A2 n2 c2) e.Zp::bE eC we M3 e.ZD::L) (oDTable B1 e::M):=(fH (Q:=Io B1 e) ⟨A2,n2,c2,M3⟩).trans (mT _ k)
instance {B1:Nat}{e:WG}:LentQ (Io B1 e) (Ii B1 e):=⟨.of fun x=>⟨x,t5 (yq (i:=0) rfl) (t5 (jp (i:=1) rfl) (t5 (FE (i:=2) rfl) aw))⟩⟩
structure XDWorld where
 A4:Option Addr
 n4:Nat
 c4:Nat
 A5:Option Addr
 n5:Nat
 c5:Nat
 A6:Option Addr
 n6:Nat
 c6:Nat
 deriving Inhabited
def BY (B1 B2 B3:Nat)(e:WH)(x:XDWorld):W6:=[ah B1 81 [iV e.ZB.ZR,iV e.ZB.ZL,iV e.ZB.ZS,iV e.Zu.ZM,iV e.Zu.ZN,iV e.Zu.ZI,iV e.Zu.ZK,iV e.Zu.Zh,iV e.Zu.ZO,iV e.Zu.ZP,.nilIface,pV B2 0,pV B3 0,.slice x.A4 x.n4 x.c4,iV e.ZE,iV e.ZF,iV e.ZG,.slice x.A5 x.n5 x.c5,.slice x.A6 x.n6 x.c6],oDHeap B2 e.Zo,oDTable B3 e.Zp,bc sJ 9 (.slice x.A4 x.n4 x.c4) e.Zy,bc nF 309 (.slice x.A5 x.n5 x.c5) e.Zz,bc sJ 9 (.slice x.A6 x.n6 x.c6) e.ZA]
def El (B1 B2 B3:Nat)(e:WH)(x:XDWorld):W6:=[aQ B1 81 [iV e.ZB.ZR,iV e.ZB.ZL,iV e.ZB.ZS,iV e.Zu.ZM,iV e.Zu.ZN,iV e.Zu.ZI,iV e.Zu.ZK,iV e.Zu.Zh,iV e.Zu.ZO,iV e.Zu.ZP,.nilIface,pV B2 0,pV B3 0,.slice x.A4 x.n4 x.c4,iV e.ZE,iV e.ZF,iV e.ZG,.slice x.A5 x.n5 x.c5,.slice x.A6 x.n6 x.c6],pDHeap B2 e.Zo,pDTable B3 e.Zp,iI sJ (.slice x.A4 x.n4 x.c4) e.Zy,iI nF (.slice x.A5 x.n5 x.c5) e.Zz,iI sJ (.slice x.A6 x.n6 x.c6) e.ZA]
@[reducible] def oDWorld (B1 B2 B3:Nat)(e:WH):Chunk:=d8 (BY B1 B2 B3 e)
@[reducible] def pDWorld (B1 B2 B3:Nat)(e:WH):Chunk:=Kn (El B1 B2 B3 e)
theorem Jo {B1:Nat}{e:WH}{A4:Option Addr}{n4 c4:Nat}{A5:Option Addr}{n5 c5:Nat}{A6:Option Addr}{n6 c6:Nat}(k:Cv L M):Cv (ah B1 81 (Ac e B2 B3 A4 n4 c4 A5 n5 c5 A6 n6 c6)::oDHeap B2 e.Zo::oDTable B3 e.Zp::pG A4 n4 c4 e.Zy::AI A5 n5 c5 e.Zz::pG A6 n6 c6 e.ZA::L) (oDWorld B1 B2 B3 e::M):=(fH (Q:=BY B1 B2 B3 e) ⟨A4,n4,c4,A5,n5,c5,A6,n6,c6⟩).trans (mT _ k)
instance {B1:Nat}{e:WH}:LentQ (BY B1 B2 B3 e) (El B1 B2 B3 e):=⟨.of fun x=>⟨x,t5 (yq (i:=0) rfl) (t5 (zj (i:=1) rfl) (t5 (zj (i:=2) rfl) (t5 (jp (i:=3) rfl) (t5 (jp (i:=4) rfl) (t5 (jp (i:=5) rfl) aw)))))⟩⟩
instance {B1:Nat}{e:WH}:LentP (BY B1 B2 B3 e) (KA B2 e.Zo):=.sub 1 fun _=>rfl
instance {B1:Nat}{e:WH}:MemR (El B1 B2 B3 e) (pDHeap B2 e.Zo):=⟨fun _=>X8 _ (X9)⟩
@[reducible] def oDWorld_h1 (B1 B2 B3:Nat)(e:WH):Chunk:=d8 fun x:XDWorld=> [ah B1 81 [iV e.ZB.ZR,iV e.ZB.ZL,iV e.ZB.ZS,iV e.Zu.ZM,iV e.Zu.ZN,iV e.Zu.ZI,iV e.Zu.ZK,iV e.Zu.Zh,iV e.Zu.ZO,iV e.Zu.ZP,.nilIface,pV B2 0,pV B3 0,.slice x.A4 x.n4 x.c4,iV e.ZE,iV e.ZF,iV e.ZG,.slice x.A5 x.n5 x.c5,.slice x.A6 x.n6 x.c6],oDTable B3 e.Zp,bc sJ 9 (.slice x.A4 x.n4 x.c4) e.Zy,bc nF 309 (.slice x.A5 x.n5 x.c5) e.Zz,bc sJ 9 (.slice x.A6 x.n6 x.c6) e.ZA]
theorem KF {B1:Nat}{e:WH}:Cv (oDWorld B1 B2 B3 e::L) (oDHeap B2 e.Zo::oDWorld_h1 B1 B2 B3 e::L):=MA fun x=>⟨x,(.trans (.swap _ _ _) (.cons _ (.refl _)):List.Perm _ _).symm⟩
theorem Lm {B1:Nat}{e:WH}{z:WN}:Cv (oDHeap B2 z::oDWorld_h1 B1 B2 B3 e::L) (oDWorld B1 B2 B3 (⟨e.ZB,e.Zu,(),z,e.Zp,e.Zy,e.ZE,e.ZF,e.ZG,e.Zz,e.ZA⟩:WH)::L):=JU fun x=>⟨x,.trans (.swap _ _ _) (.cons _ (.refl _))⟩
instance {B1:Nat}{e:WH}:LentP (BY B1 B2 B3 e) (Ii B3 e.Zp):=.sub 2 fun _=>rfl
instance {B1:Nat}{e:WH}:MemR (El B1 B2 B3 e) (pDTable B3 e.Zp):=⟨fun _=>X8 _ (X8 _ (X9))⟩
instance:FcS W8 22 28:=⟨t9⟩
instance:FcS W8 23 43:=⟨z5⟩
instance:FcS W8 33 50:=⟨Ex⟩
instance:FcS W8 47 39:=⟨EM⟩
instance:FcS W8 119 94:=⟨Wj⟩
instance:FcS W8 144 3:=⟨Wk⟩
instance:FcS W8 167 166:=⟨Wl⟩
instance:FcS W8 218 119:=⟨Tryz.underlying218⟩
instance:RepF ax (fun x=> [iV x.Za,iV x.N,.string x.S]):=⟨fun _ _ _ _ h=>h⟩
instance:RepF sy (fun x=> [iV x.Za,iV x.N,.string x.S]):=⟨fun _ _ _ _ h=>h⟩
instance:RepF OL (fun x=> [iV x.Has,iV x.Zd,iV x.Value.Za,iV x.Value.N,.string x.Value.S,iV x.Zq.Za,iV x.Zq.N,.string x.Zq.S,iV x.Zr.Za,iV x.Zr.N,.string x.Zr.S]):=⟨fun _ _ _ _ h=>h⟩
instance:RepF xX (fun x=> [iV x.Za,iV x.N,iV x.K.Za,iV x.K.N,.string x.K.S,iV x.D.Has,iV x.D.Zd,iV x.D.Value.Za,iV x.D.Value.N,.string x.D.Value.S,iV x.D.Zq.Za,iV x.D.Zq.N,.string x.D.Zq.S,iV x.D.Zr.Za,iV x.D.Zr.N,.string x.D.Zr.S,iV x.V.Za,iV x.V.N,.string x.V.S]):=⟨fun _ _ _ _ h=>h⟩
instance:RepF OM (fun x=> [iV x.ZM,iV x.ZN,iV x.ZI,iV x.ZK,iV x.Zh,iV x.ZO,iV x.ZP]):=⟨fun _ _ _ _ h=>h⟩
instance:RepF bC (fun x=> [iV x.Up,iV x.Zg.Za,iV x.Zg.N,.string x.Zg.S,iV x.Zd,iV x.ZC]):=⟨fun _ _ _ _ h=>h⟩
instance:RepF SO (fun x=> [iV x.ZT,iV x.ZQ.Za,iV x.ZQ.N,.string x.ZQ.S,iV x.ZU]):=⟨fun _ _ _ _ h=>h⟩
instance:RepF QF (fun x=> [iV x.ZR,iV x.ZL,iV x.ZS]):=⟨fun _ _ _ _ h=>h⟩
instance:RepF nF (fun x=> [iV x.Za,iV x.Zg.Za,iV x.Zg.N,.string x.Zg.S,.string x.S]):=⟨fun _ _ _ _ h=>h⟩
instance:RepF ir (fun x=> [iV x.Zg.Za,iV x.Zg.N,.string x.Zg.S,iV x.Zd,iV x.Value.Za,iV x.Value.N,.string x.Value.S,iV x.Zq.Za,iV x.Zq.N,.string x.Zq.S,iV x.Zr.Za,iV x.Zr.N,.string x.Zr.S]):=⟨fun _ _ _ _ h=>h⟩
@[reducible] def oDWorld_h2 (B1 B2 B3:Nat)(e:WH):Chunk:=d8 fun x:XDWorld=> [ah B1 81 [iV e.ZB.ZR,iV e.ZB.ZL,iV e.ZB.ZS,iV e.Zu.ZM,iV e.Zu.ZN,iV e.Zu.ZI,iV e.Zu.ZK,iV e.Zu.Zh,iV e.Zu.ZO,iV e.Zu.ZP,.nilIface,pV B2 0,pV B3 0,.slice x.A4 x.n4 x.c4,iV e.ZE,iV e.ZF,iV e.ZG,.slice x.A5 x.n5 x.c5,.slice x.A6 x.n6 x.c6],oDHeap B2 e.Zo,bc sJ 9 (.slice x.A4 x.n4 x.c4) e.Zy,bc nF 309 (.slice x.A5 x.n5 x.c5) e.Zz,bc sJ 9 (.slice x.A6 x.n6 x.c6) e.ZA]
theorem AC {B1:Nat}{e:WH}:Cv (oDWorld B1 B2 B3 e::L) (oDTable B3 e.Zp::oDWorld_h2 B1 B2 B3 e::L):=MA fun x=>⟨x,(.trans (.swap _ _ _) (.cons _ (.trans (.swap _ _ _) (.cons _ (.refl _)))):List.Perm _ _).symm⟩
theorem AP {B1:Nat}{e:WH}{z:WG}:Cv (oDTable B3 z::oDWorld_h2 B1 B2 B3 e::L) (oDWorld B1 B2 B3 (⟨e.ZB,e.Zu,(),e.Zo,z,e.Zy,e.ZE,e.ZF,e.ZG,e.Zz,e.ZA⟩:WH)::L):=JU fun x=>⟨x,.trans (.swap _ _ _) (.cons _ (.trans (.swap _ _ _) (.cons _ (.refl _))))⟩
theorem LW {R:ι->Value->W6->Prop}{Q:ι->W6}[Inhabited ι](k:Nat)(hk:L[k]? =some (d8 Q))(h:∀x,Okc P f args (L.take k++(Q x++L.drop (k+1))) (R x))(hr:∀x v post,R x v post-> ∃post',R' v post'/\Cv post post':=by
   intro x v post
   repeat (refine UZ ?_;intro _)
   rintro ⟨rfl,rfl⟩;apply VL
   repeat (apply Exists.intro)
   exact ⟨J,J⟩
   all_goals (repeat (first|with_reducible exact ad _|apply LU|apply Jp|apply Jo|apply mT))):Okc P f args L R':=Vj k hk h hr
theorem Vi (h:Okc P f args L R)(hr:∀v post,R v post-> ∃post',R' v post'/\Cv post post':=by
   intro v post
   repeat (refine UZ ?_;intro _)
   rintro ⟨rfl,rfl⟩;apply VL
   repeat (apply Exists.intro)
   exact ⟨J,J⟩
   all_goals (repeat (first|with_reducible exact ad _|apply LU|apply Jp|apply Jo|apply mT))):Okc P f args L R':=VJ h hr
abbrev iL (x:WI)(A:Option Addr)(n c:Nat)(A2:Option Addr)(n2 c2:Nat):W7:=[iV x.Za,iV x.Zi,iV x.Ze,iV x.Zf,.slice A n c,W A2 n2 c2]
abbrev lm (x:WL)(A:Option Addr)(n c:Nat)(A2:Option Addr)(n2 c2:Nat):W7:=[.bool x.Ext,.bool x.Zs,.slice A n c,W A2 n2 c2]
abbrev Uw:W7:=[iV 8,iV 0,.string (⟨#[]⟩:ByteArray)]
abbrev ug:Chunk:=aQ 0 28 Uw
def dL (N:Nat)(a0:WK):Option Bool:=
 (bif decide (a0.Za<0) then (some true) else (some (decide (9<a0.Za)))).bind fun b2=>bif b2 then (some false) else (bif decide (a0.Za=5) then ((bif decide (a0.N=0) then (some (decide ((a0.S.size:Int)<=65536))) else (some false)).bind fun b5=>some b5) else (bif !(a0.S.toList==(⟨#[]⟩:ByteArray).toList) then (some false) else (bif decide (a0.Za=2) then ((bif decide (a0.N=0) then (some true) else (some (decide (a0.N=1)))).bind fun b8=>some b8) else (bif decide (a0.Za=3) then ((bif decide ((-9007199254740992)<=a0.N) then (some (decide (a0.N<=9007199254740992))) else (some false)).bind fun a6=>some a6) else ((bif decide (a0.Za=6) then (some true) else (some (decide (a0.Za=7)))).bind fun a7=>(bif a7 then (some true) else (some (decide (a0.Za=9)))).bind fun b12=>bif b12 then (some (decide (1<=a0.N))) else (some (decide (a0.N=0))))))))
theorem Kz {N:Nat}{a0:WK}{r:Bool}(h:dL N a0=some r):Okc W8 26 [(aE a0)] ([]) (fun u post=>u=.bool r/\post=[]):=by
 refine ce Tryz.func26 ?_;intro B1;refine sY ?_;refine gS 4 10 6 h ?_;intro b2 h;refine dr h ?_ ?_<;>intro h
 ·exact eY
 refine sY ?_;refine gH J h ?_ ?_<;>intro h
 ·refine ab ?_
  refine oo 5 22 17 h (fun _ g5 h=> ?_) fun b5 h=> ?_
  ·refine ab ?_;exact fb (qq J Wm) J (bW g5 J) J<|gY
  exact eY
 refine sY ?_;refine ga (F3 J J) ?_;refine gH J h ?_ ?_<;>intro h
 ·exact eY
 refine sY ?_;refine gH J h ?_ ?_<;>intro h
 ·refine ab ?_;refine gS 4 36 32 h ?_;intro b8 h;exact eY
 refine sY ?_;refine gH J h ?_ ?_<;>intro h
 ·refine ab ?_;refine gS 4 47 43 h ?_;intro a6 h;exact eY
 refine sY ?_;refine gS 4 55 51 h ?_;intro a7 h;refine ab ?_;refine gS 4 60 56 h ?_;intro b12 h;refine dr h ?_ ?_<;>intro h
 ·exact eY
 exact eY
def iu (N:Nat):Option WK:=
 some (⟨8,0,⟨#[]⟩⟩:WK)
theorem pA {N:Nat}{r:WK}(h:iu N=some r):Okc W8 21 [] ([]) (fun u post=>u=(aE r)/\post=[]):=by
 refine ce Tryz.func21 ?_;intro B1;exact eY
theorem rt {r:WK}: ∀v post,((fun (u:Value) (post:W6)=>u=(aE r)/\post=[])) v post-> ∀c∈post,im c:=by
 rintro _ _ ⟨rfl,rfl⟩;exact aw
def mZ (a0:WK):Option Bool:=
 (bif decide (a0.Za<7) then ((dL N a0).bind fun y3=>some y3) else (some false)).bind fun b2=>(bif b2 then (some true) else ((iu N).bind fun y5=>some (decide (a0=y5)))).bind fun b4=>some b4
theorem rI {N:Nat}{a0:WK}{r:Bool}(h:mZ N a0=some r):Okc W8 8 [(aE a0)] ([]) (fun u post=>u=.bool r/\post=[]):=by
 refine ce Tryz.func8 ?_;intro B1;refine ab ?_;refine dY [0,1,2,3] ?_
 refine yJ [4,5,6] 6 6 9 h (fun _ g2 h rest=> ?_) (fun _ g2 h rest=> ?_) fun b2 h=> ?_
 ·refine r7 4 J O (aC (us:=bS a0) 0 J J agg28.out J) (bW g2 J) J ?_;obtain ⟨y3,k,h⟩:=aa h;refine ny 5 J O (oR (Kz k)) J (bW g2 J) J ?_;rintro _ _ ⟨_,⟨rfl,rfl⟩,rfl⟩;refine ⟨_,ad _,ad _,?_⟩;refine zE 6 J (eP g2 J J) ?_;exact yS rest h
 ·refine yY [4,5,6] ?_;exact yS rest h
 refine zY [7] ?_
 refine yJ [8,9,10,11] 1 10 14 h (fun _ g4 h rest=> ?_) (fun _ g4 h rest=> ?_) fun b4 h=> ?_
 ·refine yY [8,9,10,11] ?_;exact yS rest h
 ·refine r7 8 J O (aC (us:=bS a0) 0 J J agg28.out J) (cL g4 J) J ?_;obtain ⟨y5,k,h⟩:=aa h;refine ny 9 J O (oR (pA k)) J (cL g4 J) J ?_;rintro _ _ ⟨_,⟨rfl,rfl⟩,rfl⟩;refine ⟨_,ad _,ad _,?_⟩;refine dH 10 J O (vX (x:=a0) (y:=y5) J J) (cL g4 J) J<|zE 11 J (fE g4 J J) ?_;exact yS rest h
 refine zX [12] ?_;exact eY
theorem Gq {r:Bool}: ∀v post,((fun (u:Value) (post:W6)=>u=.bool r/\post=[])) v post-> ∀c∈post,im c:=by
 rintro _ _ ⟨rfl,rfl⟩;exact aw
def Dy (N:Nat):Option Bool:=
 some true
def uC (N:Nat)(a0:List WE):Nat->Int->Option Bool
 |0,_=>none
 |m3+1,p4=>(bif decide (p4<(a0.length:Int)) then (some (decide (p4<40))) else (some false)).bind fun b5=>bif b5 then ((au a0 p4).bind fun x7=>(mZ N x7.V).bind fun y9=>(bif !y9 then (some true) else ((mZ N x7.D.Value).bind fun a6=>some (!a6))).bind fun a7=>(bif a7 then (some true) else ((mZ N x7.D.Zq).bind fun a8=>some (!a8))).bind fun b12=>(bif b12 then (some true) else ((mZ N x7.D.Zr).bind fun b0=>some (!b0))).bind fun b6=>(bif b6 then (some true) else (some (decide (2000<(x7.K.S.size:Int))))).bind fun b16=>bif b16 then (some false) else ((bif decide (2000<x7.N) then (some (decide (x7.N<=4096))) else (some false)).bind fun b7=>(bif b7 then (some true) else ((bif decide (2000<x7.K.N) then (some (decide (x7.K.N<4096))) else (some false)).bind fun b9=>some b9)).bind fun c7=>(bif c7 then (some true) else ((bif decide (2000<x7.D.Value.N) then (some (decide (x7.D.Value.N<=4096))) else (some false)).bind fun c8=>some c8)).bind fun c9=>bif c9 then (some false) else (aG (in64 (p4+1)) ((uC N a0 m3) (p4+1))))) else (Dy N)
def Ai (a0:List WE):Option Bool:=
 uC N a0 N 0
theorem I1 {N:Nat}{a0:List WE}{r:Bool}(h:Ai N a0=some r):Okc W8 6 [W A1 n1 c1] ([iI xX (W A1 n1 c1) a0]) (fun u post=>u=.bool r/\post=[]):=by
 refine ce Tryz.func6 ?_;refine ao (fun s L=>Dy N=some r/\s=[(2,.bool false)]/\L=[]) ?_ ?_
 ·refine ab ?_;refine lK (fun m s L=> ∃(p4:Int),uC N a0 m p4=some r/\s=[(0,W A1 n1 c1),(2,.bool false),(3,iV p4)]/\L=[iI xX (W A1 n1 c1) a0]) N ?_;rintro m3 _ _ ⟨p4,h,rfl,rfl⟩;rw [uC.eq_2] at h;refine sZ ?_;refine gS 3 12 9 h ?_;intro b5 h;refine dr h ?_ ?_<;>intro h
  ·refine sY ?_;obtain ⟨x7,a7,a8,b0,h⟩:=bz h
   refine cn fun B8=> ?_
   refine sZ ?_
   refine cR h (fun _ k=>rI k) fun y9 h=> ?_
   refine xc 6 29 23 h (fun _ b6 h=> ?_) fun b7 h=> ?_
   ·refine cR h (fun _ k=>rI k) fun b9 h=> ?_
    exact gY
   refine ab ?_
   refine xc 6 36 30 h (fun _ c7 h=> ?_) fun b12 h=> ?_
   ·refine cR h (fun _ k=>rI k) fun c8 h=> ?_
    exact gY
   refine ab ?_
   refine xc 6 43 37 h (fun _ c9 h=> ?_) fun d0 h=> ?_
   ·refine cR h (fun _ k=>rI k) fun d1 h=> ?_
    exact gY
   refine ab ?_
   refine xc 6 50 44 h (fun _ a6 h=> ?_) fun b16 h=> ?_
   ·refine ab ?_;exact fb (qq J Wm) J (cL a6 J) J<|gY
   refine dr h ?_ ?_<;>intro h
   ·exact eY
   refine ab ?_;refine gS 4 58 54 h ?_;intro d2 h;refine ab ?_
   refine xc 11 70 59 h (fun _ d3 h=> ?_) fun d4 h=> ?_
   ·refine ab ?_;refine gS 5 69 64 h ?_;intro d6 h;exact gY
   refine ab ?_
   refine xc 13 84 71 h (fun _ e0 h=> ?_) fun e1 h=> ?_
   ·refine ab ?_;refine gS 6 83 77 h ?_;intro e2 h;exact gY
   refine dr h ?_ ?_<;>intro h
   ·exact eY
   refine ab ?_;obtain ⟨e3,h⟩:=ae h;exact lY
  exact jY
 rintro _ _ ⟨h,rfl,rfl⟩;exact eY
theorem Gs {r:Bool}: ∀v post,((fun (u:Value) (post:W6)=>u=.bool r/\post=[])) v post-> ∀c∈post,im c:=by
 rintro _ _ ⟨rfl,rfl⟩;exact aw
def eQ (N:Nat)(a0 a1 a2:Int):Option Bool:=
 (bif decide (a1<=a0) then (some (decide (a0<=a2))) else (some false)).bind fun b1=>some b1
theorem fz {N:Nat}{a2:Int}{r:Bool}(h:eQ N a0 a1 a2=some r):Okc W8 106 [iV a0,iV a1,iV a2] ([]) (fun u post=>u=.bool r/\post=[]):=by
 refine ce Tryz.func106 ?_;refine gS 4 14 10 h ?_;intro b1 h;exact eY
theorem dT {r:Bool}: ∀v post,((fun (u:Value) (post:W6)=>u=.bool r/\post=[])) v post-> ∀c∈post,im c:=by
 rintro _ _ ⟨rfl,rfl⟩;exact aw
def zP (a0:WF):Option Bool:=
 (eQ N a0.ZM 0 1).bind fun y2=>(bif y2 then ((eQ N a0.ZN 0 1073741824).bind fun y4=>some y4) else (some false)).bind fun b3=>(bif b3 then ((eQ N a0.ZI 1 200).bind fun y6=>some y6) else (some false)).bind fun b5=>(bif b5 then ((eQ N a0.ZK 0 1048576).bind fun y8=>some y8) else (some false)).bind fun b7=>(bif b7 then ((eQ N a0.Zh 0 1073741824).bind fun a6=>some a6) else (some false)).bind fun b9=>(bif b9 then ((eQ N a0.ZO 0 1073741824).bind fun a7=>some a7) else (some false)).bind fun a8=>(bif a8 then ((eQ N a0.ZP 0 4).bind fun b0=>some b0) else (some false)).bind fun b6=>some b6
theorem EY {N:Nat}{a0:WF}{r:Bool}(h:zP N a0=some r):Okc W8 61 [(FR a0)] ([]) (fun u post=>u=.bool r/\post=[]):=by
 refine ce Tryz.func61 ?_;intro B1;refine ab ?_;obtain ⟨y2,k,h⟩:=aa h;refine Gl (kU (fz k) J J J (aw) dT) ?_
 refine oo 5 13 8 h (fun _ g3 h=> ?_) fun b3 h=> ?_
 ·refine ab ?_;obtain ⟨y4,k,h⟩:=aa h;exact gU (kU (fz k) J J J (aw) dT) (bW g3 J)<|gY
 refine ab ?_
 refine oo 5 19 14 h (fun _ g5 h=> ?_) fun b5 h=> ?_
 ·refine ab ?_;obtain ⟨y6,k,h⟩:=aa h;exact gU (kU (fz k) J J J (aw) dT) (bW g5 J)<|gY
 refine ab ?_
 refine oo 5 25 20 h (fun _ g7 h=> ?_) fun b7 h=> ?_
 ·refine ab ?_;obtain ⟨y8,k,h⟩:=aa h;exact gU (kU (fz k) J J J (aw) dT) (bW g7 J)<|gY
 refine ab ?_
 refine oo 5 31 26 h (fun _ g9 h=> ?_) fun b9 h=> ?_
 ·refine ab ?_;obtain ⟨a8,k,h⟩:=aa h;exact gU (kU (fz k) J J J (aw) dT) (bW g9 J)<|gY
 refine ab ?_
 refine oo 5 37 32 h (fun _ a6 h=> ?_) fun b0 h=> ?_
 ·refine ab ?_;obtain ⟨b6,k,h⟩:=aa h;exact gU (kU (fz k) J J J (aw) dT) (bW a6 J)<|gY
 refine ab ?_
 refine oo 5 43 38 h (fun _ a7 h=> ?_) fun c7 h=> ?_
 ·refine ab ?_;obtain ⟨c8,k,h⟩:=aa h;exact gU (kU (fz k) J J J (aw) dT) (bW a7 J)<|gY
 exact eY
def Bj (N:Nat):Option WT:=
 some (⟨([]:(List (Int×Bool)))⟩:WT)
theorem Gu {N:Nat}{r:WT}(h:Bj N=some r):Okc W8 107 [] ([]) (fun u post=> ∃B0 M1,u=pV B0 0/\post=[ah B0 213 [.map (some M1)],bE jC qL M1 r.at_]):=by
 refine ce Tryz.func107 ?_;refine gD (wH (ek:=jC) (ev:=qL)) ?_;rintro _ _ ⟨M1,rfl,rfl⟩;refine ab ?_;intro B2;exact eY
def AJ:Option WN:=
 (Bj N).bind fun y1=>some (⟨(⟨[],[]⟩:WO),[],[],y1⟩:WN)
theorem JH {N:Nat}{r:WN}(h:AJ N=some r):Okc W8 62 [] ([]) (fun u post=> ∃B0 A1 n1 c1 A2 n2 c2 A3 n3 c3 A4 n4 c4 B5 M6,u=pV B0 0/\post=[ah B0 124 [W A1 n1 c1,W A2 n2 c2,W A3 n3 c3,W A4 n4 c4,pV B5 0],iF A1 n1 c1 r.m_.Zh,iF A2 n2 c2 r.m_.Zj,bf A3 n3 c3 r.Zt,bf A4 n4 c4 r.Zv,ah B5 213 [.map (some M6)],bE jC qL M6 r.Zw.at_]):=by
 refine ce Tryz.func62 ?_;obtain ⟨y1,k,h⟩:=aa h;refine gD (oR (Gu k)) ?_;rintro _ _ ⟨_,⟨B2,M3,rfl,rfl⟩,rfl⟩
 refine cn fun B4=> ?_
 obtain rfl:=bF h;exact pI J J ((cj jG 94 _).trans ((cj jG 94 _).trans ((cj ax 28 _).trans ((cj ax 28 _).trans (cS [4,3,2,1,0,5,6] 7))))) ⟨_,_,_,_,_,_,_,_,_,_,_,_,_,_,_,J,J⟩
theorem GF {N:Nat}{r:WN}(h:AJ N=some r):Okc W8 62 [] ([]) (fun u post=> ∃B0,u=pV B0 0/\post=[oDHeap B0 r]):=Vi (JH h)
def xI (N:Nat):Option WG:=
 some (⟨([(⟨(-1),(⟨0,0,⟨#[]⟩⟩:WP),0,0⟩:WQ)]:List WQ),([]:(List (WM×Int)))⟩:WG)
theorem H2 {N:Nat}{r:WG}(h:xI N=some r):Okc W8 63 [] ([]) (fun u post=> ∃B0 A1 n1 c1 M2,u=pV B0 0/\post=[ah B0 170 [W A1 n1 c1,.map (some M2)],bc bC 166 (W A1 n1 c1) r.Zp,bE eC we M2 r.ZD]):=by
 refine ce Tryz.func63 ?_;refine gD (aB (R:=bC) (vss:=[[iV (-1),iV 0,iV 0,.string (⟨#[]⟩),iV 0,iV 0]]) (xs:=[(⟨(-1),(⟨0,0,⟨#[]⟩⟩:WP),0,0⟩:WQ)]) J (Dn _ _ _ _ _ _) J J (fun _ _ hr=> .cons J All2.nil)) ?_;rintro _ _ ⟨A1,n1,c1,rfl,rfl⟩;refine gD (wH (ek:=eC) (ev:=we)) ?_;rintro _ _ ⟨M2,rfl,rfl⟩;refine ab ?_;intro B3;exact eY
theorem EP {N:Nat}{r:WG}(h:xI N=some r):Okc W8 63 [] ([]) (fun u post=> ∃B0,u=pV B0 0/\post=[oDTable B0 r]):=Vi (H2 h)
def aL (N:Nat)(a0:WN):Option Bool:=
 some false
theorem di {N:Nat}{a0:WN}{r:Bool}(h:aL N a0=some r):Okc W8 68 [pV B1 0] ([aQ B1 124 [W A2 n2 c2,W A3 n3 c3,W A4 n4 c4,W A5 n5 c5,pV B6 0],iE A2 n2 c2 a0.m_.Zh,iE A3 n3 c3 a0.m_.Zj,aX A4 n4 c4 a0.Zt,aX A5 n5 c5 a0.Zv,aQ B6 213 [.map (some M7)],qD jC qL M7 a0.Zw.at_]) (fun u post=>u=.bool r/\post=[]):=by
 refine ce Tryz.func68 ?_;refine ga (dO J Tryz.underlying76) ?_;refine ga (dO J Wn) ?_;exact eN
def dh (a0:WN)(a1:Int):Option WK:=
 (aL N a0).bind fun y9=>(bif y9 then (some true) else (some (decide (a1<0)))).bind fun a6=>(bif a6 then (some true) else (some (decide ((a0.Zt.length:Int)<=a1)))).bind fun a7=>bif a7 then (some (⟨0,0,⟨#[]⟩⟩:WK)) else ((au a0.Zt a1).bind fun a8=>some a8)
theorem Ca {N:Nat}{a0:WN}{r:WK}(h:dh N a0 a1=some r):Okc W8 39 [pV B1 0,iV a1] ([aQ B1 124 [W A2 n2 c2,W A3 n3 c3,W A4 n4 c4,W A5 n5 c5,pV B6 0],iE A2 n2 c2 a0.m_.Zh,iE A3 n3 c3 a0.m_.Zj,aX A4 n4 c4 a0.Zt,aX A5 n5 c5 a0.Zv,aQ B6 213 [.map (some M7)],qD jC qL M7 a0.Zw.at_]) (fun u post=>u=(aE r)/\post=[]):=by
 refine ce Tryz.func39 ?_;intro B8;refine sY ?_
 refine cR h (fun _ k=>di k) fun y9 h=> ?_
 refine gS 3 10 7 h ?_;intro b0 h;refine ab ?_;refine gS 8 19 11 h ?_;intro b5 h;refine dr h ?_ ?_<;>intro h
 ·exact eY
 refine ab ?_;obtain ⟨b6,a6,a7,a8,h⟩:=bz h;exact eY
theorem iG {N:Nat}{a0:WN}{r:WK}(h:dh N a0 a1=some r):Okc W8 39 [pV B1 0,iV a1] ([pDHeap B1 a0]) (fun u post=>u=(aE r)/\post=[]):=Nz 0 rfl (fun _=>Ca h)
def ms (N:Nat){σ:Type}(fy:(Bool×WK)->σ->Option (Bool×σ))(a1:WI):Nat->Int->σ->Option σ
 |0,_,_=>none
 |b0+1,a6,a8=>bif decide (a6<(a1.Zb.length:Int)) then ((au a1.Zb a6).bind fun b5=>(bif !decide (a1.Za=8) then ((bif !decide (a1.Za=10) then (some true) else (some (decide (a6.tmod 2=0)))).bind fun b6=>some b6) else (some false)).bind fun b7=>(fy (b7,b5) a8).bind fun a7=>bif !a7.1 then (some a7.2) else (aG (in64 (a6+1)) ((ms N fy a1 b0) (a6+1) a7.2))) else (some a8)
def uq (fy:(Bool×WK)->σ->Option (Bool×σ))(a1:WI)(p5:σ):Option σ:=
 ms N fy a1 N 0 p5
def li (N:Nat){σ:Type}(fy:(Bool×WK)->σ->Option (Bool×σ))(a1:WI):Nat->Int->σ->Option σ
 |0,_,_=>none
 |m6+1,p7,p8=>bif decide (p7<(a1.Zc.length:Int)) then ((au a1.Zc p7).bind fun a7=>(fy (true,a7) p8).bind fun a6=>bif !a6.1 then (some a6.2) else (aG (in64 (p7+1)) ((li N fy a1 m6) (p7+1) a6.2))) else (uq N fy a1 p8)
def oN (a1:WI)(fy:(Bool×WK)->σ->Option (Bool×σ))(s0:σ):Option σ:=
 li N fy a1 N 0 s0
theorem yG {N:Nat}{a1:WI}{fy:(Bool×WK)->σ->Option (Bool×σ)}{s0 r:σ}(h:oN N a1 fy s0=some r){l:Nat}{G:σ->W6}(hY:tk W8 l G (fun x=> [.bool x.1,.agg #[iV x.2.Za,iV x.2.N,.string x.2.S]]) fy):Okc W8 199 [.func (.yield l) #[] #[],pV B1 0] (aQ B1 94 (iL a1 A2 n2 c2 A3 n3 c3)::aX A2 n2 c2 a1.Zc::aX A3 n3 c3 a1.Zb::(G s0)) (fun u post=>u=.tuple #[]/\post=G r):=by
 refine CZ Tryz.func199 J J ?_;simp only [qM];refine ao (fun s L=> ∃p5,uq N fy a1 p5=some r/\s=[(0,.func (.yield l) #[] #[]),(1,pV B1 0)]/\L=aX A2 n2 c2 a1.Zc::aX A3 n3 c3 a1.Zb::aQ B1 94 (iL a1 A2 n2 c2 A3 n3 c3)::(G p5)) ?_ ?_
 ·refine ab ?_;refine lK (fun m s L=> ∃(p7:Int) (p8:σ),li N fy a1 m p7 p8=some r/\s=[(0,.func (.yield l) #[] #[]),(1,pV B1 0),(9,W A2 n2 c2),(10,iV (a1.Zc.length:Int)),(11,iV p7)]/\L=aX A2 n2 c2 a1.Zc::aX A3 n3 c3 a1.Zb::aQ B1 94 (iL a1 A2 n2 c2 A3 n3 c3)::(G p8)) N ?_;rintro m6 _ _ ⟨p7,p8,h,rfl,rfl⟩;rw [li.eq_2] at h;refine ab ?_;refine aA<|gH J h (fun h=> ?_) (fun h=> ?_)
  ·refine sY ?_;obtain ⟨a6,b5,b6,b7,h⟩:=bz h
   refine cn fun b9=> ?_
   obtain ⟨d3,k,h⟩:=aa h;refine gD (vM (a:=(true,a6)) [ah b9 28 [iV a6.Za,iV a6.N,.string a6.S],aX A2 n2 c2 a1.Zc,aX A3 n3 c3 a1.Zb,aQ B1 94 (iL a1 A2 n2 c2 A3 n3 c3)] hY k J J) ?_;rintro _ _ ⟨rfl,rfl⟩;refine dr h ?_ ?_<;>intro h
   ·exact eY
   refine ab ?_;obtain ⟨d4,h⟩:=ae h;exact lY
  exact jY
 rintro _ _ ⟨p5,h,rfl,rfl⟩;refine ab ?_;refine lK (fun m s L=> ∃(a8:Int) (b0:σ),ms N fy a1 m a8 b0=some r/\s=[(0,.func (.yield l) #[] #[]),(1,pV B1 0),(21,W A3 n3 c3),(22,iV (a1.Zb.length:Int)),(23,iV a8)]/\L=aX A3 n3 c3 a1.Zb::aX A2 n2 c2 a1.Zc::aQ B1 94 (iL a1 A2 n2 c2 A3 n3 c3)::(G b0)) N ?_;rintro d6 _ _ ⟨a8,b0,h,rfl,rfl⟩;rw [ms.eq_2] at h;refine ab ?_;refine aA<|gH J h (fun h=> ?_) (fun h=> ?_)
 ·refine sY ?_;obtain ⟨a7,c7,c8,c9,h⟩:=bz h
  refine cn fun d0=> ?_
  refine oo 9 40 31 h (fun _ e0 h=> ?_) fun d1 h=> ?_
  ·refine ab ?_
   refine xc 4 39 35 h (fun _ d2 h=> ?_) fun e1 h=> ?_
   ·refine ab ?_;exact fb (sm J J (by decide)) J (cL d2 J) J<|gY
   exact gY
  refine ab ?_;obtain ⟨e2,k,h⟩:=aa h;refine gD (vM (a:=(d1,a7)) [ah d0 28 [iV a7.Za,iV a7.N,.string a7.S],aX A3 n3 c3 a1.Zb,aX A2 n2 c2 a1.Zc,aQ B1 94 (iL a1 A2 n2 c2 A3 n3 c3)] hY k J J) ?_;rintro _ _ ⟨rfl,rfl⟩;refine dr h ?_ ?_<;>intro h
  ·exact eY
  refine ab ?_;obtain ⟨e3,h⟩:=ae h;exact lY
 exact eY
def ur (N:Nat)(a0:WI):Option Unit:=
 some ()
theorem DV {N:Nat}{a0:WI}{r:Unit}(h:ur N a0=some r):Okc W8 177 [.agg #[iV a0.Za,iV a0.Zi,iV a0.Ze,iV a0.Zf,W A1 n1 c1,W A2 n2 c2]] ([aX A1 n1 c1 a0.Zc,aX A2 n2 c2 a0.Zb]) (fun u post=> ∃a6,u=.func (.func 199) #[] #[pV a6 0]/\post=[ah a6 94 (iL a0 A1 n1 c1 A2 n2 c2)]):=by
 refine ce Tryz.func177 ?_;intro B3;refine ab ?_;refine ga (iY J) ?_;exact eN
def rY (N:Nat)(a0:WK)(a6:Bool):Option Bool:=
 bif a6 then (some (decide (1<=a0.N))) else ((bif decide (a0.N=0) then (some (decide (0<=a0.Za))) else (some false)).bind fun a7=>(bif a7 then (some (decide (a0.Za<=9))) else (some false)).bind fun a8=>some a8)
def wR (a0:WK):Option Bool:=
 bif decide (a0.Za=5) then ((bif decide (a0.N=0) then (some (decide ((a0.S.size:Int)<=65536))) else (some false)).bind fun b3=>some b3) else (bif !(a0.S.toList==(⟨#[]⟩:ByteArray).toList) then (some false) else (bif decide (a0.Za=2) then ((bif decide (a0.N=0) then (some true) else (some (decide (a0.N=1)))).bind fun b6=>some b6) else (bif decide (a0.Za=3) then ((bif decide ((-9007199254740992)<=a0.N) then (some (decide (a0.N<=9007199254740992))) else (some false)).bind fun b8=>some b8) else (bif decide (a0.Za=6) then (rY N a0 (decide (a0.Za=6))) else (bif decide (a0.Za=7) then (rY N a0 (decide (a0.Za=7))) else (rY N a0 (decide (a0.Za=9))))))))
theorem J0 {N:Nat}{a0:WK}{r:Bool}(h:wR N a0=some r):Okc W8 178 [(aE a0)] ([]) (fun u post=>u=.bool r/\post=[]):=by
 refine ce Tryz.func178 ?_;intro B1;refine sY ?_;refine gH J h ?_ ?_<;>intro h
 ·refine ab ?_
  refine oo 5 14 9 h (fun _ g3 h=> ?_) fun b3 h=> ?_
  ·refine ab ?_;exact fb (qq J Wm) J (bW g3 J) J<|gY
  exact eY
 refine sY ?_;refine ga (F3 J J) ?_;refine gH J h ?_ ?_<;>intro h
 ·exact eY
 refine sY ?_;refine gH J h ?_ ?_<;>intro h
 ·refine ab ?_;refine gS 4 29 25 h ?_;intro b6 h;exact eY
 refine dr h ?_ ?_<;>intro h
 ·refine ab ?_;refine gS 4 39 35 h ?_;intro b8 h;exact eY
 refine ao (fun s L=> ∃a6,rY N a0 a6=some r/\s=[(1,pV B1 0),(2,.bool false),(40,.bool a6)]/\L=[ah B1 28 (bS a0)]) ?_ ?_
 ·refine dr h ?_ ?_<;>intro h
  ·exact jY
  refine dr h ?_ ?_<;>intro h
  ·exact jY
  exact jY
 rintro _ _ ⟨a6,h,rfl,rfl⟩;refine gH J h ?_ ?_<;>intro h
 ·exact eY
 refine ab ?_;refine gS 4 54 50 h ?_;intro a7 h;refine ab ?_;refine gS 4 59 55 h ?_;intro a8 h;exact eY
def kk (N:Nat)(p2:Bool):Option Bool:=
 bif p2 then (some true) else (some false)
def wS (a0:Int):Option Bool:=
 bif decide (a0=1) then (kk N (decide (a0=1))) else (bif decide (a0=2) then (kk N (decide (a0=2))) else (bif decide (a0=3) then (kk N (decide (a0=3))) else (bif decide (a0=6) then (kk N (decide (a0=6))) else (bif decide (a0=8) then (kk N (decide (a0=8))) else (bif decide (a0=9) then (kk N (decide (a0=9))) else (kk N (decide (a0=10))))))))
theorem J1 {N:Nat}{r:Bool}(h:wS N a0=some r):Okc W8 200 [iV a0] ([]) (fun u post=>u=.bool r/\post=[]):=by
 refine ce Tryz.func200 ?_;refine sZ ?_;refine ao (fun s L=> ∃p2,kk N p2=some r/\s=[(2,.bool false),(4,.bool p2)]/\L=[]) ?_ ?_
 ·refine dr h ?_ ?_<;>intro h
  ·exact jY
  refine dr h ?_ ?_<;>intro h
  ·exact jY
  refine dr h ?_ ?_<;>intro h
  ·exact jY
  refine dr h ?_ ?_<;>intro h
  ·exact jY
  refine dr h ?_ ?_<;>intro h
  ·exact jY
  refine dr h ?_ ?_<;>intro h
  ·exact jY
  exact jY
 rintro _ _ ⟨p2,h,rfl,rfl⟩;refine gH J h ?_ ?_<;>intro h
 ·exact eY
 exact eY
def iZ (N:Nat)(a0:WK)(a1:Int):Option Bool:=
 (bif decide (a0.Za=0) then (some true) else (some (decide (a0.Za=a1)))).bind fun b2=>some b2
theorem lc {N:Nat}{a0:WK}{r:Bool}(h:iZ N a0 a1=some r):Okc W8 201 [(aE a0),iV a1] ([]) (fun u post=>u=.bool r/\post=[]):=by
 refine ce Tryz.func201 ?_;intro B1;refine ab ?_;refine gS 5 13 8 h ?_;intro b2 h;exact eY
end
end Go.Proofs.YtmcifcmlojonnaaGreatDoor