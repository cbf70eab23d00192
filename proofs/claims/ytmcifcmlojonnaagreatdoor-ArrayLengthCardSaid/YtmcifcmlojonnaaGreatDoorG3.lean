/- Merged texts: part 3. No conditions of their own. -/
import Derived.Test.YtmcifcmlojonnaaGreatDoorG2
import Derived.Laws.IdiomRangeMap
import Derived.Test.YtmcifcmlojonnaaGreatDoorChecked
import Derived.ProofKit
set_option maxHeartbeats 4000000
namespace Go.Proofs.YtmcifcmlojonnaaGreatDoor
variable (N:Nat){listed:Array Bool}{af:Array Edge}{ops:Array Oper}{ats:Array TypeId}{c:Chunk}{X:Cx}{fn:Func}{f:FuncId}{a0 a1:Int}{K:K3}{l:List Oper}{xs:List Operand}{rs:List ResultVar}{B2 B3 bt fuel i k n:Nat}{op:Op}{x:Operand}{gd:Option (Nat×Bool)}{P:Program}{pos:String}{α ι κ ρ σ:Type}{t ty u:TypeId}{v:Value}{R R':Value->W8->Prop}{A L L' L2 M post pre:W8}{args cs us vs:W9}{C:World->Prop}{s s2:bF}
section
theorem Wo:type_of% Tryz.underlying122:=Tryz.underlying122
theorem Wn:type_of% Tryz.underlying9:=Tryz.underlying9
theorem Wm:type_of% Tryz.underlying167:=Tryz.underlying167
theorem Wl:type_of% Tryz.underlying144:=Tryz.underlying144
theorem Wk:type_of% Tryz.underlying119:=Tryz.underlying119
theorem Wj:type_of% Tryz.underlying47:=Tryz.underlying47
theorem EM:type_of% Tryz.underlying33:=Tryz.underlying33
theorem Ex:type_of% Tryz.underlying23:=Tryz.underlying23
theorem z5:type_of% Tryz.underlying39:=Tryz.underlying39
open Go.RowKit
class FcI (P:Program) (t:Nat) (v:outParam Value):Prop where
  out: ∀w,(zeroValue t).run P w=.ok v w
class FcB (P:Program) (t:Nat) (vs:List (Nat×Value)) (v:outParam Value):Prop where
  out: ∀w,(Instr.build t vs.toArray).run P w=.ok v w
class RepF {α:Type} (R:Rep α) (f:outParam (α->W9)):Prop where
  out: ∀S w vs x,R.rel S w vs x->vs=f x
theorem Ay {l:List α}(h:l=[]):l=[]:=h
theorem wx {l t T:List α}{a:α}(h:l=a::t)(k:t=T):l=a::T:=k▸h
inductive FndR (b:Nat) (cs:W9):W8->Prop
  |w {bt L:_}:FndR b cs (ah b bt cs::L)
  |r {bt L:_}:FndR b cs (aW b bt cs::L)
  |s {c L:_} (h:FndR b cs L):FndR b cs (c::L)
theorem FndR.ix {b:Nat}(h:FndR b cs L): ∃(i:Nat) (bt:TypeId),L[i]? =some (ah b bt cs)\/L[i]? =some (aW b bt cs):=by
  induction h with
  |w=>exact ⟨0,_,.inl rfl⟩
  |r=>exact ⟨0,_,.inr rfl⟩
  |s _ ih=>obtain ⟨i,bt,h⟩:=ih;exact ⟨i+1,bt,h⟩
inductive FndW (b:Nat) (bt:TypeId) (cs cs':W9):W8->W8->Prop
  |w {L:_}:FndW b bt cs cs' (ah b bt cs::L) (ah b bt cs'::L)
  |s {c L L':_} (h:FndW b bt cs cs' L L'):FndW b bt cs cs' (c::L) (c::L')
theorem FndW.ix {b:Nat}{cs':W9}(h:FndW b bt cs cs' L L'): ∃i:Nat,L[i]? =some (ah b bt cs)/\L'=L.set i (ah b bt cs'):=by
  induction h with
  |w=>exact ⟨0,rfl,rfl⟩
  |s _ ih=>obtain ⟨i,h,e⟩:=ih;exact ⟨i+1,h,by rw [e];rfl⟩
inductive FndE {α:Type} (R:Rep α) (v:Value) (xs:List α):W8->Prop
  |w {c L:_} (h:HA R v xs c):FndE R v xs (c::L)
  |s {c L:_} (h:FndE R v xs L):FndE R v xs (c::L)
theorem FndE.ix {R:Rep α}{xs:List α}(h:FndE R v xs L): ∃(i:Nat) (c:Chunk),L[i]? =some c/\HA R v xs c:=by
  induction h with
  |w h=>exact ⟨0,_,rfl,h⟩
  |s _ ih=>obtain ⟨i,c,h⟩:=ih;exact ⟨i+1,c,h⟩
structure RdS (P:Program) (s:bF) (L:W8) (o:Oper) (v:Value):Prop where
  out:Rd P s L o v
theorem Vt:NP s []=some []:=rfl
theorem Vu {r:List (Nat×Operand)}{l:List (Nat×Value)}(h:bl s x=some v)(k:NP s r=some l):NP s ((i,x)::r)=some ((i,v)::l):=by unfold NP;rw [h,k]
section
variable {rest:List Oper}{d:Nat}
theorem VZ (h:U3 s op=some v):RdS P s L ⟨some d,op,ty,pos,af,gd⟩ v:=⟨fun _ _ _=>fun ρ hρ w _=>PB h ρ hρ w trivial⟩
theorem VT {c y:Operand}{g:Bool}(hc:bl s c=some (.bool g))(hg:g=true)(hx:bl s x=some v):RdS P s L ⟨some d,.pick c x y,ty,pos,af,gd⟩ v:=⟨fun _ _ _=>iy hg hc hx⟩
theorem VS {c y:Operand}{g:Bool}(hc:bl s c=some (.bool g))(hg:g=false)(hy:bl s y=some v):RdS P s L ⟨some d,.pick c x y,ty,pos,af,gd⟩ v:=⟨fun _ _ _=>jy hg hc hy⟩
theorem U9 {t f b o:Nat}[h:FcA0 P t f](hx:bl s x=some (.pointer (some ⟨b,o,none⟩))):RdS P s L ⟨some d,.fieldAddr t x f,ty,pos,af,gd⟩ (.pointer (some ⟨b,o,none⟩)):=⟨fun _ _ _=>qx hx h.out⟩
theorem VY {t f o' b o:Nat}[h:FcA P t f o'](hx:bl s x=some (.pointer (some ⟨b,o,none⟩))):RdS P s L ⟨some d,.fieldAddr t x f,ty,pos,af,gd⟩ (.pointer (some ⟨b,o+o',none⟩)):=⟨fun _ _ _=>kH hx h.out⟩
theorem V3 {b o:Nat}[hu:Fc (iv P t=true)](hx:bl s x=some (.pointer (some ⟨b,o,none⟩)))(hi:FndR b cs L)(hc:cs[o]? =some v):RdS P s L ⟨some d,.load t x,ty,pos,af,gd⟩ v:=⟨by
  obtain ⟨i,bt,h|h⟩:=hi.ix
  ·exact ck i h hx hu.out hc
  ·exact Bg i h hx hu.out hc⟩
theorem VR {b o:Nat}[hu:FcG P t n](hx:bl s x=some (.pointer (some ⟨b,o,none⟩)))(hi:FndR b cs L)(hc:(cs.drop o).take n=us)(hn:us.length=n):RdS P s L ⟨some d,.load t x,ty,pos,af,gd⟩ (.agg us.toArray):=⟨by
  obtain ⟨i,bt,h|h⟩:=hi.ix
  ·exact ax (us:=us) i h hx (hn▸hu.out) (hn▸hc)
  ·exact OF (us:=us) i h hx (hn▸hu.out) (hn▸hc)⟩
theorem V0 {ps:List (Nat×Operand)}{vs:List (Nat×Value)}(hp:NP s ps=some vs)(hb:FcB P t vs v):RdS P s L ⟨some d,.build t ps.toArray,ty,pos,af,gd⟩ v:=⟨fun _ _ _=>nB hp hb.out⟩
theorem VV {R:Rep α}{t e sz:Nat}{y:Operand}{xs:List α}{i:Int}[hu:FcS P t e][hz:FcZ P e sz](hx:bl s x=some v)(hy:bl s y=some (.int .i64 i))(he:FndE R v xs L)(h0:0<=i)(h1:i<xs.length):RdS P s L ⟨some d,.indexAddr t x y,ty,pos,af,gd⟩ (dF v i.toNat sz 0):=⟨by
  obtain ⟨j,c,h,e⟩:=he.ix
  exact cM j h e hx hy hu.out hz.out h0 h1⟩
theorem VX {R:Rep α}{f:α->W9}{t sz:Nat}{xs:List α}{off:Nat}{y:α}[hu:FcG P t n](hx:bl s x=some (dF v k sz off))(he:FndE R v xs L)(hf:RepF R f)(hy:xs[k]? =some y)(hz:R.sz=sz)(hc:((f y).drop off).take n=us)(hn:us.length=n):RdS P s L ⟨some d,.load t x,ty,pos,af,gd⟩ (.agg us.toArray):=⟨by
  obtain ⟨j,c,h,e⟩:=he.ix;subst hz
  exact ee (us:=us) j h e hx hy (hn▸hu.out) fun S w vs hr=>by rw [hf.out _ _ _ _ hr,hn];exact hc⟩
theorem VW {R:Rep α}{f:α->W9}{t sz:Nat}{xs:List α}{off:Nat}{y:α}{u:Value}[hu:Fc (iv P t=true)](hx:bl s x=some (dF v k sz off))(he:FndE R v xs L)(hf:RepF R f)(hy:xs[k]? =some y)(hz:R.sz=sz)(hc:(f y)[off]? =some u):RdS P s L ⟨some d,.load t x,ty,pos,af,gd⟩ u:=⟨by
  obtain ⟨j,c,h,e⟩:=he.ix;subst hz
  exact mq (u:=u) j h e hx hy hu.out fun S w vs hr=>by rw [hf.out _ _ _ _ hr];exact hc⟩
theorem tR (h:RdS X.P s L ⟨some d,op,ty,pos,af,gd⟩ v)(hn:eZ ⟨some d,op,ty,pos,af,gd⟩=true)(hd:Nat.ble (d+1) X.n=true)(k:bm X ops rest K ((d,v)::s) L):RunT X ops ⟨some d,op,ty,pos,af,gd⟩ rest K s L:=⟨fun hh=>sc h.out hn hh hd k⟩
theorem V8 (h:mN X ops K M fuel listed s L):mN X ops K M fuel listed s L:=h
theorem tN (hr:Region.ready .any ops listed=[])(h:K .normal s L):mN X ops K M 0 listed s L:=bq hr h
theorem tZ (i:Nat)(hI:ops.size - (fuel+1)=i)(hi:ops[i]? =some ⟨some d,op,ty,pos,af,gd⟩)(h:RdS X.P s M ⟨some d,op,ty,pos,af,gd⟩ v)(hk:Oi ops listed i=true)(hg:aD ops s ⟨some d,op,ty,pos,af,gd⟩=some true)(hd:Nat.ble (d+1) X.n=true)(k:mN X ops K M fuel (listed.setIfInBounds i true) ((d,v)::s) L):mN X ops K M (fuel+1) listed s L:=zR i hi h.out k hk hg hd
theorem tW {bt:TypeId}{y:Operand}{b o:Nat}{cs':W9}[hs:FcZ X.P t n](hx:bl s x=some (.pointer (some ⟨b,o,none⟩)))(hy:bl s y=some v)(hv:v.cells.toList=us)(hf:FndW b bt cs cs' L L')(hc':cs.take o++us++cs.drop (o+us.length)=cs')(hn:us.length=n)(h1:us.all (·.oneCell')=true)(hc:Nat.ble (o+us.length) cs.length=true)(k:bm X ops rest K s L'):RunT X ops ⟨none,.store t x y,ty,pos,af,gd⟩ rest K s L:=⟨fun hh=>by
  obtain ⟨i,h,e⟩:=hf.ix
  exact gW (aj (us:=us) (cs':=cs') i h hx hy hv (hn▸hs.out) h1 hc hc') (e▸k) J hh⟩
theorem tA [hz:FcI X.P t v](hc:v.cells.toList=cs)(hd:Nat.ble (d+1) X.n=true)(k:∀b,bm X ops rest K ((d,pV b 0)::s) (ah b t cs::L)):RunT X ops ⟨some d,.alloc t,ty,pos,af,gd⟩ rest K s L:=⟨fun hh=>gB (bw hz.out hc) k rfl hh hd⟩
theorem tX (hx:bl s x=some v)(hc:v.cells.toList=cs)(hd:Nat.ble (d+1) X.n=true)(k:∀b,bm X ops rest K ((d,pV b 0)::s) (ah b t cs::L)):RunT X ops ⟨some d,.box t x,ty,pos,af,gd⟩ rest K s L:=⟨fun hh=>gB (rf hx hc) k rfl hh hd⟩
end
end
section
open Go.RowKit
def Kj (Q:ι->W8):Chunk where
 ok _ S w:= ∃x:ι, ∀c∈Q x,c.ok (fun _=>False) S w
 loc:=fun h ⟨x,k⟩=>⟨x,fun c hc=>c.loc (h.mono fun _ hq=>hq.elim False.elim .inr) (k c hc)⟩
 mono:=fun h ⟨x,k⟩=>⟨x,fun c hc=>c.mono h (k c hc)⟩
 ro:=true
 dup:=fun _ _ _ _ h=>h
class LentP {ι κ:Type} (Q:ι->W8) (R:κ->W8):Prop where
 out: ∀x,xo (Q x) (Kj R)
class LentQ {ι κ:Type} (Q:ι->W8) (R:outParam (κ->W8)):Prop where
 out:LentP Q R
instance lentQP {Q:ι->W8}{R:κ->W8}[h:LentQ Q R]:LentP Q R:=h.out
class MemR {ι:Type} (Q:ι->W8) (c:Chunk):Prop where
 out: ∀x,c∈Q x
theorem LentP.of {Q:ι->W8}{R:κ->W8}(h:∀x, ∃y, ∀d∈R y,xo (Q x) d):LentP Q R:=⟨fun x T S w hT=>by
 obtain ⟨y,hy⟩:=h x
 exact ⟨y,fun d hd=>hy d hd T S w hT⟩⟩
theorem ze {Q:ι->W8}{R:κ->W8}(hi:L[i]? =some (dX Q))[hp:LentP Q R]:xo L (Kj R):=fun T S w h=>by
 obtain ⟨x,T',h1,h2,h3⟩:=h.ok hi;exact hp.out x T' S w ⟨fun hj=>h1 _ _ hj,fun hij a b=>h2 _ _ _ hij a b,fun a b=>h.ro (h3 _ _ a) b,fun a=>h.lt (h3 _ _ a),h.lts⟩
theorem qq {Q:ι->W8}{R:κ->W8}(hi:L[i]? =some (dX Q))[hp:LentQ Q R]:xo L (Kj R):=ze hi
theorem LentP.sub {η:Type}{Q:ι->W8}{R:κ->W8}{R':η->W8}(i:Nat)(h:∀x,(Q x)[i]? =some (dX R'))[hp:LentP R' R]:LentP Q R:=⟨fun x=>ze (h x)⟩
theorem Ra {Q:ι->W8}(hi:L[i]? =some (Kj Q))[hp:MemR Q c]:xo L c:=fun T S w h=>by
 obtain ⟨x,hx⟩:=h.ok hi;exact c.mono (fun _ hq=>h.lts hq) (hx c (hp.out x))
theorem ta (h:L.Perm M):Cv L M:=by
 induction h with
 |nil=>exact ad _
 |cons c _ ih=>exact mZ c ih
 |swap a b l=>exact yq [1,0] 2 rfl rfl
 |trans _ _ h1 h2=>exact h1.trans h2
theorem IW {L:List α}{c:α}(hk:L[k]? =some c):L=L.take k++c::L.drop (k+1):=by
 obtain ⟨h1,h2⟩:=XO.1 hk;rw [<-h2,List.getElem_cons_drop,Yq]
theorem VI (h:Okc P f args L R)(hr:∀v post,R v post-> ∃post',R' v post'/\Cv post post'):Okc P f args L R':=⟨h.cal,fun Z w hw=>
 (h.run Z w hw).mono fun _ _ ⟨v,post,h1,h2,h3⟩=>by
  obtain ⟨post',g1,g2⟩:=hr v post h3
  exact ⟨v,post',h1,g2 _ _ h2,g1⟩⟩
theorem Vj {R:ι->Value->W8->Prop}{Q:ι->W8}[Inhabited ι](k:Nat)(hk:L[k]? =some (dX Q))(h:∀x,Okc P f args (L.take k++(Q x++L.drop (k+1))) (R x))(hr:∀x v post,R x v post-> ∃post',R' v post'/\Cv post post'):Okc P f args L R':=⟨(h default).cal,fun Z w hw=>by
 rw [IW hk] at hw;obtain ⟨x,hx⟩:=kZ (ta Yn Z w hw)
 exact (VI (h x) (hr x)).run Z w (ta (Ym _ _ _) Z w hx)⟩
theorem Nr {Q:ι->W8}[Inhabited ι](k:Nat)(hk:L[k]? =some (Kj Q))(h:∀x,Okc P f args (L.take k++(Q x++L.drop (k+1))) R):Okc P f args L R:=⟨(h default).cal,fun Z w hw=>by
 rw [IW hk] at hw;have h1:=ta Yn Z w hw;obtain ⟨T,S,hT⟩:=h1;obtain ⟨x,hx⟩:=hT.ok (i:=0) (c:=Kj Q) rfl;obtain ⟨T',h2⟩:=SepL.facts (Q x) hT hx;have h3:Sp Z (Q x++(Kj Q::(L.take k++L.drop (k+1)))) w:=⟨T',S,by rw [W2];exact h2⟩;have h4:Sp Z (Q x++(L.take k++L.drop (k+1))) w:=cv_tl _ _ (ta Yn _ _ h3)
 exact (h x).run Z w (ta (Ym _ _ _) Z w h4)⟩
theorem VK {p:W8->Prop}{post':W8}(h:p post')(k:Cv post post'): ∃post',p post'/\Cv post post':=⟨post',h,k⟩
theorem Mu {Q:ι->W8}{Q':κ->W8}(h:∀x, ∃y,(Q x).Perm (c::Q' y)):Cv (dX Q::L) (c::dX Q'::L):=fun Z w hw=>by
 obtain ⟨x,hx⟩:=kZ hw;obtain ⟨y,hy⟩:=h x;have h1:Sp Z (c::(Q' y++L)) w:=ta (hy.append_right L) Z w hx;exact mZ c (fE (Q:=Q') y) Z w h1
theorem JP {Q:ι->W8}{Q':κ->W8}(h:∀y, ∃x,(c::Q' y).Perm (Q x)):Cv (c::dX Q'::L) (dX Q::L):=fun Z w hw=>by
 obtain ⟨y,hy⟩:=kZ (ta (List.Perm.swap _ _ _) Z w hw);obtain ⟨x,hx⟩:=h y;have h1:Sp Z (c::(Q' y++L)) w:=ta Yn Z w hy;exact fE (Q:=Q) x Z w (ta (hx.append_right L) Z w h1)
end
section
open Go.RowKit
inductive FndL:Chunk->W8->Prop
  |sl {α:Type} {R:Rep α} {v xs L}:FndL (gK R v xs) (gK R v xs::L)
  |so {α:Type} {R:Rep α} {e v xs L}:FndL (gK R v xs) (bd R e v xs::L)
  |bb {b t cs L:_}:FndL (aW b t cs) (ah b t cs::L)
  |br {b:Nat} {t:TypeId} {cs L}:FndL (aW b t cs) (aW b t cs::L)
  |mm {α β:Type} {ek:α->Value} {ev:β->Value} {m kv L}:FndL (qJ ek ev m kv) (bB ek ev m kv::L)
  |mr {α β:Type} {ek:α->Value} {ev:β->Value} {m kv L}:FndL (qJ ek ev m kv) (qJ ek ev m kv::L)
  |pk {ι κ:Type} {Q:ι->W8} {R:κ->W8} {L} [h:LentP Q R]:FndL (Kj R) (dX Q::L)
  |pq {ι κ:Type} {Q:ι->W8} {R:κ->W8} {L} [h:LentQ Q R]:FndL (Kj R) (dX Q::L)
  |pr {ι:Type} {Q:ι->W8} {L}:FndL (Kj Q) (Kj Q::L)
  |rm {ι:Type} {Q:ι->W8} {c L} [h:MemR Q c]:FndL c (Kj Q::L)
  |s {c d L:_} (h:FndL c L):FndL c (d::L)
theorem FndL.lent' (h:FndL c L): ∃(i:Nat) (d:Chunk),L[i]? =some d/\ ∀(L':W8) (j:Nat),L'[j]? =some d->xo L' c:=by
  induction h with
  |sl=>exact ⟨0,_,rfl,fun _ _ h=>dc h rfl⟩
  |so=>exact ⟨0,_,rfl,fun _ _ h=>jw h⟩
  |bb=>exact ⟨0,_,rfl,fun _ _ h=>yd h⟩
  |br=>exact ⟨0,_,rfl,fun _ _ h=>dc h rfl⟩
  |mm=>exact ⟨0,_,rfl,fun _ _ h=>Fl h⟩
  |mr=>exact ⟨0,_,rfl,fun _ _ h=>dc h rfl⟩
  |pk=>exact ⟨0,_,rfl,fun _ _ h=>ze h⟩
  |pq=>exact ⟨0,_,rfl,fun _ _ h=>ze h⟩
  |pr=>exact ⟨0,_,rfl,fun _ _ h=>dc h rfl⟩
  |rm=>exact ⟨0,_,rfl,fun _ _ h=>Ra h⟩
  |s _ ih=>obtain ⟨i,d,h1,h2⟩:=ih;exact ⟨i+1,d,h1,h2⟩
theorem FndL.lent (h:FndL c L):xo L c:=by
  obtain ⟨i,d,h1,h2⟩:=h.lent';exact h2 L i h1
def Co (L pre:W8):Prop:= ∀c∈pre,xo L c
theorem UU:Co L []:=au
theorem UV (h:FndL c L)(k:Co L pre):Co L (c::pre):=t5 h.lent k
theorem Rf (h:L'=L)(k:Co L pre):Co L' pre:=h▸k
theorem UZ {p:α->Prop}{Q:Prop}(k:∀a,p a->Q):(∃a,p a)->Q:=fun ⟨a,h⟩=>k a h
theorem Wg {a b Q:Prop}(k:b->Q):a/\b->Q:=fun h=>k h.2
theorem We {C:W8}(k:∀c∈C,ij c):post=C-> ∀c∈post,ij c:=fun h=>h▸k
theorem UX: ∀c∈([]:W8),ij c:=au
theorem UW {sz:Nat}{en:α->W9}{h1:∀x,(en x).length=sz}{h2:∀x,(en x).all (·.oneCell')=true}{e:TypeId}{xs:List α}{l:W8}(k:∀c∈l,ij c): ∀c∈(bd (Rep.flat sz en h1 h2) e v xs::l),ij c:=t5 qv k
theorem U0 {b:Nat}{l:W8}(k:∀c∈l,ij c): ∀c∈(ah b t cs::l),ij c:=t5 BT k
theorem UY {β:Type}{ek:α->Value}{ev:β->Value}{m:Nat}{kv:List (α×β)}{l:W8}(k:∀c∈l,ij c): ∀c∈(bB ek ev m kv::l),ij c:=t5 CY k
inductive FndC (c:Chunk):W8->W8->Prop
  |w {L:_}:FndC c (c::L) L
  |s {d L M:_} (h:FndC c L M):FndC c (d::L) (d::M)
theorem R1 {d:Chunk}:Cv (c::d::L) (d::c::L):=yq [1,0] 2 rfl rfl
theorem FndC.cv (h:FndC c L M):Cv L (c::M):=by
  induction h with
  |w=>exact ad _
  |s _ ih=>exact (mZ _ ih).trans R1
inductive FndD (c:Chunk):W8->Prop
  |w {L:_}:FndD c (c::L)
  |s {d L:_} (h:FndD c L):FndD c (d::L)
theorem FndD.cv (h:FndD c L)(hc:c.ro=true):Cv L (c::L):=by
  obtain ⟨i,hi⟩: ∃i:Nat,L[i]? =some c:=by
    induction h with
    |w=>exact ⟨0,rfl⟩
    |s _ ih=>obtain ⟨i,h⟩:=ih;exact ⟨i+1,h⟩
  exact Lh i hi hc
def Tk (L pre rest:W8):Prop:=Cv L (pre++rest)
theorem UR:Tk L [] L:=ad _
theorem US {rest:W8}(h:FndC c L M)(k:Tk M pre rest):Tk L (c::pre) rest:=h.cv.trans (mZ c k)
theorem VG {rest:W8}(h:FndD c L)(hc:c.ro=true)(k:Tk L pre rest):Tk L (c::pre) rest:=(h.cv hc).trans (mZ c k)
theorem UQ {R:Rep α}{xs:List α}{rest:W8}(h:FndD (gK R v xs) L)(k:Tk L pre rest):Tk L (gK R v xs::pre) rest:=VG h rfl k
theorem UT {b:Nat}{rest:W8}(h:FndD (aW b t cs) L)(k:Tk L pre rest):Tk L (aW b t cs::pre) rest:=VG h rfl k
theorem Qx {rest:W8}(h:L'=L)(k:Tk L pre rest):Tk L' pre rest:=h▸k
class FcK (P:Program) (f:FuncId):Prop where
  out:qH P f
section
variable {d:Option Nat}
theorem oR (hc:Okc P f vs pre R)(hv:FN s xs=some vs:=by exact rfl)(hp:Co L pre:=by
      apply Rf (by repeat (first|exact mL rfl|apply jJ rfl|exact rfl))
      repeat (first|exact UU|apply UV (by with_reducible repeat (first|apply FndL.bb|apply FndL.br|apply FndL.sl|apply FndL.so|apply FndL.mm|apply FndL.mr|apply FndL.pq|apply FndL.pk|apply FndL.pr|apply FndL.rm|apply FndL.s))|apply leZ))(hr:∀v post,R v post-> ∀c∈post,ij c:=by
      intro v post
      repeat (first|(refine UZ ?_;intro _)|refine Wg ?_)
      refine We ?_
      repeat (first|exact UX|refine U0 ?_|refine UY ?_|refine UW ?_)):OpX P s L ⟨d,.call ⟨.value (.func f),xs.toArray,ats⟩,ty,pos,af,gd⟩ fun u L'=> ∃post,R u post/\L'=post++L:=aH hc hv hp hr
theorem oC {rest:W8}(hc:Okc P f vs pre R)(hv:FN s xs=some vs:=by exact rfl)(hp:Tk L pre rest:=by
      apply Qx (by repeat (first|exact mL rfl|apply jJ rfl|exact rfl))
      repeat (first|exact UR|apply UQ (by with_reducible repeat (first|apply FndD.w|apply FndD.s))|apply UT (by with_reducible repeat (first|apply FndD.w|apply FndD.s))|apply tkM (by with_reducible repeat (first|apply FndD.w|apply FndD.s))|apply tkR (by with_reducible repeat (first|apply FndD.w|apply FndD.s))|apply US (by with_reducible repeat (first|apply FndC.w|apply FndC.s)))):OpX P s L ⟨d,.call ⟨.value (.func f),xs.toArray,ats⟩,ty,pos,af,gd⟩ fun u L'=> ∃post,R u post/\L'=post++rest:=dq hc hv hp
end
inductive FndX (b:Nat) (bt:TypeId) (cs:W9):W8->Prop
  |w {L:_}:FndX b bt cs (ah b bt cs::L)
  |s {c L:_} (h:FndX b bt cs L):FndX b bt cs (c::L)
theorem FndX.ix {b:Nat}(h:FndX b bt cs L): ∃i:Nat,L[i]? =some (ah b bt cs):=by
  induction h with
  |w=>exact ⟨0,rfl⟩
  |s _ ih=>obtain ⟨i,h⟩:=ih;exact ⟨i+1,h⟩
theorem aN:All2 (vo P L s) [] []:=.nil
theorem aT {t:Nat}(h:jP s t=some v)(k:All2 (vo P L s) rs vs):All2 (vo P L s) (.tmp t::rs) (v::vs):=.cons (dP h) k
theorem aS {t ty b:Nat}(hu:FcG P ty n)(hl:jP s t=some (.pointer (some ⟨b,0,none⟩)))(hi:FndX b bt cs L)(hc:cs=us)(hn:us.length=n)(k:All2 (vo P L s) rs vs):All2 (vo P L s) (.cell t ty::rs) (.agg us.toArray::vs):=by
  obtain ⟨i,hi⟩:=hi.ix;subst hc;exact .cons (dy i hi hl (hn▸hu.out)) k
theorem aO {t ty b:Nat}(hu:Fc (iv P ty=true))(hl:jP s t=some (.pointer (some ⟨b,0,none⟩)))(hi:FndX b bt [v] L)(k:All2 (vo P L s) rs vs):All2 (vo P L s) (.cell t ty::rs) (v::vs):=by
  obtain ⟨i,hi⟩:=hi.ix;exact .cons (HR i hi hl hu.out) k
theorem PQ {T:W8}(h:L'=L)(k:Cv L T):Cv L' T:=h▸k
theorem UH {T:W8}(k:Cv L T):Cv (c::L) T:=(cv_tl).trans k
theorem UF:Cv L []:=fun Z w h=>by
  have:=(yq (L:=L) [] L.length (by simp [Gl]) (by simp)) Z w h;simpa [DL] using this
theorem UG (h:FndC c L M)(k:Cv M L2):Cv L (c::L2):=h.cv.trans (mZ c k)
theorem UE {R:Rep α}{xs:List α}(h:FndD (gK R v xs) L)(k:Cv L L2):Cv L (gK R v xs::L2):=(h.cv rfl).trans (mZ _ k)
theorem Vv (hr:fn.results=rs.toArray)(h1:All2 (vo X.P L s) rs vs)(hv:Vb vs=v)(hR:R v L2)(hc:Cv L L2):Oh X fn R .ret s L:=kI hr h1 hv hc hR
theorem eN {p:Prop}(hh:p:=by
    obtain rfl:=bD h
    first|apply Vv rfl|apply endN rfl
    repeat (first|exact aN|apply aT rfl|apply aS (by infer_instance) rfl (by with_reducible repeat (first|apply FndX.w|apply FndX.s)) (by repeat (first|exact Ay rfl|apply wx rfl)) (by exact rfl)|apply aO (by infer_instance) rfl (by with_reducible repeat (first|apply FndX.w|apply FndX.s)))
    exact J
    repeat (apply Exists.intro)
    exact ⟨J,J⟩
    all_goals (try apply PQ (by repeat (first|exact mL rfl|apply jJ rfl|exact rfl)))
    all_goals (repeat (first|exact UF|apply UE (by with_reducible repeat (first|apply FndD.w|apply FndD.s))|apply UG (by with_reducible repeat (first|apply FndC.w|apply FndC.s))|apply cwF (by with_reducible repeat (first|apply FndC.w|apply FndC.s))|apply cwZ|apply cwY|exact ad _|apply UH))):p:=hh
theorem VJ {Fam:bF->W8->Prop}(h:Fam s2 L2)(hs:AO s s2)(hc:Cv L L2): ∃s2 L2,Fam s2 L2/\AO s s2/\Cv L L2:=⟨s2,L2,h,hs,hc⟩
theorem jN {p:Prop}(hh:p:=by
    apply VJ
    repeat (apply Exists.intro)
    exact ⟨h,J,J⟩
    all_goals (try exact sA)
    all_goals (try apply PQ (by repeat (first|exact mL rfl|apply jJ rfl|exact rfl)))
    all_goals (repeat (first|exact UF|apply UE (by with_reducible repeat (first|apply FndD.w|apply FndD.s))|apply UG (by with_reducible repeat (first|apply FndC.w|apply FndC.s))|apply cwF (by with_reducible repeat (first|apply FndC.w|apply FndC.s))|apply cwZ|apply cwY|exact ad _|apply UH))):p:=hh
theorem V7 {Fam:Nat->bF->W8->Prop}{m:Nat}(h:Fam m s2 L2)(hs:AO s s2)(hc:Cv L L2): ∃m' s3 L3,m'<m+1/\Fam m' s3 L3/\AO s s3/\Cv L L3:=⟨m,s2,L2,W0 _,h,hs,hc⟩
theorem lN {p:Prop}(hh:p:=by
    apply V7
    repeat (apply Exists.intro)
    exact ⟨h,J,J⟩
    all_goals (try exact sA)
    all_goals (try apply PQ (by repeat (first|exact mL rfl|apply jJ rfl|exact rfl)))
    all_goals (repeat (first|exact UF|apply UE (by with_reducible repeat (first|apply FndD.w|apply FndD.s))|apply UG (by with_reducible repeat (first|apply FndC.w|apply FndC.s))|apply cwF (by with_reducible repeat (first|apply FndC.w|apply FndC.s))|apply cwZ|apply cwY|exact ad _|apply UH))):p:=hh
instance repInt {k:IntKind}:RepF (nH k) (fun x=> [.int k x]):=⟨fun _ _ _ _ h=>h⟩
section
variable {d:Nat}
theorem VU {R:Rep α}{e:TypeId}{xs:List α}[hu:FcS P t e](hx:bl s x=some v)(he:FndE R v xs L):RdS P s L ⟨some d,.call ⟨.builtin .len, #[x], #[t]⟩,ty,pos,af,gd⟩ (.int .i64 (xs.length:Int)):=⟨by
  obtain ⟨j,c,h,e⟩:=he.ix
  exact lj j h e hx hu.out⟩
theorem Va {y:Operand}{a b:Int}(hx:bl s x=some (.int .i64 a))(hy:bl s y=some (.int .i64 b))(h:in64 (a+b)):RdS P s L ⟨some d,.binOp .add t x y u,ty,pos,af,gd⟩ (.int .i64 (a+b)):=⟨fun _ _ _=>iz hx hy h.1 h.2⟩
theorem U8 {y:Operand}{a b:Int}(hx:bl s x=some (.int .i64 a))(hy:bl s y=some (.int .i64 b))(h:in64 (a - b)):RdS P s L ⟨some d,.binOp .sub t x y u,ty,pos,af,gd⟩ (.int .i64 (a - b)):=⟨fun _ _ _=>wD hx hy h.1 h.2⟩
theorem VQ {vs:Array Value}(hx:bl s x=some (.tuple vs))(hi:vs.toList[i]? =some v):RdS P s L ⟨some d,.extract x i,ty,pos,af,gd⟩ v:=⟨fun _ _ _=>cO hx (by simpa using hi)⟩
theorem TP (h:RdS P s L ⟨some d,op,ty,pos,af,gd⟩ v:=by
  first
    |exact VQ rfl rfl
    |exact VZ rfl
    |exact U9 rfl
    |exact VY rfl
    |exact V3 rfl (by with_reducible repeat (first|apply FndR.w|apply FndR.r|apply FndR.s)) (by exact rfl)
    |exact VR rfl (by with_reducible repeat (first|apply FndR.w|apply FndR.r|apply FndR.s)) (by repeat (first|exact Ay rfl|apply wx rfl)) (by exact rfl)
    |exact V0 (by repeat (first|exact Vt|apply Vu rfl)) (by infer_instance)
    |exact VU rfl (by with_reducible repeat (first|apply FndE.w bj|apply FndE.w ao|apply FndE.s))
    |exact VV rfl rfl (by with_reducible repeat (first|apply FndE.w bj|apply FndE.w ao|apply FndE.s)) (by assumption) (by assumption)
    |exact VX rfl (by with_reducible repeat (first|apply FndE.w bj|apply FndE.w ao|apply FndE.s)) (by infer_instance) (by assumption) (by exact rfl) (by repeat (first|exact Ay rfl|apply wx rfl)) (by exact rfl)
    |exact VW rfl (by with_reducible repeat (first|apply FndE.w bj|apply FndE.w ao|apply FndE.s)) (by infer_instance) (by assumption) (by exact rfl) (by exact rfl)
    |exact Va rfl rfl (by assumption)
    |exact U8 rfl rfl (by assumption)
    |exact VT rfl (by assumption) rfl
    |exact VS rfl (by assumption) rfl):RdS P s L ⟨some d,op,ty,pos,af,gd⟩ v:=h
end
section
theorem TS {B:W8}(h:bm X ops l K s (A++B)):bm X ops l K s (A++B):=h
theorem V9 (h:bm X ops l K s (A.set i c)):bm X ops l K s (A.set i c):=h
theorem Vm {y:Code}(h:Wq X y K s (A.set i c)):Wq X y K s (A.set i c):=h
theorem Wa {B:W8}{c:Code}(h:Wq X c K s (A++B)):Wq X c K s (A++B):=h
end
theorem ab {p q:Prop}(k:q)(h:Bxd q->p:=by
  intro k
  repeat (first
    | (with_reducible first|refine TS ?_|refine V9 ?_
       refine im ?_)
    | (with_reducible refine TR ?_
       refine Vq J ?_
       first
         | (refine Vc ?_
            first
              |refine tR TP rfl rfl ?_
              |refine tW rfl rfl (by repeat (first|exact Ay rfl|apply wx rfl)) (by with_reducible repeat (first|apply FndW.w|apply FndW.s)) (by repeat (first|exact Ay rfl|apply wx rfl)) (by exact rfl) (by exact rfl) (by exact rfl) ?_
              |refine tA (by repeat (first|exact Ay rfl|apply wx rfl)) rfl ?_
              |refine tX rfl (by repeat (first|exact Ay rfl|apply wx rfl)) rfl ?_)
         |refine Vd ?_)
    | (with_reducible refine TR ?_
       fail_if_success with_reducible refine Vo ?_
       refine Vn J ?_)
    | (with_reducible first|refine Wa ?_|refine Vm ?_
       refine Ub ?_)
    | (with_reducible refine Vl ?_
       first
         |refine aA (jF ?_)
         |with_reducible refine jF ?_
         |with_reducible refine IK ?_
         | (fail_if_success with_reducible refine Vp ?_
            with_reducible refine wM ?_)
         |with_reducible refine J8 ?_
         |with_reducible refine Ls ?_)
    | (with_reducible refine V8 ?_
       first
         |refine tZ _ rfl rfl TP O (by exact rfl) (by exact rfl) ?_
         |refine tU _ rfl rfl (by exact rfl) O (by exact rfl) ?_
         |refine tN O ?_)
    |with_reducible refine qk ?_
    |with_reducible refine R5 ?_
    |with_reducible refine TB ?_
    |with_reducible refine TA ?_
    |with_reducible refine QY ?_
    |with_reducible refine Ta ?_)
  exact k.un):p:=h ⟨k⟩
structure CvA (L L2:W8):Prop where
  out:Cv L L2
theorem cX (h:CvA L L2:=by
    refine CvA.mk ?_;apply PQ (by repeat (first|exact mL rfl|apply jJ rfl|exact rfl))
    repeat (first|exact UF|apply UE (by with_reducible repeat (first|apply FndD.w|apply FndD.s))|apply UG (by with_reducible repeat (first|apply FndC.w|apply FndC.s))|apply cwF (by with_reducible repeat (first|apply FndC.w|apply FndC.s))|apply cwZ|apply cwY|exact ad _|apply UH)):Cv L L2:=h.out
theorem gJ {pd:Nat}{a b:Bool}(h:some a=some b)(hs:AO s ((pd,.bool a)::s2):=by exact sA)(hl:Cv L L2:=by exact cX):bm X ops [] (uU ((pd,.bool b)::s2) L2) s L:=by
  cases h;exact aU hs hl
theorem gS (k pd gc:Nat){c:Bool}{u v:Option Bool}{f:Bool->Option ρ}{r:ρ}(h:(bif c then u else v).bind f=some r)(k2:∀b,f b=some r->bm X ops (l.drop k) K ((pd,.bool b)::s) L)(hc:bl s (.tmp gc)=some (.bool c):=by exact rfl)(h1:∀b,c=true->u=some b->bm X ops (l.take k) (uU ((pd,.bool b)::s) L) s L:=by
      intro b g h;refine ab ?_
      exact gJ h)(h2:∀b,c=false->v=some b->bm X ops (l.take k) (uU ((pd,.bool b)::s) L) s L:=by
      intro b g h;refine ab ?_
      exact gJ h):bm X ops l K s L:=by
  obtain ⟨b,hb,h⟩:=aa h;refine fd k pd b ?_ (k2 b h)
  cases hg:c with
  |true=>exact h1 b hg (cG hg hb)
  |false=>exact h2 b hg (cH hg hb)
end
section
open Go.RowKit
theorem bz {xs:List α}{i:Int}{f:α->Option ρ}{r:ρ}(h:(aq xs i).bind f=some r): ∃x,0<=i/\i<xs.length/\xs[i.toNat]? =some x/\f x=some r:=by
  obtain ⟨x,hx,h⟩:=aa h;obtain ⟨l,u,hx⟩:=jZ hx;exact ⟨x,l,u,hx,h⟩
theorem ce {c:Code}{q:Prop}(hf:P.funcs[f]? =some fn)(k:q)(hb:fn.body=some c:=by exact rfl)(hn:Nat.ble args.length fn.ntmps=true:=by exact rfl)(hm:(fn.name== "runtime.NumGoroutine")=false:=by exact rfl)(h:Bxd q->Wq ⟨P,fn.ntmps,none⟩ c (Oh ⟨P,fn.ntmps,none⟩ fn R) (qQ args 0) L:=by
      intro k;simp only [qQ];refine ab ?_
      exact k.un):Okc P f args L R:=CJ hf hb hn (h ⟨k⟩) hm
theorem eY {p:Prop}(hh:p:=by
    refine ab ?_
    exact eN):p:=hh
theorem jY {p:Prop}(hh:p:=by
    refine ab ?_
    exact jN):p:=hh
theorem lY {p:Prop}(hh:p:=by
    refine ab ?_
    exact lN):p:=hh
theorem gY {p:Prop}(hh:p:=by
    refine ab ?_
    exact gJ h):p:=hh
theorem cl {p:Prop}{q:Nat->Prop}(k:∀b,q b)(h:(∀b,Bxd (q b))->p:=by
    intro k;refine ab ?_;intro b;refine ab ?_
    exact (k b).un):p:=h fun b=>⟨k b⟩
theorem sY {p q:Prop}(k:q)(h:Bxd q->p:=by
    intro k;refine ab ?_;refine aA ?_;refine ab ?_
    exact k.un):p:=h ⟨k⟩
theorem sZ {p q:Prop}(k:q)(h:Bxd q->p:=by
    intro k;refine aA ?_;refine ab ?_
    exact k.un):p:=h ⟨k⟩
section
theorem dv {p:Prop}{c:Operand}{x y:Code}{b:Bool}{u v r:Option ρ}(h:(bif b then u else v)=r)(ht:u=r->Wq X x K s L)(hf:v=r->Wq X y K s L)(h0:Bxd (Wq X (.cond c x y) K s L)->p:=by
      intro k;refine ab ?_
      exact k.un)(hc:bl s c=some (.bool b):=by exact rfl):p:=h0 ⟨gH hc h ht hf⟩
variable {rest:List Oper}{d:Nat}{q:Prop}
theorem K7 (h:Rd X.P s L ⟨some d,op,ty,pos,af,gd⟩ v)(k:q)(hr:Bxd q->bm X ops rest K ((d,v)::s) L:=by
      intro k;refine ab ?_
      exact k.un)(hn:eZ ⟨some d,op,ty,pos,af,gd⟩=true:=by rfl)(hg:aD ops s ⟨some d,op,ty,pos,af,gd⟩=some true:=by rfl)(hd:Nat.ble (d+1) X.n=true:=by rfl):bm X ops (⟨some d,op,ty,pos,af,gd⟩::rest) K s L:=gR h (hr ⟨k⟩) hn hg hd
theorem fY (h:Ev X.P s (fun _=>True) ⟨some d,op,ty,pos,af,gd⟩ v)(k:q)(hr:Bxd q->bm X ops rest K ((d,v)::s) L:=by
      intro k;refine ab ?_
      exact k.un)(hn:eZ ⟨some d,op,ty,pos,af,gd⟩=true:=by rfl)(hg:aD ops s ⟨some d,op,ty,pos,af,gd⟩=some true:=by rfl)(hd:Nat.ble (d+1) X.n=true:=by rfl):bm X ops (⟨some d,op,ty,pos,af,gd⟩::rest) K s L:=gE h (hr ⟨k⟩) hn hg hd
theorem F6 {C Z:W8}(h:OpX X.P s L ⟨some d,op,ty,pos,af,gd⟩ fun u L'=> ∃post,(u=v/\post=C)/\L'=post++Z)(k:q)(hr:Bxd q->bm X ops rest K ((d,v)::s) (C++Z):=by
      intro k;refine ab ?_
      exact k.un)(hn:eZ ⟨some d,op,ty,pos,af,gd⟩=true:=by rfl)(hg:aD ops s ⟨some d,op,ty,pos,af,gd⟩=some true:=by rfl)(hd:Nat.ble (d+1) X.n=true:=by rfl):bm X ops (⟨some d,op,ty,pos,af,gd⟩::rest) K s L:=gV h (hr ⟨k⟩) hn hg hd
theorem G8 {Z:W8}(h:OpX X.P s L ⟨none,op,ty,pos,af,gd⟩ fun _ L'=>L'=Z)(k:q)(hr:Bxd q->bm X ops rest K s Z:=by
      intro k;refine ab ?_
      exact k.un)(hn:eZ ⟨none,op,ty,pos,af,gd⟩=true:=by rfl)(hg:aD ops s ⟨none,op,ty,pos,af,gd⟩=some true:=by rfl):bm X ops (⟨none,op,ty,pos,af,gd⟩::rest) K s L:=gW h (hr ⟨k⟩) hn hg
theorem Wc {q:Nat->Prop}(h:OpX X.P s L ⟨some d,op,ty,pos,af,gd⟩ R)(k:∀(b:Nat),q b)(hr:(∀(b:Nat),Bxd (q b))-> ∀v L',R v L'->bm X ops rest K ((d,v)::s) L':=by
      intro k
      first|(rintro _ _ ⟨_,⟨b,rfl,rfl⟩,rfl⟩;refine ab ?_;exact (k b).un)|(rintro _ _ ⟨b,rfl,rfl⟩;refine ab ?_;exact (k b).un))(hn:eZ ⟨some d,op,ty,pos,af,gd⟩=true:=by rfl)(hg:aD ops s ⟨some d,op,ty,pos,af,gd⟩=some true:=by rfl)(hd:Nat.ble (d+1) X.n=true:=by rfl):bm X ops (⟨some d,op,ty,pos,af,gd⟩::rest) K s L:=gD h (hr fun b=>⟨k b⟩) hn hg hd
theorem vc {q:Option Addr->Nat->Nat->Prop}(h:OpX X.P s L ⟨some d,op,ty,pos,af,gd⟩ R)(k:∀(x0:Option Addr) (x1:Nat) (x2:Nat),q x0 x1 x2)(hr:(∀(x0:Option Addr) (x1:Nat) (x2:Nat),Bxd (q x0 x1 x2))-> ∀v L',R v L'->bm X ops rest K ((d,v)::s) L':=by
      intro k
      first|(rintro _ _ ⟨_,⟨x0,x1,x2,rfl,rfl⟩,rfl⟩;refine ab ?_;exact (k x0 x1 x2).un)|(rintro _ _ ⟨x0,x1,x2,rfl,rfl⟩;refine ab ?_;exact (k x0 x1 x2).un))(hn:eZ ⟨some d,op,ty,pos,af,gd⟩=true:=by rfl)(hg:aD ops s ⟨some d,op,ty,pos,af,gd⟩=some true:=by rfl)(hd:Nat.ble (d+1) X.n=true:=by rfl):bm X ops (⟨some d,op,ty,pos,af,gd⟩::rest) K s L:=gD h (hr fun x0 x1 x2=>⟨k x0 x1 x2⟩) hn hg hd
theorem Su {q:Option Addr->Nat->Nat->Option Addr->Nat->Nat->Prop}(h:OpX X.P s L ⟨some d,op,ty,pos,af,gd⟩ R)(k:∀(x0:Option Addr) (x1:Nat) (x2:Nat) (x3:Option Addr) (x4:Nat) (x5:Nat),q x0 x1 x2 x3 x4 x5)(hr:(∀(x0:Option Addr) (x1:Nat) (x2:Nat) (x3:Option Addr) (x4:Nat) (x5:Nat),Bxd (q x0 x1 x2 x3 x4 x5))-> ∀v L',R v L'->bm X ops rest K ((d,v)::s) L':=by
      intro k
      first|(rintro _ _ ⟨_,⟨x0,x1,x2,x3,x4,x5,rfl,rfl⟩,rfl⟩;refine ab ?_;exact (k x0 x1 x2 x3 x4 x5).un)|(rintro _ _ ⟨x0,x1,x2,x3,x4,x5,rfl,rfl⟩;refine ab ?_;exact (k x0 x1 x2 x3 x4 x5).un))(hn:eZ ⟨some d,op,ty,pos,af,gd⟩=true:=by rfl)(hg:aD ops s ⟨some d,op,ty,pos,af,gd⟩=some true:=by rfl)(hd:Nat.ble (d+1) X.n=true:=by rfl):bm X ops (⟨some d,op,ty,pos,af,gd⟩::rest) K s L:=gD h (hr fun x0 x1 x2 x3 x4 x5=>⟨k x0 x1 x2 x3 x4 x5⟩) hn hg hd
theorem Wb {q:Option Addr->Nat->Nat->Option Addr->Nat->Nat->Option Addr->Nat->Nat->Prop}(h:OpX X.P s L ⟨some d,op,ty,pos,af,gd⟩ R)(k:∀(x0:Option Addr) (x1:Nat) (x2:Nat) (x3:Option Addr) (x4:Nat) (x5:Nat) (x6:Option Addr) (x7:Nat) (x8:Nat),q x0 x1 x2 x3 x4 x5 x6 x7 x8)(hr:(∀(x0:Option Addr) (x1:Nat) (x2:Nat) (x3:Option Addr) (x4:Nat) (x5:Nat) (x6:Option Addr) (x7:Nat) (x8:Nat),Bxd (q x0 x1 x2 x3 x4 x5 x6 x7 x8))-> ∀v L',R v L'->bm X ops rest K ((d,v)::s) L':=by
      intro k
      first|(rintro _ _ ⟨_,⟨x0,x1,x2,x3,x4,x5,x6,x7,x8,rfl,rfl⟩,rfl⟩;refine ab ?_;exact (k x0 x1 x2 x3 x4 x5 x6 x7 x8).un)|(rintro _ _ ⟨x0,x1,x2,x3,x4,x5,x6,x7,x8,rfl,rfl⟩;refine ab ?_;exact (k x0 x1 x2 x3 x4 x5 x6 x7 x8).un))(hn:eZ ⟨some d,op,ty,pos,af,gd⟩=true:=by rfl)(hg:aD ops s ⟨some d,op,ty,pos,af,gd⟩=some true:=by rfl)(hd:Nat.ble (d+1) X.n=true:=by rfl):bm X ops (⟨some d,op,ty,pos,af,gd⟩::rest) K s L:=gD h (hr fun x0 x1 x2 x3 x4 x5 x6 x7 x8=>⟨k x0 x1 x2 x3 x4 x5 x6 x7 x8⟩) hn hg hd
theorem Uv {q:Option Addr->Nat->Nat->Option Addr->Nat->Nat->Option Addr->Nat->Nat->Option Addr->Nat->Nat->Prop}(h:OpX X.P s L ⟨some d,op,ty,pos,af,gd⟩ R)(k:∀(x0:Option Addr) (x1:Nat) (x2:Nat) (x3:Option Addr) (x4:Nat) (x5:Nat) (x6:Option Addr) (x7:Nat) (x8:Nat) (x9:Option Addr) (a6:Nat) (a7:Nat),q x0 x1 x2 x3 x4 x5 x6 x7 x8 x9 a6 a7)(hr:(∀(x0:Option Addr) (x1:Nat) (x2:Nat) (x3:Option Addr) (x4:Nat) (x5:Nat) (x6:Option Addr) (x7:Nat) (x8:Nat) (x9:Option Addr) (a6:Nat) (a7:Nat),Bxd (q x0 x1 x2 x3 x4 x5 x6 x7 x8 x9 a6 a7))-> ∀v L',R v L'->bm X ops rest K ((d,v)::s) L':=by
      intro k
      first|(rintro _ _ ⟨_,⟨x0,x1,x2,x3,x4,x5,x6,x7,x8,x9,a6,a7,rfl,rfl⟩,rfl⟩;refine ab ?_;exact (k x0 x1 x2 x3 x4 x5 x6 x7 x8 x9 a6 a7).un)|(rintro _ _ ⟨x0,x1,x2,x3,x4,x5,x6,x7,x8,x9,a6,a7,rfl,rfl⟩;refine ab ?_;exact (k x0 x1 x2 x3 x4 x5 x6 x7 x8 x9 a6 a7).un))(hn:eZ ⟨some d,op,ty,pos,af,gd⟩=true:=by rfl)(hg:aD ops s ⟨some d,op,ty,pos,af,gd⟩=some true:=by rfl)(hd:Nat.ble (d+1) X.n=true:=by rfl):bm X ops (⟨some d,op,ty,pos,af,gd⟩::rest) K s L:=gD h (hr fun x0 x1 x2 x3 x4 x5 x6 x7 x8 x9 a6 a7=>⟨k x0 x1 x2 x3 x4 x5 x6 x7 x8 x9 a6 a7⟩) hn hg hd
end
def Zl (_:List Nat)(p:Prop):Prop:=p
theorem UP {p:Prop}(h:p):Zl [] p:=h
section
variable {d:Nat}
theorem U7 (i:Nat){l:List Nat}(hi:ops[i]? =some ⟨some d,op,ty,pos,af,gd⟩)(h:RdS X.P s M ⟨some d,op,ty,pos,af,gd⟩ v)(hk:Oi ops listed i=true)(hg:aD ops s ⟨some d,op,ty,pos,af,gd⟩=some true)(hd:Nat.ble (d+1) X.n=true)(k:Zl l (mN X ops K M fuel (listed.setIfInBounds i true) ((d,v)::s) L)):Zl (i::l) (mN X ops K M (fuel+1) listed s L):=zR i hi h.out k hk hg hd
end
theorem zY (l:List Nat){p q:Prop}(k:q)(h:Bxd q->Zl l p:=by
    intro k
    repeat (refine U7 _ rfl TP O (by exact rfl) (by exact rfl) ?_)
    refine UP ?_
    exact k.un):p:=h ⟨k⟩
theorem VN {l:List Nat}{p q:Prop}(f:q->p)(h:Zl l q):Zl l p:=f h
theorem zX (l:List Nat){p q:Prop}(k:q)(h:Bxd q->Zl l p:=by
    intro k
    repeat (refine U7 _ rfl TP O (by exact rfl) (by exact rfl) ?_)
    refine UP ?_;refine bq O ?_
    exact k.un):p:=h ⟨k⟩
theorem dY (l:List Nat){p q:Prop}(k:q)(h:Bxd q->Zl l p:=by
    intro k;refine VN (fun h=>aA (bh O _ (ad _) h)) ?_
    repeat (refine U7 _ rfl TP O (by exact rfl) (by exact rfl) ?_)
    refine UP ?_
    exact k.un):p:=h ⟨k⟩
theorem bY {P:W8->Prop}(k:P M)(h:Cv L M:=by exact cX): ∃M',Cv L M'/\Cv M' M/\P M':=mj h k
section
variable {d:Nat}
theorem MN (i:Nat){q:Nat->Prop}(hi:ops[i]? =some ⟨some d,op,ty,pos,af,gd⟩)(h:OpX X.P s L ⟨some d,op,ty,pos,af,gd⟩ R)(k:∀(x0:Nat),q x0)(hq:(∀(x0:Nat),Bxd (q x0))-> ∀v L',R v L'-> ∃M',Cv L' M'/\Cv M' M/\mN X ops K M' fuel (listed.setIfInBounds i true) ((d,v)::s) L':=by
      intro k
      first
        | rintro _ _ ⟨_,⟨x0,rfl,rfl⟩,rfl⟩
          refine bY ?_;refine bu ?_;exact (k x0).un
        | rintro _ _ ⟨x0,rfl,rfl⟩
          refine bY ?_;refine bu ?_
          exact (k x0).un)(hr:Region.ready .any ops listed=[i]:=by kernel_rfl)(hn:eZ ⟨some d,op,ty,pos,af,gd⟩=true:=by exact rfl)(hg:aD ops s ⟨some d,op,ty,pos,af,gd⟩=some true:=by exact rfl)(hd:Nat.ble (d+1) X.n=true:=by exact rfl):mN X ops K M (fuel+1) listed s L:=zD i hi h (hq fun x0=>⟨k x0⟩) hr hn hg hd
theorem Dc (i:Nat){q:Option Addr->Nat->Nat->Prop}(hi:ops[i]? =some ⟨some d,op,ty,pos,af,gd⟩)(h:OpX X.P s L ⟨some d,op,ty,pos,af,gd⟩ R)(k:∀(x0:Option Addr) (x1:Nat) (x2:Nat),q x0 x1 x2)(hq:(∀(x0:Option Addr) (x1:Nat) (x2:Nat),Bxd (q x0 x1 x2))-> ∀v L',R v L'-> ∃M',Cv L' M'/\Cv M' M/\mN X ops K M' fuel (listed.setIfInBounds i true) ((d,v)::s) L':=by
      intro k
      first
        | rintro _ _ ⟨_,⟨x0,x1,x2,rfl,rfl⟩,rfl⟩
          refine bY ?_;refine bu ?_;exact (k x0 x1 x2).un
        | rintro _ _ ⟨x0,x1,x2,rfl,rfl⟩
          refine bY ?_;refine bu ?_
          exact (k x0 x1 x2).un)(hr:Region.ready .any ops listed=[i]:=by kernel_rfl)(hn:eZ ⟨some d,op,ty,pos,af,gd⟩=true:=by exact rfl)(hg:aD ops s ⟨some d,op,ty,pos,af,gd⟩=some true:=by exact rfl)(hd:Nat.ble (d+1) X.n=true:=by exact rfl):mN X ops K M (fuel+1) listed s L:=zD i hi h (hq fun x0 x1 x2=>⟨k x0 x1 x2⟩) hr hn hg hd
theorem VP (i:Nat){q:Option Addr->Nat->Nat->Option Addr->Nat->Nat->Prop}(hi:ops[i]? =some ⟨some d,op,ty,pos,af,gd⟩)(h:OpX X.P s L ⟨some d,op,ty,pos,af,gd⟩ R)(k:∀(x0:Option Addr) (x1:Nat) (x2:Nat) (x3:Option Addr) (x4:Nat) (x5:Nat),q x0 x1 x2 x3 x4 x5)(hq:(∀(x0:Option Addr) (x1:Nat) (x2:Nat) (x3:Option Addr) (x4:Nat) (x5:Nat),Bxd (q x0 x1 x2 x3 x4 x5))-> ∀v L',R v L'-> ∃M',Cv L' M'/\Cv M' M/\mN X ops K M' fuel (listed.setIfInBounds i true) ((d,v)::s) L':=by
      intro k
      first
        | rintro _ _ ⟨_,⟨x0,x1,x2,x3,x4,x5,rfl,rfl⟩,rfl⟩
          refine bY ?_;refine bu ?_;exact (k x0 x1 x2 x3 x4 x5).un
        | rintro _ _ ⟨x0,x1,x2,x3,x4,x5,rfl,rfl⟩
          refine bY ?_;refine bu ?_
          exact (k x0 x1 x2 x3 x4 x5).un)(hr:Region.ready .any ops listed=[i]:=by kernel_rfl)(hn:eZ ⟨some d,op,ty,pos,af,gd⟩=true:=by exact rfl)(hg:aD ops s ⟨some d,op,ty,pos,af,gd⟩=some true:=by exact rfl)(hd:Nat.ble (d+1) X.n=true:=by exact rfl):mN X ops K M (fuel+1) listed s L:=zD i hi h (hq fun x0 x1 x2 x3 x4 x5=>⟨k x0 x1 x2 x3 x4 x5⟩) hr hn hg hd
theorem MM (i:Nat){q:Option Addr->Nat->Nat->Option Addr->Nat->Nat->Option Addr->Nat->Nat->Option Addr->Nat->Nat->Prop}(hi:ops[i]? =some ⟨some d,op,ty,pos,af,gd⟩)(h:OpX X.P s L ⟨some d,op,ty,pos,af,gd⟩ R)(k:∀(x0:Option Addr) (x1:Nat) (x2:Nat) (x3:Option Addr) (x4:Nat) (x5:Nat) (x6:Option Addr) (x7:Nat) (x8:Nat) (x9:Option Addr) (a6:Nat) (a7:Nat),q x0 x1 x2 x3 x4 x5 x6 x7 x8 x9 a6 a7)(hq:(∀(x0:Option Addr) (x1:Nat) (x2:Nat) (x3:Option Addr) (x4:Nat) (x5:Nat) (x6:Option Addr) (x7:Nat) (x8:Nat) (x9:Option Addr) (a6:Nat) (a7:Nat),Bxd (q x0 x1 x2 x3 x4 x5 x6 x7 x8 x9 a6 a7))-> ∀v L',R v L'-> ∃M',Cv L' M'/\Cv M' M/\mN X ops K M' fuel (listed.setIfInBounds i true) ((d,v)::s) L':=by
      intro k
      first
        | rintro _ _ ⟨_,⟨x0,x1,x2,x3,x4,x5,x6,x7,x8,x9,a6,a7,rfl,rfl⟩,rfl⟩
          refine bY ?_;refine bu ?_;exact (k x0 x1 x2 x3 x4 x5 x6 x7 x8 x9 a6 a7).un
        | rintro _ _ ⟨x0,x1,x2,x3,x4,x5,x6,x7,x8,x9,a6,a7,rfl,rfl⟩
          refine bY ?_;refine bu ?_
          exact (k x0 x1 x2 x3 x4 x5 x6 x7 x8 x9 a6 a7).un)(hr:Region.ready .any ops listed=[i]:=by kernel_rfl)(hn:eZ ⟨some d,op,ty,pos,af,gd⟩=true:=by exact rfl)(hg:aD ops s ⟨some d,op,ty,pos,af,gd⟩=some true:=by exact rfl)(hd:Nat.ble (d+1) X.n=true:=by exact rfl):mN X ops K M (fuel+1) listed s L:=zD i hi h (hq fun x0 x1 x2 x3 x4 x5 x6 x7 x8 x9 a6 a7=>⟨k x0 x1 x2 x3 x4 x5 x6 x7 x8 x9 a6 a7⟩) hr hn hg hd
end
theorem aQ {α:Sort _}{p:α->Prop}{q:Prop}(k:∀a,p a->q):(∃a,p a)->q:=fun ⟨a,h⟩=>k a h
theorem K9 {c:Prop}{X:bF}{hO:W8}{q:bF->W8->Prop}(k:c->q X hO):c/\s=X/\L=hO->q s L:=fun ⟨h,e1,e2⟩=>by subst e1 e2;exact k h
end
section
variable {n2:Nat}
open Go.RowKit
section
variable {d:Nat}
theorem VM (i:Nat){l:List Nat}(hi:ops[i]? =some ⟨some d,op,ty,pos,af,gd⟩)(hg:aD ops s ⟨some d,op,ty,pos,af,gd⟩=some false)(hk:Oi ops listed i=true)(hd:Nat.ble (d+1) X.n=true)(k:Zl l (mN X ops K M fuel (listed.setIfInBounds i true) ((d,undef)::s) L)):Zl (i::l) (mN X ops K M (fuel+1) listed s L):=iM i hi hk hg hd k
theorem VO (i:Nat){l:List Nat}(hi:ops[i]? =some ⟨some d,op,ty,pos,af,gd⟩)(hg:aD ops s ⟨some d,op,ty,pos,af,gd⟩=some true)(h:RdS X.P s M ⟨some d,op,ty,pos,af,gd⟩ v)(hk:Oi ops listed i=true)(hd:Nat.ble (d+1) X.n=true)(k:Zl l (mN X ops K M fuel (listed.setIfInBounds i true) ((d,v)::s) L)):Zl (i::l) (mN X ops K M (fuel+1) listed s L):=zR i hi h.out k hk hg hd
end
theorem yY (l:List Nat){p q:Prop}(k:q)(h:Bxd q->Zl l p:=by
  intro k
  repeat (first
   |refine VM _ rfl (by first|exact rfl|exact uc (by assumption) rfl|exact DR (by assumption) rfl) O (by exact rfl) ?_
   |refine VO _ rfl (by first|exact rfl|exact ca (by assumption) rfl|exact dw (by assumption) rfl) TP O (by exact rfl) ?_)
  refine UP ?_
  exact k.un):p:=h ⟨k⟩
section
theorem yS {n2 pd:Nat}{l:Array Bool}{a b:Bool}(rest:mN X ops K M n2 l ((pd,.bool b)::s2) L2)(h:some a=some b)(hs:AO s ((pd,.bool a)::s2):=by exact sA)(hl:Cv L L2:=by exact cX)(hm:Cv L2 M:=by exact cX):mN X ops K M n2 l s L:=by
 cases h;exact qF rest hs hl hm
theorem yJ (ix:List Nat)(n2 gc pd:Nat){c:Bool}{u v:Option Bool}{f:Bool->Option ρ}{r:ρ}(h:(bif c then u else v).bind f=some r)(h1:∀b,c=true->u=some b->mN X ops K M n2 (pW listed ix) ((pd,.bool b)::s) L->mN X ops K M fuel listed s L)(h2:∀b,c=false->v=some b->mN X ops K M n2 (pW listed ix) ((pd,.bool b)::s) L->mN X ops K M fuel listed s L)(k2:∀b,f b=some r->mN X ops K M n2 (pW listed ix) ((pd,.bool b)::s) L)(hc:jP s gc=some (.bool c):=by exact rfl):mN X ops K M fuel listed s L:=by
 have _:=hc;obtain ⟨b,hb,h⟩:=aa h
 cases hg:c with
 |true=>exact h1 b hg (cG hg hb) (k2 b h)
 |false=>exact h2 b hg (cH hg hb) (k2 b h)
theorem JA (k pd gc:Nat){c:Bool}{u v:Option Bool}{f:Bool->Option ρ}{r:ρ}(h:(bif c then u else v).bind f=some r)(h1:∀b,c=true->u=some b->bm X ops (l.take k) (uU ((pd,.bool b)::s) L) s L)(h2:∀b,c=false->v=some b->bm X ops (l.take k) (uU ((pd,.bool b)::s) L) s L)(k2:∀b,f b=some r->bm X ops (l.drop k) K ((pd,.bool b)::s) L)(hc:jP s gc=some (.bool c):=by exact rfl):bm X ops l K s L:=by
 have _:=hc;obtain ⟨b,hb,h⟩:=aa h;refine fd k pd b ?_ (k2 b h)
 cases hg:c with
 |true=>exact h1 b hg (cG hg hb)
 |false=>exact h2 b hg (cH hg hb)
end
section
variable {L0:W8}{o:Oper}{p:Nat->Oper->Prop}
theorem qE {v':Value}(h:Ev P s (fun _=>True) o v')(k:∀(i:Nat) (o:Oper),i<n->ops[i]? =some o->p i o)(ho:ops[n]? =some o:=by exact rfl)(hp:Sa P ops s L L0 o (Asn.aV v).full->p n o:=by exact id)(hv:v'=v:=by exact rfl)(hg:aD ops s o=some true:=by exact rfl)(hl:Cv L L0:=by exact ad _): ∀(i:Nat) (o:Oper),i<n+1->ops[i]? =some o->p i o:=aF ho (hp (VA h hg (iL hv hl))) k
theorem qR {v':Value}(h:Rd P s L o v')(k:∀(i:Nat) (o:Oper),i<n->ops[i]? =some o->p i o)(ho:ops[n]? =some o:=by exact rfl)(hp:Sa P ops s L L0 o (Asn.aV v).full->p n o:=by exact id)(hv:v'=v:=by exact rfl)(hg:aD ops s o=some true:=by exact rfl)(hl:Cv L L0:=by exact ad _): ∀(i:Nat) (o:Oper),i<n+1->ops[i]? =some o->p i o:=aF ho (hp (yE h hg (iL hv hl))) k
end
end
section
open Go.RowKit
section
variable {nn:Nat}{rr:Option Nat}{rest:List Oper}{d:Nat}{m:Option α}{g:α->Option ρ}{r:ρ}{re:W8}{p:Prop}
theorem cR {v:α->Value}{C:α->W8}{q:α->Prop}(h:m.bind g=some r)(c:∀y,m=some y->Okc P f vs pre (fun u post=>u=v y/\post=C y))(k:∀y,g y=some r->q y)(hp:∀y,Bxd (q y)->(bm ⟨P,nn,rr⟩ ops rest K ((d,v y)::s) (C y++L)->bm ⟨P,nn,rr⟩ ops (⟨some d,.call ⟨.value (.func f),xs.toArray,ats⟩,ty,pos,af,gd⟩::rest) K s L)->p:=by
   intro y k1 k2;refine ab ?_;refine k2 ?_;refine ab ?_
   exact k1.un)(hv:FN s xs=some vs:=by exact rfl)(hl:Co L pre:=by
   apply Rf (by repeat (first|exact mL rfl|apply jJ rfl|exact rfl))
   repeat (first|exact UU|apply UV (by with_reducible repeat (first|apply FndL.bb|apply FndL.br|apply FndL.sl|apply FndL.so|apply FndL.mm|apply FndL.mr|apply FndL.pq|apply FndL.pk|apply FndL.pr|apply FndL.rm|apply FndL.s))|apply leZ))(hr:∀y, ∀c∈C y,ij c:=by
   intro y
   repeat (first|exact UX|refine U0 ?_|refine UY ?_|refine UW ?_))(hn:eZ ⟨some d,.call ⟨.value (.func f),xs.toArray,ats⟩,ty,pos,af,gd⟩=true:=by rfl)(hg:aD ops s ⟨some d,.call ⟨.value (.func f),xs.toArray,ats⟩,ty,pos,af,gd⟩=some true:=by first|exact rfl|exact ca (by assumption) rfl|exact dw (by assumption) rfl)(hd:Nat.ble (d+1) nn=true:=by rfl):p:=by
 obtain ⟨y,hy,h⟩:=aa h
 refine hp y (⟨k y h⟩) fun hq=>gD (aH (c y hy) hv hl (fun u post h=>by obtain ⟨-,rfl⟩:=h;exact hr y)) ?_ hn hg hd
 rintro _ _ ⟨_,⟨rfl,rfl⟩,rfl⟩;exact hq
theorem cC {v:α->Value}{C:α->W8}{q:α->Prop}(h:m.bind g=some r)(c:∀y,m=some y->Okc P f vs pre (fun u post=>u=v y/\post=C y))(k:∀y,g y=some r->q y)(hp:∀y,Bxd (q y)->(bm ⟨P,nn,rr⟩ ops rest K ((d,v y)::s) (C y++re)->bm ⟨P,nn,rr⟩ ops (⟨some d,.call ⟨.value (.func f),xs.toArray,ats⟩,ty,pos,af,gd⟩::rest) K s L)->p:=by
   intro y k1 k2;refine ab ?_;refine k2 ?_;refine ab ?_
   exact k1.un)(hv:FN s xs=some vs:=by exact rfl)(hl:Tk L pre re:=by
   apply Qx (by repeat (first|exact mL rfl|apply jJ rfl|exact rfl))
   repeat (first|exact UR|apply UQ (by with_reducible repeat (first|apply FndD.w|apply FndD.s))|apply UT (by with_reducible repeat (first|apply FndD.w|apply FndD.s))|apply tkM (by with_reducible repeat (first|apply FndD.w|apply FndD.s))|apply tkR (by with_reducible repeat (first|apply FndD.w|apply FndD.s))|apply US (by with_reducible repeat (first|apply FndC.w|apply FndC.s))))(hn:eZ ⟨some d,.call ⟨.value (.func f),xs.toArray,ats⟩,ty,pos,af,gd⟩=true:=by rfl)(hg:aD ops s ⟨some d,.call ⟨.value (.func f),xs.toArray,ats⟩,ty,pos,af,gd⟩=some true:=by first|exact rfl|exact ca (by assumption) rfl|exact dw (by assumption) rfl)(hd:Nat.ble (d+1) nn=true:=by rfl):p:=by
 obtain ⟨y,hy,h⟩:=aa h
 refine hp y (⟨k y h⟩) fun hq=>gD (dq (c y hy) hv hl) ?_ hn hg hd
 rintro _ _ ⟨_,⟨rfl,rfl⟩,rfl⟩;exact hq
theorem MB {v:α->Option Addr->Nat->Nat->Value}{C:α->Option Addr->Nat->Nat->W8}{q:α->Option Addr->Nat->Nat->Prop}(h:m.bind g=some r)(c:∀y,m=some y->Okc P f vs pre (fun u post=> ∃(x0:Option Addr) (x1:Nat) (x2:Nat),u=v y x0 x1 x2/\post=C y x0 x1 x2))(k:∀y (x0:Option Addr) (x1:Nat) (x2:Nat),g y=some r->q y x0 x1 x2)(hp:∀y,(∀(x0:Option Addr) (x1:Nat) (x2:Nat),Bxd (q y x0 x1 x2))->((∀(x0:Option Addr) (x1:Nat) (x2:Nat),bm ⟨P,nn,rr⟩ ops rest K ((d,v y x0 x1 x2)::s) (C y x0 x1 x2++L))->bm ⟨P,nn,rr⟩ ops (⟨some d,.call ⟨.value (.func f),xs.toArray,ats⟩,ty,pos,af,gd⟩::rest) K s L)->p:=by
   intro y k1 k2;refine ab ?_;refine k2 ?_;intro x0 x1 x2;refine ab ?_
   exact (k1 x0 x1 x2).un)(hv:FN s xs=some vs:=by exact rfl)(hl:Co L pre:=by
   apply Rf (by repeat (first|exact mL rfl|apply jJ rfl|exact rfl))
   repeat (first|exact UU|apply UV (by with_reducible repeat (first|apply FndL.bb|apply FndL.br|apply FndL.sl|apply FndL.so|apply FndL.mm|apply FndL.mr|apply FndL.pq|apply FndL.pk|apply FndL.pr|apply FndL.rm|apply FndL.s))|apply leZ))(hr:∀y (x0:Option Addr) (x1:Nat) (x2:Nat), ∀c∈C y x0 x1 x2,ij c:=by
   intro y x0 x1 x2
   repeat (first|exact UX|refine U0 ?_|refine UY ?_|refine UW ?_))(hn:eZ ⟨some d,.call ⟨.value (.func f),xs.toArray,ats⟩,ty,pos,af,gd⟩=true:=by rfl)(hg:aD ops s ⟨some d,.call ⟨.value (.func f),xs.toArray,ats⟩,ty,pos,af,gd⟩=some true:=by first|exact rfl|exact ca (by assumption) rfl|exact dw (by assumption) rfl)(hd:Nat.ble (d+1) nn=true:=by rfl):p:=by
 obtain ⟨y,hy,h⟩:=aa h
 refine hp y (fun x0 x1 x2=>⟨k y x0 x1 x2 h⟩) fun hq=>gD (aH (c y hy) hv hl (fun u post h=>by obtain ⟨x0,x1,x2, -,rfl⟩:=h;exact hr y x0 x1 x2)) ?_ hn hg hd
 rintro _ _ ⟨_,⟨x0,x1,x2,rfl,rfl⟩,rfl⟩;exact hq x0 x1 x2
theorem VL {v:α->Option Addr->Nat->Nat->Value}{C:α->Option Addr->Nat->Nat->W8}{q:α->Option Addr->Nat->Nat->Prop}(h:m.bind g=some r)(c:∀y,m=some y->Okc P f vs pre (fun u post=> ∃(x0:Option Addr) (x1:Nat) (x2:Nat),u=v y x0 x1 x2/\post=C y x0 x1 x2))(k:∀y (x0:Option Addr) (x1:Nat) (x2:Nat),g y=some r->q y x0 x1 x2)(hp:∀y,(∀(x0:Option Addr) (x1:Nat) (x2:Nat),Bxd (q y x0 x1 x2))->((∀(x0:Option Addr) (x1:Nat) (x2:Nat),bm ⟨P,nn,rr⟩ ops rest K ((d,v y x0 x1 x2)::s) (C y x0 x1 x2++re))->bm ⟨P,nn,rr⟩ ops (⟨some d,.call ⟨.value (.func f),xs.toArray,ats⟩,ty,pos,af,gd⟩::rest) K s L)->p:=by
   intro y k1 k2;refine ab ?_;refine k2 ?_;intro x0 x1 x2;refine ab ?_
   exact (k1 x0 x1 x2).un)(hv:FN s xs=some vs:=by exact rfl)(hl:Tk L pre re:=by
   apply Qx (by repeat (first|exact mL rfl|apply jJ rfl|exact rfl))
   repeat (first|exact UR|apply UQ (by with_reducible repeat (first|apply FndD.w|apply FndD.s))|apply UT (by with_reducible repeat (first|apply FndD.w|apply FndD.s))|apply tkM (by with_reducible repeat (first|apply FndD.w|apply FndD.s))|apply tkR (by with_reducible repeat (first|apply FndD.w|apply FndD.s))|apply US (by with_reducible repeat (first|apply FndC.w|apply FndC.s))))(hn:eZ ⟨some d,.call ⟨.value (.func f),xs.toArray,ats⟩,ty,pos,af,gd⟩=true:=by rfl)(hg:aD ops s ⟨some d,.call ⟨.value (.func f),xs.toArray,ats⟩,ty,pos,af,gd⟩=some true:=by first|exact rfl|exact ca (by assumption) rfl|exact dw (by assumption) rfl)(hd:Nat.ble (d+1) nn=true:=by rfl):p:=by
 obtain ⟨y,hy,h⟩:=aa h
 refine hp y (fun x0 x1 x2=>⟨k y x0 x1 x2 h⟩) fun hq=>gD (dq (c y hy) hv hl) ?_ hn hg hd
 rintro _ _ ⟨_,⟨x0,x1,x2,rfl,rfl⟩,rfl⟩;exact hq x0 x1 x2
theorem Ix {v:α->Option Addr->Nat->Nat->Option Addr->Nat->Nat->Value}{C:α->Option Addr->Nat->Nat->Option Addr->Nat->Nat->W8}{q:α->Option Addr->Nat->Nat->Option Addr->Nat->Nat->Prop}(h:m.bind g=some r)(c:∀y,m=some y->Okc P f vs pre (fun u post=> ∃(x0:Option Addr) (x1:Nat) (x2:Nat) (x3:Option Addr) (x4:Nat) (x5:Nat),u=v y x0 x1 x2 x3 x4 x5/\post=C y x0 x1 x2 x3 x4 x5))(k:∀y (x0:Option Addr) (x1:Nat) (x2:Nat) (x3:Option Addr) (x4:Nat) (x5:Nat),g y=some r->q y x0 x1 x2 x3 x4 x5)(hp:∀y,(∀(x0:Option Addr) (x1:Nat) (x2:Nat) (x3:Option Addr) (x4:Nat) (x5:Nat),Bxd (q y x0 x1 x2 x3 x4 x5))->((∀(x0:Option Addr) (x1:Nat) (x2:Nat) (x3:Option Addr) (x4:Nat) (x5:Nat),bm ⟨P,nn,rr⟩ ops rest K ((d,v y x0 x1 x2 x3 x4 x5)::s) (C y x0 x1 x2 x3 x4 x5++L))->bm ⟨P,nn,rr⟩ ops (⟨some d,.call ⟨.value (.func f),xs.toArray,ats⟩,ty,pos,af,gd⟩::rest) K s L)->p:=by
   intro y k1 k2;refine ab ?_;refine k2 ?_;intro x0 x1 x2 x3 x4 x5;refine ab ?_
   exact (k1 x0 x1 x2 x3 x4 x5).un)(hv:FN s xs=some vs:=by exact rfl)(hl:Co L pre:=by
   apply Rf (by repeat (first|exact mL rfl|apply jJ rfl|exact rfl))
   repeat (first|exact UU|apply UV (by with_reducible repeat (first|apply FndL.bb|apply FndL.br|apply FndL.sl|apply FndL.so|apply FndL.mm|apply FndL.mr|apply FndL.pq|apply FndL.pk|apply FndL.pr|apply FndL.rm|apply FndL.s))|apply leZ))(hr:∀y (x0:Option Addr) (x1:Nat) (x2:Nat) (x3:Option Addr) (x4:Nat) (x5:Nat), ∀c∈C y x0 x1 x2 x3 x4 x5,ij c:=by
   intro y x0 x1 x2 x3 x4 x5
   repeat (first|exact UX|refine U0 ?_|refine UY ?_|refine UW ?_))(hn:eZ ⟨some d,.call ⟨.value (.func f),xs.toArray,ats⟩,ty,pos,af,gd⟩=true:=by rfl)(hg:aD ops s ⟨some d,.call ⟨.value (.func f),xs.toArray,ats⟩,ty,pos,af,gd⟩=some true:=by first|exact rfl|exact ca (by assumption) rfl|exact dw (by assumption) rfl)(hd:Nat.ble (d+1) nn=true:=by rfl):p:=by
 obtain ⟨y,hy,h⟩:=aa h
 refine hp y (fun x0 x1 x2 x3 x4 x5=>⟨k y x0 x1 x2 x3 x4 x5 h⟩) fun hq=>gD (aH (c y hy) hv hl (fun u post h=>by obtain ⟨x0,x1,x2,x3,x4,x5, -,rfl⟩:=h;exact hr y x0 x1 x2 x3 x4 x5)) ?_ hn hg hd
 rintro _ _ ⟨_,⟨x0,x1,x2,x3,x4,x5,rfl,rfl⟩,rfl⟩;exact hq x0 x1 x2 x3 x4 x5
theorem TT {v:α->Option Addr->Nat->Nat->Option Addr->Nat->Nat->Value}{C:α->Option Addr->Nat->Nat->Option Addr->Nat->Nat->W8}{q:α->Option Addr->Nat->Nat->Option Addr->Nat->Nat->Prop}(h:m.bind g=some r)(c:∀y,m=some y->Okc P f vs pre (fun u post=> ∃(x0:Option Addr) (x1:Nat) (x2:Nat) (x3:Option Addr) (x4:Nat) (x5:Nat),u=v y x0 x1 x2 x3 x4 x5/\post=C y x0 x1 x2 x3 x4 x5))(k:∀y (x0:Option Addr) (x1:Nat) (x2:Nat) (x3:Option Addr) (x4:Nat) (x5:Nat),g y=some r->q y x0 x1 x2 x3 x4 x5)(hp:∀y,(∀(x0:Option Addr) (x1:Nat) (x2:Nat) (x3:Option Addr) (x4:Nat) (x5:Nat),Bxd (q y x0 x1 x2 x3 x4 x5))->((∀(x0:Option Addr) (x1:Nat) (x2:Nat) (x3:Option Addr) (x4:Nat) (x5:Nat),bm ⟨P,nn,rr⟩ ops rest K ((d,v y x0 x1 x2 x3 x4 x5)::s) (C y x0 x1 x2 x3 x4 x5++re))->bm ⟨P,nn,rr⟩ ops (⟨some d,.call ⟨.value (.func f),xs.toArray,ats⟩,ty,pos,af,gd⟩::rest) K s L)->p:=by
   intro y k1 k2;refine ab ?_;refine k2 ?_;intro x0 x1 x2 x3 x4 x5;refine ab ?_
   exact (k1 x0 x1 x2 x3 x4 x5).un)(hv:FN s xs=some vs:=by exact rfl)(hl:Tk L pre re:=by
   apply Qx (by repeat (first|exact mL rfl|apply jJ rfl|exact rfl))
   repeat (first|exact UR|apply UQ (by with_reducible repeat (first|apply FndD.w|apply FndD.s))|apply UT (by with_reducible repeat (first|apply FndD.w|apply FndD.s))|apply tkM (by with_reducible repeat (first|apply FndD.w|apply FndD.s))|apply tkR (by with_reducible repeat (first|apply FndD.w|apply FndD.s))|apply US (by with_reducible repeat (first|apply FndC.w|apply FndC.s))))(hn:eZ ⟨some d,.call ⟨.value (.func f),xs.toArray,ats⟩,ty,pos,af,gd⟩=true:=by rfl)(hg:aD ops s ⟨some d,.call ⟨.value (.func f),xs.toArray,ats⟩,ty,pos,af,gd⟩=some true:=by first|exact rfl|exact ca (by assumption) rfl|exact dw (by assumption) rfl)(hd:Nat.ble (d+1) nn=true:=by rfl):p:=by
 obtain ⟨y,hy,h⟩:=aa h
 refine hp y (fun x0 x1 x2 x3 x4 x5=>⟨k y x0 x1 x2 x3 x4 x5 h⟩) fun hq=>gD (dq (c y hy) hv hl) ?_ hn hg hd
 rintro _ _ ⟨_,⟨x0,x1,x2,x3,x4,x5,rfl,rfl⟩,rfl⟩;exact hq x0 x1 x2 x3 x4 x5
end
section
theorem lK {c:Code}(Fam:Nat->bF->W8->Prop)(m0:Nat)(k:∀m s2 L2,Fam (m+1) s2 L2->Wq X c (nx (fun s' L'=> ∃m' s3 L3,m'<m+1/\Fam m' s3 L3/\AO s' s3/\Cv L' L3) K) s2 L2)(he:∃s2 L2,Fam m0 s2 L2/\AO s s2/\Cv L L2:=by
   apply VJ
   repeat (apply Exists.intro)
   exact ⟨h,J,J⟩
   all_goals (try exact sA)
   all_goals (try apply PQ (by repeat (first|exact mL rfl|apply jJ rfl|exact rfl)))
   all_goals (repeat (first|exact UF|apply UE (by with_reducible repeat (first|apply FndD.w|apply FndD.s))|apply UG (by with_reducible repeat (first|apply FndC.w|apply FndC.s))|apply cwF (by with_reducible repeat (first|apply FndC.w|apply FndC.s))|apply cwZ|apply cwY|exact ad _|apply UH)))(hz:∀s2 L2,Fam 0 s2 L2->False:=by
   intro s2 L2
   repeat (refine UZ ?_;intro _)
   intro h
   exact aJ h.1):Wq X (.loop c) K s L:=by
 obtain ⟨s2,L2,h1,h2,h3⟩:=he
 refine iX Fam m0 s2 L2 h1 h2 h3 fun m s3 L3 h=> ?_
 cases m with
 |zero=>exact (hz _ _ h).elim
 |succ m=>exact k m _ _ h
theorem ou (k pd gc:Nat){c:Bool}{u v:Option Bool}{f:Bool->Option ρ}{r:ρ}(h:(bif c then u else v).bind f=some r)(h1:∀b,c=true->u=some b->bm X ops (l.take k) (uU ((pd,.bool b)::s) L) s L)(k2:∀b,f b=some r->bm X ops (l.drop k) K ((pd,.bool b)::s) L)(hc:jP s gc=some (.bool c):=by exact rfl)(h2:∀b,c=false->v=some b->bm X ops (l.take k) (uU ((pd,.bool b)::s) L) s L:=by
   intro b g h
   exact gY):bm X ops l K s L:=JA k pd gc h h1 h2 k2 hc
theorem wT (k pd gc:Nat){c:Bool}{u v:Option Bool}{f:Bool->Option ρ}{r:ρ}(h:(bif c then u else v).bind f=some r)(h2:∀b,c=false->v=some b->bm X ops (l.take k) (uU ((pd,.bool b)::s) L) s L)(k2:∀b,f b=some r->bm X ops (l.drop k) K ((pd,.bool b)::s) L)(hc:jP s gc=some (.bool c):=by exact rfl)(h1:∀b,c=true->u=some b->bm X ops (l.take k) (uU ((pd,.bool b)::s) L) s L:=by
   intro b g h
   exact gY):bm X ops l K s L:=JA k pd gc h h1 h2 k2 hc
end
end
section
open Go.RowKit
section
variable {β:Type}{ek:α->Value}{ev:β->Value}
def Wh (w:World)(m B:Nat)(ek:α->Value)(ev:β->Value)(kv todo:List (α×β))(cur:Option (α×β)):Prop:=
 ∃(es:Array MapEntry) (clk since:Nat) (seen:Array Nat) (c0:Nat),w.heap[m]? =some (.map es clk)/\w.heap[B]? =some (.mapIter (some m) since seen c0)/\es.toList.map (fun e=>(e.key,e.val))=kv.map (fun p=>(ek p.1,ev p.2))/\es.toList.Pairwise (fun a b=>a.born<b.born)/\(∀e∈es.toList,e.born<since)/\since<=c0/\since<=clk/\
  ((leftOf es seen).toList.map (fun e=>(e.key,e.val))=todo.map (fun p=>(ek p.1,ev p.2)))/\ ∀p,cur=some p->c0=clk/\ ∃e∈es.toList,seen.back? =some e.born/\e.key=ek p.1/\e.val=ev p.2
theorem Eb {w:World}{m:Nat}{o:Obj}(h:w.heap[m]? =some o):m<w.heap.size:=by
 rcases YE m w.heap.size with hl|hl
 ·exact hl
 rw [Xd hl] at h;cases h
def Pf (ek:α->Value)(ev:β->Value)(m B:Nat)(kv todo:List (α×β))(cur:Option (α×β)):Chunk where
 ok T _ w:=T m/\T B/\Wh w m B ek ev kv todo cur
 loc:=fun {T S w w'} h ⟨h1,h2,es,clk,since,seen,c0,g1,g2,g3⟩=>⟨h1,h2,es,clk,since,seen,c0,(h.block m (Eb g1) (.inl h1)).trans g1,(h.block B (Eb g2) (.inl h2)).trans g2,g3⟩
 mono:=fun _ h=>h
 ro:=false
 dup:=fun h=>Bool.noConfusion h
theorem Tx {m B:Nat}{kv todo:List (α×β)}{cur:Option (α×β)}(i:Nat)(hi:L[i]? =some (Pf ek ev m B kv todo cur)):Cv L (L.set i (Pf ek ev m B kv todo none)):=fun Z w hw=>by
 have h2:=SepL.upd (w':=w) hw (aP hi) (d:=Pf ek ev m B kv todo none) fun T S ⟨g1,g2,es,clk,since,seen,c0,h1,h2,h3,h4,h5,h6,h7,h8,_⟩ g3 _ _=>⟨Agr.refl _ _,T,fun _=> .inl,fun q hq=>g3 q hq,g1,g2,es,clk,since,seen,c0,h1,h2,h3,h4,h5,h6,h7,h8,fun p hp=>by cases hp⟩
 rw [jQ Z hi] at h2;exact h2
def TQ {γ:Type}(f:α->Option Bool)(x y:Option γ):Nat->List α->Option γ
 |0,_=>none
 |m+1,p=>bif decide (p.length<=m) then (bif p.all fun e=>(f e).isSome then (bif p.any fun e=>f e==some true then x else y) else none) else none
theorem QE {γ:Type}{f:α->Option Bool}{x y:Option γ}{m:Nat}{r:γ}(h:TQ f x y (m+1) []=some r):y=some r:=h
theorem QF {γ:Type}{f:α->Option Bool}{x y:Option γ}{m:Nat}{r:γ}{a b:List α}{e:α}(h:TQ f x y (m+1) (a++e::b)=some r):((f e).bind fun t=>bif t then x else TQ f x y m (a++b))=some r:=by
 replace h:(bif decide ((a++e::b).length<=m) then (bif (a++e::b).all fun e=>(f e).isSome then (bif (a++e::b).any fun e=>f e==some true then x else y) else none) else none)=some r:=h
 have hl:(a++e::b).length<=m:=by
  cases hd:decide ((a++e::b).length<=m) with
  |true=>exact YV hd
  |false=>rw [hd] at h;cases h
 rw [WY hl] at h;replace h:(bif (a++e::b).all fun e=>(f e).isSome then (bif (a++e::b).any fun e=>f e==some true then x else y) else none)=some r:=h;simp only [List.all_append,List.all_cons,List.any_append,List.any_cons] at h
 have a7:(a++b).length+1<=m:=by simp at hl⊢;omega
 obtain ⟨m',rfl⟩: ∃m',m=m'+1:=⟨m - 1,by omega⟩;have a6:decide ((a++b).length<=m')=true:=WY I
 have hr:TQ f x y (m'+1) (a++b)=(bif (a++b).all fun e=>(f e).isSome then (bif (a++b).any fun e=>f e==some true then x else y) else none):=by
  show (bif decide ((a++b).length<=m') then _ else none)=_;rw [a6];rfl
 rw [hr];simp only [List.all_append,List.any_append]
 cases hf:f e with
 |none=>rw [hf] at h;simp at h
 | some t=>
  rw [hf] at h;show (bif t then x else _)=_
  cases t with
  |true=>
   cases h1:(a.all fun e=>(f e).isSome)<;>cases h2:(b.all fun e=>(f e).isSome)<;>simp_all
  |false=>
   have e1:(some false==some true)=false:=rfl;rw [e1] at h;simpa using h
variable {d:Option Nat}{kt et:TypeId}
theorem OS {m:Nat}{kv:List (α×β)}(i:Nat)(hi:L[i]? =some (bB ek ev m kv))(hx:bl s x=some (.map (some m)))(ht:P.underlying t=some (.map kt et)):OpX P s L ⟨d,.range t x,ty,pos,af,gd⟩ fun u L'=> ∃B,u=.pointer (some ⟨B,0,none⟩)/\L'=L.set i (Pf ek ev m B kv kv none):=fun ρ hρ Z w hw=>by
 obtain ⟨T0,S0, -,hm⟩:=hw.get (aP hi);obtain ⟨es,clk,h1,h2,h3,h4⟩:=hm;refine .inl ⟨.pointer (some ⟨w.heap.size,0,none⟩),w.alloc (.mapIter (some m) clk #[] clk),_,?_,?_,_,J,J⟩
 ·unfold execOp;simp only [hρ x _ hx,YQ,run_range_map w t kt et m es clk ht h1,YP];rfl
 have h5:=SepL.upd (w':=w.alloc (.mapIter (some m) clk #[] clk)) hw (aP hi) (d:=Pf ek ev m w.heap.size kv kv none) fun T S ⟨g1,_⟩ g3 _ _=>⟨Agr.of_ext ((Ext.refl w).alloc _),fun q=>T q\/q=w.heap.size,fun q hq=>hq.elim .inl fun e=> .inr I,fun q hq=>hq.elim (fun h=>by have:=g3 q h;simp;omega) fun e=>by subst e;simp,.inl g1,.inr rfl,es,clk,clk, #[],clk,(show (w.alloc _).heap[m]? =_ by first | exact heap_alloc_old w _ _ (Eb h1) | exact heap_alloc_old w _ (Eb h1)).trans h1,heap_alloc_new w _,h2,h3,h4,YB _,YB _,?_,fun p hp=>by cases hp⟩
 ·rw [jQ Z hi] at h5;exact h5
 have:leftOf es #[]=es:=by unfold leftOf;rw [Array.filter_eq_self];simp
 rw [this];exact h2
theorem JD (l:List MapEntry)(seen:Array Nat)(hp:l.Pairwise (fun a b=>a.born<b.born)): ∀(j:Nat) (e:MapEntry),(l.filter fun x=> !seen.contains x.born)[j]? =some e->(l.filter fun x=> !(seen.push e.born).contains x.born)=(l.filter fun x=> !seen.contains x.born).eraseIdx j:=by
 intro j e he
 have h1:(l.filter fun x=> !(seen.push e.born).contains x.born)=(l.filter fun x=> !seen.contains x.born).filter fun x=>x.born !=e.born:=by
  rw [List.filter_filter];apply List.filter_congr;intro x _;rw [contains_push];cases seen.contains x.born<;>simp [bne]
 rw [h1];have hp2:(l.filter fun x=> !seen.contains x.born).Pairwise (fun a b=>a.born<b.born):=hp.sublist List.filter_sublist;generalize (l.filter fun x=> !seen.contains x.born)=M at he hp2;clear h1
 induction M generalizing j with
 |nil=>simp at he
 | cons x M ih=>
  rw [Yk] at hp2
  cases j with
  |zero=>
   simp only [XK,YN] at he;subst he;rw [XC,if_neg (by simp),List.eraseIdx_cons_zero,XD];intro y hy;have:=hp2.1 y hy;simp;omega
  |succ j=>
   simp only [XJ] at he;have hm:e∈M:=Yd he;have:=hp2.1 e hm;rw [XC,if_pos (by simp;omega),List.eraseIdx_cons_succ,ih j he hp2.2]
theorem I4 {w:World}{m B since c0 clk:Nat}{seen:Array Nat}{es:Array MapEntry}(hb:w.heap[m]? =some (.map es clk))(hB:w.heap[B]? =some (.mapIter (some m) since seen c0))(hold:∀x∈es.toList,x.born<since)(hsc:since<=c0):
  ((leftOf es seen).toList=[]/\(Instr.next (.pointer (some ⟨B,0,none⟩)) false ty).run P w=.ok (.tuple #[.bool false]) w)\/
  ∃(j:Nat) (e:MapEntry) (n:Nat),(leftOf es seen).toList[j]? =some e/\(Instr.next (.pointer (some ⟨B,0,none⟩)) false ty).run P w=.ok (.tuple #[.bool true,e.key,e.val]) {w with drawn:=n,heap:=w.heap.setIfInBounds B (.mapIter (some m) since (seen.push e.born) clk)}:=by
 simp only [Instr.next,getObj,YQ,Sem.run,hb,hB,Result.andThen,next_test_false seen es since c0 hold hsc,Xh,if_false]
 have hmem: ∀x∈(leftOf es seen).toList,x.born<since:=fun x hx=>hold x (by unfold leftOf at hx;simp at hx⊢;exact hx.1)
 show (_/\_)\/_;unfold leftOf at hmem⊢;generalize Array.filter (fun e=> !seen.contains e.born) es=M at hmem⊢;have e1:M.filter (fun x=>decide (x.born<since))=M:=Array.filter_eq_self.2 (fun x hx=>by simpa using hmem x (by simpa using hx))
 have e2:M.filter (fun x=>decide (x.born≥since))= #[]:=by
  rw [Array.filter_eq_empty_iff];intro x hx;have:=hmem x (by simpa using hx);simp;omega
 simp only [e1,e2,Array.append_empty];by_cases h0:M.size=0
 ·left;have:M= #[]:=Array.eq_empty_of_size_eq_zero h0;subst this;refine ⟨J,?_⟩;simp [choose,Sem.run,Question.forced]
 right
 have hne:M.isEmpty=false:=by simp [Array.isEmpty,h0]
 simp only [hne,Xh,if_false,Array.empty_append,Array.size_map]
 have hch: ∃(j n:Nat),j<M.size/\(choose (Question.mapNext M.size)).run P w=.ok j {w with drawn:=n}:=by
  by_cases hf:M.size<=1
  ·exact ⟨0,w.drawn,by omega,by simp [choose,Sem.run,Question.forced,hf]⟩
  exact ⟨_,_,Nat.mod_lt _ I,by
    simp only [choose,Sem.run,Question.forced,YT,hf,if_false,Question.cut]
    rfl⟩
 obtain ⟨j,n,hj,hrun⟩:=hch;refine ⟨j,M[j],n,by simp [hj],?_⟩
 have hset: ∀(o':Obj),(setObj B o').run P {w with drawn:=n}=.ok () {w with drawn:=n,heap:=w.heap.setIfInBounds B o'}:=fun o'=>by
  simp [setObj,Sem.run,hB]
 simp only [hrun,Array.getElem?_map,Xc hj,YL,YQ,hset,Result.andThen];rfl
theorem QQ {m B:Nat}{kv todo:List (α×β)}{cur:Option (α×β)}(i:Nat)(hi:L[i]? =some (Pf ek ev m B kv todo cur))(hx:bl s x=some (.pointer (some ⟨B,0,none⟩))):OpX P s L ⟨d,.next x false,ty,pos,af,gd⟩ fun u L'=>(todo=[]/\u=.tuple #[.bool false]/\L'=L)\/ ∃a p b,todo=a++p::b/\u=.tuple #[.bool true,ek p.1,ev p.2]/\L'=L.set i (Pf ek ev m B kv (a++b) (some p)):=fun ρ hρ Z w hw=>by
 have hw0:=hw;obtain ⟨T0,S0, -, -,es,clk,since,seen,c0,h1,h2,h3,h4,h5,h6,h7,h8, -⟩:=hw.get (aP hi);rcases I4 (P:=P) (ty:=ty) h1 h2 h5 h6 with ⟨he,hr⟩|⟨j,e,n,he,hr⟩
 ·refine .inl ⟨_,w,L,?_,hw0,.inl ⟨?_,J,J⟩⟩
  ·unfold execOp;simp only [hρ x _ hx,YQ,hr,YP];rfl
  rw [he] at h8
  cases todo with
  |nil=>rfl
  |cons a l=>simp at h8
 have hl:(leftOf es seen).toList.length=todo.length:=by simpa using congrArg List.length h8
 have hj:j<todo.length:=hl▸(XO.1 he).1;have hp:=congrArg (fun l=>l[j]?) h8;simp only [XP,he,XM hj,YL,YN,Prod.mk.injEq] at hp
 have hef:es.toList.filter (fun x=> !seen.contains x.born)=(leftOf es seen).toList:=by unfold leftOf;simp
 have hpu:(leftOf es (seen.push e.born)).toList=(leftOf es seen).toList.eraseIdx j:=by
  have:=JD es.toList seen h4 j e (by rw [hef];exact he);rw [hef] at this;rw [<-this];unfold leftOf;simp
 have hmB:m≠B:=fun e=>by subst e;rw [h1] at h2;cases h2
 have hin:e∈es.toList:=by
  have:=Yd he;rw [<-hef] at this;exact (Yb.1 this).1
 refine .inl ⟨.tuple #[.bool true,ek todo[j].1,ev todo[j].2],{w with drawn:=n,heap:=w.heap.setIfInBounds B (.mapIter (some m) since (seen.push e.born) clk)},L.set i (Pf ek ev m B kv (todo.take j++todo.drop (j+1)) (some todo[j])),?_,?_,.inr ⟨todo.take j,todo[j],todo.drop (j+1),?_,J,J⟩⟩
 ·unfold execOp;simp only [hρ x _ hx,YQ,hr,YP,hp];rfl
 ·have h9:=SepL.upd (w':={w with drawn:=n,heap:=w.heap.setIfInBounds B (.mapIter (some m) since (seen.push e.born) clk)}) hw0 (aP hi) (d:=Pf ek ev m B kv (todo.take j++todo.drop (j+1)) (some todo[j])) fun T S ⟨g1,g2,_⟩ g3 _ _=>⟨⟨rfl,rfl,rfl,by simp,fun q _ hq=>by have:B≠q:=fun e=>hq (e▸g2);simp [Xe this]⟩,T,fun _=> .inl,fun q hq=>by have:=g3 q hq;simpa using this,g1,g2,es,clk,since,seen.push e.born,clk,by rw [<-h1];exact Xe (Ne.symm hmB),by have:=Eb h2;simp [this],h3,h4,h5,h7,h7,?_,fun p hp'=>by cases hp';exact ⟨rfl,e,hin,by simp,hp.1,hp.2⟩⟩
  ·rw [jQ Z hi] at h9;exact h9
  rw [hpu, <-ts,h8,ts,List.eraseIdx_eq_take_drop_succ]
 rw [<-Xv hj,Yq]
theorem OU {m B:Nat}{kv todo:List (α×β)}{p:α×β}(i:Nat)(hi:L[i]? =some (Pf ek ev m B kv todo (some p)))(hx:bl s x=some (.pointer (some ⟨B,0,none⟩))):OpX P s L ⟨d,.entry x,ty,pos,af,gd⟩ fun u L'=>u=.tuple #[ek p.1,ev p.2]/\L'=L:=fun ρ hρ Z w hw=>by
 have hw0:=hw;obtain ⟨T0,S0, -, -,es,clk,since,seen,c0,h1,h2,h3,h4,h5,h6,h7,h8,h9⟩:=hw.get (aP hi);obtain ⟨rfl,e,he,hb,hk,hv⟩:=h9 p rfl
 have hn:(es.toList.map (·.born)).Nodup:=by
  rw [List.nodup_iff_pairwise_ne,List.pairwise_map]
  exact h4.imp fun h=>by omega
 have hf:es.find? (·.born==e.born)=some e:=by rw [<-Array.find?_toList];exact find_born e es.toList hn he
 refine .inl ⟨_,w,L,?_,hw0,J,J⟩;unfold execOp;simp only [hρ x _ hx,YQ,Instr.entry,getObj,Sem.run,h1,h2,Result.andThen,hb,hf,hk,hv,bne_self_eq_false,Xh,if_false];rfl
end
end
section
variable {A1 A2 A3 A4 A5:Option Addr}{B1 B6 M7 c1 c2 c3 c4 c5 n1 n2 n3 n4 n5:Nat}
open Go.RowKit Asn
set_option maxRecDepth 20000
structure WV where
 Za:Int
 N:Int
 S:ByteArray
 deriving DecidableEq,Inhabited
abbrev WW:=List WV
def ay:Rep WV:=.flat 3 (fun x=> [iV x.Za,iV x.N,.string x.S]) (fun _=>rfl) (fun _=>rfl)
structure WL where
 Za:Int
 N:Int
 S:ByteArray
 deriving DecidableEq,Inhabited
abbrev WX:=List WL
def nY:Rep WL:=.flat 3 (fun x=> [iV x.Za,iV x.N,.string x.S]) (fun _=>rfl) (fun _=>rfl)
structure WG where
 Has:Int
 Zd:Int
 Value:WV
 Zq:WV
 Zr:WV
 deriving DecidableEq,Inhabited
def OH:Rep WG:=.flat 11 (fun x=> [iV x.Has,iV x.Zd,iV x.Value.Za,iV x.Value.N,.string x.Value.S,iV x.Zq.Za,iV x.Zq.N,.string x.Zq.S,iV x.Zr.Za,iV x.Zr.N,.string x.Zr.S]) (fun _=>rfl) (fun _=>rfl)
structure WS where
 Za:Int
 N:Int
 K:WL
 D:WG
 V:WV
 deriving DecidableEq,Inhabited
def vv:Rep WS:=.flat 19 (fun x=> [iV x.Za,iV x.N,iV x.K.Za,iV x.K.N,.string x.K.S,iV x.D.Has,iV x.D.Zd,iV x.D.Value.Za,iV x.D.Value.N,.string x.D.Value.S,iV x.D.Zq.Za,iV x.D.Zq.N,.string x.D.Zq.S,iV x.D.Zr.Za,iV x.D.Zr.N,.string x.D.Zr.S,iV x.V.Za,iV x.V.N,.string x.V.S]) (fun _=>rfl) (fun _=>rfl)
structure WP where
 ZM:Int
 ZN:Int
 ZH:Int
 ZK:Int
 Zh:Int
 ZO:Int
 ZP:Int
 deriving DecidableEq,Inhabited
def OI:Rep WP:=.flat 7 (fun x=> [iV x.ZM,iV x.ZN,iV x.ZH,iV x.ZK,iV x.Zh,iV x.ZO,iV x.ZP]) (fun _=>rfl) (fun _=>rfl)
structure WR where
 at_:(List (Int×Bool))
 deriving DecidableEq,Inhabited
structure WI where
 Za:Int
 Zi:Int
 Ze:Int
 Zg:Int
 Zc:WW
 Zb:WW
 deriving DecidableEq,Inhabited
abbrev W6:=List WI
def jO:Rep WI where
 sz:=6
 rel S w vs x:= ∃A4 n4 c4 A5 n5 c5,vs=[iV x.Za,iV x.Zi,iV x.Ze,iV x.Zg,W A4 n4 c4,W A5 n5 c5]/\SlR ay S w (W A4 n4 c4) x.Zc/\SlR ay S w (W A5 n5 c5) x.Zb
 loc:=fun h ⟨_,_,_,_,_,_,e,h4,h5⟩=>⟨_,_,_,_,_,_,e,h4.loc h,h5.loc h⟩
 mono:=fun h ⟨_,_,_,_,_,_,e,h4,h5⟩=>⟨_,_,_,_,_,_,e,h4.mono h,h5.mono h⟩
 len:=fun ⟨_,_,_,_,_,_,e,_⟩=>by rw [e];rfl
 one:=fun ⟨_,_,_,_,_,_,e,_⟩=>by rw [e];rfl
theorem tV (x:WI):Qd jO x fun vs cs=> ∃A4 n4 c4 A5 n5 c5,vs=[iV x.Za,iV x.Zi,iV x.Ze,iV x.Zg,W A4 n4 c4,W A5 n5 c5]/\cs=[gK ay (W A4 n4 c4) x.Zc,gK ay (W A5 n5 c5) x.Zb]:=fun S w vs ⟨_,_,_,_,_,_,e,h4,h5⟩=>⟨_,⟨_,_,_,_,_,_,e,rfl⟩,t5 h4 (t5 h5 (au))⟩
structure WK where
 Zh:W6
 Zj:W6
 deriving DecidableEq,Inhabited
structure WD where
 m_:WK
 Zt:WW
 Zv:WW
 Zw:WR
 deriving DecidableEq,Inhabited
structure WE where
 Up:Int
 Zf:WL
 Zd:Int
 ZC:Int
 deriving DecidableEq,Inhabited
def bC:Rep WE:=.flat 6 (fun x=> [iV x.Up,iV x.Zf.Za,iV x.Zf.N,.string x.Zf.S,iV x.Zd,iV x.ZC]) (fun _=>rfl) (fun _=>rfl)
structure WT where
 ZT:Int
 ZQ:WL
 ZU:Int
 deriving DecidableEq,Inhabited
def SO:Rep WT:=.flat 5 (fun x=> [iV x.ZT,iV x.ZQ.Za,iV x.ZQ.N,.string x.ZQ.S,iV x.ZU]) (fun _=>rfl) (fun _=>rfl)
structure WQ where
 Zp:(List WE)
 ZD:(List (WT×Int))
 deriving DecidableEq,Inhabited
structure WJ where
 ZR:Int
 ZL:Int
 ZS:Int
 deriving DecidableEq,Inhabited
def QI:Rep WJ:=.flat 3 (fun x=> [iV x.ZR,iV x.ZL,iV x.ZS]) (fun _=>rfl) (fun _=>rfl)
structure WH where
 Za:Int
 Zf:WL
 S:ByteArray
 deriving DecidableEq,Inhabited
def nI:Rep WH:=.flat 5 (fun x=> [iV x.Za,iV x.Zf.Za,iV x.Zf.N,.string x.Zf.S,.string x.S]) (fun _=>rfl) (fun _=>rfl)
structure WM where
 ZB:WJ
 Zu:WP
 ZV:Unit
 Zo:WD
 Zp:WQ
 Zy:(List ByteArray)
 ZE:Int
 ZF:Int
 ZG:Int
 Zz:(List WH)
 ZA:(List ByteArray)
 deriving DecidableEq,Inhabited
structure WN where
 Zn:WI
 w_:WM
 at_:WV
 deriving DecidableEq,Inhabited
structure WU where
 Zf:WL
 Zd:Int
 Value:WV
 Zq:WV
 Zr:WV
 deriving DecidableEq,Inhabited
abbrev W7:=List WU
def iq:Rep WU:=.flat 13 (fun x=> [iV x.Zf.Za,iV x.Zf.N,.string x.Zf.S,iV x.Zd,iV x.Value.Za,iV x.Value.N,.string x.Value.S,iV x.Zq.Za,iV x.Zq.N,.string x.Zq.S,iV x.Zr.Za,iV x.Zr.N,.string x.Zr.S]) (fun _=>rfl) (fun _=>rfl)
structure WO where
 Ext:Bool
 Zs:Bool
 Zk:WW
 Zm:W7
 deriving DecidableEq,Inhabited
structure WF where
 m_:WK
 Zx:W5
 ZJ:(List (Int×Unit))
 ZI:Int
 deriving DecidableEq,Inhabited
abbrev bf (A:Option Addr)(n c:Nat):=bd ay 28 (.slice A n c)
abbrev aY (A:Option Addr)(n c:Nat):=gK ay (.slice A n c)
abbrev iI (A:Option Addr)(n c:Nat):=gK jO (.slice A n c)
abbrev iJ (A:Option Addr)(n c:Nat):=bd jO 94 (.slice A n c)
abbrev nE (A:Option Addr)(n c:Nat):=bd nY 39 (.slice A n c)
abbrev pJ (A:Option Addr)(n c:Nat):=bd sJ 9 (.slice A n c)
abbrev ur (A:Option Addr)(n c:Nat):=bd (nH .i64) 3 (.slice A n c)
abbrev sU (A:Option Addr)(n c:Nat):=gK iq (.slice A n c)
abbrev xp (A:Option Addr)(n c:Nat):=gK (nH .i64) (.slice A n c)
abbrev AB (A:Option Addr)(n c:Nat):=bd nI 309 (.slice A n c)
abbrev Uw (x:WS):Value:=.agg #[iV x.Za,iV x.N,iV x.K.Za,iV x.K.N,.string x.K.S,iV x.D.Has,iV x.D.Zd,iV x.D.Value.Za,iV x.D.Value.N,.string x.D.Value.S,iV x.D.Zq.Za,iV x.D.Zq.N,.string x.D.Zq.S,iV x.D.Zr.Za,iV x.D.Zr.N,.string x.D.Zr.S,iV x.V.Za,iV x.V.N,.string x.V.S]
abbrev FC (x:WP):Value:=.agg #[iV x.ZM,iV x.ZN,iV x.ZH,iV x.ZK,iV x.Zh,iV x.ZO,iV x.ZP]
abbrev fV (x:WG):Value:=.agg #[iV x.Has,iV x.Zd,iV x.Value.Za,iV x.Value.N,.string x.Value.S,iV x.Zq.Za,iV x.Zq.N,.string x.Zq.S,iV x.Zr.Za,iV x.Zr.N,.string x.Zr.S]
abbrev eT (x:WL):Value:=.agg #[iV x.Za,iV x.N,.string x.S]
abbrev cc (x:WU):Value:=.agg #[iV x.Zf.Za,iV x.Zf.N,.string x.Zf.S,iV x.Zd,iV x.Value.Za,iV x.Value.N,.string x.Value.S,iV x.Zq.Za,iV x.Zq.N,.string x.Zq.S,iV x.Zr.Za,iV x.Zr.N,.string x.Zr.S]
abbrev Rp (x:WE):Value:=.agg #[iV x.Up,iV x.Zf.Za,iV x.Zf.N,.string x.Zf.S,iV x.Zd,iV x.ZC]
abbrev Pk (x:WT):Value:=.agg #[iV x.ZT,iV x.ZQ.Za,iV x.ZQ.N,.string x.ZQ.S,iV x.ZU]
abbrev aE (x:WV):Value:=.agg #[iV x.Za,iV x.N,.string x.S]
abbrev Ma (x:WS):W9:=[iV x.Za,iV x.N,iV x.K.Za,iV x.K.N,.string x.K.S,iV x.D.Has,iV x.D.Zd,iV x.D.Value.Za,iV x.D.Value.N,.string x.D.Value.S,iV x.D.Zq.Za,iV x.D.Zq.N,.string x.D.Zq.S,iV x.D.Zr.Za,iV x.D.Zr.N,.string x.D.Zr.S,iV x.V.Za,iV x.V.N,.string x.V.S]
abbrev iw (x:WG):W9:=[iV x.Has,iV x.Zd,iV x.Value.Za,iV x.Value.N,.string x.Value.S,iV x.Zq.Za,iV x.Zq.N,.string x.Zq.S,iV x.Zr.Za,iV x.Zr.N,.string x.Zr.S]
abbrev lH (x:WL):W9:=[iV x.Za,iV x.N,.string x.S]
abbrev bW (x:WU):W9:=[iV x.Zf.Za,iV x.Zf.N,.string x.Zf.S,iV x.Zd,iV x.Value.Za,iV x.Value.N,.string x.Value.S,iV x.Zq.Za,iV x.Zq.N,.string x.Zq.S,iV x.Zr.Za,iV x.Zr.N,.string x.Zr.S]
abbrev D9 (x:WE):W9:=[iV x.Up,iV x.Zf.Za,iV x.Zf.N,.string x.Zf.S,iV x.Zd,iV x.ZC]
abbrev bP (x:WV):W9:=[iV x.Za,iV x.N,.string x.S]
abbrev zZ (x:WM)(b d:Nat)(A:Option Addr)(n c:Nat)(A2:Option Addr)(n2 c2:Nat)(A3:Option Addr)(n3 c3:Nat):W9:=[iV x.ZB.ZR,iV x.ZB.ZL,iV x.ZB.ZS,iV x.Zu.ZM,iV x.Zu.ZN,iV x.Zu.ZH,iV x.Zu.ZK,iV x.Zu.Zh,iV x.Zu.ZO,iV x.Zu.ZP,.nilIface,pV b 0,pV d 0,.slice A n c,iV x.ZE,iV x.ZF,iV x.ZG,W A2 n2 c2,W A3 n3 c3]
instance call85:FcK Xa 85:=⟨⟨Tryz.f85,Tryz.func85,rfl,rfl⟩⟩
instance call159:FcK Xa 159:=⟨⟨Tryz.f159,Tryz.func159,rfl,rfl⟩⟩
instance call163:FcK Xa 163:=⟨⟨Tryz.f163,Tryz.func163,rfl,rfl⟩⟩
instance call167:FcK Xa 167:=⟨⟨Tryz.f167,Tryz.func167,rfl,rfl⟩⟩
instance call197:FcK Xa 197:=⟨⟨Tryz.f197,Tryz.func197,rfl,rfl⟩⟩
instance call199:FcK Xa 199:=⟨⟨Tryz.f199,Tryz.func199,rfl,rfl⟩⟩
instance call204:FcK Xa 204:=⟨⟨Tryz.f204,Tryz.func204,rfl,rfl⟩⟩
instance call221:FcK Xa 221:=⟨⟨Tryz.f221,Tryz.func221,rfl,rfl⟩⟩
instance call229:FcK Xa 229:=⟨⟨Tryz.f229,Tryz.func229,rfl,rfl⟩⟩
theorem sW (b o:Nat)(w:World):(Instr.fieldAt 28 (pV b o) 0).run Xa w=.ok (pV b o) w:=by kernel_rfl
theorem Mn (b o:Nat)(w:World):(Instr.fieldAt 28 (pV b o) 1).run Xa w=.ok (.pointer (some ⟨b,o+1,none⟩)) w:=by kernel_rfl
theorem RX (b o:Nat)(w:World):(Instr.fieldAt 28 (pV b o) 2).run Xa w=.ok (.pointer (some ⟨b,o+2,none⟩)) w:=by kernel_rfl
theorem Mm (b o:Nat)(w:World):(Instr.fieldAt 35 (pV b o) 0).run Xa w=.ok (pV b o) w:=by kernel_rfl
theorem RW (b o:Nat)(w:World):(Instr.fieldAt 35 (pV b o) 1).run Xa w=.ok (.pointer (some ⟨b,o+1,none⟩)) w:=by kernel_rfl
theorem Ik (b o:Nat)(w:World):(Instr.fieldAt 35 (pV b o) 2).run Xa w=.ok (.pointer (some ⟨b,o+2,none⟩)) w:=by kernel_rfl
theorem RV (b o:Nat)(w:World):(Instr.fieldAt 35 (pV b o) 3).run Xa w=.ok (.pointer (some ⟨b,o+3,none⟩)) w:=by kernel_rfl
theorem Ml (b o:Nat)(w:World):(Instr.fieldAt 39 (pV b o) 0).run Xa w=.ok (pV b o) w:=by kernel_rfl
theorem Ee (b o:Nat)(w:World):(Instr.fieldAt 39 (pV b o) 1).run Xa w=.ok (.pointer (some ⟨b,o+1,none⟩)) w:=by kernel_rfl
theorem RU (b o:Nat)(w:World):(Instr.fieldAt 39 (pV b o) 2).run Xa w=.ok (.pointer (some ⟨b,o+2,none⟩)) w:=by kernel_rfl
theorem RT (b o:Nat)(w:World):(Instr.fieldAt 41 (pV b o) 0).run Xa w=.ok (pV b o) w:=by kernel_rfl
theorem Mk (b o:Nat)(w:World):(Instr.fieldAt 41 (pV b o) 1).run Xa w=.ok (.pointer (some ⟨b,o+1,none⟩)) w:=by kernel_rfl
theorem RS (b o:Nat)(w:World):(Instr.fieldAt 41 (pV b o) 2).run Xa w=.ok (.pointer (some ⟨b,o+2,none⟩)) w:=by kernel_rfl
theorem RR (b o:Nat)(w:World):(Instr.fieldAt 41 (pV b o) 3).run Xa w=.ok (.pointer (some ⟨b,o+5,none⟩)) w:=by kernel_rfl
theorem Mj (b o:Nat)(w:World):(Instr.fieldAt 41 (pV b o) 4).run Xa w=.ok (.pointer (some ⟨b,o+8,none⟩)) w:=by kernel_rfl
theorem RQ (b o:Nat)(w:World):(Instr.fieldAt 43 (pV b o) 0).run Xa w=.ok (pV b o) w:=by kernel_rfl
theorem RP (b o:Nat)(w:World):(Instr.fieldAt 43 (pV b o) 1).run Xa w=.ok (.pointer (some ⟨b,o+1,none⟩)) w:=by kernel_rfl
theorem RO (b o:Nat)(w:World):(Instr.fieldAt 43 (pV b o) 2).run Xa w=.ok (.pointer (some ⟨b,o+2,none⟩)) w:=by kernel_rfl
theorem RN (b o:Nat)(w:World):(Instr.fieldAt 43 (pV b o) 3).run Xa w=.ok (.pointer (some ⟨b,o+5,none⟩)) w:=by kernel_rfl
theorem RM (b o:Nat)(w:World):(Instr.fieldAt 43 (pV b o) 4).run Xa w=.ok (.pointer (some ⟨b,o+16,none⟩)) w:=by kernel_rfl
theorem Ij (b o:Nat)(w:World):(Instr.fieldAt 50 (pV b o) 0).run Xa w=.ok (pV b o) w:=by kernel_rfl
theorem Mi (b o:Nat)(w:World):(Instr.fieldAt 50 (pV b o) 1).run Xa w=.ok (.pointer (some ⟨b,o+3,none⟩)) w:=by kernel_rfl
theorem RL (b o:Nat)(w:World):(Instr.fieldAt 50 (pV b o) 2).run Xa w=.ok (.pointer (some ⟨b,o+4,none⟩)) w:=by kernel_rfl
theorem RJ (b o:Nat)(w:World):(Instr.fieldAt 50 (pV b o) 3).run Xa w=.ok (.pointer (some ⟨b,o+7,none⟩)) w:=by kernel_rfl
theorem RI (b o:Nat)(w:World):(Instr.fieldAt 50 (pV b o) 4).run Xa w=.ok (.pointer (some ⟨b,o+10,none⟩)) w:=by kernel_rfl
theorem RH (b o:Nat)(w:World):(Instr.fieldAt 69 (pV b o) 0).run Xa w=.ok (pV b o) w:=by kernel_rfl
theorem RG (b o:Nat)(w:World):(Instr.fieldAt 69 (pV b o) 1).run Xa w=.ok (.pointer (some ⟨b,o+1,none⟩)) w:=by kernel_rfl
theorem RF (b o:Nat)(w:World):(Instr.fieldAt 69 (pV b o) 2).run Xa w=.ok (.pointer (some ⟨b,o+2,none⟩)) w:=by kernel_rfl
theorem RE (b o:Nat)(w:World):(Instr.fieldAt 69 (pV b o) 3).run Xa w=.ok (.pointer (some ⟨b,o+3,none⟩)) w:=by kernel_rfl
theorem RD (b o:Nat)(w:World):(Instr.fieldAt 69 (pV b o) 4).run Xa w=.ok (.pointer (some ⟨b,o+4,none⟩)) w:=by kernel_rfl
theorem RC (b o:Nat)(w:World):(Instr.fieldAt 69 (pV b o) 5).run Xa w=.ok (.pointer (some ⟨b,o+5,none⟩)) w:=by kernel_rfl
theorem Rz (b o:Nat)(w:World):(Instr.fieldAt 69 (pV b o) 6).run Xa w=.ok (.pointer (some ⟨b,o+6,none⟩)) w:=by kernel_rfl
theorem Ry (b o:Nat)(w:World):(Instr.fieldAt 73 (pV b o) 1).run Xa w=.ok (.pointer (some ⟨b,o+1,none⟩)) w:=by kernel_rfl
theorem Rx (b o:Nat)(w:World):(Instr.fieldAt 81 (pV b o) 0).run Xa w=.ok (pV b o) w:=by kernel_rfl
theorem Rw (b o:Nat)(w:World):(Instr.fieldAt 81 (pV b o) 1).run Xa w=.ok (.pointer (some ⟨b,o+3,none⟩)) w:=by kernel_rfl
theorem Rv (b o:Nat)(w:World):(Instr.fieldAt 81 (pV b o) 3).run Xa w=.ok (.pointer (some ⟨b,o+11,none⟩)) w:=by kernel_rfl
theorem Ru (b o:Nat)(w:World):(Instr.fieldAt 81 (pV b o) 4).run Xa w=.ok (.pointer (some ⟨b,o+12,none⟩)) w:=by kernel_rfl
theorem Rt (b o:Nat)(w:World):(Instr.fieldAt 81 (pV b o) 6).run Xa w=.ok (.pointer (some ⟨b,o+14,none⟩)) w:=by kernel_rfl
theorem Rs (b o:Nat)(w:World):(Instr.fieldAt 94 (pV b o) 0).run Xa w=.ok (pV b o) w:=by kernel_rfl
theorem Rr (b o:Nat)(w:World):(Instr.fieldAt 94 (pV b o) 1).run Xa w=.ok (.pointer (some ⟨b,o+1,none⟩)) w:=by kernel_rfl
theorem Mh (b o:Nat)(w:World):(Instr.fieldAt 94 (pV b o) 2).run Xa w=.ok (.pointer (some ⟨b,o+2,none⟩)) w:=by kernel_rfl
theorem sV (b o:Nat)(w:World):(Instr.fieldAt 94 (pV b o) 3).run Xa w=.ok (.pointer (some ⟨b,o+3,none⟩)) w:=by kernel_rfl
theorem Ii (b o:Nat)(w:World):(Instr.fieldAt 94 (pV b o) 4).run Xa w=.ok (.pointer (some ⟨b,o+4,none⟩)) w:=by kernel_rfl
theorem wB (b o:Nat)(w:World):(Instr.fieldAt 94 (pV b o) 5).run Xa w=.ok (.pointer (some ⟨b,o+5,none⟩)) w:=by kernel_rfl
theorem FM (b o:Nat)(w:World):(Instr.fieldAt 121 (pV b o) 0).run Xa w=.ok (pV b o) w:=by kernel_rfl
theorem Pw (b o:Nat)(w:World):(Instr.fieldAt 121 (pV b o) 1).run Xa w=.ok (.pointer (some ⟨b,o+1,none⟩)) w:=by kernel_rfl
theorem FL (b o:Nat)(w:World):(Instr.fieldAt 124 (pV b o) 0).run Xa w=.ok (pV b o) w:=by kernel_rfl
theorem FK (b o:Nat)(w:World):(Instr.fieldAt 124 (pV b o) 1).run Xa w=.ok (.pointer (some ⟨b,o+2,none⟩)) w:=by kernel_rfl
theorem Pv (b o:Nat)(w:World):(Instr.fieldAt 124 (pV b o) 2).run Xa w=.ok (.pointer (some ⟨b,o+3,none⟩)) w:=by kernel_rfl
theorem Pu (b o:Nat)(w:World):(Instr.fieldAt 124 (pV b o) 3).run Xa w=.ok (.pointer (some ⟨b,o+4,none⟩)) w:=by kernel_rfl
theorem JJ (b o:Nat)(w:World):(Instr.fieldAt 135 (pV b o) 0).run Xa w=.ok (pV b o) w:=by kernel_rfl
theorem JI (b o:Nat)(w:World):(Instr.fieldAt 135 (pV b o) 1).run Xa w=.ok (.pointer (some ⟨b,o+6,none⟩)) w:=by kernel_rfl
theorem Pt (b o:Nat)(w:World):(Instr.fieldAt 135 (pV b o) 2).run Xa w=.ok (.pointer (some ⟨b,o+7,none⟩)) w:=by kernel_rfl
theorem FJ (b o:Nat)(w:World):(Instr.fieldAt 166 (pV b o) 0).run Xa w=.ok (pV b o) w:=by kernel_rfl
theorem FI (b o:Nat)(w:World):(Instr.fieldAt 166 (pV b o) 1).run Xa w=.ok (.pointer (some ⟨b,o+1,none⟩)) w:=by kernel_rfl
theorem BY (b o:Nat)(w:World):(Instr.fieldAt 166 (pV b o) 2).run Xa w=.ok (.pointer (some ⟨b,o+4,none⟩)) w:=by kernel_rfl
theorem FH (b o:Nat)(w:World):(Instr.fieldAt 166 (pV b o) 3).run Xa w=.ok (.pointer (some ⟨b,o+5,none⟩)) w:=by kernel_rfl
theorem BX (b o:Nat)(w:World):(Instr.fieldAt 170 (pV b o) 0).run Xa w=.ok (pV b o) w:=by kernel_rfl
theorem Ps (b o:Nat)(w:World):(Instr.fieldAt 170 (pV b o) 1).run Xa w=.ok (.pointer (some ⟨b,o+1,none⟩)) w:=by kernel_rfl
theorem Pr (b o:Nat)(w:World):(Instr.fieldAt 213 (pV b o) 0).run Xa w=.ok (pV b o) w:=by kernel_rfl
theorem JH (b o:Nat)(w:World):(Instr.fieldAt 249 (pV b o) 0).run Xa w=.ok (pV b o) w:=by kernel_rfl
theorem FG (b o:Nat)(w:World):(Instr.fieldAt 249 (pV b o) 1).run Xa w=.ok (.pointer (some ⟨b,o+2,none⟩)) w:=by kernel_rfl
theorem Pq (b o:Nat)(w:World):(Instr.fieldAt 249 (pV b o) 2).run Xa w=.ok (.pointer (some ⟨b,o+3,none⟩)) w:=by kernel_rfl
theorem JG (b o:Nat)(w:World):(Instr.fieldAt 249 (pV b o) 3).run Xa w=.ok (.pointer (some ⟨b,o+4,none⟩)) w:=by kernel_rfl
theorem va:iv Xa 3=true:=by kernel_rfl
theorem Un:iv Xa 4=true:=by kernel_rfl
theorem Vh:iv Xa 9=true:=by kernel_rfl
theorem sC:iv Xa 22=true:=by kernel_rfl
theorem Uq:iv Xa 26=true:=by kernel_rfl
theorem Sq:iv Xa 29=true:=by kernel_rfl
theorem Uo:iv Xa 33=true:=by kernel_rfl
theorem Um:iv Xa 47=true:=by kernel_rfl
theorem Fa:iv Xa 76=true:=by kernel_rfl
theorem Ul:iv Xa 77=true:=by kernel_rfl
theorem KL:iv Xa 119=true:=by kernel_rfl
theorem SX:iv Xa 122=true:=by kernel_rfl
theorem KK:iv Xa 144=true:=by kernel_rfl
theorem KJ:iv Xa 167=true:=by kernel_rfl
theorem SW:iv Xa 168=true:=by kernel_rfl
theorem KI:iv Xa 182=true:=by kernel_rfl
theorem SV:iv Xa 211=true:=by kernel_rfl
theorem SU:iv Xa 245=true:=by kernel_rfl
theorem ST:iv Xa 247=true:=by kernel_rfl
instance agg28:FcG Xa 28 3:=⟨by kernel_rfl⟩
instance agg35:FcG Xa 35 4:=⟨by kernel_rfl⟩
instance agg39:FcG Xa 39 3:=⟨by kernel_rfl⟩
instance agg41:FcG Xa 41 11:=⟨by kernel_rfl⟩
instance agg43:FcG Xa 43 19:=⟨by kernel_rfl⟩
instance agg50:FcG Xa 50 13:=⟨by kernel_rfl⟩
instance agg69:FcG Xa 69 7:=⟨by kernel_rfl⟩
instance agg94:FcG Xa 94 6:=⟨by kernel_rfl⟩
instance agg121:FcG Xa 121 2:=⟨by kernel_rfl⟩
instance agg166:FcG Xa 166 6:=⟨by kernel_rfl⟩
instance size3:FcZ Xa 3 1:=⟨by kernel_rfl⟩
instance size4:FcZ Xa 4 1:=⟨by kernel_rfl⟩
instance size22:FcZ Xa 22 1:=⟨by kernel_rfl⟩
instance size28:FcZ Xa 28 3:=⟨by kernel_rfl⟩
instance size33:FcZ Xa 33 1:=⟨by kernel_rfl⟩
instance size35:FcZ Xa 35 4:=⟨by kernel_rfl⟩
instance size39:FcZ Xa 39 3:=⟨by kernel_rfl⟩
instance size41:FcZ Xa 41 11:=⟨by kernel_rfl⟩
instance size43:FcZ Xa 43 19:=⟨by kernel_rfl⟩
instance size47:FcZ Xa 47 1:=⟨by kernel_rfl⟩
instance size50:FcZ Xa 50 13:=⟨by kernel_rfl⟩
instance size94:FcZ Xa 94 6:=⟨by kernel_rfl⟩
instance size119:FcZ Xa 119 1:=⟨by kernel_rfl⟩
instance size121:FcZ Xa 121 2:=⟨by kernel_rfl⟩
instance size144:FcZ Xa 144 1:=⟨by kernel_rfl⟩
instance size166:FcZ Xa 166 6:=⟨by kernel_rfl⟩
instance size167:FcZ Xa 167 1:=⟨by kernel_rfl⟩
instance size182:FcZ Xa 182 1:=⟨by kernel_rfl⟩
instance size211:FcZ Xa 211 1:=⟨by kernel_rfl⟩
instance size245:FcZ Xa 245 1:=⟨by kernel_rfl⟩
instance size278:FcZ Xa 278 0:=⟨by kernel_rfl⟩
instance zero3:FcI Xa 3 (iV 0):=⟨fun w=>by kernel_rfl⟩
instance zero4:FcI Xa 4 (.bool false):=⟨fun w=>by kernel_rfl⟩
instance zero22:FcI Xa 22 (W none 0 0):=⟨fun w=>by kernel_rfl⟩
instance zero28:FcI Xa 28 (.agg #[iV 0,iV 0,.string ⟨#[]⟩]):=⟨fun w=>by kernel_rfl⟩
instance zero35:FcI Xa 35 (.agg #[.bool false,.bool false,W none 0 0,W none 0 0]):=⟨fun w=>by kernel_rfl⟩
instance zero39:FcI Xa 39 (.agg #[iV 0,iV 0,.string ⟨#[]⟩]):=⟨fun w=>by kernel_rfl⟩
instance zero41:FcI Xa 41 (.agg #[iV 0,iV 0,iV 0,iV 0,.string ⟨#[]⟩,iV 0,iV 0,.string ⟨#[]⟩,iV 0,iV 0,.string ⟨#[]⟩]):=⟨fun w=>by kernel_rfl⟩
instance zero43:FcI Xa 43 (.agg #[iV 0,iV 0,iV 0,iV 0,.string ⟨#[]⟩,iV 0,iV 0,iV 0,iV 0,.string ⟨#[]⟩,iV 0,iV 0,.string ⟨#[]⟩,iV 0,iV 0,.string ⟨#[]⟩,iV 0,iV 0,.string ⟨#[]⟩]):=⟨fun w=>by kernel_rfl⟩
instance zero47:FcI Xa 47 (W none 0 0):=⟨fun w=>by kernel_rfl⟩
instance zero50:FcI Xa 50 (.agg #[iV 0,iV 0,.string ⟨#[]⟩,iV 0,iV 0,iV 0,.string ⟨#[]⟩,iV 0,iV 0,.string ⟨#[]⟩,iV 0,iV 0,.string ⟨#[]⟩]):=⟨fun w=>by kernel_rfl⟩
instance zero94:FcI Xa 94 (.agg #[iV 0,iV 0,iV 0,iV 0,W none 0 0,W none 0 0]):=⟨fun w=>by kernel_rfl⟩
instance zero121:FcI Xa 121 (.agg #[W none 0 0,W none 0 0]):=⟨fun w=>by kernel_rfl⟩
instance zero144:FcI Xa 144 (W none 0 0):=⟨fun w=>by kernel_rfl⟩
instance zero166:FcI Xa 166 (.agg #[iV 0,iV 0,iV 0,.string ⟨#[]⟩,iV 0,iV 0]):=⟨fun w=>by kernel_rfl⟩
instance zero182:FcI Xa 182 (.map none):=⟨fun w=>by kernel_rfl⟩
instance zero211:FcI Xa 211 (.map none):=⟨fun w=>by kernel_rfl⟩
instance zero245:FcI Xa 245 (.pointer none):=⟨fun w=>by kernel_rfl⟩
instance zero278:FcI Xa 278 (.agg #[]):=⟨fun w=>by kernel_rfl⟩
theorem Po (x0_ x1_ x2_ x3_:Int)(x4_a:Option Addr)(x4_n x4_c:Nat)(x5_a:Option Addr)(x5_n x5_c:Nat)(w:World):(Instr.field 94 (.agg #[iV x0_,iV x1_,iV x2_,iV x3_,.slice x4_a x4_n x4_c,.slice x5_a x5_n x5_c]) 0).run Xa w=.ok (iV x0_) w:=by kernel_rfl
instance bld_28_:FcB Xa 28 [] (.agg #[iV 0,iV 0,.string ⟨#[]⟩]):=⟨fun w=>by kernel_rfl⟩
instance bld_28_0 (x0_:Int):FcB Xa 28 [(0,iV x0_)] (.agg #[iV x0_,iV 0,.string ⟨#[]⟩]):=⟨fun w=>by kernel_rfl⟩
instance bld_28_0_1 (x0_ x1_:Int):FcB Xa 28 [(0,iV x0_),(1,iV x1_)] (.agg #[iV x0_,iV x1_,.string ⟨#[]⟩]):=⟨fun w=>by kernel_rfl⟩
instance bld_35_0_2 (x0_:Bool)(x2_a:Option Addr)(x2_n x2_c:Nat):FcB Xa 35 [(0,.bool x0_),(2,.slice x2_a x2_n x2_c)] (.agg #[.bool x0_,.bool false,.slice x2_a x2_n x2_c,W none 0 0]):=⟨fun w=>by kernel_rfl⟩
instance bld_39_0_1 (x0_ x1_:Int):FcB Xa 39 [(0,iV x0_),(1,iV x1_)] (.agg #[iV x0_,iV x1_,.string ⟨#[]⟩]):=⟨fun w=>by kernel_rfl⟩
instance bld_39_0_2 (x0_:Int)(x2_:ByteArray):FcB Xa 39 [(0,iV x0_),(2,.string x2_)] (.agg #[iV x0_,iV 0,.string x2_]):=⟨fun w=>by kernel_rfl⟩
instance bld_39_1 (x1_:Int):FcB Xa 39 [(1,iV x1_)] (.agg #[iV 0,iV x1_,.string ⟨#[]⟩]):=⟨fun w=>by kernel_rfl⟩
instance bld_41_0_1_2 (x0_ x1_ x2_0_ x2_1_:Int)(x2_2_:ByteArray):FcB Xa 41 [(0,iV x0_),(1,iV x1_),(2,.agg #[iV x2_0_,iV x2_1_,.string x2_2_])] (.agg #[iV x0_,iV x1_,iV x2_0_,iV x2_1_,.string x2_2_,iV 0,iV 0,.string ⟨#[]⟩,iV 0,iV 0,.string ⟨#[]⟩]):=⟨fun w=>by kernel_rfl⟩
instance bld_41_0_1_3_4 (x0_ x1_ x3_0_ x3_1_:Int)(x3_2_:ByteArray)(x4_0_ x4_1_:Int)(x4_2_:ByteArray):FcB Xa 41 [(0,iV x0_),(1,iV x1_),(3,.agg #[iV x3_0_,iV x3_1_,.string x3_2_]),(4,.agg #[iV x4_0_,iV x4_1_,.string x4_2_])] (.agg #[iV x0_,iV x1_,iV 0,iV 0,.string ⟨#[]⟩,iV x3_0_,iV x3_1_,.string x3_2_,iV x4_0_,iV x4_1_,.string x4_2_]):=⟨fun w=>by kernel_rfl⟩
instance bld_50_:FcB Xa 50 [] (.agg #[iV 0,iV 0,.string ⟨#[]⟩,iV 0,iV 0,iV 0,.string ⟨#[]⟩,iV 0,iV 0,.string ⟨#[]⟩,iV 0,iV 0,.string ⟨#[]⟩]):=⟨fun w=>by kernel_rfl⟩
instance bld_50_0 (x0_0_ x0_1_:Int)(x0_2_:ByteArray):FcB Xa 50 [(0,.agg #[iV x0_0_,iV x0_1_,.string x0_2_])] (.agg #[iV x0_0_,iV x0_1_,.string x0_2_,iV 0,iV 0,iV 0,.string ⟨#[]⟩,iV 0,iV 0,.string ⟨#[]⟩,iV 0,iV 0,.string ⟨#[]⟩]):=⟨fun w=>by kernel_rfl⟩
instance bld_50_0_1 (x0_0_ x0_1_:Int)(x0_2_:ByteArray)(x1_:Int):FcB Xa 50 [(0,.agg #[iV x0_0_,iV x0_1_,.string x0_2_]),(1,iV x1_)] (.agg #[iV x0_0_,iV x0_1_,.string x0_2_,iV x1_,iV 0,iV 0,.string ⟨#[]⟩,iV 0,iV 0,.string ⟨#[]⟩,iV 0,iV 0,.string ⟨#[]⟩]):=⟨fun w=>by kernel_rfl⟩
instance bld_50_0_1_2 (x0_0_ x0_1_:Int)(x0_2_:ByteArray)(x1_ x2_0_ x2_1_:Int)(x2_2_:ByteArray):FcB Xa 50 [(0,.agg #[iV x0_0_,iV x0_1_,.string x0_2_]),(1,iV x1_),(2,.agg #[iV x2_0_,iV x2_1_,.string x2_2_])] (.agg #[iV x0_0_,iV x0_1_,.string x0_2_,iV x1_,iV x2_0_,iV x2_1_,.string x2_2_,iV 0,iV 0,.string ⟨#[]⟩,iV 0,iV 0,.string ⟨#[]⟩]):=⟨fun w=>by kernel_rfl⟩
instance bld_50_0_2 (x0_0_ x0_1_:Int)(x0_2_:ByteArray)(x2_0_ x2_1_:Int)(x2_2_:ByteArray):FcB Xa 50 [(0,.agg #[iV x0_0_,iV x0_1_,.string x0_2_]),(2,.agg #[iV x2_0_,iV x2_1_,.string x2_2_])] (.agg #[iV x0_0_,iV x0_1_,.string x0_2_,iV 0,iV x2_0_,iV x2_1_,.string x2_2_,iV 0,iV 0,.string ⟨#[]⟩,iV 0,iV 0,.string ⟨#[]⟩]):=⟨fun w=>by kernel_rfl⟩
instance bld_69_1_2_3 (x1_ x2_ x3_:Int):FcB Xa 69 [(1,iV x1_),(2,iV x2_),(3,iV x3_)] (.agg #[iV 0,iV x1_,iV x2_,iV x3_,iV 0,iV 0,iV 0]):=⟨fun w=>by kernel_rfl⟩
instance bld_81_1_3_4 (x1_0_ x1_1_ x1_2_ x1_3_ x1_4_ x1_5_ x1_6_:Int)(x3_ x4_:Option Addr):FcB Xa 81 [(1,.agg #[iV x1_0_,iV x1_1_,iV x1_2_,iV x1_3_,iV x1_4_,iV x1_5_,iV x1_6_]),(3,.pointer x3_),(4,.pointer x4_)] (.agg #[iV 0,iV 0,iV 0,iV x1_0_,iV x1_1_,iV x1_2_,iV x1_3_,iV x1_4_,iV x1_5_,iV x1_6_,.nilIface,.pointer x3_,.pointer x4_,W none 0 0,iV 0,iV 0,iV 0,W none 0 0,W none 0 0]):=⟨fun w=>by kernel_rfl⟩
instance bld_94_:FcB Xa 94 [] (.agg #[iV 0,iV 0,iV 0,iV 0,W none 0 0,W none 0 0]):=⟨fun w=>by kernel_rfl⟩
instance bld_94_0 (x0_:Int):FcB Xa 94 [(0,iV x0_)] (.agg #[iV x0_,iV 0,iV 0,iV 0,W none 0 0,W none 0 0]):=⟨fun w=>by kernel_rfl⟩
instance bld_94_0_2_4 (x0_ x2_:Int)(x4_a:Option Addr)(x4_n x4_c:Nat):FcB Xa 94 [(0,iV x0_),(2,iV x2_),(4,.slice x4_a x4_n x4_c)] (.agg #[iV x0_,iV 0,iV x2_,iV 0,.slice x4_a x4_n x4_c,W none 0 0]):=⟨fun w=>by kernel_rfl⟩
instance bld_94_0_2_4_5 (x0_ x2_:Int)(x4_a:Option Addr)(x4_n x4_c:Nat)(x5_a:Option Addr)(x5_n x5_c:Nat):FcB Xa 94 [(0,iV x0_),(2,iV x2_),(4,.slice x4_a x4_n x4_c),(5,.slice x5_a x5_n x5_c)] (.agg #[iV x0_,iV 0,iV x2_,iV 0,.slice x4_a x4_n x4_c,.slice x5_a x5_n x5_c]):=⟨fun w=>by kernel_rfl⟩
instance bld_94_0_4 (x0_:Int)(x4_a:Option Addr)(x4_n x4_c:Nat):FcB Xa 94 [(0,iV x0_),(4,.slice x4_a x4_n x4_c)] (.agg #[iV x0_,iV 0,iV 0,iV 0,.slice x4_a x4_n x4_c,W none 0 0]):=⟨fun w=>by kernel_rfl⟩
instance bld_121_:FcB Xa 121 [] (.agg #[W none 0 0,W none 0 0]):=⟨fun w=>by kernel_rfl⟩
instance bld_124_3 (x3_:Option Addr):FcB Xa 124 [(3,.pointer x3_)] (.agg #[W none 0 0,W none 0 0,W none 0 0,W none 0 0,.pointer x3_]):=⟨fun w=>by kernel_rfl⟩
instance bld_135_0_1_2 (x0_0_ x0_1_ x0_2_ x0_3_:Int)(x0_4_a:Option Addr)(x0_4_n x0_4_c:Nat)(x0_5_a:Option Addr)(x0_5_n x0_5_c:Nat)(x1_:Option Addr)(x2_0_ x2_1_:Int)(x2_2_:ByteArray):FcB Xa 135 [(0,.agg #[iV x0_0_,iV x0_1_,iV x0_2_,iV x0_3_,.slice x0_4_a x0_4_n x0_4_c,.slice x0_5_a x0_5_n x0_5_c]),(1,.pointer x1_),(2,.agg #[iV x2_0_,iV x2_1_,.string x2_2_])] (.agg #[iV x0_0_,iV x0_1_,iV x0_2_,iV x0_3_,.slice x0_4_a x0_4_n x0_4_c,.slice x0_5_a x0_5_n x0_5_c,.pointer x1_,iV x2_0_,iV x2_1_,.string x2_2_]):=⟨fun w=>by kernel_rfl⟩
instance bld_166_:FcB Xa 166 [] (.agg #[iV 0,iV 0,iV 0,.string ⟨#[]⟩,iV 0,iV 0]):=⟨fun w=>by kernel_rfl⟩
instance bld_166_0 (x0_:Int):FcB Xa 166 [(0,iV x0_)] (.agg #[iV x0_,iV 0,iV 0,.string ⟨#[]⟩,iV 0,iV 0]):=⟨fun w=>by kernel_rfl⟩
instance bld_166_0_1_2_3 (x0_ x1_0_ x1_1_:Int)(x1_2_:ByteArray)(x2_ x3_:Int):FcB Xa 166 [(0,iV x0_),(1,.agg #[iV x1_0_,iV x1_1_,.string x1_2_]),(2,iV x2_),(3,iV x3_)] (.agg #[iV x0_,iV x1_0_,iV x1_1_,.string x1_2_,iV x2_,iV x3_]):=⟨fun w=>by kernel_rfl⟩
instance bld_166_1_2 (x1_0_ x1_1_:Int)(x1_2_:ByteArray)(x2_:Int):FcB Xa 166 [(1,.agg #[iV x1_0_,iV x1_1_,.string x1_2_]),(2,iV x2_)] (.agg #[iV 0,iV x1_0_,iV x1_1_,.string x1_2_,iV x2_,iV 0]):=⟨fun w=>by kernel_rfl⟩
instance bld_170_0_1 (x0_a:Option Addr)(x0_n x0_c:Nat)(x1_:Option Nat):FcB Xa 170 [(0,.slice x0_a x0_n x0_c),(1,.map x1_)] (.agg #[.slice x0_a x0_n x0_c,.map x1_]):=⟨fun w=>by kernel_rfl⟩
instance bld_213_0 (x0_:Option Nat):FcB Xa 213 [(0,.map x0_)] (.agg #[.map x0_]):=⟨fun w=>by kernel_rfl⟩
instance bld_233_0_1_2 (x0_ x1_0_ x1_1_:Int)(x1_2_:ByteArray)(x2_:Int):FcB Xa 233 [(0,iV x0_),(1,.agg #[iV x1_0_,iV x1_1_,.string x1_2_]),(2,iV x2_)] (.agg #[iV x0_,iV x1_0_,iV x1_1_,.string x1_2_,iV x2_]):=⟨fun w=>by kernel_rfl⟩
instance bld_249_0_2 (x0_0_a:Option Addr)(x0_0_n x0_0_c:Nat)(x0_1_a:Option Addr)(x0_1_n x0_1_c:Nat)(x2_:Option Nat):FcB Xa 249 [(0,.agg #[.slice x0_0_a x0_0_n x0_0_c,.slice x0_1_a x0_1_n x0_1_c]),(2,.map x2_)] (.agg #[.slice x0_0_a x0_0_n x0_0_c,.slice x0_1_a x0_1_n x0_1_c,W none 0 0,.map x2_,iV 0]):=⟨fun w=>by kernel_rfl⟩
instance bld_278_:FcB Xa 278 [] (.agg #[]):=⟨fun w=>by kernel_rfl⟩
theorem yx (w:World):(Instr.buildSlice 22 0 #[]).run Xa w=.ok (.slice (some ⟨w.heap.size,0,none⟩) 0 0) (w.alloc (.cells #[] 28)):=by kernel_rfl
theorem jA (x0_0_ x0_1_:Int)(x0_2_:ByteArray)(w:World):(Instr.buildSlice 22 1 #[(0,.agg #[iV x0_0_,iV x0_1_,.string x0_2_])]).run Xa w=.ok (.slice (some ⟨w.heap.size,0,none⟩) 1 1) (w.alloc (.cells #[iV x0_0_,iV x0_1_,.string x0_2_] 28)):=by kernel_rfl
theorem JY (x0_0_ x0_1_:Int)(x0_2_:ByteArray)(x1_0_ x1_1_:Int)(x1_2_:ByteArray)(w:World):(Instr.buildSlice 22 2 #[(0,.agg #[iV x0_0_,iV x0_1_,.string x0_2_]),(1,.agg #[iV x1_0_,iV x1_1_,.string x1_2_])]).run Xa w=.ok (.slice (some ⟨w.heap.size,0,none⟩) 2 2) (w.alloc (.cells #[iV x0_0_,iV x0_1_,.string x0_2_,iV x1_0_,iV x1_1_,.string x1_2_] 28)):=by kernel_rfl
theorem Cg (x0_0_ x0_1_:Int)(x0_2_:ByteArray)(x1_0_ x1_1_:Int)(x1_2_:ByteArray)(x2_0_ x2_1_:Int)(x2_2_:ByteArray)(w:World):(Instr.buildSlice 22 3 #[(0,.agg #[iV x0_0_,iV x0_1_,.string x0_2_]),(1,.agg #[iV x1_0_,iV x1_1_,.string x1_2_]),(2,.agg #[iV x2_0_,iV x2_1_,.string x2_2_])]).run Xa w=.ok (.slice (some ⟨w.heap.size,0,none⟩) 3 3) (w.alloc (.cells #[iV x0_0_,iV x0_1_,.string x0_2_,iV x1_0_,iV x1_1_,.string x1_2_,iV x2_0_,iV x2_1_,.string x2_2_] 28)):=by kernel_rfl
theorem PZ (x0_0_ x0_1_:Int)(x0_2_:ByteArray)(x1_0_ x1_1_:Int)(x1_2_:ByteArray)(x2_0_ x2_1_:Int)(x2_2_:ByteArray)(x3_0_ x3_1_:Int)(x3_2_:ByteArray)(w:World):(Instr.buildSlice 22 4 #[(0,.agg #[iV x0_0_,iV x0_1_,.string x0_2_]),(1,.agg #[iV x1_0_,iV x1_1_,.string x1_2_]),(2,.agg #[iV x2_0_,iV x2_1_,.string x2_2_]),(3,.agg #[iV x3_0_,iV x3_1_,.string x3_2_])]).run Xa w=.ok (.slice (some ⟨w.heap.size,0,none⟩) 4 4) (w.alloc (.cells #[iV x0_0_,iV x0_1_,.string x0_2_,iV x1_0_,iV x1_1_,.string x1_2_,iV x2_0_,iV x2_1_,.string x2_2_,iV x3_0_,iV x3_1_,.string x3_2_] 28)):=by kernel_rfl
theorem JX (w:World):(Instr.buildSlice 33 0 #[]).run Xa w=.ok (.slice (some ⟨w.heap.size,0,none⟩) 0 0) (w.alloc (.cells #[] 50)):=by kernel_rfl
theorem FZ (x0_0_0_ x0_0_1_:Int)(x0_0_2_:ByteArray)(x0_1_ x0_2_0_ x0_2_1_:Int)(x0_2_2_:ByteArray)(x0_3_0_ x0_3_1_:Int)(x0_3_2_:ByteArray)(x0_4_0_ x0_4_1_:Int)(x0_4_2_:ByteArray)(w:World):(Instr.buildSlice 33 1 #[(0,.agg #[iV x0_0_0_,iV x0_0_1_,.string x0_0_2_,iV x0_1_,iV x0_2_0_,iV x0_2_1_,.string x0_2_2_,iV x0_3_0_,iV x0_3_1_,.string x0_3_2_,iV x0_4_0_,iV x0_4_1_,.string x0_4_2_])]).run Xa w=.ok (.slice (some ⟨w.heap.size,0,none⟩) 1 1) (w.alloc (.cells #[iV x0_0_0_,iV x0_0_1_,.string x0_0_2_,iV x0_1_,iV x0_2_0_,iV x0_2_1_,.string x0_2_2_,iV x0_3_0_,iV x0_3_1_,.string x0_3_2_,iV x0_4_0_,iV x0_4_1_,.string x0_4_2_] 50)):=by kernel_rfl
theorem yw (x0_0_ x0_1_:Int)(x0_2_:ByteArray)(w:World):(Instr.buildSlice 47 1 #[(0,.agg #[iV x0_0_,iV x0_1_,.string x0_2_])]).run Xa w=.ok (.slice (some ⟨w.heap.size,0,none⟩) 1 1) (w.alloc (.cells #[iV x0_0_,iV x0_1_,.string x0_2_] 39)):=by kernel_rfl
theorem PY (x0_0_ x0_1_:Int)(x0_2_:ByteArray)(x1_0_ x1_1_:Int)(x1_2_:ByteArray)(w:World):(Instr.buildSlice 47 2 #[(0,.agg #[iV x0_0_,iV x0_1_,.string x0_2_]),(1,.agg #[iV x1_0_,iV x1_1_,.string x1_2_])]).run Xa w=.ok (.slice (some ⟨w.heap.size,0,none⟩) 2 2) (w.alloc (.cells #[iV x0_0_,iV x0_1_,.string x0_2_,iV x1_0_,iV x1_1_,.string x1_2_] 39)):=by kernel_rfl
theorem PX (x0_0_ x0_1_:Int)(x0_2_:ByteArray)(x1_0_ x1_1_:Int)(x1_2_:ByteArray)(x2_0_ x2_1_:Int)(x2_2_:ByteArray)(w:World):(Instr.buildSlice 47 3 #[(0,.agg #[iV x0_0_,iV x0_1_,.string x0_2_]),(1,.agg #[iV x1_0_,iV x1_1_,.string x1_2_]),(2,.agg #[iV x2_0_,iV x2_1_,.string x2_2_])]).run Xa w=.ok (.slice (some ⟨w.heap.size,0,none⟩) 3 3) (w.alloc (.cells #[iV x0_0_,iV x0_1_,.string x0_2_,iV x1_0_,iV x1_1_,.string x1_2_,iV x2_0_,iV x2_1_,.string x2_2_] 39)):=by kernel_rfl
theorem Hs (x0_0_ x0_1_ x0_2_ x0_3_:Int)(x0_4_a:Option Addr)(x0_4_n x0_4_c:Nat)(x0_5_a:Option Addr)(x0_5_n x0_5_c:Nat)(w:World):(Instr.buildSlice 119 1 #[(0,.agg #[iV x0_0_,iV x0_1_,iV x0_2_,iV x0_3_,.slice x0_4_a x0_4_n x0_4_c,.slice x0_5_a x0_5_n x0_5_c])]).run Xa w=.ok (.slice (some ⟨w.heap.size,0,none⟩) 1 1) (w.alloc (.cells #[iV x0_0_,iV x0_1_,iV x0_2_,iV x0_3_,.slice x0_4_a x0_4_n x0_4_c,.slice x0_5_a x0_5_n x0_5_c] 94)):=by kernel_rfl
theorem ru (x0_:Int)(w:World):(Instr.buildSlice 144 1 #[(0,iV x0_)]).run Xa w=.ok (.slice (some ⟨w.heap.size,0,none⟩) 1 1) (w.alloc (.cells #[iV x0_] 3)):=by kernel_rfl
theorem N6 (x0_ x1_:Int)(w:World):(Instr.buildSlice 144 2 #[(0,iV x0_),(1,iV x1_)]).run Xa w=.ok (.slice (some ⟨w.heap.size,0,none⟩) 2 2) (w.alloc (.cells #[iV x0_,iV x1_] 3)):=by kernel_rfl
theorem C6 (x0_0_ x0_1_0_ x0_1_1_:Int)(x0_1_2_:ByteArray)(x0_2_ x0_3_:Int)(w:World):(Instr.buildSlice 167 1 #[(0,.agg #[iV x0_0_,iV x0_1_0_,iV x0_1_1_,.string x0_1_2_,iV x0_2_,iV x0_3_])]).run Xa w=.ok (.slice (some ⟨w.heap.size,0,none⟩) 1 1) (w.alloc (.cells #[iV x0_0_,iV x0_1_0_,iV x0_1_1_,.string x0_1_2_,iV x0_2_,iV x0_3_] 166)):=by kernel_rfl
theorem zj (x0_a:Option Addr)(x0_n x0_c:Nat)(x1_a:Option Addr)(x1_n x1_c:Nat)(w:World):(Instr.buildSlice 216 2 #[(0,.slice x0_a x0_n x0_c),(1,.slice x1_a x1_n x1_c)]).run Xa w=.ok (.slice (some ⟨w.heap.size,0,none⟩) 2 2) (w.alloc (.cells #[.slice x0_a x0_n x0_c,.slice x1_a x1_n x1_c] 22)):=by kernel_rfl
theorem N5 (x0_a:Option Addr)(x0_n x0_c:Nat)(x1_a:Option Addr)(x1_n x1_c:Nat)(w:World):(Instr.buildSlice 218 2 #[(0,.slice x0_a x0_n x0_c),(1,.slice x1_a x1_n x1_c)]).run Xa w=.ok (.slice (some ⟨w.heap.size,0,none⟩) 2 2) (w.alloc (.cells #[.slice x0_a x0_n x0_c,.slice x1_a x1_n x1_c] 119)):=by kernel_rfl
theorem Sg:rM Xa 3 1 8=true:=by kernel_rfl
theorem sd:rM Xa 28 3 32=true:=by kernel_rfl
theorem Ok:rM Xa 39 3 32=true:=by kernel_rfl
theorem Qn:rM Xa 50 13 136=true:=by kernel_rfl
theorem TW:rM Xa 94 6 80=true:=by kernel_rfl
theorem TX:rM Xa 166 6 56=true:=by kernel_rfl
instance:Fc (iv Xa 3=true):=⟨va⟩
instance:Fc (iv Xa 4=true):=⟨Un⟩
instance:Fc (iv Xa 9=true):=⟨Vh⟩
instance:Fc (iv Xa 22=true):=⟨sC⟩
instance:Fc (iv Xa 26=true):=⟨Uq⟩
instance:Fc (iv Xa 29=true):=⟨Sq⟩
instance:Fc (iv Xa 33=true):=⟨Uo⟩
instance:Fc (iv Xa 47=true):=⟨Um⟩
instance:Fc (iv Xa 76=true):=⟨Fa⟩
instance:Fc (iv Xa 77=true):=⟨Ul⟩
instance:Fc (iv Xa 119=true):=⟨KL⟩
instance:Fc (iv Xa 122=true):=⟨SX⟩
instance:Fc (iv Xa 144=true):=⟨KK⟩
instance:Fc (iv Xa 167=true):=⟨KJ⟩
instance:Fc (iv Xa 168=true):=⟨SW⟩
instance:Fc (iv Xa 182=true):=⟨KI⟩
instance:Fc (iv Xa 211=true):=⟨SV⟩
instance:Fc (iv Xa 245=true):=⟨SU⟩
instance:Fc (iv Xa 247=true):=⟨ST⟩
instance:FcA0 Xa 28 0:=⟨sW⟩
instance:FcA Xa 28 1 1:=⟨Mn⟩
instance:FcA Xa 28 2 2:=⟨RX⟩
instance:FcA0 Xa 35 0:=⟨Mm⟩
instance:FcA Xa 35 1 1:=⟨RW⟩
instance:FcA Xa 35 2 2:=⟨Ik⟩
instance:FcA Xa 35 3 3:=⟨RV⟩
instance:FcA0 Xa 39 0:=⟨Ml⟩
instance:FcA Xa 39 1 1:=⟨Ee⟩
instance:FcA Xa 39 2 2:=⟨RU⟩
instance:FcA0 Xa 41 0:=⟨RT⟩
instance:FcA Xa 41 1 1:=⟨Mk⟩
instance:FcA Xa 41 2 2:=⟨RS⟩
instance:FcA Xa 41 3 5:=⟨RR⟩
instance:FcA Xa 41 4 8:=⟨Mj⟩
instance:FcA0 Xa 43 0:=⟨RQ⟩
instance:FcA Xa 43 1 1:=⟨RP⟩
instance:FcA Xa 43 2 2:=⟨RO⟩
instance:FcA Xa 43 3 5:=⟨RN⟩
instance:FcA Xa 43 4 16:=⟨RM⟩
instance:FcA0 Xa 50 0:=⟨Ij⟩
instance:FcA Xa 50 1 3:=⟨Mi⟩
instance:FcA Xa 50 2 4:=⟨RL⟩
instance:FcA Xa 50 3 7:=⟨RJ⟩
instance:FcA Xa 50 4 10:=⟨RI⟩
instance:FcA0 Xa 69 0:=⟨RH⟩
instance:FcA Xa 69 1 1:=⟨RG⟩
instance:FcA Xa 69 2 2:=⟨RF⟩
instance:FcA Xa 69 3 3:=⟨RE⟩
instance:FcA Xa 69 4 4:=⟨RD⟩
instance:FcA Xa 69 5 5:=⟨RC⟩
instance:FcA Xa 69 6 6:=⟨Rz⟩
instance:FcA Xa 73 1 1:=⟨Ry⟩
instance:FcA0 Xa 81 0:=⟨Rx⟩
instance:FcA Xa 81 1 3:=⟨Rw⟩
instance:FcA Xa 81 3 11:=⟨Rv⟩
instance:FcA Xa 81 4 12:=⟨Ru⟩
instance:FcA Xa 81 6 14:=⟨Rt⟩
instance:FcA0 Xa 94 0:=⟨Rs⟩
instance:FcA Xa 94 1 1:=⟨Rr⟩
instance:FcA Xa 94 2 2:=⟨Mh⟩
instance:FcA Xa 94 3 3:=⟨sV⟩
instance:FcA Xa 94 4 4:=⟨Ii⟩
instance:FcA Xa 94 5 5:=⟨wB⟩
instance:FcA0 Xa 121 0:=⟨FM⟩
instance:FcA Xa 121 1 1:=⟨Pw⟩
instance:FcA0 Xa 124 0:=⟨FL⟩
instance:FcA Xa 124 1 2:=⟨FK⟩
instance:FcA Xa 124 2 3:=⟨Pv⟩
instance:FcA Xa 124 3 4:=⟨Pu⟩
instance:FcA0 Xa 135 0:=⟨JJ⟩
instance:FcA Xa 135 1 6:=⟨JI⟩
instance:FcA Xa 135 2 7:=⟨Pt⟩
instance:FcA0 Xa 166 0:=⟨FJ⟩
instance:FcA Xa 166 1 1:=⟨FI⟩
instance:FcA Xa 166 2 4:=⟨BY⟩
instance:FcA Xa 166 3 5:=⟨FH⟩
instance:FcA0 Xa 170 0:=⟨BX⟩
instance:FcA Xa 170 1 1:=⟨Ps⟩
instance:FcA0 Xa 213 0:=⟨Pr⟩
instance:FcA0 Xa 249 0:=⟨JH⟩
instance:FcA Xa 249 1 2:=⟨FG⟩
instance:FcA Xa 249 2 3:=⟨Pq⟩
instance:FcA Xa 249 3 4:=⟨JG⟩
theorem G7:Tryz.prog.eqGuardType Tryz.prog.depth 28=false:=by kernel_rfl
theorem Mq (x y:WV)(w:World):(Op.equalIn 10000 28 (.agg #[iV x.Za,iV x.N,.string x.S]) (.agg #[iV y.Za,iV y.N,.string y.S])).run Xa w=.ok (decide (x=y)) w:=by
 obtain ⟨xKind,xN,xS⟩:=x;obtain ⟨yKind,yN,yS⟩:=y;show (Op.equalIn 10000 28 (.agg #[iV xKind,iV xN,.string xS]) (.agg #[iV yKind,iV yN,.string yS])).run Xa w=_
 go_simp
 simp only [oS];by_cases h0:xKind=yKind<;>by_cases h1:xN=yN<;>by_cases h2:xS=yS<;>simp [h0,h1,h2]
theorem vP {d:Option Nat}{a b:Operand}{x y:WV}(hx:bl s a=some (.agg #[iV x.Za,iV x.N,.string x.S]))(hy:bl s b=some (.agg #[iV y.Za,iV y.N,.string y.S])):Ev Xa s C ⟨d,.binOp .eql 28 a b u,ty,pos,af,gd⟩ (.bool (decide (x=y))):=
 fb hx hy fun w=>by
  rw [YQ,run_eqGuard_agg w _ _ _ _ _ _ G7];simp only [YP];rw [run_eql_struct,Mq];rfl
theorem C3 {d:Option Nat}{a b:Operand}{x y:WV}(hx:bl s a=some (.agg #[iV x.Za,iV x.N,.string x.S]))(hy:bl s b=some (.agg #[iV y.Za,iV y.N,.string y.S])):Ev Xa s C ⟨d,.binOp .neq 28 a b u,ty,pos,af,gd⟩ (.bool (!decide (x=y))):=
 fb hx hy fun w=>by
  rw [YQ,run_eqGuard_agg w _ _ _ _ _ _ G7];simp only [YP];rw [run_neq_struct,Mq];rfl
theorem G6:Tryz.prog.eqGuardType Tryz.prog.depth 39=false:=by kernel_rfl
theorem Io (x y:WL)(w:World):(Op.equalIn 10000 39 (.agg #[iV x.Za,iV x.N,.string x.S]) (.agg #[iV y.Za,iV y.N,.string y.S])).run Xa w=.ok (decide (x=y)) w:=by
 obtain ⟨xKind,xN,xS⟩:=x;obtain ⟨yKind,yN,yS⟩:=y;show (Op.equalIn 10000 39 (.agg #[iV xKind,iV xN,.string xS]) (.agg #[iV yKind,iV yN,.string yS])).run Xa w=_
 go_simp
 simp only [oS];by_cases h0:xKind=yKind<;>by_cases h1:xN=yN<;>by_cases h2:xS=yS<;>simp [h0,h1,h2]
theorem vO {d:Option Nat}{a b:Operand}{x y:WL}(hx:bl s a=some (.agg #[iV x.Za,iV x.N,.string x.S]))(hy:bl s b=some (.agg #[iV y.Za,iV y.N,.string y.S])):Ev Xa s C ⟨d,.binOp .eql 39 a b u,ty,pos,af,gd⟩ (.bool (decide (x=y))):=
 fb hx hy fun w=>by
  rw [YQ,run_eqGuard_agg w _ _ _ _ _ _ G6];simp only [YP];rw [run_eql_struct,Io];rfl
theorem C0 {d:Option Nat}{a b:Operand}{x y:WL}(hx:bl s a=some (.agg #[iV x.Za,iV x.N,.string x.S]))(hy:bl s b=some (.agg #[iV y.Za,iV y.N,.string y.S])):Ev Xa s C ⟨d,.binOp .neq 39 a b u,ty,pos,af,gd⟩ (.bool (!decide (x=y))):=
 fb hx hy fun w=>by
  rw [YQ,run_eqGuard_agg w _ _ _ _ _ _ G6];simp only [YP];rw [run_neq_struct,Io];rfl
theorem NM:Tryz.prog.eqGuardType Tryz.prog.depth 50=false:=by kernel_rfl
theorem R0 (x y:WU)(w:World):(Op.equalIn 10000 50 ((cc x)) ((cc y))).run Xa w=.ok (decide (x=y)) w:=by
 obtain ⟨⟨xKeyKind,xKeyN,xKeyS⟩,xAttrs,⟨xValueKind,xValueN,xValueS⟩,⟨xGetKind,xGetN,xGetS⟩,⟨xSetKind,xSetN,xSetS⟩⟩:=x;obtain ⟨⟨yKeyKind,yKeyN,yKeyS⟩,yAttrs,⟨yValueKind,yValueN,yValueS⟩,⟨yGetKind,yGetN,yGetS⟩,⟨ySetKind,ySetN,ySetS⟩⟩:=y;show (Op.equalIn 10000 50 (.agg #[iV xKeyKind,iV xKeyN,.string xKeyS,iV xAttrs,iV xValueKind,iV xValueN,.string xValueS,iV xGetKind,iV xGetN,.string xGetS,iV xSetKind,iV xSetN,.string xSetS]) (.agg #[iV yKeyKind,iV yKeyN,.string yKeyS,iV yAttrs,iV yValueKind,iV yValueN,.string yValueS,iV yGetKind,iV yGetN,.string yGetS,iV ySetKind,iV ySetN,.string ySetS])).run Xa w=_
 go_simp
 simp only [oS];by_cases h0:xKeyKind=yKeyKind
 rotate_left
 ·simp [h0]
 by_cases h1:xKeyN=yKeyN
 rotate_left
 ·simp [h0,h1]
 by_cases h2:xKeyS=yKeyS
 rotate_left
 ·simp [h0,h1,h2]
 by_cases h3:xAttrs=yAttrs
 rotate_left
 ·simp [h0,h1,h2,h3]
 by_cases h4:xValueKind=yValueKind
 rotate_left
 ·simp [h0,h1,h2,h3,h4]
 by_cases h5:xValueN=yValueN
 rotate_left
 ·simp [h0,h1,h2,h3,h4,h5]
 by_cases h6:xValueS=yValueS
 rotate_left
 ·simp [h0,h1,h2,h3,h4,h5,h6]
 by_cases h7:xGetKind=yGetKind
 rotate_left
 ·simp [h0,h1,h2,h3,h4,h5,h6,h7]
 by_cases h8:xGetN=yGetN
 rotate_left
 ·simp [h0,h1,h2,h3,h4,h5,h6,h7,h8]
 by_cases h9:xGetS=yGetS
 rotate_left
 ·simp [h0,h1,h2,h3,h4,h5,h6,h7,h8,h9]
 by_cases h10:xSetKind=ySetKind
 rotate_left
 ·simp [h0,h1,h2,h3,h4,h5,h6,h7,h8,h9,h10]
 by_cases h11:xSetN=ySetN
 rotate_left
 ·simp [h0,h1,h2,h3,h4,h5,h6,h7,h8,h9,h10,h11]
 by_cases h12:xSetS=ySetS
 rotate_left
 ·simp [h0,h1,h2,h3,h4,h5,h6,h7,h8,h9,h10,h11,h12]
 simp [h0,h1,h2,h3,h4,h5,h6,h7,h8,h9,h10,h11,h12]
theorem NS {d:Option Nat}{a b:Operand}{x y:WU}(hx:bl s a=some ((cc x)))(hy:bl s b=some ((cc y))):Ev Xa s C ⟨d,.binOp .neq 50 a b u,ty,pos,af,gd⟩ (.bool (!decide (x=y))):=
 fb hx hy fun w=>by
  rw [YQ,run_eqGuard_agg w _ _ _ _ _ _ NM];simp only [YP];rw [run_neq_struct,R0];rfl
theorem PC (x y:WT)(w:World):(Op.equalIn 10000 233 ((Pk x)) ((Pk y))).run Xa w=.ok (decide (x=y)) w:=by
 obtain ⟨xup_,⟨xkey_Kind,xkey_N,xkey_S⟩,xattrs_⟩:=x;obtain ⟨yup_,⟨ykey_Kind,ykey_N,ykey_S⟩,yattrs_⟩:=y;show (Op.equalIn 10000 233 (.agg #[iV xup_,iV xkey_Kind,iV xkey_N,.string xkey_S,iV xattrs_]) (.agg #[iV yup_,iV ykey_Kind,iV ykey_N,.string ykey_S,iV yattrs_])).run Xa w=_
 go_simp
 simp only [oS];by_cases h0:xup_=yup_
 rotate_left
 ·simp [h0]
 by_cases h1:xkey_Kind=ykey_Kind
 rotate_left
 ·simp [h0,h1]
 by_cases h2:xkey_N=ykey_N
 rotate_left
 ·simp [h0,h1,h2]
 by_cases h3:xkey_S=ykey_S
 rotate_left
 ·simp [h0,h1,h2,h3]
 by_cases h4:xattrs_=yattrs_
 rotate_left
 ·simp [h0,h1,h2,h3,h4]
 simp [h0,h1,h2,h3,h4]
def Dz (x:WL):Value:=.agg #[iV x.Za,iV x.N,.string x.S]
theorem CT:KeyOk Xa 39 Dz where
 und:=⟨_,z5,fun a b=> .inl rfl⟩
 eq:=fun a b w=>Io a b w
 check:=fun e a w=>by
  obtain ⟨xKind,xN,xS⟩:=a;kernel_rfl
 bits:=fun a=>by
  obtain ⟨xKind,xN,xS⟩:=a;simp [Dz,Instr.sameBits,F0]
def Hk (x:WU):Value:=.agg #[iV x.Zf.Za,iV x.Zf.N,.string x.Zf.S,iV x.Zd,iV x.Value.Za,iV x.Value.N,.string x.Value.S,iV x.Zq.Za,iV x.Zq.N,.string x.Zq.S,iV x.Zr.Za,iV x.Zr.N,.string x.Zr.S]
def eo (x:WT):Value:=.agg #[iV x.ZT,iV x.ZQ.Za,iV x.ZQ.N,.string x.ZQ.S,iV x.ZU]
theorem Fs:KeyOk Xa 233 eo where
 und:=⟨_,Tryz.underlying233,fun a b=> .inl rfl⟩
 eq:=fun a b w=>PC a b w
 check:=fun e a w=>by
  obtain ⟨xup_,⟨xkey_Kind,xkey_N,xkey_S⟩,xattrs_⟩:=a;kernel_rfl
 bits:=fun a=>by
  obtain ⟨xup_,⟨xkey_Kind,xkey_N,xkey_S⟩,xattrs_⟩:=a;simp [eo,Instr.sameBits,F0]
structure XDHeap where
 A2:Option Addr
 n2:Nat
 c2:Nat
 A3:Option Addr
 n3:Nat
 c3:Nat
 A4:Option Addr
 n4:Nat
 c4:Nat
 A5:Option Addr
 n5:Nat
 c5:Nat
 B6:Nat
 M7:Nat
 deriving Inhabited
def KU (B1:Nat)(e:WD)(x:XDHeap):W8:=[ah B1 124 [.slice x.A2 x.n2 x.c2,.slice x.A3 x.n3 x.c3,.slice x.A4 x.n4 x.c4,.slice x.A5 x.n5 x.c5,.pointer (some ⟨x.B6,0,none⟩)],bd jO 94 (.slice x.A2 x.n2 x.c2) e.m_.Zh,bd jO 94 (.slice x.A3 x.n3 x.c3) e.m_.Zj,bd ay 28 (.slice x.A4 x.n4 x.c4) e.Zt,bd ay 28 (.slice x.A5 x.n5 x.c5) e.Zv,ah x.B6 213 [.map (some x.M7)],bB jK qP x.M7 e.Zw.at_]
def Kw (B1:Nat)(e:WD)(x:XDHeap):W8:=[aW B1 124 [.slice x.A2 x.n2 x.c2,.slice x.A3 x.n3 x.c3,.slice x.A4 x.n4 x.c4,.slice x.A5 x.n5 x.c5,.pointer (some ⟨x.B6,0,none⟩)],gK jO (.slice x.A2 x.n2 x.c2) e.m_.Zh,gK jO (.slice x.A3 x.n3 x.c3) e.m_.Zj,gK ay (.slice x.A4 x.n4 x.c4) e.Zt,gK ay (.slice x.A5 x.n5 x.c5) e.Zv,aW x.B6 213 [.map (some x.M7)],qJ jK qP x.M7 e.Zw.at_]
@[reducible] def oDHeap (B1:Nat)(e:WD):Chunk:=dX (KU B1 e)
@[reducible] def pDHeap (B1:Nat)(e:WD):Chunk:=Kj (Kw B1 e)
theorem LQ {B1:Nat}{e:WD}{A2:Option Addr}{n2 c2:Nat}{A3:Option Addr}{n3 c3:Nat}{A4:Option Addr}{n4 c4:Nat}{A5:Option Addr}{n5 c5 B6 M7:Nat}(k:Cv L M):Cv (ah B1 124 [W A2 n2 c2,W A3 n3 c3,W A4 n4 c4,W A5 n5 c5,pV B6 0]::iJ A2 n2 c2 e.m_.Zh::iJ A3 n3 c3 e.m_.Zj::bf A4 n4 c4 e.Zt::bf A5 n5 c5 e.Zv::ah B6 213 [.map (some M7)]::bB jK qP M7 e.Zw.at_::L) (oDHeap B1 e::M):=(fE (Q:=KU B1 e) ⟨A2,n2,c2,A3,n3,c3,A4,n4,c4,A5,n5,c5,B6,M7⟩).trans (mZ _ k)
instance {B1:Nat}{e:WD}:LentQ (KU B1 e) (Kw B1 e):=⟨.of fun x=>⟨x,t5 (yd (i:=0) rfl) (t5 (jw (i:=1) rfl) (t5 (jw (i:=2) rfl) (t5 (jw (i:=3) rfl) (t5 (jw (i:=4) rfl) (t5 (yd (i:=5) rfl) (t5 (Fl (i:=6) rfl) au))))))⟩⟩
structure XDTable where
 A2:Option Addr
 n2:Nat
 c2:Nat
 M3:Nat
 deriving Inhabited
def H9 (B1:Nat)(e:WQ)(x:XDTable):W8:=[ah B1 170 [.slice x.A2 x.n2 x.c2,.map (some x.M3)],bd bC 166 (.slice x.A2 x.n2 x.c2) e.Zp,bB eo vV x.M3 e.ZD]
def H3 (B1:Nat)(e:WQ)(x:XDTable):W8:=[aW B1 170 [.slice x.A2 x.n2 x.c2,.map (some x.M3)],gK bC (.slice x.A2 x.n2 x.c2) e.Zp,qJ eo vV x.M3 e.ZD]
@[reducible] def oDTable (B1:Nat)(e:WQ):Chunk:=dX (H9 B1 e)
@[reducible] def pDTable (B1:Nat)(e:WQ):Chunk:=Kj (H3 B1 e)
theorem Je {B1:Nat}{e:WQ}{A2:Option Addr}{n2 c2 M3:Nat}(k:Cv L M):Cv (ah B1 170 [W A2 n2 c2,.map (some M3)]::bd bC 166 (W A2 n2 c2) e.Zp::bB eo vV M3 e.ZD::L) (oDTable B1 e::M):=(fE (Q:=H9 B1 e) ⟨A2,n2,c2,M3⟩).trans (mZ _ k)
instance {B1:Nat}{e:WQ}:LentQ (H9 B1 e) (H3 B1 e):=⟨.of fun x=>⟨x,t5 (yd (i:=0) rfl) (t5 (jw (i:=1) rfl) (t5 (Fl (i:=2) rfl) au))⟩⟩
structure XDWorld where
 A4:Option Addr
 n4:Nat
 c4:Nat
 A5:Option Addr
 n5:Nat
 c5:Nat
 A6:Option Addr
 n6:Nat
 c6:Nat
 deriving Inhabited
def BL (B1 B2 B3:Nat)(e:WM)(x:XDWorld):W8:=[ah B1 81 [iV e.ZB.ZR,iV e.ZB.ZL,iV e.ZB.ZS,iV e.Zu.ZM,iV e.Zu.ZN,iV e.Zu.ZH,iV e.Zu.ZK,iV e.Zu.Zh,iV e.Zu.ZO,iV e.Zu.ZP,.nilIface,pV B2 0,pV B3 0,.slice x.A4 x.n4 x.c4,iV e.ZE,iV e.ZF,iV e.ZG,.slice x.A5 x.n5 x.c5,.slice x.A6 x.n6 x.c6],oDHeap B2 e.Zo,oDTable B3 e.Zp,bd sJ 9 (.slice x.A4 x.n4 x.c4) e.Zy,bd nI 309 (.slice x.A5 x.n5 x.c5) e.Zz,bd sJ 9 (.slice x.A6 x.n6 x.c6) e.ZA]
def D2 (B1 B2 B3:Nat)(e:WM)(x:XDWorld):W8:=[aW B1 81 [iV e.ZB.ZR,iV e.ZB.ZL,iV e.ZB.ZS,iV e.Zu.ZM,iV e.Zu.ZN,iV e.Zu.ZH,iV e.Zu.ZK,iV e.Zu.Zh,iV e.Zu.ZO,iV e.Zu.ZP,.nilIface,pV B2 0,pV B3 0,.slice x.A4 x.n4 x.c4,iV e.ZE,iV e.ZF,iV e.ZG,.slice x.A5 x.n5 x.c5,.slice x.A6 x.n6 x.c6],pDHeap B2 e.Zo,pDTable B3 e.Zp,gK sJ (.slice x.A4 x.n4 x.c4) e.Zy,gK nI (.slice x.A5 x.n5 x.c5) e.Zz,gK sJ (.slice x.A6 x.n6 x.c6) e.ZA]
@[reducible] def oDWorld (B1 B2 B3:Nat)(e:WM):Chunk:=dX (BL B1 B2 B3 e)
@[reducible] def pDWorld (B1 B2 B3:Nat)(e:WM):Chunk:=Kj (D2 B1 B2 B3 e)
theorem Jd {B1:Nat}{e:WM}{A4:Option Addr}{n4 c4:Nat}{A5:Option Addr}{n5 c5:Nat}{A6:Option Addr}{n6 c6:Nat}(k:Cv L M):Cv (ah B1 81 (zZ e B2 B3 A4 n4 c4 A5 n5 c5 A6 n6 c6)::oDHeap B2 e.Zo::oDTable B3 e.Zp::pJ A4 n4 c4 e.Zy::AB A5 n5 c5 e.Zz::pJ A6 n6 c6 e.ZA::L) (oDWorld B1 B2 B3 e::M):=(fE (Q:=BL B1 B2 B3 e) ⟨A4,n4,c4,A5,n5,c5,A6,n6,c6⟩).trans (mZ _ k)
instance {B1:Nat}{e:WM}:LentQ (BL B1 B2 B3 e) (D2 B1 B2 B3 e):=⟨.of fun x=>⟨x,t5 (yd (i:=0) rfl) (t5 (ze (i:=1) rfl) (t5 (ze (i:=2) rfl) (t5 (jw (i:=3) rfl) (t5 (jw (i:=4) rfl) (t5 (jw (i:=5) rfl) au)))))⟩⟩
instance {B1:Nat}{e:WM}:LentP (BL B1 B2 B3 e) (Kw B2 e.Zo):=.sub 1 fun _=>rfl
instance {B1:Nat}{e:WM}:MemR (D2 B1 B2 B3 e) (pDHeap B2 e.Zo):=⟨fun _=>X9 _ (Ya)⟩
@[reducible] def oDWorld_h1 (B1 B2 B3:Nat)(e:WM):Chunk:=dX fun x:XDWorld=> [ah B1 81 [iV e.ZB.ZR,iV e.ZB.ZL,iV e.ZB.ZS,iV e.Zu.ZM,iV e.Zu.ZN,iV e.Zu.ZH,iV e.Zu.ZK,iV e.Zu.Zh,iV e.Zu.ZO,iV e.Zu.ZP,.nilIface,pV B2 0,pV B3 0,.slice x.A4 x.n4 x.c4,iV e.ZE,iV e.ZF,iV e.ZG,.slice x.A5 x.n5 x.c5,.slice x.A6 x.n6 x.c6],oDTable B3 e.Zp,bd sJ 9 (.slice x.A4 x.n4 x.c4) e.Zy,bd nI 309 (.slice x.A5 x.n5 x.c5) e.Zz,bd sJ 9 (.slice x.A6 x.n6 x.c6) e.ZA]
theorem KB {B1:Nat}{e:WM}:Cv (oDWorld B1 B2 B3 e::L) (oDHeap B2 e.Zo::oDWorld_h1 B1 B2 B3 e::L):=Mu fun x=>⟨x,(.trans (.swap _ _ _) (.cons _ (.refl _)):List.Perm _ _).symm⟩
theorem Lj {B1:Nat}{e:WM}{z:WD}:Cv (oDHeap B2 z::oDWorld_h1 B1 B2 B3 e::L) (oDWorld B1 B2 B3 (⟨e.ZB,e.Zu,(),z,e.Zp,e.Zy,e.ZE,e.ZF,e.ZG,e.Zz,e.ZA⟩:WM)::L):=JP fun x=>⟨x,.trans (.swap _ _ _) (.cons _ (.refl _))⟩
instance {B1:Nat}{e:WM}:LentP (BL B1 B2 B3 e) (H3 B3 e.Zp):=.sub 2 fun _=>rfl
instance {B1:Nat}{e:WM}:MemR (D2 B1 B2 B3 e) (pDTable B3 e.Zp):=⟨fun _=>X9 _ (X9 _ (Ya))⟩
instance:FcS Xa 22 28:=⟨t9⟩
instance:FcS Xa 23 43:=⟨Ex⟩
instance:FcS Xa 33 50:=⟨EM⟩
instance:FcS Xa 47 39:=⟨Wj⟩
instance:FcS Xa 119 94:=⟨Wk⟩
instance:FcS Xa 144 3:=⟨Wl⟩
instance:FcS Xa 167 166:=⟨Wm⟩
instance:FcS Xa 218 119:=⟨Tryz.underlying218⟩
instance:RepF ay (fun x=> [iV x.Za,iV x.N,.string x.S]):=⟨fun _ _ _ _ h=>h⟩
instance:RepF nY (fun x=> [iV x.Za,iV x.N,.string x.S]):=⟨fun _ _ _ _ h=>h⟩
instance:RepF OH (fun x=> [iV x.Has,iV x.Zd,iV x.Value.Za,iV x.Value.N,.string x.Value.S,iV x.Zq.Za,iV x.Zq.N,.string x.Zq.S,iV x.Zr.Za,iV x.Zr.N,.string x.Zr.S]):=⟨fun _ _ _ _ h=>h⟩
instance:RepF vv (fun x=> [iV x.Za,iV x.N,iV x.K.Za,iV x.K.N,.string x.K.S,iV x.D.Has,iV x.D.Zd,iV x.D.Value.Za,iV x.D.Value.N,.string x.D.Value.S,iV x.D.Zq.Za,iV x.D.Zq.N,.string x.D.Zq.S,iV x.D.Zr.Za,iV x.D.Zr.N,.string x.D.Zr.S,iV x.V.Za,iV x.V.N,.string x.V.S]):=⟨fun _ _ _ _ h=>h⟩
instance:RepF OI (fun x=> [iV x.ZM,iV x.ZN,iV x.ZH,iV x.ZK,iV x.Zh,iV x.ZO,iV x.ZP]):=⟨fun _ _ _ _ h=>h⟩
instance:RepF bC (fun x=> [iV x.Up,iV x.Zf.Za,iV x.Zf.N,.string x.Zf.S,iV x.Zd,iV x.ZC]):=⟨fun _ _ _ _ h=>h⟩
instance:RepF SO (fun x=> [iV x.ZT,iV x.ZQ.Za,iV x.ZQ.N,.string x.ZQ.S,iV x.ZU]):=⟨fun _ _ _ _ h=>h⟩
instance:RepF QI (fun x=> [iV x.ZR,iV x.ZL,iV x.ZS]):=⟨fun _ _ _ _ h=>h⟩
instance:RepF nI (fun x=> [iV x.Za,iV x.Zf.Za,iV x.Zf.N,.string x.Zf.S,.string x.S]):=⟨fun _ _ _ _ h=>h⟩
instance:RepF iq (fun x=> [iV x.Zf.Za,iV x.Zf.N,.string x.Zf.S,iV x.Zd,iV x.Value.Za,iV x.Value.N,.string x.Value.S,iV x.Zq.Za,iV x.Zq.N,.string x.Zq.S,iV x.Zr.Za,iV x.Zr.N,.string x.Zr.S]):=⟨fun _ _ _ _ h=>h⟩
@[reducible] def oDWorld_h2 (B1 B2 B3:Nat)(e:WM):Chunk:=dX fun x:XDWorld=> [ah B1 81 [iV e.ZB.ZR,iV e.ZB.ZL,iV e.ZB.ZS,iV e.Zu.ZM,iV e.Zu.ZN,iV e.Zu.ZH,iV e.Zu.ZK,iV e.Zu.Zh,iV e.Zu.ZO,iV e.Zu.ZP,.nilIface,pV B2 0,pV B3 0,.slice x.A4 x.n4 x.c4,iV e.ZE,iV e.ZF,iV e.ZG,.slice x.A5 x.n5 x.c5,.slice x.A6 x.n6 x.c6],oDHeap B2 e.Zo,bd sJ 9 (.slice x.A4 x.n4 x.c4) e.Zy,bd nI 309 (.slice x.A5 x.n5 x.c5) e.Zz,bd sJ 9 (.slice x.A6 x.n6 x.c6) e.ZA]
theorem At {B1:Nat}{e:WM}:Cv (oDWorld B1 B2 B3 e::L) (oDTable B3 e.Zp::oDWorld_h2 B1 B2 B3 e::L):=Mu fun x=>⟨x,(.trans (.swap _ _ _) (.cons _ (.trans (.swap _ _ _) (.cons _ (.refl _)))):List.Perm _ _).symm⟩
theorem AI {B1:Nat}{e:WM}{z:WQ}:Cv (oDTable B3 z::oDWorld_h2 B1 B2 B3 e::L) (oDWorld B1 B2 B3 (⟨e.ZB,e.Zu,(),e.Zo,z,e.Zy,e.ZE,e.ZF,e.ZG,e.Zz,e.ZA⟩:WM)::L):=JP fun x=>⟨x,.trans (.swap _ _ _) (.cons _ (.trans (.swap _ _ _) (.cons _ (.refl _))))⟩
theorem LS {R:ι->Value->W8->Prop}{Q:ι->W8}[Inhabited ι](k:Nat)(hk:L[k]? =some (dX Q))(h:∀x,Okc P f args (L.take k++(Q x++L.drop (k+1))) (R x))(hr:∀x v post,R x v post-> ∃post',R' v post'/\Cv post post':=by
   intro x v post
   repeat (refine UZ ?_;intro _)
   rintro ⟨rfl,rfl⟩;apply VK
   repeat (apply Exists.intro)
   exact ⟨J,J⟩
   all_goals (repeat (first|with_reducible exact ad _|apply LQ|apply Je|apply Jd|apply mZ))):Okc P f args L R':=Vj k hk h hr
theorem Vi (h:Okc P f args L R)(hr:∀v post,R v post-> ∃post',R' v post'/\Cv post post':=by
   intro v post
   repeat (refine UZ ?_;intro _)
   rintro ⟨rfl,rfl⟩;apply VK
   repeat (apply Exists.intro)
   exact ⟨J,J⟩
   all_goals (repeat (first|with_reducible exact ad _|apply LQ|apply Je|apply Jd|apply mZ))):Okc P f args L R':=VI h hr
abbrev iS (x:WI)(A:Option Addr)(n c:Nat)(A2:Option Addr)(n2 c2:Nat):W9:=[iV x.Za,iV x.Zi,iV x.Ze,iV x.Zg,.slice A n c,W A2 n2 c2]
abbrev kY (x:WO)(A:Option Addr)(n c:Nat)(A2:Option Addr)(n2 c2:Nat):W9:=[.bool x.Ext,.bool x.Zs,.slice A n c,W A2 n2 c2]
abbrev Uu:W9:=[iV 8,iV 0,.string (⟨#[]⟩:ByteArray)]
abbrev rE:Chunk:=aW 0 28 Uu
def dK (N:Nat)(a0:WV):Option Bool:=
 (bif decide (a0.Za<0) then (some true) else (some (decide (9<a0.Za)))).bind fun b2=>bif b2 then (some false) else (bif decide (a0.Za=5) then ((bif decide (a0.N=0) then (some (decide ((a0.S.size:Int)<=65536))) else (some false)).bind fun b5=>some b5) else (bif !(a0.S.toList==(⟨#[]⟩:ByteArray).toList) then (some false) else (bif decide (a0.Za=2) then ((bif decide (a0.N=0) then (some true) else (some (decide (a0.N=1)))).bind fun b8=>some b8) else (bif decide (a0.Za=3) then ((bif decide ((-9007199254740992)<=a0.N) then (some (decide (a0.N<=9007199254740992))) else (some false)).bind fun a6=>some a6) else ((bif decide (a0.Za=6) then (some true) else (some (decide (a0.Za=7)))).bind fun a7=>(bif a7 then (some true) else (some (decide (a0.Za=9)))).bind fun b12=>bif b12 then (some (decide (1<=a0.N))) else (some (decide (a0.N=0))))))))
theorem Kv {N:Nat}{a0:WV}{r:Bool}(h:dK N a0=some r):Okc Xa 26 [(aE a0)] ([]) (fun u post=>u=.bool r/\post=[]):=by
 refine ce Tryz.func26 ?_;intro B1;refine sY ?_;refine gS 4 10 6 h ?_;intro b2 h;refine dv h ?_ ?_<;>intro h
 ·exact eY
 refine sY ?_;refine gH J h ?_ ?_<;>intro h
 ·refine ab ?_
  refine ou 5 22 17 h (fun _ g5 h=> ?_) fun b5 h=> ?_
  ·refine ab ?_;refine eW (qw J Wn) J (ca g5 J) J ?_;exact gY
  exact eY
 refine sY ?_;refine fY (FO J J) ?_;refine gH J h ?_ ?_<;>intro h
 ·exact eY
 refine sY ?_;refine gH J h ?_ ?_<;>intro h
 ·refine ab ?_;refine gS 4 36 32 h ?_;intro b8 h;exact eY
 refine sY ?_;refine gH J h ?_ ?_<;>intro h
 ·refine ab ?_;refine gS 4 47 43 h ?_;intro a6 h;exact eY
 refine sY ?_;refine gS 4 55 51 h ?_;intro a7 h;refine ab ?_;refine gS 4 60 56 h ?_;intro b12 h;refine dv h ?_ ?_<;>intro h
 ·exact eY
 exact eY
def ir (N:Nat):Option WV:=
 some (⟨8,0,⟨#[]⟩⟩:WV)
theorem pE {N:Nat}{r:WV}(h:ir N=some r):Okc Xa 21 [] ([]) (fun u post=>u=(aE r)/\post=[]):=by
 refine ce Tryz.func21 ?_;intro B1;exact eY
theorem rA {r:WV}: ∀v post,((fun (u:Value) (post:W8)=>u=(aE r)/\post=[])) v post-> ∀c∈post,ij c:=by
 rintro _ _ ⟨rfl,rfl⟩;exact au
def ng (a0:WV):Option Bool:=
 (bif decide (a0.Za<7) then ((dK N a0).bind fun y3=>some y3) else (some false)).bind fun b2=>(bif b2 then (some true) else ((ir N).bind fun y5=>some (decide (a0=y5)))).bind fun b4=>some b4
theorem rN {N:Nat}{a0:WV}{r:Bool}(h:ng N a0=some r):Okc Xa 8 [(aE a0)] ([]) (fun u post=>u=.bool r/\post=[]):=by
 refine ce Tryz.func8 ?_;intro B1;refine ab ?_;refine dY [0,1,2,3] ?_
 refine yJ [4,5,6] 6 6 9 h (fun _ g2 h rest=> ?_) (fun _ g2 h rest=> ?_) fun b2 h=> ?_
 ·refine sF 4 J O (ax (us:=bP a0) 0 J J agg28.out J) (ca g2 J) J ?_;obtain ⟨y3,k,h⟩:=aa h;refine pt 5 J O (oR (Kv k)) J (ca g2 J) J ?_;rintro _ _ ⟨_,⟨rfl,rfl⟩,rfl⟩;refine ⟨_,ad _,ad _,?_⟩;refine zE 6 J (iy g2 J J) ?_;exact yS rest h
 ·refine yY [4,5,6] ?_;exact yS rest h
 refine zY [7] ?_
 refine yJ [8,9,10,11] 1 10 14 h (fun _ g4 h rest=> ?_) (fun _ g4 h rest=> ?_) fun b4 h=> ?_
 ·refine yY [8,9,10,11] ?_;exact yS rest h
 ·refine sF 8 J O (ax (us:=bP a0) 0 J J agg28.out J) (dw g4 J) J ?_;obtain ⟨y5,k,h⟩:=aa h;refine pt 9 J O (oR (pE k)) J (dw g4 J) J ?_;rintro _ _ ⟨_,⟨rfl,rfl⟩,rfl⟩;refine ⟨_,ad _,ad _,?_⟩;refine io 10 J O (vP (x:=a0) (y:=y5) J J) (dw g4 J) J ?_;refine zE 11 J (jy g4 J J) ?_;exact yS rest h
 refine zX [12] ?_;exact eY
theorem Ga {r:Bool}: ∀v post,((fun (u:Value) (post:W8)=>u=.bool r/\post=[])) v post-> ∀c∈post,ij c:=by
 rintro _ _ ⟨rfl,rfl⟩;exact au
def Dg (N:Nat):Option Bool:=
 some true
def uu (N:Nat)(a0:List WS):Nat->Int->Option Bool
 |0,_=>none
 |m3+1,p4=>(bif decide (p4<(a0.length:Int)) then (some (decide (p4<40))) else (some false)).bind fun b5=>bif b5 then ((aq a0 p4).bind fun x7=>(ng N x7.V).bind fun y9=>(bif !y9 then (some true) else ((ng N x7.D.Value).bind fun a6=>some (!a6))).bind fun a7=>(bif a7 then (some true) else ((ng N x7.D.Zq).bind fun a8=>some (!a8))).bind fun b12=>(bif b12 then (some true) else ((ng N x7.D.Zr).bind fun b0=>some (!b0))).bind fun b6=>(bif b6 then (some true) else (some (decide (2000<(x7.K.S.size:Int))))).bind fun b16=>bif b16 then (some false) else ((bif decide (2000<x7.N) then (some (decide (x7.N<=4096))) else (some false)).bind fun b7=>(bif b7 then (some true) else ((bif decide (2000<x7.K.N) then (some (decide (x7.K.N<4096))) else (some false)).bind fun b9=>some b9)).bind fun c7=>(bif c7 then (some true) else ((bif decide (2000<x7.D.Value.N) then (some (decide (x7.D.Value.N<=4096))) else (some false)).bind fun c8=>some c8)).bind fun c9=>bif c9 then (some false) else (aL (in64 (p4+1)) ((uu N a0 m3) (p4+1))))) else (Dg N)
def Ac (a0:List WS):Option Bool:=
 uu N a0 N 0
theorem IR {N:Nat}{a0:List WS}{r:Bool}(h:Ac N a0=some r):Okc Xa 6 [W A1 n1 c1] ([gK vv (W A1 n1 c1) a0]) (fun u post=>u=.bool r/\post=[]):=by
 refine ce Tryz.func6 ?_;refine am (fun s L=>Dg N=some r/\s=[(2,.bool false)]/\L=[]) ?_ ?_
 ·refine ab ?_;refine lK (fun m s L=> ∃(p4:Int),uu N a0 m p4=some r/\s=[(0,W A1 n1 c1),(2,.bool false),(3,iV p4)]/\L=[gK vv (W A1 n1 c1) a0]) N ?_;rintro m3 _ _ ⟨p4,h,rfl,rfl⟩;rw [uu.eq_2] at h;refine sZ ?_;refine gS 3 12 9 h ?_;intro b5 h;refine dv h ?_ ?_<;>intro h
  ·refine sY ?_;obtain ⟨x7,a7,a8,b0,h⟩:=bz h
   refine cl fun B8=> ?_
   refine sZ ?_
   refine cR h (fun _ k=>rN k) fun y9 h=> ?_
   refine wT 6 29 23 h (fun _ b6 h=> ?_) fun b7 h=> ?_
   ·refine cR h (fun _ k=>rN k) fun b9 h=> ?_
    exact gY
   refine ab ?_
   refine wT 6 36 30 h (fun _ c7 h=> ?_) fun b12 h=> ?_
   ·refine cR h (fun _ k=>rN k) fun c8 h=> ?_
    exact gY
   refine ab ?_
   refine wT 6 43 37 h (fun _ c9 h=> ?_) fun d0 h=> ?_
   ·refine cR h (fun _ k=>rN k) fun d1 h=> ?_
    exact gY
   refine ab ?_
   refine wT 6 50 44 h (fun _ a6 h=> ?_) fun b16 h=> ?_
   ·refine ab ?_;refine eW (qw J Wn) J (dw a6 J) J ?_;exact gY
   refine dv h ?_ ?_<;>intro h
   ·exact eY
   refine ab ?_;refine gS 4 58 54 h ?_;intro d2 h;refine ab ?_
   refine wT 11 70 59 h (fun _ d3 h=> ?_) fun d4 h=> ?_
   ·refine ab ?_;refine gS 5 69 64 h ?_;intro d6 h;exact gY
   refine ab ?_
   refine wT 13 84 71 h (fun _ e0 h=> ?_) fun e1 h=> ?_
   ·refine ab ?_;refine gS 6 83 77 h ?_;intro e2 h;exact gY
   refine dv h ?_ ?_<;>intro h
   ·exact eY
   refine ab ?_;obtain ⟨e3,h⟩:=ae h;exact lY
  exact jY
 rintro _ _ ⟨h,rfl,rfl⟩;exact eY
theorem Gb {r:Bool}: ∀v post,((fun (u:Value) (post:W8)=>u=.bool r/\post=[])) v post-> ∀c∈post,ij c:=by
 rintro _ _ ⟨rfl,rfl⟩;exact au
def eO (N:Nat)(a0 a1 a2:Int):Option Bool:=
 (bif decide (a1<=a0) then (some (decide (a0<=a2))) else (some false)).bind fun b1=>some b1
theorem fw {N:Nat}{a2:Int}{r:Bool}(h:eO N a0 a1 a2=some r):Okc Xa 106 [iV a0,iV a1,iV a2] ([]) (fun u post=>u=.bool r/\post=[]):=by
 refine ce Tryz.func106 ?_;refine gS 4 14 10 h ?_;intro b1 h;exact eY
theorem dQ {r:Bool}: ∀v post,((fun (u:Value) (post:W8)=>u=.bool r/\post=[])) v post-> ∀c∈post,ij c:=by
 rintro _ _ ⟨rfl,rfl⟩;exact au
def zJ (a0:WP):Option Bool:=
 (eO N a0.ZM 0 1).bind fun y2=>(bif y2 then ((eO N a0.ZN 0 1073741824).bind fun y4=>some y4) else (some false)).bind fun b3=>(bif b3 then ((eO N a0.ZH 1 200).bind fun y6=>some y6) else (some false)).bind fun b5=>(bif b5 then ((eO N a0.ZK 0 1048576).bind fun y8=>some y8) else (some false)).bind fun b7=>(bif b7 then ((eO N a0.Zh 0 1073741824).bind fun a6=>some a6) else (some false)).bind fun b9=>(bif b9 then ((eO N a0.ZO 0 1073741824).bind fun a7=>some a7) else (some false)).bind fun a8=>(bif a8 then ((eO N a0.ZP 0 4).bind fun b0=>some b0) else (some false)).bind fun b6=>some b6
theorem EH {N:Nat}{a0:WP}{r:Bool}(h:zJ N a0=some r):Okc Xa 61 [(FC a0)] ([]) (fun u post=>u=.bool r/\post=[]):=by
 refine ce Tryz.func61 ?_;intro B1;refine ab ?_;obtain ⟨y2,k,h⟩:=aa h;refine F6 (lm (fw k) J J J (au) dQ) ?_
 refine ou 5 13 8 h (fun _ g3 h=> ?_) fun b3 h=> ?_
 ·refine ab ?_;obtain ⟨y4,k,h⟩:=aa h;refine gU (lm (fw k) J J J (au) dQ) (ca g3 J) ?_;exact gY
 refine ab ?_
 refine ou 5 19 14 h (fun _ g5 h=> ?_) fun b5 h=> ?_
 ·refine ab ?_;obtain ⟨y6,k,h⟩:=aa h;refine gU (lm (fw k) J J J (au) dQ) (ca g5 J) ?_;exact gY
 refine ab ?_
 refine ou 5 25 20 h (fun _ g7 h=> ?_) fun b7 h=> ?_
 ·refine ab ?_;obtain ⟨y8,k,h⟩:=aa h;refine gU (lm (fw k) J J J (au) dQ) (ca g7 J) ?_;exact gY
 refine ab ?_
 refine ou 5 31 26 h (fun _ g9 h=> ?_) fun b9 h=> ?_
 ·refine ab ?_;obtain ⟨a8,k,h⟩:=aa h;refine gU (lm (fw k) J J J (au) dQ) (ca g9 J) ?_;exact gY
 refine ab ?_
 refine ou 5 37 32 h (fun _ a6 h=> ?_) fun b0 h=> ?_
 ·refine ab ?_;obtain ⟨b6,k,h⟩:=aa h;refine gU (lm (fw k) J J J (au) dQ) (ca a6 J) ?_;exact gY
 refine ab ?_
 refine ou 5 43 38 h (fun _ a7 h=> ?_) fun c7 h=> ?_
 ·refine ab ?_;obtain ⟨c8,k,h⟩:=aa h;refine gU (lm (fw k) J J J (au) dQ) (ca a7 J) ?_;exact gY
 exact eY
def AZ (N:Nat):Option WR:=
 some (⟨([]:(List (Int×Bool)))⟩:WR)
theorem Gd {N:Nat}{r:WR}(h:AZ N=some r):Okc Xa 107 [] ([]) (fun u post=> ∃B0 M1,u=pV B0 0/\post=[ah B0 213 [.map (some M1)],bB jK qP M1 r.at_]):=by
 refine ce Tryz.func107 ?_;refine gD (tY (ek:=jK) (ev:=qP)) ?_;rintro _ _ ⟨M1,rfl,rfl⟩;refine ab ?_;intro B2;exact eY
def AC:Option WD:=
 (AZ N).bind fun y1=>some (⟨(⟨[],[]⟩:WK),[],[],y1⟩:WD)
theorem Jy {N:Nat}{r:WD}(h:AC N=some r):Okc Xa 62 [] ([]) (fun u post=> ∃B0 A1 n1 c1 A2 n2 c2 A3 n3 c3 A4 n4 c4 B5 M6,u=pV B0 0/\post=[ah B0 124 [W A1 n1 c1,W A2 n2 c2,W A3 n3 c3,W A4 n4 c4,pV B5 0],iJ A1 n1 c1 r.m_.Zh,iJ A2 n2 c2 r.m_.Zj,bf A3 n3 c3 r.Zt,bf A4 n4 c4 r.Zv,ah B5 213 [.map (some M6)],bB jK qP M6 r.Zw.at_]):=by
 refine ce Tryz.func62 ?_;obtain ⟨y1,k,h⟩:=aa h;refine gD (oR (Gd k)) ?_;rintro _ _ ⟨_,⟨B2,M3,rfl,rfl⟩,rfl⟩
 refine cl fun B4=> ?_
 obtain rfl:=bD h;exact od J J ((ci jO 94 _).trans ((ci jO 94 _).trans ((ci ay 28 _).trans ((ci ay 28 _).trans (cS [4,3,2,1,0,5,6] 7))))) ⟨_,_,_,_,_,_,_,_,_,_,_,_,_,_,_,J,J⟩
theorem Gp {N:Nat}{r:WD}(h:AC N=some r):Okc Xa 62 [] ([]) (fun u post=> ∃B0,u=pV B0 0/\post=[oDHeap B0 r]):=Vi (Jy h)
def xz (N:Nat):Option WQ:=
 some (⟨([(⟨(-1),(⟨0,0,⟨#[]⟩⟩:WL),0,0⟩:WE)]:List WE),([]:(List (WT×Int)))⟩:WQ)
theorem HM {N:Nat}{r:WQ}(h:xz N=some r):Okc Xa 63 [] ([]) (fun u post=> ∃B0 A1 n1 c1 M2,u=pV B0 0/\post=[ah B0 170 [W A1 n1 c1,.map (some M2)],bd bC 166 (W A1 n1 c1) r.Zp,bB eo vV M2 r.ZD]):=by
 refine ce Tryz.func63 ?_;refine gD (aB (R:=bC) (vss:=[[iV (-1),iV 0,iV 0,.string (⟨#[]⟩),iV 0,iV 0]]) (xs:=[(⟨(-1),(⟨0,0,⟨#[]⟩⟩:WL),0,0⟩:WE)]) J (C6 _ _ _ _ _ _) J J (fun _ _ hr=> .cons J All2.nil)) ?_;rintro _ _ ⟨A1,n1,c1,rfl,rfl⟩;refine gD (tY (ek:=eo) (ev:=vV)) ?_;rintro _ _ ⟨M2,rfl,rfl⟩;refine ab ?_;intro B3;exact eY
theorem Ew {N:Nat}{r:WQ}(h:xz N=some r):Okc Xa 63 [] ([]) (fun u post=> ∃B0,u=pV B0 0/\post=[oDTable B0 r]):=Vi (HM h)
def aM (N:Nat)(a0:WD):Option Bool:=
 some false
theorem dj {N:Nat}{a0:WD}{r:Bool}(h:aM N a0=some r):Okc Xa 68 [pV B1 0] ([aW B1 124 [W A2 n2 c2,W A3 n3 c3,W A4 n4 c4,W A5 n5 c5,pV B6 0],iI A2 n2 c2 a0.m_.Zh,iI A3 n3 c3 a0.m_.Zj,aY A4 n4 c4 a0.Zt,aY A5 n5 c5 a0.Zv,aW B6 213 [.map (some M7)],qJ jK qP M7 a0.Zw.at_]) (fun u post=>u=.bool r/\post=[]):=by
 refine ce Tryz.func68 ?_;refine fY (dL J Tryz.underlying76) ?_;refine fY (dL J Wo) ?_;exact eN
def di (a0:WD)(a1:Int):Option WV:=
 (aM N a0).bind fun y9=>(bif y9 then (some true) else (some (decide (a1<0)))).bind fun a6=>(bif a6 then (some true) else (some (decide ((a0.Zt.length:Int)<=a1)))).bind fun a7=>bif a7 then (some (⟨0,0,⟨#[]⟩⟩:WV)) else ((aq a0.Zt a1).bind fun a8=>some a8)
theorem BN {N:Nat}{a0:WD}{r:WV}(h:di N a0 a1=some r):Okc Xa 39 [pV B1 0,iV a1] ([aW B1 124 [W A2 n2 c2,W A3 n3 c3,W A4 n4 c4,W A5 n5 c5,pV B6 0],iI A2 n2 c2 a0.m_.Zh,iI A3 n3 c3 a0.m_.Zj,aY A4 n4 c4 a0.Zt,aY A5 n5 c5 a0.Zv,aW B6 213 [.map (some M7)],qJ jK qP M7 a0.Zw.at_]) (fun u post=>u=(aE r)/\post=[]):=by
 refine ce Tryz.func39 ?_;intro B8;refine sY ?_
 refine cR h (fun _ k=>dj k) fun y9 h=> ?_
 refine gS 3 10 7 h ?_;intro b0 h;refine ab ?_;refine gS 8 19 11 h ?_;intro b5 h;refine dv h ?_ ?_<;>intro h
 ·exact eY
 refine ab ?_;obtain ⟨b6,a6,a7,a8,h⟩:=bz h;exact eY
theorem iK {N:Nat}{a0:WD}{r:WV}(h:di N a0 a1=some r):Okc Xa 39 [pV B1 0,iV a1] ([pDHeap B1 a0]) (fun u post=>u=(aE r)/\post=[]):=Nr 0 rfl (fun _=>BN h)
def mx (N:Nat){σ:Type}(fy:(Bool×WV)->σ->Option (Bool×σ))(a1:WI):Nat->Int->σ->Option σ
 |0,_,_=>none
 |b0+1,a6,a8=>bif decide (a6<(a1.Zb.length:Int)) then ((aq a1.Zb a6).bind fun b5=>(bif !decide (a1.Za=8) then ((bif !decide (a1.Za=10) then (some true) else (some (decide (a6.tmod 2=0)))).bind fun b6=>some b6) else (some false)).bind fun b7=>(fy (b7,b5) a8).bind fun a7=>bif !a7.1 then (some a7.2) else (aL (in64 (a6+1)) ((mx N fy a1 b0) (a6+1) a7.2))) else (some a8)
def ug (fy:(Bool×WV)->σ->Option (Bool×σ))(a1:WI)(p5:σ):Option σ:=
 mx N fy a1 N 0 p5
def lz (N:Nat){σ:Type}(fy:(Bool×WV)->σ->Option (Bool×σ))(a1:WI):Nat->Int->σ->Option σ
 |0,_,_=>none
 |m6+1,p7,p8=>bif decide (p7<(a1.Zc.length:Int)) then ((aq a1.Zc p7).bind fun a7=>(fy (true,a7) p8).bind fun a6=>bif !a6.1 then (some a6.2) else (aL (in64 (p7+1)) ((lz N fy a1 m6) (p7+1) a6.2))) else (ug N fy a1 p8)
def oP (a1:WI)(fy:(Bool×WV)->σ->Option (Bool×σ))(s0:σ):Option σ:=
 lz N fy a1 N 0 s0
theorem yu {N:Nat}{a1:WI}{fy:(Bool×WV)->σ->Option (Bool×σ)}{s0 r:σ}(h:oP N a1 fy s0=some r){l:Nat}{G:σ->W8}(hY:tg Xa l G (fun x=> [.bool x.1,.agg #[iV x.2.Za,iV x.2.N,.string x.2.S]]) fy):Okc Xa 199 [.func (.yield l) #[] #[],pV B1 0] (aW B1 94 (iS a1 A2 n2 c2 A3 n3 c3)::aY A2 n2 c2 a1.Zc::aY A3 n3 c3 a1.Zb::(G s0)) (fun u post=>u=.tuple #[]/\post=G r):=by
 refine CJ Tryz.func199 J J ?_;simp only [qQ];refine am (fun s L=> ∃p5,ug N fy a1 p5=some r/\s=[(0,.func (.yield l) #[] #[]),(1,pV B1 0)]/\L=aY A2 n2 c2 a1.Zc::aY A3 n3 c3 a1.Zb::aW B1 94 (iS a1 A2 n2 c2 A3 n3 c3)::(G p5)) ?_ ?_
 ·refine ab ?_;refine lK (fun m s L=> ∃(p7:Int) (p8:σ),lz N fy a1 m p7 p8=some r/\s=[(0,.func (.yield l) #[] #[]),(1,pV B1 0),(9,W A2 n2 c2),(10,iV (a1.Zc.length:Int)),(11,iV p7)]/\L=aY A2 n2 c2 a1.Zc::aY A3 n3 c3 a1.Zb::aW B1 94 (iS a1 A2 n2 c2 A3 n3 c3)::(G p8)) N ?_;rintro m6 _ _ ⟨p7,p8,h,rfl,rfl⟩;rw [lz.eq_2] at h;refine ab ?_;refine aA ?_;refine gH J h ?_ ?_<;>intro h
  ·refine sY ?_;obtain ⟨a6,b5,b6,b7,h⟩:=bz h
   refine cl fun b9=> ?_
   obtain ⟨d3,k,h⟩:=aa h;refine gD (vD (a:=(true,a6)) [ah b9 28 [iV a6.Za,iV a6.N,.string a6.S],aY A2 n2 c2 a1.Zc,aY A3 n3 c3 a1.Zb,aW B1 94 (iS a1 A2 n2 c2 A3 n3 c3)] hY k J J) ?_;rintro _ _ ⟨rfl,rfl⟩;refine dv h ?_ ?_<;>intro h
   ·exact eY
   refine ab ?_;obtain ⟨d4,h⟩:=ae h;exact lY
  exact jY
 rintro _ _ ⟨p5,h,rfl,rfl⟩;refine ab ?_;refine lK (fun m s L=> ∃(a8:Int) (b0:σ),mx N fy a1 m a8 b0=some r/\s=[(0,.func (.yield l) #[] #[]),(1,pV B1 0),(21,W A3 n3 c3),(22,iV (a1.Zb.length:Int)),(23,iV a8)]/\L=aY A3 n3 c3 a1.Zb::aY A2 n2 c2 a1.Zc::aW B1 94 (iS a1 A2 n2 c2 A3 n3 c3)::(G b0)) N ?_;rintro d6 _ _ ⟨a8,b0,h,rfl,rfl⟩;rw [mx.eq_2] at h;refine ab ?_;refine aA ?_;refine gH J h ?_ ?_<;>intro h
 ·refine sY ?_;obtain ⟨a7,c7,c8,c9,h⟩:=bz h
  refine cl fun d0=> ?_
  refine ou 9 40 31 h (fun _ e0 h=> ?_) fun d1 h=> ?_
  ·refine ab ?_
   refine wT 4 39 35 h (fun _ d2 h=> ?_) fun e1 h=> ?_
   ·refine ab ?_;refine eW (sn J J (by decide)) J (dw d2 J) J ?_;exact gY
   exact gY
  refine ab ?_;obtain ⟨e2,k,h⟩:=aa h;refine gD (vD (a:=(d1,a7)) [ah d0 28 [iV a7.Za,iV a7.N,.string a7.S],aY A3 n3 c3 a1.Zb,aY A2 n2 c2 a1.Zc,aW B1 94 (iS a1 A2 n2 c2 A3 n3 c3)] hY k J J) ?_;rintro _ _ ⟨rfl,rfl⟩;refine dv h ?_ ?_<;>intro h
  ·exact eY
  refine ab ?_;obtain ⟨e3,h⟩:=ae h;exact lY
 exact eY
def uh (N:Nat)(a0:WI):Option Unit:=
 some ()
theorem DD {N:Nat}{a0:WI}{r:Unit}(h:uh N a0=some r):Okc Xa 177 [.agg #[iV a0.Za,iV a0.Zi,iV a0.Ze,iV a0.Zg,W A1 n1 c1,W A2 n2 c2]] ([aY A1 n1 c1 a0.Zc,aY A2 n2 c2 a0.Zb]) (fun u post=> ∃a6,u=.func (.func 199) #[] #[pV a6 0]/\post=[ah a6 94 (iS a0 A1 n1 c1 A2 n2 c2)]):=by
 refine ce Tryz.func177 ?_;intro B3;refine ab ?_;refine fY (jd J) ?_;exact eN
def r8 (N:Nat)(a0:WV)(a6:Bool):Option Bool:=
 bif a6 then (some (decide (1<=a0.N))) else ((bif decide (a0.N=0) then (some (decide (0<=a0.Za))) else (some false)).bind fun a7=>(bif a7 then (some (decide (a0.Za<=9))) else (some false)).bind fun a8=>some a8)
def wH (a0:WV):Option Bool:=
 bif decide (a0.Za=5) then ((bif decide (a0.N=0) then (some (decide ((a0.S.size:Int)<=65536))) else (some false)).bind fun b3=>some b3) else (bif !(a0.S.toList==(⟨#[]⟩:ByteArray).toList) then (some false) else (bif decide (a0.Za=2) then ((bif decide (a0.N=0) then (some true) else (some (decide (a0.N=1)))).bind fun b6=>some b6) else (bif decide (a0.Za=3) then ((bif decide ((-9007199254740992)<=a0.N) then (some (decide (a0.N<=9007199254740992))) else (some false)).bind fun b8=>some b8) else (bif decide (a0.Za=6) then (r8 N a0 (decide (a0.Za=6))) else (bif decide (a0.Za=7) then (r8 N a0 (decide (a0.Za=7))) else (r8 N a0 (decide (a0.Za=9))))))))
theorem JV {N:Nat}{a0:WV}{r:Bool}(h:wH N a0=some r):Okc Xa 178 [(aE a0)] ([]) (fun u post=>u=.bool r/\post=[]):=by
 refine ce Tryz.func178 ?_;intro B1;refine sY ?_;refine gH J h ?_ ?_<;>intro h
 ·refine ab ?_
  refine ou 5 14 9 h (fun _ g3 h=> ?_) fun b3 h=> ?_
  ·refine ab ?_;refine eW (qw J Wn) J (ca g3 J) J ?_;exact gY
  exact eY
 refine sY ?_;refine fY (FO J J) ?_;refine gH J h ?_ ?_<;>intro h
 ·exact eY
 refine sY ?_;refine gH J h ?_ ?_<;>intro h
 ·refine ab ?_;refine gS 4 29 25 h ?_;intro b6 h;exact eY
 refine dv h ?_ ?_<;>intro h
 ·refine ab ?_;refine gS 4 39 35 h ?_;intro b8 h;exact eY
 refine am (fun s L=> ∃a6,r8 N a0 a6=some r/\s=[(1,pV B1 0),(2,.bool false),(40,.bool a6)]/\L=[ah B1 28 (bP a0)]) ?_ ?_
 ·refine dv h ?_ ?_<;>intro h
  ·exact jY
  refine dv h ?_ ?_<;>intro h
  ·exact jY
  exact jY
 rintro _ _ ⟨a6,h,rfl,rfl⟩;refine gH J h ?_ ?_<;>intro h
 ·exact eY
 refine ab ?_;refine gS 4 54 50 h ?_;intro a7 h;refine ab ?_;refine gS 4 59 55 h ?_;intro a8 h;exact eY
def kw (N:Nat)(p2:Bool):Option Bool:=
 bif p2 then (some true) else (some false)
def wI (a0:Int):Option Bool:=
 bif decide (a0=1) then (kw N (decide (a0=1))) else (bif decide (a0=2) then (kw N (decide (a0=2))) else (bif decide (a0=3) then (kw N (decide (a0=3))) else (bif decide (a0=6) then (kw N (decide (a0=6))) else (bif decide (a0=8) then (kw N (decide (a0=8))) else (bif decide (a0=9) then (kw N (decide (a0=9))) else (kw N (decide (a0=10))))))))
theorem JW {N:Nat}{r:Bool}(h:wI N a0=some r):Okc Xa 200 [iV a0] ([]) (fun u post=>u=.bool r/\post=[]):=by
 refine ce Tryz.func200 ?_;refine sZ ?_;refine am (fun s L=> ∃p2,kw N p2=some r/\s=[(2,.bool false),(4,.bool p2)]/\L=[]) ?_ ?_
 ·refine dv h ?_ ?_<;>intro h
  ·exact jY
  refine dv h ?_ ?_<;>intro h
  ·exact jY
  refine dv h ?_ ?_<;>intro h
  ·exact jY
  refine dv h ?_ ?_<;>intro h
  ·exact jY
  refine dv h ?_ ?_<;>intro h
  ·exact jY
  refine dv h ?_ ?_<;>intro h
  ·exact jY
  exact jY
 rintro _ _ ⟨p2,h,rfl,rfl⟩;refine gH J h ?_ ?_<;>intro h
 ·exact eY
 exact eY
def jf (N:Nat)(a0:WV)(a1:Int):Option Bool:=
 (bif decide (a0.Za=0) then (some true) else (some (decide (a0.Za=a1)))).bind fun b2=>some b2
theorem ls {N:Nat}{a0:WV}{r:Bool}(h:jf N a0 a1=some r):Okc Xa 201 [(aE a0),iV a1] ([]) (fun u post=>u=.bool r/\post=[]):=by
 refine ce Tryz.func201 ?_;intro B1;refine ab ?_;refine gS 5 13 8 h ?_;intro b2 h;exact eY
end
end Go.Proofs.YtmcifcmlojonnaaGreatDoor