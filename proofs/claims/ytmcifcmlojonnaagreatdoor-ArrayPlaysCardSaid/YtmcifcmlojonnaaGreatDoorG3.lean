/- Merged texts: part 3. No conditions of their own. -/
import Derived.Test.YtmcifcmlojonnaaGreatDoorG2
import Derived.Test.YtmcifcmlojonnaaGreatDoorChecked
import Derived.ProofKit
set_option maxHeartbeats 4000000
namespace Go.Proofs.YtmcifcmlojonnaaGreatDoor
variable (N:Nat){listed:Array Bool}{af:Array Edge}{ops:Array Oper}{ats:Array TypeId}{g:Bool}{c:Chunk}{X:Cx}{fn:Func}{f:FuncId}{a0 a1:Int}{K:K3}{l:List Oper}{xs:List Operand}{rs:List ResultVar}{B2 B3 bt fuel i k m n o:Nat}{op:Op}{x:Operand}{gd:Option (Nat×Bool)}{d:Option Nat}{P:Program}{p:Prop}{pos:String}{α ι κ ρ σ:Type}{t ty u:TypeId}{v:Value}{R R':Value->Xi->Prop}{C:World->Prop}{A L L' L2 M post pre:Xi}{args cs us vs:Xj}{s s2:bG}
section
theorem WA:type_of% Tryz.underlying122:=Tryz.underlying122
theorem Wz:type_of% Tryz.underlying9:=Tryz.underlying9
theorem Wy:type_of% Tryz.underlying167:=Tryz.underlying167
theorem Wx:type_of% Tryz.underlying144:=Tryz.underlying144
theorem Ww:type_of% Tryz.underlying119:=Tryz.underlying119
theorem EM:type_of% Tryz.underlying47:=Tryz.underlying47
theorem Ex:type_of% Tryz.underlying33:=Tryz.underlying33
theorem z5:type_of% Tryz.underlying23:=Tryz.underlying23
open Go.RowKit
class FcI (P:Program) (t:Nat) (v:outParam Value):Prop where
  out: ∀w,(zeroValue t).run P w=.ok v w
class FcB (P:Program) (t:Nat) (vs:List (Nat×Value)) (v:outParam Value):Prop where
  out: ∀w,(Instr.build t vs.toArray).run P w=.ok v w
class RepF {α:Type} (R:Rep α) (f:outParam (α->Xj)):Prop where
  out: ∀S w vs x,R.rel S w vs x->vs=f x
theorem AS {l:List α}(h:l=[]):l=[]:=h
theorem wY {l t T:List α}{a:α}(h:l=a::t)(k:t=T):l=a::T:=k▸h
inductive FndR (b:Nat) (cs:Xj):Xi->Prop
  |w {bt L:_}:FndR b cs (ah b bt cs::L)
  |r {bt L:_}:FndR b cs (aW b bt cs::L)
  |s {c L:_} (h:FndR b cs L):FndR b cs (c::L)
theorem FndR.ix {b:Nat}(h:FndR b cs L): ∃(i:Nat) (bt:TypeId),L[i]? =some (ah b bt cs)\/L[i]? =some (aW b bt cs):=by
  induction h with
  |w=>exact ⟨0,_,.inl rfl⟩
  |r=>exact ⟨0,_,.inr rfl⟩
  |s _ ih=>obtain ⟨i,bt,h⟩:=ih;exact ⟨i+1,bt,h⟩
inductive FndW (b:Nat) (bt:TypeId) (cs cs':Xj):Xi->Xi->Prop
  |w {L:_}:FndW b bt cs cs' (ah b bt cs::L) (ah b bt cs'::L)
  |s {c L L':_} (h:FndW b bt cs cs' L L'):FndW b bt cs cs' (c::L) (c::L')
theorem FndW.ix {b:Nat}{cs':Xj}(h:FndW b bt cs cs' L L'): ∃i:Nat,L[i]? =some (ah b bt cs)/\L'=L.set i (ah b bt cs'):=by
  induction h with
  |w=>exact ⟨0,rfl,rfl⟩
  |s _ ih=>obtain ⟨i,h,e⟩:=ih;exact ⟨i+1,h,by rw [e];rfl⟩
inductive FndE {α:Type} (R:Rep α) (v:Value) (xs:List α):Xi->Prop
  |w {c L:_} (h:H8 R v xs c):FndE R v xs (c::L)
  |s {c L:_} (h:FndE R v xs L):FndE R v xs (c::L)
theorem FndE.ix {R:Rep α}{xs:List α}(h:FndE R v xs L): ∃(i:Nat) (c:Chunk),L[i]? =some c/\H8 R v xs c:=by
  induction h with
  |w h=>exact ⟨0,_,rfl,h⟩
  |s _ ih=>obtain ⟨i,c,h⟩:=ih;exact ⟨i+1,c,h⟩
structure RdS (P:Program) (s:bG) (L:Xi) (o:Oper) (v:Value):Prop where
  out:Rd P s L o v
theorem VE:N8 s []=some []:=rfl
theorem VF {r:List (Nat×Operand)}{l:List (Nat×Value)}(h:bv s x=some v)(k:N8 s r=some l):N8 s ((i,x)::r)=some ((i,v)::l):=by unfold N8;rw [h,k]
section
variable {rest:List Oper}{d:Nat}
theorem We (h:Ve s op=some v):RdS P s L ⟨some d,op,ty,pos,af,gd⟩ v:=⟨fun _ _ _=>fun ρ hρ w _=>PO h ρ hρ w trivial⟩
theorem V7 {c y:Operand}(hc:bv s c=some (.bool g))(hg:g=true)(hx:bv s x=some v):RdS P s L ⟨some d,.pick c x y,ty,pos,af,gd⟩ v:=⟨fun _ _ _=>gv hg hc hx⟩
theorem V6 {c y:Operand}(hc:bv s c=some (.bool g))(hg:g=false)(hy:bv s y=some v):RdS P s L ⟨some d,.pick c x y,ty,pos,af,gd⟩ v:=⟨fun _ _ _=>iw hg hc hy⟩
theorem Vk {t f b:Nat}[h:FcA0 P t f](hx:bv s x=some (.pointer (some ⟨b,o,none⟩))):RdS P s L ⟨some d,.fieldAddr t x f,ty,pos,af,gd⟩ (.pointer (some ⟨b,o,none⟩)):=⟨fun _ _ _=>rE hx h.out⟩
theorem Wc {t f o' b:Nat}[h:FcA P t f o'](hx:bv s x=some (.pointer (some ⟨b,o,none⟩))):RdS P s L ⟨some d,.fieldAddr t x f,ty,pos,af,gd⟩ (.pointer (some ⟨b,o+o',none⟩)):=⟨fun _ _ _=>kK hx h.out⟩
theorem Wh {b:Nat}[hu:Fc (iu P t=true)](hx:bv s x=some (.pointer (some ⟨b,o,none⟩)))(hi:FndR b cs L)(hc:cs[o]? =some v):RdS P s L ⟨some d,.load t x,ty,pos,af,gd⟩ v:=⟨by
  obtain ⟨i,bt,h|h⟩:=hi.ix
  ·exact cD i h hx hu.out hc
  ·exact BI i h hx hu.out hc⟩
theorem V5 {b:Nat}[hu:FcG P t n](hx:bv s x=some (.pointer (some ⟨b,o,none⟩)))(hi:FndR b cs L)(hc:(cs.drop o).take n=us)(hn:us.length=n):RdS P s L ⟨some d,.load t x,ty,pos,af,gd⟩ (.agg us.toArray):=⟨by
  obtain ⟨i,bt,h|h⟩:=hi.ix
  ·exact aD (us:=us) i h hx (hn▸hu.out) (hn▸hc)
  ·exact OV (us:=us) i h hx (hn▸hu.out) (hn▸hc)⟩
theorem Wg {ps:List (Nat×Operand)}{vs:List (Nat×Value)}(hp:N8 s ps=some vs)(hb:FcB P t vs v):RdS P s L ⟨some d,.build t ps.toArray,ty,pos,af,gd⟩ v:=⟨fun _ _ _=>nH hp hb.out⟩
theorem V9 {R:Rep α}{t e sz:Nat}{y:Operand}{xs:List α}{i:Int}[hu:FcS P t e][hz:FcZ P e sz](hx:bv s x=some v)(hy:bv s y=some (.int .i64 i))(he:FndE R v xs L)(h0:0<=i)(h1:i<xs.length):RdS P s L ⟨some d,.indexAddr t x y,ty,pos,af,gd⟩ (dG v i.toNat sz 0):=⟨by
  obtain ⟨j,c,h,e⟩:=he.ix
  exact bS j h e hx hy hu.out hz.out h0 h1⟩
theorem Wb {R:Rep α}{f:α->Xj}{t sz:Nat}{xs:List α}{off:Nat}{y:α}[hu:FcG P t n](hx:bv s x=some (dG v k sz off))(he:FndE R v xs L)(hf:RepF R f)(hy:xs[k]? =some y)(hz:R.sz=sz)(hc:((f y).drop off).take n=us)(hn:us.length=n):RdS P s L ⟨some d,.load t x,ty,pos,af,gd⟩ (.agg us.toArray):=⟨by
  obtain ⟨j,c,h,e⟩:=he.ix;subst hz
  exact dr (us:=us) j h e hx hy (hn▸hu.out) fun S w vs hr=>by rw [hf.out _ _ _ _ hr,hn];exact hc⟩
theorem Wa {R:Rep α}{f:α->Xj}{t sz:Nat}{xs:List α}{off:Nat}{y:α}{u:Value}[hu:Fc (iu P t=true)](hx:bv s x=some (dG v k sz off))(he:FndE R v xs L)(hf:RepF R f)(hy:xs[k]? =some y)(hz:R.sz=sz)(hc:(f y)[off]? =some u):RdS P s L ⟨some d,.load t x,ty,pos,af,gd⟩ u:=⟨by
  obtain ⟨j,c,h,e⟩:=he.ix;subst hz
  exact li (u:=u) j h e hx hy hu.out fun S w vs hr=>by rw [hf.out _ _ _ _ hr];exact hc⟩
theorem tR (h:RdS X.P s L ⟨some d,op,ty,pos,af,gd⟩ v)(hn:eW ⟨some d,op,ty,pos,af,gd⟩=true)(hd:Nat.ble (d+1) X.n=true)(k:bp X ops rest K ((d,v)::s) L):RunT X ops ⟨some d,op,ty,pos,af,gd⟩ rest K s L:=⟨fun hh=>sv h.out hn hh hd k⟩
theorem Wm (h:nj X ops K M fuel listed s L):nj X ops K M fuel listed s L:=h
theorem tN (hr:Region.ready .any ops listed=[])(h:K .normal s L):nj X ops K M 0 listed s L:=aY hr h
theorem tZ (i:Nat)(hI:ops.size - (fuel+1)=i)(hi:ops[i]? =some ⟨some d,op,ty,pos,af,gd⟩)(h:RdS X.P s M ⟨some d,op,ty,pos,af,gd⟩ v)(hk:Pc ops listed i=true)(hg:aH ops s ⟨some d,op,ty,pos,af,gd⟩=some true)(hd:Nat.ble (d+1) X.n=true)(k:nj X ops K M fuel (listed.setIfInBounds i true) ((d,v)::s) L):nj X ops K M (fuel+1) listed s L:=zR i hi h.out k hk hg hd
theorem tW {bt:TypeId}{y:Operand}{b:Nat}{cs':Xj}[hs:FcZ X.P t n](hx:bv s x=some (.pointer (some ⟨b,o,none⟩)))(hy:bv s y=some v)(hv:v.cells.toList=us)(hf:FndW b bt cs cs' L L')(hc':cs.take o++us++cs.drop (o+us.length)=cs')(hn:us.length=n)(h1:us.all (·.oneCell')=true)(hc:Nat.ble (o+us.length) cs.length=true)(k:bp X ops rest K s L'):RunT X ops ⟨none,.store t x y,ty,pos,af,gd⟩ rest K s L:=⟨fun hh=>by
  obtain ⟨i,h,e⟩:=hf.ix
  exact gW (ao (us:=us) (cs':=cs') i h hx hy hv (hn▸hs.out) h1 hc hc') (e▸k) J hh⟩
theorem tA [hz:FcI X.P t v](hc:v.cells.toList=cs)(hd:Nat.ble (d+1) X.n=true)(k:∀b,bp X ops rest K ((d,pV b 0)::s) (ah b t cs::L)):RunT X ops ⟨some d,.alloc t,ty,pos,af,gd⟩ rest K s L:=⟨fun hh=>gB (bF hz.out hc) k rfl hh hd⟩
theorem tX (hx:bv s x=some v)(hc:v.cells.toList=cs)(hd:Nat.ble (d+1) X.n=true)(k:∀b,bp X ops rest K ((d,pV b 0)::s) (ah b t cs::L)):RunT X ops ⟨some d,.box t x,ty,pos,af,gd⟩ rest K s L:=⟨fun hh=>gB (rt hx hc) k rfl hh hd⟩
end
end
section
open Go.RowKit
def KE (Q:ι->Xi):Chunk where
 ok _ S w:= ∃x:ι, ∀c∈Q x,c.ok (fun _=>False) S w
 loc:=fun h ⟨x,k⟩=>⟨x,fun c hc=>c.loc (h.mono fun _ hq=>hq.elim False.elim .inr) (k c hc)⟩
 mono:=fun h ⟨x,k⟩=>⟨x,fun c hc=>c.mono h (k c hc)⟩
 ro:=true
 dup:=fun _ _ _ _ h=>h
class LentP {ι κ:Type} (Q:ι->Xi) (R:κ->Xi):Prop where
 out: ∀x,xP (Q x) (KE R)
class LentQ {ι κ:Type} (Q:ι->Xi) (R:outParam (κ->Xi)):Prop where
 out:LentP Q R
instance lentQP {Q:ι->Xi}{R:κ->Xi}[h:LentQ Q R]:LentP Q R:=h.out
class MemR {ι:Type} (Q:ι->Xi) (c:Chunk):Prop where
 out: ∀x,c∈Q x
theorem LentP.of {Q:ι->Xi}{R:κ->Xi}(h:∀x, ∃y, ∀d∈R y,xP (Q x) d):LentP Q R:=⟨fun x T S w hT=>by
 obtain ⟨y,hy⟩:=h x
 exact ⟨y,fun d hd=>hy d hd T S w hT⟩⟩
theorem zC {Q:ι->Xi}{R:κ->Xi}(hi:L[i]? =some (d5 Q))[hp:LentP Q R]:xP L (KE R):=fun T S w h=>by
 obtain ⟨x,T',h1,h2,h3⟩:=h.ok hi;exact hp.out x T' S w ⟨fun hj=>h1 _ _ hj,fun hij a b=>h2 _ _ _ hij a b,fun a b=>h.ro (h3 _ _ a) b,fun a=>h.lt (h3 _ _ a),h.lts⟩
theorem zB {Q:ι->Xi}{R:κ->Xi}(hi:L[i]? =some (d5 Q))[hp:LentQ Q R]:xP L (KE R):=zC hi
theorem LentP.sub {η:Type}{Q:ι->Xi}{R:κ->Xi}{R':η->Xi}(i:Nat)(h:∀x,(Q x)[i]? =some (d5 R'))[hp:LentP R' R]:LentP Q R:=⟨fun x=>zC (h x)⟩
theorem Rh {Q:ι->Xi}(hi:L[i]? =some (KE Q))[hp:MemR Q c]:xP L c:=fun T S w h=>by
 obtain ⟨x,hx⟩:=h.ok hi;exact c.mono (fun _ hq=>h.lts hq) (hx c (hp.out x))
theorem tx (h:L.Perm M):Cv L M:=by
 induction h with
 |nil=>exact ae _
 |cons c _ ih=>exact nb c ih
 |swap a b l=>exact yV [1,0] 2 rfl rfl
 |trans _ _ h1 h2=>exact h1.trans h2
theorem Jj {L:List α}{c:α}(hk:L[k]? =some c):L=L.take k++c::L.drop (k+1):=by
 obtain ⟨h1,h2⟩:=XZ.1 hk;rw [<-h2,List.getElem_cons_drop,YB]
theorem VU (h:Okc P f args L R)(hr:∀v post,R v post-> ∃post',R' v post'/\Cv post post'):Okc P f args L R':=⟨h.cal,fun Z w hw=>
 (h.run Z w hw).mono fun _ _ ⟨v,post,h1,h2,h3⟩=>by
  obtain ⟨post',g1,g2⟩:=hr v post h3
  exact ⟨v,post',h1,g2 _ _ h2,g1⟩⟩
theorem Vu {R:ι->Value->Xi->Prop}{Q:ι->Xi}[Inhabited ι](k:Nat)(hk:L[k]? =some (d5 Q))(h:∀x,Okc P f args (L.take k++(Q x++L.drop (k+1))) (R x))(hr:∀x v post,R x v post-> ∃post',R' v post'/\Cv post post'):Okc P f args L R':=⟨(h default).cal,fun Z w hw=>by
 rw [Jj hk] at hw;obtain ⟨x,hx⟩:=kX (tx Yy Z w hw)
 exact (VU (h x) (hr x)).run Z w (tx (Yx _ _ _) Z w hx)⟩
theorem NM {Q:ι->Xi}[Inhabited ι](k:Nat)(hk:L[k]? =some (KE Q))(h:∀x,Okc P f args (L.take k++(Q x++L.drop (k+1))) R):Okc P f args L R:=⟨(h default).cal,fun Z w hw=>by
 rw [Jj hk] at hw;have h1:=tx Yy Z w hw;obtain ⟨T,S,hT⟩:=h1;obtain ⟨x,hx⟩:=hT.ok (i:=0) (c:=KE Q) rfl;obtain ⟨T',h2⟩:=SepL.facts (Q x) hT hx;have h3:Sp Z (Q x++(KE Q::(L.take k++L.drop (k+1)))) w:=⟨T',S,by rw [Xc];exact h2⟩;have h4:Sp Z (Q x++(L.take k++L.drop (k+1))) w:=cv_tl _ _ (tx Yy _ _ h3)
 exact (h x).run Z w (tx (Yx _ _ _) Z w h4)⟩
theorem VW {p:Xi->Prop}{post':Xi}(h:p post')(k:Cv post post'): ∃post',p post'/\Cv post post':=⟨post',h,k⟩
theorem MN {Q:ι->Xi}{Q':κ->Xi}(h:∀x, ∃y,(Q x).Perm (c::Q' y)):Cv (d5 Q::L) (c::d5 Q'::L):=fun Z w hw=>by
 obtain ⟨x,hx⟩:=kX hw;obtain ⟨y,hy⟩:=h x;have h1:Sp Z (c::(Q' y++L)) w:=tx (hy.append_right L) Z w hx;exact nb c (fB (Q:=Q') y) Z w h1
theorem Ka {Q:ι->Xi}{Q':κ->Xi}(h:∀y, ∃x,(c::Q' y).Perm (Q x)):Cv (c::d5 Q'::L) (d5 Q::L):=fun Z w hw=>by
 obtain ⟨y,hy⟩:=kX (tx (List.Perm.swap _ _ _) Z w hw);obtain ⟨x,hx⟩:=h y;have h1:Sp Z (c::(Q' y++L)) w:=tx Yy Z w hy;exact fB (Q:=Q) x Z w (tx (hx.append_right L) Z w h1)
end
section
open Go.RowKit
inductive FndL:Chunk->Xi->Prop
  |sl {α:Type} {R:Rep α} {v xs L}:FndL (iy R v xs) (iy R v xs::L)
  |so {α:Type} {R:Rep α} {e v xs L}:FndL (iy R v xs) (bf R e v xs::L)
  |bb {b t cs L:_}:FndL (aW b t cs) (ah b t cs::L)
  |br {b:Nat} {t:TypeId} {cs L}:FndL (aW b t cs) (aW b t cs::L)
  |mm {α β:Type} {ek:α->Value} {ev:β->Value} {m kv L}:FndL (qU ek ev m kv) (bE ek ev m kv::L)
  |mr {α β:Type} {ek:α->Value} {ev:β->Value} {m kv L}:FndL (qU ek ev m kv) (qU ek ev m kv::L)
  |pk {ι κ:Type} {Q:ι->Xi} {R:κ->Xi} {L} [h:LentP Q R]:FndL (KE R) (d5 Q::L)
  |pq {ι κ:Type} {Q:ι->Xi} {R:κ->Xi} {L} [h:LentQ Q R]:FndL (KE R) (d5 Q::L)
  |pr {ι:Type} {Q:ι->Xi} {L}:FndL (KE Q) (KE Q::L)
  |rm {ι:Type} {Q:ι->Xi} {c L} [h:MemR Q c]:FndL c (KE Q::L)
  |s {c d L:_} (h:FndL c L):FndL c (d::L)
theorem FndL.lent' (h:FndL c L): ∃(i:Nat) (d:Chunk),L[i]? =some d/\ ∀(L':Xi) (j:Nat),L'[j]? =some d->xP L' c:=by
  induction h with
  |sl=>exact ⟨0,_,rfl,fun _ _ h=>cQ h rfl⟩
  |so=>exact ⟨0,_,rfl,fun _ _ h=>ju h⟩
  |bb=>exact ⟨0,_,rfl,fun _ _ h=>yI h⟩
  |br=>exact ⟨0,_,rfl,fun _ _ h=>cQ h rfl⟩
  |mm=>exact ⟨0,_,rfl,fun _ _ h=>FT h⟩
  |mr=>exact ⟨0,_,rfl,fun _ _ h=>cQ h rfl⟩
  |pk=>exact ⟨0,_,rfl,fun _ _ h=>zC h⟩
  |pq=>exact ⟨0,_,rfl,fun _ _ h=>zC h⟩
  |pr=>exact ⟨0,_,rfl,fun _ _ h=>cQ h rfl⟩
  |rm=>exact ⟨0,_,rfl,fun _ _ h=>Rh h⟩
  |s _ ih=>obtain ⟨i,d,h1,h2⟩:=ih;exact ⟨i+1,d,h1,h2⟩
theorem FndL.lent (h:FndL c L):xP L c:=by
  obtain ⟨i,d,h1,h2⟩:=h.lent';exact h2 L i h1
def CT (L pre:Xi):Prop:= ∀c∈pre,xP L c
theorem U7:CT L []:=ax
theorem U8 (h:FndL c L)(k:CT L pre):CT L (c::pre):=t5 h.lent k
theorem Rl (h:L'=L)(k:CT L pre):CT L' pre:=h▸k
theorem Vc {p:α->Prop}{Q:Prop}(k:∀a,p a->Q):(∃a,p a)->Q:=fun ⟨a,h⟩=>k a h
theorem Wu {a b Q:Prop}(k:b->Q):a/\b->Q:=fun h=>k h.2
theorem Wt {C:Xi}(k:∀c∈C,iS c):post=C-> ∀c∈post,iS c:=fun h=>h▸k
theorem Va: ∀c∈([]:Xi),iS c:=ax
theorem U9 {sz:Nat}{en:α->Xj}{h1:∀x,(en x).length=sz}{h2:∀x,(en x).all (·.oneCell')=true}{e:TypeId}{xs:List α}{l:Xi}(k:∀c∈l,iS c): ∀c∈(bf (Rep.flat sz en h1 h2) e v xs::l),iS c:=t5 qG k
theorem Vd {b:Nat}{l:Xi}(k:∀c∈l,iS c): ∀c∈(ah b t cs::l),iS c:=t5 Cw k
theorem Vb {β:Type}{ek:α->Value}{ev:β->Value}{kv:List (α×β)}{l:Xi}(k:∀c∈l,iS c): ∀c∈(bE ek ev m kv::l),iS c:=t5 Dq k
inductive FndC (c:Chunk):Xi->Xi->Prop
  |w {L:_}:FndC c (c::L) L
  |s {d L M:_} (h:FndC c L M):FndC c (d::L) (d::M)
theorem R8 {d:Chunk}:Cv (c::d::L) (d::c::L):=yV [1,0] 2 rfl rfl
theorem FndC.cv (h:FndC c L M):Cv L (c::M):=by
  induction h with
  |w=>exact ae _
  |s _ ih=>exact (nb _ ih).trans R8
inductive FndD (c:Chunk):Xi->Prop
  |w {L:_}:FndD c (c::L)
  |s {d L:_} (h:FndD c L):FndD c (d::L)
theorem FndD.cv (h:FndD c L)(hc:c.ro=true):Cv L (c::L):=by
  obtain ⟨i,hi⟩: ∃i:Nat,L[i]? =some c:=by
    induction h with
    |w=>exact ⟨0,rfl⟩
    |s _ ih=>obtain ⟨i,h⟩:=ih;exact ⟨i+1,h⟩
  exact Lv i hi hc
def Tk (L pre rest:Xi):Prop:=Cv L (pre++rest)
theorem U4:Tk L [] L:=ae _
theorem U5 {rest:Xi}(h:FndC c L M)(k:Tk M pre rest):Tk L (c::pre) rest:=h.cv.trans (nb c k)
theorem VR {rest:Xi}(h:FndD c L)(hc:c.ro=true)(k:Tk L pre rest):Tk L (c::pre) rest:=(h.cv hc).trans (nb c k)
theorem U3 {R:Rep α}{xs:List α}{rest:Xi}(h:FndD (iy R v xs) L)(k:Tk L pre rest):Tk L (iy R v xs::pre) rest:=VR h rfl k
theorem U6 {b:Nat}{rest:Xi}(h:FndD (aW b t cs) L)(k:Tk L pre rest):Tk L (aW b t cs::pre) rest:=VR h rfl k
theorem QI {rest:Xi}(h:L'=L)(k:Tk L pre rest):Tk L' pre rest:=h▸k
class FcK (P:Program) (f:FuncId):Prop where
  out:qQ P f
section
theorem oR (hc:Okc P f vs pre R)(hv:Gh s xs=some vs:=by exact rfl)(hp:CT L pre:=by
      apply Rl (by repeat (first|exact mM rfl|apply jI rfl|exact rfl))
      repeat (first|exact U7|apply U8 (by with_reducible repeat (first|apply FndL.bb|apply FndL.br|apply FndL.sl|apply FndL.so|apply FndL.mm|apply FndL.mr|apply FndL.pq|apply FndL.pk|apply FndL.pr|apply FndL.rm|apply FndL.s))|apply leZ))(hr:∀v post,R v post-> ∀c∈post,iS c:=by
      intro v post
      repeat (first|(refine Vc ?_;intro _)|refine Wu ?_)
      refine Wt ?_
      repeat (first|exact Va|refine Vd ?_|refine Vb ?_|refine U9 ?_)):OpX P s L ⟨d,.call ⟨.value (.func f),xs.toArray,ats⟩,ty,pos,af,gd⟩ fun u L'=> ∃post,R u post/\L'=post++L:=aX hc hv hp hr
theorem oC {rest:Xi}(hc:Okc P f vs pre R)(hv:Gh s xs=some vs:=by exact rfl)(hp:Tk L pre rest:=by
      apply QI (by repeat (first|exact mM rfl|apply jI rfl|exact rfl))
      repeat (first|exact U4|apply U3 (by with_reducible repeat (first|apply FndD.w|apply FndD.s))|apply U6 (by with_reducible repeat (first|apply FndD.w|apply FndD.s))|apply tkM (by with_reducible repeat (first|apply FndD.w|apply FndD.s))|apply tkR (by with_reducible repeat (first|apply FndD.w|apply FndD.s))|apply U5 (by with_reducible repeat (first|apply FndC.w|apply FndC.s)))):OpX P s L ⟨d,.call ⟨.value (.func f),xs.toArray,ats⟩,ty,pos,af,gd⟩ fun u L'=> ∃post,R u post/\L'=post++rest:=dt hc hv hp
end
inductive FndX (b:Nat) (bt:TypeId) (cs:Xj):Xi->Prop
  |w {L:_}:FndX b bt cs (ah b bt cs::L)
  |s {c L:_} (h:FndX b bt cs L):FndX b bt cs (c::L)
theorem FndX.ix {b:Nat}(h:FndX b bt cs L): ∃i:Nat,L[i]? =some (ah b bt cs):=by
  induction h with
  |w=>exact ⟨0,rfl⟩
  |s _ ih=>obtain ⟨i,h⟩:=ih;exact ⟨i+1,h⟩
theorem aN:All2 (vT P L s) [] []:=.nil
theorem aT {t:Nat}(h:jQ s t=some v)(k:All2 (vT P L s) rs vs):All2 (vT P L s) (.tmp t::rs) (v::vs):=.cons (dR h) k
theorem aS {t ty b:Nat}(hu:FcG P ty n)(hl:jQ s t=some (.pointer (some ⟨b,0,none⟩)))(hi:FndX b bt cs L)(hc:cs=us)(hn:us.length=n)(k:All2 (vT P L s) rs vs):All2 (vT P L s) (.cell t ty::rs) (.agg us.toArray::vs):=by
  obtain ⟨i,hi⟩:=hi.ix;subst hc;exact .cons (dy i hi hl (hn▸hu.out)) k
theorem aO {t ty b:Nat}(hu:Fc (iu P ty=true))(hl:jQ s t=some (.pointer (some ⟨b,0,none⟩)))(hi:FndX b bt [v] L)(k:All2 (vT P L s) rs vs):All2 (vT P L s) (.cell t ty::rs) (v::vs):=by
  obtain ⟨i,hi⟩:=hi.ix;exact .cons (Io i hi hl hu.out) k
theorem P3 {T:Xi}(h:L'=L)(k:Cv L T):Cv L' T:=h▸k
theorem UR {T:Xi}(k:Cv L T):Cv (c::L) T:=(cv_tl).trans k
theorem UP:Cv L []:=fun Z w h=>by
  have:=(yV (L:=L) [] L.length (by simp [GS]) (by simp)) Z w h;simpa [Ed] using this
theorem UQ (h:FndC c L M)(k:Cv M L2):Cv L (c::L2):=h.cv.trans (nb c k)
theorem UO {R:Rep α}{xs:List α}(h:FndD (iy R v xs) L)(k:Cv L L2):Cv L (iy R v xs::L2):=(h.cv rfl).trans (nb _ k)
theorem VG (hr:fn.results=rs.toArray)(h1:All2 (vT X.P L s) rs vs)(hv:Vm vs=v)(hR:R v L2)(hc:Cv L L2):OC X fn R .ret s L:=kL hr h1 hv hc hR
theorem eN (hh:p:=by
    obtain rfl:=bJ h
    first|apply VG rfl|apply endN rfl
    repeat (first|exact aN|apply aT rfl|apply aS (by infer_instance) rfl (by with_reducible repeat (first|apply FndX.w|apply FndX.s)) (by repeat (first|exact AS rfl|apply wY rfl)) (by exact rfl)|apply aO (by infer_instance) rfl (by with_reducible repeat (first|apply FndX.w|apply FndX.s)))
    exact J
    repeat (apply Exists.intro)
    exact ⟨J,J⟩
    all_goals (try apply P3 (by repeat (first|exact mM rfl|apply jI rfl|exact rfl)))
    all_goals (repeat (first|exact UP|apply UO (by with_reducible repeat (first|apply FndD.w|apply FndD.s))|apply UQ (by with_reducible repeat (first|apply FndC.w|apply FndC.s))|apply cwF (by with_reducible repeat (first|apply FndC.w|apply FndC.s))|apply cwZ|apply cwY|exact ae _|apply UR))):p:=hh
theorem VV {Fam:bG->Xi->Prop}(h:Fam s2 L2)(hs:Bk s s2)(hc:Cv L L2): ∃s2 L2,Fam s2 L2/\Bk s s2/\Cv L L2:=⟨s2,L2,h,hs,hc⟩
theorem jN (hh:p:=by
    apply VV
    repeat (apply Exists.intro)
    exact ⟨h,J,J⟩
    all_goals (try exact sA)
    all_goals (try apply P3 (by repeat (first|exact mM rfl|apply jI rfl|exact rfl)))
    all_goals (repeat (first|exact UP|apply UO (by with_reducible repeat (first|apply FndD.w|apply FndD.s))|apply UQ (by with_reducible repeat (first|apply FndC.w|apply FndC.s))|apply cwF (by with_reducible repeat (first|apply FndC.w|apply FndC.s))|apply cwZ|apply cwY|exact ae _|apply UR))):p:=hh
theorem Wl {Fam:Nat->bG->Xi->Prop}(h:Fam m s2 L2)(hs:Bk s s2)(hc:Cv L L2): ∃m' s3 L3,m'<m+1/\Fam m' s3 L3/\Bk s s3/\Cv L L3:=⟨m,s2,L2,Xb _,h,hs,hc⟩
theorem lN (hh:p:=by
    apply Wl
    repeat (apply Exists.intro)
    exact ⟨h,J,J⟩
    all_goals (try exact sA)
    all_goals (try apply P3 (by repeat (first|exact mM rfl|apply jI rfl|exact rfl)))
    all_goals (repeat (first|exact UP|apply UO (by with_reducible repeat (first|apply FndD.w|apply FndD.s))|apply UQ (by with_reducible repeat (first|apply FndC.w|apply FndC.s))|apply cwF (by with_reducible repeat (first|apply FndC.w|apply FndC.s))|apply cwZ|apply cwY|exact ae _|apply UR))):p:=hh
instance repInt {k:IntKind}:RepF (nO k) (fun x=> [.int k x]):=⟨fun _ _ _ _ h=>h⟩
section
variable {d:Nat}
theorem V8 {R:Rep α}{e:TypeId}{xs:List α}[hu:FcS P t e](hx:bv s x=some v)(he:FndE R v xs L):RdS P s L ⟨some d,.call ⟨.builtin .len, #[x], #[t]⟩,ty,pos,af,gd⟩ (.int .i64 (xs.length:Int)):=⟨by
  obtain ⟨j,c,h,e⟩:=he.ix
  exact jO j h e hx hu.out⟩
theorem Vl {y:Operand}{a b:Int}(hx:bv s x=some (.int .i64 a))(hy:bv s y=some (.int .i64 b))(h:in64 (a+b)):RdS P s L ⟨some d,.binOp .add t x y u,ty,pos,af,gd⟩ (.int .i64 (a+b)):=⟨fun _ _ _=>iO hx hy h.1 h.2⟩
theorem Vj {y:Operand}{a b:Int}(hx:bv s x=some (.int .i64 a))(hy:bv s y=some (.int .i64 b))(h:in64 (a - b)):RdS P s L ⟨some d,.binOp .sub t x y u,ty,pos,af,gd⟩ (.int .i64 (a - b)):=⟨fun _ _ _=>vJ hx hy h.1 h.2⟩
theorem V4 {vs:Array Value}(hx:bv s x=some (.tuple vs))(hi:vs.toList[i]? =some v):RdS P s L ⟨some d,.extract x i,ty,pos,af,gd⟩ v:=⟨fun _ _ _=>dl hx (by simpa using hi)⟩
theorem TX (h:RdS P s L ⟨some d,op,ty,pos,af,gd⟩ v:=by
  first
    |exact V4 rfl rfl
    |exact We rfl
    |exact Vk rfl
    |exact Wc rfl
    |exact Wh rfl (by with_reducible repeat (first|apply FndR.w|apply FndR.r|apply FndR.s)) (by exact rfl)
    |exact V5 rfl (by with_reducible repeat (first|apply FndR.w|apply FndR.r|apply FndR.s)) (by repeat (first|exact AS rfl|apply wY rfl)) (by exact rfl)
    |exact Wg (by repeat (first|exact VE|apply VF rfl)) (by infer_instance)
    |exact V8 rfl (by with_reducible repeat (first|apply FndE.w aE|apply FndE.w aj|apply FndE.s))
    |exact V9 rfl rfl (by with_reducible repeat (first|apply FndE.w aE|apply FndE.w aj|apply FndE.s)) (by assumption) (by assumption)
    |exact Wb rfl (by with_reducible repeat (first|apply FndE.w aE|apply FndE.w aj|apply FndE.s)) (by infer_instance) (by assumption) (by exact rfl) (by repeat (first|exact AS rfl|apply wY rfl)) (by exact rfl)
    |exact Wa rfl (by with_reducible repeat (first|apply FndE.w aE|apply FndE.w aj|apply FndE.s)) (by infer_instance) (by assumption) (by exact rfl) (by exact rfl)
    |exact Vl rfl rfl (by assumption)
    |exact Vj rfl rfl (by assumption)
    |exact V7 rfl (by assumption) rfl
    |exact V6 rfl (by assumption) rfl):RdS P s L ⟨some d,op,ty,pos,af,gd⟩ v:=h
end
section
theorem TZ {B:Xi}(h:bp X ops l K s (A++B)):bp X ops l K s (A++B):=h
theorem Wn (h:bp X ops l K s (A.set i c)):bp X ops l K s (A.set i c):=h
theorem Vx {y:Code}(h:Wq X y K s (A.set i c)):Wq X y K s (A.set i c):=h
theorem Wo {B:Xi}{c:Code}(h:Wq X c K s (A++B)):Wq X c K s (A++B):=h
end
theorem ab {q:Prop}(k:q)(h:Bxd q->p:=by
  intro k
  repeat (first
    | (with_reducible first|refine TZ ?_|refine Wn ?_
       refine oS ?_)
    | (with_reducible refine TY ?_
       refine VB J ?_
       first
         | (refine Vn ?_
            first
              |refine tR TX rfl rfl ?_
              |refine tW rfl rfl (by repeat (first|exact AS rfl|apply wY rfl)) (by with_reducible repeat (first|apply FndW.w|apply FndW.s)) (by repeat (first|exact AS rfl|apply wY rfl)) (by exact rfl) (by exact rfl) (by exact rfl) ?_
              |refine tA (by repeat (first|exact AS rfl|apply wY rfl)) rfl ?_
              |refine tX rfl (by repeat (first|exact AS rfl|apply wY rfl)) rfl ?_)
         |refine Vo ?_)
    | (with_reducible refine TY ?_
       fail_if_success with_reducible refine Vz ?_
       refine Vy J ?_)
    | (with_reducible first|refine Wo ?_|refine Vx ?_
       refine Ui ?_)
    | (with_reducible refine Vw ?_
       first
         |refine aB (kC ?_)
         |with_reducible refine kC ?_
         |with_reducible refine I9 ?_
         | (fail_if_success with_reducible refine VA ?_
            with_reducible refine vv ?_)
         |with_reducible refine Ku ?_
         |with_reducible refine LK ?_)
    | (with_reducible refine Wm ?_
       first
         |refine tZ _ rfl rfl TX O (by exact rfl) (by exact rfl) ?_
         |refine tU _ rfl rfl (by exact rfl) O (by exact rfl) ?_
         |refine tN O ?_)
    |with_reducible refine qx ?_
    |with_reducible refine Sc ?_
    |with_reducible refine TJ ?_
    |with_reducible refine TH ?_
    |with_reducible refine Q5 ?_
    |with_reducible refine Ti ?_)
  exact k.un):p:=h ⟨k⟩
structure CvA (L L2:Xi):Prop where
  out:Cv L L2
theorem cX (h:CvA L L2:=by
    refine CvA.mk ?_;apply P3 (by repeat (first|exact mM rfl|apply jI rfl|exact rfl))
    repeat (first|exact UP|apply UO (by with_reducible repeat (first|apply FndD.w|apply FndD.s))|apply UQ (by with_reducible repeat (first|apply FndC.w|apply FndC.s))|apply cwF (by with_reducible repeat (first|apply FndC.w|apply FndC.s))|apply cwZ|apply cwY|exact ae _|apply UR)):Cv L L2:=h.out
theorem gJ {pd:Nat}{a b:Bool}(h:some a=some b)(hs:Bk s ((pd,.bool a)::s2):=by exact sA)(hl:Cv L L2:=by exact cX):bp X ops [] (vu ((pd,.bool b)::s2) L2) s L:=by
  cases h;exact bD hs hl
theorem gS (k pd gc:Nat){c:Bool}{u v:Option Bool}{f:Bool->Option ρ}{r:ρ}(h:(bif c then u else v).bind f=some r)(k2:∀b,f b=some r->bp X ops (l.drop k) K ((pd,.bool b)::s) L)(hc:bv s (.tmp gc)=some (.bool c):=by exact rfl)(h1:∀b,c=true->u=some b->bp X ops (l.take k) (vu ((pd,.bool b)::s) L) s L:=by
      intro b g h;refine ab ?_
      exact gJ h)(h2:∀b,c=false->v=some b->bp X ops (l.take k) (vu ((pd,.bool b)::s) L) s L:=by
      intro b g h;refine ab ?_
      exact gJ h):bp X ops l K s L:=by
  obtain ⟨b,hb,h⟩:=aa h;refine ii k pd b ?_ (k2 b h)
  cases hg:c with
  |true=>exact h1 b hg (cZ hg hb)
  |false=>exact h2 b hg (db hg hb)
end
section
open Go.RowKit
theorem ba {xs:List α}{i:Int}{f:α->Option ρ}{r:ρ}(h:(aq xs i).bind f=some r): ∃x,0<=i/\i<xs.length/\xs[i.toNat]? =some x/\f x=some r:=by
  obtain ⟨x,hx,h⟩:=aa h;obtain ⟨l,u,hx⟩:=fI hx;exact ⟨x,l,u,hx,h⟩
theorem ce {c:Code}{q:Prop}(hf:P.funcs[f]? =some fn)(k:q)(hb:fn.body=some c:=by exact rfl)(hn:Nat.ble args.length fn.ntmps=true:=by exact rfl)(hm:(fn.name== "runtime.NumGoroutine")=false:=by exact rfl)(h:Bxd q->Wq ⟨P,fn.ntmps,none⟩ c (OC ⟨P,fn.ntmps,none⟩ fn R) (qI args 0) L:=by
      intro k;simp only [qI];refine ab ?_
      exact k.un):Okc P f args L R:=Ca hf hb hn (h ⟨k⟩) hm
theorem eY (hh:p:=by
    refine ab ?_
    exact eN):p:=hh
theorem jY (hh:p:=by
    refine ab ?_
    exact jN):p:=hh
theorem lY (hh:p:=by
    refine ab ?_
    exact lN):p:=hh
theorem gY (hh:p:=by
    refine ab ?_
    exact gJ h):p:=hh
theorem cl {q:Nat->Prop}(k:∀b,q b)(h:(∀b,Bxd (q b))->p:=by
    intro k;refine ab ?_;intro b;refine ab ?_
    exact (k b).un):p:=h fun b=>⟨k b⟩
theorem sY {q:Prop}(k:q)(h:Bxd q->p:=by
    intro k;refine ab ?_;refine aB ?_;refine ab ?_
    exact k.un):p:=h ⟨k⟩
theorem sZ {q:Prop}(k:q)(h:Bxd q->p:=by
    intro k;refine aB ?_;refine ab ?_
    exact k.un):p:=h ⟨k⟩
section
theorem dk {c:Operand}{x y:Code}{b:Bool}{u v r:Option ρ}(h:(bif b then u else v)=r)(ht:u=r->Wq X x K s L)(hf:v=r->Wq X y K s L)(h0:Bxd (Wq X (.cond c x y) K s L)->p:=by
      intro k;refine ab ?_
      exact k.un)(hc:bv s c=some (.bool b):=by exact rfl):p:=h0 ⟨gH hc h ht hf⟩
variable {rest:List Oper}{d:Nat}{q:Prop}
theorem JX (h:Rd X.P s L ⟨some d,op,ty,pos,af,gd⟩ v)(k:q)(hr:Bxd q->bp X ops rest K ((d,v)::s) L:=by
      intro k;refine ab ?_
      exact k.un)(hn:eW ⟨some d,op,ty,pos,af,gd⟩=true:=by rfl)(hg:aH ops s ⟨some d,op,ty,pos,af,gd⟩=some true:=by rfl)(hd:Nat.ble (d+1) X.n=true:=by rfl):bp X ops (⟨some d,op,ty,pos,af,gd⟩::rest) K s L:=gR h (hr ⟨k⟩) hn hg hd
theorem fS (h:Ev X.P s (fun _=>True) ⟨some d,op,ty,pos,af,gd⟩ v)(k:q)(hr:Bxd q->bp X ops rest K ((d,v)::s) L:=by
      intro k;refine ab ?_
      exact k.un)(hn:eW ⟨some d,op,ty,pos,af,gd⟩=true:=by rfl)(hg:aH ops s ⟨some d,op,ty,pos,af,gd⟩=some true:=by rfl)(hd:Nat.ble (d+1) X.n=true:=by rfl):bp X ops (⟨some d,op,ty,pos,af,gd⟩::rest) K s L:=gE h (hr ⟨k⟩) hn hg hd
theorem Ej {C Z:Xi}(h:OpX X.P s L ⟨some d,op,ty,pos,af,gd⟩ fun u L'=> ∃post,(u=v/\post=C)/\L'=post++Z)(k:q)(hr:Bxd q->bp X ops rest K ((d,v)::s) (C++Z):=by
      intro k;refine ab ?_
      exact k.un)(hn:eW ⟨some d,op,ty,pos,af,gd⟩=true:=by rfl)(hg:aH ops s ⟨some d,op,ty,pos,af,gd⟩=some true:=by rfl)(hd:Nat.ble (d+1) X.n=true:=by rfl):bp X ops (⟨some d,op,ty,pos,af,gd⟩::rest) K s L:=gV h (hr ⟨k⟩) hn hg hd
theorem GB {Z:Xi}(h:OpX X.P s L ⟨none,op,ty,pos,af,gd⟩ fun _ L'=>L'=Z)(k:q)(hr:Bxd q->bp X ops rest K s Z:=by
      intro k;refine ab ?_
      exact k.un)(hn:eW ⟨none,op,ty,pos,af,gd⟩=true:=by rfl)(hg:aH ops s ⟨none,op,ty,pos,af,gd⟩=some true:=by rfl):bp X ops (⟨none,op,ty,pos,af,gd⟩::rest) K s L:=gW h (hr ⟨k⟩) hn hg
theorem Ws {q:Nat->Prop}(h:OpX X.P s L ⟨some d,op,ty,pos,af,gd⟩ R)(k:∀(b:Nat),q b)(hr:(∀(b:Nat),Bxd (q b))-> ∀v L',R v L'->bp X ops rest K ((d,v)::s) L':=by
      intro k
      first|(rintro _ _ ⟨_,⟨b,rfl,rfl⟩,rfl⟩;refine ab ?_;exact (k b).un)|(rintro _ _ ⟨b,rfl,rfl⟩;refine ab ?_;exact (k b).un))(hn:eW ⟨some d,op,ty,pos,af,gd⟩=true:=by rfl)(hg:aH ops s ⟨some d,op,ty,pos,af,gd⟩=some true:=by rfl)(hd:Nat.ble (d+1) X.n=true:=by rfl):bp X ops (⟨some d,op,ty,pos,af,gd⟩::rest) K s L:=gD h (hr fun b=>⟨k b⟩) hn hg hd
theorem sI {q:Option Addr->Nat->Nat->Prop}(h:OpX X.P s L ⟨some d,op,ty,pos,af,gd⟩ R)(k:∀(x0:Option Addr) (x1:Nat) (x2:Nat),q x0 x1 x2)(hr:(∀(x0:Option Addr) (x1:Nat) (x2:Nat),Bxd (q x0 x1 x2))-> ∀v L',R v L'->bp X ops rest K ((d,v)::s) L':=by
      intro k
      first|(rintro _ _ ⟨_,⟨x0,x1,x2,rfl,rfl⟩,rfl⟩;refine ab ?_;exact (k x0 x1 x2).un)|(rintro _ _ ⟨x0,x1,x2,rfl,rfl⟩;refine ab ?_;exact (k x0 x1 x2).un))(hn:eW ⟨some d,op,ty,pos,af,gd⟩=true:=by rfl)(hg:aH ops s ⟨some d,op,ty,pos,af,gd⟩=some true:=by rfl)(hd:Nat.ble (d+1) X.n=true:=by rfl):bp X ops (⟨some d,op,ty,pos,af,gd⟩::rest) K s L:=gD h (hr fun x0 x1 x2=>⟨k x0 x1 x2⟩) hn hg hd
theorem SC {q:Option Addr->Nat->Nat->Option Addr->Nat->Nat->Prop}(h:OpX X.P s L ⟨some d,op,ty,pos,af,gd⟩ R)(k:∀(x0:Option Addr) (x1:Nat) (x2:Nat) (x3:Option Addr) (x4:Nat) (x5:Nat),q x0 x1 x2 x3 x4 x5)(hr:(∀(x0:Option Addr) (x1:Nat) (x2:Nat) (x3:Option Addr) (x4:Nat) (x5:Nat),Bxd (q x0 x1 x2 x3 x4 x5))-> ∀v L',R v L'->bp X ops rest K ((d,v)::s) L':=by
      intro k
      first|(rintro _ _ ⟨_,⟨x0,x1,x2,x3,x4,x5,rfl,rfl⟩,rfl⟩;refine ab ?_;exact (k x0 x1 x2 x3 x4 x5).un)|(rintro _ _ ⟨x0,x1,x2,x3,x4,x5,rfl,rfl⟩;refine ab ?_;exact (k x0 x1 x2 x3 x4 x5).un))(hn:eW ⟨some d,op,ty,pos,af,gd⟩=true:=by rfl)(hg:aH ops s ⟨some d,op,ty,pos,af,gd⟩=some true:=by rfl)(hd:Nat.ble (d+1) X.n=true:=by rfl):bp X ops (⟨some d,op,ty,pos,af,gd⟩::rest) K s L:=gD h (hr fun x0 x1 x2 x3 x4 x5=>⟨k x0 x1 x2 x3 x4 x5⟩) hn hg hd
theorem Wp {q:Option Addr->Nat->Nat->Option Addr->Nat->Nat->Option Addr->Nat->Nat->Prop}(h:OpX X.P s L ⟨some d,op,ty,pos,af,gd⟩ R)(k:∀(x0:Option Addr) (x1:Nat) (x2:Nat) (x3:Option Addr) (x4:Nat) (x5:Nat) (x6:Option Addr) (x7:Nat) (x8:Nat),q x0 x1 x2 x3 x4 x5 x6 x7 x8)(hr:(∀(x0:Option Addr) (x1:Nat) (x2:Nat) (x3:Option Addr) (x4:Nat) (x5:Nat) (x6:Option Addr) (x7:Nat) (x8:Nat),Bxd (q x0 x1 x2 x3 x4 x5 x6 x7 x8))-> ∀v L',R v L'->bp X ops rest K ((d,v)::s) L':=by
      intro k
      first|(rintro _ _ ⟨_,⟨x0,x1,x2,x3,x4,x5,x6,x7,x8,rfl,rfl⟩,rfl⟩;refine ab ?_;exact (k x0 x1 x2 x3 x4 x5 x6 x7 x8).un)|(rintro _ _ ⟨x0,x1,x2,x3,x4,x5,x6,x7,x8,rfl,rfl⟩;refine ab ?_;exact (k x0 x1 x2 x3 x4 x5 x6 x7 x8).un))(hn:eW ⟨some d,op,ty,pos,af,gd⟩=true:=by rfl)(hg:aH ops s ⟨some d,op,ty,pos,af,gd⟩=some true:=by rfl)(hd:Nat.ble (d+1) X.n=true:=by rfl):bp X ops (⟨some d,op,ty,pos,af,gd⟩::rest) K s L:=gD h (hr fun x0 x1 x2 x3 x4 x5 x6 x7 x8=>⟨k x0 x1 x2 x3 x4 x5 x6 x7 x8⟩) hn hg hd
theorem UE {q:Option Addr->Nat->Nat->Option Addr->Nat->Nat->Option Addr->Nat->Nat->Option Addr->Nat->Nat->Prop}(h:OpX X.P s L ⟨some d,op,ty,pos,af,gd⟩ R)(k:∀(x0:Option Addr) (x1:Nat) (x2:Nat) (x3:Option Addr) (x4:Nat) (x5:Nat) (x6:Option Addr) (x7:Nat) (x8:Nat) (x9:Option Addr) (a6:Nat) (a7:Nat),q x0 x1 x2 x3 x4 x5 x6 x7 x8 x9 a6 a7)(hr:(∀(x0:Option Addr) (x1:Nat) (x2:Nat) (x3:Option Addr) (x4:Nat) (x5:Nat) (x6:Option Addr) (x7:Nat) (x8:Nat) (x9:Option Addr) (a6:Nat) (a7:Nat),Bxd (q x0 x1 x2 x3 x4 x5 x6 x7 x8 x9 a6 a7))-> ∀v L',R v L'->bp X ops rest K ((d,v)::s) L':=by
      intro k
      first|(rintro _ _ ⟨_,⟨x0,x1,x2,x3,x4,x5,x6,x7,x8,x9,a6,a7,rfl,rfl⟩,rfl⟩;refine ab ?_;exact (k x0 x1 x2 x3 x4 x5 x6 x7 x8 x9 a6 a7).un)|(rintro _ _ ⟨x0,x1,x2,x3,x4,x5,x6,x7,x8,x9,a6,a7,rfl,rfl⟩;refine ab ?_;exact (k x0 x1 x2 x3 x4 x5 x6 x7 x8 x9 a6 a7).un))(hn:eW ⟨some d,op,ty,pos,af,gd⟩=true:=by rfl)(hg:aH ops s ⟨some d,op,ty,pos,af,gd⟩=some true:=by rfl)(hd:Nat.ble (d+1) X.n=true:=by rfl):bp X ops (⟨some d,op,ty,pos,af,gd⟩::rest) K s L:=gD h (hr fun x0 x1 x2 x3 x4 x5 x6 x7 x8 x9 a6 a7=>⟨k x0 x1 x2 x3 x4 x5 x6 x7 x8 x9 a6 a7⟩) hn hg hd
end
def Zl (_:List Nat)(p:Prop):Prop:=p
theorem U0 (h:p):Zl [] p:=h
section
variable {d:Nat}
theorem Vi (i:Nat){l:List Nat}(hi:ops[i]? =some ⟨some d,op,ty,pos,af,gd⟩)(h:RdS X.P s M ⟨some d,op,ty,pos,af,gd⟩ v)(hk:Pc ops listed i=true)(hg:aH ops s ⟨some d,op,ty,pos,af,gd⟩=some true)(hd:Nat.ble (d+1) X.n=true)(k:Zl l (nj X ops K M fuel (listed.setIfInBounds i true) ((d,v)::s) L)):Zl (i::l) (nj X ops K M (fuel+1) listed s L):=zR i hi h.out k hk hg hd
end
theorem zY (l:List Nat){q:Prop}(k:q)(h:Bxd q->Zl l p:=by
    intro k
    repeat (refine Vi _ rfl TX O (by exact rfl) (by exact rfl) ?_)
    refine U0 ?_
    exact k.un):p:=h ⟨k⟩
theorem VZ {l:List Nat}{q:Prop}(f:q->p)(h:Zl l q):Zl l p:=f h
theorem zX (l:List Nat){q:Prop}(k:q)(h:Bxd q->Zl l p:=by
    intro k
    repeat (refine Vi _ rfl TX O (by exact rfl) (by exact rfl) ?_)
    refine U0 ?_;refine aY O ?_
    exact k.un):p:=h ⟨k⟩
theorem dY (l:List Nat){q:Prop}(k:q)(h:Bxd q->Zl l p:=by
    intro k;refine VZ (fun h=>aB (be O _ (ae _) h)) ?_
    repeat (refine Vi _ rfl TX O (by exact rfl) (by exact rfl) ?_)
    refine U0 ?_
    exact k.un):p:=h ⟨k⟩
theorem bL {P:Xi->Prop}(k:P M)(h:Cv L M:=by exact cX): ∃M',Cv L M'/\Cv M' M/\P M':=ng h k
section
variable {d:Nat}
theorem Ng (i:Nat){q:Nat->Prop}(hi:ops[i]? =some ⟨some d,op,ty,pos,af,gd⟩)(h:OpX X.P s L ⟨some d,op,ty,pos,af,gd⟩ R)(k:∀(x0:Nat),q x0)(hq:(∀(x0:Nat),Bxd (q x0))-> ∀v L',R v L'-> ∃M',Cv L' M'/\Cv M' M/\nj X ops K M' fuel (listed.setIfInBounds i true) ((d,v)::s) L':=by
      intro k
      first
        | rintro _ _ ⟨_,⟨x0,rfl,rfl⟩,rfl⟩
          refine bL ?_;refine bz ?_;exact (k x0).un
        | rintro _ _ ⟨x0,rfl,rfl⟩
          refine bL ?_;refine bz ?_
          exact (k x0).un)(hr:Region.ready .any ops listed=[i]:=by kernel_rfl)(hn:eW ⟨some d,op,ty,pos,af,gd⟩=true:=by exact rfl)(hg:aH ops s ⟨some d,op,ty,pos,af,gd⟩=some true:=by exact rfl)(hd:Nat.ble (d+1) X.n=true:=by exact rfl):nj X ops K M (fuel+1) listed s L:=zD i hi h (hq fun x0=>⟨k x0⟩) hr hn hg hd
theorem zk (i:Nat){q:Option Addr->Nat->Nat->Prop}(hi:ops[i]? =some ⟨some d,op,ty,pos,af,gd⟩)(h:OpX X.P s L ⟨some d,op,ty,pos,af,gd⟩ R)(k:∀(x0:Option Addr) (x1:Nat) (x2:Nat),q x0 x1 x2)(hq:(∀(x0:Option Addr) (x1:Nat) (x2:Nat),Bxd (q x0 x1 x2))-> ∀v L',R v L'-> ∃M',Cv L' M'/\Cv M' M/\nj X ops K M' fuel (listed.setIfInBounds i true) ((d,v)::s) L':=by
      intro k
      first
        | rintro _ _ ⟨_,⟨x0,x1,x2,rfl,rfl⟩,rfl⟩
          refine bL ?_;refine bz ?_;exact (k x0 x1 x2).un
        | rintro _ _ ⟨x0,x1,x2,rfl,rfl⟩
          refine bL ?_;refine bz ?_
          exact (k x0 x1 x2).un)(hr:Region.ready .any ops listed=[i]:=by kernel_rfl)(hn:eW ⟨some d,op,ty,pos,af,gd⟩=true:=by exact rfl)(hg:aH ops s ⟨some d,op,ty,pos,af,gd⟩=some true:=by exact rfl)(hd:Nat.ble (d+1) X.n=true:=by exact rfl):nj X ops K M (fuel+1) listed s L:=zD i hi h (hq fun x0 x1 x2=>⟨k x0 x1 x2⟩) hr hn hg hd
theorem V3 (i:Nat){q:Option Addr->Nat->Nat->Option Addr->Nat->Nat->Prop}(hi:ops[i]? =some ⟨some d,op,ty,pos,af,gd⟩)(h:OpX X.P s L ⟨some d,op,ty,pos,af,gd⟩ R)(k:∀(x0:Option Addr) (x1:Nat) (x2:Nat) (x3:Option Addr) (x4:Nat) (x5:Nat),q x0 x1 x2 x3 x4 x5)(hq:(∀(x0:Option Addr) (x1:Nat) (x2:Nat) (x3:Option Addr) (x4:Nat) (x5:Nat),Bxd (q x0 x1 x2 x3 x4 x5))-> ∀v L',R v L'-> ∃M',Cv L' M'/\Cv M' M/\nj X ops K M' fuel (listed.setIfInBounds i true) ((d,v)::s) L':=by
      intro k
      first
        | rintro _ _ ⟨_,⟨x0,x1,x2,x3,x4,x5,rfl,rfl⟩,rfl⟩
          refine bL ?_;refine bz ?_;exact (k x0 x1 x2 x3 x4 x5).un
        | rintro _ _ ⟨x0,x1,x2,x3,x4,x5,rfl,rfl⟩
          refine bL ?_;refine bz ?_
          exact (k x0 x1 x2 x3 x4 x5).un)(hr:Region.ready .any ops listed=[i]:=by kernel_rfl)(hn:eW ⟨some d,op,ty,pos,af,gd⟩=true:=by exact rfl)(hg:aH ops s ⟨some d,op,ty,pos,af,gd⟩=some true:=by exact rfl)(hd:Nat.ble (d+1) X.n=true:=by exact rfl):nj X ops K M (fuel+1) listed s L:=zD i hi h (hq fun x0 x1 x2 x3 x4 x5=>⟨k x0 x1 x2 x3 x4 x5⟩) hr hn hg hd
theorem Nf (i:Nat){q:Option Addr->Nat->Nat->Option Addr->Nat->Nat->Option Addr->Nat->Nat->Option Addr->Nat->Nat->Prop}(hi:ops[i]? =some ⟨some d,op,ty,pos,af,gd⟩)(h:OpX X.P s L ⟨some d,op,ty,pos,af,gd⟩ R)(k:∀(x0:Option Addr) (x1:Nat) (x2:Nat) (x3:Option Addr) (x4:Nat) (x5:Nat) (x6:Option Addr) (x7:Nat) (x8:Nat) (x9:Option Addr) (a6:Nat) (a7:Nat),q x0 x1 x2 x3 x4 x5 x6 x7 x8 x9 a6 a7)(hq:(∀(x0:Option Addr) (x1:Nat) (x2:Nat) (x3:Option Addr) (x4:Nat) (x5:Nat) (x6:Option Addr) (x7:Nat) (x8:Nat) (x9:Option Addr) (a6:Nat) (a7:Nat),Bxd (q x0 x1 x2 x3 x4 x5 x6 x7 x8 x9 a6 a7))-> ∀v L',R v L'-> ∃M',Cv L' M'/\Cv M' M/\nj X ops K M' fuel (listed.setIfInBounds i true) ((d,v)::s) L':=by
      intro k
      first
        | rintro _ _ ⟨_,⟨x0,x1,x2,x3,x4,x5,x6,x7,x8,x9,a6,a7,rfl,rfl⟩,rfl⟩
          refine bL ?_;refine bz ?_;exact (k x0 x1 x2 x3 x4 x5 x6 x7 x8 x9 a6 a7).un
        | rintro _ _ ⟨x0,x1,x2,x3,x4,x5,x6,x7,x8,x9,a6,a7,rfl,rfl⟩
          refine bL ?_;refine bz ?_
          exact (k x0 x1 x2 x3 x4 x5 x6 x7 x8 x9 a6 a7).un)(hr:Region.ready .any ops listed=[i]:=by kernel_rfl)(hn:eW ⟨some d,op,ty,pos,af,gd⟩=true:=by exact rfl)(hg:aH ops s ⟨some d,op,ty,pos,af,gd⟩=some true:=by exact rfl)(hd:Nat.ble (d+1) X.n=true:=by exact rfl):nj X ops K M (fuel+1) listed s L:=zD i hi h (hq fun x0 x1 x2 x3 x4 x5 x6 x7 x8 x9 a6 a7=>⟨k x0 x1 x2 x3 x4 x5 x6 x7 x8 x9 a6 a7⟩) hr hn hg hd
end
theorem aJ {α:Sort _}{p:α->Prop}{q:Prop}(k:∀a,p a->q):(∃a,p a)->q:=fun ⟨a,h⟩=>k a h
theorem J6 {c:Prop}{X:bG}{hO:Xi}{q:bG->Xi->Prop}(k:c->q X hO):c/\s=X/\L=hO->q s L:=fun ⟨h,e1,e2⟩=>by subst e1 e2;exact k h
end
section
variable {n2:Nat}
open Go.RowKit
section
variable {d:Nat}
theorem VY (i:Nat){l:List Nat}(hi:ops[i]? =some ⟨some d,op,ty,pos,af,gd⟩)(hg:aH ops s ⟨some d,op,ty,pos,af,gd⟩=some false)(hk:Pc ops listed i=true)(hd:Nat.ble (d+1) X.n=true)(k:Zl l (nj X ops K M fuel (listed.setIfInBounds i true) ((d,undef)::s) L)):Zl (i::l) (nj X ops K M (fuel+1) listed s L):=fc i hi hk hg hd k
theorem V0 (i:Nat){l:List Nat}(hi:ops[i]? =some ⟨some d,op,ty,pos,af,gd⟩)(hg:aH ops s ⟨some d,op,ty,pos,af,gd⟩=some true)(h:RdS X.P s M ⟨some d,op,ty,pos,af,gd⟩ v)(hk:Pc ops listed i=true)(hd:Nat.ble (d+1) X.n=true)(k:Zl l (nj X ops K M fuel (listed.setIfInBounds i true) ((d,v)::s) L)):Zl (i::l) (nj X ops K M (fuel+1) listed s L):=zR i hi h.out k hk hg hd
end
theorem yY (l:List Nat){q:Prop}(k:q)(h:Bxd q->Zl l p:=by
  intro k
  repeat (first
   |refine VY _ rfl (by first|exact rfl|exact Bb (by assumption) rfl|exact qV (by assumption) rfl) O (by exact rfl) ?_
   |refine V0 _ rfl (by first|exact rfl|exact bW (by assumption) rfl|exact cG (by assumption) rfl) TX O (by exact rfl) ?_)
  refine U0 ?_
  exact k.un):p:=h ⟨k⟩
section
theorem yS {n2 pd:Nat}{l:Array Bool}{a b:Bool}(rest:nj X ops K M n2 l ((pd,.bool b)::s2) L2)(h:some a=some b)(hs:Bk s ((pd,.bool a)::s2):=by exact sA)(hl:Cv L L2:=by exact cX)(hm:Cv L2 M:=by exact cX):nj X ops K M n2 l s L:=by
 cases h;exact oF rest hs hl hm
theorem yJ (ix:List Nat)(n2 gc pd:Nat){c:Bool}{u v:Option Bool}{f:Bool->Option ρ}{r:ρ}(h:(bif c then u else v).bind f=some r)(h1:∀b,c=true->u=some b->nj X ops K M n2 (qd listed ix) ((pd,.bool b)::s) L->nj X ops K M fuel listed s L)(h2:∀b,c=false->v=some b->nj X ops K M n2 (qd listed ix) ((pd,.bool b)::s) L->nj X ops K M fuel listed s L)(k2:∀b,f b=some r->nj X ops K M n2 (qd listed ix) ((pd,.bool b)::s) L)(hc:jQ s gc=some (.bool c):=by exact rfl):nj X ops K M fuel listed s L:=by
 have _:=hc;obtain ⟨b,hb,h⟩:=aa h
 cases hg:c with
 |true=>exact h1 b hg (cZ hg hb) (k2 b h)
 |false=>exact h2 b hg (db hg hb) (k2 b h)
theorem JW (k pd gc:Nat){c:Bool}{u v:Option Bool}{f:Bool->Option ρ}{r:ρ}(h:(bif c then u else v).bind f=some r)(h1:∀b,c=true->u=some b->bp X ops (l.take k) (vu ((pd,.bool b)::s) L) s L)(h2:∀b,c=false->v=some b->bp X ops (l.take k) (vu ((pd,.bool b)::s) L) s L)(k2:∀b,f b=some r->bp X ops (l.drop k) K ((pd,.bool b)::s) L)(hc:jQ s gc=some (.bool c):=by exact rfl):bp X ops l K s L:=by
 have _:=hc;obtain ⟨b,hb,h⟩:=aa h;refine ii k pd b ?_ (k2 b h)
 cases hg:c with
 |true=>exact h1 b hg (cZ hg hb)
 |false=>exact h2 b hg (db hg hb)
end
section
variable {L0:Xi}{o:Oper}{p:Nat->Oper->Prop}
theorem qE {v':Value}(h:Ev P s (fun _=>True) o v')(k:∀(i:Nat) (o:Oper),i<n->ops[i]? =some o->p i o)(ho:ops[n]? =some o:=by exact rfl)(hp:Sh P ops s L L0 o (Asn.aV v).full->p n o:=by exact id)(hv:v'=v:=by exact rfl)(hg:aH ops s o=some true:=by exact rfl)(hl:Cv L L0:=by exact ae _): ∀(i:Nat) (o:Oper),i<n+1->ops[i]? =some o->p i o:=aG ho (hp (VL h hg (iI hv hl))) k
theorem qR {v':Value}(h:Rd P s L o v')(k:∀(i:Nat) (o:Oper),i<n->ops[i]? =some o->p i o)(ho:ops[n]? =some o:=by exact rfl)(hp:Sh P ops s L L0 o (Asn.aV v).full->p n o:=by exact id)(hv:v'=v:=by exact rfl)(hg:aH ops s o=some true:=by exact rfl)(hl:Cv L L0:=by exact ae _): ∀(i:Nat) (o:Oper),i<n+1->ops[i]? =some o->p i o:=aG ho (hp (zh h hg (iI hv hl))) k
end
end
section
open Go.RowKit
section
variable {nn:Nat}{rr:Option Nat}{rest:List Oper}{d:Nat}{m:Option α}{g:α->Option ρ}{r:ρ}{re:Xi}
theorem cR {v:α->Value}{C:α->Xi}{q:α->Prop}(h:m.bind g=some r)(c:∀y,m=some y->Okc P f vs pre (fun u post=>u=v y/\post=C y))(k:∀y,g y=some r->q y)(hp:∀y,Bxd (q y)->(bp ⟨P,nn,rr⟩ ops rest K ((d,v y)::s) (C y++L)->bp ⟨P,nn,rr⟩ ops (⟨some d,.call ⟨.value (.func f),xs.toArray,ats⟩,ty,pos,af,gd⟩::rest) K s L)->p:=by
   intro y k1 k2;refine ab ?_;refine k2 ?_;refine ab ?_
   exact k1.un)(hv:Gh s xs=some vs:=by exact rfl)(hl:CT L pre:=by
   apply Rl (by repeat (first|exact mM rfl|apply jI rfl|exact rfl))
   repeat (first|exact U7|apply U8 (by with_reducible repeat (first|apply FndL.bb|apply FndL.br|apply FndL.sl|apply FndL.so|apply FndL.mm|apply FndL.mr|apply FndL.pq|apply FndL.pk|apply FndL.pr|apply FndL.rm|apply FndL.s))|apply leZ))(hr:∀y, ∀c∈C y,iS c:=by
   intro y
   repeat (first|exact Va|refine Vd ?_|refine Vb ?_|refine U9 ?_))(hn:eW ⟨some d,.call ⟨.value (.func f),xs.toArray,ats⟩,ty,pos,af,gd⟩=true:=by rfl)(hg:aH ops s ⟨some d,.call ⟨.value (.func f),xs.toArray,ats⟩,ty,pos,af,gd⟩=some true:=by first|exact rfl|exact bW (by assumption) rfl|exact cG (by assumption) rfl)(hd:Nat.ble (d+1) nn=true:=by rfl):p:=by
 obtain ⟨y,hy,h⟩:=aa h
 refine hp y (⟨k y h⟩) fun hq=>gD (aX (c y hy) hv hl (fun u post h=>by obtain ⟨-,rfl⟩:=h;exact hr y)) ?_ hn hg hd
 rintro _ _ ⟨_,⟨rfl,rfl⟩,rfl⟩;exact hq
theorem cC {v:α->Value}{C:α->Xi}{q:α->Prop}(h:m.bind g=some r)(c:∀y,m=some y->Okc P f vs pre (fun u post=>u=v y/\post=C y))(k:∀y,g y=some r->q y)(hp:∀y,Bxd (q y)->(bp ⟨P,nn,rr⟩ ops rest K ((d,v y)::s) (C y++re)->bp ⟨P,nn,rr⟩ ops (⟨some d,.call ⟨.value (.func f),xs.toArray,ats⟩,ty,pos,af,gd⟩::rest) K s L)->p:=by
   intro y k1 k2;refine ab ?_;refine k2 ?_;refine ab ?_
   exact k1.un)(hv:Gh s xs=some vs:=by exact rfl)(hl:Tk L pre re:=by
   apply QI (by repeat (first|exact mM rfl|apply jI rfl|exact rfl))
   repeat (first|exact U4|apply U3 (by with_reducible repeat (first|apply FndD.w|apply FndD.s))|apply U6 (by with_reducible repeat (first|apply FndD.w|apply FndD.s))|apply tkM (by with_reducible repeat (first|apply FndD.w|apply FndD.s))|apply tkR (by with_reducible repeat (first|apply FndD.w|apply FndD.s))|apply U5 (by with_reducible repeat (first|apply FndC.w|apply FndC.s))))(hn:eW ⟨some d,.call ⟨.value (.func f),xs.toArray,ats⟩,ty,pos,af,gd⟩=true:=by rfl)(hg:aH ops s ⟨some d,.call ⟨.value (.func f),xs.toArray,ats⟩,ty,pos,af,gd⟩=some true:=by first|exact rfl|exact bW (by assumption) rfl|exact cG (by assumption) rfl)(hd:Nat.ble (d+1) nn=true:=by rfl):p:=by
 obtain ⟨y,hy,h⟩:=aa h
 refine hp y (⟨k y h⟩) fun hq=>gD (dt (c y hy) hv hl) ?_ hn hg hd
 rintro _ _ ⟨_,⟨rfl,rfl⟩,rfl⟩;exact hq
theorem LD {v:α->Option Addr->Nat->Nat->Value}{C:α->Option Addr->Nat->Nat->Xi}{q:α->Option Addr->Nat->Nat->Prop}(h:m.bind g=some r)(c:∀y,m=some y->Okc P f vs pre (fun u post=> ∃(x0:Option Addr) (x1:Nat) (x2:Nat),u=v y x0 x1 x2/\post=C y x0 x1 x2))(k:∀y (x0:Option Addr) (x1:Nat) (x2:Nat),g y=some r->q y x0 x1 x2)(hp:∀y,(∀(x0:Option Addr) (x1:Nat) (x2:Nat),Bxd (q y x0 x1 x2))->((∀(x0:Option Addr) (x1:Nat) (x2:Nat),bp ⟨P,nn,rr⟩ ops rest K ((d,v y x0 x1 x2)::s) (C y x0 x1 x2++L))->bp ⟨P,nn,rr⟩ ops (⟨some d,.call ⟨.value (.func f),xs.toArray,ats⟩,ty,pos,af,gd⟩::rest) K s L)->p:=by
   intro y k1 k2;refine ab ?_;refine k2 ?_;intro x0 x1 x2;refine ab ?_
   exact (k1 x0 x1 x2).un)(hv:Gh s xs=some vs:=by exact rfl)(hl:CT L pre:=by
   apply Rl (by repeat (first|exact mM rfl|apply jI rfl|exact rfl))
   repeat (first|exact U7|apply U8 (by with_reducible repeat (first|apply FndL.bb|apply FndL.br|apply FndL.sl|apply FndL.so|apply FndL.mm|apply FndL.mr|apply FndL.pq|apply FndL.pk|apply FndL.pr|apply FndL.rm|apply FndL.s))|apply leZ))(hr:∀y (x0:Option Addr) (x1:Nat) (x2:Nat), ∀c∈C y x0 x1 x2,iS c:=by
   intro y x0 x1 x2
   repeat (first|exact Va|refine Vd ?_|refine Vb ?_|refine U9 ?_))(hn:eW ⟨some d,.call ⟨.value (.func f),xs.toArray,ats⟩,ty,pos,af,gd⟩=true:=by rfl)(hg:aH ops s ⟨some d,.call ⟨.value (.func f),xs.toArray,ats⟩,ty,pos,af,gd⟩=some true:=by first|exact rfl|exact bW (by assumption) rfl|exact cG (by assumption) rfl)(hd:Nat.ble (d+1) nn=true:=by rfl):p:=by
 obtain ⟨y,hy,h⟩:=aa h
 refine hp y (fun x0 x1 x2=>⟨k y x0 x1 x2 h⟩) fun hq=>gD (aX (c y hy) hv hl (fun u post h=>by obtain ⟨x0,x1,x2, -,rfl⟩:=h;exact hr y x0 x1 x2)) ?_ hn hg hd
 rintro _ _ ⟨_,⟨x0,x1,x2,rfl,rfl⟩,rfl⟩;exact hq x0 x1 x2
theorem VX {v:α->Option Addr->Nat->Nat->Value}{C:α->Option Addr->Nat->Nat->Xi}{q:α->Option Addr->Nat->Nat->Prop}(h:m.bind g=some r)(c:∀y,m=some y->Okc P f vs pre (fun u post=> ∃(x0:Option Addr) (x1:Nat) (x2:Nat),u=v y x0 x1 x2/\post=C y x0 x1 x2))(k:∀y (x0:Option Addr) (x1:Nat) (x2:Nat),g y=some r->q y x0 x1 x2)(hp:∀y,(∀(x0:Option Addr) (x1:Nat) (x2:Nat),Bxd (q y x0 x1 x2))->((∀(x0:Option Addr) (x1:Nat) (x2:Nat),bp ⟨P,nn,rr⟩ ops rest K ((d,v y x0 x1 x2)::s) (C y x0 x1 x2++re))->bp ⟨P,nn,rr⟩ ops (⟨some d,.call ⟨.value (.func f),xs.toArray,ats⟩,ty,pos,af,gd⟩::rest) K s L)->p:=by
   intro y k1 k2;refine ab ?_;refine k2 ?_;intro x0 x1 x2;refine ab ?_
   exact (k1 x0 x1 x2).un)(hv:Gh s xs=some vs:=by exact rfl)(hl:Tk L pre re:=by
   apply QI (by repeat (first|exact mM rfl|apply jI rfl|exact rfl))
   repeat (first|exact U4|apply U3 (by with_reducible repeat (first|apply FndD.w|apply FndD.s))|apply U6 (by with_reducible repeat (first|apply FndD.w|apply FndD.s))|apply tkM (by with_reducible repeat (first|apply FndD.w|apply FndD.s))|apply tkR (by with_reducible repeat (first|apply FndD.w|apply FndD.s))|apply U5 (by with_reducible repeat (first|apply FndC.w|apply FndC.s))))(hn:eW ⟨some d,.call ⟨.value (.func f),xs.toArray,ats⟩,ty,pos,af,gd⟩=true:=by rfl)(hg:aH ops s ⟨some d,.call ⟨.value (.func f),xs.toArray,ats⟩,ty,pos,af,gd⟩=some true:=by first|exact rfl|exact bW (by assumption) rfl|exact cG (by assumption) rfl)(hd:Nat.ble (d+1) nn=true:=by rfl):p:=by
 obtain ⟨y,hy,h⟩:=aa h
 refine hp y (fun x0 x1 x2=>⟨k y x0 x1 x2 h⟩) fun hq=>gD (dt (c y hy) hv hl) ?_ hn hg hd
 rintro _ _ ⟨_,⟨x0,x1,x2,rfl,rfl⟩,rfl⟩;exact hq x0 x1 x2
theorem G0 {v:α->Option Addr->Nat->Nat->Option Addr->Nat->Nat->Value}{C:α->Option Addr->Nat->Nat->Option Addr->Nat->Nat->Xi}{q:α->Option Addr->Nat->Nat->Option Addr->Nat->Nat->Prop}(h:m.bind g=some r)(c:∀y,m=some y->Okc P f vs pre (fun u post=> ∃(x0:Option Addr) (x1:Nat) (x2:Nat) (x3:Option Addr) (x4:Nat) (x5:Nat),u=v y x0 x1 x2 x3 x4 x5/\post=C y x0 x1 x2 x3 x4 x5))(k:∀y (x0:Option Addr) (x1:Nat) (x2:Nat) (x3:Option Addr) (x4:Nat) (x5:Nat),g y=some r->q y x0 x1 x2 x3 x4 x5)(hp:∀y,(∀(x0:Option Addr) (x1:Nat) (x2:Nat) (x3:Option Addr) (x4:Nat) (x5:Nat),Bxd (q y x0 x1 x2 x3 x4 x5))->((∀(x0:Option Addr) (x1:Nat) (x2:Nat) (x3:Option Addr) (x4:Nat) (x5:Nat),bp ⟨P,nn,rr⟩ ops rest K ((d,v y x0 x1 x2 x3 x4 x5)::s) (C y x0 x1 x2 x3 x4 x5++L))->bp ⟨P,nn,rr⟩ ops (⟨some d,.call ⟨.value (.func f),xs.toArray,ats⟩,ty,pos,af,gd⟩::rest) K s L)->p:=by
   intro y k1 k2;refine ab ?_;refine k2 ?_;intro x0 x1 x2 x3 x4 x5;refine ab ?_
   exact (k1 x0 x1 x2 x3 x4 x5).un)(hv:Gh s xs=some vs:=by exact rfl)(hl:CT L pre:=by
   apply Rl (by repeat (first|exact mM rfl|apply jI rfl|exact rfl))
   repeat (first|exact U7|apply U8 (by with_reducible repeat (first|apply FndL.bb|apply FndL.br|apply FndL.sl|apply FndL.so|apply FndL.mm|apply FndL.mr|apply FndL.pq|apply FndL.pk|apply FndL.pr|apply FndL.rm|apply FndL.s))|apply leZ))(hr:∀y (x0:Option Addr) (x1:Nat) (x2:Nat) (x3:Option Addr) (x4:Nat) (x5:Nat), ∀c∈C y x0 x1 x2 x3 x4 x5,iS c:=by
   intro y x0 x1 x2 x3 x4 x5
   repeat (first|exact Va|refine Vd ?_|refine Vb ?_|refine U9 ?_))(hn:eW ⟨some d,.call ⟨.value (.func f),xs.toArray,ats⟩,ty,pos,af,gd⟩=true:=by rfl)(hg:aH ops s ⟨some d,.call ⟨.value (.func f),xs.toArray,ats⟩,ty,pos,af,gd⟩=some true:=by first|exact rfl|exact bW (by assumption) rfl|exact cG (by assumption) rfl)(hd:Nat.ble (d+1) nn=true:=by rfl):p:=by
 obtain ⟨y,hy,h⟩:=aa h
 refine hp y (fun x0 x1 x2 x3 x4 x5=>⟨k y x0 x1 x2 x3 x4 x5 h⟩) fun hq=>gD (aX (c y hy) hv hl (fun u post h=>by obtain ⟨x0,x1,x2,x3,x4,x5, -,rfl⟩:=h;exact hr y x0 x1 x2 x3 x4 x5)) ?_ hn hg hd
 rintro _ _ ⟨_,⟨x0,x1,x2,x3,x4,x5,rfl,rfl⟩,rfl⟩;exact hq x0 x1 x2 x3 x4 x5
theorem Ua {v:α->Option Addr->Nat->Nat->Option Addr->Nat->Nat->Value}{C:α->Option Addr->Nat->Nat->Option Addr->Nat->Nat->Xi}{q:α->Option Addr->Nat->Nat->Option Addr->Nat->Nat->Prop}(h:m.bind g=some r)(c:∀y,m=some y->Okc P f vs pre (fun u post=> ∃(x0:Option Addr) (x1:Nat) (x2:Nat) (x3:Option Addr) (x4:Nat) (x5:Nat),u=v y x0 x1 x2 x3 x4 x5/\post=C y x0 x1 x2 x3 x4 x5))(k:∀y (x0:Option Addr) (x1:Nat) (x2:Nat) (x3:Option Addr) (x4:Nat) (x5:Nat),g y=some r->q y x0 x1 x2 x3 x4 x5)(hp:∀y,(∀(x0:Option Addr) (x1:Nat) (x2:Nat) (x3:Option Addr) (x4:Nat) (x5:Nat),Bxd (q y x0 x1 x2 x3 x4 x5))->((∀(x0:Option Addr) (x1:Nat) (x2:Nat) (x3:Option Addr) (x4:Nat) (x5:Nat),bp ⟨P,nn,rr⟩ ops rest K ((d,v y x0 x1 x2 x3 x4 x5)::s) (C y x0 x1 x2 x3 x4 x5++re))->bp ⟨P,nn,rr⟩ ops (⟨some d,.call ⟨.value (.func f),xs.toArray,ats⟩,ty,pos,af,gd⟩::rest) K s L)->p:=by
   intro y k1 k2;refine ab ?_;refine k2 ?_;intro x0 x1 x2 x3 x4 x5;refine ab ?_
   exact (k1 x0 x1 x2 x3 x4 x5).un)(hv:Gh s xs=some vs:=by exact rfl)(hl:Tk L pre re:=by
   apply QI (by repeat (first|exact mM rfl|apply jI rfl|exact rfl))
   repeat (first|exact U4|apply U3 (by with_reducible repeat (first|apply FndD.w|apply FndD.s))|apply U6 (by with_reducible repeat (first|apply FndD.w|apply FndD.s))|apply tkM (by with_reducible repeat (first|apply FndD.w|apply FndD.s))|apply tkR (by with_reducible repeat (first|apply FndD.w|apply FndD.s))|apply U5 (by with_reducible repeat (first|apply FndC.w|apply FndC.s))))(hn:eW ⟨some d,.call ⟨.value (.func f),xs.toArray,ats⟩,ty,pos,af,gd⟩=true:=by rfl)(hg:aH ops s ⟨some d,.call ⟨.value (.func f),xs.toArray,ats⟩,ty,pos,af,gd⟩=some true:=by first|exact rfl|exact bW (by assumption) rfl|exact cG (by assumption) rfl)(hd:Nat.ble (d+1) nn=true:=by rfl):p:=by
 obtain ⟨y,hy,h⟩:=aa h
 refine hp y (fun x0 x1 x2 x3 x4 x5=>⟨k y x0 x1 x2 x3 x4 x5 h⟩) fun hq=>gD (dt (c y hy) hv hl) ?_ hn hg hd
 rintro _ _ ⟨_,⟨x0,x1,x2,x3,x4,x5,rfl,rfl⟩,rfl⟩;exact hq x0 x1 x2 x3 x4 x5
end
section
theorem lK {c:Code}(Fam:Nat->bG->Xi->Prop)(m0:Nat)(k:∀m s2 L2,Fam (m+1) s2 L2->Wq X c (nx (fun s' L'=> ∃m' s3 L3,m'<m+1/\Fam m' s3 L3/\Bk s' s3/\Cv L' L3) K) s2 L2)(he:∃s2 L2,Fam m0 s2 L2/\Bk s s2/\Cv L L2:=by
   apply VV
   repeat (apply Exists.intro)
   exact ⟨h,J,J⟩
   all_goals (try exact sA)
   all_goals (try apply P3 (by repeat (first|exact mM rfl|apply jI rfl|exact rfl)))
   all_goals (repeat (first|exact UP|apply UO (by with_reducible repeat (first|apply FndD.w|apply FndD.s))|apply UQ (by with_reducible repeat (first|apply FndC.w|apply FndC.s))|apply cwF (by with_reducible repeat (first|apply FndC.w|apply FndC.s))|apply cwZ|apply cwY|exact ae _|apply UR)))(hz:∀s2 L2,Fam 0 s2 L2->False:=by
   intro s2 L2
   repeat (refine Vc ?_;intro _)
   intro h
   exact aL h.1):Wq X (.loop c) K s L:=by
 obtain ⟨s2,L2,h1,h2,h3⟩:=he
 refine im Fam m0 s2 L2 h1 h2 h3 fun m s3 L3 h=> ?_
 cases m with
 |zero=>exact (hz _ _ h).elim
 |succ m=>exact k m _ _ h
theorem oz (k pd gc:Nat){c:Bool}{u v:Option Bool}{f:Bool->Option ρ}{r:ρ}(h:(bif c then u else v).bind f=some r)(h1:∀b,c=true->u=some b->bp X ops (l.take k) (vu ((pd,.bool b)::s) L) s L)(k2:∀b,f b=some r->bp X ops (l.drop k) K ((pd,.bool b)::s) L)(hc:jQ s gc=some (.bool c):=by exact rfl)(h2:∀b,c=false->v=some b->bp X ops (l.take k) (vu ((pd,.bool b)::s) L) s L:=by
   intro b g h
   exact gY):bp X ops l K s L:=JW k pd gc h h1 h2 k2 hc
theorem xv (k pd gc:Nat){c:Bool}{u v:Option Bool}{f:Bool->Option ρ}{r:ρ}(h:(bif c then u else v).bind f=some r)(h2:∀b,c=false->v=some b->bp X ops (l.take k) (vu ((pd,.bool b)::s) L) s L)(k2:∀b,f b=some r->bp X ops (l.drop k) K ((pd,.bool b)::s) L)(hc:jQ s gc=some (.bool c):=by exact rfl)(h1:∀b,c=true->u=some b->bp X ops (l.take k) (vu ((pd,.bool b)::s) L) s L:=by
   intro b g h
   exact gY):bp X ops l K s L:=JW k pd gc h h1 h2 k2 hc
end
end
section
variable {A1 A2 A3 A4 A5:Option Addr}{B1 B6 M7 c1 c2 c3 c4 c5 n1 n2 n3 n4 n5:Nat}
open Go.RowKit Asn
set_option maxRecDepth 20000
structure WZ where
 Zh:Int
 N:Int
 S:ByteArray
 deriving DecidableEq,Inhabited
abbrev W8:=List WZ
def ay:Rep WZ:=.flat 3 (fun x=> [iV x.Zh,iV x.N,.string x.S]) (fun _=>rfl) (fun _=>rfl)
structure WX where
 Zh:Int
 N:Int
 S:ByteArray
 deriving DecidableEq,Inhabited
abbrev W7:=List WX
def gQ:Rep WX:=.flat 3 (fun x=> [iV x.Zh,iV x.N,.string x.S]) (fun _=>rfl) (fun _=>rfl)
structure WW where
 Has:Int
 Zk:Int
 Value:WZ
 Zx:WZ
 Zy:WZ
 deriving DecidableEq,Inhabited
def OW:Rep WW:=.flat 11 (fun x=> [iV x.Has,iV x.Zk,iV x.Value.Zh,iV x.Value.N,.string x.Value.S,iV x.Zx.Zh,iV x.Zx.N,.string x.Zx.S,iV x.Zy.Zh,iV x.Zy.N,.string x.Zy.S]) (fun _=>rfl) (fun _=>rfl)
structure WQ where
 Zh:Int
 N:Int
 K:WX
 D:WW
 V:WZ
 deriving DecidableEq,Inhabited
def vX:Rep WQ:=.flat 19 (fun x=> [iV x.Zh,iV x.N,iV x.K.Zh,iV x.K.N,.string x.K.S,iV x.D.Has,iV x.D.Zk,iV x.D.Value.Zh,iV x.D.Value.N,.string x.D.Value.S,iV x.D.Zx.Zh,iV x.D.Zx.N,.string x.D.Zx.S,iV x.D.Zy.Zh,iV x.D.Zy.N,.string x.D.Zy.S,iV x.V.Zh,iV x.V.N,.string x.V.S]) (fun _=>rfl) (fun _=>rfl)
structure WO where
 ZT:Int
 ZU:Int
 ZP:Int
 ZR:Int
 Zp:Int
 ZV:Int
 ZW:Int
 deriving DecidableEq,Inhabited
def OX:Rep WO:=.flat 7 (fun x=> [iV x.ZT,iV x.ZU,iV x.ZP,iV x.ZR,iV x.Zp,iV x.ZV,iV x.ZW]) (fun _=>rfl) (fun _=>rfl)
structure W0 where
 at_:(List (Int×Bool))
 deriving DecidableEq,Inhabited
structure W3 where
 Zh:Int
 Zq:Int
 Zm:Int
 Zn:Int
 Zj:W8
 Zi:W8
 deriving DecidableEq,Inhabited
abbrev Xg:=List W3
def jP:Rep W3 where
 sz:=6
 rel S w vs x:= ∃A4 n4 c4 A5 n5 c5,vs=[iV x.Zh,iV x.Zq,iV x.Zm,iV x.Zn,W A4 n4 c4,W A5 n5 c5]/\SlR ay S w (W A4 n4 c4) x.Zj/\SlR ay S w (W A5 n5 c5) x.Zi
 loc:=fun h ⟨_,_,_,_,_,_,e,h4,h5⟩=>⟨_,_,_,_,_,_,e,h4.loc h,h5.loc h⟩
 mono:=fun h ⟨_,_,_,_,_,_,e,h4,h5⟩=>⟨_,_,_,_,_,_,e,h4.mono h,h5.mono h⟩
 len:=fun ⟨_,_,_,_,_,_,e,_⟩=>by rw [e];rfl
 one:=fun ⟨_,_,_,_,_,_,e,_⟩=>by rw [e];rfl
theorem uu (x:W3):Qp jP x fun vs cs=> ∃A4 n4 c4 A5 n5 c5,vs=[iV x.Zh,iV x.Zq,iV x.Zm,iV x.Zn,W A4 n4 c4,W A5 n5 c5]/\cs=[iy ay (W A4 n4 c4) x.Zj,iy ay (W A5 n5 c5) x.Zi]:=fun S w vs ⟨_,_,_,_,_,_,e,h4,h5⟩=>⟨_,⟨_,_,_,_,_,_,e,rfl⟩,t5 h4 (t5 h5 (ax))⟩
structure WY where
 Zp:Xg
 Zr:Xg
 deriving DecidableEq,Inhabited
structure W4 where
 m_:WY
 ZA:W8
 ZC:W8
 ZD:W0
 deriving DecidableEq,Inhabited
structure W2 where
 Up:Int
 Zo:WX
 Zk:Int
 ZJ:Int
 deriving DecidableEq,Inhabited
def bA:Rep W2:=.flat 6 (fun x=> [iV x.Up,iV x.Zo.Zh,iV x.Zo.N,.string x.Zo.S,iV x.Zk,iV x.ZJ]) (fun _=>rfl) (fun _=>rfl)
structure WN where
 up_:Int
 ZX:WX
 attrs_:Int
 deriving DecidableEq,Inhabited
def SV:Rep WN:=.flat 5 (fun x=> [iV x.up_,iV x.ZX.Zh,iV x.ZX.N,.string x.ZX.S,iV x.attrs_]) (fun _=>rfl) (fun _=>rfl)
structure WR where
 Zw:(List W2)
 ZK:(List (WN×Int))
 deriving DecidableEq,Inhabited
structure WU where
 ZY:Int
 ZS:Int
 ZZ:Int
 deriving DecidableEq,Inhabited
def QP:Rep WU:=.flat 3 (fun x=> [iV x.ZY,iV x.ZS,iV x.ZZ]) (fun _=>rfl) (fun _=>rfl)
structure W5 where
 Zh:Int
 Zo:WX
 S:ByteArray
 deriving DecidableEq,Inhabited
def nP:Rep W5:=.flat 5 (fun x=> [iV x.Zh,iV x.Zo.Zh,iV x.Zo.N,.string x.Zo.S,.string x.S]) (fun _=>rfl) (fun _=>rfl)
structure WP where
 ZI:WU
 ZB:WO
 host_:Unit
 Zv:W4
 Zw:WR
 ZF:(List ByteArray)
 ZL:Int
 ZM:Int
 ZN:Int
 ZG:(List W5)
 ZH:(List ByteArray)
 deriving DecidableEq,Inhabited
structure WV where
 Zu:W3
 w_:WP
 at_:WZ
 deriving DecidableEq,Inhabited
structure WS where
 Zo:WX
 Zk:Int
 Value:WZ
 Zx:WZ
 Zy:WZ
 deriving DecidableEq,Inhabited
abbrev Xh:=List WS
def ip:Rep WS:=.flat 13 (fun x=> [iV x.Zo.Zh,iV x.Zo.N,.string x.Zo.S,iV x.Zk,iV x.Value.Zh,iV x.Value.N,.string x.Value.S,iV x.Zx.Zh,iV x.Zx.N,.string x.Zx.S,iV x.Zy.Zh,iV x.Zy.N,.string x.Zy.S]) (fun _=>rfl) (fun _=>rfl)
structure W6 where
 Ext:Bool
 Zz:Bool
 Zs:W8
 Zt:Xh
 deriving DecidableEq,Inhabited
structure WT where
 m_:WY
 ZE:Xf
 ZQ:(List (Int×Unit))
 ZO:Int
 deriving DecidableEq,Inhabited
abbrev bj (A:Option Addr)(n c:Nat):=bf ay 28 (.slice A n c)
abbrev aQ (A:Option Addr)(n c:Nat):=iy ay (.slice A n c)
abbrev iE (A:Option Addr)(n c:Nat):=iy jP (.slice A n c)
abbrev jv (A:Option Addr)(n c:Nat):=bf gQ 39 (.slice A n c)
abbrev iF (A:Option Addr)(n c:Nat):=bf jP 94 (.slice A n c)
abbrev qS (A:Option Addr)(n c:Nat):=iy ip (.slice A n c)
abbrev pQ (A:Option Addr)(n c:Nat):=bf ta 9 (.slice A n c)
abbrev uL (A:Option Addr)(n c:Nat):=bf (nO .i64) 3 (.slice A n c)
abbrev xQ (A:Option Addr)(n c:Nat):=iy (nO .i64) (.slice A n c)
abbrev AV (A:Option Addr)(n c:Nat):=bf nP 309 (.slice A n c)
abbrev sF (A:Option Addr)(n c:Nat):=iy gQ (.slice A n c)
abbrev UF (x:WQ):Value:=.agg #[iV x.Zh,iV x.N,iV x.K.Zh,iV x.K.N,.string x.K.S,iV x.D.Has,iV x.D.Zk,iV x.D.Value.Zh,iV x.D.Value.N,.string x.D.Value.S,iV x.D.Zx.Zh,iV x.D.Zx.N,.string x.D.Zx.S,iV x.D.Zy.Zh,iV x.D.Zy.N,.string x.D.Zy.S,iV x.V.Zh,iV x.V.N,.string x.V.S]
abbrev F6 (x:WO):Value:=.agg #[iV x.ZT,iV x.ZU,iV x.ZP,iV x.ZR,iV x.Zp,iV x.ZV,iV x.ZW]
abbrev fT (x:WW):Value:=.agg #[iV x.Has,iV x.Zk,iV x.Value.Zh,iV x.Value.N,.string x.Value.S,iV x.Zx.Zh,iV x.Zx.N,.string x.Zx.S,iV x.Zy.Zh,iV x.Zy.N,.string x.Zy.S]
abbrev eI (x:WX):Value:=.agg #[iV x.Zh,iV x.N,.string x.S]
abbrev cm (x:WS):Value:=.agg #[iV x.Zo.Zh,iV x.Zo.N,.string x.Zo.S,iV x.Zk,iV x.Value.Zh,iV x.Value.N,.string x.Value.S,iV x.Zx.Zh,iV x.Zx.N,.string x.Zx.S,iV x.Zy.Zh,iV x.Zy.N,.string x.Zy.S]
abbrev Rw (x:W2):Value:=.agg #[iV x.Up,iV x.Zo.Zh,iV x.Zo.N,.string x.Zo.S,iV x.Zk,iV x.ZJ]
abbrev Py (x:WN):Value:=.agg #[iV x.up_,iV x.ZX.Zh,iV x.ZX.N,.string x.ZX.S,iV x.attrs_]
abbrev aF (x:WZ):Value:=.agg #[iV x.Zh,iV x.N,.string x.S]
abbrev Mt (x:WQ):Xj:=[iV x.Zh,iV x.N,iV x.K.Zh,iV x.K.N,.string x.K.S,iV x.D.Has,iV x.D.Zk,iV x.D.Value.Zh,iV x.D.Value.N,.string x.D.Value.S,iV x.D.Zx.Zh,iV x.D.Zx.N,.string x.D.Zx.S,iV x.D.Zy.Zh,iV x.D.Zy.N,.string x.D.Zy.S,iV x.V.Zh,iV x.V.N,.string x.V.S]
abbrev iv (x:WW):Xj:=[iV x.Has,iV x.Zk,iV x.Value.Zh,iV x.Value.N,.string x.Value.S,iV x.Zx.Zh,iV x.Zx.N,.string x.Zx.S,iV x.Zy.Zh,iV x.Zy.N,.string x.Zy.S]
abbrev jw (x:WX):Xj:=[iV x.Zh,iV x.N,.string x.S]
abbrev co (x:WS):Xj:=[iV x.Zo.Zh,iV x.Zo.N,.string x.Zo.S,iV x.Zk,iV x.Value.Zh,iV x.Value.N,.string x.Value.S,iV x.Zx.Zh,iV x.Zx.N,.string x.Zx.S,iV x.Zy.Zh,iV x.Zy.N,.string x.Zy.S]
abbrev EG (x:W2):Xj:=[iV x.Up,iV x.Zo.Zh,iV x.Zo.N,.string x.Zo.S,iV x.Zk,iV x.ZJ]
abbrev bU (x:WZ):Xj:=[iV x.Zh,iV x.N,.string x.S]
abbrev At (x:WP)(b d:Nat)(A:Option Addr)(n c:Nat)(A2:Option Addr)(n2 c2:Nat)(A3:Option Addr)(n3 c3:Nat):Xj:=[iV x.ZI.ZY,iV x.ZI.ZS,iV x.ZI.ZZ,iV x.ZB.ZT,iV x.ZB.ZU,iV x.ZB.ZP,iV x.ZB.ZR,iV x.ZB.Zp,iV x.ZB.ZV,iV x.ZB.ZW,.nilIface,pV b 0,pV d 0,.slice A n c,iV x.ZL,iV x.ZM,iV x.ZN,W A2 n2 c2,W A3 n3 c3]
instance call85:FcK Xk 85:=⟨⟨Tryz.f85,Tryz.func85,rfl,rfl⟩⟩
instance call159:FcK Xk 159:=⟨⟨Tryz.f159,Tryz.func159,rfl,rfl⟩⟩
instance call163:FcK Xk 163:=⟨⟨Tryz.f163,Tryz.func163,rfl,rfl⟩⟩
instance call167:FcK Xk 167:=⟨⟨Tryz.f167,Tryz.func167,rfl,rfl⟩⟩
instance call197:FcK Xk 197:=⟨⟨Tryz.f197,Tryz.func197,rfl,rfl⟩⟩
instance call199:FcK Xk 199:=⟨⟨Tryz.f199,Tryz.func199,rfl,rfl⟩⟩
instance call204:FcK Xk 204:=⟨⟨Tryz.f204,Tryz.func204,rfl,rfl⟩⟩
instance call221:FcK Xk 221:=⟨⟨Tryz.f221,Tryz.func221,rfl,rfl⟩⟩
instance call229:FcK Xk 229:=⟨⟨Tryz.f229,Tryz.func229,rfl,rfl⟩⟩
theorem rT (b o:Nat)(w:World):(Instr.fieldAt 28 (pV b o) 0).run Xk w=.ok (pV b o) w:=by kernel_rfl
theorem MG (b o:Nat)(w:World):(Instr.fieldAt 28 (pV b o) 1).run Xk w=.ok (.pointer (some ⟨b,o+1,none⟩)) w:=by kernel_rfl
theorem R4 (b o:Nat)(w:World):(Instr.fieldAt 28 (pV b o) 2).run Xk w=.ok (.pointer (some ⟨b,o+2,none⟩)) w:=by kernel_rfl
theorem MF (b o:Nat)(w:World):(Instr.fieldAt 35 (pV b o) 0).run Xk w=.ok (pV b o) w:=by kernel_rfl
theorem R3 (b o:Nat)(w:World):(Instr.fieldAt 35 (pV b o) 1).run Xk w=.ok (.pointer (some ⟨b,o+1,none⟩)) w:=by kernel_rfl
theorem EL (b o:Nat)(w:World):(Instr.fieldAt 35 (pV b o) 2).run Xk w=.ok (.pointer (some ⟨b,o+2,none⟩)) w:=by kernel_rfl
theorem R2 (b o:Nat)(w:World):(Instr.fieldAt 35 (pV b o) 3).run Xk w=.ok (.pointer (some ⟨b,o+3,none⟩)) w:=by kernel_rfl
theorem EK (b o:Nat)(w:World):(Instr.fieldAt 39 (pV b o) 0).run Xk w=.ok (pV b o) w:=by kernel_rfl
theorem xd (b o:Nat)(w:World):(Instr.fieldAt 39 (pV b o) 1).run Xk w=.ok (.pointer (some ⟨b,o+1,none⟩)) w:=by kernel_rfl
theorem R1 (b o:Nat)(w:World):(Instr.fieldAt 39 (pV b o) 2).run Xk w=.ok (.pointer (some ⟨b,o+2,none⟩)) w:=by kernel_rfl
theorem R0 (b o:Nat)(w:World):(Instr.fieldAt 41 (pV b o) 0).run Xk w=.ok (pV b o) w:=by kernel_rfl
theorem ME (b o:Nat)(w:World):(Instr.fieldAt 41 (pV b o) 1).run Xk w=.ok (.pointer (some ⟨b,o+1,none⟩)) w:=by kernel_rfl
theorem RZ (b o:Nat)(w:World):(Instr.fieldAt 41 (pV b o) 2).run Xk w=.ok (.pointer (some ⟨b,o+2,none⟩)) w:=by kernel_rfl
theorem RY (b o:Nat)(w:World):(Instr.fieldAt 41 (pV b o) 3).run Xk w=.ok (.pointer (some ⟨b,o+5,none⟩)) w:=by kernel_rfl
theorem MD (b o:Nat)(w:World):(Instr.fieldAt 41 (pV b o) 4).run Xk w=.ok (.pointer (some ⟨b,o+8,none⟩)) w:=by kernel_rfl
theorem RX (b o:Nat)(w:World):(Instr.fieldAt 43 (pV b o) 0).run Xk w=.ok (pV b o) w:=by kernel_rfl
theorem RW (b o:Nat)(w:World):(Instr.fieldAt 43 (pV b o) 1).run Xk w=.ok (.pointer (some ⟨b,o+1,none⟩)) w:=by kernel_rfl
theorem MC (b o:Nat)(w:World):(Instr.fieldAt 43 (pV b o) 2).run Xk w=.ok (.pointer (some ⟨b,o+2,none⟩)) w:=by kernel_rfl
theorem RV (b o:Nat)(w:World):(Instr.fieldAt 43 (pV b o) 3).run Xk w=.ok (.pointer (some ⟨b,o+5,none⟩)) w:=by kernel_rfl
theorem RU (b o:Nat)(w:World):(Instr.fieldAt 43 (pV b o) 4).run Xk w=.ok (.pointer (some ⟨b,o+16,none⟩)) w:=by kernel_rfl
theorem EJ (b o:Nat)(w:World):(Instr.fieldAt 50 (pV b o) 0).run Xk w=.ok (pV b o) w:=by kernel_rfl
theorem MB (b o:Nat)(w:World):(Instr.fieldAt 50 (pV b o) 1).run Xk w=.ok (.pointer (some ⟨b,o+3,none⟩)) w:=by kernel_rfl
theorem RT (b o:Nat)(w:World):(Instr.fieldAt 50 (pV b o) 2).run Xk w=.ok (.pointer (some ⟨b,o+4,none⟩)) w:=by kernel_rfl
theorem RS (b o:Nat)(w:World):(Instr.fieldAt 50 (pV b o) 3).run Xk w=.ok (.pointer (some ⟨b,o+7,none⟩)) w:=by kernel_rfl
theorem RR (b o:Nat)(w:World):(Instr.fieldAt 50 (pV b o) 4).run Xk w=.ok (.pointer (some ⟨b,o+10,none⟩)) w:=by kernel_rfl
theorem RQ (b o:Nat)(w:World):(Instr.fieldAt 69 (pV b o) 0).run Xk w=.ok (pV b o) w:=by kernel_rfl
theorem RP (b o:Nat)(w:World):(Instr.fieldAt 69 (pV b o) 1).run Xk w=.ok (.pointer (some ⟨b,o+1,none⟩)) w:=by kernel_rfl
theorem RO (b o:Nat)(w:World):(Instr.fieldAt 69 (pV b o) 2).run Xk w=.ok (.pointer (some ⟨b,o+2,none⟩)) w:=by kernel_rfl
theorem RN (b o:Nat)(w:World):(Instr.fieldAt 69 (pV b o) 3).run Xk w=.ok (.pointer (some ⟨b,o+3,none⟩)) w:=by kernel_rfl
theorem RM (b o:Nat)(w:World):(Instr.fieldAt 69 (pV b o) 4).run Xk w=.ok (.pointer (some ⟨b,o+4,none⟩)) w:=by kernel_rfl
theorem RL (b o:Nat)(w:World):(Instr.fieldAt 69 (pV b o) 5).run Xk w=.ok (.pointer (some ⟨b,o+5,none⟩)) w:=by kernel_rfl
theorem RJ (b o:Nat)(w:World):(Instr.fieldAt 69 (pV b o) 6).run Xk w=.ok (.pointer (some ⟨b,o+6,none⟩)) w:=by kernel_rfl
theorem RI (b o:Nat)(w:World):(Instr.fieldAt 73 (pV b o) 1).run Xk w=.ok (.pointer (some ⟨b,o+1,none⟩)) w:=by kernel_rfl
theorem RH (b o:Nat)(w:World):(Instr.fieldAt 81 (pV b o) 0).run Xk w=.ok (pV b o) w:=by kernel_rfl
theorem RG (b o:Nat)(w:World):(Instr.fieldAt 81 (pV b o) 1).run Xk w=.ok (.pointer (some ⟨b,o+3,none⟩)) w:=by kernel_rfl
theorem RF (b o:Nat)(w:World):(Instr.fieldAt 81 (pV b o) 3).run Xk w=.ok (.pointer (some ⟨b,o+11,none⟩)) w:=by kernel_rfl
theorem RE (b o:Nat)(w:World):(Instr.fieldAt 81 (pV b o) 4).run Xk w=.ok (.pointer (some ⟨b,o+12,none⟩)) w:=by kernel_rfl
theorem RD (b o:Nat)(w:World):(Instr.fieldAt 81 (pV b o) 6).run Xk w=.ok (.pointer (some ⟨b,o+14,none⟩)) w:=by kernel_rfl
theorem RC (b o:Nat)(w:World):(Instr.fieldAt 94 (pV b o) 0).run Xk w=.ok (pV b o) w:=by kernel_rfl
theorem Rz (b o:Nat)(w:World):(Instr.fieldAt 94 (pV b o) 1).run Xk w=.ok (.pointer (some ⟨b,o+1,none⟩)) w:=by kernel_rfl
theorem MA (b o:Nat)(w:World):(Instr.fieldAt 94 (pV b o) 2).run Xk w=.ok (.pointer (some ⟨b,o+2,none⟩)) w:=by kernel_rfl
theorem tu (b o:Nat)(w:World):(Instr.fieldAt 94 (pV b o) 3).run Xk w=.ok (.pointer (some ⟨b,o+3,none⟩)) w:=by kernel_rfl
theorem IP (b o:Nat)(w:World):(Instr.fieldAt 94 (pV b o) 4).run Xk w=.ok (.pointer (some ⟨b,o+4,none⟩)) w:=by kernel_rfl
theorem xc (b o:Nat)(w:World):(Instr.fieldAt 94 (pV b o) 5).run Xk w=.ok (.pointer (some ⟨b,o+5,none⟩)) w:=by kernel_rfl
theorem Gg (b o:Nat)(w:World):(Instr.fieldAt 121 (pV b o) 0).run Xk w=.ok (pV b o) w:=by kernel_rfl
theorem PJ (b o:Nat)(w:World):(Instr.fieldAt 121 (pV b o) 1).run Xk w=.ok (.pointer (some ⟨b,o+1,none⟩)) w:=by kernel_rfl
theorem Gf (b o:Nat)(w:World):(Instr.fieldAt 124 (pV b o) 0).run Xk w=.ok (pV b o) w:=by kernel_rfl
theorem Ge (b o:Nat)(w:World):(Instr.fieldAt 124 (pV b o) 1).run Xk w=.ok (.pointer (some ⟨b,o+2,none⟩)) w:=by kernel_rfl
theorem PI (b o:Nat)(w:World):(Instr.fieldAt 124 (pV b o) 2).run Xk w=.ok (.pointer (some ⟨b,o+3,none⟩)) w:=by kernel_rfl
theorem PH (b o:Nat)(w:World):(Instr.fieldAt 124 (pV b o) 3).run Xk w=.ok (.pointer (some ⟨b,o+4,none⟩)) w:=by kernel_rfl
theorem J5 (b o:Nat)(w:World):(Instr.fieldAt 135 (pV b o) 0).run Xk w=.ok (pV b o) w:=by kernel_rfl
theorem J4 (b o:Nat)(w:World):(Instr.fieldAt 135 (pV b o) 1).run Xk w=.ok (.pointer (some ⟨b,o+6,none⟩)) w:=by kernel_rfl
theorem PG (b o:Nat)(w:World):(Instr.fieldAt 135 (pV b o) 2).run Xk w=.ok (.pointer (some ⟨b,o+7,none⟩)) w:=by kernel_rfl
theorem Gd (b o:Nat)(w:World):(Instr.fieldAt 166 (pV b o) 0).run Xk w=.ok (pV b o) w:=by kernel_rfl
theorem Gc (b o:Nat)(w:World):(Instr.fieldAt 166 (pV b o) 1).run Xk w=.ok (.pointer (some ⟨b,o+1,none⟩)) w:=by kernel_rfl
theorem CC (b o:Nat)(w:World):(Instr.fieldAt 166 (pV b o) 2).run Xk w=.ok (.pointer (some ⟨b,o+4,none⟩)) w:=by kernel_rfl
theorem Gb (b o:Nat)(w:World):(Instr.fieldAt 166 (pV b o) 3).run Xk w=.ok (.pointer (some ⟨b,o+5,none⟩)) w:=by kernel_rfl
theorem CB (b o:Nat)(w:World):(Instr.fieldAt 170 (pV b o) 0).run Xk w=.ok (pV b o) w:=by kernel_rfl
theorem PF (b o:Nat)(w:World):(Instr.fieldAt 170 (pV b o) 1).run Xk w=.ok (.pointer (some ⟨b,o+1,none⟩)) w:=by kernel_rfl
theorem PE (b o:Nat)(w:World):(Instr.fieldAt 213 (pV b o) 0).run Xk w=.ok (pV b o) w:=by kernel_rfl
theorem J3 (b o:Nat)(w:World):(Instr.fieldAt 249 (pV b o) 0).run Xk w=.ok (pV b o) w:=by kernel_rfl
theorem Ga (b o:Nat)(w:World):(Instr.fieldAt 249 (pV b o) 1).run Xk w=.ok (.pointer (some ⟨b,o+2,none⟩)) w:=by kernel_rfl
theorem PC (b o:Nat)(w:World):(Instr.fieldAt 249 (pV b o) 2).run Xk w=.ok (.pointer (some ⟨b,o+3,none⟩)) w:=by kernel_rfl
theorem J2 (b o:Nat)(w:World):(Instr.fieldAt 249 (pV b o) 3).run Xk w=.ok (.pointer (some ⟨b,o+4,none⟩)) w:=by kernel_rfl
theorem wc:iu Xk 3=true:=by kernel_rfl
theorem Ux:iu Xk 4=true:=by kernel_rfl
theorem Vs:iu Xk 9=true:=by kernel_rfl
theorem sj:iu Xk 22=true:=by kernel_rfl
theorem Uz:iu Xk 26=true:=by kernel_rfl
theorem Sy:iu Xk 29=true:=by kernel_rfl
theorem Uy:iu Xk 33=true:=by kernel_rfl
theorem Uw:iu Xk 47=true:=by kernel_rfl
theorem FI:iu Xk 76=true:=by kernel_rfl
theorem Uv:iu Xk 77=true:=by kernel_rfl
theorem K8:iu Xk 119=true:=by kernel_rfl
theorem Tf:iu Xk 122=true:=by kernel_rfl
theorem K7:iu Xk 144=true:=by kernel_rfl
theorem K6:iu Xk 167=true:=by kernel_rfl
theorem Te:iu Xk 168=true:=by kernel_rfl
theorem K5:iu Xk 182=true:=by kernel_rfl
theorem Td:iu Xk 211=true:=by kernel_rfl
theorem Tb:iu Xk 245=true:=by kernel_rfl
theorem Ta:iu Xk 247=true:=by kernel_rfl
instance agg28:FcG Xk 28 3:=⟨by kernel_rfl⟩
instance agg35:FcG Xk 35 4:=⟨by kernel_rfl⟩
instance agg39:FcG Xk 39 3:=⟨by kernel_rfl⟩
instance agg41:FcG Xk 41 11:=⟨by kernel_rfl⟩
instance agg43:FcG Xk 43 19:=⟨by kernel_rfl⟩
instance agg50:FcG Xk 50 13:=⟨by kernel_rfl⟩
instance agg69:FcG Xk 69 7:=⟨by kernel_rfl⟩
instance agg94:FcG Xk 94 6:=⟨by kernel_rfl⟩
instance agg121:FcG Xk 121 2:=⟨by kernel_rfl⟩
instance agg166:FcG Xk 166 6:=⟨by kernel_rfl⟩
instance size3:FcZ Xk 3 1:=⟨by kernel_rfl⟩
instance size4:FcZ Xk 4 1:=⟨by kernel_rfl⟩
instance size22:FcZ Xk 22 1:=⟨by kernel_rfl⟩
instance size28:FcZ Xk 28 3:=⟨by kernel_rfl⟩
instance size33:FcZ Xk 33 1:=⟨by kernel_rfl⟩
instance size35:FcZ Xk 35 4:=⟨by kernel_rfl⟩
instance size39:FcZ Xk 39 3:=⟨by kernel_rfl⟩
instance size41:FcZ Xk 41 11:=⟨by kernel_rfl⟩
instance size43:FcZ Xk 43 19:=⟨by kernel_rfl⟩
instance size47:FcZ Xk 47 1:=⟨by kernel_rfl⟩
instance size50:FcZ Xk 50 13:=⟨by kernel_rfl⟩
instance size94:FcZ Xk 94 6:=⟨by kernel_rfl⟩
instance size119:FcZ Xk 119 1:=⟨by kernel_rfl⟩
instance size121:FcZ Xk 121 2:=⟨by kernel_rfl⟩
instance size144:FcZ Xk 144 1:=⟨by kernel_rfl⟩
instance size166:FcZ Xk 166 6:=⟨by kernel_rfl⟩
instance size167:FcZ Xk 167 1:=⟨by kernel_rfl⟩
instance size182:FcZ Xk 182 1:=⟨by kernel_rfl⟩
instance size211:FcZ Xk 211 1:=⟨by kernel_rfl⟩
instance size245:FcZ Xk 245 1:=⟨by kernel_rfl⟩
instance size278:FcZ Xk 278 0:=⟨by kernel_rfl⟩
instance zero3:FcI Xk 3 (iV 0):=⟨fun w=>by kernel_rfl⟩
instance zero4:FcI Xk 4 (.bool false):=⟨fun w=>by kernel_rfl⟩
instance zero22:FcI Xk 22 (W none 0 0):=⟨fun w=>by kernel_rfl⟩
instance zero28:FcI Xk 28 (.agg #[iV 0,iV 0,.string ⟨#[]⟩]):=⟨fun w=>by kernel_rfl⟩
instance zero35:FcI Xk 35 (.agg #[.bool false,.bool false,W none 0 0,W none 0 0]):=⟨fun w=>by kernel_rfl⟩
instance zero39:FcI Xk 39 (.agg #[iV 0,iV 0,.string ⟨#[]⟩]):=⟨fun w=>by kernel_rfl⟩
instance zero41:FcI Xk 41 (.agg #[iV 0,iV 0,iV 0,iV 0,.string ⟨#[]⟩,iV 0,iV 0,.string ⟨#[]⟩,iV 0,iV 0,.string ⟨#[]⟩]):=⟨fun w=>by kernel_rfl⟩
instance zero43:FcI Xk 43 (.agg #[iV 0,iV 0,iV 0,iV 0,.string ⟨#[]⟩,iV 0,iV 0,iV 0,iV 0,.string ⟨#[]⟩,iV 0,iV 0,.string ⟨#[]⟩,iV 0,iV 0,.string ⟨#[]⟩,iV 0,iV 0,.string ⟨#[]⟩]):=⟨fun w=>by kernel_rfl⟩
instance zero47:FcI Xk 47 (W none 0 0):=⟨fun w=>by kernel_rfl⟩
instance zero50:FcI Xk 50 (.agg #[iV 0,iV 0,.string ⟨#[]⟩,iV 0,iV 0,iV 0,.string ⟨#[]⟩,iV 0,iV 0,.string ⟨#[]⟩,iV 0,iV 0,.string ⟨#[]⟩]):=⟨fun w=>by kernel_rfl⟩
instance zero94:FcI Xk 94 (.agg #[iV 0,iV 0,iV 0,iV 0,W none 0 0,W none 0 0]):=⟨fun w=>by kernel_rfl⟩
instance zero121:FcI Xk 121 (.agg #[W none 0 0,W none 0 0]):=⟨fun w=>by kernel_rfl⟩
instance zero144:FcI Xk 144 (W none 0 0):=⟨fun w=>by kernel_rfl⟩
instance zero166:FcI Xk 166 (.agg #[iV 0,iV 0,iV 0,.string ⟨#[]⟩,iV 0,iV 0]):=⟨fun w=>by kernel_rfl⟩
instance zero182:FcI Xk 182 (.map none):=⟨fun w=>by kernel_rfl⟩
instance zero211:FcI Xk 211 (.map none):=⟨fun w=>by kernel_rfl⟩
instance zero245:FcI Xk 245 (.pointer none):=⟨fun w=>by kernel_rfl⟩
instance zero278:FcI Xk 278 (.agg #[]):=⟨fun w=>by kernel_rfl⟩
theorem PA (x0_ x1_ x2_ x3_:Int)(x4_a:Option Addr)(x4_n x4_c:Nat)(x5_a:Option Addr)(x5_n x5_c:Nat)(w:World):(Instr.field 94 (.agg #[iV x0_,iV x1_,iV x2_,iV x3_,.slice x4_a x4_n x4_c,.slice x5_a x5_n x5_c]) 0).run Xk w=.ok (iV x0_) w:=by kernel_rfl
instance bld_28_:FcB Xk 28 [] (.agg #[iV 0,iV 0,.string ⟨#[]⟩]):=⟨fun w=>by kernel_rfl⟩
instance bld_28_0 (x0_:Int):FcB Xk 28 [(0,iV x0_)] (.agg #[iV x0_,iV 0,.string ⟨#[]⟩]):=⟨fun w=>by kernel_rfl⟩
instance bld_28_0_1 (x0_ x1_:Int):FcB Xk 28 [(0,iV x0_),(1,iV x1_)] (.agg #[iV x0_,iV x1_,.string ⟨#[]⟩]):=⟨fun w=>by kernel_rfl⟩
instance bld_35_0_2 (x0_:Bool)(x2_a:Option Addr)(x2_n x2_c:Nat):FcB Xk 35 [(0,.bool x0_),(2,.slice x2_a x2_n x2_c)] (.agg #[.bool x0_,.bool false,.slice x2_a x2_n x2_c,W none 0 0]):=⟨fun w=>by kernel_rfl⟩
instance bld_39_0_1 (x0_ x1_:Int):FcB Xk 39 [(0,iV x0_),(1,iV x1_)] (.agg #[iV x0_,iV x1_,.string ⟨#[]⟩]):=⟨fun w=>by kernel_rfl⟩
instance bld_39_0_2 (x0_:Int)(x2_:ByteArray):FcB Xk 39 [(0,iV x0_),(2,.string x2_)] (.agg #[iV x0_,iV 0,.string x2_]):=⟨fun w=>by kernel_rfl⟩
instance bld_39_1 (x1_:Int):FcB Xk 39 [(1,iV x1_)] (.agg #[iV 0,iV x1_,.string ⟨#[]⟩]):=⟨fun w=>by kernel_rfl⟩
instance bld_41_0_1_2 (x0_ x1_ x2_0_ x2_1_:Int)(x2_2_:ByteArray):FcB Xk 41 [(0,iV x0_),(1,iV x1_),(2,.agg #[iV x2_0_,iV x2_1_,.string x2_2_])] (.agg #[iV x0_,iV x1_,iV x2_0_,iV x2_1_,.string x2_2_,iV 0,iV 0,.string ⟨#[]⟩,iV 0,iV 0,.string ⟨#[]⟩]):=⟨fun w=>by kernel_rfl⟩
instance bld_41_0_1_3_4 (x0_ x1_ x3_0_ x3_1_:Int)(x3_2_:ByteArray)(x4_0_ x4_1_:Int)(x4_2_:ByteArray):FcB Xk 41 [(0,iV x0_),(1,iV x1_),(3,.agg #[iV x3_0_,iV x3_1_,.string x3_2_]),(4,.agg #[iV x4_0_,iV x4_1_,.string x4_2_])] (.agg #[iV x0_,iV x1_,iV 0,iV 0,.string ⟨#[]⟩,iV x3_0_,iV x3_1_,.string x3_2_,iV x4_0_,iV x4_1_,.string x4_2_]):=⟨fun w=>by kernel_rfl⟩
instance bld_50_:FcB Xk 50 [] (.agg #[iV 0,iV 0,.string ⟨#[]⟩,iV 0,iV 0,iV 0,.string ⟨#[]⟩,iV 0,iV 0,.string ⟨#[]⟩,iV 0,iV 0,.string ⟨#[]⟩]):=⟨fun w=>by kernel_rfl⟩
instance bld_50_0 (x0_0_ x0_1_:Int)(x0_2_:ByteArray):FcB Xk 50 [(0,.agg #[iV x0_0_,iV x0_1_,.string x0_2_])] (.agg #[iV x0_0_,iV x0_1_,.string x0_2_,iV 0,iV 0,iV 0,.string ⟨#[]⟩,iV 0,iV 0,.string ⟨#[]⟩,iV 0,iV 0,.string ⟨#[]⟩]):=⟨fun w=>by kernel_rfl⟩
instance bld_50_0_1 (x0_0_ x0_1_:Int)(x0_2_:ByteArray)(x1_:Int):FcB Xk 50 [(0,.agg #[iV x0_0_,iV x0_1_,.string x0_2_]),(1,iV x1_)] (.agg #[iV x0_0_,iV x0_1_,.string x0_2_,iV x1_,iV 0,iV 0,.string ⟨#[]⟩,iV 0,iV 0,.string ⟨#[]⟩,iV 0,iV 0,.string ⟨#[]⟩]):=⟨fun w=>by kernel_rfl⟩
instance bld_50_0_1_2 (x0_0_ x0_1_:Int)(x0_2_:ByteArray)(x1_ x2_0_ x2_1_:Int)(x2_2_:ByteArray):FcB Xk 50 [(0,.agg #[iV x0_0_,iV x0_1_,.string x0_2_]),(1,iV x1_),(2,.agg #[iV x2_0_,iV x2_1_,.string x2_2_])] (.agg #[iV x0_0_,iV x0_1_,.string x0_2_,iV x1_,iV x2_0_,iV x2_1_,.string x2_2_,iV 0,iV 0,.string ⟨#[]⟩,iV 0,iV 0,.string ⟨#[]⟩]):=⟨fun w=>by kernel_rfl⟩
instance bld_50_0_2 (x0_0_ x0_1_:Int)(x0_2_:ByteArray)(x2_0_ x2_1_:Int)(x2_2_:ByteArray):FcB Xk 50 [(0,.agg #[iV x0_0_,iV x0_1_,.string x0_2_]),(2,.agg #[iV x2_0_,iV x2_1_,.string x2_2_])] (.agg #[iV x0_0_,iV x0_1_,.string x0_2_,iV 0,iV x2_0_,iV x2_1_,.string x2_2_,iV 0,iV 0,.string ⟨#[]⟩,iV 0,iV 0,.string ⟨#[]⟩]):=⟨fun w=>by kernel_rfl⟩
instance bld_69_1_2_3 (x1_ x2_ x3_:Int):FcB Xk 69 [(1,iV x1_),(2,iV x2_),(3,iV x3_)] (.agg #[iV 0,iV x1_,iV x2_,iV x3_,iV 0,iV 0,iV 0]):=⟨fun w=>by kernel_rfl⟩
instance bld_81_1_3_4 (x1_0_ x1_1_ x1_2_ x1_3_ x1_4_ x1_5_ x1_6_:Int)(x3_ x4_:Option Addr):FcB Xk 81 [(1,.agg #[iV x1_0_,iV x1_1_,iV x1_2_,iV x1_3_,iV x1_4_,iV x1_5_,iV x1_6_]),(3,.pointer x3_),(4,.pointer x4_)] (.agg #[iV 0,iV 0,iV 0,iV x1_0_,iV x1_1_,iV x1_2_,iV x1_3_,iV x1_4_,iV x1_5_,iV x1_6_,.nilIface,.pointer x3_,.pointer x4_,W none 0 0,iV 0,iV 0,iV 0,W none 0 0,W none 0 0]):=⟨fun w=>by kernel_rfl⟩
instance bld_94_:FcB Xk 94 [] (.agg #[iV 0,iV 0,iV 0,iV 0,W none 0 0,W none 0 0]):=⟨fun w=>by kernel_rfl⟩
instance bld_94_0 (x0_:Int):FcB Xk 94 [(0,iV x0_)] (.agg #[iV x0_,iV 0,iV 0,iV 0,W none 0 0,W none 0 0]):=⟨fun w=>by kernel_rfl⟩
instance bld_94_0_2_4 (x0_ x2_:Int)(x4_a:Option Addr)(x4_n x4_c:Nat):FcB Xk 94 [(0,iV x0_),(2,iV x2_),(4,.slice x4_a x4_n x4_c)] (.agg #[iV x0_,iV 0,iV x2_,iV 0,.slice x4_a x4_n x4_c,W none 0 0]):=⟨fun w=>by kernel_rfl⟩
instance bld_94_0_2_4_5 (x0_ x2_:Int)(x4_a:Option Addr)(x4_n x4_c:Nat)(x5_a:Option Addr)(x5_n x5_c:Nat):FcB Xk 94 [(0,iV x0_),(2,iV x2_),(4,.slice x4_a x4_n x4_c),(5,.slice x5_a x5_n x5_c)] (.agg #[iV x0_,iV 0,iV x2_,iV 0,.slice x4_a x4_n x4_c,.slice x5_a x5_n x5_c]):=⟨fun w=>by kernel_rfl⟩
instance bld_94_0_4 (x0_:Int)(x4_a:Option Addr)(x4_n x4_c:Nat):FcB Xk 94 [(0,iV x0_),(4,.slice x4_a x4_n x4_c)] (.agg #[iV x0_,iV 0,iV 0,iV 0,.slice x4_a x4_n x4_c,W none 0 0]):=⟨fun w=>by kernel_rfl⟩
instance bld_121_:FcB Xk 121 [] (.agg #[W none 0 0,W none 0 0]):=⟨fun w=>by kernel_rfl⟩
instance bld_124_3 (x3_:Option Addr):FcB Xk 124 [(3,.pointer x3_)] (.agg #[W none 0 0,W none 0 0,W none 0 0,W none 0 0,.pointer x3_]):=⟨fun w=>by kernel_rfl⟩
instance bld_135_0_1_2 (x0_0_ x0_1_ x0_2_ x0_3_:Int)(x0_4_a:Option Addr)(x0_4_n x0_4_c:Nat)(x0_5_a:Option Addr)(x0_5_n x0_5_c:Nat)(x1_:Option Addr)(x2_0_ x2_1_:Int)(x2_2_:ByteArray):FcB Xk 135 [(0,.agg #[iV x0_0_,iV x0_1_,iV x0_2_,iV x0_3_,.slice x0_4_a x0_4_n x0_4_c,.slice x0_5_a x0_5_n x0_5_c]),(1,.pointer x1_),(2,.agg #[iV x2_0_,iV x2_1_,.string x2_2_])] (.agg #[iV x0_0_,iV x0_1_,iV x0_2_,iV x0_3_,.slice x0_4_a x0_4_n x0_4_c,.slice x0_5_a x0_5_n x0_5_c,.pointer x1_,iV x2_0_,iV x2_1_,.string x2_2_]):=⟨fun w=>by kernel_rfl⟩
instance bld_166_:FcB Xk 166 [] (.agg #[iV 0,iV 0,iV 0,.string ⟨#[]⟩,iV 0,iV 0]):=⟨fun w=>by kernel_rfl⟩
instance bld_166_0 (x0_:Int):FcB Xk 166 [(0,iV x0_)] (.agg #[iV x0_,iV 0,iV 0,.string ⟨#[]⟩,iV 0,iV 0]):=⟨fun w=>by kernel_rfl⟩
instance bld_166_0_1_2_3 (x0_ x1_0_ x1_1_:Int)(x1_2_:ByteArray)(x2_ x3_:Int):FcB Xk 166 [(0,iV x0_),(1,.agg #[iV x1_0_,iV x1_1_,.string x1_2_]),(2,iV x2_),(3,iV x3_)] (.agg #[iV x0_,iV x1_0_,iV x1_1_,.string x1_2_,iV x2_,iV x3_]):=⟨fun w=>by kernel_rfl⟩
instance bld_166_1_2 (x1_0_ x1_1_:Int)(x1_2_:ByteArray)(x2_:Int):FcB Xk 166 [(1,.agg #[iV x1_0_,iV x1_1_,.string x1_2_]),(2,iV x2_)] (.agg #[iV 0,iV x1_0_,iV x1_1_,.string x1_2_,iV x2_,iV 0]):=⟨fun w=>by kernel_rfl⟩
instance bld_170_0_1 (x0_a:Option Addr)(x0_n x0_c:Nat)(x1_:Option Nat):FcB Xk 170 [(0,.slice x0_a x0_n x0_c),(1,.map x1_)] (.agg #[.slice x0_a x0_n x0_c,.map x1_]):=⟨fun w=>by kernel_rfl⟩
instance bld_213_0 (x0_:Option Nat):FcB Xk 213 [(0,.map x0_)] (.agg #[.map x0_]):=⟨fun w=>by kernel_rfl⟩
instance bld_233_0_1_2 (x0_ x1_0_ x1_1_:Int)(x1_2_:ByteArray)(x2_:Int):FcB Xk 233 [(0,iV x0_),(1,.agg #[iV x1_0_,iV x1_1_,.string x1_2_]),(2,iV x2_)] (.agg #[iV x0_,iV x1_0_,iV x1_1_,.string x1_2_,iV x2_]):=⟨fun w=>by kernel_rfl⟩
instance bld_249_0_2 (x0_0_a:Option Addr)(x0_0_n x0_0_c:Nat)(x0_1_a:Option Addr)(x0_1_n x0_1_c:Nat)(x2_:Option Nat):FcB Xk 249 [(0,.agg #[.slice x0_0_a x0_0_n x0_0_c,.slice x0_1_a x0_1_n x0_1_c]),(2,.map x2_)] (.agg #[.slice x0_0_a x0_0_n x0_0_c,.slice x0_1_a x0_1_n x0_1_c,W none 0 0,.map x2_,iV 0]):=⟨fun w=>by kernel_rfl⟩
instance bld_278_:FcB Xk 278 [] (.agg #[]):=⟨fun w=>by kernel_rfl⟩
theorem zb (w:World):(Instr.buildSlice 22 0 #[]).run Xk w=.ok (.slice (some ⟨w.heap.size,0,none⟩) 0 0) (w.alloc (.cells #[] 28)):=by kernel_rfl
theorem jy (x0_0_ x0_1_:Int)(x0_2_:ByteArray)(w:World):(Instr.buildSlice 22 1 #[(0,.agg #[iV x0_0_,iV x0_1_,.string x0_2_])]).run Xk w=.ok (.slice (some ⟨w.heap.size,0,none⟩) 1 1) (w.alloc (.cells #[iV x0_0_,iV x0_1_,.string x0_2_] 28)):=by kernel_rfl
theorem Kj (x0_0_ x0_1_:Int)(x0_2_:ByteArray)(x1_0_ x1_1_:Int)(x1_2_:ByteArray)(w:World):(Instr.buildSlice 22 2 #[(0,.agg #[iV x0_0_,iV x0_1_,.string x0_2_]),(1,.agg #[iV x1_0_,iV x1_1_,.string x1_2_])]).run Xk w=.ok (.slice (some ⟨w.heap.size,0,none⟩) 2 2) (w.alloc (.cells #[iV x0_0_,iV x0_1_,.string x0_2_,iV x1_0_,iV x1_1_,.string x1_2_] 28)):=by kernel_rfl
theorem CL (x0_0_ x0_1_:Int)(x0_2_:ByteArray)(x1_0_ x1_1_:Int)(x1_2_:ByteArray)(x2_0_ x2_1_:Int)(x2_2_:ByteArray)(w:World):(Instr.buildSlice 22 3 #[(0,.agg #[iV x0_0_,iV x0_1_,.string x0_2_]),(1,.agg #[iV x1_0_,iV x1_1_,.string x1_2_]),(2,.agg #[iV x2_0_,iV x2_1_,.string x2_2_])]).run Xk w=.ok (.slice (some ⟨w.heap.size,0,none⟩) 3 3) (w.alloc (.cells #[iV x0_0_,iV x0_1_,.string x0_2_,iV x1_0_,iV x1_1_,.string x1_2_,iV x2_0_,iV x2_1_,.string x2_2_] 28)):=by kernel_rfl
theorem Qb (x0_0_ x0_1_:Int)(x0_2_:ByteArray)(x1_0_ x1_1_:Int)(x1_2_:ByteArray)(x2_0_ x2_1_:Int)(x2_2_:ByteArray)(x3_0_ x3_1_:Int)(x3_2_:ByteArray)(w:World):(Instr.buildSlice 22 4 #[(0,.agg #[iV x0_0_,iV x0_1_,.string x0_2_]),(1,.agg #[iV x1_0_,iV x1_1_,.string x1_2_]),(2,.agg #[iV x2_0_,iV x2_1_,.string x2_2_]),(3,.agg #[iV x3_0_,iV x3_1_,.string x3_2_])]).run Xk w=.ok (.slice (some ⟨w.heap.size,0,none⟩) 4 4) (w.alloc (.cells #[iV x0_0_,iV x0_1_,.string x0_2_,iV x1_0_,iV x1_1_,.string x1_2_,iV x2_0_,iV x2_1_,.string x2_2_,iV x3_0_,iV x3_1_,.string x3_2_] 28)):=by kernel_rfl
theorem Ki (w:World):(Instr.buildSlice 33 0 #[]).run Xk w=.ok (.slice (some ⟨w.heap.size,0,none⟩) 0 0) (w.alloc (.cells #[] 50)):=by kernel_rfl
theorem Gu (x0_0_0_ x0_0_1_:Int)(x0_0_2_:ByteArray)(x0_1_ x0_2_0_ x0_2_1_:Int)(x0_2_2_:ByteArray)(x0_3_0_ x0_3_1_:Int)(x0_3_2_:ByteArray)(x0_4_0_ x0_4_1_:Int)(x0_4_2_:ByteArray)(w:World):(Instr.buildSlice 33 1 #[(0,.agg #[iV x0_0_0_,iV x0_0_1_,.string x0_0_2_,iV x0_1_,iV x0_2_0_,iV x0_2_1_,.string x0_2_2_,iV x0_3_0_,iV x0_3_1_,.string x0_3_2_,iV x0_4_0_,iV x0_4_1_,.string x0_4_2_])]).run Xk w=.ok (.slice (some ⟨w.heap.size,0,none⟩) 1 1) (w.alloc (.cells #[iV x0_0_0_,iV x0_0_1_,.string x0_0_2_,iV x0_1_,iV x0_2_0_,iV x0_2_1_,.string x0_2_2_,iV x0_3_0_,iV x0_3_1_,.string x0_3_2_,iV x0_4_0_,iV x0_4_1_,.string x0_4_2_] 50)):=by kernel_rfl
theorem CK (w:World):(Instr.buildSlice 47 0 #[]).run Xk w=.ok (.slice (some ⟨w.heap.size,0,none⟩) 0 0) (w.alloc (.cells #[] 39)):=by kernel_rfl
theorem iJ (x0_0_ x0_1_:Int)(x0_2_:ByteArray)(w:World):(Instr.buildSlice 47 1 #[(0,.agg #[iV x0_0_,iV x0_1_,.string x0_2_])]).run Xk w=.ok (.slice (some ⟨w.heap.size,0,none⟩) 1 1) (w.alloc (.cells #[iV x0_0_,iV x0_1_,.string x0_2_] 39)):=by kernel_rfl
theorem Qa (x0_0_ x0_1_:Int)(x0_2_:ByteArray)(x1_0_ x1_1_:Int)(x1_2_:ByteArray)(w:World):(Instr.buildSlice 47 2 #[(0,.agg #[iV x0_0_,iV x0_1_,.string x0_2_]),(1,.agg #[iV x1_0_,iV x1_1_,.string x1_2_])]).run Xk w=.ok (.slice (some ⟨w.heap.size,0,none⟩) 2 2) (w.alloc (.cells #[iV x0_0_,iV x0_1_,.string x0_2_,iV x1_0_,iV x1_1_,.string x1_2_] 39)):=by kernel_rfl
theorem P9 (x0_0_ x0_1_:Int)(x0_2_:ByteArray)(x1_0_ x1_1_:Int)(x1_2_:ByteArray)(x2_0_ x2_1_:Int)(x2_2_:ByteArray)(w:World):(Instr.buildSlice 47 3 #[(0,.agg #[iV x0_0_,iV x0_1_,.string x0_2_]),(1,.agg #[iV x1_0_,iV x1_1_,.string x1_2_]),(2,.agg #[iV x2_0_,iV x2_1_,.string x2_2_])]).run Xk w=.ok (.slice (some ⟨w.heap.size,0,none⟩) 3 3) (w.alloc (.cells #[iV x0_0_,iV x0_1_,.string x0_2_,iV x1_0_,iV x1_1_,.string x1_2_,iV x2_0_,iV x2_1_,.string x2_2_] 39)):=by kernel_rfl
theorem HZ (x0_0_ x0_1_ x0_2_ x0_3_:Int)(x0_4_a:Option Addr)(x0_4_n x0_4_c:Nat)(x0_5_a:Option Addr)(x0_5_n x0_5_c:Nat)(w:World):(Instr.buildSlice 119 1 #[(0,.agg #[iV x0_0_,iV x0_1_,iV x0_2_,iV x0_3_,.slice x0_4_a x0_4_n x0_4_c,.slice x0_5_a x0_5_n x0_5_c])]).run Xk w=.ok (.slice (some ⟨w.heap.size,0,none⟩) 1 1) (w.alloc (.cells #[iV x0_0_,iV x0_1_,iV x0_2_,iV x0_3_,.slice x0_4_a x0_4_n x0_4_c,.slice x0_5_a x0_5_n x0_5_c] 94)):=by kernel_rfl
theorem rI (x0_:Int)(w:World):(Instr.buildSlice 144 1 #[(0,iV x0_)]).run Xk w=.ok (.slice (some ⟨w.heap.size,0,none⟩) 1 1) (w.alloc (.cells #[iV x0_] 3)):=by kernel_rfl
theorem Oo (x0_ x1_:Int)(w:World):(Instr.buildSlice 144 2 #[(0,iV x0_),(1,iV x1_)]).run Xk w=.ok (.slice (some ⟨w.heap.size,0,none⟩) 2 2) (w.alloc (.cells #[iV x0_,iV x1_] 3)):=by kernel_rfl
theorem Dy (x0_0_ x0_1_0_ x0_1_1_:Int)(x0_1_2_:ByteArray)(x0_2_ x0_3_:Int)(w:World):(Instr.buildSlice 167 1 #[(0,.agg #[iV x0_0_,iV x0_1_0_,iV x0_1_1_,.string x0_1_2_,iV x0_2_,iV x0_3_])]).run Xk w=.ok (.slice (some ⟨w.heap.size,0,none⟩) 1 1) (w.alloc (.cells #[iV x0_0_,iV x0_1_0_,iV x0_1_1_,.string x0_1_2_,iV x0_2_,iV x0_3_] 166)):=by kernel_rfl
theorem zK (x0_a:Option Addr)(x0_n x0_c:Nat)(x1_a:Option Addr)(x1_n x1_c:Nat)(w:World):(Instr.buildSlice 216 2 #[(0,.slice x0_a x0_n x0_c),(1,.slice x1_a x1_n x1_c)]).run Xk w=.ok (.slice (some ⟨w.heap.size,0,none⟩) 2 2) (w.alloc (.cells #[.slice x0_a x0_n x0_c,.slice x1_a x1_n x1_c] 22)):=by kernel_rfl
theorem On (x0_a:Option Addr)(x0_n x0_c:Nat)(x1_a:Option Addr)(x1_n x1_c:Nat)(w:World):(Instr.buildSlice 218 2 #[(0,.slice x0_a x0_n x0_c),(1,.slice x1_a x1_n x1_c)]).run Xk w=.ok (.slice (some ⟨w.heap.size,0,none⟩) 2 2) (w.alloc (.cells #[.slice x0_a x0_n x0_c,.slice x1_a x1_n x1_c] 119)):=by kernel_rfl
theorem Sn:rZ Xk 3 1 8=true:=by kernel_rfl
theorem sw:rZ Xk 28 3 32=true:=by kernel_rfl
theorem tT:rZ Xk 39 3 32=true:=by kernel_rfl
theorem Qy:rZ Xk 50 13 136=true:=by kernel_rfl
theorem Ud:rZ Xk 94 6 80=true:=by kernel_rfl
theorem Ue:rZ Xk 166 6 56=true:=by kernel_rfl
instance:Fc (iu Xk 3=true):=⟨wc⟩
instance:Fc (iu Xk 4=true):=⟨Ux⟩
instance:Fc (iu Xk 9=true):=⟨Vs⟩
instance:Fc (iu Xk 22=true):=⟨sj⟩
instance:Fc (iu Xk 26=true):=⟨Uz⟩
instance:Fc (iu Xk 29=true):=⟨Sy⟩
instance:Fc (iu Xk 33=true):=⟨Uy⟩
instance:Fc (iu Xk 47=true):=⟨Uw⟩
instance:Fc (iu Xk 76=true):=⟨FI⟩
instance:Fc (iu Xk 77=true):=⟨Uv⟩
instance:Fc (iu Xk 119=true):=⟨K8⟩
instance:Fc (iu Xk 122=true):=⟨Tf⟩
instance:Fc (iu Xk 144=true):=⟨K7⟩
instance:Fc (iu Xk 167=true):=⟨K6⟩
instance:Fc (iu Xk 168=true):=⟨Te⟩
instance:Fc (iu Xk 182=true):=⟨K5⟩
instance:Fc (iu Xk 211=true):=⟨Td⟩
instance:Fc (iu Xk 245=true):=⟨Tb⟩
instance:Fc (iu Xk 247=true):=⟨Ta⟩
instance:FcA0 Xk 28 0:=⟨rT⟩
instance:FcA Xk 28 1 1:=⟨MG⟩
instance:FcA Xk 28 2 2:=⟨R4⟩
instance:FcA0 Xk 35 0:=⟨MF⟩
instance:FcA Xk 35 1 1:=⟨R3⟩
instance:FcA Xk 35 2 2:=⟨EL⟩
instance:FcA Xk 35 3 3:=⟨R2⟩
instance:FcA0 Xk 39 0:=⟨EK⟩
instance:FcA Xk 39 1 1:=⟨xd⟩
instance:FcA Xk 39 2 2:=⟨R1⟩
instance:FcA0 Xk 41 0:=⟨R0⟩
instance:FcA Xk 41 1 1:=⟨ME⟩
instance:FcA Xk 41 2 2:=⟨RZ⟩
instance:FcA Xk 41 3 5:=⟨RY⟩
instance:FcA Xk 41 4 8:=⟨MD⟩
instance:FcA0 Xk 43 0:=⟨RX⟩
instance:FcA Xk 43 1 1:=⟨RW⟩
instance:FcA Xk 43 2 2:=⟨MC⟩
instance:FcA Xk 43 3 5:=⟨RV⟩
instance:FcA Xk 43 4 16:=⟨RU⟩
instance:FcA0 Xk 50 0:=⟨EJ⟩
instance:FcA Xk 50 1 3:=⟨MB⟩
instance:FcA Xk 50 2 4:=⟨RT⟩
instance:FcA Xk 50 3 7:=⟨RS⟩
instance:FcA Xk 50 4 10:=⟨RR⟩
instance:FcA0 Xk 69 0:=⟨RQ⟩
instance:FcA Xk 69 1 1:=⟨RP⟩
instance:FcA Xk 69 2 2:=⟨RO⟩
instance:FcA Xk 69 3 3:=⟨RN⟩
instance:FcA Xk 69 4 4:=⟨RM⟩
instance:FcA Xk 69 5 5:=⟨RL⟩
instance:FcA Xk 69 6 6:=⟨RJ⟩
instance:FcA Xk 73 1 1:=⟨RI⟩
instance:FcA0 Xk 81 0:=⟨RH⟩
instance:FcA Xk 81 1 3:=⟨RG⟩
instance:FcA Xk 81 3 11:=⟨RF⟩
instance:FcA Xk 81 4 12:=⟨RE⟩
instance:FcA Xk 81 6 14:=⟨RD⟩
instance:FcA0 Xk 94 0:=⟨RC⟩
instance:FcA Xk 94 1 1:=⟨Rz⟩
instance:FcA Xk 94 2 2:=⟨MA⟩
instance:FcA Xk 94 3 3:=⟨tu⟩
instance:FcA Xk 94 4 4:=⟨IP⟩
instance:FcA Xk 94 5 5:=⟨xc⟩
instance:FcA0 Xk 121 0:=⟨Gg⟩
instance:FcA Xk 121 1 1:=⟨PJ⟩
instance:FcA0 Xk 124 0:=⟨Gf⟩
instance:FcA Xk 124 1 2:=⟨Ge⟩
instance:FcA Xk 124 2 3:=⟨PI⟩
instance:FcA Xk 124 3 4:=⟨PH⟩
instance:FcA0 Xk 135 0:=⟨J5⟩
instance:FcA Xk 135 1 6:=⟨J4⟩
instance:FcA Xk 135 2 7:=⟨PG⟩
instance:FcA0 Xk 166 0:=⟨Gd⟩
instance:FcA Xk 166 1 1:=⟨Gc⟩
instance:FcA Xk 166 2 4:=⟨CC⟩
instance:FcA Xk 166 3 5:=⟨Gb⟩
instance:FcA0 Xk 170 0:=⟨CB⟩
instance:FcA Xk 170 1 1:=⟨PF⟩
instance:FcA0 Xk 213 0:=⟨PE⟩
instance:FcA0 Xk 249 0:=⟨J3⟩
instance:FcA Xk 249 1 2:=⟨Ga⟩
instance:FcA Xk 249 2 3:=⟨PC⟩
instance:FcA Xk 249 3 4:=⟨J2⟩
theorem HH:Tryz.prog.eqGuardType Tryz.prog.depth 28=false:=by kernel_rfl
theorem MJ (x y:WZ)(w:World):(Op.equalIn 10000 28 (.agg #[iV x.Zh,iV x.N,.string x.S]) (.agg #[iV y.Zh,iV y.N,.string y.S])).run Xk w=.ok (decide (x=y)) w:=by
 obtain ⟨xKind,xN,xS⟩:=x;obtain ⟨yKind,yN,yS⟩:=y;show (Op.equalIn 10000 28 (.agg #[iV xKind,iV xN,.string xS]) (.agg #[iV yKind,iV yN,.string yS])).run Xk w=_
 go_simp
 simp only [oY];by_cases h0:xKind=yKind<;>by_cases h1:xN=yN<;>by_cases h2:xS=yS<;>simp [h0,h1,h2]
theorem wq {a b:Operand}{x y:WZ}(hx:bv s a=some (.agg #[iV x.Zh,iV x.N,.string x.S]))(hy:bv s b=some (.agg #[iV y.Zh,iV y.N,.string y.S])):Ev Xk s C ⟨d,.binOp .eql 28 a b u,ty,pos,af,gd⟩ (.bool (decide (x=y))):=
 eZ hx hy fun w=>by
  rw [Y3,run_eqGuard_agg w _ _ _ _ _ _ HH];simp only [Y0];rw [run_eql_struct,MJ];rfl
theorem zI {a b:Operand}{x y:WZ}(hx:bv s a=some (.agg #[iV x.Zh,iV x.N,.string x.S]))(hy:bv s b=some (.agg #[iV y.Zh,iV y.N,.string y.S])):Ev Xk s C ⟨d,.binOp .neq 28 a b u,ty,pos,af,gd⟩ (.bool (!decide (x=y))):=
 eZ hx hy fun w=>by
  rw [Y3,run_eqGuard_agg w _ _ _ _ _ _ HH];simp only [Y0];rw [run_neq_struct,MJ];rfl
theorem HG:Tryz.prog.eqGuardType Tryz.prog.depth 39=false:=by kernel_rfl
theorem MI (x y:WX)(w:World):(Op.equalIn 10000 39 (.agg #[iV x.Zh,iV x.N,.string x.S]) (.agg #[iV y.Zh,iV y.N,.string y.S])).run Xk w=.ok (decide (x=y)) w:=by
 obtain ⟨xKind,xN,xS⟩:=x;obtain ⟨yKind,yN,yS⟩:=y;show (Op.equalIn 10000 39 (.agg #[iV xKind,iV xN,.string xS]) (.agg #[iV yKind,iV yN,.string yS])).run Xk w=_
 go_simp
 simp only [oY];by_cases h0:xKind=yKind<;>by_cases h1:xN=yN<;>by_cases h2:xS=yS<;>simp [h0,h1,h2]
theorem wp {a b:Operand}{x y:WX}(hx:bv s a=some (.agg #[iV x.Zh,iV x.N,.string x.S]))(hy:bv s b=some (.agg #[iV y.Zh,iV y.N,.string y.S])):Ev Xk s C ⟨d,.binOp .eql 39 a b u,ty,pos,af,gd⟩ (.bool (decide (x=y))):=
 eZ hx hy fun w=>by
  rw [Y3,run_eqGuard_agg w _ _ _ _ _ _ HG];simp only [Y0];rw [run_eql_struct,MI];rfl
theorem HL {a b:Operand}{x y:WX}(hx:bv s a=some (.agg #[iV x.Zh,iV x.N,.string x.S]))(hy:bv s b=some (.agg #[iV y.Zh,iV y.N,.string y.S])):Ev Xk s C ⟨d,.binOp .neq 39 a b u,ty,pos,af,gd⟩ (.bool (!decide (x=y))):=
 eZ hx hy fun w=>by
  rw [Y3,run_eqGuard_agg w _ _ _ _ _ _ HG];simp only [Y0];rw [run_neq_struct,MI];rfl
theorem N5:Tryz.prog.eqGuardType Tryz.prog.depth 50=false:=by kernel_rfl
theorem R7 (x y:WS)(w:World):(Op.equalIn 10000 50 ((cm x)) ((cm y))).run Xk w=.ok (decide (x=y)) w:=by
 obtain ⟨⟨xKeyKind,xKeyN,xKeyS⟩,xAttrs,⟨xValueKind,xValueN,xValueS⟩,⟨xGetKind,xGetN,xGetS⟩,⟨xSetKind,xSetN,xSetS⟩⟩:=x;obtain ⟨⟨yKeyKind,yKeyN,yKeyS⟩,yAttrs,⟨yValueKind,yValueN,yValueS⟩,⟨yGetKind,yGetN,yGetS⟩,⟨ySetKind,ySetN,ySetS⟩⟩:=y;show (Op.equalIn 10000 50 (.agg #[iV xKeyKind,iV xKeyN,.string xKeyS,iV xAttrs,iV xValueKind,iV xValueN,.string xValueS,iV xGetKind,iV xGetN,.string xGetS,iV xSetKind,iV xSetN,.string xSetS]) (.agg #[iV yKeyKind,iV yKeyN,.string yKeyS,iV yAttrs,iV yValueKind,iV yValueN,.string yValueS,iV yGetKind,iV yGetN,.string yGetS,iV ySetKind,iV ySetN,.string ySetS])).run Xk w=_
 go_simp
 simp only [oY];by_cases h0:xKeyKind=yKeyKind
 rotate_left
 ·simp [h0]
 by_cases h1:xKeyN=yKeyN
 rotate_left
 ·simp [h0,h1]
 by_cases h2:xKeyS=yKeyS
 rotate_left
 ·simp [h0,h1,h2]
 by_cases h3:xAttrs=yAttrs
 rotate_left
 ·simp [h0,h1,h2,h3]
 by_cases h4:xValueKind=yValueKind
 rotate_left
 ·simp [h0,h1,h2,h3,h4]
 by_cases h5:xValueN=yValueN
 rotate_left
 ·simp [h0,h1,h2,h3,h4,h5]
 by_cases h6:xValueS=yValueS
 rotate_left
 ·simp [h0,h1,h2,h3,h4,h5,h6]
 by_cases h7:xGetKind=yGetKind
 rotate_left
 ·simp [h0,h1,h2,h3,h4,h5,h6,h7]
 by_cases h8:xGetN=yGetN
 rotate_left
 ·simp [h0,h1,h2,h3,h4,h5,h6,h7,h8]
 by_cases h9:xGetS=yGetS
 rotate_left
 ·simp [h0,h1,h2,h3,h4,h5,h6,h7,h8,h9]
 by_cases h10:xSetKind=ySetKind
 rotate_left
 ·simp [h0,h1,h2,h3,h4,h5,h6,h7,h8,h9,h10]
 by_cases h11:xSetN=ySetN
 rotate_left
 ·simp [h0,h1,h2,h3,h4,h5,h6,h7,h8,h9,h10,h11]
 by_cases h12:xSetS=ySetS
 rotate_left
 ·simp [h0,h1,h2,h3,h4,h5,h6,h7,h8,h9,h10,h11,h12]
 simp [h0,h1,h2,h3,h4,h5,h6,h7,h8,h9,h10,h11,h12]
theorem Ob {a b:Operand}{x y:WS}(hx:bv s a=some ((cm x)))(hy:bv s b=some ((cm y))):Ev Xk s C ⟨d,.binOp .neq 50 a b u,ty,pos,af,gd⟩ (.bool (!decide (x=y))):=
 eZ hx hy fun w=>by
  rw [Y3,run_eqGuard_agg w _ _ _ _ _ _ N5];simp only [Y0];rw [run_neq_struct,R7];rfl
theorem PP (x y:WN)(w:World):(Op.equalIn 10000 233 ((Py x)) ((Py y))).run Xk w=.ok (decide (x=y)) w:=by
 obtain ⟨xup_,⟨xkey_Kind,xkey_N,xkey_S⟩,xattrs_⟩:=x;obtain ⟨yup_,⟨ykey_Kind,ykey_N,ykey_S⟩,yattrs_⟩:=y;show (Op.equalIn 10000 233 (.agg #[iV xup_,iV xkey_Kind,iV xkey_N,.string xkey_S,iV xattrs_]) (.agg #[iV yup_,iV ykey_Kind,iV ykey_N,.string ykey_S,iV yattrs_])).run Xk w=_
 go_simp
 simp only [oY];by_cases h0:xup_=yup_
 rotate_left
 ·simp [h0]
 by_cases h1:xkey_Kind=ykey_Kind
 rotate_left
 ·simp [h0,h1]
 by_cases h2:xkey_N=ykey_N
 rotate_left
 ·simp [h0,h1,h2]
 by_cases h3:xkey_S=ykey_S
 rotate_left
 ·simp [h0,h1,h2,h3]
 by_cases h4:xattrs_=yattrs_
 rotate_left
 ·simp [h0,h1,h2,h3,h4]
 simp [h0,h1,h2,h3,h4]
def er (x:WN):Value:=.agg #[iV x.up_,iV x.ZX.Zh,iV x.ZX.N,.string x.ZX.S,iV x.attrs_]
theorem FX:KeyOk Xk 233 er where
 und:=⟨_,Tryz.underlying233,fun a b=> .inl rfl⟩
 eq:=fun a b w=>PP a b w
 check:=fun e a w=>by
  obtain ⟨xup_,⟨xkey_Kind,xkey_N,xkey_S⟩,xattrs_⟩:=a;kernel_rfl
 bits:=fun a=>by
  obtain ⟨xup_,⟨xkey_Kind,xkey_N,xkey_S⟩,xattrs_⟩:=a;simp [er,Instr.sameBits,LE]
structure XDHeap where
 A2:Option Addr
 n2:Nat
 c2:Nat
 A3:Option Addr
 n3:Nat
 c3:Nat
 A4:Option Addr
 n4:Nat
 c4:Nat
 A5:Option Addr
 n5:Nat
 c5:Nat
 B6:Nat
 M7:Nat
 deriving Inhabited
def Lf (B1:Nat)(e:W4)(x:XDHeap):Xi:=[ah B1 124 [.slice x.A2 x.n2 x.c2,.slice x.A3 x.n3 x.c3,.slice x.A4 x.n4 x.c4,.slice x.A5 x.n5 x.c5,.pointer (some ⟨x.B6,0,none⟩)],bf jP 94 (.slice x.A2 x.n2 x.c2) e.m_.Zp,bf jP 94 (.slice x.A3 x.n3 x.c3) e.m_.Zr,bf ay 28 (.slice x.A4 x.n4 x.c4) e.ZA,bf ay 28 (.slice x.A5 x.n5 x.c5) e.ZC,ah x.B6 213 [.map (some x.M7)],bE jJ rb x.M7 e.ZD.at_]
def KS (B1:Nat)(e:W4)(x:XDHeap):Xi:=[aW B1 124 [.slice x.A2 x.n2 x.c2,.slice x.A3 x.n3 x.c3,.slice x.A4 x.n4 x.c4,.slice x.A5 x.n5 x.c5,.pointer (some ⟨x.B6,0,none⟩)],iy jP (.slice x.A2 x.n2 x.c2) e.m_.Zp,iy jP (.slice x.A3 x.n3 x.c3) e.m_.Zr,iy ay (.slice x.A4 x.n4 x.c4) e.ZA,iy ay (.slice x.A5 x.n5 x.c5) e.ZC,aW x.B6 213 [.map (some x.M7)],qU jJ rb x.M7 e.ZD.at_]
@[reducible] def oDHeap (B1:Nat)(e:W4):Chunk:=d5 (Lf B1 e)
@[reducible] def pDHeap (B1:Nat)(e:W4):Chunk:=KE (KS B1 e)
theorem Mi {B1:Nat}{e:W4}{A2:Option Addr}{n2 c2:Nat}{A3:Option Addr}{n3 c3:Nat}{A4:Option Addr}{n4 c4:Nat}{A5:Option Addr}{n5 c5 B6 M7:Nat}(k:Cv L M):Cv (ah B1 124 [W A2 n2 c2,W A3 n3 c3,W A4 n4 c4,W A5 n5 c5,pV B6 0]::iF A2 n2 c2 e.m_.Zp::iF A3 n3 c3 e.m_.Zr::bj A4 n4 c4 e.ZA::bj A5 n5 c5 e.ZC::ah B6 213 [.map (some M7)]::bE jJ rb M7 e.ZD.at_::L) (oDHeap B1 e::M):=(fB (Q:=Lf B1 e) ⟨A2,n2,c2,A3,n3,c3,A4,n4,c4,A5,n5,c5,B6,M7⟩).trans (nb _ k)
instance {B1:Nat}{e:W4}:LentQ (Lf B1 e) (KS B1 e):=⟨.of fun x=>⟨x,t5 (yI (i:=0) rfl) (t5 (ju (i:=1) rfl) (t5 (ju (i:=2) rfl) (t5 (ju (i:=3) rfl) (t5 (ju (i:=4) rfl) (t5 (yI (i:=5) rfl) (t5 (FT (i:=6) rfl) ax))))))⟩⟩
structure XDTable where
 A2:Option Addr
 n2:Nat
 c2:Nat
 M3:Nat
 deriving Inhabited
def IE (B1:Nat)(e:WR)(x:XDTable):Xi:=[ah B1 170 [.slice x.A2 x.n2 x.c2,.map (some x.M3)],bf bA 166 (.slice x.A2 x.n2 x.c2) e.Zw,bE er wx x.M3 e.ZK]
def Iy (B1:Nat)(e:WR)(x:XDTable):Xi:=[aW B1 170 [.slice x.A2 x.n2 x.c2,.map (some x.M3)],iy bA (.slice x.A2 x.n2 x.c2) e.Zw,qU er wx x.M3 e.ZK]
@[reducible] def oDTable (B1:Nat)(e:WR):Chunk:=d5 (IE B1 e)
@[reducible] def pDTable (B1:Nat)(e:WR):Chunk:=KE (Iy B1 e)
theorem JC {B1:Nat}{e:WR}{A2:Option Addr}{n2 c2 M3:Nat}(k:Cv L M):Cv (ah B1 170 [W A2 n2 c2,.map (some M3)]::bf bA 166 (W A2 n2 c2) e.Zw::bE er wx M3 e.ZK::L) (oDTable B1 e::M):=(fB (Q:=IE B1 e) ⟨A2,n2,c2,M3⟩).trans (nb _ k)
instance {B1:Nat}{e:WR}:LentQ (IE B1 e) (Iy B1 e):=⟨.of fun x=>⟨x,t5 (yI (i:=0) rfl) (t5 (ju (i:=1) rfl) (t5 (FT (i:=2) rfl) ax))⟩⟩
structure XDWorld where
 A4:Option Addr
 n4:Nat
 c4:Nat
 A5:Option Addr
 n5:Nat
 c5:Nat
 A6:Option Addr
 n6:Nat
 c6:Nat
 deriving Inhabited
def Cn (B1 B2 B3:Nat)(e:WP)(x:XDWorld):Xi:=[ah B1 81 [iV e.ZI.ZY,iV e.ZI.ZS,iV e.ZI.ZZ,iV e.ZB.ZT,iV e.ZB.ZU,iV e.ZB.ZP,iV e.ZB.ZR,iV e.ZB.Zp,iV e.ZB.ZV,iV e.ZB.ZW,.nilIface,pV B2 0,pV B3 0,.slice x.A4 x.n4 x.c4,iV e.ZL,iV e.ZM,iV e.ZN,.slice x.A5 x.n5 x.c5,.slice x.A6 x.n6 x.c6],oDHeap B2 e.Zv,oDTable B3 e.Zw,bf ta 9 (.slice x.A4 x.n4 x.c4) e.ZF,bf nP 309 (.slice x.A5 x.n5 x.c5) e.ZG,bf ta 9 (.slice x.A6 x.n6 x.c6) e.ZH]
def Ez (B1 B2 B3:Nat)(e:WP)(x:XDWorld):Xi:=[aW B1 81 [iV e.ZI.ZY,iV e.ZI.ZS,iV e.ZI.ZZ,iV e.ZB.ZT,iV e.ZB.ZU,iV e.ZB.ZP,iV e.ZB.ZR,iV e.ZB.Zp,iV e.ZB.ZV,iV e.ZB.ZW,.nilIface,pV B2 0,pV B3 0,.slice x.A4 x.n4 x.c4,iV e.ZL,iV e.ZM,iV e.ZN,.slice x.A5 x.n5 x.c5,.slice x.A6 x.n6 x.c6],pDHeap B2 e.Zv,pDTable B3 e.Zw,iy ta (.slice x.A4 x.n4 x.c4) e.ZF,iy nP (.slice x.A5 x.n5 x.c5) e.ZG,iy ta (.slice x.A6 x.n6 x.c6) e.ZH]
@[reducible] def oDWorld (B1 B2 B3:Nat)(e:WP):Chunk:=d5 (Cn B1 B2 B3 e)
@[reducible] def pDWorld (B1 B2 B3:Nat)(e:WP):Chunk:=KE (Ez B1 B2 B3 e)
theorem JB {B1:Nat}{e:WP}{A4:Option Addr}{n4 c4:Nat}{A5:Option Addr}{n5 c5:Nat}{A6:Option Addr}{n6 c6:Nat}(k:Cv L M):Cv (ah B1 81 (At e B2 B3 A4 n4 c4 A5 n5 c5 A6 n6 c6)::oDHeap B2 e.Zv::oDTable B3 e.Zw::pQ A4 n4 c4 e.ZF::AV A5 n5 c5 e.ZG::pQ A6 n6 c6 e.ZH::L) (oDWorld B1 B2 B3 e::M):=(fB (Q:=Cn B1 B2 B3 e) ⟨A4,n4,c4,A5,n5,c5,A6,n6,c6⟩).trans (nb _ k)
instance {B1:Nat}{e:WP}:LentQ (Cn B1 B2 B3 e) (Ez B1 B2 B3 e):=⟨.of fun x=>⟨x,t5 (yI (i:=0) rfl) (t5 (zC (i:=1) rfl) (t5 (zC (i:=2) rfl) (t5 (ju (i:=3) rfl) (t5 (ju (i:=4) rfl) (t5 (ju (i:=5) rfl) ax)))))⟩⟩
instance {B1:Nat}{e:WP}:LentP (Cn B1 B2 B3 e) (KS B2 e.Zv):=.sub 1 fun _=>rfl
instance {B1:Nat}{e:WP}:MemR (Ez B1 B2 B3 e) (pDHeap B2 e.Zv):=⟨fun _=>Yk _ (Yl)⟩
@[reducible] def oDWorld_h1 (B1 B2 B3:Nat)(e:WP):Chunk:=d5 fun x:XDWorld=> [ah B1 81 [iV e.ZI.ZY,iV e.ZI.ZS,iV e.ZI.ZZ,iV e.ZB.ZT,iV e.ZB.ZU,iV e.ZB.ZP,iV e.ZB.ZR,iV e.ZB.Zp,iV e.ZB.ZV,iV e.ZB.ZW,.nilIface,pV B2 0,pV B3 0,.slice x.A4 x.n4 x.c4,iV e.ZL,iV e.ZM,iV e.ZN,.slice x.A5 x.n5 x.c5,.slice x.A6 x.n6 x.c6],oDTable B3 e.Zw,bf ta 9 (.slice x.A4 x.n4 x.c4) e.ZF,bf nP 309 (.slice x.A5 x.n5 x.c5) e.ZG,bf ta 9 (.slice x.A6 x.n6 x.c6) e.ZH]
theorem KX {B1:Nat}{e:WP}:Cv (oDWorld B1 B2 B3 e::L) (oDHeap B2 e.Zv::oDWorld_h1 B1 B2 B3 e::L):=MN fun x=>⟨x,(.trans (.swap _ _ _) (.cons _ (.refl _)):List.Perm _ _).symm⟩
theorem Ly {B1:Nat}{e:WP}{z:W4}:Cv (oDHeap B2 z::oDWorld_h1 B1 B2 B3 e::L) (oDWorld B1 B2 B3 (⟨e.ZI,e.ZB,(),z,e.Zw,e.ZF,e.ZL,e.ZM,e.ZN,e.ZG,e.ZH⟩:WP)::L):=Ka fun x=>⟨x,.trans (.swap _ _ _) (.cons _ (.refl _))⟩
instance {B1:Nat}{e:WP}:LentP (Cn B1 B2 B3 e) (Iy B3 e.Zw):=.sub 2 fun _=>rfl
instance {B1:Nat}{e:WP}:MemR (Ez B1 B2 B3 e) (pDTable B3 e.Zw):=⟨fun _=>Yk _ (Yk _ (Yl))⟩
instance:FcS Xk 22 28:=⟨t9⟩
instance:FcS Xk 23 43:=⟨z5⟩
instance:FcS Xk 33 50:=⟨Ex⟩
instance:FcS Xk 47 39:=⟨EM⟩
instance:FcS Xk 119 94:=⟨Ww⟩
instance:FcS Xk 144 3:=⟨Wx⟩
instance:FcS Xk 167 166:=⟨Wy⟩
instance:FcS Xk 218 119:=⟨Tryz.underlying218⟩
instance:RepF ay (fun x=> [iV x.Zh,iV x.N,.string x.S]):=⟨fun _ _ _ _ h=>h⟩
instance:RepF gQ (fun x=> [iV x.Zh,iV x.N,.string x.S]):=⟨fun _ _ _ _ h=>h⟩
instance:RepF OW (fun x=> [iV x.Has,iV x.Zk,iV x.Value.Zh,iV x.Value.N,.string x.Value.S,iV x.Zx.Zh,iV x.Zx.N,.string x.Zx.S,iV x.Zy.Zh,iV x.Zy.N,.string x.Zy.S]):=⟨fun _ _ _ _ h=>h⟩
instance:RepF vX (fun x=> [iV x.Zh,iV x.N,iV x.K.Zh,iV x.K.N,.string x.K.S,iV x.D.Has,iV x.D.Zk,iV x.D.Value.Zh,iV x.D.Value.N,.string x.D.Value.S,iV x.D.Zx.Zh,iV x.D.Zx.N,.string x.D.Zx.S,iV x.D.Zy.Zh,iV x.D.Zy.N,.string x.D.Zy.S,iV x.V.Zh,iV x.V.N,.string x.V.S]):=⟨fun _ _ _ _ h=>h⟩
instance:RepF OX (fun x=> [iV x.ZT,iV x.ZU,iV x.ZP,iV x.ZR,iV x.Zp,iV x.ZV,iV x.ZW]):=⟨fun _ _ _ _ h=>h⟩
instance:RepF bA (fun x=> [iV x.Up,iV x.Zo.Zh,iV x.Zo.N,.string x.Zo.S,iV x.Zk,iV x.ZJ]):=⟨fun _ _ _ _ h=>h⟩
instance:RepF SV (fun x=> [iV x.up_,iV x.ZX.Zh,iV x.ZX.N,.string x.ZX.S,iV x.attrs_]):=⟨fun _ _ _ _ h=>h⟩
instance:RepF QP (fun x=> [iV x.ZY,iV x.ZS,iV x.ZZ]):=⟨fun _ _ _ _ h=>h⟩
instance:RepF nP (fun x=> [iV x.Zh,iV x.Zo.Zh,iV x.Zo.N,.string x.Zo.S,.string x.S]):=⟨fun _ _ _ _ h=>h⟩
instance:RepF ip (fun x=> [iV x.Zo.Zh,iV x.Zo.N,.string x.Zo.S,iV x.Zk,iV x.Value.Zh,iV x.Value.N,.string x.Value.S,iV x.Zx.Zh,iV x.Zx.N,.string x.Zx.S,iV x.Zy.Zh,iV x.Zy.N,.string x.Zy.S]):=⟨fun _ _ _ _ h=>h⟩
@[reducible] def oDWorld_h2 (B1 B2 B3:Nat)(e:WP):Chunk:=d5 fun x:XDWorld=> [ah B1 81 [iV e.ZI.ZY,iV e.ZI.ZS,iV e.ZI.ZZ,iV e.ZB.ZT,iV e.ZB.ZU,iV e.ZB.ZP,iV e.ZB.ZR,iV e.ZB.Zp,iV e.ZB.ZV,iV e.ZB.ZW,.nilIface,pV B2 0,pV B3 0,.slice x.A4 x.n4 x.c4,iV e.ZL,iV e.ZM,iV e.ZN,.slice x.A5 x.n5 x.c5,.slice x.A6 x.n6 x.c6],oDHeap B2 e.Zv,bf ta 9 (.slice x.A4 x.n4 x.c4) e.ZF,bf nP 309 (.slice x.A5 x.n5 x.c5) e.ZG,bf ta 9 (.slice x.A6 x.n6 x.c6) e.ZH]
theorem AP {B1:Nat}{e:WP}:Cv (oDWorld B1 B2 B3 e::L) (oDTable B3 e.Zw::oDWorld_h2 B1 B2 B3 e::L):=MN fun x=>⟨x,(.trans (.swap _ _ _) (.cons _ (.trans (.swap _ _ _) (.cons _ (.refl _)))):List.Perm _ _).symm⟩
theorem Be {B1:Nat}{e:WP}{z:WR}:Cv (oDTable B3 z::oDWorld_h2 B1 B2 B3 e::L) (oDWorld B1 B2 B3 (⟨e.ZI,e.ZB,(),e.Zv,z,e.ZF,e.ZL,e.ZM,e.ZN,e.ZG,e.ZH⟩:WP)::L):=Ka fun x=>⟨x,.trans (.swap _ _ _) (.cons _ (.trans (.swap _ _ _) (.cons _ (.refl _))))⟩
theorem Mk {R:ι->Value->Xi->Prop}{Q:ι->Xi}[Inhabited ι](k:Nat)(hk:L[k]? =some (d5 Q))(h:∀x,Okc P f args (L.take k++(Q x++L.drop (k+1))) (R x))(hr:∀x v post,R x v post-> ∃post',R' v post'/\Cv post post':=by
   intro x v post
   repeat (refine Vc ?_;intro _)
   rintro ⟨rfl,rfl⟩;apply VW
   repeat (apply Exists.intro)
   exact ⟨J,J⟩
   all_goals (repeat (first|with_reducible exact ae _|apply Mi|apply JC|apply JB|apply nb))):Okc P f args L R':=Vu k hk h hr
theorem Vt (h:Okc P f args L R)(hr:∀v post,R v post-> ∃post',R' v post'/\Cv post post':=by
   intro v post
   repeat (refine Vc ?_;intro _)
   rintro ⟨rfl,rfl⟩;apply VW
   repeat (apply Exists.intro)
   exact ⟨J,J⟩
   all_goals (repeat (first|with_reducible exact ae _|apply Mi|apply JC|apply JB|apply nb))):Okc P f args L R':=VU h hr
abbrev iM (x:W3)(A:Option Addr)(n c:Nat)(A2:Option Addr)(n2 c2:Nat):Xj:=[iV x.Zh,iV x.Zq,iV x.Zm,iV x.Zn,.slice A n c,W A2 n2 c2]
abbrev jX (x:W6)(A:Option Addr)(n c:Nat)(A2:Option Addr)(n2 c2:Nat):Xj:=[.bool x.Ext,.bool x.Zz,.slice A n c,W A2 n2 c2]
abbrev UD:Xj:=[iV 8,iV 0,.string (⟨#[]⟩:ByteArray)]
abbrev sG:Chunk:=aW 0 28 UD
def dN (N:Nat)(a0:WZ):Option Bool:=
 (bif decide (a0.Zh<0) then (some true) else (some (decide (9<a0.Zh)))).bind fun b2=>bif b2 then (some false) else (bif decide (a0.Zh=5) then ((bif decide (a0.N=0) then (some (decide ((a0.S.size:Int)<=65536))) else (some false)).bind fun b5=>some b5) else (bif !(a0.S.toList==(⟨#[]⟩:ByteArray).toList) then (some false) else (bif decide (a0.Zh=2) then ((bif decide (a0.N=0) then (some true) else (some (decide (a0.N=1)))).bind fun b8=>some b8) else (bif decide (a0.Zh=3) then ((bif decide ((-9007199254740992)<=a0.N) then (some (decide (a0.N<=9007199254740992))) else (some false)).bind fun a6=>some a6) else ((bif decide (a0.Zh=6) then (some true) else (some (decide (a0.Zh=7)))).bind fun a7=>(bif a7 then (some true) else (some (decide (a0.Zh=9)))).bind fun b12=>bif b12 then (some (decide (1<=a0.N))) else (some (decide (a0.N=0))))))))
theorem KR {N:Nat}{a0:WZ}{r:Bool}(h:dN N a0=some r):Okc Xk 26 [(aF a0)] ([]) (fun u post=>u=.bool r/\post=[]):=by
 refine ce Tryz.func26 ?_;intro B1;refine sY ?_;refine gS 4 10 6 h ?_;intro b2 h;refine dk h ?_ ?_<;>intro h
 ·exact eY
 refine sY ?_;refine gH J h ?_ ?_<;>intro h
 ·refine ab ?_
  refine oz 5 22 17 h (fun _ g5 h=> ?_) fun b5 h=> ?_
  ·refine ab ?_;exact eP (qH J Wz) J (bW g5 J) J<|gY
  exact eY
 refine sY ?_;refine fS (Gi J J) ?_;refine gH J h ?_ ?_<;>intro h
 ·exact eY
 refine sY ?_;refine gH J h ?_ ?_<;>intro h
 ·refine ab ?_;refine gS 4 36 32 h ?_;intro b8 h;exact eY
 refine sY ?_;refine gH J h ?_ ?_<;>intro h
 ·refine ab ?_;refine gS 4 47 43 h ?_;intro a6 h;exact eY
 refine sY ?_;refine gS 4 55 51 h ?_;intro a7 h;refine ab ?_;refine gS 4 60 56 h ?_;intro b12 h;refine dk h ?_ ?_<;>intro h
 ·exact eY
 exact eY
def iq (N:Nat):Option WZ:=
 some (⟨8,0,⟨#[]⟩⟩:WZ)
theorem pK {N:Nat}{r:WZ}(h:iq N=some r):Okc Xk 21 [] ([]) (fun u post=>u=(aF r)/\post=[]):=by
 refine ce Tryz.func21 ?_;intro B1;exact eY
theorem rO {r:WZ}: ∀v post,((fun (u:Value) (post:Xi)=>u=(aF r)/\post=[])) v post-> ∀c∈post,iS c:=by
 rintro _ _ ⟨rfl,rfl⟩;exact ax
def nl (a0:WZ):Option Bool:=
 (bif decide (a0.Zh<7) then ((dN N a0).bind fun y3=>some y3) else (some false)).bind fun b2=>(bif b2 then (some true) else ((iq N).bind fun y5=>some (decide (a0=y5)))).bind fun b4=>some b4
theorem r7 {N:Nat}{a0:WZ}{r:Bool}(h:nl N a0=some r):Okc Xk 8 [(aF a0)] ([]) (fun u post=>u=.bool r/\post=[]):=by
 refine ce Tryz.func8 ?_;intro B1;refine ab ?_;refine dY [0,1,2,3] ?_
 refine yJ [4,5,6] 6 6 9 h (fun _ g2 h rest=> ?_) (fun _ g2 h rest=> ?_) fun b2 h=> ?_
 ·refine jK 4 J O (aD (us:=bU a0) 0 J J agg28.out J) (bW g2 J) J ?_;obtain ⟨y3,k,h⟩:=aa h;refine kI 5 J O (oR (KR k)) J (bW g2 J) J ?_;rintro _ _ ⟨_,⟨rfl,rfl⟩,rfl⟩;refine ⟨_,ae _,ae _,?_⟩;refine zE 6 J (gv g2 J J) ?_;exact yS rest h
 ·refine yY [4,5,6] ?_;exact yS rest h
 refine zY [7] ?_
 refine yJ [8,9,10,11] 1 10 14 h (fun _ g4 h rest=> ?_) (fun _ g4 h rest=> ?_) fun b4 h=> ?_
 ·refine yY [8,9,10,11] ?_;exact yS rest h
 ·refine jK 8 J O (aD (us:=bU a0) 0 J J agg28.out J) (cG g4 J) J ?_;obtain ⟨y5,k,h⟩:=aa h;refine kI 9 J O (oR (pK k)) J (cG g4 J) J ?_;rintro _ _ ⟨_,⟨rfl,rfl⟩,rfl⟩;refine ⟨_,ae _,ae _,?_⟩;refine il 10 J O (wq (x:=a0) (y:=y5) J J) (cG g4 J) J<|zE 11 J (iw g4 J J) ?_;exact yS rest h
 refine zX [12] ?_;exact eY
theorem GF {r:Bool}: ∀v post,((fun (u:Value) (post:Xi)=>u=.bool r/\post=[])) v post-> ∀c∈post,iS c:=by
 rintro _ _ ⟨rfl,rfl⟩;exact ax
def DI (N:Nat):Option Bool:=
 some true
def uN (N:Nat)(a0:List WQ):Nat->Int->Option Bool
 |0,_=>none
 |m3+1,p4=>(bif decide (p4<(a0.length:Int)) then (some (decide (p4<40))) else (some false)).bind fun b5=>bif b5 then ((aq a0 p4).bind fun x7=>(nl N x7.V).bind fun y9=>(bif !y9 then (some true) else ((nl N x7.D.Value).bind fun a6=>some (!a6))).bind fun a7=>(bif a7 then (some true) else ((nl N x7.D.Zx).bind fun a8=>some (!a8))).bind fun b12=>(bif b12 then (some true) else ((nl N x7.D.Zy).bind fun b0=>some (!b0))).bind fun b6=>(bif b6 then (some true) else (some (decide (2000<(x7.K.S.size:Int))))).bind fun b16=>bif b16 then (some false) else ((bif decide (2000<x7.N) then (some (decide (x7.N<=4096))) else (some false)).bind fun b7=>(bif b7 then (some true) else ((bif decide (2000<x7.K.N) then (some (decide (x7.K.N<4096))) else (some false)).bind fun b9=>some b9)).bind fun c7=>(bif c7 then (some true) else ((bif decide (2000<x7.D.Value.N) then (some (decide (x7.D.Value.N<=4096))) else (some false)).bind fun c8=>some c8)).bind fun c9=>bif c9 then (some false) else (aI (in64 (p4+1)) ((uN N a0 m3) (p4+1))))) else (DI N)
def AB (a0:List WQ):Option Bool:=
 uN N a0 N 0
theorem Je {N:Nat}{a0:List WQ}{r:Bool}(h:AB N a0=some r):Okc Xk 6 [W A1 n1 c1] ([iy vX (W A1 n1 c1) a0]) (fun u post=>u=.bool r/\post=[]):=by
 refine ce Tryz.func6 ?_;refine ak (fun s L=>DI N=some r/\s=[(2,.bool false)]/\L=[]) ?_ ?_
 ·refine ab ?_;refine lK (fun m s L=> ∃(p4:Int),uN N a0 m p4=some r/\s=[(0,W A1 n1 c1),(2,.bool false),(3,iV p4)]/\L=[iy vX (W A1 n1 c1) a0]) N ?_;rintro m3 _ _ ⟨p4,h,rfl,rfl⟩;rw [uN.eq_2] at h;refine sZ ?_;refine gS 3 12 9 h ?_;intro b5 h;refine dk h ?_ ?_<;>intro h
  ·refine sY ?_;obtain ⟨x7,a7,a8,b0,h⟩:=ba h
   refine cl fun B8=> ?_
   refine sZ ?_
   refine cR h (fun _ k=>r7 k) fun y9 h=> ?_
   refine xv 6 29 23 h (fun _ b6 h=> ?_) fun b7 h=> ?_
   ·refine cR h (fun _ k=>r7 k) fun b9 h=> ?_
    exact gY
   refine ab ?_
   refine xv 6 36 30 h (fun _ c7 h=> ?_) fun b12 h=> ?_
   ·refine cR h (fun _ k=>r7 k) fun c8 h=> ?_
    exact gY
   refine ab ?_
   refine xv 6 43 37 h (fun _ c9 h=> ?_) fun d0 h=> ?_
   ·refine cR h (fun _ k=>r7 k) fun d1 h=> ?_
    exact gY
   refine ab ?_
   refine xv 6 50 44 h (fun _ a6 h=> ?_) fun b16 h=> ?_
   ·refine ab ?_;exact eP (qH J Wz) J (cG a6 J) J<|gY
   refine dk h ?_ ?_<;>intro h
   ·exact eY
   refine ab ?_;refine gS 4 58 54 h ?_;intro d2 h;refine ab ?_
   refine xv 11 70 59 h (fun _ d3 h=> ?_) fun d4 h=> ?_
   ·refine ab ?_;refine gS 5 69 64 h ?_;intro d6 h;exact gY
   refine ab ?_
   refine xv 13 84 71 h (fun _ e0 h=> ?_) fun e1 h=> ?_
   ·refine ab ?_;refine gS 6 83 77 h ?_;intro e2 h;exact gY
   refine dk h ?_ ?_<;>intro h
   ·exact eY
   refine ab ?_;obtain ⟨e3,h⟩:=ac h;exact lY
  exact jY
 rintro _ _ ⟨h,rfl,rfl⟩;exact eY
theorem GG {r:Bool}: ∀v post,((fun (u:Value) (post:Xi)=>u=.bool r/\post=[])) v post-> ∀c∈post,iS c:=by
 rintro _ _ ⟨rfl,rfl⟩;exact ax
def eQ (N:Nat)(a0 a1 a2:Int):Option Bool:=
 (bif decide (a1<=a0) then (some (decide (a0<=a2))) else (some false)).bind fun b1=>some b1
theorem fq {N:Nat}{a2:Int}{r:Bool}(h:eQ N a0 a1 a2=some r):Okc Xk 106 [iV a0,iV a1,iV a2] ([]) (fun u post=>u=.bool r/\post=[]):=by
 refine ce Tryz.func106 ?_;refine gS 4 14 10 h ?_;intro b1 h;exact eY
theorem dS {r:Bool}: ∀v post,((fun (u:Value) (post:Xi)=>u=.bool r/\post=[])) v post-> ∀c∈post,iS c:=by
 rintro _ _ ⟨rfl,rfl⟩;exact ax
def Ag (a0:WO):Option Bool:=
 (eQ N a0.ZT 0 1).bind fun y2=>(bif y2 then ((eQ N a0.ZU 0 1073741824).bind fun y4=>some y4) else (some false)).bind fun b3=>(bif b3 then ((eQ N a0.ZP 1 200).bind fun y6=>some y6) else (some false)).bind fun b5=>(bif b5 then ((eQ N a0.ZR 0 1048576).bind fun y8=>some y8) else (some false)).bind fun b7=>(bif b7 then ((eQ N a0.Zp 0 1073741824).bind fun a6=>some a6) else (some false)).bind fun b9=>(bif b9 then ((eQ N a0.ZV 0 1073741824).bind fun a7=>some a7) else (some false)).bind fun a8=>(bif a8 then ((eQ N a0.ZW 0 4).bind fun b0=>some b0) else (some false)).bind fun b6=>some b6
theorem Fg {N:Nat}{a0:WO}{r:Bool}(h:Ag N a0=some r):Okc Xk 61 [(F6 a0)] ([]) (fun u post=>u=.bool r/\post=[]):=by
 refine ce Tryz.func61 ?_;intro B1;refine ab ?_;obtain ⟨y2,k,h⟩:=aa h;refine Ej (lm (fq k) J J J (ax) dS) ?_
 refine oz 5 13 8 h (fun _ g3 h=> ?_) fun b3 h=> ?_
 ·refine ab ?_;obtain ⟨y4,k,h⟩:=aa h;exact gU (lm (fq k) J J J (ax) dS) (bW g3 J)<|gY
 refine ab ?_
 refine oz 5 19 14 h (fun _ g5 h=> ?_) fun b5 h=> ?_
 ·refine ab ?_;obtain ⟨y6,k,h⟩:=aa h;exact gU (lm (fq k) J J J (ax) dS) (bW g5 J)<|gY
 refine ab ?_
 refine oz 5 25 20 h (fun _ g7 h=> ?_) fun b7 h=> ?_
 ·refine ab ?_;obtain ⟨y8,k,h⟩:=aa h;exact gU (lm (fq k) J J J (ax) dS) (bW g7 J)<|gY
 refine ab ?_
 refine oz 5 31 26 h (fun _ g9 h=> ?_) fun b9 h=> ?_
 ·refine ab ?_;obtain ⟨a8,k,h⟩:=aa h;exact gU (lm (fq k) J J J (ax) dS) (bW g9 J)<|gY
 refine ab ?_
 refine oz 5 37 32 h (fun _ a6 h=> ?_) fun b0 h=> ?_
 ·refine ab ?_;obtain ⟨b6,k,h⟩:=aa h;exact gU (lm (fq k) J J J (ax) dS) (bW a6 J)<|gY
 refine ab ?_
 refine oz 5 43 38 h (fun _ a7 h=> ?_) fun c7 h=> ?_
 ·refine ab ?_;obtain ⟨c8,k,h⟩:=aa h;exact gU (lm (fq k) J J J (ax) dS) (bW a7 J)<|gY
 exact eY
def BB (N:Nat):Option W0:=
 some (⟨([]:(List (Int×Bool)))⟩:W0)
theorem GI {N:Nat}{r:W0}(h:BB N=some r):Okc Xk 107 [] ([]) (fun u post=> ∃B0 M1,u=pV B0 0/\post=[ah B0 213 [.map (some M1)],bE jJ rb M1 r.at_]):=by
 refine ce Tryz.func107 ?_;refine gD (wV (ek:=jJ) (ev:=rb)) ?_;rintro _ _ ⟨M1,rfl,rfl⟩;refine ab ?_;intro B2;exact eY
def AW:Option W4:=
 (BB N).bind fun y1=>some (⟨(⟨[],[]⟩:WY),[],[],y1⟩:W4)
theorem JU {N:Nat}{r:W4}(h:AW N=some r):Okc Xk 62 [] ([]) (fun u post=> ∃B0 A1 n1 c1 A2 n2 c2 A3 n3 c3 A4 n4 c4 B5 M6,u=pV B0 0/\post=[ah B0 124 [W A1 n1 c1,W A2 n2 c2,W A3 n3 c3,W A4 n4 c4,pV B5 0],iF A1 n1 c1 r.m_.Zp,iF A2 n2 c2 r.m_.Zr,bj A3 n3 c3 r.ZA,bj A4 n4 c4 r.ZC,ah B5 213 [.map (some M6)],bE jJ rb M6 r.ZD.at_]):=by
 refine ce Tryz.func62 ?_;obtain ⟨y1,k,h⟩:=aa h;refine gD (oR (GI k)) ?_;rintro _ _ ⟨_,⟨B2,M3,rfl,rfl⟩,rfl⟩
 refine cl fun B4=> ?_
 obtain rfl:=bJ h;exact nI J J ((bT jP 94 _).trans ((bT jP 94 _).trans ((bT ay 28 _).trans ((bT ay 28 _).trans (cS [4,3,2,1,0,5,6] 7))))) ⟨_,_,_,_,_,_,_,_,_,_,_,_,_,_,_,J,J⟩
theorem GV {N:Nat}{r:W4}(h:AW N=some r):Okc Xk 62 [] ([]) (fun u post=> ∃B0,u=pV B0 0/\post=[oDHeap B0 r]):=Vt (JU h)
def yb (N:Nat):Option WR:=
 some (⟨([(⟨(-1),(⟨0,0,⟨#[]⟩⟩:WX),0,0⟩:W2)]:List W2),([]:(List (WN×Int)))⟩:WR)
theorem Ij {N:Nat}{r:WR}(h:yb N=some r):Okc Xk 63 [] ([]) (fun u post=> ∃B0 A1 n1 c1 M2,u=pV B0 0/\post=[ah B0 170 [W A1 n1 c1,.map (some M2)],bf bA 166 (W A1 n1 c1) r.Zw,bE er wx M2 r.ZK]):=by
 refine ce Tryz.func63 ?_;refine gD (aw (R:=bA) (vss:=[[iV (-1),iV 0,iV 0,.string (⟨#[]⟩),iV 0,iV 0]]) (xs:=[(⟨(-1),(⟨0,0,⟨#[]⟩⟩:WX),0,0⟩:W2)]) J (Dy _ _ _ _ _ _) J J (fun _ _ hr=> .cons J All2.nil)) ?_;rintro _ _ ⟨A1,n1,c1,rfl,rfl⟩;refine gD (wV (ek:=er) (ev:=wx)) ?_;rintro _ _ ⟨M2,rfl,rfl⟩;refine ab ?_;intro B3;exact eY
theorem E4 {N:Nat}{r:WR}(h:yb N=some r):Okc Xk 63 [] ([]) (fun u post=> ∃B0,u=pV B0 0/\post=[oDTable B0 r]):=Vt (Ij h)
def aR (N:Nat)(a0:W4):Option Bool:=
 some false
theorem dj {N:Nat}{a0:W4}{r:Bool}(h:aR N a0=some r):Okc Xk 68 [pV B1 0] ([aW B1 124 [W A2 n2 c2,W A3 n3 c3,W A4 n4 c4,W A5 n5 c5,pV B6 0],iE A2 n2 c2 a0.m_.Zp,iE A3 n3 c3 a0.m_.Zr,aQ A4 n4 c4 a0.ZA,aQ A5 n5 c5 a0.ZC,aW B6 213 [.map (some M7)],qU jJ rb M7 a0.ZD.at_]) (fun u post=>u=.bool r/\post=[]):=by
 refine ce Tryz.func68 ?_;refine fS (dO J Tryz.underlying76) ?_;refine fS (dO J WA) ?_;exact eN
def di (a0:W4)(a1:Int):Option WZ:=
 (aR N a0).bind fun y9=>(bif y9 then (some true) else (some (decide (a1<0)))).bind fun a6=>(bif a6 then (some true) else (some (decide ((a0.ZA.length:Int)<=a1)))).bind fun a7=>bif a7 then (some (⟨0,0,⟨#[]⟩⟩:WZ)) else ((aq a0.ZA a1).bind fun a8=>some a8)
theorem Cp {N:Nat}{a0:W4}{r:WZ}(h:di N a0 a1=some r):Okc Xk 39 [pV B1 0,iV a1] ([aW B1 124 [W A2 n2 c2,W A3 n3 c3,W A4 n4 c4,W A5 n5 c5,pV B6 0],iE A2 n2 c2 a0.m_.Zp,iE A3 n3 c3 a0.m_.Zr,aQ A4 n4 c4 a0.ZA,aQ A5 n5 c5 a0.ZC,aW B6 213 [.map (some M7)],qU jJ rb M7 a0.ZD.at_]) (fun u post=>u=(aF r)/\post=[]):=by
 refine ce Tryz.func39 ?_;intro B8;refine sY ?_
 refine cR h (fun _ k=>dj k) fun y9 h=> ?_
 refine gS 3 10 7 h ?_;intro b0 h;refine ab ?_;refine gS 8 19 11 h ?_;intro b5 h;refine dk h ?_ ?_<;>intro h
 ·exact eY
 refine ab ?_;obtain ⟨b6,a6,a7,a8,h⟩:=ba h;exact eY
theorem iG {N:Nat}{a0:W4}{r:WZ}(h:di N a0 a1=some r):Okc Xk 39 [pV B1 0,iV a1] ([pDHeap B1 a0]) (fun u post=>u=(aF r)/\post=[]):=NM 0 rfl (fun _=>Cp h)
def my (N:Nat){σ:Type}(fy:(Bool×WZ)->σ->Option (Bool×σ))(a1:W3):Nat->Int->σ->Option σ
 |0,_,_=>none
 |b0+1,a6,a8=>bif decide (a6<(a1.Zi.length:Int)) then ((aq a1.Zi a6).bind fun b5=>(bif !decide (a1.Zh=8) then ((bif !decide (a1.Zh=10) then (some true) else (some (decide (a6.tmod 2=0)))).bind fun b6=>some b6) else (some false)).bind fun b7=>(fy (b7,b5) a8).bind fun a7=>bif !a7.1 then (some a7.2) else (aI (in64 (a6+1)) ((my N fy a1 b0) (a6+1) a7.2))) else (some a8)
def uD (fy:(Bool×WZ)->σ->Option (Bool×σ))(a1:W3)(p5:σ):Option σ:=
 my N fy a1 N 0 p5
def lz (N:Nat){σ:Type}(fy:(Bool×WZ)->σ->Option (Bool×σ))(a1:W3):Nat->Int->σ->Option σ
 |0,_,_=>none
 |m6+1,p7,p8=>bif decide (p7<(a1.Zj.length:Int)) then ((aq a1.Zj p7).bind fun a7=>(fy (true,a7) p8).bind fun a6=>bif !a6.1 then (some a6.2) else (aI (in64 (p7+1)) ((lz N fy a1 m6) (p7+1) a6.2))) else (uD N fy a1 p8)
def oW (a1:W3)(fy:(Bool×WZ)->σ->Option (Bool×σ))(s0:σ):Option σ:=
 lz N fy a1 N 0 s0
theorem yZ {N:Nat}{a1:W3}{fy:(Bool×WZ)->σ->Option (Bool×σ)}{s0 r:σ}(h:oW N a1 fy s0=some r){l:Nat}{G:σ->Xi}(hY:tG Xk l G (fun x=> [.bool x.1,.agg #[iV x.2.Zh,iV x.2.N,.string x.2.S]]) fy):Okc Xk 199 [.func (.yield l) #[] #[],pV B1 0] (aW B1 94 (iM a1 A2 n2 c2 A3 n3 c3)::aQ A2 n2 c2 a1.Zj::aQ A3 n3 c3 a1.Zi::(G s0)) (fun u post=>u=.tuple #[]/\post=G r):=by
 refine Ca Tryz.func199 J J ?_;simp only [qI];refine ak (fun s L=> ∃p5,uD N fy a1 p5=some r/\s=[(0,.func (.yield l) #[] #[]),(1,pV B1 0)]/\L=aQ A2 n2 c2 a1.Zj::aQ A3 n3 c3 a1.Zi::aW B1 94 (iM a1 A2 n2 c2 A3 n3 c3)::(G p5)) ?_ ?_
 ·refine ab ?_;refine lK (fun m s L=> ∃(p7:Int) (p8:σ),lz N fy a1 m p7 p8=some r/\s=[(0,.func (.yield l) #[] #[]),(1,pV B1 0),(9,W A2 n2 c2),(10,iV (a1.Zj.length:Int)),(11,iV p7)]/\L=aQ A2 n2 c2 a1.Zj::aQ A3 n3 c3 a1.Zi::aW B1 94 (iM a1 A2 n2 c2 A3 n3 c3)::(G p8)) N ?_;rintro m6 _ _ ⟨p7,p8,h,rfl,rfl⟩;rw [lz.eq_2] at h;refine ab ?_;refine aB<|gH J h (fun h=> ?_) (fun h=> ?_)
  ·refine sY ?_;obtain ⟨a6,b5,b6,b7,h⟩:=ba h
   refine cl fun b9=> ?_
   obtain ⟨d3,k,h⟩:=aa h;refine gD (wb (a:=(true,a6)) [ah b9 28 [iV a6.Zh,iV a6.N,.string a6.S],aQ A2 n2 c2 a1.Zj,aQ A3 n3 c3 a1.Zi,aW B1 94 (iM a1 A2 n2 c2 A3 n3 c3)] hY k J J) ?_;rintro _ _ ⟨rfl,rfl⟩;refine dk h ?_ ?_<;>intro h
   ·exact eY
   refine ab ?_;obtain ⟨d4,h⟩:=ac h;exact lY
  exact jY
 rintro _ _ ⟨p5,h,rfl,rfl⟩;refine ab ?_;refine lK (fun m s L=> ∃(a8:Int) (b0:σ),my N fy a1 m a8 b0=some r/\s=[(0,.func (.yield l) #[] #[]),(1,pV B1 0),(21,W A3 n3 c3),(22,iV (a1.Zi.length:Int)),(23,iV a8)]/\L=aQ A3 n3 c3 a1.Zi::aQ A2 n2 c2 a1.Zj::aW B1 94 (iM a1 A2 n2 c2 A3 n3 c3)::(G b0)) N ?_;rintro d6 _ _ ⟨a8,b0,h,rfl,rfl⟩;rw [my.eq_2] at h;refine ab ?_;refine aB<|gH J h (fun h=> ?_) (fun h=> ?_)
 ·refine sY ?_;obtain ⟨a7,c7,c8,c9,h⟩:=ba h
  refine cl fun d0=> ?_
  refine oz 9 40 31 h (fun _ e0 h=> ?_) fun d1 h=> ?_
  ·refine ab ?_
   refine xv 4 39 35 h (fun _ d2 h=> ?_) fun e1 h=> ?_
   ·refine ab ?_;exact eP (sJ J J (by decide)) J (cG d2 J) J<|gY
   exact gY
  refine ab ?_;obtain ⟨e2,k,h⟩:=aa h;refine gD (wb (a:=(d1,a7)) [ah d0 28 [iV a7.Zh,iV a7.N,.string a7.S],aQ A3 n3 c3 a1.Zi,aQ A2 n2 c2 a1.Zj,aW B1 94 (iM a1 A2 n2 c2 A3 n3 c3)] hY k J J) ?_;rintro _ _ ⟨rfl,rfl⟩;refine dk h ?_ ?_<;>intro h
  ·exact eY
  refine ab ?_;obtain ⟨e3,h⟩:=ac h;exact lY
 exact eY
def uE (N:Nat)(a0:W3):Option Unit:=
 some ()
theorem D5 {N:Nat}{a0:W3}{r:Unit}(h:uE N a0=some r):Okc Xk 177 [.agg #[iV a0.Zh,iV a0.Zq,iV a0.Zm,iV a0.Zn,W A1 n1 c1,W A2 n2 c2]] ([aQ A1 n1 c1 a0.Zj,aQ A2 n2 c2 a0.Zi]) (fun u post=> ∃a6,u=.func (.func 199) #[] #[pV a6 0]/\post=[ah a6 94 (iM a0 A1 n1 c1 A2 n2 c2)]):=by
 refine ce Tryz.func177 ?_;intro B3;refine ab ?_;refine fS (ja J) ?_;exact eN
def ss (N:Nat)(a0:WZ)(a6:Bool):Option Bool:=
 bif a6 then (some (decide (1<=a0.N))) else ((bif decide (a0.N=0) then (some (decide (0<=a0.Zh))) else (some false)).bind fun a7=>(bif a7 then (some (decide (a0.Zh<=9))) else (some false)).bind fun a8=>some a8)
def xg (a0:WZ):Option Bool:=
 bif decide (a0.Zh=5) then ((bif decide (a0.N=0) then (some (decide ((a0.S.size:Int)<=65536))) else (some false)).bind fun b3=>some b3) else (bif !(a0.S.toList==(⟨#[]⟩:ByteArray).toList) then (some false) else (bif decide (a0.Zh=2) then ((bif decide (a0.N=0) then (some true) else (some (decide (a0.N=1)))).bind fun b6=>some b6) else (bif decide (a0.Zh=3) then ((bif decide ((-9007199254740992)<=a0.N) then (some (decide (a0.N<=9007199254740992))) else (some false)).bind fun b8=>some b8) else (bif decide (a0.Zh=6) then (ss N a0 (decide (a0.Zh=6))) else (bif decide (a0.Zh=7) then (ss N a0 (decide (a0.Zh=7))) else (ss N a0 (decide (a0.Zh=9))))))))
theorem Kg {N:Nat}{a0:WZ}{r:Bool}(h:xg N a0=some r):Okc Xk 178 [(aF a0)] ([]) (fun u post=>u=.bool r/\post=[]):=by
 refine ce Tryz.func178 ?_;intro B1;refine sY ?_;refine gH J h ?_ ?_<;>intro h
 ·refine ab ?_
  refine oz 5 14 9 h (fun _ g3 h=> ?_) fun b3 h=> ?_
  ·refine ab ?_;exact eP (qH J Wz) J (bW g3 J) J<|gY
  exact eY
 refine sY ?_;refine fS (Gi J J) ?_;refine gH J h ?_ ?_<;>intro h
 ·exact eY
 refine sY ?_;refine gH J h ?_ ?_<;>intro h
 ·refine ab ?_;refine gS 4 29 25 h ?_;intro b6 h;exact eY
 refine dk h ?_ ?_<;>intro h
 ·refine ab ?_;refine gS 4 39 35 h ?_;intro b8 h;exact eY
 refine ak (fun s L=> ∃a6,ss N a0 a6=some r/\s=[(1,pV B1 0),(2,.bool false),(40,.bool a6)]/\L=[ah B1 28 (bU a0)]) ?_ ?_
 ·refine dk h ?_ ?_<;>intro h
  ·exact jY
  refine dk h ?_ ?_<;>intro h
  ·exact jY
  exact jY
 rintro _ _ ⟨a6,h,rfl,rfl⟩;refine gH J h ?_ ?_<;>intro h
 ·exact eY
 refine ab ?_;refine gS 4 54 50 h ?_;intro a7 h;refine ab ?_;refine gS 4 59 55 h ?_;intro a8 h;exact eY
def kA (N:Nat)(p2:Bool):Option Bool:=
 bif p2 then (some true) else (some false)
def xh (a0:Int):Option Bool:=
 bif decide (a0=1) then (kA N (decide (a0=1))) else (bif decide (a0=2) then (kA N (decide (a0=2))) else (bif decide (a0=3) then (kA N (decide (a0=3))) else (bif decide (a0=6) then (kA N (decide (a0=6))) else (bif decide (a0=8) then (kA N (decide (a0=8))) else (bif decide (a0=9) then (kA N (decide (a0=9))) else (kA N (decide (a0=10))))))))
theorem Kh {N:Nat}{r:Bool}(h:xh N a0=some r):Okc Xk 200 [iV a0] ([]) (fun u post=>u=.bool r/\post=[]):=by
 refine ce Tryz.func200 ?_;refine sZ ?_;refine ak (fun s L=> ∃p2,kA N p2=some r/\s=[(2,.bool false),(4,.bool p2)]/\L=[]) ?_ ?_
 ·refine dk h ?_ ?_<;>intro h
  ·exact jY
  refine dk h ?_ ?_<;>intro h
  ·exact jY
  refine dk h ?_ ?_<;>intro h
  ·exact jY
  refine dk h ?_ ?_<;>intro h
  ·exact jY
  refine dk h ?_ ?_<;>intro h
  ·exact jY
  refine dk h ?_ ?_<;>intro h
  ·exact jY
  exact jY
 rintro _ _ ⟨p2,h,rfl,rfl⟩;refine gH J h ?_ ?_<;>intro h
 ·exact eY
 exact eY
def jb (N:Nat)(a0:WZ)(a1:Int):Option Bool:=
 (bif decide (a0.Zh=0) then (some true) else (some (decide (a0.Zh=a1)))).bind fun b2=>some b2
theorem ls {N:Nat}{a0:WZ}{r:Bool}(h:jb N a0 a1=some r):Okc Xk 201 [(aF a0),iV a1] ([]) (fun u post=>u=.bool r/\post=[]):=by
 refine ce Tryz.func201 ?_;intro B1;refine ab ?_;refine gS 5 13 8 h ?_;intro b2 h;exact eY
end
end Go.Proofs.YtmcifcmlojonnaaGreatDoor