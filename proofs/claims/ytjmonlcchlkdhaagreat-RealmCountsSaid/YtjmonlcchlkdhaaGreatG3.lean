/- Merged texts: part 3. No conditions of their own. -/
import Derived.Test.YtjmonlcchlkdhaaGreatG2
import Derived.Test.YtjmonlcchlkdhaaGreatChecked
import Derived.ProofKit
set_option maxHeartbeats 4000000
namespace Go.Proofs.YtjmonlcchlkdhaaGreat
section
theorem Tg:type_of% Tryz.underlying4:=Tryz.underlying4
theorem Tf:type_of% Tryz.underlying24:=Tryz.underlying24
theorem Te:type_of% Tryz.underlying9:=Tryz.underlying9
theorem Td:type_of% Tryz.underlying97:=Tryz.underlying97
theorem Tb:type_of% Tryz.underlying134:=Tryz.underlying134
theorem Ta:type_of% Tryz.underlying115:=Tryz.underlying115
theorem SZ:type_of% Tryz.underlying94:=Tryz.underlying94
theorem EM:type_of% Tryz.underlying65:=Tryz.underlying65
theorem Ex:type_of% Tryz.underlying60:=Tryz.underlying60
theorem z9:type_of% Tryz.underlying58:=Tryz.underlying58
theorem t9:type_of% Tryz.underlying50:=Tryz.underlying50
theorem t5:type_of% Tryz.underlying39:=Tryz.underlying39
theorem t0:type_of% Tryz.underlying30:=Tryz.underlying30
variable {A1 A10 A11 A12 A13 A14 A15 A16 A2 A3 A4 A5 A6 A7 A8 A9:Option Addr} {B1 B10 B2 B3 B6 B7 B8 B9 M11 M12 M7 M8 M9 c1 c10 c11 c12 c13 c14 c15 c16 c2 c3 c4 c5 c6 c7 c8 c9 n1 n10 n11 n12 n13 n14 n15 n16 n2 n3 n4 n5 n6 n7 n8 n9:Nat}
open Go.RowKit
class FcI (P:Program) (t:Nat) (v:outParam Value):Prop where
  out: ∀w,(zeroValue t).run P w=.ok v w
class FcB (P:Program) (t:Nat) (vs:List (Nat×Value)) (v:outParam Value):Prop where
  out: ∀w,(Instr.build t vs.toArray).run P w=.ok v w
class RepF {α:Type} (R:Rep α) (f:outParam (α->List Value)):Prop where
  out: ∀S w vs x,R.rel S w vs x->vs=f x
theorem yQ {α:Type}{l:List α}(h:l=[]):l=[]:=h
theorem uS {α:Type}{l t T:List α}{a:α}(h:l=a::t)(k:t=T):l=a::T:=k▸h
inductive FndR (b:Nat) (cs:List Value):List Chunk->Prop
  |w {bt L}:FndR b cs (ab b bt cs::L)
  |r {bt L}:FndR b cs (ar b bt cs::L)
  |s {c L} (h:FndR b cs L):FndR b cs (c::L)
theorem FndR.ix {b:Nat}{cs:List Value}{L:List Chunk}(h:FndR b cs L): ∃(i:Nat) (bt:TypeId),L[i]? =some (ab b bt cs)\/L[i]? =some (ar b bt cs):=by
  induction h with
  |w=>exact ⟨0,_,.inl rfl⟩
  |r=>exact ⟨0,_,.inr rfl⟩
  |s _ ih=>obtain ⟨i,bt,h⟩:=ih;exact ⟨i+1,bt,h⟩
inductive FndW (b:Nat) (bt:TypeId) (cs cs':List Value):List Chunk->List Chunk->Prop
  |w {L}:FndW b bt cs cs' (ab b bt cs::L) (ab b bt cs'::L)
  |s {c L L'} (h:FndW b bt cs cs' L L'):FndW b bt cs cs' (c::L) (c::L')
theorem FndW.ix {b bt:Nat}{cs cs':List Value}{L L':List Chunk}(h:FndW b bt cs cs' L L'): ∃i:Nat,L[i]? =some (ab b bt cs)/\L'=L.set i (ab b bt cs'):=by
  induction h with
  |w=>exact ⟨0,rfl,rfl⟩
  |s _ ih=>obtain ⟨i,h,e⟩:=ih;exact ⟨i+1,h,by rw [e];rfl⟩
inductive FndE {α:Type} (R:Rep α) (v:Value) (xs:List α):List Chunk->Prop
  |w {c L} (h:Fb R v xs c):FndE R v xs (c::L)
  |s {c L} (h:FndE R v xs L):FndE R v xs (c::L)
theorem FndE.ix {α:Type}{R:Rep α}{v:Value}{xs:List α}{L:List Chunk}(h:FndE R v xs L): ∃(i:Nat) (c:Chunk),L[i]? =some c/\Fb R v xs c:=by
  induction h with
  |w h=>exact ⟨0,_,rfl,h⟩
  |s _ ih=>obtain ⟨i,c,h⟩:=ih;exact ⟨i+1,c,h⟩
structure RdS (P:Program) (s:bG) (L:List Chunk) (o:Oper) (v:Value):Prop where
  out:Rd P s L o v
theorem Rc {s:bG}:Kf s []=some []:=rfl
theorem Re {s:bG}{i:Nat}{x:Operand}{v:Value}{r:List (Nat×Operand)}{l:List (Nat×Value)}(h:bC s x=some v)(k:Kf s r=some l):Kf s ((i,x)::r)=some ((i,v)::l):=by unfold Kf;rw [h,k]
section
variable {X:Cx} {ops:Array Oper} {K:K3} {s:bG} {L L':List Chunk} {rest:List Oper} {d:Nat} {ty:TypeId} {pos:String} {af:Array Edge} {gd:Option (Nat×Bool)} {v:Value}
theorem R3 {P:Program}{op:Op}(h:Qy s op=some v):RdS P s L ⟨some d,op,ty,pos,af,gd⟩ v:=⟨fun _ _ _=>fun ρ hρ w _=>LX h ρ hρ w trivial⟩
theorem RX {P:Program}{c x y:Operand}{g:Bool}(hc:bC s c=some (.bool g))(hg:g=true)(hx:bC s x=some v):RdS P s L ⟨some d,.pick c x y,ty,pos,af,gd⟩ v:=⟨fun _ _ _=>gM hg hc hx⟩
theorem RV {P:Program}{c x y:Operand}{g:Bool}(hc:bC s c=some (.bool g))(hg:g=false)(hy:bC s y=some v):RdS P s L ⟨some d,.pick c x y,ty,pos,af,gd⟩ v:=⟨fun _ _ _=>gN hg hc hy⟩
theorem QJ {P:Program}{t f:Nat}{x:Operand}{b o:Nat}[h:FcA0 P t f](hx:bC s x=some (.pointer (some ⟨b,o,none⟩))):RdS P s L ⟨some d,.fieldAddr t x f,ty,pos,af,gd⟩ (.pointer (some ⟨b,o,none⟩)):=⟨fun _ _ _=>ni hx h.out⟩
theorem R2 {P:Program}{t f o':Nat}{x:Operand}{b o:Nat}[h:FcA P t f o'](hx:bC s x=some (.pointer (some ⟨b,o,none⟩))):RdS P s L ⟨some d,.fieldAddr t x f,ty,pos,af,gd⟩ (.pointer (some ⟨b,o+o',none⟩)):=⟨fun _ _ _=>dj hx h.out⟩
theorem R5 {P:Program}{t:TypeId}{x:Operand}{b o:Nat}{cs:List Value}[hu:Fc (fK P t=true)](hx:bC s x=some (.pointer (some ⟨b,o,none⟩)))(hi:FndR b cs L)(hc:cs[o]? =some v):RdS P s L ⟨some d,.load t x,ty,pos,af,gd⟩ v:=⟨by
  obtain ⟨i,bt,h|h⟩:=hi.ix
  ·exact bp i h hx hu.out hc
  ·exact rQ i h hx hu.out hc⟩
theorem RU {P:Program}{t:TypeId}{n:Nat}{x:Operand}{b o:Nat}{cs us:List Value}[hu:FcG P t n](hx:bC s x=some (.pointer (some ⟨b,o,none⟩)))(hi:FndR b cs L)(hc:(cs.drop o).take n=us)(hn:us.length=n):RdS P s L ⟨some d,.load t x,ty,pos,af,gd⟩ (.agg us.toArray):=⟨by
  obtain ⟨i,bt,h|h⟩:=hi.ix
  ·exact cm (us:=us) i h hx (hn▸hu.out) (hn▸hc)
  ·exact KN (us:=us) i h hx (hn▸hu.out) (hn▸hc)⟩
theorem R4 {P:Program}{t:TypeId}{ps:List (Nat×Operand)}{vs:List (Nat×Value)}(hp:Kf s ps=some vs)(hb:FcB P t vs v):RdS P s L ⟨some d,.build t ps.toArray,ty,pos,af,gd⟩ v:=⟨fun _ _ _=>bM hp hb.out⟩
theorem RZ {P:Program}{α:Type}{R:Rep α}{t e sz:Nat}{x y:Operand}{xs:List α}{i:Int}[hu:FcS P t e][hz:FcZ P e sz](hx:bC s x=some v)(hy:bC s y=some (.int .i64 i))(he:FndE R v xs L)(h0:0<=i)(h1:i<xs.length):RdS P s L ⟨some d,.indexAddr t x y,ty,pos,af,gd⟩ (da v i.toNat sz 0):=⟨by
  obtain ⟨j,c,h,e⟩:=he.ix
  exact fA j h e hx hy hu.out hz.out h0 h1⟩
theorem R1 {P:Program}{α:Type}{R:Rep α}{f:α->List Value}{t n sz:Nat}{x:Operand}{us:List Value}{xs:List α}{k off:Nat}{y:α}[hu:FcG P t n](hx:bC s x=some (da v k sz off))(he:FndE R v xs L)(hf:RepF R f)(hy:xs[k]? =some y)(hz:R.sz=sz)(hc:((f y).drop off).take n=us)(hn:us.length=n):RdS P s L ⟨some d,.load t x,ty,pos,af,gd⟩ (.agg us.toArray):=⟨by
  obtain ⟨j,c,h,e⟩:=he.ix;subst hz
  exact pX (us:=us) j h e hx hy (hn▸hu.out) fun S w vs hr=>by rw [hf.out _ _ _ _ hr,hn];exact hc⟩
theorem R0 {P:Program}{α:Type}{R:Rep α}{f:α->List Value}{t sz:Nat}{x:Operand}{xs:List α}{k off:Nat}{y:α}{u:Value}[hu:Fc (fK P t=true)](hx:bC s x=some (da v k sz off))(he:FndE R v xs L)(hf:RepF R f)(hy:xs[k]? =some y)(hz:R.sz=sz)(hc:(f y)[off]? =some u):RdS P s L ⟨some d,.load t x,ty,pos,af,gd⟩ u:=⟨by
  obtain ⟨j,c,h,e⟩:=he.ix;subst hz
  exact gX (u:=u) j h e hx hy hu.out fun S w vs hr=>by rw [hf.out _ _ _ _ hr];exact hc⟩
theorem tR {op:Op}(h:RdS X.P s L ⟨some d,op,ty,pos,af,gd⟩ v)(hn:ij ⟨some d,op,ty,pos,af,gd⟩=true)(hd:Nat.ble (d+1) X.n=true)(k:bT X ops rest K ((d,v)::s) L):RunT X ops ⟨some d,op,ty,pos,af,gd⟩ rest K s L:=⟨fun hh=>vR h.out hn hh hd k⟩
theorem Sk {M:List Chunk}{fuel:Nat}{listed:Array Bool}(h:pz X ops K M fuel listed s L):pz X ops K M fuel listed s L:=h
theorem tN {M:List Chunk}{listed:Array Bool}(hr:Region.ready .any ops listed=[])(h:K .normal s L):pz X ops K M 0 listed s L:=cT hr h
theorem tZ {M:List Chunk}{fuel:Nat}{listed:Array Bool}{op:Op}(i:Nat)(hI:ops.size - (fuel+1)=i)(hi:ops[i]? =some ⟨some d,op,ty,pos,af,gd⟩)(h:RdS X.P s M ⟨some d,op,ty,pos,af,gd⟩ v)(hk:MK ops listed i=true)(hg:bn ops s ⟨some d,op,ty,pos,af,gd⟩=some true)(hd:Nat.ble (d+1) X.n=true)(k:pz X ops K M fuel (listed.setIfInBounds i true) ((d,v)::s) L):pz X ops K M (fuel+1) listed s L:=zR i hi h.out k hk hg hd
theorem tW {t bt:TypeId}{n:Nat}{x y:Operand}{b o:Nat}{cs cs' us:List Value}[hs:FcZ X.P t n](hx:bC s x=some (.pointer (some ⟨b,o,none⟩)))(hy:bC s y=some v)(hv:v.cells.toList=us)(hf:FndW b bt cs cs' L L')(hc':cs.take o++us++cs.drop (o+us.length)=cs')(hn:us.length=n)(h1:us.all (·.oneCell')=true)(hc:Nat.ble (o+us.length) cs.length=true)(k:bT X ops rest K s L'):RunT X ops ⟨none,.store t x y,ty,pos,af,gd⟩ rest K s L:=⟨fun hh=>by
  obtain ⟨i,h,e⟩:=hf.ix
  exact gW (aj (us:=us) (cs':=cs') i h hx hy hv (hn▸hs.out) h1 hc hc') (e▸k) J hh⟩
theorem tA {t:TypeId}{cs:List Value}[hz:FcI X.P t v](hc:v.cells.toList=cs)(hd:Nat.ble (d+1) X.n=true)(k: ∀b,bT X ops rest K ((d,pV b 0)::s) (ab b t cs::L)):RunT X ops ⟨some d,.alloc t,ty,pos,af,gd⟩ rest K s L:=⟨fun hh=>gB (bX hz.out hc) k rfl hh hd⟩
theorem tX {t:TypeId}{x:Operand}{cs:List Value}(hx:bC s x=some v)(hc:v.cells.toList=cs)(hd:Nat.ble (d+1) X.n=true)(k: ∀b,bT X ops rest K ((d,pV b 0)::s) (ab b t cs::L)):RunT X ops ⟨some d,.box t x,ty,pos,af,gd⟩ rest K s L:=⟨fun hh=>gB (tz hx hc) k rfl hh hd⟩
end
end
section
variable {A1 A10 A11 A12 A13 A14 A15 A16 A2 A3 A4 A5 A6 A7 A8 A9:Option Addr} {B1 B10 B2 B3 B6 B7 B8 B9 M11 M12 M7 M8 M9 c1 c10 c11 c12 c13 c14 c15 c16 c2 c3 c4 c5 c6 c7 c8 c9 n1 n10 n11 n12 n13 n14 n15 n16 n2 n3 n4 n5 n6 n7 n8 n9:Nat}
open Go.RowKit
inductive FndL:Chunk->List Chunk->Prop
  |sl {α:Type} {R:Rep α} {v xs L}:FndL (jL R v xs) (jL R v xs::L)
  |so {α:Type} {R:Rep α} {e v xs L}:FndL (jL R v xs) (eK R e v xs::L)
  |bb {b t cs L}:FndL (ar b t cs) (ab b t cs::L)
  |br {b:Nat} {t:TypeId} {cs L}:FndL (ar b t cs) (ar b t cs::L)
  |mm {α β:Type} {ek:α->Value} {ev:β->Value} {m kv L}:FndL (dk ek ev m kv) (am ek ev m kv::L)
  |mr {α β:Type} {ek:α->Value} {ev:β->Value} {m kv L}:FndL (dk ek ev m kv) (dk ek ev m kv::L)
  |s {c d L} (h:FndL c L):FndL c (d::L)
theorem FndL.lent' {c:Chunk}{L:List Chunk}(h:FndL c L): ∃(i:Nat) (d:Chunk),L[i]? =some d/\ ∀(L':List Chunk) (j:Nat),L'[j]? =some d->ze L' c:=by
  induction h with
  |sl=>exact ⟨0,_,rfl,fun _ _ h=>cG h rfl⟩
  |so=>exact ⟨0,_,rfl,fun _ _ h=>ba h⟩
  |bb=>exact ⟨0,_,rfl,fun _ _ h=>cZ h⟩
  |br=>exact ⟨0,_,rfl,fun _ _ h=>cG h rfl⟩
  |mm=>exact ⟨0,_,rfl,fun _ _ h=>lh h⟩
  |mr=>exact ⟨0,_,rfl,fun _ _ h=>cG h rfl⟩
  |s _ ih=>obtain ⟨i,d,h1,h2⟩:=ih;exact ⟨i+1,d,h1,h2⟩
theorem FndL.lent {c:Chunk}{L:List Chunk}(h:FndL c L):ze L c:=by
  obtain ⟨i,d,h1,h2⟩:=h.lent';exact h2 L i h1
def E8 (L pre:List Chunk):Prop:= ∀c∈pre,ze L c
theorem Sh {L:List Chunk}:E8 L []:=aD
theorem Si {L pre:List Chunk}{c:Chunk}(h:FndL c L)(k:E8 L pre):E8 L (c::pre):=hP h.lent k
theorem Q2 {L' L pre:List Chunk}(h:L'=L)(k:E8 L pre):E8 L' pre:=h▸k
theorem Sv {α:Type}{p:α->Prop}{Q:Prop}(k: ∀a,p a->Q):(∃a,p a)->Q:=fun ⟨a,h⟩=>k a h
theorem Sx {a b Q:Prop}(k:b->Q):a/\b->Q:=fun h=>k h.2
theorem Ss {post C:List Chunk}(k: ∀c∈C,jP c):post=C-> ∀c∈post,jP c:=fun h=>h▸k
theorem Su: ∀c∈([]:List Chunk),jP c:=aD
theorem St {α:Type}{sz:Nat}{en:α->List Value}{h1: ∀x,(en x).length=sz}{h2: ∀x,(en x).all (·.oneCell')=true}{e:TypeId}{v:Value}{xs:List α}{l:List Chunk}(k: ∀c∈l,jP c): ∀c∈(eK (Rep.flat sz en h1 h2) e v xs::l),jP c:=hP sf k
theorem Sw {b:Nat}{t:TypeId}{cs:List Value}{l:List Chunk}(k: ∀c∈l,jP c): ∀c∈(ab b t cs::l),jP c:=hP DA k
inductive FndC (c:Chunk):List Chunk->List Chunk->Prop
  |w {L}:FndC c (c::L) L
  |s {d L M} (h:FndC c L M):FndC c (d::L) (d::M)
theorem Ol {c d:Chunk}{L:List Chunk}:Cv (c::d::L) (d::c::L):=DM [1,0] 2 rfl rfl
theorem FndC.cv {c:Chunk}{L M:List Chunk}(h:FndC c L M):Cv L (c::M):=by
  induction h with
  |w=>exact ad _
  |s _ ih=>exact (tg _ ih).trans Ol
inductive FndD (c:Chunk):List Chunk->Prop
  |w {L}:FndD c (c::L)
  |s {d L} (h:FndD c L):FndD c (d::L)
theorem FndD.cv {c:Chunk}{L:List Chunk}(h:FndD c L)(hc:c.ro=true):Cv L (c::L):=by
  obtain ⟨i,hi⟩: ∃i:Nat,L[i]? =some c:=by
    induction h with
    |w=>exact ⟨0,rfl⟩
    |s _ ih=>obtain ⟨i,h⟩:=ih;exact ⟨i+1,h⟩
  exact my i hi hc
def Tk (L pre rest:List Chunk):Prop:=Cv L (pre++rest)
theorem Sb {L:List Chunk}:Tk L [] L:=ad _
theorem Sc {c:Chunk}{L M pre rest:List Chunk}(h:FndC c L M)(k:Tk M pre rest):Tk L (c::pre) rest:=h.cv.trans (tg c k)
theorem RC {c:Chunk}{L pre rest:List Chunk}(h:FndD c L)(hc:c.ro=true)(k:Tk L pre rest):Tk L (c::pre) rest:=(h.cv hc).trans (tg c k)
theorem Sa {α:Type}{R:Rep α}{v:Value}{xs:List α}{L pre rest:List Chunk}(h:FndD (jL R v xs) L)(k:Tk L pre rest):Tk L (jL R v xs::pre) rest:=RC h rfl k
theorem Sd {b:Nat}{t:TypeId}{cs:List Value}{L pre rest:List Chunk}(h:FndD (ar b t cs) L)(k:Tk L pre rest):Tk L (ar b t cs::pre) rest:=RC h rfl k
theorem QR {L' L pre rest:List Chunk}(h:L'=L)(k:Tk L pre rest):Tk L' pre rest:=h▸k
class FcK (P:Program) (f:FuncId):Prop where
  out:iP P f
section
variable {P:Program} {s:bG} {L:List Chunk} {d:Option Nat} {ty:TypeId} {pos:String} {af:Array Edge} {gd:Option (Nat×Bool)}
theorem oR {f:FuncId}{xs:List Operand}{ats:Array TypeId}{vs:List Value}{pre:List Chunk}{R:Value->List Chunk->Prop}(hc:Okc P f vs pre R)[hf:FcK P f](hv:Eb s xs=some vs:=by exact rfl)
    (hp:E8 L pre:=by
      apply Q2 (by repeat (first|exact sk rfl|apply oX rfl|exact rfl))
      repeat (first|exact Sh|apply Si (by with_reducible repeat (first|apply FndL.bb|apply FndL.br|apply FndL.sl|apply FndL.so|apply FndL.mm|apply FndL.mr|apply FndL.s))|apply leZ))
    (hr: ∀v post,R v post-> ∀c∈post,jP c:=by
      intro v post
      repeat (first|(refine Sv ?_;intro _)|refine Sx ?_)
      refine Ss ?_
      repeat (first|exact Su|refine Sw ?_|refine frM ?_|refine St ?_)):OpX P s L ⟨d,.call ⟨.value (.func f),xs.toArray,ats⟩,ty,pos,af,gd⟩ fun u L'=> ∃post,R u post/\L'=post++L:=cp hc hf.out hv hp hr
theorem oC {f:FuncId}{xs:List Operand}{ats:Array TypeId}{vs:List Value}{pre rest:List Chunk}{R:Value->List Chunk->Prop}(hc:Okc P f vs pre R)[hf:FcK P f](hv:Eb s xs=some vs:=by exact rfl)
    (hp:Tk L pre rest:=by
      apply QR (by repeat (first|exact sk rfl|apply oX rfl|exact rfl))
      repeat (first|exact Sb|apply Sa (by with_reducible repeat (first|apply FndD.w|apply FndD.s))|apply Sd (by with_reducible repeat (first|apply FndD.w|apply FndD.s))|apply tkM (by with_reducible repeat (first|apply FndD.w|apply FndD.s))|apply Sc (by with_reducible repeat (first|apply FndC.w|apply FndC.s)))):OpX P s L ⟨d,.call ⟨.value (.func f),xs.toArray,ats⟩,ty,pos,af,gd⟩ fun u L'=> ∃post,R u post/\L'=post++rest:=xz hc hf.out hv hp
end
inductive FndX (b:Nat) (bt:TypeId) (cs:List Value):List Chunk->Prop
  |w {L}:FndX b bt cs (ab b bt cs::L)
  |s {c L} (h:FndX b bt cs L):FndX b bt cs (c::L)
theorem FndX.ix {b bt:Nat}{cs:List Value}{L:List Chunk}(h:FndX b bt cs L): ∃i:Nat,L[i]? =some (ab b bt cs):=by
  induction h with
  |w=>exact ⟨0,rfl⟩
  |s _ ih=>obtain ⟨i,h⟩:=ih;exact ⟨i+1,h⟩
theorem aN {P:Program}{L:List Chunk}{s:bG}:All2 (t6 P L s) [] []:=.nil
theorem aT {P:Program}{L:List Chunk}{s:bG}{t:Nat}{v:Value}{rs:List ResultVar}{vs:List Value}(h:jO s t=some v)(k:All2 (t6 P L s) rs vs):All2 (t6 P L s) (.tmp t::rs) (v::vs):=.cons (pg h) k
theorem aS {P:Program}{L:List Chunk}{s:bG}{t ty n bt b:Nat}{cs us:List Value}{rs:List ResultVar}{vs:List Value}(hu:FcG P ty n)(hl:jO s t=some (.pointer (some ⟨b,0,none⟩)))(hi:FndX b bt cs L)(hc:cs=us)(hn:us.length=n)(k:All2 (t6 P L s) rs vs):All2 (t6 P L s) (.cell t ty::rs) (.agg us.toArray::vs):=by
  obtain ⟨i,hi⟩:=hi.ix;subst hc;exact .cons (bo i hi hl (hn▸hu.out)) k
theorem aO {P:Program}{L:List Chunk}{s:bG}{t ty bt b:Nat}{v:Value}{rs:List ResultVar}{vs:List Value}(hu:Fc (fK P ty=true))(hl:jO s t=some (.pointer (some ⟨b,0,none⟩)))(hi:FndX b bt [v] L)(k:All2 (t6 P L s) rs vs):All2 (t6 P L s) (.cell t ty::rs) (v::vs):=by
  obtain ⟨i,hi⟩:=hi.ix;exact .cons (Fo i hi hl hu.out) k
theorem On {L' L T:List Chunk}(h:L'=L)(k:Cv L T):Cv L' T:=h▸k
theorem QD {c:Chunk}{L T:List Chunk}(k:Cv L T):Cv (c::L) T:=(cv_tl).trans k
theorem QB {L:List Chunk}:Cv L []:=fun Z w h=>by
  have:=(DM (L:=L) [] L.length (by simp [D9]) (by simp)) Z w h;simpa [BY] using this
theorem QC {c:Chunk}{L M L2:List Chunk}(h:FndC c L M)(k:Cv M L2):Cv L (c::L2):=h.cv.trans (tg c k)
theorem QA {α:Type}{R:Rep α}{v:Value}{xs:List α}{L L2:List Chunk}(h:FndD (jL R v xs) L)(k:Cv L L2):Cv L (jL R v xs::L2):=(h.cv rfl).trans (tg _ k)
theorem Rf {X:Cx}{fn:Func}{R:Value->List Chunk->Prop}{s:bG}{L L2:List Chunk}{rs:List ResultVar}{vs:List Value}{v:Value}(hr:fn.results=rs.toArray)(h1:All2 (t6 X.P L s) rs vs)(hv:QN vs=v)(hR:R v L2)(hc:Cv L L2):Kv X fn R .ret s L:=fR hr h1 hv hc hR
theorem eN {p:Prop}(hh:p:=by
    obtain rfl:=bS h
    first|apply Rf rfl|apply endN rfl
    repeat (first|exact aN|apply aT rfl|apply aS (by infer_instance) rfl (by with_reducible repeat (first|apply FndX.w|apply FndX.s)) (by repeat (first|exact yQ rfl|apply uS rfl)) (by exact rfl)|apply aO (by infer_instance) rfl (by with_reducible repeat (first|apply FndX.w|apply FndX.s)))
    exact J
    repeat (apply Exists.intro)
    exact ⟨J,J⟩
    all_goals (try apply On (by repeat (first|exact sk rfl|apply oX rfl|exact rfl)))
    all_goals (repeat (first|exact QB|apply QA (by with_reducible repeat (first|apply FndD.w|apply FndD.s))|apply QC (by with_reducible repeat (first|apply FndC.w|apply FndC.s))|apply cwF (by with_reducible repeat (first|apply FndC.w|apply FndC.s))|apply cwZ|apply cwY|exact ad _|apply QD))):p:=hh
theorem Sj {Fam:bG->List Chunk->Prop}{s s2:bG}{L L2:List Chunk}(h:Fam s2 L2)(hs:AB s s2)(hc:Cv L L2): ∃s2 L2,Fam s2 L2/\AB s s2/\Cv L L2:=⟨s2,L2,h,hs,hc⟩
theorem jN {p:Prop}(hh:p:=by
    apply Sj
    repeat (apply Exists.intro)
    exact ⟨h,J,J⟩
    all_goals (try exact sA)
    all_goals (try apply On (by repeat (first|exact sk rfl|apply oX rfl|exact rfl)))
    all_goals (repeat (first|exact QB|apply QA (by with_reducible repeat (first|apply FndD.w|apply FndD.s))|apply QC (by with_reducible repeat (first|apply FndC.w|apply FndC.s))|apply cwF (by with_reducible repeat (first|apply FndC.w|apply FndC.s))|apply cwZ|apply cwY|exact ad _|apply QD))):p:=hh
theorem Sg {Fam:Nat->bG->List Chunk->Prop}{m:Nat}{s s2:bG}{L L2:List Chunk}(h:Fam m s2 L2)(hs:AB s s2)(hc:Cv L L2): ∃m' s3 L3,m'<m+1/\Fam m' s3 L3/\AB s s3/\Cv L L3:=⟨m,s2,L2,TR _,h,hs,hc⟩
theorem lN {p:Prop}(hh:p:=by
    apply Sg
    repeat (apply Exists.intro)
    exact ⟨h,J,J⟩
    all_goals (try exact sA)
    all_goals (try apply On (by repeat (first|exact sk rfl|apply oX rfl|exact rfl)))
    all_goals (repeat (first|exact QB|apply QA (by with_reducible repeat (first|apply FndD.w|apply FndD.s))|apply QC (by with_reducible repeat (first|apply FndC.w|apply FndC.s))|apply cwF (by with_reducible repeat (first|apply FndC.w|apply FndC.s))|apply cwZ|apply cwY|exact ad _|apply QD))):p:=hh
instance repInt {k:IntKind}:RepF (dg k) (fun x=> [.int k x]):=⟨fun _ _ _ _ h=>h⟩
instance repStr:RepF qu (fun x=> [.string x]):=⟨fun _ _ _ _ h=>h⟩
section
variable {P:Program} {s:bG} {L:List Chunk} {d:Nat} {ty:TypeId} {pos:String} {af:Array Edge} {gd:Option (Nat×Bool)} {v:Value}
theorem RY {α:Type}{R:Rep α}{t e:TypeId}{x:Operand}{xs:List α}[hu:FcS P t e](hx:bC s x=some v)(he:FndE R v xs L):RdS P s L ⟨some d,.call ⟨.builtin .len, #[x], #[t]⟩,ty,pos,af,gd⟩ (.int .i64 (xs.length:Int)):=⟨by
  obtain ⟨j,c,h,e⟩:=he.ix
  exact ki j h e hx hu.out⟩
theorem QL {t u:TypeId}{x y:Operand}{a b:Int}(hx:bC s x=some (.int .i64 a))(hy:bC s y=some (.int .i64 b))(h:in64 (a+b)):RdS P s L ⟨some d,.binOp .add t x y u,ty,pos,af,gd⟩ (.int .i64 (a+b)):=⟨fun _ _ _=>dL hx hy h.1 h.2⟩
theorem QI {t u:TypeId}{x y:Operand}{a b:Int}(hx:bC s x=some (.int .i64 a))(hy:bC s y=some (.int .i64 b))(h:in64 (a - b)):RdS P s L ⟨some d,.binOp .sub t x y u,ty,pos,af,gd⟩ (.int .i64 (a - b)):=⟨fun _ _ _=>yX hx hy h.1 h.2⟩
theorem RS {x:Operand}{i:Nat}{vs:Array Value}(hx:bC s x=some (.tuple vs))(hi:vs.toList[i]? =some v):RdS P s L ⟨some d,.extract x i,ty,pos,af,gd⟩ v:=⟨fun _ _ _=>sj hx (by simpa using hi)⟩
theorem PM {op:Op}(h:RdS P s L ⟨some d,op,ty,pos,af,gd⟩ v:=by
  first
    |exact RS rfl rfl
    |exact R3 rfl
    |exact QJ rfl
    |exact R2 rfl
    |exact R5 rfl (by with_reducible repeat (first|apply FndR.w|apply FndR.r|apply FndR.s)) (by exact rfl)
    |exact RU rfl (by with_reducible repeat (first|apply FndR.w|apply FndR.r|apply FndR.s)) (by repeat (first|exact yQ rfl|apply uS rfl)) (by exact rfl)
    |exact R4 (by repeat (first|exact Rc|apply Re rfl)) (by infer_instance)
    |exact RY rfl (by with_reducible repeat (first|apply FndE.w aM|apply FndE.w aB|apply FndE.s))
    |exact RZ rfl rfl (by with_reducible repeat (first|apply FndE.w aM|apply FndE.w aB|apply FndE.s)) (by assumption) (by assumption)
    |exact R1 rfl (by with_reducible repeat (first|apply FndE.w aM|apply FndE.w aB|apply FndE.s)) (by infer_instance) (by assumption) (by exact rfl) (by repeat (first|exact yQ rfl|apply uS rfl)) (by exact rfl)
    |exact R0 rfl (by with_reducible repeat (first|apply FndE.w aM|apply FndE.w aB|apply FndE.s)) (by infer_instance) (by assumption) (by exact rfl) (by exact rfl)
    |exact QL rfl rfl (by assumption)
    |exact QI rfl rfl (by assumption)
    |exact RX rfl (by assumption) rfl
    |exact RV rfl (by assumption) rfl):RdS P s L ⟨some d,op,ty,pos,af,gd⟩ v:=h
end
section
variable {X:Cx} {ops:Array Oper} {K:K3} {s:bG} {L:List Chunk} {l:List Oper} {d:Nat} {ty:TypeId} {pos:String} {af:Array Edge} {gd:Option (Nat×Bool)}
theorem Sq {A B:List Chunk}(h:bT X ops l K s (A++B)):bT X ops l K s (A++B):=h
theorem Sn {A:List Chunk}{c:Chunk}{i:Nat}(h:bT X ops l K s (A.set i c)):bT X ops l K s (A.set i c):=h
theorem Q4 {A:List Chunk}{c:Chunk}{i:Nat}{y:Code}(h:Wq X y K s (A.set i c)):Wq X y K s (A.set i c):=h
theorem So {A B:List Chunk}{c:Code}(h:Wq X c K s (A++B)):Wq X c K s (A++B):=h
end
theorem ac {p q:Prop}(k:q)(h:Bxd q->p:=by
  intro k
  repeat (first
    | (with_reducible first|refine Sq ?_|refine Sn ?_
       refine cU ?_)
    | (with_reducible refine PI ?_
       refine Q8 J ?_
       first
         | (refine QO ?_
            first
              |refine tR PM rfl rfl ?_
              |refine tW rfl rfl (by repeat (first|exact yQ rfl|apply uS rfl)) (by with_reducible repeat (first|apply FndW.w|apply FndW.s)) (by repeat (first|exact yQ rfl|apply uS rfl)) (by exact rfl) (by exact rfl) (by exact rfl) ?_
              |refine tA (by repeat (first|exact yQ rfl|apply uS rfl)) rfl ?_
              |refine tX rfl (by repeat (first|exact yQ rfl|apply uS rfl)) rfl ?_)
         |refine QP ?_)
    | (with_reducible refine PI ?_
       fail_if_success with_reducible refine Q6 ?_
       refine Q5 J ?_)
    | (with_reducible first|refine So ?_|refine Q4 ?_
       refine PN ?_)
    | (with_reducible refine Q3 ?_
       first
         |refine aG (qj ?_)
         |with_reducible refine qj ?_
         |with_reducible refine Ii ?_
         | (fail_if_success with_reducible refine Q7 ?_
            with_reducible refine tq ?_)
         |with_reducible refine ME ?_
         |with_reducible refine Ij ?_)
    | (with_reducible refine Sk ?_
       first
         |refine tZ _ rfl rfl PM I (by exact rfl) (by exact rfl) ?_
         |refine tU _ rfl rfl (by exact rfl) I (by exact rfl) ?_
         |refine tN I ?_)
    |with_reducible refine yM ?_
    |with_reducible refine Oq ?_
    |with_reducible refine Pt ?_
    |with_reducible refine Ps ?_
    |with_reducible refine O6 ?_
    |with_reducible refine O7 ?_)
  exact k.un):p:=h ⟨k⟩
structure CvA (L L2:List Chunk):Prop where
  out:Cv L L2
theorem cX {L L2:List Chunk}(h:CvA L L2:=by
    refine CvA.mk ?_;apply On (by repeat (first|exact sk rfl|apply oX rfl|exact rfl))
    repeat (first|exact QB|apply QA (by with_reducible repeat (first|apply FndD.w|apply FndD.s))|apply QC (by with_reducible repeat (first|apply FndC.w|apply FndC.s))|apply cwF (by with_reducible repeat (first|apply FndC.w|apply FndC.s))|apply cwZ|apply cwY|exact ad _|apply QD)):Cv L L2:=h.out
theorem gJ {X:Cx}{ops:Array Oper}{s s2:bG}{L L2:List Chunk}{pd:Nat}{a b:Bool}(h:some a=some b)(hs:AB s ((pd,.bool a)::s2):=by exact sA)(hl:Cv L L2:=by exact cX):bT X ops [] (BT ((pd,.bool b)::s2) L2) s L:=by
  cases h;exact cJ hs hl
theorem gS {ρ:Type}{X:Cx}{ops:Array Oper}{K:K3}{s:bG}{L:List Chunk}{l:List Oper}(k pd gc:Nat){c:Bool}{u v:Option Bool}{f:Bool->Option ρ}{r:ρ}(h:(bif c then u else v).bind f=some r)(k2: ∀b,f b=some r->bT X ops (l.drop k) K ((pd,.bool b)::s) L)
    (hc:bC s (.tmp gc)=some (.bool c):=by exact rfl)
    (h1: ∀b,c=true->u=some b->bT X ops (l.take k) (BT ((pd,.bool b)::s) L) s L:=by
      intro b g h;refine ac ?_
      exact gJ h)
    (h2: ∀b,c=false->v=some b->bT X ops (l.take k) (BT ((pd,.bool b)::s) L) s L:=by
      intro b g h;refine ac ?_
      exact gJ h):bT X ops l K s L:=by
  obtain ⟨b,hb,h⟩:=aa h;refine aR k pd b ?_ (k2 b h)
  cases hg:c with
  |true=>exact h1 b hg (aE hg hb)
  |false=>exact h2 b hg (aF hg hb)
end
section
variable {A1 A10 A11 A12 A13 A14 A15 A16 A2 A3 A4 A5 A6 A7 A8 A9:Option Addr} {B1 B10 B2 B3 B6 B7 B8 B9 M11 M12 M7 M8 M9 c1 c10 c11 c12 c13 c14 c15 c16 c2 c3 c4 c5 c6 c7 c8 c9 n1 n10 n11 n12 n13 n14 n15 n16 n2 n3 n4 n5 n6 n7 n8 n9:Nat}
open Go.RowKit
def R9:Chunk where
 ok _ _ _:=True
 loc:=fun _ h=>h
 mono:=fun _ h=>h
 ro:=true
 dup:=fun _ _ _ _ h=>h
section
variable {P:Program} {s:bG} {L:List Chunk} {d:Option Nat} {ty:TypeId} {pos:String} {af:Array Edge} {gd:Option (Nat×Bool)}
end
end
section
variable {A1 A10 A11 A12 A13 A14 A15 A16 A2 A3 A4 A5 A6 A7 A8 A9:Option Addr} {B1 B10 B2 B3 B6 B7 B8 B9 M11 M12 M7 M8 M9 c1 c10 c11 c12 c13 c14 c15 c16 c2 c3 c4 c5 c6 c7 c8 c9 n1 n10 n11 n12 n13 n14 n15 n16 n2 n3 n4 n5 n6 n7 n8 n9:Nat}
open Go.RowKit
theorem bz {α ρ:Type}{xs:List α}{i:Int}{f:α->Option ρ}{r:ρ}(h:(aw xs i).bind f=some r): ∃x,0<=i/\i<xs.length/\xs[i.toNat]? =some x/\f x=some r:=by
  obtain ⟨x,hx,h⟩:=aa h;obtain ⟨l,u,hx⟩:=Kc hx;exact ⟨x,l,u,hx,h⟩
theorem cA {P:Program}{fn:Func}{R:Value->List Chunk->Prop}{f:FuncId}{c:Code}{args:List Value}{L:List Chunk}{q:Prop}(hf:P.funcs[f]? =some fn)(k:q)(hb:fn.body=some c:=by exact rfl)(hn:Nat.ble args.length fn.ntmps=true:=by exact rfl)
    (h:Bxd q->Wq ⟨P,fn.ntmps,none⟩ c (Kv ⟨P,fn.ntmps,none⟩ fn R) (qN args 0) L:=by
      intro k;simp only [qN];refine ac ?_
      exact k.un):Okc P f args L R:=Dc hf hb hn (h ⟨k⟩)
theorem eY {p:Prop}(hh:p:=by
    refine ac ?_
    exact eN):p:=hh
theorem jY {p:Prop}(hh:p:=by
    refine ac ?_
    exact jN):p:=hh
theorem lY {p:Prop}(hh:p:=by
    refine ac ?_
    exact lN):p:=hh
theorem gY {p:Prop}(hh:p:=by
    refine ac ?_
    exact gJ h):p:=hh
theorem jg {p:Prop}{q:Nat->Prop}(k: ∀b,q b)(h:(∀b,Bxd (q b))->p:=by
    intro k;refine ac ?_;intro b;refine ac ?_
    exact (k b).un):p:=h fun b=>⟨k b⟩
theorem sY {p q:Prop}(k:q)(h:Bxd q->p:=by
    intro k;refine ac ?_;refine aG ?_;refine ac ?_
    exact k.un):p:=h ⟨k⟩
theorem sZ {p q:Prop}(k:q)(h:Bxd q->p:=by
    intro k;refine aG ?_;refine ac ?_
    exact k.un):p:=h ⟨k⟩
section
variable {X:Cx} {K:K3} {s:bG} {L:List Chunk}
theorem fw {p:Prop}{ρ:Type}{c:Operand}{x y:Code}{b:Bool}{u v:Option ρ}{r:Option ρ}(h:(bif b then u else v)=r)(ht:u=r->Wq X x K s L)(hf:v=r->Wq X y K s L)(h0:Bxd (Wq X (.cond c x y) K s L)->p:=by
      intro k;refine ac ?_
      exact k.un) (hc:bC s c=some (.bool b):=by exact rfl):p:=h0 ⟨gH hc h ht hf⟩
variable {ops:Array Oper} {rest:List Oper} {d:Nat} {op:Op} {ty:TypeId} {pos:String} {af:Array Edge} {gd:Option (Nat×Bool)} {q:Prop}
theorem EL {v:Value}(h:Rd X.P s L ⟨some d,op,ty,pos,af,gd⟩ v)(k:q)(hr:Bxd q->bT X ops rest K ((d,v)::s) L:=by
      intro k;refine ac ?_
      exact k.un) (hn:ij ⟨some d,op,ty,pos,af,gd⟩=true:=by rfl) (hg:bn ops s ⟨some d,op,ty,pos,af,gd⟩=some true:=by rfl) (hd:Nat.ble (d+1) X.n=true:=by rfl):bT X ops (⟨some d,op,ty,pos,af,gd⟩::rest) K s L:=gR h (hr ⟨k⟩) hn hg hd
theorem fC {v:Value}(h:Ev X.P s (fun _=>True) ⟨some d,op,ty,pos,af,gd⟩ v)(k:q)(hr:Bxd q->bT X ops rest K ((d,v)::s) L:=by
      intro k;refine ac ?_
      exact k.un) (hn:ij ⟨some d,op,ty,pos,af,gd⟩=true:=by rfl) (hg:bn ops s ⟨some d,op,ty,pos,af,gd⟩=some true:=by rfl) (hd:Nat.ble (d+1) X.n=true:=by rfl):bT X ops (⟨some d,op,ty,pos,af,gd⟩::rest) K s L:=gE h (hr ⟨k⟩) hn hg hd
theorem kD {v:Value}{C Z:List Chunk}(h:OpX X.P s L ⟨some d,op,ty,pos,af,gd⟩ fun u L'=> ∃post,(u=v/\post=C)/\L'=post++Z)(k:q)(hr:Bxd q->bT X ops rest K ((d,v)::s) (C++Z):=by
      intro k;refine ac ?_
      exact k.un) (hn:ij ⟨some d,op,ty,pos,af,gd⟩=true:=by rfl) (hg:bn ops s ⟨some d,op,ty,pos,af,gd⟩=some true:=by rfl) (hd:Nat.ble (d+1) X.n=true:=by rfl):bT X ops (⟨some d,op,ty,pos,af,gd⟩::rest) K s L:=gV h (hr ⟨k⟩) hn hg hd
theorem HZ {Z:List Chunk}(h:OpX X.P s L ⟨none,op,ty,pos,af,gd⟩ fun _ L'=>L'=Z)(k:q)(hr:Bxd q->bT X ops rest K s Z:=by
      intro k;refine ac ?_
      exact k.un) (hn:ij ⟨none,op,ty,pos,af,gd⟩=true:=by rfl) (hg:bn ops s ⟨none,op,ty,pos,af,gd⟩=some true:=by rfl):bT X ops (⟨none,op,ty,pos,af,gd⟩::rest) K s L:=gW h (hr ⟨k⟩) hn hg
theorem Sr {R:Value->List Chunk->Prop}{q:Nat->Prop}(h:OpX X.P s L ⟨some d,op,ty,pos,af,gd⟩ R)(k: ∀(b:Nat),q b)(hr:(∀(b:Nat),Bxd (q b))-> ∀v L',R v L'->bT X ops rest K ((d,v)::s) L':=by
      intro k
      first|(rintro _ _ ⟨_,⟨b,rfl,rfl⟩,rfl⟩;refine ac ?_;exact (k b).un)|(rintro _ _ ⟨b,rfl,rfl⟩;refine ac ?_;exact (k b).un)) (hn:ij ⟨some d,op,ty,pos,af,gd⟩=true:=by rfl) (hg:bn ops s ⟨some d,op,ty,pos,af,gd⟩=some true:=by rfl) (hd:Nat.ble (d+1) X.n=true:=by rfl):bT X ops (⟨some d,op,ty,pos,af,gd⟩::rest) K s L:=gD h (hr fun b=>⟨k b⟩) hn hg hd
theorem nk {R:Value->List Chunk->Prop}{q:Option Addr->Nat->Nat->Prop}(h:OpX X.P s L ⟨some d,op,ty,pos,af,gd⟩ R)(k: ∀(x0:Option Addr) (x1:Nat) (x2:Nat),q x0 x1 x2)(hr:(∀(x0:Option Addr) (x1:Nat) (x2:Nat),Bxd (q x0 x1 x2))-> ∀v L',R v L'->bT X ops rest K ((d,v)::s) L':=by
      intro k
      first|(rintro _ _ ⟨_,⟨x0,x1,x2,rfl,rfl⟩,rfl⟩;refine ac ?_;exact (k x0 x1 x2).un)|(rintro _ _ ⟨x0,x1,x2,rfl,rfl⟩;refine ac ?_;exact (k x0 x1 x2).un)) (hn:ij ⟨some d,op,ty,pos,af,gd⟩=true:=by rfl) (hg:bn ops s ⟨some d,op,ty,pos,af,gd⟩=some true:=by rfl) (hd:Nat.ble (d+1) X.n=true:=by rfl):bT X ops (⟨some d,op,ty,pos,af,gd⟩::rest) K s L:=gD h (hr fun x0 x1 x2=>⟨k x0 x1 x2⟩) hn hg hd
theorem FN {R:Value->List Chunk->Prop}{q:Option Addr->Nat->Nat->Option Addr->Nat->Nat->Prop}(h:OpX X.P s L ⟨some d,op,ty,pos,af,gd⟩ R)(k: ∀(x0:Option Addr) (x1:Nat) (x2:Nat) (x3:Option Addr) (x4:Nat) (x5:Nat),q x0 x1 x2 x3 x4 x5)(hr:(∀(x0:Option Addr) (x1:Nat) (x2:Nat) (x3:Option Addr) (x4:Nat) (x5:Nat),Bxd (q x0 x1 x2 x3 x4 x5))-> ∀v L',R v L'->bT X ops rest K ((d,v)::s) L':=by
      intro k
      first|(rintro _ _ ⟨_,⟨x0,x1,x2,x3,x4,x5,rfl,rfl⟩,rfl⟩;refine ac ?_;exact (k x0 x1 x2 x3 x4 x5).un)|(rintro _ _ ⟨x0,x1,x2,x3,x4,x5,rfl,rfl⟩;refine ac ?_;exact (k x0 x1 x2 x3 x4 x5).un)) (hn:ij ⟨some d,op,ty,pos,af,gd⟩=true:=by rfl) (hg:bn ops s ⟨some d,op,ty,pos,af,gd⟩=some true:=by rfl) (hd:Nat.ble (d+1) X.n=true:=by rfl):bT X ops (⟨some d,op,ty,pos,af,gd⟩::rest) K s L:=gD h (hr fun x0 x1 x2 x3 x4 x5=>⟨k x0 x1 x2 x3 x4 x5⟩) hn hg hd
theorem Qx {R:Value->List Chunk->Prop}{q:Option Addr->Nat->Nat->Option Addr->Nat->Nat->Option Addr->Nat->Nat->Prop}(h:OpX X.P s L ⟨some d,op,ty,pos,af,gd⟩ R)(k: ∀(x0:Option Addr) (x1:Nat) (x2:Nat) (x3:Option Addr) (x4:Nat) (x5:Nat) (x6:Option Addr) (x7:Nat) (x8:Nat),q x0 x1 x2 x3 x4 x5 x6 x7 x8)(hr:(∀(x0:Option Addr) (x1:Nat) (x2:Nat) (x3:Option Addr) (x4:Nat) (x5:Nat) (x6:Option Addr) (x7:Nat) (x8:Nat),Bxd (q x0 x1 x2 x3 x4 x5 x6 x7 x8))-> ∀v L',R v L'->bT X ops rest K ((d,v)::s) L':=by
      intro k
      first|(rintro _ _ ⟨_,⟨x0,x1,x2,x3,x4,x5,x6,x7,x8,rfl,rfl⟩,rfl⟩;refine ac ?_;exact (k x0 x1 x2 x3 x4 x5 x6 x7 x8).un)|(rintro _ _ ⟨x0,x1,x2,x3,x4,x5,x6,x7,x8,rfl,rfl⟩;refine ac ?_;exact (k x0 x1 x2 x3 x4 x5 x6 x7 x8).un)) (hn:ij ⟨some d,op,ty,pos,af,gd⟩=true:=by rfl) (hg:bn ops s ⟨some d,op,ty,pos,af,gd⟩=some true:=by rfl) (hd:Nat.ble (d+1) X.n=true:=by rfl):bT X ops (⟨some d,op,ty,pos,af,gd⟩::rest) K s L:=gD h (hr fun x0 x1 x2 x3 x4 x5 x6 x7 x8=>⟨k x0 x1 x2 x3 x4 x5 x6 x7 x8⟩) hn hg hd
theorem Qd {R:Value->List Chunk->Prop}{q:Option Addr->Nat->Nat->Option Addr->Nat->Nat->Option Addr->Nat->Nat->Option Addr->Nat->Nat->Prop}(h:OpX X.P s L ⟨some d,op,ty,pos,af,gd⟩ R)(k: ∀(x0:Option Addr) (x1:Nat) (x2:Nat) (x3:Option Addr) (x4:Nat) (x5:Nat) (x6:Option Addr) (x7:Nat) (x8:Nat) (x9:Option Addr) (a1:Nat) (a2:Nat),q x0 x1 x2 x3 x4 x5 x6 x7 x8 x9 a1 a2)(hr:(∀(x0:Option Addr) (x1:Nat) (x2:Nat) (x3:Option Addr) (x4:Nat) (x5:Nat) (x6:Option Addr) (x7:Nat) (x8:Nat) (x9:Option Addr) (a1:Nat) (a2:Nat),Bxd (q x0 x1 x2 x3 x4 x5 x6 x7 x8 x9 a1 a2))-> ∀v L',R v L'->bT X ops rest K ((d,v)::s) L':=by
      intro k
      first|(rintro _ _ ⟨_,⟨x0,x1,x2,x3,x4,x5,x6,x7,x8,x9,a1,a2,rfl,rfl⟩,rfl⟩;refine ac ?_;exact (k x0 x1 x2 x3 x4 x5 x6 x7 x8 x9 a1 a2).un)|(rintro _ _ ⟨x0,x1,x2,x3,x4,x5,x6,x7,x8,x9,a1,a2,rfl,rfl⟩;refine ac ?_;exact (k x0 x1 x2 x3 x4 x5 x6 x7 x8 x9 a1 a2).un)) (hn:ij ⟨some d,op,ty,pos,af,gd⟩=true:=by rfl) (hg:bn ops s ⟨some d,op,ty,pos,af,gd⟩=some true:=by rfl) (hd:Nat.ble (d+1) X.n=true:=by rfl):bT X ops (⟨some d,op,ty,pos,af,gd⟩::rest) K s L:=gD h (hr fun x0 x1 x2 x3 x4 x5 x6 x7 x8 x9 a1 a2=>⟨k x0 x1 x2 x3 x4 x5 x6 x7 x8 x9 a1 a2⟩) hn hg hd
end
def Zl (_:List Nat)(p:Prop):Prop:=p
theorem QH {p:Prop}(h:p):Zl [] p:=h
section
variable {X:Cx} {ops:Array Oper} {K:K3} {s:bG} {L M:List Chunk} {fuel:Nat} {listed:Array Bool} {d:Nat} {op:Op} {ty:TypeId} {pos:String} {af:Array Edge} {gd:Option (Nat×Bool)}
theorem QG (i:Nat){l:List Nat}{v:Value}(hi:ops[i]? =some ⟨some d,op,ty,pos,af,gd⟩)(h:RdS X.P s M ⟨some d,op,ty,pos,af,gd⟩ v)(hk:MK ops listed i=true)(hg:bn ops s ⟨some d,op,ty,pos,af,gd⟩=some true)(hd:Nat.ble (d+1) X.n=true)(k:Zl l (pz X ops K M fuel (listed.setIfInBounds i true) ((d,v)::s) L)):Zl (i::l) (pz X ops K M (fuel+1) listed s L):=zR i hi h.out k hk hg hd
end
theorem zY (l:List Nat){p q:Prop}(k:q)(h:Bxd q->Zl l p:=by
    intro k
    repeat (refine QG _ rfl PM I (by exact rfl) (by exact rfl) ?_)
    refine QH ?_
    exact k.un):p:=h ⟨k⟩
theorem RR {l:List Nat}{p q:Prop}(f:q->p)(h:Zl l q):Zl l p:=f h
theorem zX (l:List Nat){p q:Prop}(k:q)(h:Bxd q->Zl l p:=by
    intro k
    repeat (refine QG _ rfl PM I (by exact rfl) (by exact rfl) ?_)
    refine QH ?_;refine cT I ?_
    exact k.un):p:=h ⟨k⟩
theorem dY (l:List Nat){p q:Prop}(k:q)(h:Bxd q->Zl l p:=by
    intro k;refine RR (fun h=>aG (bV I _ (ad _) h)) ?_
    repeat (refine QG _ rfl PM I (by exact rfl) (by exact rfl) ?_)
    refine QH ?_
    exact k.un):p:=h ⟨k⟩
end
section
variable {A1 A10 A11 A12 A13 A14 A15 A16 A2 A3 A4 A5 A6 A7 A8 A9:Option Addr} {B1 B10 B2 B3 B6 B7 B8 B9 M11 M12 M7 M8 M9 c1 c10 c11 c12 c13 c14 c15 c16 c2 c3 c4 c5 c6 c7 c8 c9 n1 n10 n11 n12 n13 n14 n15 n16 n2 n3 n4 n5 n6 n7 n8 n9:Nat}
open Go.RowKit Asn
set_option maxRecDepth 20000
structure Tx where
 UD:Int
 Uu:Int
 Uq:Int
 Ut:Int
 Uj:Int
 UC:Int
 UE:Int
 deriving DecidableEq,Inhabited
def Gm:Rep Tx:=.flat 7 (fun x=> [iV x.UD,iV x.Uu,iV x.Uq,iV x.Ut,iV x.Uj,iV x.UC,iV x.UE]) (fun _=>rfl) (fun _=>rfl)
structure Tw where
 at_:TW
 deriving DecidableEq,Inhabited
structure Ty where
 Ui:Int
 N:Int
 S:ByteArray
 deriving DecidableEq,Inhabited
abbrev TN:=List Ty
def ap:Rep Ty:=.flat 3 (fun x=> [iV x.Ui,iV x.N,.string x.S]) (fun _=>rfl) (fun _=>rfl)
structure TB where
 Ui:Int
 Uw:Int
 Uv:Int
 Ux:Int
 Uo:TN
 Um:TN
 deriving DecidableEq,Inhabited
abbrev TV:=List TB
def eT:Rep TB where
 sz:=6
 rel S w vs x:= ∃A4 n4 c4 A5 n5 c5,vs=[iV x.Ui,iV x.Uw,iV x.Uv,iV x.Ux,U A4 n4 c4,U A5 n5 c5]/\SlR ap S w (U A4 n4 c4) x.Uo/\SlR ap S w (U A5 n5 c5) x.Um
 loc:=fun h ⟨_,_,_,_,_,_,e,h4,h5⟩=>⟨_,_,_,_,_,_,e,h4.loc h,h5.loc h⟩
 mono:=fun h ⟨_,_,_,_,_,_,e,h4,h5⟩=>⟨_,_,_,_,_,_,e,h4.mono h,h5.mono h⟩
 len:=fun ⟨_,_,_,_,_,_,e,_⟩=>by rw [e];rfl
 one:=fun ⟨_,_,_,_,_,_,e,_⟩=>by rw [e];rfl
theorem gK (x:TB):BR eT x fun vs cs=> ∃A4 n4 c4 A5 n5 c5,vs=[iV x.Ui,iV x.Uw,iV x.Uv,iV x.Ux,U A4 n4 c4,U A5 n5 c5]/\cs=[jL ap (U A4 n4 c4) x.Uo,jL ap (U A5 n5 c5) x.Um]:=fun S w vs ⟨_,_,_,_,_,_,e,h4,h5⟩=>⟨_,⟨_,_,_,_,_,_,e,rfl⟩,hP h4 (hP h5 (aD))⟩
structure TM where
 Uj:TV
 Ul:TV
 deriving DecidableEq,Inhabited
def PT:Rep TM where
 sz:=2
 rel S w vs x:= ∃A0 n0 c0 A1 n1 c1,vs=[U A0 n0 c0,U A1 n1 c1]/\SlR eT S w (U A0 n0 c0) x.Uj/\SlR eT S w (U A1 n1 c1) x.Ul
 loc:=fun h ⟨_,_,_,_,_,_,e,h0,h1⟩=>⟨_,_,_,_,_,_,e,h0.loc h,h1.loc h⟩
 mono:=fun h ⟨_,_,_,_,_,_,e,h0,h1⟩=>⟨_,_,_,_,_,_,e,h0.mono h,h1.mono h⟩
 len:=fun ⟨_,_,_,_,_,_,e,_⟩=>by rw [e];rfl
 one:=fun ⟨_,_,_,_,_,_,e,_⟩=>by rw [e];rfl
structure TI where
 m_:TM
 Ur:TN
 Uz:TN
 Uy:Tw
 deriving DecidableEq,Inhabited
structure TE where
 Ui:Int
 N:Int
 S:ByteArray
 deriving DecidableEq,Inhabited
def PU:Rep TE:=.flat 3 (fun x=> [iV x.Ui,iV x.N,.string x.S]) (fun _=>rfl) (fun _=>rfl)
structure TA where
 Up:Int
 UZ:TE
 Vd:Int
 Ve:Int
 deriving DecidableEq,Inhabited
def xt:Rep TA:=.flat 6 (fun x=> [iV x.Up,iV x.UZ.Ui,iV x.UZ.N,.string x.UZ.S,iV x.Vd,iV x.Ve]) (fun _=>rfl) (fun _=>rfl)
structure TH where
 Vg:Int
 Vf:TE
 Vh:Int
 deriving DecidableEq,Inhabited
def OZ:Rep TH:=.flat 5 (fun x=> [iV x.Vg,iV x.Vf.Ui,iV x.Vf.N,.string x.Vf.S,iV x.Vh]) (fun _=>rfl) (fun _=>rfl)
structure Tt where
 Un:(List TA)
 UB:(List (TH×Int))
 deriving DecidableEq,Inhabited
structure TL where
 UV:Int
 UT:Int
 UU:Int
 deriving DecidableEq,Inhabited
def MZ:Rep TL:=.flat 3 (fun x=> [iV x.UV,iV x.UT,iV x.UU]) (fun _=>rfl) (fun _=>rfl)
structure TG where
 Ui:Int
 UZ:TE
 S:ByteArray
 deriving DecidableEq,Inhabited
abbrev TZ:=List TG
def mI:Rep TG:=.flat 5 (fun x=> [iV x.Ui,iV x.UZ.Ui,iV x.UZ.N,.string x.UZ.S,.string x.S]) (fun _=>rfl) (fun _=>rfl)
structure TC where
 UA:TL
 Us:Tx
 Vi:Unit
 Uk:TI
 Un:Tt
 UF:TX
 UO:Int
 UP:Int
 UQ:Int
 UH:TZ
 UG:TX
 deriving DecidableEq,Inhabited
structure Tz where
 m_:TM
 US:TO
 UM:(List (Int×Unit))
 Vc:Int
 deriving DecidableEq,Inhabited
structure Tv where
 m_:TM
 Vb:TO
 UM:TO
 Va:TW
 UB:Int
 deriving DecidableEq,Inhabited
structure TJ where
 Ui:Int
 N:Int
 Value:Ty
 deriving DecidableEq,Inhabited
def PV:Rep TJ:=.flat 5 (fun x=> [iV x.Ui,iV x.N,iV x.Value.Ui,iV x.Value.N,.string x.Value.S]) (fun _=>rfl) (fun _=>rfl)
structure Tp where
 Ui:Int
 N:Int
 M:Int
 S:ByteArray
 L:TO
 deriving DecidableEq,Inhabited
def HD:Rep Tp where
 sz:=5
 rel S w vs x:= ∃A4 n4 c4,vs=[iV x.Ui,iV x.N,iV x.M,.string x.S,U A4 n4 c4]/\SlR (dg .i64) S w (U A4 n4 c4) x.L
 loc:=fun h ⟨_,_,_,e,h4⟩=>⟨_,_,_,e,h4.loc h⟩
 mono:=fun h ⟨_,_,_,e,h4⟩=>⟨_,_,_,e,h4.mono h⟩
 len:=fun ⟨_,_,_,e,_⟩=>by rw [e];rfl
 one:=fun ⟨_,_,_,e,_⟩=>by rw [e];rfl
theorem C9 (x:Tp):BR HD x fun vs cs=> ∃A4 n4 c4,vs=[iV x.Ui,iV x.N,iV x.M,.string x.S,U A4 n4 c4]/\cs=[jL (dg .i64) (U A4 n4 c4) x.L]:=fun S w vs ⟨_,_,_,e,h4⟩=>⟨_,⟨_,_,_,e,rfl⟩,hP h4 (aD)⟩
structure TF where
 Ok:Bool
 N:Int
 S:ByteArray
 UN:TJ
 L:TO
 deriving DecidableEq,Inhabited
def QX:Rep TF where
 sz:=9
 rel S w vs x:= ∃A8 n8 c8,vs=[.bool x.Ok,iV x.N,.string x.S,iV x.UN.Ui,iV x.UN.N,iV x.UN.Value.Ui,iV x.UN.Value.N,.string x.UN.Value.S,U A8 n8 c8]/\SlR (dg .i64) S w (U A8 n8 c8) x.L
 loc:=fun h ⟨_,_,_,e,h8⟩=>⟨_,_,_,e,h8.loc h⟩
 mono:=fun h ⟨_,_,_,e,h8⟩=>⟨_,_,_,e,h8.mono h⟩
 len:=fun ⟨_,_,_,e,_⟩=>by rw [e];rfl
 one:=fun ⟨_,_,_,e,_⟩=>by rw [e];rfl
structure Ts where
 C:Tx
 Uu:Int
 Ut:Int
 Uq:Int
 UJ:Int
 UK:Int
 UL:Int
 UI:Int
 UY:TX
 UW:TX
 UX:TZ
 UR:(List TN)
 deriving DecidableEq,Inhabited
def PH:Rep Ts where
 sz:=18
 rel S w vs x:= ∃A14 n14 c14 A15 n15 c15 A16 n16 c16 a1 a2 a6,vs=[iV x.C.UD,iV x.C.Uu,iV x.C.Uq,iV x.C.Ut,iV x.C.Uj,iV x.C.UC,iV x.C.UE,iV x.Uu,iV x.Ut,iV x.Uq,iV x.UJ,iV x.UK,iV x.UL,iV x.UI,U A14 n14 c14,U A15 n15 c15,U A16 n16 c16,U a1 a2 a6]/\SlR qu S w (U A14 n14 c14) x.UY/\SlR qu S w (U A15 n15 c15) x.UW/\SlR mI S w (U A16 n16 c16) x.UX/\SlR (Rep.sl ap) S w (U a1 a2 a6) x.UR
 loc:=fun h ⟨_,_,_,_,_,_,_,_,_,_,_,_,e,h14,h15,h16,h17⟩=>⟨_,_,_,_,_,_,_,_,_,_,_,_,e,h14.loc h,h15.loc h,h16.loc h,h17.loc h⟩
 mono:=fun h ⟨_,_,_,_,_,_,_,_,_,_,_,_,e,h14,h15,h16,h17⟩=>⟨_,_,_,_,_,_,_,_,_,_,_,_,e,h14.mono h,h15.mono h,h16.mono h,h17.mono h⟩
 len:=fun ⟨_,_,_,_,_,_,_,_,_,_,_,_,e,_⟩=>by rw [e];rfl
 one:=fun ⟨_,_,_,_,_,_,_,_,_,_,_,_,e,_⟩=>by rw [e];rfl
abbrev aC (A:Option Addr)(n c:Nat):=eK ap 23 (.slice A n c)
abbrev aZ (A:Option Addr)(n c:Nat):=eK eT 42 (.slice A n c)
abbrev bc (A:Option Addr)(n c:Nat):=jL ap (.slice A n c)
abbrev bf (A:Option Addr)(n c:Nat):=jL eT (.slice A n c)
abbrev cj (A:Option Addr)(n c:Nat):=eK qu 9 (.slice A n c)
abbrev db (A:Option Addr)(n c:Nat):=jL (dg .i64) (.slice A n c)
abbrev eA (A:Option Addr)(n c:Nat):=eK (dg .i64) 3 (.slice A n c)
abbrev gz (A:Option Addr)(n c:Nat):=jL qu (.slice A n c)
abbrev ik (A:Option Addr)(n c:Nat):=eK mI 84 (.slice A n c)
abbrev gQ (A:Option Addr)(n c:Nat):=eK xt 114 (.slice A n c)
abbrev fX (A:Option Addr)(n c:Nat):=jL mI (.slice A n c)
abbrev om (A:Option Addr)(n c:Nat):=jL xt (.slice A n c)
abbrev ny (x:Tx):Value:=.agg #[iV x.UD,iV x.Uu,iV x.Uq,iV x.Ut,iV x.Uj,iV x.UC,iV x.UE]
abbrev EN (x:TJ):Value:=.agg #[iV x.Ui,iV x.N,iV x.Value.Ui,iV x.Value.N,.string x.Value.S]
abbrev uY (x:TG):Value:=.agg #[iV x.Ui,iV x.UZ.Ui,iV x.UZ.N,.string x.UZ.S,.string x.S]
abbrev GN (x:TE):Value:=.agg #[iV x.Ui,iV x.N,.string x.S]
abbrev Nz (x:TA):Value:=.agg #[iV x.Up,iV x.UZ.Ui,iV x.UZ.N,.string x.UZ.S,iV x.Vd,iV x.Ve]
abbrev LA (x:TH):Value:=.agg #[iV x.Vg,iV x.Vf.Ui,iV x.Vf.N,.string x.Vf.S,iV x.Vh]
abbrev gA (x:Ty):Value:=.agg #[iV x.Ui,iV x.N,.string x.S]
abbrev wS (x:Tx):List Value:=[iV x.UD,iV x.Uu,iV x.Uq,iV x.Ut,iV x.Uj,iV x.UC,iV x.UE]
abbrev RH (x:TJ):List Value:=[iV x.Ui,iV x.N,iV x.Value.Ui,iV x.Value.N,.string x.Value.S]
abbrev xD (x:TG):List Value:=[iV x.Ui,iV x.UZ.Ui,iV x.UZ.N,.string x.UZ.S,.string x.S]
abbrev OE (x:TE):List Value:=[iV x.Ui,iV x.N,.string x.S]
abbrev FH (x:TA):List Value:=[iV x.Up,iV x.UZ.Ui,iV x.UZ.N,.string x.UZ.S,iV x.Vd,iV x.Ve]
abbrev Qw (x:TL):List Value:=[iV x.UV,iV x.UT,iV x.UU]
abbrev uV (x:Ty):List Value:=[iV x.Ui,iV x.N,.string x.S]
abbrev iD (x:TC)(b d:Nat)(A:Option Addr)(n c:Nat)(A2:Option Addr)(n2 c2:Nat)(A3:Option Addr)(n3 c3:Nat):List Value:=[iV x.UA.UV,iV x.UA.UT,iV x.UA.UU,iV x.Us.UD,iV x.Us.Uu,iV x.Us.Uq,iV x.Us.Ut,iV x.Us.Uj,iV x.Us.UC,iV x.Us.UE,.nilIface,pV b 0,pV d 0,.slice A n c,iV x.UO,iV x.UP,iV x.UQ,U A2 n2 c2,U A3 n3 c3]
instance call7:FcK Ua 7:=⟨⟨Tryz.f7,Tryz.func7,rfl,rfl⟩⟩
instance call11:FcK Ua 11:=⟨⟨Tryz.f11,Tryz.func11,rfl,rfl⟩⟩
instance call12:FcK Ua 12:=⟨⟨Tryz.f12,Tryz.func12,rfl,rfl⟩⟩
instance call13:FcK Ua 13:=⟨⟨Tryz.f13,Tryz.func13,rfl,rfl⟩⟩
instance call14:FcK Ua 14:=⟨⟨Tryz.f14,Tryz.func14,rfl,rfl⟩⟩
instance call15:FcK Ua 15:=⟨⟨Tryz.f15,Tryz.func15,rfl,rfl⟩⟩
instance call16:FcK Ua 16:=⟨⟨Tryz.f16,Tryz.func16,rfl,rfl⟩⟩
instance call17:FcK Ua 17:=⟨⟨Tryz.f17,Tryz.func17,rfl,rfl⟩⟩
instance call20:FcK Ua 20:=⟨⟨Tryz.f20,Tryz.func20,rfl,rfl⟩⟩
instance call21:FcK Ua 21:=⟨⟨Tryz.f21,Tryz.func21,rfl,rfl⟩⟩
instance call22:FcK Ua 22:=⟨⟨Tryz.f22,Tryz.func22,rfl,rfl⟩⟩
instance call23:FcK Ua 23:=⟨⟨Tryz.f23,Tryz.func23,rfl,rfl⟩⟩
instance call24:FcK Ua 24:=⟨⟨Tryz.f24,Tryz.func24,rfl,rfl⟩⟩
instance call25:FcK Ua 25:=⟨⟨Tryz.f25,Tryz.func25,rfl,rfl⟩⟩
instance call26:FcK Ua 26:=⟨⟨Tryz.f26,Tryz.func26,rfl,rfl⟩⟩
instance call27:FcK Ua 27:=⟨⟨Tryz.f27,Tryz.func27,rfl,rfl⟩⟩
instance call28:FcK Ua 28:=⟨⟨Tryz.f28,Tryz.func28,rfl,rfl⟩⟩
instance call29:FcK Ua 29:=⟨⟨Tryz.f29,Tryz.func29,rfl,rfl⟩⟩
instance call30:FcK Ua 30:=⟨⟨Tryz.f30,Tryz.func30,rfl,rfl⟩⟩
instance call31:FcK Ua 31:=⟨⟨Tryz.f31,Tryz.func31,rfl,rfl⟩⟩
instance call32:FcK Ua 32:=⟨⟨Tryz.f32,Tryz.func32,rfl,rfl⟩⟩
instance call33:FcK Ua 33:=⟨⟨Tryz.f33,Tryz.func33,rfl,rfl⟩⟩
instance call34:FcK Ua 34:=⟨⟨Tryz.f34,Tryz.func34,rfl,rfl⟩⟩
instance call35:FcK Ua 35:=⟨⟨Tryz.f35,Tryz.func35,rfl,rfl⟩⟩
instance call36:FcK Ua 36:=⟨⟨Tryz.f36,Tryz.func36,rfl,rfl⟩⟩
instance call37:FcK Ua 37:=⟨⟨Tryz.f37,Tryz.func37,rfl,rfl⟩⟩
instance call38:FcK Ua 38:=⟨⟨Tryz.f38,Tryz.func38,rfl,rfl⟩⟩
instance call40:FcK Ua 40:=⟨⟨Tryz.f40,Tryz.func40,rfl,rfl⟩⟩
instance call41:FcK Ua 41:=⟨⟨Tryz.f41,Tryz.func41,rfl,rfl⟩⟩
instance call42:FcK Ua 42:=⟨⟨Tryz.f42,Tryz.func42,rfl,rfl⟩⟩
instance call43:FcK Ua 43:=⟨⟨Tryz.f43,Tryz.func43,rfl,rfl⟩⟩
instance call44:FcK Ua 44:=⟨⟨Tryz.f44,Tryz.func44,rfl,rfl⟩⟩
instance call45:FcK Ua 45:=⟨⟨Tryz.f45,Tryz.func45,rfl,rfl⟩⟩
instance call46:FcK Ua 46:=⟨⟨Tryz.f46,Tryz.func46,rfl,rfl⟩⟩
instance call47:FcK Ua 47:=⟨⟨Tryz.f47,Tryz.func47,rfl,rfl⟩⟩
instance call48:FcK Ua 48:=⟨⟨Tryz.f48,Tryz.func48,rfl,rfl⟩⟩
instance call49:FcK Ua 49:=⟨⟨Tryz.f49,Tryz.func49,rfl,rfl⟩⟩
instance call50:FcK Ua 50:=⟨⟨Tryz.f50,Tryz.func50,rfl,rfl⟩⟩
instance call51:FcK Ua 51:=⟨⟨Tryz.f51,Tryz.func51,rfl,rfl⟩⟩
instance call52:FcK Ua 52:=⟨⟨Tryz.f52,Tryz.func52,rfl,rfl⟩⟩
instance call53:FcK Ua 53:=⟨⟨Tryz.f53,Tryz.func53,rfl,rfl⟩⟩
instance call54:FcK Ua 54:=⟨⟨Tryz.f54,Tryz.func54,rfl,rfl⟩⟩
instance call55:FcK Ua 55:=⟨⟨Tryz.f55,Tryz.func55,rfl,rfl⟩⟩
instance call56:FcK Ua 56:=⟨⟨Tryz.f56,Tryz.func56,rfl,rfl⟩⟩
instance call57:FcK Ua 57:=⟨⟨Tryz.f57,Tryz.func57,rfl,rfl⟩⟩
instance call58:FcK Ua 58:=⟨⟨Tryz.f58,Tryz.func58,rfl,rfl⟩⟩
instance call59:FcK Ua 59:=⟨⟨Tryz.f59,Tryz.func59,rfl,rfl⟩⟩
instance call60:FcK Ua 60:=⟨⟨Tryz.f60,Tryz.func60,rfl,rfl⟩⟩
instance call61:FcK Ua 61:=⟨⟨Tryz.f61,Tryz.func61,rfl,rfl⟩⟩
instance call62:FcK Ua 62:=⟨⟨Tryz.f62,Tryz.func62,rfl,rfl⟩⟩
instance call63:FcK Ua 63:=⟨⟨Tryz.f63,Tryz.func63,rfl,rfl⟩⟩
instance call64:FcK Ua 64:=⟨⟨Tryz.f64,Tryz.func64,rfl,rfl⟩⟩
instance call65:FcK Ua 65:=⟨⟨Tryz.f65,Tryz.func65,rfl,rfl⟩⟩
instance call66:FcK Ua 66:=⟨⟨Tryz.f66,Tryz.func66,rfl,rfl⟩⟩
instance call67:FcK Ua 67:=⟨⟨Tryz.f67,Tryz.func67,rfl,rfl⟩⟩
instance call68:FcK Ua 68:=⟨⟨Tryz.f68,Tryz.func68,rfl,rfl⟩⟩
instance call69:FcK Ua 69:=⟨⟨Tryz.f69,Tryz.func69,rfl,rfl⟩⟩
instance call70:FcK Ua 70:=⟨⟨Tryz.f70,Tryz.func70,rfl,rfl⟩⟩
instance call71:FcK Ua 71:=⟨⟨Tryz.f71,Tryz.func71,rfl,rfl⟩⟩
instance call72:FcK Ua 72:=⟨⟨Tryz.f72,Tryz.func72,rfl,rfl⟩⟩
instance call73:FcK Ua 73:=⟨⟨Tryz.f73,Tryz.func73,rfl,rfl⟩⟩
instance call74:FcK Ua 74:=⟨⟨Tryz.f74,Tryz.func74,rfl,rfl⟩⟩
instance call75:FcK Ua 75:=⟨⟨Tryz.f75,Tryz.func75,rfl,rfl⟩⟩
instance call76:FcK Ua 76:=⟨⟨Tryz.f76,Tryz.func76,rfl,rfl⟩⟩
instance call77:FcK Ua 77:=⟨⟨Tryz.f77,Tryz.func77,rfl,rfl⟩⟩
instance call78:FcK Ua 78:=⟨⟨Tryz.f78,Tryz.func78,rfl,rfl⟩⟩
instance call79:FcK Ua 79:=⟨⟨Tryz.f79,Tryz.func79,rfl,rfl⟩⟩
instance call80:FcK Ua 80:=⟨⟨Tryz.f80,Tryz.func80,rfl,rfl⟩⟩
instance call81:FcK Ua 81:=⟨⟨Tryz.f81,Tryz.func81,rfl,rfl⟩⟩
instance call82:FcK Ua 82:=⟨⟨Tryz.f82,Tryz.func82,rfl,rfl⟩⟩
instance call83:FcK Ua 83:=⟨⟨Tryz.f83,Tryz.func83,rfl,rfl⟩⟩
instance call84:FcK Ua 84:=⟨⟨Tryz.f84,Tryz.func84,rfl,rfl⟩⟩
instance call85:FcK Ua 85:=⟨⟨Tryz.f85,Tryz.func85,rfl,rfl⟩⟩
instance call86:FcK Ua 86:=⟨⟨Tryz.f86,Tryz.func86,rfl,rfl⟩⟩
instance call87:FcK Ua 87:=⟨⟨Tryz.f87,Tryz.func87,rfl,rfl⟩⟩
instance call88:FcK Ua 88:=⟨⟨Tryz.f88,Tryz.func88,rfl,rfl⟩⟩
instance call89:FcK Ua 89:=⟨⟨Tryz.f89,Tryz.func89,rfl,rfl⟩⟩
instance call90:FcK Ua 90:=⟨⟨Tryz.f90,Tryz.func90,rfl,rfl⟩⟩
instance call91:FcK Ua 91:=⟨⟨Tryz.f91,Tryz.func91,rfl,rfl⟩⟩
instance call92:FcK Ua 92:=⟨⟨Tryz.f92,Tryz.func92,rfl,rfl⟩⟩
instance call93:FcK Ua 93:=⟨⟨Tryz.f93,Tryz.func93,rfl,rfl⟩⟩
instance call94:FcK Ua 94:=⟨⟨Tryz.f94,Tryz.func94,rfl,rfl⟩⟩
instance call95:FcK Ua 95:=⟨⟨Tryz.f95,Tryz.func95,rfl,rfl⟩⟩
instance call96:FcK Ua 96:=⟨⟨Tryz.f96,Tryz.func96,rfl,rfl⟩⟩
instance call97:FcK Ua 97:=⟨⟨Tryz.f97,Tryz.func97,rfl,rfl⟩⟩
instance call98:FcK Ua 98:=⟨⟨Tryz.f98,Tryz.func98,rfl,rfl⟩⟩
instance call99:FcK Ua 99:=⟨⟨Tryz.f99,Tryz.func99,rfl,rfl⟩⟩
instance call100:FcK Ua 100:=⟨⟨Tryz.f100,Tryz.func100,rfl,rfl⟩⟩
instance call101:FcK Ua 101:=⟨⟨Tryz.f101,Tryz.func101,rfl,rfl⟩⟩
instance call102:FcK Ua 102:=⟨⟨Tryz.f102,Tryz.func102,rfl,rfl⟩⟩
instance call103:FcK Ua 103:=⟨⟨Tryz.f103,Tryz.func103,rfl,rfl⟩⟩
instance call104:FcK Ua 104:=⟨⟨Tryz.f104,Tryz.func104,rfl,rfl⟩⟩
instance call105:FcK Ua 105:=⟨⟨Tryz.f105,Tryz.func105,rfl,rfl⟩⟩
instance call106:FcK Ua 106:=⟨⟨Tryz.f106,Tryz.func106,rfl,rfl⟩⟩
instance call107:FcK Ua 107:=⟨⟨Tryz.f107,Tryz.func107,rfl,rfl⟩⟩
instance call108:FcK Ua 108:=⟨⟨Tryz.f108,Tryz.func108,rfl,rfl⟩⟩
instance call109:FcK Ua 109:=⟨⟨Tryz.f109,Tryz.func109,rfl,rfl⟩⟩
instance call110:FcK Ua 110:=⟨⟨Tryz.f110,Tryz.func110,rfl,rfl⟩⟩
instance call111:FcK Ua 111:=⟨⟨Tryz.f111,Tryz.func111,rfl,rfl⟩⟩
instance call112:FcK Ua 112:=⟨⟨Tryz.f112,Tryz.func112,rfl,rfl⟩⟩
instance call113:FcK Ua 113:=⟨⟨Tryz.f113,Tryz.func113,rfl,rfl⟩⟩
instance call114:FcK Ua 114:=⟨⟨Tryz.f114,Tryz.func114,rfl,rfl⟩⟩
instance call115:FcK Ua 115:=⟨⟨Tryz.f115,Tryz.func115,rfl,rfl⟩⟩
instance call116:FcK Ua 116:=⟨⟨Tryz.f116,Tryz.func116,rfl,rfl⟩⟩
instance call117:FcK Ua 117:=⟨⟨Tryz.f117,Tryz.func117,rfl,rfl⟩⟩
instance call118:FcK Ua 118:=⟨⟨Tryz.f118,Tryz.func118,rfl,rfl⟩⟩
instance call119:FcK Ua 119:=⟨⟨Tryz.f119,Tryz.func119,rfl,rfl⟩⟩
instance call120:FcK Ua 120:=⟨⟨Tryz.f120,Tryz.func120,rfl,rfl⟩⟩
instance call121:FcK Ua 121:=⟨⟨Tryz.f121,Tryz.func121,rfl,rfl⟩⟩
instance call122:FcK Ua 122:=⟨⟨Tryz.f122,Tryz.func122,rfl,rfl⟩⟩
instance call123:FcK Ua 123:=⟨⟨Tryz.f123,Tryz.func123,rfl,rfl⟩⟩
instance call124:FcK Ua 124:=⟨⟨Tryz.f124,Tryz.func124,rfl,rfl⟩⟩
instance call125:FcK Ua 125:=⟨⟨Tryz.f125,Tryz.func125,rfl,rfl⟩⟩
instance call126:FcK Ua 126:=⟨⟨Tryz.f126,Tryz.func126,rfl,rfl⟩⟩
instance call127:FcK Ua 127:=⟨⟨Tryz.f127,Tryz.func127,rfl,rfl⟩⟩
instance call128:FcK Ua 128:=⟨⟨Tryz.f128,Tryz.func128,rfl,rfl⟩⟩
instance call129:FcK Ua 129:=⟨⟨Tryz.f129,Tryz.func129,rfl,rfl⟩⟩
instance call130:FcK Ua 130:=⟨⟨Tryz.f130,Tryz.func130,rfl,rfl⟩⟩
instance call131:FcK Ua 131:=⟨⟨Tryz.f131,Tryz.func131,rfl,rfl⟩⟩
instance call132:FcK Ua 132:=⟨⟨Tryz.f132,Tryz.func132,rfl,rfl⟩⟩
instance call133:FcK Ua 133:=⟨⟨Tryz.f133,Tryz.func133,rfl,rfl⟩⟩
instance call134:FcK Ua 134:=⟨⟨Tryz.f134,Tryz.func134,rfl,rfl⟩⟩
instance call135:FcK Ua 135:=⟨⟨Tryz.f135,Tryz.func135,rfl,rfl⟩⟩
instance call136:FcK Ua 136:=⟨⟨Tryz.f136,Tryz.func136,rfl,rfl⟩⟩
instance call137:FcK Ua 137:=⟨⟨Tryz.f137,Tryz.func137,rfl,rfl⟩⟩
instance call138:FcK Ua 138:=⟨⟨Tryz.f138,Tryz.func138,rfl,rfl⟩⟩
instance call139:FcK Ua 139:=⟨⟨Tryz.f139,Tryz.func139,rfl,rfl⟩⟩
instance call140:FcK Ua 140:=⟨⟨Tryz.f140,Tryz.func140,rfl,rfl⟩⟩
instance call141:FcK Ua 141:=⟨⟨Tryz.f141,Tryz.func141,rfl,rfl⟩⟩
instance call142:FcK Ua 142:=⟨⟨Tryz.f142,Tryz.func142,rfl,rfl⟩⟩
instance call143:FcK Ua 143:=⟨⟨Tryz.f143,Tryz.func143,rfl,rfl⟩⟩
instance call144:FcK Ua 144:=⟨⟨Tryz.f144,Tryz.func144,rfl,rfl⟩⟩
instance call145:FcK Ua 145:=⟨⟨Tryz.f145,Tryz.func145,rfl,rfl⟩⟩
instance call146:FcK Ua 146:=⟨⟨Tryz.f146,Tryz.func146,rfl,rfl⟩⟩
instance call148:FcK Ua 148:=⟨⟨Tryz.f148,Tryz.func148,rfl,rfl⟩⟩
instance call150:FcK Ua 150:=⟨⟨Tryz.f150,Tryz.func150,rfl,rfl⟩⟩
instance call151:FcK Ua 151:=⟨⟨Tryz.f151,Tryz.func151,rfl,rfl⟩⟩
instance call152:FcK Ua 152:=⟨⟨Tryz.f152,Tryz.func152,rfl,rfl⟩⟩
instance call153:FcK Ua 153:=⟨⟨Tryz.f153,Tryz.func153,rfl,rfl⟩⟩
instance call154:FcK Ua 154:=⟨⟨Tryz.f154,Tryz.func154,rfl,rfl⟩⟩
instance call155:FcK Ua 155:=⟨⟨Tryz.f155,Tryz.func155,rfl,rfl⟩⟩
instance call156:FcK Ua 156:=⟨⟨Tryz.f156,Tryz.func156,rfl,rfl⟩⟩
instance call157:FcK Ua 157:=⟨⟨Tryz.f157,Tryz.func157,rfl,rfl⟩⟩
instance call158:FcK Ua 158:=⟨⟨Tryz.f158,Tryz.func158,rfl,rfl⟩⟩
instance call159:FcK Ua 159:=⟨⟨Tryz.f159,Tryz.func159,rfl,rfl⟩⟩
instance call160:FcK Ua 160:=⟨⟨Tryz.f160,Tryz.func160,rfl,rfl⟩⟩
instance call161:FcK Ua 161:=⟨⟨Tryz.f161,Tryz.func161,rfl,rfl⟩⟩
instance call162:FcK Ua 162:=⟨⟨Tryz.f162,Tryz.func162,rfl,rfl⟩⟩
instance call163:FcK Ua 163:=⟨⟨Tryz.f163,Tryz.func163,rfl,rfl⟩⟩
instance call164:FcK Ua 164:=⟨⟨Tryz.f164,Tryz.func164,rfl,rfl⟩⟩
instance call165:FcK Ua 165:=⟨⟨Tryz.f165,Tryz.func165,rfl,rfl⟩⟩
instance call166:FcK Ua 166:=⟨⟨Tryz.f166,Tryz.func166,rfl,rfl⟩⟩
instance call167:FcK Ua 167:=⟨⟨Tryz.f167,Tryz.func167,rfl,rfl⟩⟩
instance call168:FcK Ua 168:=⟨⟨Tryz.f168,Tryz.func168,rfl,rfl⟩⟩
instance call169:FcK Ua 169:=⟨⟨Tryz.f169,Tryz.func169,rfl,rfl⟩⟩
instance call170:FcK Ua 170:=⟨⟨Tryz.f170,Tryz.func170,rfl,rfl⟩⟩
instance call171:FcK Ua 171:=⟨⟨Tryz.f171,Tryz.func171,rfl,rfl⟩⟩
instance call172:FcK Ua 172:=⟨⟨Tryz.f172,Tryz.func172,rfl,rfl⟩⟩
instance call173:FcK Ua 173:=⟨⟨Tryz.f173,Tryz.func173,rfl,rfl⟩⟩
instance call174:FcK Ua 174:=⟨⟨Tryz.f174,Tryz.func174,rfl,rfl⟩⟩
instance call175:FcK Ua 175:=⟨⟨Tryz.f175,Tryz.func175,rfl,rfl⟩⟩
instance call176:FcK Ua 176:=⟨⟨Tryz.f176,Tryz.func176,rfl,rfl⟩⟩
instance call177:FcK Ua 177:=⟨⟨Tryz.f177,Tryz.func177,rfl,rfl⟩⟩
instance call178:FcK Ua 178:=⟨⟨Tryz.f178,Tryz.func178,rfl,rfl⟩⟩
instance call179:FcK Ua 179:=⟨⟨Tryz.f179,Tryz.func179,rfl,rfl⟩⟩
instance call180:FcK Ua 180:=⟨⟨Tryz.f180,Tryz.func180,rfl,rfl⟩⟩
instance call181:FcK Ua 181:=⟨⟨Tryz.f181,Tryz.func181,rfl,rfl⟩⟩
instance call182:FcK Ua 182:=⟨⟨Tryz.f182,Tryz.func182,rfl,rfl⟩⟩
instance call186:FcK Ua 186:=⟨⟨Tryz.f186,Tryz.func186,rfl,rfl⟩⟩
instance call187:FcK Ua 187:=⟨⟨Tryz.f187,Tryz.func187,rfl,rfl⟩⟩
instance call188:FcK Ua 188:=⟨⟨Tryz.f188,Tryz.func188,rfl,rfl⟩⟩
instance call189:FcK Ua 189:=⟨⟨Tryz.f189,Tryz.func189,rfl,rfl⟩⟩
instance call190:FcK Ua 190:=⟨⟨Tryz.f190,Tryz.func190,rfl,rfl⟩⟩
instance call191:FcK Ua 191:=⟨⟨Tryz.f191,Tryz.func191,rfl,rfl⟩⟩
instance call192:FcK Ua 192:=⟨⟨Tryz.f192,Tryz.func192,rfl,rfl⟩⟩
instance call193:FcK Ua 193:=⟨⟨Tryz.f193,Tryz.func193,rfl,rfl⟩⟩
instance call194:FcK Ua 194:=⟨⟨Tryz.f194,Tryz.func194,rfl,rfl⟩⟩
instance call195:FcK Ua 195:=⟨⟨Tryz.f195,Tryz.func195,rfl,rfl⟩⟩
instance call206:FcK Ua 206:=⟨⟨Tryz.f206,Tryz.func206,rfl,rfl⟩⟩
instance call207:FcK Ua 207:=⟨⟨Tryz.f207,Tryz.func207,rfl,rfl⟩⟩
instance call208:FcK Ua 208:=⟨⟨Tryz.f208,Tryz.func208,rfl,rfl⟩⟩
instance call209:FcK Ua 209:=⟨⟨Tryz.f209,Tryz.func209,rfl,rfl⟩⟩
instance call210:FcK Ua 210:=⟨⟨Tryz.f210,Tryz.func210,rfl,rfl⟩⟩
theorem tf (b o:Nat)(w:World):(Instr.fieldAt 23 (pV b o) 0).run Ua w=.ok (pV b o) w:=by kernel_rfl
theorem vb (b o:Nat)(w:World):(Instr.fieldAt 23 (pV b o) 1).run Ua w=.ok (.pointer (some ⟨b,o+1,none⟩)) w:=by kernel_rfl
theorem I2 (b o:Nat)(w:World):(Instr.fieldAt 23 (pV b o) 2).run Ua w=.ok (.pointer (some ⟨b,o+2,none⟩)) w:=by kernel_rfl
theorem Od (b o:Nat)(w:World):(Instr.fieldAt 29 (pV b o) 0).run Ua w=.ok (pV b o) w:=by kernel_rfl
theorem Oc (b o:Nat)(w:World):(Instr.fieldAt 29 (pV b o) 1).run Ua w=.ok (.pointer (some ⟨b,o+1,none⟩)) w:=by kernel_rfl
theorem Ob (b o:Nat)(w:World):(Instr.fieldAt 29 (pV b o) 2).run Ua w=.ok (.pointer (some ⟨b,o+2,none⟩)) w:=by kernel_rfl
theorem Oa (b o:Nat)(w:World):(Instr.fieldAt 29 (pV b o) 3).run Ua w=.ok (.pointer (some ⟨b,o+3,none⟩)) w:=by kernel_rfl
theorem N9 (b o:Nat)(w:World):(Instr.fieldAt 29 (pV b o) 4).run Ua w=.ok (.pointer (some ⟨b,o+4,none⟩)) w:=by kernel_rfl
theorem N8 (b o:Nat)(w:World):(Instr.fieldAt 29 (pV b o) 5).run Ua w=.ok (.pointer (some ⟨b,o+5,none⟩)) w:=by kernel_rfl
theorem N7 (b o:Nat)(w:World):(Instr.fieldAt 29 (pV b o) 6).run Ua w=.ok (.pointer (some ⟨b,o+6,none⟩)) w:=by kernel_rfl
theorem N6 (b o:Nat)(w:World):(Instr.fieldAt 34 (pV b o) 0).run Ua w=.ok (pV b o) w:=by kernel_rfl
theorem N5 (b o:Nat)(w:World):(Instr.fieldAt 34 (pV b o) 2).run Ua w=.ok (.pointer (some ⟨b,o+2,none⟩)) w:=by kernel_rfl
theorem N4 (b o:Nat)(w:World):(Instr.fieldAt 42 (pV b o) 0).run Ua w=.ok (pV b o) w:=by kernel_rfl
theorem N3 (b o:Nat)(w:World):(Instr.fieldAt 42 (pV b o) 1).run Ua w=.ok (.pointer (some ⟨b,o+1,none⟩)) w:=by kernel_rfl
theorem N2 (b o:Nat)(w:World):(Instr.fieldAt 42 (pV b o) 2).run Ua w=.ok (.pointer (some ⟨b,o+2,none⟩)) w:=by kernel_rfl
theorem Ai (b o:Nat)(w:World):(Instr.fieldAt 42 (pV b o) 3).run Ua w=.ok (.pointer (some ⟨b,o+3,none⟩)) w:=by kernel_rfl
theorem FU (b o:Nat)(w:World):(Instr.fieldAt 42 (pV b o) 4).run Ua w=.ok (.pointer (some ⟨b,o+4,none⟩)) w:=by kernel_rfl
theorem xJ (b o:Nat)(w:World):(Instr.fieldAt 42 (pV b o) 5).run Ua w=.ok (.pointer (some ⟨b,o+5,none⟩)) w:=by kernel_rfl
theorem N1 (b o:Nat)(w:World):(Instr.fieldAt 53 (pV b o) 0).run Ua w=.ok (pV b o) w:=by kernel_rfl
theorem N0 (b o:Nat)(w:World):(Instr.fieldAt 53 (pV b o) 1).run Ua w=.ok (.pointer (some ⟨b,o+1,none⟩)) w:=by kernel_rfl
theorem NZ (b o:Nat)(w:World):(Instr.fieldAt 53 (pV b o) 2).run Ua w=.ok (.pointer (some ⟨b,o+2,none⟩)) w:=by kernel_rfl
theorem I1 (b o:Nat)(w:World):(Instr.fieldAt 53 (pV b o) 3).run Ua w=.ok (.pointer (some ⟨b,o+3,none⟩)) w:=by kernel_rfl
theorem NY (b o:Nat)(w:World):(Instr.fieldAt 53 (pV b o) 4).run Ua w=.ok (.pointer (some ⟨b,o+4,none⟩)) w:=by kernel_rfl
theorem NX (b o:Nat)(w:World):(Instr.fieldAt 56 (pV b o) 0).run Ua w=.ok (pV b o) w:=by kernel_rfl
theorem NW (b o:Nat)(w:World):(Instr.fieldAt 56 (pV b o) 1).run Ua w=.ok (.pointer (some ⟨b,o+1,none⟩)) w:=by kernel_rfl
theorem NV (b o:Nat)(w:World):(Instr.fieldAt 56 (pV b o) 2).run Ua w=.ok (.pointer (some ⟨b,o+2,none⟩)) w:=by kernel_rfl
theorem NU (b o:Nat)(w:World):(Instr.fieldAt 56 (pV b o) 3).run Ua w=.ok (.pointer (some ⟨b,o+3,none⟩)) w:=by kernel_rfl
theorem Ah (b o:Nat)(w:World):(Instr.fieldAt 56 (pV b o) 4).run Ua w=.ok (.pointer (some ⟨b,o+8,none⟩)) w:=by kernel_rfl
theorem NT (b o:Nat)(w:World):(Instr.fieldAt 67 (pV b o) 0).run Ua w=.ok (pV b o) w:=by kernel_rfl
theorem NS (b o:Nat)(w:World):(Instr.fieldAt 67 (pV b o) 1).run Ua w=.ok (.pointer (some ⟨b,o+7,none⟩)) w:=by kernel_rfl
theorem I0 (b o:Nat)(w:World):(Instr.fieldAt 67 (pV b o) 2).run Ua w=.ok (.pointer (some ⟨b,o+8,none⟩)) w:=by kernel_rfl
theorem NR (b o:Nat)(w:World):(Instr.fieldAt 67 (pV b o) 3).run Ua w=.ok (.pointer (some ⟨b,o+9,none⟩)) w:=by kernel_rfl
theorem IZ (b o:Nat)(w:World):(Instr.fieldAt 67 (pV b o) 4).run Ua w=.ok (.pointer (some ⟨b,o+10,none⟩)) w:=by kernel_rfl
theorem IY (b o:Nat)(w:World):(Instr.fieldAt 67 (pV b o) 5).run Ua w=.ok (.pointer (some ⟨b,o+11,none⟩)) w:=by kernel_rfl
theorem IX (b o:Nat)(w:World):(Instr.fieldAt 67 (pV b o) 6).run Ua w=.ok (.pointer (some ⟨b,o+12,none⟩)) w:=by kernel_rfl
theorem FT (b o:Nat)(w:World):(Instr.fieldAt 67 (pV b o) 7).run Ua w=.ok (.pointer (some ⟨b,o+13,none⟩)) w:=by kernel_rfl
theorem xI (b o:Nat)(w:World):(Instr.fieldAt 67 (pV b o) 8).run Ua w=.ok (.pointer (some ⟨b,o+14,none⟩)) w:=by kernel_rfl
theorem NQ (b o:Nat)(w:World):(Instr.fieldAt 67 (pV b o) 9).run Ua w=.ok (.pointer (some ⟨b,o+15,none⟩)) w:=by kernel_rfl
theorem GS (b o:Nat)(w:World):(Instr.fieldAt 67 (pV b o) 10).run Ua w=.ok (.pointer (some ⟨b,o+16,none⟩)) w:=by kernel_rfl
theorem DE (b o:Nat)(w:World):(Instr.fieldAt 67 (pV b o) 11).run Ua w=.ok (.pointer (some ⟨b,o+17,none⟩)) w:=by kernel_rfl
theorem NP (b o:Nat)(w:World):(Instr.fieldAt 75 (pV b o) 0).run Ua w=.ok (pV b o) w:=by kernel_rfl
theorem NO (b o:Nat)(w:World):(Instr.fieldAt 75 (pV b o) 1).run Ua w=.ok (.pointer (some ⟨b,o+1,none⟩)) w:=by kernel_rfl
theorem NN (b o:Nat)(w:World):(Instr.fieldAt 75 (pV b o) 2).run Ua w=.ok (.pointer (some ⟨b,o+2,none⟩)) w:=by kernel_rfl
theorem NM (b o:Nat)(w:World):(Instr.fieldAt 79 (pV b o) 0).run Ua w=.ok (pV b o) w:=by kernel_rfl
theorem NL (b o:Nat)(w:World):(Instr.fieldAt 79 (pV b o) 1).run Ua w=.ok (.pointer (some ⟨b,o+3,none⟩)) w:=by kernel_rfl
theorem FS (b o:Nat)(w:World):(Instr.fieldAt 79 (pV b o) 3).run Ua w=.ok (.pointer (some ⟨b,o+11,none⟩)) w:=by kernel_rfl
theorem NK (b o:Nat)(w:World):(Instr.fieldAt 79 (pV b o) 4).run Ua w=.ok (.pointer (some ⟨b,o+12,none⟩)) w:=by kernel_rfl
theorem IW (b o:Nat)(w:World):(Instr.fieldAt 79 (pV b o) 5).run Ua w=.ok (.pointer (some ⟨b,o+13,none⟩)) w:=by kernel_rfl
theorem NJ (b o:Nat)(w:World):(Instr.fieldAt 79 (pV b o) 6).run Ua w=.ok (.pointer (some ⟨b,o+14,none⟩)) w:=by kernel_rfl
theorem NI (b o:Nat)(w:World):(Instr.fieldAt 79 (pV b o) 7).run Ua w=.ok (.pointer (some ⟨b,o+15,none⟩)) w:=by kernel_rfl
theorem NH (b o:Nat)(w:World):(Instr.fieldAt 79 (pV b o) 8).run Ua w=.ok (.pointer (some ⟨b,o+16,none⟩)) w:=by kernel_rfl
theorem FR (b o:Nat)(w:World):(Instr.fieldAt 79 (pV b o) 9).run Ua w=.ok (.pointer (some ⟨b,o+17,none⟩)) w:=by kernel_rfl
theorem LH (b o:Nat)(w:World):(Instr.fieldAt 79 (pV b o) 10).run Ua w=.ok (.pointer (some ⟨b,o+18,none⟩)) w:=by kernel_rfl
theorem NG (b o:Nat)(w:World):(Instr.fieldAt 82 (pV b o) 0).run Ua w=.ok (pV b o) w:=by kernel_rfl
theorem NF (b o:Nat)(w:World):(Instr.fieldAt 82 (pV b o) 1).run Ua w=.ok (.pointer (some ⟨b,o+1,none⟩)) w:=by kernel_rfl
theorem NE (b o:Nat)(w:World):(Instr.fieldAt 82 (pV b o) 2).run Ua w=.ok (.pointer (some ⟨b,o+2,none⟩)) w:=by kernel_rfl
theorem IV (b o:Nat)(w:World):(Instr.fieldAt 84 (pV b o) 2).run Ua w=.ok (.pointer (some ⟨b,o+4,none⟩)) w:=by kernel_rfl
theorem Cn (b o:Nat)(w:World):(Instr.fieldAt 96 (pV b o) 0).run Ua w=.ok (pV b o) w:=by kernel_rfl
theorem Cm (b o:Nat)(w:World):(Instr.fieldAt 96 (pV b o) 1).run Ua w=.ok (.pointer (some ⟨b,o+1,none⟩)) w:=by kernel_rfl
theorem Ag (b o:Nat)(w:World):(Instr.fieldAt 99 (pV b o) 0).run Ua w=.ok (pV b o) w:=by kernel_rfl
theorem FQ (b o:Nat)(w:World):(Instr.fieldAt 99 (pV b o) 1).run Ua w=.ok (.pointer (some ⟨b,o+2,none⟩)) w:=by kernel_rfl
theorem ND (b o:Nat)(w:World):(Instr.fieldAt 99 (pV b o) 2).run Ua w=.ok (.pointer (some ⟨b,o+3,none⟩)) w:=by kernel_rfl
theorem NC (b o:Nat)(w:World):(Instr.fieldAt 99 (pV b o) 3).run Ua w=.ok (.pointer (some ⟨b,o+4,none⟩)) w:=by kernel_rfl
theorem LN (b o:Nat)(w:World):(Instr.fieldAt 114 (pV b o) 0).run Ua w=.ok (pV b o) w:=by kernel_rfl
theorem DH (b o:Nat)(w:World):(Instr.fieldAt 114 (pV b o) 1).run Ua w=.ok (.pointer (some ⟨b,o+1,none⟩)) w:=by kernel_rfl
theorem DG (b o:Nat)(w:World):(Instr.fieldAt 114 (pV b o) 2).run Ua w=.ok (.pointer (some ⟨b,o+4,none⟩)) w:=by kernel_rfl
theorem GX (b o:Nat)(w:World):(Instr.fieldAt 114 (pV b o) 3).run Ua w=.ok (.pointer (some ⟨b,o+5,none⟩)) w:=by kernel_rfl
theorem Ak (b o:Nat)(w:World):(Instr.fieldAt 118 (pV b o) 0).run Ua w=.ok (pV b o) w:=by kernel_rfl
theorem LM (b o:Nat)(w:World):(Instr.fieldAt 118 (pV b o) 1).run Ua w=.ok (.pointer (some ⟨b,o+1,none⟩)) w:=by kernel_rfl
theorem LL (b o:Nat)(w:World):(Instr.fieldAt 147 (pV b o) 0).run Ua w=.ok (pV b o) w:=by kernel_rfl
theorem LK (b o:Nat)(w:World):(Instr.fieldAt 186 (pV b o) 0).run Ua w=.ok (pV b o) w:=by kernel_rfl
theorem GW (b o:Nat)(w:World):(Instr.fieldAt 186 (pV b o) 1).run Ua w=.ok (.pointer (some ⟨b,o+2,none⟩)) w:=by kernel_rfl
theorem Aj (b o:Nat)(w:World):(Instr.fieldAt 186 (pV b o) 2).run Ua w=.ok (.pointer (some ⟨b,o+3,none⟩)) w:=by kernel_rfl
theorem LJ (b o:Nat)(w:World):(Instr.fieldAt 186 (pV b o) 3).run Ua w=.ok (.pointer (some ⟨b,o+4,none⟩)) w:=by kernel_rfl
theorem GV (b o:Nat)(w:World):(Instr.fieldAt 186 (pV b o) 4).run Ua w=.ok (.pointer (some ⟨b,o+5,none⟩)) w:=by kernel_rfl
theorem GU (b o:Nat)(w:World):(Instr.fieldAt 229 (pV b o) 0).run Ua w=.ok (pV b o) w:=by kernel_rfl
theorem DF (b o:Nat)(w:World):(Instr.fieldAt 229 (pV b o) 1).run Ua w=.ok (.pointer (some ⟨b,o+2,none⟩)) w:=by kernel_rfl
theorem LI (b o:Nat)(w:World):(Instr.fieldAt 229 (pV b o) 2).run Ua w=.ok (.pointer (some ⟨b,o+3,none⟩)) w:=by kernel_rfl
theorem GT (b o:Nat)(w:World):(Instr.fieldAt 229 (pV b o) 3).run Ua w=.ok (.pointer (some ⟨b,o+4,none⟩)) w:=by kernel_rfl
theorem oH:fK Ua 3=true:=by kernel_rfl
theorem QZ:fK Ua 4=true:=by kernel_rfl
theorem Ng:fK Ua 9=true:=by kernel_rfl
theorem Gv:fK Ua 24=true:=by kernel_rfl
theorem vz:fK Ua 30=true:=by kernel_rfl
theorem zH:fK Ua 39=true:=by kernel_rfl
theorem wG:fK Ua 46=true:=by kernel_rfl
theorem K5:fK Ua 58=true:=by kernel_rfl
theorem IE:fK Ua 60=true:=by kernel_rfl
theorem K4:fK Ua 65=true:=by kernel_rfl
theorem P2:fK Ua 72=true:=by kernel_rfl
theorem P1:fK Ua 89=true:=by kernel_rfl
theorem EC:fK Ua 94=true:=by kernel_rfl
theorem P0:fK Ua 97=true:=by kernel_rfl
theorem HO:fK Ua 115=true:=by kernel_rfl
theorem O5:fK Ua 116=true:=by kernel_rfl
theorem O4:fK Ua 145=true:=by kernel_rfl
theorem HN:fK Ua 170=true:=by kernel_rfl
theorem O3:fK Ua 225=true:=by kernel_rfl
theorem O2:fK Ua 227=true:=by kernel_rfl
instance agg23:FcG Ua 23 3:=⟨by kernel_rfl⟩
instance agg29:FcG Ua 29 7:=⟨by kernel_rfl⟩
instance agg34:FcG Ua 34 5:=⟨by kernel_rfl⟩
instance agg42:FcG Ua 42 6:=⟨by kernel_rfl⟩
instance agg53:FcG Ua 53 5:=⟨by kernel_rfl⟩
instance agg56:FcG Ua 56 9:=⟨by kernel_rfl⟩
instance agg67:FcG Ua 67 18:=⟨by kernel_rfl⟩
instance agg82:FcG Ua 82 3:=⟨by kernel_rfl⟩
instance agg84:FcG Ua 84 5:=⟨by kernel_rfl⟩
instance agg96:FcG Ua 96 2:=⟨by kernel_rfl⟩
instance agg114:FcG Ua 114 6:=⟨by kernel_rfl⟩
instance size3:FcZ Ua 3 1:=⟨by kernel_rfl⟩
instance size4:FcZ Ua 4 1:=⟨by kernel_rfl⟩
instance size9:FcZ Ua 9 1:=⟨by kernel_rfl⟩
instance size23:FcZ Ua 23 3:=⟨by kernel_rfl⟩
instance size29:FcZ Ua 29 7:=⟨by kernel_rfl⟩
instance size30:FcZ Ua 30 1:=⟨by kernel_rfl⟩
instance size34:FcZ Ua 34 5:=⟨by kernel_rfl⟩
instance size39:FcZ Ua 39 1:=⟨by kernel_rfl⟩
instance size42:FcZ Ua 42 6:=⟨by kernel_rfl⟩
instance size53:FcZ Ua 53 5:=⟨by kernel_rfl⟩
instance size56:FcZ Ua 56 9:=⟨by kernel_rfl⟩
instance size58:FcZ Ua 58 1:=⟨by kernel_rfl⟩
instance size60:FcZ Ua 60 1:=⟨by kernel_rfl⟩
instance size65:FcZ Ua 65 1:=⟨by kernel_rfl⟩
instance size67:FcZ Ua 67 18:=⟨by kernel_rfl⟩
instance size84:FcZ Ua 84 5:=⟨by kernel_rfl⟩
instance size94:FcZ Ua 94 1:=⟨by kernel_rfl⟩
instance size96:FcZ Ua 96 2:=⟨by kernel_rfl⟩
instance size114:FcZ Ua 114 6:=⟨by kernel_rfl⟩
instance size115:FcZ Ua 115 1:=⟨by kernel_rfl⟩
instance size145:FcZ Ua 145 1:=⟨by kernel_rfl⟩
instance size156:FcZ Ua 156 4:=⟨by kernel_rfl⟩
instance size157:FcZ Ua 157 22:=⟨by kernel_rfl⟩
instance size170:FcZ Ua 170 1:=⟨by kernel_rfl⟩
instance size225:FcZ Ua 225 1:=⟨by kernel_rfl⟩
instance size253:FcZ Ua 253 0:=⟨by kernel_rfl⟩
instance zero3:FcI Ua 3 (iV 0):=⟨fun w=>by kernel_rfl⟩
instance zero4:FcI Ua 4 (.bool false):=⟨fun w=>by kernel_rfl⟩
instance zero23:FcI Ua 23 (.agg #[iV 0,iV 0,.string ⟨#[]⟩]):=⟨fun w=>by kernel_rfl⟩
instance zero29:FcI Ua 29 (.agg #[iV 0,iV 0,iV 0,iV 0,iV 0,iV 0,iV 0]):=⟨fun w=>by kernel_rfl⟩
instance zero30:FcI Ua 30 (U none 0 0):=⟨fun w=>by kernel_rfl⟩
instance zero34:FcI Ua 34 (.agg #[iV 0,iV 0,iV 0,iV 0,.string ⟨#[]⟩]):=⟨fun w=>by kernel_rfl⟩
instance zero39:FcI Ua 39 (U none 0 0):=⟨fun w=>by kernel_rfl⟩
instance zero42:FcI Ua 42 (.agg #[iV 0,iV 0,iV 0,iV 0,U none 0 0,U none 0 0]):=⟨fun w=>by kernel_rfl⟩
instance zero56:FcI Ua 56 (.agg #[.bool false,iV 0,.string ⟨#[]⟩,iV 0,iV 0,iV 0,iV 0,.string ⟨#[]⟩,U none 0 0]):=⟨fun w=>by kernel_rfl⟩
instance zero67:FcI Ua 67 (.agg #[iV 0,iV 0,iV 0,iV 0,iV 0,iV 0,iV 0,iV 0,iV 0,iV 0,iV 0,iV 0,iV 0,iV 0,U none 0 0,U none 0 0,U none 0 0,U none 0 0]):=⟨fun w=>by kernel_rfl⟩
instance zero96:FcI Ua 96 (.agg #[U none 0 0,U none 0 0]):=⟨fun w=>by kernel_rfl⟩
instance zero114:FcI Ua 114 (.agg #[iV 0,iV 0,iV 0,.string ⟨#[]⟩,iV 0,iV 0]):=⟨fun w=>by kernel_rfl⟩
instance zero145:FcI Ua 145 (.map none):=⟨fun w=>by kernel_rfl⟩
instance zero156:FcI Ua 156 (.agg #[.string ⟨#[]⟩,.string ⟨#[]⟩,.string ⟨#[]⟩,.string ⟨#[]⟩]):=⟨fun w=>by kernel_rfl⟩
instance zero157:FcI Ua 157 (.agg #[.string ⟨#[]⟩,.string ⟨#[]⟩,.string ⟨#[]⟩,.string ⟨#[]⟩,.string ⟨#[]⟩,.string ⟨#[]⟩,.string ⟨#[]⟩,.string ⟨#[]⟩,.string ⟨#[]⟩,.string ⟨#[]⟩,.string ⟨#[]⟩,.string ⟨#[]⟩,.string ⟨#[]⟩,.string ⟨#[]⟩,.string ⟨#[]⟩,.string ⟨#[]⟩,.string ⟨#[]⟩,.string ⟨#[]⟩,.string ⟨#[]⟩,.string ⟨#[]⟩,.string ⟨#[]⟩,.string ⟨#[]⟩]):=⟨fun w=>by kernel_rfl⟩
instance zero170:FcI Ua 170 (.map none):=⟨fun w=>by kernel_rfl⟩
instance zero225:FcI Ua 225 (.pointer none):=⟨fun w=>by kernel_rfl⟩
instance zero253:FcI Ua 253 (.agg #[]):=⟨fun w=>by kernel_rfl⟩
theorem LE (x0_:Int)(x1_:Int)(x2_:ByteArray)(w:World):(Instr.field 23 (.agg #[iV x0_,iV x1_,.string x2_]) 1).run Ua w=.ok (iV x1_) w:=by kernel_rfl
theorem LD (x0_:Int)(x1_:Int)(x2_:Int)(x3_:Int)(x4_a:Option Addr)(x4_n x4_c:Nat)(x5_a:Option Addr)(x5_n x5_c:Nat)(w:World):(Instr.field 42 (.agg #[iV x0_,iV x1_,iV x2_,iV x3_,.slice x4_a x4_n x4_c,.slice x5_a x5_n x5_c]) 2).run Ua w=.ok (iV x2_) w:=by kernel_rfl
theorem LC (x0_:Int)(x1_:Int)(x2_:Int)(x3_:Int)(x4_a:Option Addr)(x4_n x4_c:Nat)(x5_a:Option Addr)(x5_n x5_c:Nat)(w:World):(Instr.field 42 (.agg #[iV x0_,iV x1_,iV x2_,iV x3_,.slice x4_a x4_n x4_c,.slice x5_a x5_n x5_c]) 3).run Ua w=.ok (iV x3_) w:=by kernel_rfl
theorem wV (x0_:Int)(x1_:Int)(x2_:Int)(x3_:Int)(x4_a:Option Addr)(x4_n x4_c:Nat)(x5_a:Option Addr)(x5_n x5_c:Nat)(w:World):(Instr.field 42 (.agg #[iV x0_,iV x1_,iV x2_,iV x3_,.slice x4_a x4_n x4_c,.slice x5_a x5_n x5_c]) 5).run Ua w=.ok (.slice x5_a x5_n x5_c) w:=by kernel_rfl
instance bld_23_:FcB Ua 23 [] (.agg #[iV 0,iV 0,.string ⟨#[]⟩]):=⟨fun w=>by kernel_rfl⟩
instance bld_23_0 (x0_:Int):FcB Ua 23 [(0,iV x0_)] (.agg #[iV x0_,iV 0,.string ⟨#[]⟩]):=⟨fun w=>by kernel_rfl⟩
instance bld_23_0_1 (x0_:Int) (x1_:Int):FcB Ua 23 [(0,iV x0_),(1,iV x1_)] (.agg #[iV x0_,iV x1_,.string ⟨#[]⟩]):=⟨fun w=>by kernel_rfl⟩
instance bld_23_0_2 (x0_:Int) (x2_:ByteArray):FcB Ua 23 [(0,iV x0_),(2,.string x2_)] (.agg #[iV x0_,iV 0,.string x2_]):=⟨fun w=>by kernel_rfl⟩
instance bld_29_1_2_3 (x1_:Int) (x2_:Int) (x3_:Int):FcB Ua 29 [(1,iV x1_),(2,iV x2_),(3,iV x3_)] (.agg #[iV 0,iV x1_,iV x2_,iV x3_,iV 0,iV 0,iV 0]):=⟨fun w=>by kernel_rfl⟩
instance bld_34_0 (x0_:Int):FcB Ua 34 [(0,iV x0_)] (.agg #[iV x0_,iV 0,iV 0,iV 0,.string ⟨#[]⟩]):=⟨fun w=>by kernel_rfl⟩
instance bld_34_0_1 (x0_:Int) (x1_:Int):FcB Ua 34 [(0,iV x0_),(1,iV x1_)] (.agg #[iV x0_,iV x1_,iV 0,iV 0,.string ⟨#[]⟩]):=⟨fun w=>by kernel_rfl⟩
instance bld_34_0_2 (x0_:Int) (x2_0_:Int) (x2_1_:Int) (x2_2_:ByteArray):FcB Ua 34 [(0,iV x0_),(2,.agg #[iV x2_0_,iV x2_1_,.string x2_2_])] (.agg #[iV x0_,iV 0,iV x2_0_,iV x2_1_,.string x2_2_]):=⟨fun w=>by kernel_rfl⟩
instance bld_42_:FcB Ua 42 [] (.agg #[iV 0,iV 0,iV 0,iV 0,U none 0 0,U none 0 0]):=⟨fun w=>by kernel_rfl⟩
instance bld_42_0 (x0_:Int):FcB Ua 42 [(0,iV x0_)] (.agg #[iV x0_,iV 0,iV 0,iV 0,U none 0 0,U none 0 0]):=⟨fun w=>by kernel_rfl⟩
instance bld_42_0_1_2_4 (x0_:Int) (x1_:Int) (x2_:Int) (x4_a:Option Addr) (x4_n x4_c:Nat):FcB Ua 42 [(0,iV x0_),(1,iV x1_),(2,iV x2_),(4,.slice x4_a x4_n x4_c)] (.agg #[iV x0_,iV x1_,iV x2_,iV 0,.slice x4_a x4_n x4_c,U none 0 0]):=⟨fun w=>by kernel_rfl⟩
instance bld_42_0_2_4 (x0_:Int) (x2_:Int) (x4_a:Option Addr) (x4_n x4_c:Nat):FcB Ua 42 [(0,iV x0_),(2,iV x2_),(4,.slice x4_a x4_n x4_c)] (.agg #[iV x0_,iV 0,iV x2_,iV 0,.slice x4_a x4_n x4_c,U none 0 0]):=⟨fun w=>by kernel_rfl⟩
instance bld_42_0_5 (x0_:Int) (x5_a:Option Addr) (x5_n x5_c:Nat):FcB Ua 42 [(0,iV x0_),(5,.slice x5_a x5_n x5_c)] (.agg #[iV x0_,iV 0,iV 0,iV 0,U none 0 0,.slice x5_a x5_n x5_c]):=⟨fun w=>by kernel_rfl⟩
instance bld_42_5 (x5_a:Option Addr) (x5_n x5_c:Nat):FcB Ua 42 [(5,.slice x5_a x5_n x5_c)] (.agg #[iV 0,iV 0,iV 0,iV 0,U none 0 0,.slice x5_a x5_n x5_c]):=⟨fun w=>by kernel_rfl⟩
instance bld_56_:FcB Ua 56 [] (.agg #[.bool false,iV 0,.string ⟨#[]⟩,iV 0,iV 0,iV 0,iV 0,.string ⟨#[]⟩,U none 0 0]):=⟨fun w=>by kernel_rfl⟩
instance bld_56_0 (x0_:Bool):FcB Ua 56 [(0,.bool x0_)] (.agg #[.bool x0_,iV 0,.string ⟨#[]⟩,iV 0,iV 0,iV 0,iV 0,.string ⟨#[]⟩,U none 0 0]):=⟨fun w=>by kernel_rfl⟩
instance bld_56_1 (x1_:Int):FcB Ua 56 [(1,iV x1_)] (.agg #[.bool false,iV x1_,.string ⟨#[]⟩,iV 0,iV 0,iV 0,iV 0,.string ⟨#[]⟩,U none 0 0]):=⟨fun w=>by kernel_rfl⟩
instance bld_56_2 (x2_:ByteArray):FcB Ua 56 [(2,.string x2_)] (.agg #[.bool false,iV 0,.string x2_,iV 0,iV 0,iV 0,iV 0,.string ⟨#[]⟩,U none 0 0]):=⟨fun w=>by kernel_rfl⟩
instance bld_56_3 (x3_0_:Int) (x3_1_:Int) (x3_2_0_:Int) (x3_2_1_:Int) (x3_2_2_:ByteArray):FcB Ua 56 [(3,.agg #[iV x3_0_,iV x3_1_,iV x3_2_0_,iV x3_2_1_,.string x3_2_2_])] (.agg #[.bool false,iV 0,.string ⟨#[]⟩,iV x3_0_,iV x3_1_,iV x3_2_0_,iV x3_2_1_,.string x3_2_2_,U none 0 0]):=⟨fun w=>by kernel_rfl⟩
instance bld_56_3_2 (x3_0_:Int) (x3_1_:Int) (x3_2_0_:Int) (x3_2_1_:Int) (x3_2_2_:ByteArray) (x2_:ByteArray):FcB Ua 56 [(3,.agg #[iV x3_0_,iV x3_1_,iV x3_2_0_,iV x3_2_1_,.string x3_2_2_]),(2,.string x2_)] (.agg #[.bool false,iV 0,.string x2_,iV x3_0_,iV x3_1_,iV x3_2_0_,iV x3_2_1_,.string x3_2_2_,U none 0 0]):=⟨fun w=>by kernel_rfl⟩
instance bld_67_0_7 (x0_0_:Int) (x0_1_:Int) (x0_2_:Int) (x0_3_:Int) (x0_4_:Int) (x0_5_:Int) (x0_6_:Int) (x7_:Int):FcB Ua 67 [(0,.agg #[iV x0_0_,iV x0_1_,iV x0_2_,iV x0_3_,iV x0_4_,iV x0_5_,iV x0_6_]),(7,iV x7_)] (.agg #[iV x0_0_,iV x0_1_,iV x0_2_,iV x0_3_,iV x0_4_,iV x0_5_,iV x0_6_,iV 0,iV 0,iV 0,iV 0,iV 0,iV 0,iV x7_,U none 0 0,U none 0 0,U none 0 0,U none 0 0]):=⟨fun w=>by kernel_rfl⟩
instance bld_79_1_3_4 (x1_0_:Int) (x1_1_:Int) (x1_2_:Int) (x1_3_:Int) (x1_4_:Int) (x1_5_:Int) (x1_6_:Int) (x3_:Option Addr) (x4_:Option Addr):FcB Ua 79 [(1,.agg #[iV x1_0_,iV x1_1_,iV x1_2_,iV x1_3_,iV x1_4_,iV x1_5_,iV x1_6_]),(3,.pointer x3_),(4,.pointer x4_)] (.agg #[iV 0,iV 0,iV 0,iV x1_0_,iV x1_1_,iV x1_2_,iV x1_3_,iV x1_4_,iV x1_5_,iV x1_6_,.nilIface,.pointer x3_,.pointer x4_,U none 0 0,iV 0,iV 0,iV 0,U none 0 0,U none 0 0]):=⟨fun w=>by kernel_rfl⟩
instance bld_82_0_2 (x0_:Int) (x2_:ByteArray):FcB Ua 82 [(0,iV x0_),(2,.string x2_)] (.agg #[iV x0_,iV 0,.string x2_]):=⟨fun w=>by kernel_rfl⟩
instance bld_84_0_2 (x0_:Int) (x2_:ByteArray):FcB Ua 84 [(0,iV x0_),(2,.string x2_)] (.agg #[iV x0_,iV 0,iV 0,.string ⟨#[]⟩,.string x2_]):=⟨fun w=>by kernel_rfl⟩
instance bld_96_:FcB Ua 96 [] (.agg #[U none 0 0,U none 0 0]):=⟨fun w=>by kernel_rfl⟩
instance bld_99_3 (x3_:Option Addr):FcB Ua 99 [(3,.pointer x3_)] (.agg #[U none 0 0,U none 0 0,U none 0 0,U none 0 0,.pointer x3_]):=⟨fun w=>by kernel_rfl⟩
instance bld_114_:FcB Ua 114 [] (.agg #[iV 0,iV 0,iV 0,.string ⟨#[]⟩,iV 0,iV 0]):=⟨fun w=>by kernel_rfl⟩
instance bld_114_0 (x0_:Int):FcB Ua 114 [(0,iV x0_)] (.agg #[iV x0_,iV 0,iV 0,.string ⟨#[]⟩,iV 0,iV 0]):=⟨fun w=>by kernel_rfl⟩
instance bld_114_0_1_2_3 (x0_:Int) (x1_0_:Int) (x1_1_:Int) (x1_2_:ByteArray) (x2_:Int) (x3_:Int):FcB Ua 114 [(0,iV x0_),(1,.agg #[iV x1_0_,iV x1_1_,.string x1_2_]),(2,iV x2_),(3,iV x3_)] (.agg #[iV x0_,iV x1_0_,iV x1_1_,.string x1_2_,iV x2_,iV x3_]):=⟨fun w=>by kernel_rfl⟩
instance bld_114_1_2 (x1_0_:Int) (x1_1_:Int) (x1_2_:ByteArray) (x2_:Int):FcB Ua 114 [(1,.agg #[iV x1_0_,iV x1_1_,.string x1_2_]),(2,iV x2_)] (.agg #[iV 0,iV x1_0_,iV x1_1_,.string x1_2_,iV x2_,iV 0]):=⟨fun w=>by kernel_rfl⟩
instance bld_118_0_1 (x0_a:Option Addr) (x0_n x0_c:Nat) (x1_:Option Nat):FcB Ua 118 [(0,.slice x0_a x0_n x0_c),(1,.map x1_)] (.agg #[.slice x0_a x0_n x0_c,.map x1_]):=⟨fun w=>by kernel_rfl⟩
instance bld_147_0 (x0_:Option Nat):FcB Ua 147 [(0,.map x0_)] (.agg #[.map x0_]):=⟨fun w=>by kernel_rfl⟩
instance bld_156_0_1_2_3 (x0_:ByteArray) (x1_:ByteArray) (x2_:ByteArray) (x3_:ByteArray):FcB Ua 156 [(0,.string x0_),(1,.string x1_),(2,.string x2_),(3,.string x3_)] (.agg #[.string x0_,.string x1_,.string x2_,.string x3_]):=⟨fun w=>by kernel_rfl⟩
instance bld_157_0_1_2_3_4_5_6_7_8_9_10_11_12_13_14_15_16_17_18_19_20_21 (x0_:ByteArray) (x1_:ByteArray) (x2_:ByteArray) (x3_:ByteArray) (x4_:ByteArray) (x5_:ByteArray) (x6_:ByteArray) (x7_:ByteArray) (x8_:ByteArray) (x9_:ByteArray) (x10_:ByteArray) (x11_:ByteArray) (x12_:ByteArray) (x13_:ByteArray) (x14_:ByteArray) (x15_:ByteArray) (x16_:ByteArray) (x17_:ByteArray) (x18_:ByteArray) (x19_:ByteArray) (x20_:ByteArray) (x21_:ByteArray):FcB Ua 157 [(0,.string x0_),(1,.string x1_),(2,.string x2_),(3,.string x3_),(4,.string x4_),(5,.string x5_),(6,.string x6_),(7,.string x7_),(8,.string x8_),(9,.string x9_),(10,.string x10_),(11,.string x11_),(12,.string x12_),(13,.string x13_),(14,.string x14_),(15,.string x15_),(16,.string x16_),(17,.string x17_),(18,.string x18_),(19,.string x19_),(20,.string x20_),(21,.string x21_)] (.agg #[.string x0_,.string x1_,.string x2_,.string x3_,.string x4_,.string x5_,.string x6_,.string x7_,.string x8_,.string x9_,.string x10_,.string x11_,.string x12_,.string x13_,.string x14_,.string x15_,.string x16_,.string x17_,.string x18_,.string x19_,.string x20_,.string x21_]):=⟨fun w=>by kernel_rfl⟩
instance bld_186_0_1_3 (x0_0_a:Option Addr) (x0_0_n x0_0_c:Nat) (x0_1_a:Option Addr) (x0_1_n x0_1_c:Nat) (x1_a:Option Addr) (x1_n x1_c:Nat) (x3_:Option Nat):FcB Ua 186 [(0,.agg #[.slice x0_0_a x0_0_n x0_0_c,.slice x0_1_a x0_1_n x0_1_c]),(1,.slice x1_a x1_n x1_c),(3,.map x3_)] (.agg #[.slice x0_0_a x0_0_n x0_0_c,.slice x0_1_a x0_1_n x0_1_c,.slice x1_a x1_n x1_c,U none 0 0,.map x3_,iV 0]):=⟨fun w=>by kernel_rfl⟩
instance bld_202_0_1_2 (x0_:Int) (x1_0_:Int) (x1_1_:Int) (x1_2_:ByteArray) (x2_:Int):FcB Ua 202 [(0,iV x0_),(1,.agg #[iV x1_0_,iV x1_1_,.string x1_2_]),(2,iV x2_)] (.agg #[iV x0_,iV x1_0_,iV x1_1_,.string x1_2_,iV x2_]):=⟨fun w=>by kernel_rfl⟩
instance bld_229_0_2 (x0_0_a:Option Addr) (x0_0_n x0_0_c:Nat) (x0_1_a:Option Addr) (x0_1_n x0_1_c:Nat) (x2_:Option Nat):FcB Ua 229 [(0,.agg #[.slice x0_0_a x0_0_n x0_0_c,.slice x0_1_a x0_1_n x0_1_c]),(2,.map x2_)] (.agg #[.slice x0_0_a x0_0_n x0_0_c,.slice x0_1_a x0_1_n x0_1_c,U none 0 0,.map x2_,iV 0]):=⟨fun w=>by kernel_rfl⟩
instance bld_253_:FcB Ua 253 [] (.agg #[]):=⟨fun w=>by kernel_rfl⟩
theorem Hf  (w:World):(Instr.buildSlice 30 0 #[]).run Ua w=.ok (.slice (some ⟨w.heap.size,0,none⟩) 0 0) (w.alloc (.cells #[] 23)):=by kernel_rfl
theorem qh (x0_0_:Int)(x0_1_:Int)(x0_2_:ByteArray)(w:World):(Instr.buildSlice 30 1 #[(0,.agg #[iV x0_0_,iV x0_1_,.string x0_2_])]).run Ua w=.ok (.slice (some ⟨w.heap.size,0,none⟩) 1 1) (w.alloc (.cells #[iV x0_0_,iV x0_1_,.string x0_2_] 23)):=by kernel_rfl
theorem xf (x0_0_:Int)(x0_1_:Int)(x0_2_:ByteArray)(x1_0_:Int)(x1_1_:Int)(x1_2_:ByteArray)(w:World):(Instr.buildSlice 30 2 #[(0,.agg #[iV x0_0_,iV x0_1_,.string x0_2_]),(1,.agg #[iV x1_0_,iV x1_1_,.string x1_2_])]).run Ua w=.ok (.slice (some ⟨w.heap.size,0,none⟩) 2 2) (w.alloc (.cells #[iV x0_0_,iV x0_1_,.string x0_2_,iV x1_0_,iV x1_1_,.string x1_2_] 23)):=by kernel_rfl
theorem Mq (x0_0_:Int)(x0_1_:Int)(x0_2_:ByteArray)(x1_0_:Int)(x1_1_:Int)(x1_2_:ByteArray)(x2_0_:Int)(x2_1_:Int)(x2_2_:ByteArray)(w:World):(Instr.buildSlice 30 3 #[(0,.agg #[iV x0_0_,iV x0_1_,.string x0_2_]),(1,.agg #[iV x1_0_,iV x1_1_,.string x1_2_]),(2,.agg #[iV x2_0_,iV x2_1_,.string x2_2_])]).run Ua w=.ok (.slice (some ⟨w.heap.size,0,none⟩) 3 3) (w.alloc (.cells #[iV x0_0_,iV x0_1_,.string x0_2_,iV x1_0_,iV x1_1_,.string x1_2_,iV x2_0_,iV x2_1_,.string x2_2_] 23)):=by kernel_rfl
theorem Mo (x0_0_:Int)(x0_1_:Int)(x0_2_:ByteArray)(x1_0_:Int)(x1_1_:Int)(x1_2_:ByteArray)(x2_0_:Int)(x2_1_:Int)(x2_2_:ByteArray)(x3_0_:Int)(x3_1_:Int)(x3_2_:ByteArray)(w:World):(Instr.buildSlice 30 4 #[(0,.agg #[iV x0_0_,iV x0_1_,.string x0_2_]),(1,.agg #[iV x1_0_,iV x1_1_,.string x1_2_]),(2,.agg #[iV x2_0_,iV x2_1_,.string x2_2_]),(3,.agg #[iV x3_0_,iV x3_1_,.string x3_2_])]).run Ua w=.ok (.slice (some ⟨w.heap.size,0,none⟩) 4 4) (w.alloc (.cells #[iV x0_0_,iV x0_1_,.string x0_2_,iV x1_0_,iV x1_1_,.string x1_2_,iV x2_0_,iV x2_1_,.string x2_2_,iV x3_0_,iV x3_1_,.string x3_2_] 23)):=by kernel_rfl
theorem ll (x0_:Int)(w:World):(Instr.buildSlice 39 1 #[(0,iV x0_)]).run Ua w=.ok (.slice (some ⟨w.heap.size,0,none⟩) 1 1) (w.alloc (.cells #[iV x0_] 3)):=by kernel_rfl
theorem Mn (x0_:Int)(x1_:Int)(w:World):(Instr.buildSlice 39 2 #[(0,iV x0_),(1,iV x1_)]).run Ua w=.ok (.slice (some ⟨w.heap.size,0,none⟩) 2 2) (w.alloc (.cells #[iV x0_,iV x1_] 3)):=by kernel_rfl
theorem He  (w:World):(Instr.buildSlice 58 0 #[]).run Ua w=.ok (.slice (some ⟨w.heap.size,0,none⟩) 0 0) (w.alloc (.cells #[] 84)):=by kernel_rfl
theorem Ay (x0_0_:Int)(x0_1_0_:Int)(x0_1_1_:Int)(x0_1_2_:ByteArray)(x0_2_:ByteArray)(w:World):(Instr.buildSlice 58 1 #[(0,.agg #[iV x0_0_,iV x0_1_0_,iV x0_1_1_,.string x0_1_2_,.string x0_2_])]).run Ua w=.ok (.slice (some ⟨w.heap.size,0,none⟩) 1 1) (w.alloc (.cells #[iV x0_0_,iV x0_1_0_,iV x0_1_1_,.string x0_1_2_,.string x0_2_] 84)):=by kernel_rfl
theorem Ax  (w:World):(Instr.buildSlice 60 0 #[]).run Ua w=.ok (.slice (some ⟨w.heap.size,0,none⟩) 0 0) (w.alloc (.cells #[] 9)):=by kernel_rfl
theorem qg (x0_:ByteArray)(w:World):(Instr.buildSlice 60 1 #[(0,.string x0_)]).run Ua w=.ok (.slice (some ⟨w.heap.size,0,none⟩) 1 1) (w.alloc (.cells #[.string x0_] 9)):=by kernel_rfl
theorem Mm (x0_:ByteArray)(x1_:ByteArray)(x2_:ByteArray)(x3_:ByteArray)(w:World):(Instr.buildSlice 60 4 #[(0,.string x0_),(1,.string x1_),(2,.string x2_),(3,.string x3_)]).run Ua w=.ok (.slice (some ⟨w.heap.size,0,none⟩) 4 4) (w.alloc (.cells #[.string x0_,.string x1_,.string x2_,.string x3_] 9)):=by kernel_rfl
theorem Ko (x0_:ByteArray)(x1_:ByteArray)(x2_:ByteArray)(x3_:ByteArray)(x4_:ByteArray)(x5_:ByteArray)(x6_:ByteArray)(x7_:ByteArray)(x8_:ByteArray)(x9_:ByteArray)(x10_:ByteArray)(x11_:ByteArray)(x12_:ByteArray)(x13_:ByteArray)(x14_:ByteArray)(x15_:ByteArray)(x16_:ByteArray)(x17_:ByteArray)(x18_:ByteArray)(x19_:ByteArray)(x20_:ByteArray)(x21_:ByteArray)(w:World):(Instr.buildSlice 60 22 #[(0,.string x0_),(1,.string x1_),(2,.string x2_),(3,.string x3_),(4,.string x4_),(5,.string x5_),(6,.string x6_),(7,.string x7_),(8,.string x8_),(9,.string x9_),(10,.string x10_),(11,.string x11_),(12,.string x12_),(13,.string x13_),(14,.string x14_),(15,.string x15_),(16,.string x16_),(17,.string x17_),(18,.string x18_),(19,.string x19_),(20,.string x20_),(21,.string x21_)]).run Ua w=.ok (.slice (some ⟨w.heap.size,0,none⟩) 22 22) (w.alloc (.cells #[.string x0_,.string x1_,.string x2_,.string x3_,.string x4_,.string x5_,.string x6_,.string x7_,.string x8_,.string x9_,.string x10_,.string x11_,.string x12_,.string x13_,.string x14_,.string x15_,.string x16_,.string x17_,.string x18_,.string x19_,.string x20_,.string x21_] 9)):=by kernel_rfl
theorem Hd  (w:World):(Instr.buildSlice 65 0 #[]).run Ua w=.ok (.slice (some ⟨w.heap.size,0,none⟩) 0 0) (w.alloc (.cells #[] 30)):=by kernel_rfl
theorem Ml (x0_a:Option Addr)(x0_n x0_c:Nat)(w:World):(Instr.buildSlice 65 1 #[(0,.slice x0_a x0_n x0_c)]).run Ua w=.ok (.slice (some ⟨w.heap.size,0,none⟩) 1 1) (w.alloc (.cells #[.slice x0_a x0_n x0_c] 30)):=by kernel_rfl
theorem nA (x0_a:Option Addr)(x0_n x0_c:Nat)(x1_a:Option Addr)(x1_n x1_c:Nat)(w:World):(Instr.buildSlice 65 2 #[(0,.slice x0_a x0_n x0_c),(1,.slice x1_a x1_n x1_c)]).run Ua w=.ok (.slice (some ⟨w.heap.size,0,none⟩) 2 2) (w.alloc (.cells #[.slice x0_a x0_n x0_c,.slice x1_a x1_n x1_c] 30)):=by kernel_rfl
theorem xe (x0_0_:Int)(x0_1_:Int)(x0_2_:Int)(x0_3_:Int)(x0_4_a:Option Addr)(x0_4_n x0_4_c:Nat)(x0_5_a:Option Addr)(x0_5_n x0_5_c:Nat)(w:World):(Instr.buildSlice 94 1 #[(0,.agg #[iV x0_0_,iV x0_1_,iV x0_2_,iV x0_3_,.slice x0_4_a x0_4_n x0_4_c,.slice x0_5_a x0_5_n x0_5_c])]).run Ua w=.ok (.slice (some ⟨w.heap.size,0,none⟩) 1 1) (w.alloc (.cells #[iV x0_0_,iV x0_1_,iV x0_2_,iV x0_3_,.slice x0_4_a x0_4_n x0_4_c,.slice x0_5_a x0_5_n x0_5_c] 42)):=by kernel_rfl
theorem Bp (x0_0_:Int)(x0_1_0_:Int)(x0_1_1_:Int)(x0_1_2_:ByteArray)(x0_2_:Int)(x0_3_:Int)(w:World):(Instr.buildSlice 115 1 #[(0,.agg #[iV x0_0_,iV x0_1_0_,iV x0_1_1_,.string x0_1_2_,iV x0_2_,iV x0_3_])]).run Ua w=.ok (.slice (some ⟨w.heap.size,0,none⟩) 1 1) (w.alloc (.cells #[iV x0_0_,iV x0_1_0_,iV x0_1_1_,.string x0_1_2_,iV x0_2_,iV x0_3_] 114)):=by kernel_rfl
theorem Bo (x0_a:Option Addr)(x0_n x0_c:Nat)(x1_a:Option Addr)(x1_n x1_c:Nat)(w:World):(Instr.buildSlice 134 2 #[(0,.slice x0_a x0_n x0_c),(1,.slice x1_a x1_n x1_c)]).run Ua w=.ok (.slice (some ⟨w.heap.size,0,none⟩) 2 2) (w.alloc (.cells #[.slice x0_a x0_n x0_c,.slice x1_a x1_n x1_c] 94)):=by kernel_rfl
theorem E3 (x0_a:Option Addr)(x0_n x0_c:Nat)(x1_a:Option Addr)(x1_n x1_c:Nat)(w:World):(Instr.buildSlice 191 2 #[(0,.slice x0_a x0_n x0_c),(1,.slice x1_a x1_n x1_c)]).run Ua w=.ok (.slice (some ⟨w.heap.size,0,none⟩) 2 2) (w.alloc (.cells #[.slice x0_a x0_n x0_c,.slice x1_a x1_n x1_c] 39)):=by kernel_rfl
theorem F5:sK Ua 3 1 8=true:=by kernel_rfl
theorem Hk:sK Ua 9 1 16=true:=by kernel_rfl
theorem zf:sK Ua 23 3 32=true:=by kernel_rfl
theorem OP:sK Ua 30 1 24=true:=by kernel_rfl
theorem F7:sK Ua 42 6 80=true:=by kernel_rfl
theorem F6:sK Ua 84 5 56=true:=by kernel_rfl
theorem PL:sK Ua 114 6 56=true:=by kernel_rfl
instance:Fc (fK Ua 3=true):=⟨oH⟩
instance:Fc (fK Ua 4=true):=⟨QZ⟩
instance:Fc (fK Ua 9=true):=⟨Ng⟩
instance:Fc (fK Ua 24=true):=⟨Gv⟩
instance:Fc (fK Ua 30=true):=⟨vz⟩
instance:Fc (fK Ua 39=true):=⟨zH⟩
instance:Fc (fK Ua 46=true):=⟨wG⟩
instance:Fc (fK Ua 58=true):=⟨K5⟩
instance:Fc (fK Ua 60=true):=⟨IE⟩
instance:Fc (fK Ua 65=true):=⟨K4⟩
instance:Fc (fK Ua 72=true):=⟨P2⟩
instance:Fc (fK Ua 89=true):=⟨P1⟩
instance:Fc (fK Ua 94=true):=⟨EC⟩
instance:Fc (fK Ua 97=true):=⟨P0⟩
instance:Fc (fK Ua 115=true):=⟨HO⟩
instance:Fc (fK Ua 116=true):=⟨O5⟩
instance:Fc (fK Ua 145=true):=⟨O4⟩
instance:Fc (fK Ua 170=true):=⟨HN⟩
instance:Fc (fK Ua 225=true):=⟨O3⟩
instance:Fc (fK Ua 227=true):=⟨O2⟩
instance:FcA0 Ua 23 0:=⟨tf⟩
instance:FcA Ua 23 1 1:=⟨vb⟩
instance:FcA Ua 23 2 2:=⟨I2⟩
instance:FcA0 Ua 29 0:=⟨Od⟩
instance:FcA Ua 29 1 1:=⟨Oc⟩
instance:FcA Ua 29 2 2:=⟨Ob⟩
instance:FcA Ua 29 3 3:=⟨Oa⟩
instance:FcA Ua 29 4 4:=⟨N9⟩
instance:FcA Ua 29 5 5:=⟨N8⟩
instance:FcA Ua 29 6 6:=⟨N7⟩
instance:FcA0 Ua 34 0:=⟨N6⟩
instance:FcA Ua 34 2 2:=⟨N5⟩
instance:FcA0 Ua 42 0:=⟨N4⟩
instance:FcA Ua 42 1 1:=⟨N3⟩
instance:FcA Ua 42 2 2:=⟨N2⟩
instance:FcA Ua 42 3 3:=⟨Ai⟩
instance:FcA Ua 42 4 4:=⟨FU⟩
instance:FcA Ua 42 5 5:=⟨xJ⟩
instance:FcA0 Ua 53 0:=⟨N1⟩
instance:FcA Ua 53 1 1:=⟨N0⟩
instance:FcA Ua 53 2 2:=⟨NZ⟩
instance:FcA Ua 53 3 3:=⟨I1⟩
instance:FcA Ua 53 4 4:=⟨NY⟩
instance:FcA0 Ua 56 0:=⟨NX⟩
instance:FcA Ua 56 1 1:=⟨NW⟩
instance:FcA Ua 56 2 2:=⟨NV⟩
instance:FcA Ua 56 3 3:=⟨NU⟩
instance:FcA Ua 56 4 8:=⟨Ah⟩
instance:FcA0 Ua 67 0:=⟨NT⟩
instance:FcA Ua 67 1 7:=⟨NS⟩
instance:FcA Ua 67 2 8:=⟨I0⟩
instance:FcA Ua 67 3 9:=⟨NR⟩
instance:FcA Ua 67 4 10:=⟨IZ⟩
instance:FcA Ua 67 5 11:=⟨IY⟩
instance:FcA Ua 67 6 12:=⟨IX⟩
instance:FcA Ua 67 7 13:=⟨FT⟩
instance:FcA Ua 67 8 14:=⟨xI⟩
instance:FcA Ua 67 9 15:=⟨NQ⟩
instance:FcA Ua 67 10 16:=⟨GS⟩
instance:FcA Ua 67 11 17:=⟨DE⟩
instance:FcA0 Ua 75 0:=⟨NP⟩
instance:FcA Ua 75 1 1:=⟨NO⟩
instance:FcA Ua 75 2 2:=⟨NN⟩
instance:FcA0 Ua 79 0:=⟨NM⟩
instance:FcA Ua 79 1 3:=⟨NL⟩
instance:FcA Ua 79 3 11:=⟨FS⟩
instance:FcA Ua 79 4 12:=⟨NK⟩
instance:FcA Ua 79 5 13:=⟨IW⟩
instance:FcA Ua 79 6 14:=⟨NJ⟩
instance:FcA Ua 79 7 15:=⟨NI⟩
instance:FcA Ua 79 8 16:=⟨NH⟩
instance:FcA Ua 79 9 17:=⟨FR⟩
instance:FcA Ua 79 10 18:=⟨LH⟩
instance:FcA0 Ua 82 0:=⟨NG⟩
instance:FcA Ua 82 1 1:=⟨NF⟩
instance:FcA Ua 82 2 2:=⟨NE⟩
instance:FcA Ua 84 2 4:=⟨IV⟩
instance:FcA0 Ua 96 0:=⟨Cn⟩
instance:FcA Ua 96 1 1:=⟨Cm⟩
instance:FcA0 Ua 99 0:=⟨Ag⟩
instance:FcA Ua 99 1 2:=⟨FQ⟩
instance:FcA Ua 99 2 3:=⟨ND⟩
instance:FcA Ua 99 3 4:=⟨NC⟩
instance:FcA0 Ua 114 0:=⟨LN⟩
instance:FcA Ua 114 1 1:=⟨DH⟩
instance:FcA Ua 114 2 4:=⟨DG⟩
instance:FcA Ua 114 3 5:=⟨GX⟩
instance:FcA0 Ua 118 0:=⟨Ak⟩
instance:FcA Ua 118 1 1:=⟨LM⟩
instance:FcA0 Ua 147 0:=⟨LL⟩
instance:FcA0 Ua 186 0:=⟨LK⟩
instance:FcA Ua 186 1 2:=⟨GW⟩
instance:FcA Ua 186 2 3:=⟨Aj⟩
instance:FcA Ua 186 3 4:=⟨LJ⟩
instance:FcA Ua 186 4 5:=⟨GV⟩
instance:FcA0 Ua 229 0:=⟨GU⟩
instance:FcA Ua 229 1 2:=⟨DF⟩
instance:FcA Ua 229 2 3:=⟨LI⟩
instance:FcA Ua 229 3 4:=⟨GT⟩
instance:FcS Ua 30 23:=⟨t0⟩
instance:FcS Ua 39 3:=⟨t5⟩
instance:FcS Ua 50 53:=⟨t9⟩
instance:FcS Ua 58 84:=⟨z9⟩
instance:FcS Ua 60 9:=⟨Ex⟩
instance:FcS Ua 65 30:=⟨EM⟩
instance:FcS Ua 94 42:=⟨SZ⟩
instance:FcS Ua 115 114:=⟨Ta⟩
instance:FcS Ua 134 94:=⟨Tb⟩
instance:RepF Gm (fun x=> [iV x.UD,iV x.Uu,iV x.Uq,iV x.Ut,iV x.Uj,iV x.UC,iV x.UE]):=⟨fun _ _ _ _ h=>h⟩
instance:RepF ap (fun x=> [iV x.Ui,iV x.N,.string x.S]):=⟨fun _ _ _ _ h=>h⟩
instance:RepF PU (fun x=> [iV x.Ui,iV x.N,.string x.S]):=⟨fun _ _ _ _ h=>h⟩
instance:RepF xt (fun x=> [iV x.Up,iV x.UZ.Ui,iV x.UZ.N,.string x.UZ.S,iV x.Vd,iV x.Ve]):=⟨fun _ _ _ _ h=>h⟩
instance:RepF OZ (fun x=> [iV x.Vg,iV x.Vf.Ui,iV x.Vf.N,.string x.Vf.S,iV x.Vh]):=⟨fun _ _ _ _ h=>h⟩
instance:RepF MZ (fun x=> [iV x.UV,iV x.UT,iV x.UU]):=⟨fun _ _ _ _ h=>h⟩
instance:RepF mI (fun x=> [iV x.Ui,iV x.UZ.Ui,iV x.UZ.N,.string x.UZ.S,.string x.S]):=⟨fun _ _ _ _ h=>h⟩
instance:RepF PV (fun x=> [iV x.Ui,iV x.N,iV x.Value.Ui,iV x.Value.N,.string x.Value.S]):=⟨fun _ _ _ _ h=>h⟩
theorem J8:Tryz.prog.eqGuardType Tryz.prog.depth 29=false:=by kernel_rfl
theorem Oj (x y:Tx)(w:World):(Op.equalIn 10000 29 ((ny x)) ((ny y))).run Ua w=.ok (decide (x=y)) w:=by
 obtain ⟨xWay,xSteps,xCalls,xMade,xYoung,xFull,xSites⟩:=x;obtain ⟨yWay,ySteps,yCalls,yMade,yYoung,yFull,ySites⟩:=y;show (Op.equalIn 10000 29 (.agg #[iV xWay,iV xSteps,iV xCalls,iV xMade,iV xYoung,iV xFull,iV xSites]) (.agg #[iV yWay,iV ySteps,iV yCalls,iV yMade,iV yYoung,iV yFull,iV ySites])).run Ua w=_
 go_simp
 by_cases h0:xWay=yWay
 rotate_left
 ·simp [h0]
 by_cases h1:xSteps=ySteps
 rotate_left
 ·simp [h0,h1]
 by_cases h2:xCalls=yCalls
 rotate_left
 ·simp [h0,h1,h2]
 by_cases h3:xMade=yMade
 rotate_left
 ·simp [h0,h1,h2,h3]
 by_cases h4:xYoung=yYoung
 rotate_left
 ·simp [h0,h1,h2,h3,h4]
 by_cases h5:xFull=yFull
 rotate_left
 ·simp [h0,h1,h2,h3,h4,h5]
 by_cases h6:xSites=ySites
 rotate_left
 ·simp [h0,h1,h2,h3,h4,h5,h6]
 simp [h0,h1,h2,h3,h4,h5,h6]
theorem Ki {s:bG}{C:World->Prop}{d:Option Nat}{ty u:TypeId}{pos:String}{af:Array Edge}{gd:Option (Nat×Bool)}{a b:Operand}{x y:Tx}(hx:bC s a=some ((ny x)))(hy:bC s b=some ((ny y))):Ev Ua s C ⟨d,.binOp .neq 29 a b u,ty,pos,af,gd⟩ (.bool (!decide (x=y))):=
 fP hx hy fun w=>by
  rw [Sem.run_bind,run_eqGuard_agg w _ _ _ _ _ _ J8];simp only [Result.andThen_ok];rw [run_neq_struct,Oj];rfl
theorem J7:Tryz.prog.eqGuardType Tryz.prog.depth 34=false:=by kernel_rfl
theorem Oi (x y:TJ)(w:World):(Op.equalIn 10000 34 ((EN x)) ((EN y))).run Ua w=.ok (decide (x=y)) w:=by
 obtain ⟨xKind,xN,⟨xValueKind,xValueN,xValueS⟩⟩:=x;obtain ⟨yKind,yN,⟨yValueKind,yValueN,yValueS⟩⟩:=y;show (Op.equalIn 10000 34 (.agg #[iV xKind,iV xN,iV xValueKind,iV xValueN,.string xValueS]) (.agg #[iV yKind,iV yN,iV yValueKind,iV yValueN,.string yValueS])).run Ua w=_
 go_simp
 simp only [Au];by_cases h0:xKind=yKind
 rotate_left
 ·simp [h0]
 by_cases h1:xN=yN
 rotate_left
 ·simp [h0,h1]
 by_cases h2:xValueKind=yValueKind
 rotate_left
 ·simp [h0,h1,h2]
 by_cases h3:xValueN=yValueN
 rotate_left
 ·simp [h0,h1,h2,h3]
 by_cases h4:xValueS=yValueS
 rotate_left
 ·simp [h0,h1,h2,h3,h4]
 simp [h0,h1,h2,h3,h4]
theorem LS {s:bG}{C:World->Prop}{d:Option Nat}{ty u:TypeId}{pos:String}{af:Array Edge}{gd:Option (Nat×Bool)}{a b:Operand}{x y:TJ}(hx:bC s a=some ((EN x)))(hy:bC s b=some ((EN y))):Ev Ua s C ⟨d,.binOp .eql 34 a b u,ty,pos,af,gd⟩ (.bool (decide (x=y))):=
 fP hx hy fun w=>by
  rw [Sem.run_bind,run_eqGuard_agg w _ _ _ _ _ _ J7];simp only [Result.andThen_ok];rw [run_eql_struct,Oi];rfl
theorem J6:Tryz.prog.eqGuardType Tryz.prog.depth 82=false:=by kernel_rfl
theorem Oh (x y:TE)(w:World):(Op.equalIn 10000 82 (.agg #[iV x.Ui,iV x.N,.string x.S]) (.agg #[iV y.Ui,iV y.N,.string y.S])).run Ua w=.ok (decide (x=y)) w:=by
 obtain ⟨xKind,xN,xS⟩:=x;obtain ⟨yKind,yN,yS⟩:=y;show (Op.equalIn 10000 82 (.agg #[iV xKind,iV xN,.string xS]) (.agg #[iV yKind,iV yN,.string yS])).run Ua w=_
 go_simp
 simp only [Au];by_cases h0:xKind=yKind<;>by_cases h1:xN=yN<;>by_cases h2:xS=yS<;>simp [h0,h1,h2]
theorem LR {s:bG}{C:World->Prop}{d:Option Nat}{ty u:TypeId}{pos:String}{af:Array Edge}{gd:Option (Nat×Bool)}{a b:Operand}{x y:TE}(hx:bC s a=some (.agg #[iV x.Ui,iV x.N,.string x.S]))(hy:bC s b=some (.agg #[iV y.Ui,iV y.N,.string y.S])):Ev Ua s C ⟨d,.binOp .eql 82 a b u,ty,pos,af,gd⟩ (.bool (decide (x=y))):=
 fP hx hy fun w=>by
  rw [Sem.run_bind,run_eqGuard_agg w _ _ _ _ _ _ J6];simp only [Result.andThen_ok];rw [run_eql_struct,Oh];rfl
theorem J5:Tryz.prog.eqGuardType Tryz.prog.depth 84=false:=by kernel_rfl
theorem Og (x y:TG)(w:World):(Op.equalIn 10000 84 ((uY x)) ((uY y))).run Ua w=.ok (decide (x=y)) w:=by
 obtain ⟨xKind,⟨xKeyKind,xKeyN,xKeyS⟩,xS⟩:=x;obtain ⟨yKind,⟨yKeyKind,yKeyN,yKeyS⟩,yS⟩:=y;show (Op.equalIn 10000 84 (.agg #[iV xKind,iV xKeyKind,iV xKeyN,.string xKeyS,.string xS]) (.agg #[iV yKind,iV yKeyKind,iV yKeyN,.string yKeyS,.string yS])).run Ua w=_
 go_simp
 simp only [Au];by_cases h0:xKind=yKind
 rotate_left
 ·simp [h0]
 by_cases h1:xKeyKind=yKeyKind
 rotate_left
 ·simp [h0,h1]
 by_cases h2:xKeyN=yKeyN
 rotate_left
 ·simp [h0,h1,h2]
 by_cases h3:xKeyS=yKeyS
 rotate_left
 ·simp [h0,h1,h2,h3]
 by_cases h4:xS=yS
 rotate_left
 ·simp [h0,h1,h2,h3,h4]
 simp [h0,h1,h2,h3,h4]
theorem Kh {s:bG}{C:World->Prop}{d:Option Nat}{ty u:TypeId}{pos:String}{af:Array Edge}{gd:Option (Nat×Bool)}{a b:Operand}{x y:TG}(hx:bC s a=some ((uY x)))(hy:bC s b=some ((uY y))):Ev Ua s C ⟨d,.binOp .neq 84 a b u,ty,pos,af,gd⟩ (.bool (!decide (x=y))):=
 fP hx hy fun w=>by
  rw [Sem.run_bind,run_eqGuard_agg w _ _ _ _ _ _ J5];simp only [Result.andThen_ok];rw [run_neq_struct,Og];rfl
theorem LY (x y:TH)(w:World):(Op.equalIn 10000 202 ((LA x)) ((LA y))).run Ua w=.ok (decide (x=y)) w:=by
 obtain ⟨xup_,⟨xkey_Kind,xkey_N,xkey_S⟩,xattrs_⟩:=x;obtain ⟨yup_,⟨ykey_Kind,ykey_N,ykey_S⟩,yattrs_⟩:=y;show (Op.equalIn 10000 202 (.agg #[iV xup_,iV xkey_Kind,iV xkey_N,.string xkey_S,iV xattrs_]) (.agg #[iV yup_,iV ykey_Kind,iV ykey_N,.string ykey_S,iV yattrs_])).run Ua w=_
 go_simp
 simp only [Au];by_cases h0:xup_=yup_
 rotate_left
 ·simp [h0]
 by_cases h1:xkey_Kind=ykey_Kind
 rotate_left
 ·simp [h0,h1]
 by_cases h2:xkey_N=ykey_N
 rotate_left
 ·simp [h0,h1,h2]
 by_cases h3:xkey_S=ykey_S
 rotate_left
 ·simp [h0,h1,h2,h3]
 by_cases h4:xattrs_=yattrs_
 rotate_left
 ·simp [h0,h1,h2,h3,h4]
 simp [h0,h1,h2,h3,h4]
def av (x:TH):Value:=.agg #[iV x.Vg,iV x.Vf.Ui,iV x.Vf.N,.string x.Vf.S,iV x.Vh]
theorem Dp:KeyOk Ua 202 av where
 und:=⟨_,Tryz.underlying202,fun a b=> .inl rfl⟩
 eq:=fun a b w=>LY a b w
 check:=fun e a w=>by
  obtain ⟨xup_,⟨xkey_Kind,xkey_N,xkey_S⟩,xattrs_⟩:=a;kernel_rfl
 bits:=fun a=>by
  obtain ⟨xup_,⟨xkey_Kind,xkey_N,xkey_S⟩,xattrs_⟩:=a;simp [av,Instr.sameBits,Ic]
def dc (N:Nat)(a0:Int)(a1:Int)(a2:Int):Option Bool:=
 (bif decide (a1<=a0) then (some (decide (a0<=a2))) else (some false)).bind fun b1=>some b1
theorem eR {N:Nat}{a0:Int}{a1:Int}{a2:Int}{r:Bool}(h:dc N a0 a1 a2=some r):Okc Ua 74 [iV a0,iV a1,iV a2] ([]) (fun u post=>u=.bool r/\post=[]):=by
 refine cA Tryz.func74 ?_;refine gS 4 14 10 h ?_;intro b1 h;exact eY
theorem dH {r:Bool}: ∀v post,((fun (u:Value) (post:List Chunk)=>u=.bool r/\post=[])) v post-> ∀c∈post,jP c:=by
 rintro _ _ ⟨rfl,rfl⟩;exact aD
def jD (N:Nat)(a0:Tx):Option Bool:=
 (dc N a0.UD 0 1).bind fun y2=>(bif y2 then ((dc N a0.Uu 0 1073741824).bind fun y4=>some y4) else (some false)).bind fun b3=>(bif b3 then ((dc N a0.Uq 1 200).bind fun y6=>some y6) else (some false)).bind fun b5=>(bif b5 then ((dc N a0.Ut 0 1048576).bind fun y8=>some y8) else (some false)).bind fun b7=>(bif b7 then ((dc N a0.Uj 0 1073741824).bind fun a1=>some a1) else (some false)).bind fun b9=>(bif b9 then ((dc N a0.UC 0 1073741824).bind fun a2=>some a2) else (some false)).bind fun a6=>(bif a6 then ((dc N a0.UE 0 4).bind fun a7=>some a7) else (some false)).bind fun a8=>some a8
theorem CP {N:Nat}{a0:Tx}{r:Bool}(h:jD N a0=some r):Okc Ua 33 [(ny a0)] ([]) (fun u post=>u=.bool r/\post=[]):=by
 refine cA Tryz.func33 ?_;intro B1;refine ac ?_;obtain ⟨y2,k,h⟩:=aa h;refine kD (mN (eR k) call74.out J J J (aD) dH) ?_;obtain ⟨b3,a8,h⟩:=aa h;refine aR 5 13 b3 ?_ ?_
 ·clear h;refine aP 8 J (fun g3=> ?_) (fun g3=> ?_)
  ·have h:=aE g3 a8;refine ac ?_;obtain ⟨y4,k,h⟩:=aa h;refine gU (mN (eR k) call74.out J J J (aD) dH) (cB g3 J) ?_;exact gY
  have h:=aF g3 a8;exact gY
 refine ac ?_;obtain ⟨b5,b0,h⟩:=aa h;refine aR 5 19 b5 ?_ ?_
 ·clear h;refine aP 14 J (fun g5=> ?_) (fun g5=> ?_)
  ·have h:=aE g5 b0;refine ac ?_;obtain ⟨y6,k,h⟩:=aa h;refine gU (mN (eR k) call74.out J J J (aD) dH) (cB g5 J) ?_;exact gY
  have h:=aF g5 b0;exact gY
 refine ac ?_;obtain ⟨b7,b1,h⟩:=aa h;refine aR 5 25 b7 ?_ ?_
 ·clear h;refine aP 20 J (fun g7=> ?_) (fun g7=> ?_)
  ·have h:=aE g7 b1;refine ac ?_;obtain ⟨y8,k,h⟩:=aa h;refine gU (mN (eR k) call74.out J J J (aD) dH) (cB g7 J) ?_;exact gY
  have h:=aF g7 b1;exact gY
 refine ac ?_;obtain ⟨b9,b2,h⟩:=aa h;refine aR 5 31 b9 ?_ ?_
 ·clear h;refine aP 26 J (fun g9=> ?_) (fun g9=> ?_)
  ·have h:=aE g9 b2;refine ac ?_;obtain ⟨b8,k,h⟩:=aa h;refine gU (mN (eR k) call74.out J J J (aD) dH) (cB g9 J) ?_;exact gY
  have h:=aF g9 b2;exact gY
 refine ac ?_;obtain ⟨b4,a1,h⟩:=aa h;refine aR 5 37 b4 ?_ ?_
 ·clear h;refine aP 32 J (fun a6=> ?_) (fun a6=> ?_)
  ·have h:=aE a6 a1;refine ac ?_;obtain ⟨c0,k,h⟩:=aa h;refine gU (mN (eR k) call74.out J J J (aD) dH) (cB a6 J) ?_;exact gY
  have h:=aF a6 a1;exact gY
 refine ac ?_;obtain ⟨b6,a2,h⟩:=aa h;refine aR 5 43 b6 ?_ ?_
 ·clear h;refine aP 38 J (fun a7=> ?_) (fun a7=> ?_)
  ·have h:=aE a7 a2;refine ac ?_;obtain ⟨d0,k,h⟩:=aa h;refine gU (mN (eR k) call74.out J J J (aD) dH) (cB a7 J) ?_;exact gY
  have h:=aF a7 a2;exact gY
 exact eY
def zp (N:Nat):Option Tw:=
 some (⟨([]:TW)⟩:Tw)
theorem D3 {N:Nat}{r:Tw}(h:zp N=some r):Okc Ua 75 [] ([]) (fun u post=> ∃B0 M1,u=pV B0 0/\post=[ab B0 147 [.map (some M1)],am bj bH M1 r.at_]):=by
 refine cA Tryz.func75 ?_;refine gD (rX (ek:=bj) (ev:=bH)) ?_;rintro _ _ ⟨M1,rfl,rfl⟩;refine ac ?_;intro B2;exact eY
def Dx (N:Nat):Option TI:=
 (zp N).bind fun y1=>some (⟨(⟨[],[]⟩:TM),[],[],y1⟩:TI)
theorem GL {N:Nat}{r:TI}(h:Dx N=some r):Okc Ua 34 [] ([]) (fun u post=> ∃B0 A1 n1 c1 A2 n2 c2 A3 n3 c3 A4 n4 c4 B5 M6,u=pV B0 0/\post=[ab B0 99 [U A1 n1 c1,U A2 n2 c2,U A3 n3 c3,U A4 n4 c4,pV B5 0],aZ A1 n1 c1 r.m_.Uj,aZ A2 n2 c2 r.m_.Ul,aC A3 n3 c3 r.Ur,aC A4 n4 c4 r.Uz,ab B5 147 [.map (some M6)],am bj bH M6 r.Uy.at_]):=by
 refine cA Tryz.func34 ?_;obtain ⟨y1,k,h⟩:=aa h;refine gD (oC (D3 k)) ?_;rintro _ _ ⟨_,⟨B2,M3,rfl,rfl⟩,rfl⟩
 refine jg fun B4=> ?_
 obtain rfl:=bS h;exact sr J J ((aU eT 42 _).trans ((aU eT 42 _).trans ((aU ap 23 _).trans ((aU ap 23 _).trans (cS [4,3,2,1,0,5,6] 7))))) ⟨_,_,_,_,_,_,_,_,_,_,_,_,_,_,_,J,J⟩
def Bz (N:Nat):Option Tt:=
 some (⟨([(⟨(-1),(⟨0,0,⟨#[]⟩⟩:TE),0,0⟩:TA)]:List TA),([]:(List (TH×Int)))⟩:Tt)
theorem Fl {N:Nat}{r:Tt}(h:Bz N=some r):Okc Ua 35 [] ([]) (fun u post=> ∃B0 A1 n1 c1 M2,u=pV B0 0/\post=[ab B0 118 [U A1 n1 c1,.map (some M2)],gQ A1 n1 c1 r.Un,am av dq M2 r.UB]):=by
 refine cA Tryz.func35 ?_;refine gD (az (R:=xt) (vss:=[[iV (-1),iV 0,iV 0,.string (⟨#[]⟩),iV 0,iV 0]]) (xs:=[(⟨(-1),(⟨0,0,⟨#[]⟩⟩:TE),0,0⟩:TA)]) J (Bp _ _ _ _ _ _) J J (fun _ _ hr=> .cons J All2.nil)) ?_;rintro _ _ ⟨A1,n1,c1,rfl,rfl⟩;refine gD (rX (ek:=av) (ev:=dq)) ?_;rintro _ _ ⟨M2,rfl,rfl⟩;refine ac ?_;intro B3;exact eY
def aK (N:Nat)(a0:TI):Option Bool:=
 some false
theorem ci {N:Nat}{a0:TI}{r:Bool}(h:aK N a0=some r):Okc Ua 49 [pV B1 0] ([ar B1 99 [U A2 n2 c2,U A3 n3 c3,U A4 n4 c4,U A5 n5 c5,pV B6 0],bf A2 n2 c2 a0.m_.Uj,bf A3 n3 c3 a0.m_.Ul,bc A4 n4 c4 a0.Ur,bc A5 n5 c5 a0.Uz,ar B6 147 [.map (some M7)],dk bj bH M7 a0.Uy.at_]) (fun u post=>u=.bool r/\post=[]):=by
 refine cA Tryz.func49 ?_;refine fC (bD J Tryz.underlying46) ?_;refine fC (bD J Td) ?_;exact eN
def bi (N:Nat)(a0:TI)(a1:Int):Option Ty:=
 (aK N a0).bind fun y9=>(bif y9 then (some true) else (some (decide (a1<0)))).bind fun a2=>(bif a2 then (some true) else (some (decide ((a0.Ur.length:Int)<=a1)))).bind fun a6=>bif a6 then (some (⟨0,0,⟨#[]⟩⟩:Ty)) else ((aw a0.Ur a1).bind fun a7=>some a7)
theorem cx {N:Nat}{a0:TI}{a1:Int}{r:Ty}(h:bi N a0 a1=some r):Okc Ua 38 [pV B1 0,iV a1] ([ar B1 99 [U A2 n2 c2,U A3 n3 c3,U A4 n4 c4,U A5 n5 c5,pV B6 0],bf A2 n2 c2 a0.m_.Uj,bf A3 n3 c3 a0.m_.Ul,bc A4 n4 c4 a0.Ur,bc A5 n5 c5 a0.Uz,ar B6 147 [.map (some M7)],dk bj bH M7 a0.Uy.at_]) (fun u post=>u=(gA r)/\post=[]):=by
 refine cA Tryz.func38 ?_;intro B8;refine sY ?_;obtain ⟨y9,k,h⟩:=aa h;refine kD (oR (ci k)) ?_;refine gS 3 10 7 h ?_;intro a8 h;refine ac ?_;refine gS 8 19 11 h ?_;intro b0 h;refine fw h ?_ ?_<;>intro h
 ·exact eY
 refine ac ?_;obtain ⟨b1,a2,a6,a7,h⟩:=bz h;exact eY
def lj (N:Nat){σ:Type}(fy:(Bool×Ty)->σ->Option (Bool×σ))(a1:TB):Nat->Int->σ->Option σ
 |0,_,_=>none
 |a8+1,a2,a7=>bif decide (a2<(a1.Um.length:Int)) then ((aw a1.Um a2).bind fun b0=>(bif !decide (a1.Ui=8) then ((bif !decide (a1.Ui=10) then (some true) else (some (decide (a2.tmod 2=0)))).bind fun b1=>some b1) else (some false)).bind fun b2=>(fy (b2,b0) a7).bind fun a6=>bif !a6.1 then (some a6.2) else (be (in64 (a2+1)) ((lj N fy a1 a8) (a2+1) a6.2))) else (some a7)
def sv (N:Nat){σ:Type}(fy:(Bool×Ty)->σ->Option (Bool×σ))(a1:TB)(p5:σ):Option σ:=
 lj N fy a1 N 0 p5
def ky (N:Nat){σ:Type}(fy:(Bool×Ty)->σ->Option (Bool×σ))(a1:TB):Nat->Int->σ->Option σ
 |0,_,_=>none
 |m6+1,p7,p8=>bif decide (p7<(a1.Uo.length:Int)) then ((aw a1.Uo p7).bind fun a6=>(fy (true,a6) p8).bind fun a2=>bif !a2.1 then (some a2.2) else (be (in64 (p7+1)) ((ky N fy a1 m6) (p7+1) a2.2))) else (sv N fy a1 p8)
def nz (N:Nat){σ:Type}(a1:TB)(fy:(Bool×Ty)->σ->Option (Bool×σ))(s0:σ):Option σ:=
 ky N fy a1 N 0 s0
theorem xd {N:Nat}{σ:Type}{a1:TB}{fy:(Bool×Ty)->σ->Option (Bool×σ)}{s0:σ}{r:σ}(h:nz N a1 fy s0=some r){l:Nat}{G:σ->List Chunk}(hY:tp Ua l G (fun x=> [.bool x.1,.agg #[iV x.2.Ui,iV x.2.N,.string x.2.S]]) fy):Okc Ua 156 [.func (.yield l) #[] #[],pV B1 0] (ar B1 42 [iV a1.Ui,iV a1.Uw,iV a1.Uv,iV a1.Ux,U A2 n2 c2,U A3 n3 c3]::bc A2 n2 c2 a1.Uo::bc A3 n3 c3 a1.Um::(G s0)) (fun u post=>u=.tuple #[]/\post=G r):=by
 refine Dc Tryz.func156 J J ?_;simp only [qN];refine au (fun s L=> ∃p5,sv N fy a1 p5=some r/\s=[(0,.func (.yield l) #[] #[]),(1,pV B1 0)]/\L=bc A2 n2 c2 a1.Uo::bc A3 n3 c3 a1.Um::ar B1 42 [iV a1.Ui,iV a1.Uw,iV a1.Uv,iV a1.Ux,U A2 n2 c2,U A3 n3 c3]::(G p5)) ?_ ?_
 ·refine ac ?_;refine aY (fun m s L=> ∃p7 p8,ky N fy a1 m p7 p8=some r/\s=[(0,.func (.yield l) #[] #[]),(1,pV B1 0),(9,U A2 n2 c2),(10,iV (a1.Uo.length:Int)),(11,iV p7)]/\L=bc A2 n2 c2 a1.Uo::bc A3 n3 c3 a1.Um::ar B1 42 [iV a1.Ui,iV a1.Uw,iV a1.Uv,iV a1.Ux,U A2 n2 c2,U A3 n3 c3]::(G p8)) N _ _ ⟨0,s0,h,J,J⟩ sA (cS [1,2,0] 3) ?_;rintro (_|m6) _ _ ⟨p7,p8,h,rfl,rfl⟩
  ·exact ao h
  rw [ky.eq_2] at h;refine ac ?_;refine aG ?_;refine gH J h ?_ ?_<;>intro h
  ·refine sY ?_;obtain ⟨a7,b5,b6,b7,h⟩:=bz h
   refine jg fun b8=> ?_
   obtain ⟨d3,k,h⟩:=aa h;refine gD (xy (a:=(true,a7)) [ab b8 23 [iV a7.Ui,iV a7.N,.string a7.S],bc A2 n2 c2 a1.Uo,bc A3 n3 c3 a1.Um,ar B1 42 [iV a1.Ui,iV a1.Uw,iV a1.Uv,iV a1.Ux,U A2 n2 c2,U A3 n3 c3]] hY k J J) ?_;rintro _ _ ⟨rfl,rfl⟩;refine fw h ?_ ?_<;>intro h
   ·exact eY
   refine ac ?_;obtain ⟨d4,h⟩:=ah h;exact lY
  exact jY
 rintro _ _ ⟨p5,h,rfl,rfl⟩;refine ac ?_;refine aY (fun m s L=> ∃b1 b2,lj N fy a1 m b1 b2=some r/\s=[(0,.func (.yield l) #[] #[]),(1,pV B1 0),(21,U A3 n3 c3),(22,iV (a1.Um.length:Int)),(23,iV b1)]/\L=bc A3 n3 c3 a1.Um::bc A2 n2 c2 a1.Uo::ar B1 42 [iV a1.Ui,iV a1.Uw,iV a1.Uv,iV a1.Ux,U A2 n2 c2,U A3 n3 c3]::(G b2)) N _ _ ⟨0,p5,h,J,J⟩ sA (cS [1,0,2] 3) ?_;rintro (_|d6) _ _ ⟨b1,b2,h,rfl,rfl⟩
 ·exact ao h
 rw [lj.eq_2] at h;refine ac ?_;refine aG ?_;refine gH J h ?_ ?_<;>intro h
 ·refine sY ?_;obtain ⟨a8,b9,c0,d0,h⟩:=bz h
  refine jg fun d1=> ?_
  obtain ⟨b4,a2,h⟩:=aa h;refine aR 9 40 b4 ?_ ?_
  ·clear h;refine aP 31 J (fun b3=> ?_) (fun b3=> ?_)
   ·have h:=aE b3 a2;refine ac ?_;obtain ⟨d2,a6,h⟩:=aa h;refine aR 4 39 d2 ?_ ?_
    ·clear h;refine aP 35 J (fun b0=> ?_) (fun b0=> ?_)
     ·have h:=aE b0 a6;exact gY
     have h:=aF b0 a6;refine ac ?_;refine qk (si J J (by decide)) J (fN b0 J) J ?_;exact gY
    exact gY
   have h:=aF b3 a2;exact gY
  refine ac ?_;obtain ⟨e2,k,h⟩:=aa h;refine gD (xy (a:=(b4,a8)) [ab d1 23 [iV a8.Ui,iV a8.N,.string a8.S],bc A3 n3 c3 a1.Um,bc A2 n2 c2 a1.Uo,ar B1 42 [iV a1.Ui,iV a1.Uw,iV a1.Uv,iV a1.Ux,U A2 n2 c2,U A3 n3 c3]] hY k J J) ?_;rintro _ _ ⟨rfl,rfl⟩;refine fw h ?_ ?_<;>intro h
  ·exact eY
  refine ac ?_;obtain ⟨e3,h⟩:=ah h;exact lY
 exact eY
def sw (N:Nat)(a0:TB):Option Unit:=
 some ()
theorem BQ {N:Nat}{a0:TB}{r:Unit}(h:sw N a0=some r):Okc Ua 118 [.agg #[iV a0.Ui,iV a0.Uw,iV a0.Uv,iV a0.Ux,U A1 n1 c1,U A2 n2 c2]] ([bc A1 n1 c1 a0.Uo,bc A2 n2 c2 a0.Um]) (fun u post=> ∃a1,u=.func (.func 156) #[] #[pV a1 0]/\post=[ab a1 42 [iV a0.Ui,iV a0.Uw,iV a0.Uv,iV a0.Ux,U A1 n1 c1,U A2 n2 c2]]):=by
 refine cA Tryz.func118 ?_;intro B3;refine ac ?_;refine fC (ed J) ?_;exact eN
def qd (N:Nat)(a0:Ty)(a1:Bool):Option Bool:=
 bif a1 then (some (decide (1<=a0.N))) else ((bif decide (a0.N=0) then (some (decide (0<=a0.Ui))) else (some false)).bind fun a2=>(bif a2 then (some (decide (a0.Ui<=9))) else (some false)).bind fun a6=>some a6)
def vj (N:Nat)(a0:Ty):Option Bool:=
 bif decide (a0.Ui=5) then ((bif decide (a0.N=0) then (some (decide ((a0.S.size:Int)<=65536))) else (some false)).bind fun b3=>some b3) else (bif !(a0.S.toList==(⟨#[]⟩:ByteArray).toList) then (some false) else (bif decide (a0.Ui=2) then ((bif decide (a0.N=0) then (some true) else (some (decide (a0.N=1)))).bind fun b6=>some b6) else (bif decide (a0.Ui=3) then ((bif decide ((-9007199254740992)<=a0.N) then (some (decide (a0.N<=9007199254740992))) else (some false)).bind fun b8=>some b8) else (bif decide (a0.Ui=6) then (qd N a0 (decide (a0.Ui=6))) else (bif decide (a0.Ui=7) then (qd N a0 (decide (a0.Ui=7))) else (qd N a0 (decide (a0.Ui=9))))))))
theorem Ha {N:Nat}{a0:Ty}{r:Bool}(h:vj N a0=some r):Okc Ua 119 [(gA a0)] ([]) (fun u post=>u=.bool r/\post=[]):=by
 refine cA Tryz.func119 ?_;intro B1;refine sY ?_;refine gH J h ?_ ?_<;>intro h
 ·refine ac ?_;obtain ⟨b3,a2,h⟩:=aa h;refine aR 5 14 b3 ?_ ?_
  ·clear h;refine aP 9 J (fun g3=> ?_) (fun g3=> ?_)
   ·have h:=aE g3 a2;refine ac ?_;refine qk (Am J Te) J (cB g3 J) J ?_;exact gY
   have h:=aF g3 a2;exact gY
  exact eY
 refine sY ?_;refine fC (GZ J J) ?_;refine gH J h ?_ ?_<;>intro h
 ·exact eY
 refine sY ?_;refine gH J h ?_ ?_<;>intro h
 ·refine ac ?_;refine gS 4 29 25 h ?_;intro b6 h;exact eY
 refine fw h ?_ ?_<;>intro h
 ·refine ac ?_;refine gS 4 39 35 h ?_;intro b8 h;exact eY
 refine au (fun s L=> ∃a1,qd N a0 a1=some r/\s=[(1,pV B1 0),(2,.bool false),(40,.bool a1)]/\L=[ab B1 23 (uV a0)]) ?_ ?_
 ·refine fw h ?_ ?_<;>intro h
  ·exact jY
  refine fw h ?_ ?_<;>intro h
  ·exact jY
  exact jY
 rintro _ _ ⟨a1,h,rfl,rfl⟩;refine gH J h ?_ ?_<;>intro h
 ·exact eY
 refine ac ?_;refine gS 4 54 50 h ?_;intro a6 h;refine ac ?_;refine gS 4 59 55 h ?_;intro a7 h;exact eY
def jz (N:Nat)(p2:Bool):Option Bool:=
 bif p2 then (some true) else (some false)
def vl (N:Nat)(a0:Int):Option Bool:=
 bif decide (a0=1) then (jz N (decide (a0=1))) else (bif decide (a0=2) then (jz N (decide (a0=2))) else (bif decide (a0=3) then (jz N (decide (a0=3))) else (bif decide (a0=6) then (jz N (decide (a0=6))) else (bif decide (a0=8) then (jz N (decide (a0=8))) else (bif decide (a0=9) then (jz N (decide (a0=9))) else (jz N (decide (a0=10))))))))
theorem Hb {N:Nat}{a0:Int}{r:Bool}(h:vl N a0=some r):Okc Ua 157 [iV a0] ([]) (fun u post=>u=.bool r/\post=[]):=by
 refine cA Tryz.func157 ?_;refine sZ ?_;refine au (fun s L=> ∃p2,jz N p2=some r/\s=[(2,.bool false),(4,.bool p2)]/\L=[]) ?_ ?_
 ·refine fw h ?_ ?_<;>intro h
  ·exact jY
  refine fw h ?_ ?_<;>intro h
  ·exact jY
  refine fw h ?_ ?_<;>intro h
  ·exact jY
  refine fw h ?_ ?_<;>intro h
  ·exact jY
  refine fw h ?_ ?_<;>intro h
  ·exact jY
  refine fw h ?_ ?_<;>intro h
  ·exact jY
  exact jY
 rintro _ _ ⟨p2,h,rfl,rfl⟩;refine gH J h ?_ ?_<;>intro h
 ·exact eY
 exact eY
def iy (N:Nat)(a0:Ty)(a1:Int):Option Bool:=
 (bif decide (a0.Ui=0) then (some true) else (some (decide (a0.Ui=a1)))).bind fun b2=>some b2
theorem ku {N:Nat}{a0:Ty}{a1:Int}{r:Bool}(h:iy N a0 a1=some r):Okc Ua 158 [(gA a0),iV a1] ([]) (fun u post=>u=.bool r/\post=[]):=by
 refine cA Tryz.func158 ?_;intro B1;refine ac ?_;refine gS 5 13 8 h ?_;intro b2 h;exact eY
def jy (N:Nat)(a0:TB):Option Bool:=
 (vl N a0.Ui).bind fun y4=>(bif y4 then (some true) else ((bif decide (a0.Ui=7) then (some (decide (0<(a0.Uo.length:Int)))) else (some false)).bind fun b6=>some b6)).bind fun b5=>bif b5 then ((bif decide (1<=(a0.Uo.length:Int)) then (some (decide ((a0.Uo.length:Int)<=1025))) else (some false)).bind fun b8=>(bif b8 then ((aw a0.Uo 0).bind fun a1=>(bif decide (a1.Ui=1) then (some true) else ((aw a0.Uo 0).bind fun a2=>some (decide (a2.Ui=7)))).bind fun a6=>some a6) else (some false)).bind fun b9=>some b9) else (bif decide (a0.Ui=7) then (some (decide (a0.Uw=0))) else ((bif !decide (a0.Uw=0) then (some true) else (some (!decide (a0.Uv=0)))).bind fun a7=>bif a7 then (some false) else (bif decide (a0.Ui=5) then ((bif decide ((a0.Uo.length:Int)=2) then ((aw a0.Uo 0).bind fun a8=>(iy N a8 7).bind fun b0=>some b0) else (some false)).bind fun b1=>(bif b1 then ((aw a0.Uo 1).bind fun b2=>(iy N b2 7).bind fun b3=>some b3) else (some false)).bind fun b4=>some b4) else (some (decide ((a0.Uo.length:Int)=0))))))
theorem za {N:Nat}{a0:TB}{r:Bool}(h:jy N a0=some r):Okc Ua 120 [.agg #[iV a0.Ui,iV a0.Uw,iV a0.Uv,iV a0.Ux,U A1 n1 c1,U A2 n2 c2]] ([bc A1 n1 c1 a0.Uo,bc A2 n2 c2 a0.Um]) (fun u post=>u=.bool r/\post=[]):=by
 refine cA Tryz.func120 ?_;intro B3;refine sY ?_;obtain ⟨y4,k,h⟩:=aa h;refine kD (oR (Hb k)) ?_;obtain ⟨b5,b7,h⟩:=aa h;refine aR 10 16 b5 ?_ ?_
 ·clear h;refine aP 6 J (fun g5=> ?_) (fun g5=> ?_)
  ·have h:=aE g5 b7;exact gY
  have h:=aF g5 b7;refine ac ?_;refine gS 5 15 10 h ?_;intro b6 h;exact gY
 refine fw h ?_ ?_<;>intro h
 ·refine ac ?_;refine gS 5 26 21 h ?_;intro b8 h;refine ac ?_;obtain ⟨b9,c0,h⟩:=aa h;refine aR 15 42 b9 ?_ ?_
  ·clear h;refine aP 27 J (fun g9=> ?_) (fun g9=> ?_)
   ·have h:=aE g9 c0;refine ac ?_;obtain ⟨e7,b1,b2,d0,h⟩:=bz h;refine ac ?_;refine vR (CT 1 J aM J (bR b1 b2) tf) J (cB g9 J) J ?_;refine ac ?_;obtain ⟨d1,a1,h⟩:=aa h;refine aR 7 41 d1 ?_ ?_
    ·clear h;refine aP 34 J (fun a7=> ?_) (fun a7=> ?_)
     ·have h:=aE a7 a1;exact gY
     have h:=aF a7 a1;refine ac ?_;obtain ⟨e8,b3,b4,d2,h⟩:=bz h;refine ac ?_;refine vR (CT 1 J aM J (bR b3 b4) tf) J (fN a7 J) J ?_;exact gY
    exact gY
   have h:=aF g9 c0;exact gY
  exact eY
 refine sY ?_;refine gH J h ?_ ?_<;>intro h
 ·exact eY
 refine sY ?_;refine gS 4 56 52 h ?_;intro e9 h;refine fw h ?_ ?_<;>intro h
 ·exact eY
 refine sY ?_;refine gH J h ?_ ?_<;>intro h
 ·refine ac ?_;obtain ⟨d3,a2,h⟩:=aa h;refine aR 6 70 d3 ?_ ?_
  ·clear h;refine aP 64 J (fun a8=> ?_) (fun a8=> ?_)
   ·have h:=aE a8 a2;refine ac ?_;obtain ⟨f1,d4,d6,e2,h⟩:=bz h;refine ac ?_;obtain ⟨f2,k,h⟩:=aa h;refine gU (oR (ku k)) (cB a8 J) ?_;exact gY
   have h:=aF a8 a2;exact gY
  refine ac ?_;obtain ⟨e3,a6,h⟩:=aa h;refine aR 6 77 e3 ?_ ?_
  ·clear h;refine aP 71 J (fun b0=> ?_) (fun b0=> ?_)
   ·have h:=aE b0 a6;refine ac ?_;obtain ⟨f3,e4,e5,e6,h⟩:=bz h;refine ac ?_;obtain ⟨f4,k,h⟩:=aa h;refine gU (oR (ku k)) (cB b0 J) ?_;exact gY
   have h:=aF b0 a6;exact gY
  exact eY
 exact eY
def iz (N:Nat)(a0:Ty)(a1:Int)(a2:Int):Option Bool:=
 (bif decide (a0.Ui=3) then (some (decide (a1<=a0.N))) else (some false)).bind fun b2=>(bif b2 then (some (decide (a0.N<=a2))) else (some false)).bind fun b3=>some b3
theorem kw {N:Nat}{a0:Ty}{a1:Int}{a2:Int}{r:Bool}(h:iz N a0 a1 a2=some r):Okc Ua 159 [(gA a0),iV a1,iV a2] ([]) (fun u post=>u=.bool r/\post=[]):=by
 refine cA Tryz.func159 ?_;intro B1;refine ac ?_;refine gS 5 15 10 h ?_;intro b2 h;refine ac ?_;refine gS 5 21 16 h ?_;intro b3 h;exact eY
def i9 (N:Nat){σ:Type}(fy:TN->σ->Option (Bool×σ))(a1:TN)(a2:Int):Nat->Int->σ->Option σ
 |0,_,_=>none
 |m4+1,p5,p6=>bif decide (p5<(a1.length:Int)) then (be ((0:Int)<=p5/\p5.toNat<=a1.length/\a1.length<=a1.length) (be (in64 (p5+(min a2 (((a1.drop p5.toNat).take (a1.length - p5.toNat)).length:Int)))) (be (in64 (p5+(min a2 (((a1.drop p5.toNat).take (a1.length - p5.toNat)).length:Int)))) (be ((0:Int)<=p5/\(0:Int)<=p5+(min a2 (((a1.drop p5.toNat).take (a1.length - p5.toNat)).length:Int))/\p5.toNat<=(p5+(min a2 (((a1.drop p5.toNat).take (a1.length - p5.toNat)).length:Int))).toNat/\(p5+(min a2 (((a1.drop p5.toNat).take (a1.length - p5.toNat)).length:Int))).toNat<=a1.length) ((fy ((a1.drop p5.toNat).take ((p5+(min a2 (((a1.drop p5.toNat).take (a1.length - p5.toNat)).length:Int))).toNat - p5.toNat)) p6).bind fun a6=>bif !a6.1 then (some a6.2) else (be (in64 (p5+a2)) ((i9 N fy a1 a2 m4) (p5+a2) a6.2))))))) else (some p6)
def rH (N:Nat){σ:Type}(a1:TN)(a2:Int)(fy:TN->σ->Option (Bool×σ))(s0:σ):Option σ:=
 i9 N fy a1 a2 N 0 s0
theorem BX {N:Nat}{σ:Type}{a1:TN}{a2:Int}{fy:TN->σ->Option (Bool×σ)}{s0:σ}{r:σ}(h:rH N a1 a2 fy s0=some r){l:Nat}{G:σ->List Chunk}(hY:uu Ua l G (fun (x:TN) vs cs=> ∃A0 n0 c0,vs=[U A0 n0 c0]/\cs=[bc A0 n0 c0 x]) fy):Okc Ua 206 [.func (.yield l) #[] #[],pV B1 0,pV B3 0] (ar B1 30 [U A2 n2 c2]::bc A2 n2 c2 a1::ar B3 3 [iV a2]::(G s0)) (fun u post=>u=.tuple #[]/\post=G r):=by
 refine cA Tryz.func206 ?_;refine aY (fun m s L=> ∃p5 p6,i9 N fy a1 a2 m p5 p6=some r/\s=[(0,.func (.yield l) #[] #[]),(1,pV B1 0),(2,pV B3 0),(4,iV p5)]/\L=bc A2 n2 c2 a1::ar B1 30 [U A2 n2 c2]::ar B3 3 [iV a2]::(G p6)) N _ _ ⟨0,s0,h,J,J⟩ sA (cS [1,0,2] 3) ?_;rintro (_|m4) _ _ ⟨p5,p6,h,rfl,rfl⟩
 ·exact ao h
 rw [i9.eq_2] at h;refine sZ ?_;refine gH J h ?_ ?_<;>intro h
 ·refine sY ?_;refine dY [0,1,2] ?_;obtain ⟨q8,h⟩:=ah h;refine Bt 0 J (l:=p5.toNat) (h:=a1.length) q8.2.1 q8.2.2 ?_;rintro A9 n9 c9 e9;refine zR 3 J (uH 1 J e9 J t0 size23.out J (by rw [Int.toNat_of_nonneg q8.1];rfl) q8.2.1) ?_;refine zY [4] ?_;refine zE 5 J (Po J J hU hU) ?_;refine zX [6] ?_;refine ac ?_;obtain ⟨a8,h⟩:=ah h;refine ac ?_;obtain ⟨b0,h⟩:=ah h;refine ac ?_;obtain ⟨a6,h⟩:=ah h;refine MH 1 J (l:=p5.toNat) (h:=(p5+(min a2 (((a1.drop p5.toNat).take (a1.length - p5.toNat)).length:Int))).toNat) a6.2.2.1 a6.2.2.2 ?_;rintro A13 n13 c13 a7;refine gR (IA 2 J a7 J t0 size23.out J (by rw [Int.toNat_of_nonneg a6.1];rfl) (by rw [Int.toNat_of_nonneg a6.2.1];rfl) (by rw [Int.toNat_of_nonneg a6.2.1];rfl) a6.2.2.1 a6.2.2.2) ?_;obtain ⟨b1,k,h⟩:=aa h;refine gD (EB (a:=(a1.drop p5.toNat).take ((p5+(min a2 (((a1.drop p5.toNat).take (a1.length - p5.toNat)).length:Int))).toNat - p5.toNat)) [bc A13 n13 c13 ((a1.drop p5.toNat).take ((p5+(min a2 (((a1.drop p5.toNat).take (a1.length - p5.toNat)).length:Int))).toNat - p5.toNat)),bc A9 n9 c9 ((a1.drop p5.toNat).take (a1.length - p5.toNat)),bc A2 n2 c2 a1,ar B1 30 [U A2 n2 c2],ar B3 3 [iV a2]] hY k J J ⟨_,_,_,J,J⟩ (my 0 J J)) ?_;rintro _ _ ⟨rfl,rfl⟩;refine fw h ?_ ?_<;>intro h
  ·exact eY
  refine ac ?_;obtain ⟨b2,h⟩:=ah h;exact lY
 exact eY
def kI (N:Nat)(a0:TN)(a1:Int):Option Unit:=
 bif decide (a1<1) then none else (some ())
theorem xT {N:Nat}{a0:TN}{a1:Int}{r:Unit}(h:kI N a0 a1=some r):Okc Ua 188 [U A1 n1 c1,iV a1] ([bc A1 n1 c1 a0]) (fun u post=> ∃a2 a6,u=.func (.func 206) #[] #[pV a2 0,pV a6 0]/\post=[ab a2 30 [U A1 n1 c1],ab a6 3 [iV a1]]):=by
 refine cA Tryz.func188 ?_;intro B2
 refine jg fun B3=> ?_
 refine sZ ?_;refine gH J h ?_ ?_<;>intro h
 ·exact ao h
 refine ac ?_;refine fC (ed J) ?_;exact eN
def bY (N:Nat)(a1:Int)(x9:TN):(Unit)->Option (Option Exit×Unit)
 |()=>(aw x9 0).bind fun a2=>(bif !decide (a2.Ui=7) then (some true) else ((aw x9 1).bind fun a6=>some (decide (a6.Ui=8)))).bind fun a7=>bif a7 then (some (some .ret,())) else ((bif decide (a1=4) then ((aw x9 2).bind fun a8=>(iy N a8 7).bind fun b0=>(bif !b0 then (some true) else ((aw x9 3).bind fun b1=>(iz N b1 0 9007199254740992).bind fun b2=>some (!b2))).bind fun b3=>some b3) else (some false)).bind fun b4=>bif b4 then (some (some .ret,())) else (some (none,())))
def dM (N:Nat)(a0:TN)(a1:Int):Option Bool:=
 be (a1≠0) (bif !decide ((a0.length:Int).tmod a1=0) then (some false) else ((kI N a0 a1).bind fun y6=>(rH N a0 a1 (cY (fun x st=>bY N a1 x st)) (none,())).bind fun a2=>qP a2.1 (some true) (some false) (fun _=>none)))
theorem qe {N:Nat}{a0:TN}{a1:Int}{r:Bool}(h:dM N a0 a1=some r):Okc Ua 160 [U A1 n1 c1,iV a1] ([bc A1 n1 c1 a0]) (fun u post=>u=.bool r/\post=[]):=by
 refine cA Tryz.func160 ?_;intro B2
 refine jg fun B3=> ?_
 refine sZ ?_;obtain ⟨q4,h⟩:=ah h;refine fC (si J J q4) ?_;refine gH J h ?_ ?_<;>intro h
 ·exact eY
 refine sY ?_;obtain ⟨y6,k,h⟩:=aa h;refine gD (oR (xT k)) ?_;rintro _ _ ⟨_,⟨B7,B8,rfl,rfl⟩,rfl⟩;refine ac ?_;refine ie ?_ bu (iF 0 J);refine ie ?_ bu (iF 1 J);refine ac ?_;obtain ⟨e3,k,h⟩:=aa h;refine E9 (R:=(fun (x:TN) vs cs=> ∃A0 n0 c0,vs=[U A0 n0 c0]/\cs=[bc A0 n0 c0 x])) (fun x st=>bY N a1 x st) (fun (st:Unit) (mz:Unit)=> [ab B2 3 [iV a1],ab B3 4 [.bool false]]) [ar B7 30 [U A1 n1 c1],bc A1 n1 c1 a0,ar B8 3 [iV a1]] (()) (()) J J call206.out J (by rintro _ _ _ ⟨_,_,_,rfl,rfl⟩;rfl) (fun l G hY=>(BX k hY).mono fun _ _ hh=>hh.2) (cL [0,4,1] [] [3,2] 5 J) h ?_ ?_ ?_ ?_
 ·rintro l x9 _ je sr9 _ h _ _ ⟨A10,n10,c10,rfl,rfl⟩;replace h:bY N a1 x9 ()=some (je,sr9):=h;simp only [An,List.zip_cons_cons,List.zip_nil_left,List.zip_nil_right,List.reverse_cons,List.reverse_nil,Ug,List.cons_append];refine sY ?_;obtain ⟨e4,b2,b3,b6,h⟩:=bz h;refine ac ?_;refine EL (CT 0 J aM J (bR b2 b3) tf) ?_;obtain ⟨b7,a2,h⟩:=aa h;refine aR 6 26 b7 ?_ ?_
  ·clear h;refine aP 20 J (fun a8=> ?_) (fun a8=> ?_)
   ·have h:=aE a8 a2;exact gY
   have h:=aF a8 a2;refine ac ?_;obtain ⟨e5,b4,b5,b8,h⟩:=bz h;refine ac ?_;refine vR (CT 0 J aM J (bR b4 b5) tf) J (fN a8 J) J ?_;exact gY
  refine fw h ?_ ?_<;>intro h
  ·refine ac ?_;obtain ⟨rfl,rfl⟩:=Prod.mk.inj (Option.some.inj h);exact Ih ((cS [1,2] 3).trans (gr () J))
  refine ac ?_;obtain ⟨b9,a6,h⟩:=aa h;refine aR 13 42 b9 ?_ ?_
  ·clear h;refine aP 29 J (fun b0=> ?_) (fun b0=> ?_)
   ·have h:=aE b0 a6;refine ac ?_;obtain ⟨e6,d0,d1,d2,h⟩:=bz h;refine ac ?_;obtain ⟨e7,k,h⟩:=aa h;refine gU (oR (ku k)) (cB b0 J) ?_;refine ac ?_;obtain ⟨d3,a7,h⟩:=aa h;refine aR 6 41 d3 ?_ ?_
    ·clear h;refine aP 35 J (fun b1=> ?_) (fun b1=> ?_)
     ·have h:=aE b1 a7;exact gY
     have h:=aF b1 a7;refine ac ?_;obtain ⟨e8,d4,d6,e2,h⟩:=bz h;refine ac ?_;obtain ⟨e9,k,h⟩:=aa h;refine gU (oR (kw k)) (fN b1 J) ?_;exact gY
    exact gY
   have h:=aF b0 a6;exact gY
  refine fw h ?_ ?_<;>intro h
  ·refine ac ?_;obtain ⟨rfl,rfl⟩:=Prod.mk.inj (Option.some.inj h);exact Ih ((cS [1,2] 3).trans (gr () J))
  refine ac ?_;obtain ⟨rfl,rfl⟩:=Prod.mk.inj (Option.some.inj h);exact Cf ((cS [1,2] 3).trans (gr () J))
 ·rintro _ h;refine pQ ([ab B2 3 [iV a1],ab B3 4 [.bool false]]) J ?_;exact eY
 ·rintro _ h;refine pQ ([ab B2 3 [iV a1],ab B3 4 [.bool false]]) J ?_;exact eY
 rintro i _ h;exact ao h
end
section
variable {A1 A10 A11 A12 A13 A14 A15 A16 A2 A3 A4 A5 A6 A7 A8 A9:Option Addr} {B1 B10 B2 B3 B6 B7 B8 B9 M11 M12 M7 M8 M9 c1 c10 c11 c12 c13 c14 c15 c16 c2 c3 c4 c5 c6 c7 c8 c9 n1 n10 n11 n12 n13 n14 n15 n16 n2 n3 n4 n5 n6 n7 n8 n9:Nat}
open Go.RowKit Asn
set_option maxRecDepth 20000
def lV (N:Nat)(a0:Int)(a1:TN)(p5:Bool):Option Bool:=
 bif p5 then (some (decide ((a1.length:Int)=0))) else (bif decide (a0=3) then ((bif decide ((a1.length:Int)=3) then ((aw a1 0).bind fun a2=>(iz N a2 0 9007199254740992).bind fun a6=>some a6) else (some false)).bind fun b9=>(bif b9 then ((aw a1 1).bind fun a7=>(iy N a7 9).bind fun a8=>some a8) else (some false)).bind fun b0=>some b0) else (bif decide (a0=4) then ((bif decide (1<=(a1.length:Int)) then (some (decide ((a1.length:Int)<=4097))) else (some false)).bind fun b1=>(bif b1 then ((aw a1 0).bind fun b2=>(iy N b2 9).bind fun b3=>some b3) else (some false)).bind fun b4=>some b4) else (bif decide (a0=6) then ((bif decide ((a1.length:Int)=2) then ((aw a1 0).bind fun b5=>(iz N b5 0 3).bind fun b6=>some b6) else (some false)).bind fun b7=>(bif b7 then ((aw a1 1).bind fun b8=>(iy N b8 9).bind fun c0=>some c0) else (some false)).bind fun d0=>some d0) else (bif decide (a0=7) then ((bif decide (4<=(a1.length:Int)) then ((aw a1 2).bind fun d1=>(iz N d1 0 1).bind fun d2=>some d2) else (some false)).bind fun d3=>(bif d3 then ((aw a1 3).bind fun d4=>(iz N d4 0 9007199254740992).bind fun d6=>some d6) else (some false)).bind fun e2=>some e2) else (bif decide (a0=8) then ((dM N a1 2).bind fun e3=>some e3) else (bif decide (a0=10) then ((bif decide (1<=(a1.length:Int)) then ((aw a1 0).bind fun e4=>some (decide (e4.Ui=7))) else (some false)).bind fun e5=>(bif e5 then (be ((0:Int)<=1/\(1:Int).toNat<=a1.length/\a1.length<=a1.length) ((dM N ((a1.drop ((1:Int).toNat)).take (a1.length - (1:Int).toNat)) 4).bind fun e6=>some e6)) else (some false)).bind fun e7=>some e7) else (bif decide (a0=9) then ((bif decide (2<=(a1.length:Int)) then ((aw a1 0).bind fun e8=>(iz N e8 0 2).bind fun e9=>some e9) else (some false)).bind fun f1=>some f1) else (some true))))))))
def kx (N:Nat)(a0:Int)(a1:TN):Option Bool:=
 bif decide (1048576<(a1.length:Int)) then (some false) else (bif decide (a0=2) then (some (decide ((a1.length:Int)<=4096))) else (bif decide (a0=1) then (lV N a0 a1 (decide (a0=1))) else (lV N a0 a1 (decide (a0=5)))))
theorem At {N:Nat}{a0:Int}{a1:TN}{r:Bool}(h:kx N a0 a1=some r):Okc Ua 121 [iV a0,U A1 n1 c1] ([bc A1 n1 c1 a1]) (fun u post=>u=.bool r/\post=[]):=by
 refine cA Tryz.func121 ?_;refine sZ ?_;refine gH J h ?_ ?_<;>intro h
 ·exact eY
 refine sY ?_;refine gH J h ?_ ?_<;>intro h
 ·exact eY
 refine au (fun s L=> ∃p5,lV N a0 a1 p5=some r/\s=[(1,U A1 n1 c1),(4,.bool false),(8,iV a0),(14,.bool p5)]/\L=[bc A1 n1 c1 a1]) ?_ ?_
 ·refine fw h ?_ ?_<;>intro h
  ·exact jY
  exact jY
 rintro _ _ ⟨p5,h,rfl,rfl⟩;refine gH J h ?_ ?_<;>intro h
 ·exact eY
 refine fw h ?_ ?_<;>intro h
 ·refine ac ?_;obtain ⟨b9,e3,h⟩:=aa h;refine aR 5 30 b9 ?_ ?_
  ·clear h;refine aP 25 J (fun g9=> ?_) (fun g9=> ?_)
   ·have h:=aE g9 e3;refine ac ?_;obtain ⟨j2,e4,e5,e6,h⟩:=bz h;refine ac ?_;obtain ⟨j3,k,h⟩:=aa h;refine gU (oR (kw k)) (cB g9 J) ?_;exact gY
   have h:=aF g9 e3;exact gY
  refine ac ?_;obtain ⟨e7,a2,h⟩:=aa h;refine aR 5 36 e7 ?_ ?_
  ·clear h;refine aP 31 J (fun b6=> ?_) (fun b6=> ?_)
   ·have h:=aE b6 a2;refine ac ?_;obtain ⟨j4,e8,e9,f1,h⟩:=bz h;refine ac ?_;obtain ⟨j5,k,h⟩:=aa h;refine gU (oR (ku k)) (cB b6 J) ?_;exact gY
   have h:=aF b6 a2;exact gY
  exact eY
 refine fw h ?_ ?_<;>intro h
 ·refine ac ?_;refine gS 4 46 42 h ?_;intro j6 h;refine ac ?_;obtain ⟨f2,a6,h⟩:=aa h;refine aR 5 52 f2 ?_ ?_
  ·clear h;refine aP 47 J (fun b7=> ?_) (fun b7=> ?_)
   ·have h:=aE b7 a6;refine ac ?_;obtain ⟨j7,f3,f4,g0,h⟩:=bz h;refine ac ?_;obtain ⟨j8,k,h⟩:=aa h;refine gU (oR (ku k)) (cB b7 J) ?_;exact gY
   have h:=aF b7 a6;exact gY
  exact eY
 refine fw h ?_ ?_<;>intro h
 ·refine ac ?_;obtain ⟨g1,a7,h⟩:=aa h;refine aR 5 63 g1 ?_ ?_
  ·clear h;refine aP 58 J (fun b8=> ?_) (fun b8=> ?_)
   ·have h:=aE b8 a7;refine ac ?_;obtain ⟨j9,g2,g3,g4,h⟩:=bz h;refine ac ?_;obtain ⟨k0,k,h⟩:=aa h;refine gU (oR (kw k)) (cB b8 J) ?_;exact gY
   have h:=aF b8 a7;exact gY
  refine ac ?_;obtain ⟨g5,a8,h⟩:=aa h;refine aR 5 69 g5 ?_ ?_
  ·clear h;refine aP 64 J (fun c0=> ?_) (fun c0=> ?_)
   ·have h:=aE c0 a8;refine ac ?_;obtain ⟨k1,g6,g7,g8,h⟩:=bz h;refine ac ?_;obtain ⟨k2,k,h⟩:=aa h;refine gU (oR (ku k)) (cB c0 J) ?_;exact gY
   have h:=aF c0 a8;exact gY
  exact eY
 refine fw h ?_ ?_<;>intro h
 ·refine ac ?_;obtain ⟨h0,b0,h⟩:=aa h;refine aR 5 80 h0 ?_ ?_
  ·clear h;refine aP 75 J (fun d0=> ?_) (fun d0=> ?_)
   ·have h:=aE d0 b0;refine ac ?_;obtain ⟨k3,h1,h2,h3,h⟩:=bz h;refine ac ?_;obtain ⟨k4,k,h⟩:=aa h;refine gU (oR (kw k)) (cB d0 J) ?_;exact gY
   have h:=aF d0 b0;exact gY
  refine ac ?_;obtain ⟨h4,b1,h⟩:=aa h;refine aR 5 86 h4 ?_ ?_
  ·clear h;refine aP 81 J (fun d1=> ?_) (fun d1=> ?_)
   ·have h:=aE d1 b1;refine ac ?_;obtain ⟨k5,h5,h6,h7,h⟩:=bz h;refine ac ?_;obtain ⟨k6,k,h⟩:=aa h;refine gU (oR (kw k)) (cB d1 J) ?_;exact gY
   have h:=aF d1 b1;exact gY
  exact eY
 refine fw h ?_ ?_<;>intro h
 ·refine ac ?_;obtain ⟨k7,k,h⟩:=aa h;refine kD (oR (qe k)) ?_;exact eN
 refine fw h ?_ ?_<;>intro h
 ·refine ac ?_;obtain ⟨h8,b2,h⟩:=aa h;refine aR 6 102 h8 ?_ ?_
  ·clear h;refine aP 96 J (fun d2=> ?_) (fun d2=> ?_)
   ·have h:=aE d2 b2;refine ac ?_;obtain ⟨k8,d6,e2,h9,h⟩:=bz h;refine ac ?_;refine vR (CT 0 J aM J (bR d6 e2) tf) J (cB d2 J) J ?_;exact gY
   have h:=aF d2 b2;exact gY
  refine ac ?_;obtain ⟨i0,b3,h⟩:=aa h;refine aR 4 107 i0 ?_ ?_
  ·clear h;refine aP 103 J (fun b4=> ?_) (fun b4=> ?_)
   ·have h:=aE b4 b3;refine ac ?_;obtain ⟨d3,h⟩:=ah h;refine MI 0 J (l:=(1:Int).toNat) (h:=a1.length) d3.2.1 d3.2.2 ?_;rintro k9 l0 l1 i1;refine vR (uH 1 J i1 J t0 size23.out J (by rw [Int.toNat_of_nonneg d3.1];rfl) d3.2.1) J (cB b4 J) J ?_;obtain ⟨l2,k,h⟩:=aa h;refine gU (oR (qe k)) (cB b4 J) ?_;exact gY
   have h:=aF b4 b3;exact gY
  exact eY
 refine fw h ?_ ?_<;>intro h
 ·refine ac ?_;obtain ⟨i2,b5,h⟩:=aa h;refine aR 5 118 i2 ?_ ?_
  ·clear h;refine aP 113 J (fun d4=> ?_) (fun d4=> ?_)
   ·have h:=aE d4 b5;refine ac ?_;obtain ⟨l3,i8,j0,j1,h⟩:=bz h;refine ac ?_;obtain ⟨l4,k,h⟩:=aa h;refine gU (oR (kw k)) (cB d4 J) ?_;exact gY
   have h:=aF d4 b5;exact gY
  exact eY
 exact eY
def gt (N:Nat)(a0:TB)(a1:Bool×Ty):(Unit)->Option (Option Exit×Unit)
 |()=>(vj N a1.2).bind fun a2=>bif !a2 then (some (some .ret,())) else (some (none,()))
def fY (N:Nat)(a0:TB):Option Bool:=
 (bif decide (a0.Ui<1) then (some true) else (some (decide (11<a0.Ui)))).bind fun b5=>(bif b5 then (some true) else (some (decide (a0.Uw<0)))).bind fun b6=>(bif b6 then (some true) else (some (decide (a0.Uv<0)))).bind fun b7=>(bif b7 then (some true) else (some (decide (63<a0.Uv)))).bind fun b8=>(bif b8 then (some true) else ((bif !decide (a0.Ux=0) then (some (!decide (a0.Ux=1))) else (some false)).bind fun a1=>some a1)).bind fun b9=>bif b9 then (some false) else ((sw N a0).bind fun b0=>(nz N a0 (cY (fun x st=>gt N a0 x st)) (none,())).bind fun a2=>qP a2.1 ((jy N a0).bind fun a6=>(bif a6 then ((kx N a0.Ui a0.Um).bind fun a7=>some a7) else (some false)).bind fun a8=>some a8) (some false) (fun _=>none))
theorem lu {N:Nat}{a0:TB}{r:Bool}(h:fY N a0=some r):Okc Ua 81 [.agg #[iV a0.Ui,iV a0.Uw,iV a0.Uv,iV a0.Ux,U A1 n1 c1,U A2 n2 c2]] ([bc A1 n1 c1 a0.Uo,bc A2 n2 c2 a0.Um]) (fun u post=>u=.bool r/\post=[]):=by
 refine cA Tryz.func81 ?_;intro B3
 refine jg fun B4=> ?_
 refine sZ ?_;refine gS 4 12 8 h ?_;intro b5 h;refine ac ?_;refine gS 4 17 13 h ?_;intro b6 h;refine ac ?_;refine gS 4 22 18 h ?_;intro b7 h;refine ac ?_;refine gS 4 27 23 h ?_;intro b8 h;refine ac ?_;obtain ⟨b9,a6,h⟩:=aa h;refine aR 9 37 b9 ?_ ?_
 ·clear h;refine aP 28 J (fun g9=> ?_) (fun g9=> ?_)
  ·have h:=aE g9 a6;exact gY
  have h:=aF g9 a6;refine ac ?_;refine gS 4 36 32 h ?_;intro b1 h;exact gY
 refine fw h ?_ ?_<;>intro h
 ·exact eY
 refine sY ?_;obtain ⟨b2,k,h⟩:=aa h;refine gD (oR (BQ k)) ?_;rintro _ _ ⟨_,⟨a7,rfl,rfl⟩,rfl⟩;refine ac ?_;refine ie ?_ bu (iF 0 J);obtain ⟨b3,k,h⟩:=aa h;refine ux (en:=(fun x=> [.bool x.1,.agg #[iV x.2.Ui,iV x.2.N,.string x.2.S]])) (fun x st=>gt N a0 x st) (fun (st:Unit) (mz:Unit)=> [bc A1 n1 c1 a0.Uo,bc A2 n2 c2 a0.Um,ab B3 42 [iV a0.Ui,iV a0.Uw,iV a0.Uv,iV a0.Ux,U A1 n1 c1,U A2 n2 c2],ab B4 4 [.bool false]]) [ar a7 42 [iV a0.Ui,iV a0.Uw,iV a0.Uv,iV a0.Ux,U A1 n1 c1,U A2 n2 c2],bc A1 n1 c1 a0.Uo,bc A2 n2 c2 a0.Um] (()) (()) J J call156.out J (fun _=>J) (fun l G hY=>(xd k hY).mono fun _ _ hh=>hh.2) (cL [0,3,4] [] [3,4,2,1] 5 J) h ?_ ?_ ?_ ?_
 ·rintro l a8 _ je sr14 _ h;replace h:gt N a0 a8 ()=some (je,sr14):=h;simp only [An,List.zip_cons_cons,List.zip_nil_left,List.zip_nil_right,List.reverse_cons,List.reverse_nil,Ug,List.cons_append]
  refine jg fun b4=> ?_
  obtain ⟨c0,k,h⟩:=aa h;refine kD (oR (Ha k)) ?_;refine gH J h ?_ ?_<;>intro h
  ·refine ac ?_;obtain ⟨rfl,rfl⟩:=Prod.mk.inj (Option.some.inj h);exact Ih ((cS [1,2,3,4] 5).trans (gr () J))
  refine ac ?_;obtain ⟨rfl,rfl⟩:=Prod.mk.inj (Option.some.inj h);exact Cf ((cS [1,2,3,4] 5).trans (gr () J))
 ·rintro _ h;refine pQ ([bc A1 n1 c1 a0.Uo,bc A2 n2 c2 a0.Um,ab B3 42 [iV a0.Ui,iV a0.Uw,iV a0.Uv,iV a0.Ux,U A1 n1 c1,U A2 n2 c2],ab B4 4 [.bool false]]) J ?_;refine ac ?_;obtain ⟨d0,k,h⟩:=aa h;refine kD (oR (za k)) ?_;obtain ⟨b0,a1,h⟩:=aa h;refine aR 6 53 b0 ?_ ?_
  ·clear h;refine aP 47 J (fun a2=> ?_) (fun a2=> ?_)
   ·have h:=aE a2 a1;refine ac ?_;obtain ⟨d1,k,h⟩:=aa h;refine gU (oR (At k)) (cB a2 J) ?_;exact gY
   have h:=aF a2 a1;exact gY
  exact eY
 ·rintro _ h;refine pQ ([bc A1 n1 c1 a0.Uo,bc A2 n2 c2 a0.Um,ab B3 42 [iV a0.Ui,iV a0.Uw,iV a0.Uv,iV a0.Ux,U A1 n1 c1,U A2 n2 c2],ab B4 4 [.bool false]]) J ?_;exact eY
 rintro i _ h;exact ao h
def cI (N:Nat)(a0:TN):Option TN:=
 be (bJ (([]:List Ty).length+a0.length)) (some (([]:List Ty)++a0))
theorem fx {N:Nat}{a0:TN}{r:TN}(h:cI N a0=some r):Okc Ua 76 [U A1 n1 c1] ([bc A1 n1 c1 a0]) (fun u post=> ∃A0 n0 c0,u=U A0 n0 c0/\post=[aC A0 n0 c0 r]):=by
 refine cA Tryz.func76 ?_;refine sZ ?_;refine fC (G0 J t0) ?_;refine MJ J (fun g2=> ?_) (fun g2=> ?_)
 ·replace g2:(A1).isNone=true:=by simpa using g2
  refine OA 0 J aM g2 (fun hx=> ?_);subst hx;replace h:be (bJ (([]:List Ty).length+([]:List Ty).length)) (some (([]:List Ty)++([]:List Ty)))=some r:=h
  replace h:some []=some r:=by simpa [be] using h
  refine ac ?_;obtain rfl:=bS h;exact sr J J ((aU ap 23 _).trans (cS [0] 2)) ⟨_,_,_,J,J⟩
 refine ac ?_
 refine nk (az (R:=ap) (vss:=[]) (xs:=[]) J (Hf) J J (fun _ _ hr=>All2.nil)) fun A4 n4 c4=> ?_
 obtain ⟨q5,h⟩:=ah h
 refine nk (ay 0 1 J J aM J J t0 zf J J q5) fun A6 n6 c6=> ?_
 exact eN
def eG (N:Nat)(a0:TB):Option TB:=
 (cI N a0.Uo).bind fun y5=>(cI N a0.Um).bind fun y7=>some (⟨a0.Ui,a0.Uw,a0.Uv,a0.Ux,y5,y7⟩:TB)
theorem jA {N:Nat}{a0:TB}{r:TB}(h:eG N a0=some r):Okc Ua 82 [.agg #[iV a0.Ui,iV a0.Uw,iV a0.Uv,iV a0.Ux,U A1 n1 c1,U A2 n2 c2]] ([bc A1 n1 c1 a0.Uo,bc A2 n2 c2 a0.Um]) (fun u post=> ∃A0 n0 c0 A1 n1 c1,u=.agg #[iV r.Ui,iV r.Uw,iV r.Uv,iV r.Ux,U A0 n0 c0,U A1 n1 c1]/\post=[aC A0 n0 c0 r.Uo,aC A1 n1 c1 r.Um]):=by
 refine cA Tryz.func82 ?_;intro B3
 refine jg fun B4=> ?_
 refine dY [0,1,3,4] ?_;obtain ⟨y5,k,h⟩:=aa h;refine zD 2 J (oR (fx k)) ?_;rintro _ _ ⟨_,⟨A6,n6,c6,rfl,rfl⟩,rfl⟩;refine aA (cS [1,2,3,4] 5) ?_;refine zY [6] ?_;obtain ⟨y7,k,h⟩:=aa h;refine zD 5 J (oR (fx k)) ?_;rintro _ _ ⟨_,⟨A8,n8,c8,rfl,rfl⟩,rfl⟩;refine aA (cS [2,3,4,5] 6) ?_;refine f9 7 J I I (aj (us:=[U A6 n6 c6]) (cs':=[iV a0.Ui,iV a0.Uw,iV a0.Uv,iV a0.Ux,U A6 n6 c6,U A2 n2 c2]) 3 J J J J size30.out J J J) ?_;rintro _ _ rfl;refine zY [8] ?_;refine f9 9 J I I (aj (us:=[U A8 n8 c8]) (cs':=[iV a0.Ui,iV a0.Uw,iV a0.Uv,iV a0.Ux,U A6 n6 c6,U A8 n8 c8]) 3 J J J J size30.out J J J) ?_;rintro _ _ rfl;refine cT I ?_;exact eY
def eF (N:Nat)(a0:TI)(a1:TB):Option (Int×Int×TI):=
 (aK N a0).bind fun a6=>bif a6 then (some (0,1,a0)) else ((fY N a1).bind fun a7=>bif !a7 then (some (0,51,a0)) else ((eG N a1).bind fun a2=>be (bJ (a0.m_.Uj.length+([(⟨a2.Ui,a2.Uw,a2.Uv,0,a2.Uo,a2.Um⟩:TB)]:List TB).length)) (be (in64 (2*((a0.m_.Uj++([(⟨a2.Ui,a2.Uw,a2.Uv,0,a2.Uo,a2.Um⟩:TB)]:List TB)).length:Int))) (be (in64 ((2*((a0.m_.Uj++([(⟨a2.Ui,a2.Uw,a2.Uv,0,a2.Uo,a2.Um⟩:TB)]:List TB)).length:Int)) - 1)) (some ((2*((a0.m_.Uj++([(⟨a2.Ui,a2.Uw,a2.Uv,0,a2.Uo,a2.Um⟩:TB)]:List TB)).length:Int)) - 1,0,(⟨(⟨a0.m_.Uj++([(⟨a2.Ui,a2.Uw,a2.Uv,0,a2.Uo,a2.Um⟩:TB)]:List TB),a0.m_.Ul⟩:TM),a0.Ur,a0.Uz,a0.Uy⟩:TI)))))))
theorem oU {N:Nat}{a0:TI}{a1:TB}{r:Int×Int×TI}(h:eF N a0 a1=some r):Okc Ua 42 [pV B1 0,.agg #[iV a1.Ui,iV a1.Uw,iV a1.Uv,iV a1.Ux,U A8 n8 c8,U A9 n9 c9]] ([bc A8 n8 c8 a1.Uo,bc A9 n9 c9 a1.Um,ab B1 99 [U A2 n2 c2,U A3 n3 c3,U A4 n4 c4,U A5 n5 c5,pV B6 0],aZ A2 n2 c2 a0.m_.Uj,aZ A3 n3 c3 a0.m_.Ul,aC A4 n4 c4 a0.Ur,aC A5 n5 c5 a0.Uz,ab B6 147 [.map (some M7)],am bj bH M7 a0.Uy.at_]) (fun u post=> ∃A0 n0 c0 A1 n1 c1 A2 n2 c2 A3 n3 c3 M4,u=.tuple #[iV r.1,iV r.2.1]/\post=[ab B1 99 [U A0 n0 c0,U A1 n1 c1,U A2 n2 c2,U A3 n3 c3,pV B6 0],aZ A0 n0 c0 r.2.2.m_.Uj,aZ A1 n1 c1 r.2.2.m_.Ul,aC A2 n2 c2 r.2.2.Ur,aC A3 n3 c3 r.2.2.Uz,ab B6 147 [.map (some M4)],am bj bH M4 r.2.2.Uy.at_]):=by
 refine cA Tryz.func42 ?_;intro B10;refine sY ?_;obtain ⟨d1,k,h⟩:=aa h;refine kD (oR (ci k)) ?_;refine gH J h ?_ ?_<;>intro h
 ·exact eY
 refine ac ?_;obtain ⟨d2,k,h⟩:=aa h;refine kD (oR (lu k)) ?_;refine gH J h ?_ ?_<;>intro h
 ·exact eY
 refine ac ?_;obtain ⟨a2,k,h⟩:=aa h
 refine FN (oR (jA k)) fun A16 n16 c16 b0 b1 b2=> ?_
 refine aG ?_;refine ie ?_ bu (bv 0 J);refine ac ?_;refine ie ?_ bu (bv 1 J);refine ie (t:=[(0,pV B1 0),(3,pV B10 0),(4,iV 0),(5,iV 0)]) ?_ lW (ad _)
 refine iW I 8 [0] [0,5,7] [16,17,18,19,20,21,22,23] [[],[],[1],[2],[3],[4],[],[6]] [aV (pV B1 0),
aV (pV B1 0),
aV (pV B1 0),
aV (pV B1 0),
aV (pV B1 0),
aV (U A2 n2 c2),
aV (.agg #[iV a2.Ui,iV a2.Uw,iV a2.Uv,iV 0,U A16 n16 c16,U b0 b1 b2]),
aX3 (fun (a6:Option Addr) (a7 a8:Nat)=> U a6 a7 a8) (fun a6 a7 a8=> [aZ a6 a7 a8 ([(⟨a2.Ui,a2.Uw,a2.Uv,0,a2.Uo,a2.Um⟩:TB)]:List TB)])] [] (ad _) (uM rfl lB) I rfl rfl ?_ ?_ ?_
 ·refine uL J ?_ ?_
  ·exact DX (aX J) J (aQ J (ad _))
  exact lA
 ·refine ae J ?_ ?_
  ·refine uv (az (R:=eT) (vss:=[[iV a2.Ui,iV a2.Uw,iV a2.Uv,iV 0,U A16 n16 c16,U b0 b1 b2]]) (xs:=[(⟨a2.Ui,a2.Uw,a2.Uv,0,a2.Uo,a2.Um⟩:TB)]) J (xe _ _ _ _ _ _ _ _ _ _) J J (fun _ _ hr=> .cons (⟨_,_,_,_,_,_,J,hr 0 _ J J,hr 1 _ J J⟩) All2.nil)) J ?_;rintro _ _ ⟨b7,b8,b9,rfl,rfl⟩;exact vc b7 b8 b9 (ad _)
  refine ae J ?_ ?_
  ·exact dy (cm (us:=[iV a2.Ui,iV a2.Uw,iV a2.Uv,iV 0,U A16 n16 c16,U b0 b1 b2]) 2 J J agg42.out J) J (aQ J (ad _))
  refine ae J ?_ ?_
  ·exact dy (bp 5 J J EC J) J (aQ J (ad _))
  refine ae J ?_ ?_
  ·exact bU (ni J Cn) J (aQ J (ad _))
  refine ae J ?_ ?_
  ·exact bU (ni J Ag) J (aQ J (ad _))
  refine ae J ?_ ?_
  ·exact bU (bE J) J (aQ J (ad _))
  refine ae J ?_ ?_
  ·exact bU (aX J) J (aQ J (ad _))
  refine ae J ?_ ?_
  ·exact bU (aX J) J (aQ J (ad _))
  exact ee
 intro a6 a7 a8;refine nD (t:=[(16,pV B1 0),(21,U A2 n2 c2),(23,U a6 a7 a8),(0,pV B1 0),(3,pV B10 0),(4,iV 0),(5,iV 0)]) (L':=[aZ a6 a7 a8 ([(⟨a2.Ui,a2.Uw,a2.Uv,0,a2.Uo,a2.Um⟩:TB)]:List TB),bc A16 n16 c16 a2.Uo,bc b0 b1 b2 a2.Um,ab B10 42 [iV a2.Ui,iV a2.Uw,iV a2.Uv,iV 0,U A16 n16 c16,U b0 b1 b2],bc A8 n8 c8 a1.Uo,bc A9 n9 c9 a1.Um,ab B1 99 [U A2 n2 c2,U A3 n3 c3,U A4 n4 c4,U A5 n5 c5,pV B6 0],aZ A2 n2 c2 a0.m_.Uj,aZ A3 n3 c3 a0.m_.Ul,aC A4 n4 c4 a0.Ur,aC A5 n5 c5 a0.Uz,ab B6 147 [.map (some M7)],am bj bH M7 a0.Uy.at_]) ?_ lW (ad _);obtain ⟨d0,h⟩:=ah h;refine pa 8 J I (ay 7 0 J J aB J J SZ F7 J J d0) J J J ?_;rintro _ _ ⟨b3,b4,b5,rfl,rfl⟩;refine zc 9 J I (bE J) J J J ?_;refine zc 10 J I (ni J Ag) J J J ?_;refine zc 11 J I (ni J Cn) J J J ?_;refine vI 12 J I (aj (us:=[U b3 b4 b5]) (cs':=[U b3 b4 b5,U A3 n3 c3,U A4 n4 c4,U A5 n5 c5,pV B6 0]) 6 J J J J size94.out J J J) J J ?_;rintro _ _ rfl;refine BE ?_;refine lD I ?_;refine ac ?_;obtain ⟨b6,h⟩:=ah h;refine gE (tJ J J b6.1 b6.2) ?_;obtain ⟨d3,h⟩:=ah h;exact eY
def iY (N:Nat)(a0:TC)(a2:Int)(a6:Int)(a7:ByteArray)(a8:Int):Option (Ty×TC):=
 (eF N a0.Uk (⟨1,0,a8,0,([(⟨a2,a6,a7⟩:Ty)]:List Ty),[]⟩:TB)).bind fun a1=>some ((⟨7,a1.1,⟨#[]⟩⟩:Ty),(⟨a0.UA,a0.Us,(),a1.2.2,a0.Un,a0.UF,a0.UO,a0.UP,a0.UQ,a0.UH,a0.UG⟩:TC))
def dF (N:Nat)(a1:Int)(a0:TC)(a2:Int)(a6:Int)(a7:ByteArray):Option (Ty×TC):=
 bif decide (a1=17) then (iY N a0 a2 a6 a7 1) else (iY N a0 a2 a6 a7 17)
def iZ (N:Nat)(a1:Int)(a0:TC)(a7:Bool):Option (Ty×TC):=
 bif a7 then ((bi N a0.Uk 3).bind fun a2=>dF N a1 a0 a2.Ui a2.N a2.S) else ((bi N a0.Uk 0).bind fun a6=>dF N a1 a0 a6.Ui a6.N a6.S)
def fB (N:Nat)(a1:Int)(a0:TC)(a6:Bool):Option (Ty×TC):=
 bif a6 then ((bi N a0.Uk 5).bind fun a2=>dF N a1 a0 a2.Ui a2.N a2.S) else (bif decide (a1=4) then (iZ N a1 a0 (decide (a1=4))) else (iZ N a1 a0 (decide (a1=16))))
def ob (N:Nat)(a0:TC)(a1:Int):Option (Ty×TC):=
 bif decide (a1=0) then (dF N a1 a0 1 0 (⟨#[]⟩)) else (bif decide (a1=6) then (fB N a1 a0 (decide (a1=6))) else (bif decide (a1=7) then (fB N a1 a0 (decide (a1=7))) else (fB N a1 a0 (decide (a1=8)))))
theorem nm {N:Nat}{a0:TC}{a1:Int}{r:Ty×TC}(h:ob N a0 a1=some r):Okc Ua 37 [pV B1 0,iV a1] ([ab B1 79 (iD a0 B2 B9 A12 n12 c12 A13 n13 c13 A14 n14 c14),ab B2 99 [U A3 n3 c3,U A4 n4 c4,U A5 n5 c5,U A6 n6 c6,pV B7 0],aZ A3 n3 c3 a0.Uk.m_.Uj,aZ A4 n4 c4 a0.Uk.m_.Ul,aC A5 n5 c5 a0.Uk.Ur,aC A6 n6 c6 a0.Uk.Uz,ab B7 147 [.map (some M8)],am bj bH M8 a0.Uk.Uy.at_,ab B9 118 [U A10 n10 c10,.map (some M11)],gQ A10 n10 c10 a0.Un.Un,am av dq M11 a0.Un.UB,cj A12 n12 c12 a0.UF,ik A13 n13 c13 a0.UH,cj A14 n14 c14 a0.UG]) (fun u post=> ∃A0 n0 c0 A1 n1 c1 A2 n2 c2 A3 n3 c3 M4 A5 n5 c5 M6 A7 n7 c7 A8 n8 c8 A9 n9 c9,u=.agg #[iV r.1.Ui,iV r.1.N,.string r.1.S]/\post=[ab B1 79 (iD r.2 B2 B9 A7 n7 c7 A8 n8 c8 A9 n9 c9),ab B2 99 [U A0 n0 c0,U A1 n1 c1,U A2 n2 c2,U A3 n3 c3,pV B7 0],aZ A0 n0 c0 r.2.Uk.m_.Uj,aZ A1 n1 c1 r.2.Uk.m_.Ul,aC A2 n2 c2 r.2.Uk.Ur,aC A3 n3 c3 r.2.Uk.Uz,ab B7 147 [.map (some M4)],am bj bH M4 r.2.Uk.Uy.at_,ab B9 118 [U A5 n5 c5,.map (some M6)],gQ A5 n5 c5 r.2.Un.Un,am av dq M6 r.2.Un.UB,cj A7 n7 c7 r.2.UF,ik A8 n8 c8 r.2.UH,cj A9 n9 c9 r.2.UG]):=by
 refine cA Tryz.func37 ?_;intro a2
 refine jg fun b0=> ?_
 refine au (fun s L=> ∃a6 a7 a8,dF N a1 a0 a6 a7 a8=some r/\s=[(0,pV B1 0),(1,iV a1),(4,pV a2 0),(5,pV b0 0)]/\L=[cj A12 n12 c12 a0.UF,ik A13 n13 c13 a0.UH,cj A14 n14 c14 a0.UG,ab B1 79 (iD a0 B2 B9 A12 n12 c12 A13 n13 c13 A14 n14 c14),ab a2 23 [iV 0,iV 0,.string (⟨#[]⟩)],ab b0 23 [iV a6,iV a7,.string a8],aZ A3 n3 c3 a0.Uk.m_.Uj,aZ A4 n4 c4 a0.Uk.m_.Ul,aC A5 n5 c5 a0.Uk.Ur,aC A6 n6 c6 a0.Uk.Uz,ab B2 99 [U A3 n3 c3,U A4 n4 c4,U A5 n5 c5,U A6 n6 c6,pV B7 0],gQ A10 n10 c10 a0.Un.Un,am av dq M11 a0.Un.UB,ab B9 118 [U A10 n10 c10,.map (some M11)],am bj bH M8 a0.Uk.Uy.at_,ab B7 147 [.map (some M8)]]) ?_ ?_
 ·refine fw h ?_ ?_<;>intro h
  ·exact jY
  refine au (fun s L=> ∃b2,fB N a1 a0 b2=some r/\s=[(0,pV B1 0),(1,iV a1),(4,pV a2 0),(5,pV b0 0),(10,iV a1),(18,.bool b2)]/\L=[cj A12 n12 c12 a0.UF,ik A13 n13 c13 a0.UH,cj A14 n14 c14 a0.UG,ab B1 79 (iD a0 B2 B9 A12 n12 c12 A13 n13 c13 A14 n14 c14),ab a2 23 [iV 0,iV 0,.string (⟨#[]⟩)],ab b0 23 [iV 1,iV 0,.string (⟨#[]⟩)],aZ A3 n3 c3 a0.Uk.m_.Uj,aZ A4 n4 c4 a0.Uk.m_.Ul,aC A5 n5 c5 a0.Uk.Ur,aC A6 n6 c6 a0.Uk.Uz,ab B2 99 [U A3 n3 c3,U A4 n4 c4,U A5 n5 c5,U A6 n6 c6,pV B7 0],gQ A10 n10 c10 a0.Un.Un,am av dq M11 a0.Un.UB,ab B9 118 [U A10 n10 c10,.map (some M11)],am bj bH M8 a0.Uk.Uy.at_,ab B7 147 [.map (some M8)]]) ?_ ?_
  ·refine fw h ?_ ?_<;>intro h
   ·exact jY
   refine fw h ?_ ?_<;>intro h
   ·exact jY
   exact jY
  rintro _ _ ⟨b2,h,rfl,rfl⟩;refine gH J h ?_ ?_<;>intro h
  ·refine ac ?_;obtain ⟨b8,k,h⟩:=aa h;refine kD (oR (cx k)) ?_;exact jN
  refine au (fun s L=> ∃b3,iZ N a1 a0 b3=some r/\s=[(0,pV B1 0),(1,iV a1),(4,pV a2 0),(5,pV b0 0),(27,.bool b3)]/\L=[cj A12 n12 c12 a0.UF,ik A13 n13 c13 a0.UH,cj A14 n14 c14 a0.UG,ab B1 79 (iD a0 B2 B9 A12 n12 c12 A13 n13 c13 A14 n14 c14),ab a2 23 [iV 0,iV 0,.string (⟨#[]⟩)],ab b0 23 [iV 1,iV 0,.string (⟨#[]⟩)],aZ A3 n3 c3 a0.Uk.m_.Uj,aZ A4 n4 c4 a0.Uk.m_.Ul,aC A5 n5 c5 a0.Uk.Ur,aC A6 n6 c6 a0.Uk.Uz,ab B2 99 [U A3 n3 c3,U A4 n4 c4,U A5 n5 c5,U A6 n6 c6,pV B7 0],gQ A10 n10 c10 a0.Un.Un,am av dq M11 a0.Un.UB,ab B9 118 [U A10 n10 c10,.map (some M11)],am bj bH M8 a0.Uk.Uy.at_,ab B7 147 [.map (some M8)]]) ?_ ?_
  ·refine fw h ?_ ?_<;>intro h
   ·exact jY
   exact jY
  rintro _ _ ⟨b3,h,rfl,rfl⟩;refine gH J h ?_ ?_<;>intro h
  ·refine ac ?_;obtain ⟨b9,k,h⟩:=aa h;refine kD (oR (cx k)) ?_;exact jN
  refine ac ?_;obtain ⟨d0,k,h⟩:=aa h;refine kD (oR (cx k)) ?_;exact jN
 rintro _ _ ⟨a6,a7,a8,h,rfl,rfl⟩;refine ac ?_
 refine nk (az (R:=ap) (vss:=[[iV a6,iV a7,.string a8]]) (xs:=[(⟨a6,a7,a8⟩:Ty)]) J (qh _ _ _) J J (fun _ _ hr=> .cons J All2.nil)) fun b4 b5 b6=> ?_
 intro b7;refine ac ?_;refine au (fun s L=> ∃b1,iY N a0 a6 a7 a8 b1=some r/\s=[(0,pV B1 0),(4,pV a2 0),(6,pV b7 0)]/\L=[cj A12 n12 c12 a0.UF,ik A13 n13 c13 a0.UH,cj A14 n14 c14 a0.UG,ab B1 79 (iD a0 B2 B9 A12 n12 c12 A13 n13 c13 A14 n14 c14),ab a2 23 [iV 0,iV 0,.string (⟨#[]⟩)],aC b4 b5 b6 ([(⟨a6,a7,a8⟩:Ty)]:List Ty),ab b7 42 [iV 1,iV 0,iV b1,iV 0,U b4 b5 b6,U none 0 0],aZ A3 n3 c3 a0.Uk.m_.Uj,aZ A4 n4 c4 a0.Uk.m_.Ul,aC A5 n5 c5 a0.Uk.Ur,aC A6 n6 c6 a0.Uk.Uz,ab B2 99 [U A3 n3 c3,U A4 n4 c4,U A5 n5 c5,U A6 n6 c6,pV B7 0],gQ A10 n10 c10 a0.Un.Un,am av dq M11 a0.Un.UB,ab B9 118 [U A10 n10 c10,.map (some M11)],am bj bH M8 a0.Uk.Uy.at_,ab B7 147 [.map (some M8)]]) ?_ ?_
 ·refine fw h ?_ ?_<;>intro h
  ·exact jY
  exact jY
 rintro _ _ ⟨b1,h,rfl,rfl⟩;refine aG ?_;refine bV I ([cj A12 n12 c12 a0.UF,ik A13 n13 c13 a0.UH,cj A14 n14 c14 a0.UG,ab B1 79 (iD a0 B2 B9 A12 n12 c12 A13 n13 c13 A14 n14 c14),ab a2 23 [iV 0,iV 0,.string (⟨#[]⟩)],ab b7 42 [iV 1,iV 0,iV b1,iV 0,U b4 b5 b6,U none 0 0],gQ A10 n10 c10 a0.Un.Un,am av dq M11 a0.Un.UB,ab B9 118 [U A10 n10 c10,.map (some M11)]]) (cS [0,1,2,3,4,6,12,13,14] 17) ?_;refine ac ?_;refine mD (bv 5 J) (cS [0,1,2,3,4,6,12,13,14] 17) ?_;refine aH ?_;obtain ⟨d1,k,h⟩:=aa h;refine mD (ip ap _) (cS [1,2,3,4,5,7,13,14,15] 18) ?_;refine zD 5 J (oC (oU k)) ?_;rintro _ _ ⟨_,⟨d2,d3,d4,d6,e2,e3,e4,e5,e6,e7,e8,e9,f1,rfl,rfl⟩,rfl⟩;refine aA (cS [8,9,10,11,12,14,15,16,17] 18) ?_;refine aH ?_;exact eY
def dC (N:Nat)(a0:TI)(a1:Ty):Option (Int×TI):=
 (aK N a0).bind fun y9=>bif y9 then (some (0,a0)) else (be (bJ (a0.Ur.length+([a1]:List Ty).length)) (be (in64 (((a0.Ur++([a1]:List Ty)).length:Int) - 1)) (some (((a0.Ur++([a1]:List Ty)).length:Int) - 1,(⟨a0.m_,a0.Ur++([a1]:List Ty),a0.Uz,a0.Uy⟩:TI)))))
theorem dm {N:Nat}{a0:TI}{a1:Ty}{r:Int×TI}(h:dC N a0 a1=some r):Okc Ua 36 [pV B1 0,(gA a1)] ([ab B1 99 [U A2 n2 c2,U A3 n3 c3,U A4 n4 c4,U A5 n5 c5,pV B6 0],aZ A2 n2 c2 a0.m_.Uj,aZ A3 n3 c3 a0.m_.Ul,aC A4 n4 c4 a0.Ur,aC A5 n5 c5 a0.Uz,ab B6 147 [.map (some M7)],am bj bH M7 a0.Uy.at_]) (fun u post=> ∃A0 n0 c0 A1 n1 c1 A2 n2 c2 A3 n3 c3 M4,u=iV r.1/\post=[ab B1 99 [U A0 n0 c0,U A1 n1 c1,U A2 n2 c2,U A3 n3 c3,pV B6 0],aZ A0 n0 c0 r.2.m_.Uj,aZ A1 n1 c1 r.2.m_.Ul,aC A2 n2 c2 r.2.Ur,aC A3 n3 c3 r.2.Uz,ab B6 147 [.map (some M4)],am bj bH M4 r.2.Uy.at_]):=by
 refine cA Tryz.func36 ?_;intro B8;refine sY ?_;obtain ⟨y9,k,h⟩:=aa h;refine kD (oR (ci k)) ?_;refine gH J h ?_ ?_<;>intro h
 ·exact eY
 refine ac ?_;refine aG ?_;refine ie (t:=[(0,pV B1 0),(3,pV B8 0),(4,iV 0)]) ?_ lW (ad _)
 refine iW I 7 [0] [0,4,6] [7,8,9,10,11,12,13] [[],[],[1],[2],[3],[],[5]] [aV (pV B1 0),
aV (pV B1 0),
aV (pV B1 0),
aV (pV B1 2),
aV (U A4 n4 c4),
aV ((gA a1)),
aX3 (fun (A12:Option Addr) (n12 c12:Nat)=> U A12 n12 c12) (fun A12 n12 c12=> [aC A12 n12 c12 ([a1]:List Ty)])] [] (ad _) (uM rfl lB) I rfl rfl ?_ ?_ ?_
 ·refine uL J ?_ ?_
  ·exact DX (aX J) J (aQ J (ad _))
  exact lA
 ·refine ae J ?_ ?_
  ·refine uv (az (R:=ap) (vss:=[(uV a1)]) (xs:=[a1]) J (qh _ _ _) J J (fun _ _ hr=> .cons J All2.nil)) J ?_;rintro _ _ ⟨A11,n11,c11,rfl,rfl⟩;exact vc A11 n11 c11 (ad _)
  refine ae J ?_ ?_
  ·exact dy (cm (us:=uV a1) 0 J J agg23.out J) J (aQ J (ad _))
  refine ae J ?_ ?_
  ·exact dy (bp 1 J J vz J) J (aQ J (ad _))
  refine ae J ?_ ?_
  ·exact bU (dj J FQ) J (aQ J (ad _))
  refine ae J ?_ ?_
  ·exact bU (bE J) J (aQ J (ad _))
  refine ae J ?_ ?_
  ·exact bU (aX J) J (aQ J (ad _))
  refine ae J ?_ ?_
  ·exact bU (aX J) J (aQ J (ad _))
  exact ee
 intro A12 n12 c12;refine nD (t:=[(7,pV B1 0),(11,U A4 n4 c4),(13,U A12 n12 c12),(0,pV B1 0),(3,pV B8 0),(4,iV 0)]) (L':=[aC A12 n12 c12 ([a1]:List Ty),ab B8 23 (uV a1),ab B1 99 [U A2 n2 c2,U A3 n3 c3,U A4 n4 c4,U A5 n5 c5,pV B6 0],aZ A2 n2 c2 a0.m_.Uj,aZ A3 n3 c3 a0.m_.Ul,aC A4 n4 c4 a0.Ur,aC A5 n5 c5 a0.Uz,ab B6 147 [.map (some M7)],am bj bH M7 a0.Uy.at_]) ?_ lW (ad _);obtain ⟨a2,h⟩:=ah h;refine pa 7 J I (ay 5 0 J J aB J J t0 zf J J a2) J J J ?_;rintro _ _ ⟨A14,n14,c14,rfl,rfl⟩;refine zc 8 J I (bE J) J J J ?_;refine zc 9 J I (dj J FQ) J J J ?_;refine vI 10 J I (aj (us:=[U A14 n14 c14]) (cs':=[U A2 n2 c2,U A3 n3 c3,U A14 n14 c14,U A5 n5 c5,pV B6 0]) 2 J J J J size30.out J J J) J J ?_;rintro _ _ rfl;refine lD I ?_;refine ac ?_;obtain ⟨a6,h⟩:=ah h;exact eY
def dv (N:Nat)(a0:TC)(a1:TB):Option (Ty×TC):=
 (eF N a0.Uk a1).bind fun a2=>bif !decide (a2.2.1=0) then (some ((⟨0,0,⟨#[]⟩⟩:Ty),(⟨a0.UA,a0.Us,(),a2.2.2,a0.Un,a0.UF,a0.UO,a0.UP,a0.UQ,a0.UH,a0.UG⟩:TC))) else (some ((⟨9,a2.1,⟨#[]⟩⟩:Ty),(⟨a0.UA,a0.Us,(),a2.2.2,a0.Un,a0.UF,a0.UO,a0.UP,a0.UQ,a0.UH,a0.UG⟩:TC)))
theorem fj {N:Nat}{a0:TC}{a1:TB}{r:Ty×TC}(h:dv N a0 a1=some r):Okc Ua 14 [pV B1 0,.agg #[iV a1.Ui,iV a1.Uw,iV a1.Uv,iV a1.Ux,U A15 n15 c15,U A16 n16 c16]] ([bc A15 n15 c15 a1.Uo,bc A16 n16 c16 a1.Um,ab B1 79 (iD a0 B2 B9 A12 n12 c12 A13 n13 c13 A14 n14 c14),ab B2 99 [U A3 n3 c3,U A4 n4 c4,U A5 n5 c5,U A6 n6 c6,pV B7 0],aZ A3 n3 c3 a0.Uk.m_.Uj,aZ A4 n4 c4 a0.Uk.m_.Ul,aC A5 n5 c5 a0.Uk.Ur,aC A6 n6 c6 a0.Uk.Uz,ab B7 147 [.map (some M8)],am bj bH M8 a0.Uk.Uy.at_,ab B9 118 [U A10 n10 c10,.map (some M11)],gQ A10 n10 c10 a0.Un.Un,am av dq M11 a0.Un.UB,cj A12 n12 c12 a0.UF,ik A13 n13 c13 a0.UH,cj A14 n14 c14 a0.UG]) (fun u post=> ∃A0 n0 c0 A1 n1 c1 A2 n2 c2 A3 n3 c3 M4 A5 n5 c5 M6 A7 n7 c7 A8 n8 c8 A9 n9 c9,u=.agg #[iV r.1.Ui,iV r.1.N,.string r.1.S]/\post=[ab B1 79 (iD r.2 B2 B9 A7 n7 c7 A8 n8 c8 A9 n9 c9),ab B2 99 [U A0 n0 c0,U A1 n1 c1,U A2 n2 c2,U A3 n3 c3,pV B7 0],aZ A0 n0 c0 r.2.Uk.m_.Uj,aZ A1 n1 c1 r.2.Uk.m_.Ul,aC A2 n2 c2 r.2.Uk.Ur,aC A3 n3 c3 r.2.Uk.Uz,ab B7 147 [.map (some M4)],am bj bH M4 r.2.Uk.Uy.at_,ab B9 118 [U A5 n5 c5,.map (some M6)],gQ A5 n5 c5 r.2.Un.Un,am av dq M6 r.2.Un.UB,cj A7 n7 c7 r.2.UF,ik A8 n8 c8 r.2.UH,cj A9 n9 c9 r.2.UG]):=by
 refine cA Tryz.func14 ?_;intro a2
 refine jg fun a6=> ?_
 refine sZ ?_;refine fC (bD J Tf) ?_;refine cy J ?_;refine ac ?_;refine aG ?_;refine bV I ([ab a6 23 [iV 0,iV 0,.string (⟨#[]⟩)],ab a2 42 [iV a1.Ui,iV a1.Uw,iV a1.Uv,iV a1.Ux,U A15 n15 c15,U A16 n16 c16],bc A15 n15 c15 a1.Uo,bc A16 n16 c16 a1.Um,ab B1 79 (iD a0 B2 B9 A12 n12 c12 A13 n13 c13 A14 n14 c14),ab B9 118 [U A10 n10 c10,.map (some M11)],gQ A10 n10 c10 a0.Un.Un,am av dq M11 a0.Un.UB,cj A12 n12 c12 a0.UF,ik A13 n13 c13 a0.UH,cj A14 n14 c14 a0.UG]) (cS [0,1,2,3,4,12,13,14,15,16,17] 18) ?_;refine ac ?_;obtain ⟨a7,k,h⟩:=aa h;refine zD 5 J (oC (oU k)) ?_;rintro _ _ ⟨_,⟨a8,b0,b1,b2,b3,b4,b5,b6,b7,b8,b9,d0,d1,rfl,rfl⟩,rfl⟩;refine aA (cS [7,8,9,10,11,12,13,14,15,16,17] 18) ?_;refine aH ?_;refine sY ?_;refine gH J h ?_ ?_<;>intro h
 ·exact eY
 exact eY
def wv (N:Nat)(a1:Int)(a2:Int)(a6:Int)(a7:Int)(a8:Int)(b0:Int)(b1:Int)(b2:Int)(b3:Int)(b4:Int)(b5:TX)(b6:Int)(b7:Int)(b8:Int)(b9:TZ)(c0:TX)(d0:TV)(d1:TV)(d2:TN)(d3:TN)(d4:List TA)(d6:(List (TH×Int)))(e2:TW):Option (Int ⊕ (TC×Int)):=
 some (.inr ((⟨(⟨a1,a2,a6⟩:TL),(⟨a7,a8,b0,b1,b2,b3,b4⟩:Tx),(),(⟨(⟨d0,d1⟩:TM),d2,d3,(⟨e2⟩:Tw)⟩:TI),(⟨d4,d6⟩:Tt),b5,b6,b7,b8,b9,c0⟩:TC),0))
def ww (N:Nat)(a6:Int)(a7:Int)(a8:Int)(b0:Int)(b1:Int)(b2:Int)(b3:Int)(b4:Int)(b5:Int)(b6:Int)(b7:TX)(b8:Int)(b9:Int)(c0:Int)(d0:TZ)(d1:TX)(d2:TV)(d3:TV)(d4:TN)(d6:TN)(e2:List TA)(e3:(List (TH×Int)))(e4:TW):Option (Int ⊕ (TC×Int)):=
 (dv N (⟨(⟨a6,a7,a8⟩:TL),(⟨b0,b1,b2,b3,b4,b5,b6⟩:Tx),(),(⟨(⟨d2,d3⟩:TM),d4,d6,(⟨e4⟩:Tw)⟩:TI),(⟨e2,e3⟩:Tt),b7,b8,b9,c0,d0,d1⟩:TC) (⟨11,0,0,0,[],[]⟩:TB)).bind fun a1=>(dC N a1.2.Uk a1.1).bind fun a2=>wv N a1.2.UA.UV a1.2.UA.UT a1.2.UA.UU a1.2.Us.UD a1.2.Us.Uu a1.2.Us.Uq a1.2.Us.Ut a1.2.Us.Uj a1.2.Us.UC a1.2.Us.UE a1.2.UF a1.2.UO a1.2.UP a1.2.UQ a1.2.UH a1.2.UG a2.2.m_.Uj a2.2.m_.Ul a2.2.Ur a2.2.Uz a1.2.Un.Un a1.2.Un.UB a2.2.Uy.at_
def yj (N:Nat)(a6:Int)(a7:Int)(a8:Int)(p21:Int)(b0:Int)(b1:Int)(b2:Int)(b3:Int)(b4:Int)(b5:Int)(b6:TX)(b7:Int)(b8:Int)(b9:Int)(c0:TZ)(d0:TX)(d1:TV)(d2:TV)(d3:TN)(d4:TN)(d6:List TA)(e2:(List (TH×Int)))(e3:TW):Option (Int ⊕ (TC×Int)):=
 (dv N (⟨(⟨a6,a7,a8⟩:TL),(⟨p21,b0,b1,b2,b3,b4,b5⟩:Tx),(),(⟨(⟨d1,d2⟩:TM),d3,d4,(⟨e3⟩:Tw)⟩:TI),(⟨d6,e2⟩:Tt),b6,b7,b8,b9,c0,d0⟩:TC) (⟨11,0,0,0,[],[]⟩:TB)).bind fun a1=>(dC N a1.2.Uk a1.1).bind fun a2=>ww N a1.2.UA.UV a1.2.UA.UT a1.2.UA.UU a1.2.Us.UD a1.2.Us.Uu a1.2.Us.Uq a1.2.Us.Ut a1.2.Us.Uj a1.2.Us.UC a1.2.Us.UE a1.2.UF a1.2.UO a1.2.UP a1.2.UQ a1.2.UH a1.2.UG a2.2.m_.Uj a2.2.m_.Ul a2.2.Ur a2.2.Uz a1.2.Un.Un a1.2.Un.UB a2.2.Uy.at_
def yi (N:Nat)(a1:Int->Int->Int->Int->Int->Int->Int->Int->Int->Int->Int->TX->Int->Int->Int->TZ->TX->TV->TV->TN->TN->(List TA)->(List (TH×Int))->TW->Option (Int ⊕ (TC×Int)))(a2:Int)(a6:Int)(a7:Int)(a8:Int)(b0:Int)(b1:Int)(b2:Int)(b3:Int)(b4:Int)(b5:Int)(b6:Int)(b7:TX)(b8:Int)(b9:Int)(c0:Int)(d0:TZ)(d1:TX)(d2:TV)(d3:TV)(d4:TN)(d6:TN)(e2:List TA)(e3:(List (TH×Int)))(e4:TW):Option (Int ⊕ (TC×Int)):=
 be (in64 (a2+1)) (a1 (a2+1) a6 a7 a8 b0 b1 b2 b3 b4 b5 b6 b7 b8 b9 c0 d0 d1 d2 d3 d4 d6 e2 e3 e4)
def pE (N:Nat):Nat->Int->Int->Int->Int->Int->Int->Int->Int->Int->Int->Int->TX->Int->Int->Int->TZ->TX->TV->TV->TN->TN->(List TA)->(List (TH×Int))->TW->Option (Int ⊕ (TC×Int))
 |0,_,_,_,_,_,_,_,_,_,_,_,_,_,_,_,_,_,_,_,_,_,_,_,_=>none
 |e6+1,a6,a7,a8,b0,b1,b2,b3,b4,b5,b6,b7,b8,b9,c0,d0,d1,d2,d3,d4,d6,e2,e3,e4,e5=>bif decide (a6<18) then ((ob N (⟨(⟨a7,a8,b0⟩:TL),(⟨b1,b2,b3,b4,b5,b6,b7⟩:Tx),(),(⟨(⟨d3,d4⟩:TM),d6,e2,(⟨e5⟩:Tw)⟩:TI),(⟨e3,e4⟩:Tt),b8,b9,c0,d0,d1,d2⟩:TC) a6).bind fun a1=>(dC N a1.2.Uk a1.1).bind fun a2=>yi N (pE N e6) a6 a1.2.UA.UV a1.2.UA.UT a1.2.UA.UU a1.2.Us.UD a1.2.Us.Uu a1.2.Us.Uq a1.2.Us.Ut a1.2.Us.Uj a1.2.Us.UC a1.2.Us.UE a1.2.UF a1.2.UO a1.2.UP a1.2.UQ a1.2.UH a1.2.UG a2.2.m_.Uj a2.2.m_.Ul a2.2.Ur a2.2.Uz a1.2.Un.Un a1.2.Un.UB a2.2.Uy.at_) else (yj N a7 a8 b0 b1 b2 b3 b4 b5 b6 b7 b8 b9 c0 d0 d1 d2 d3 d4 d6 e2 e3 e4 e5)
def jo (N:Nat)(a0:Tx):Option (Int ⊕ (TC×Int)):=
 (jD N a0).bind fun y2=>bif !y2 then (some (.inl 1)) else ((Dx N).bind fun y4=>(Bz N).bind fun a1=>pE N N 0 0 0 0 a0.UD a0.Uu a0.Uq a0.Ut a0.Uj a0.UC a0.UE [] 0 0 0 [] [] y4.m_.Uj y4.m_.Ul y4.Ur y4.Uz a1.Un a1.UB y4.Uy.at_)
theorem qY {N:Nat}{a0:Tx}{r:(Int ⊕ (TC×Int))}(h:jo N a0=some r):Okc Ua 7 [(ny a0)] ([]) (fun u post=>PG (fun (r:Int)=>u=.tuple #[.pointer none,iV r]/\post=[]) (fun (r:TC×Int)=> ∃B0 B1 A2 n2 c2 A3 n3 c3 A4 n4 c4 A5 n5 c5 B6 M7 B8 A9 n9 c9 WU A11 n11 c11 A12 n12 c12 A13 n13 c13,u=.tuple #[pV B0 0,iV r.2]/\post=[ab B0 79 (iD r.1 B1 B8 A11 n11 c11 A12 n12 c12 A13 n13 c13),ab B1 99 [U A2 n2 c2,U A3 n3 c3,U A4 n4 c4,U A5 n5 c5,pV B6 0],aZ A2 n2 c2 r.1.Uk.m_.Uj,aZ A3 n3 c3 r.1.Uk.m_.Ul,aC A4 n4 c4 r.1.Uk.Ur,aC A5 n5 c5 r.1.Uk.Uz,ab B6 147 [.map (some M7)],am bj bH M7 r.1.Uk.Uy.at_,ab B8 118 [U A9 n9 c9,.map (some WU)],gQ A9 n9 c9 r.1.Un.Un,am av dq WU r.1.Un.UB,cj A11 n11 c11 r.1.UF,ik A12 n12 c12 r.1.UH,cj A13 n13 c13 r.1.UG]) r):=by
 refine cA Tryz.func7 ?_;intro B1;refine sY ?_;obtain ⟨y2,k,h⟩:=aa h;refine kD (oR (CP k)) ?_;refine gH J h ?_ ?_<;>intro h
 ·exact eY
 refine ac ?_;refine dY [] ?_;refine ac ?_;obtain ⟨y4,k,h⟩:=aa h;refine zD 1 J (oC (GL k)) ?_;rintro _ _ ⟨_,⟨B5,A6,n6,c6,A7,n7,c7,A8,n8,c8,A9,n9,c9,B10,M11,rfl,rfl⟩,rfl⟩;refine aA (cS [7] 8) ?_;refine aH ?_;obtain ⟨WV,k,h⟩:=aa h;refine zD 2 J (oC (Fl k)) ?_;rintro _ _ ⟨_,⟨b0,A14,n14,c14,WW,rfl,rfl⟩,rfl⟩;refine aA (cS [10] 11) ?_;refine aH ?_;refine ac ?_;refine zD 4 J (tz J J) ?_;rintro _ _ ⟨b1,rfl,rfl⟩;refine aA (cS [11] 12) ?_;refine ac ?_;refine au (fun s L=> ∃p5 p6 p7 p21 p8 q0 q1 q2 q3 q4 q5 q6 q7 q8 q9 r0 r1 r2 r3 r4 r5 r6 s0 s1 s2 s3 s4 s5 s6 s7 s8 s9 t1 t2 u0 u1 u2 u3 u4 u5 u6 u7 u8 u9 v1 v2 v6 v7 v8,yj N p5 p6 p7 p21 p8 q0 q1 q2 q3 q4 q5 q6 q7 q8 q9 r0 r1 r2 r3 r4 r5 r6 s0=some r/\s=[(2,.pointer none),(3,iV 0),(4,pV b1 0)]/\L=[cj s1 s2 s3 q5,ik s4 s5 s6 q9,cj s7 s8 s9 r0,ab b1 79 [iV p5,iV p6,iV p7,iV p21,iV p8,iV q0,iV q1,iV q2,iV q3,iV q4,.nilIface,pV B5 0,pV b0 0,U s1 s2 s3,iV q6,iV q7,iV q8,U s4 s5 s6,U s7 s8 s9],aZ t1 t2 u0 r1,aZ u1 u2 u3 r2,aC u4 u5 u6 r3,aC u7 u8 u9 r4,ab B5 99 [U t1 t2 u0,U u1 u2 u3,U u4 u5 u6,U u7 u8 u9,pV B10 0],gQ v1 v2 v6 r5,am av dq v7 r6,ab b0 118 [U v1 v2 v6,.map (some v7)],am bj bH v8 s0,ab B10 147 [.map (some v8)]]) ?_ ?_
 ·refine ac ?_;refine aY (fun m s L=> ∃p4 w1 w2 w3 w4 w5 w6 w7 w8 w9 x0 x1 x2 x3 x4 x5 x6 x7 x8 x9 y0 y1 y3 y5 y6 y7 y8 y9 z1 z2 z6 B4 L0 L1 L2 L3 L4 L5 L6 L7 L8 L9 M0 M1 M2 M3 M4 M5 M6 Q1,pE N m p4 w1 w2 w3 w4 w5 w6 w7 w8 w9 x0 x1 x2 x3 x4 x5 x6 x7 x8 x9 y0 y1 y3 y5=some r/\s=[(2,.pointer none),(3,iV 0),(4,pV b1 0),(14,iV p4)]/\L=[cj y6 y7 y8 x1,ik y9 z1 z2 x5,cj z6 B4 L0 x6,ab b1 79 [iV w1,iV w2,iV w3,iV w4,iV w5,iV w6,iV w7,iV w8,iV w9,iV x0,.nilIface,pV B5 0,pV b0 0,U y6 y7 y8,iV x2,iV x3,iV x4,U y9 z1 z2,U z6 B4 L0],aZ L1 L2 L3 x7,aZ L4 L5 L6 x8,aC L7 L8 L9 x9,aC M0 M1 M2 y0,ab B5 99 [U L1 L2 L3,U L4 L5 L6,U L7 L8 L9,U M0 M1 M2,pV B10 0],gQ M3 M4 M5 y1,am av dq M6 y3,ab b0 118 [U M3 M4 M5,.map (some M6)],am bj bH Q1 y5,ab B10 147 [.map (some Q1)]]) N _ _ ⟨0,0,0,0,a0.UD,a0.Uu,a0.Uq,a0.Ut,a0.Uj,a0.UC,a0.UE,[],0,0,0,[],[],y4.m_.Uj,y4.m_.Ul,y4.Ur,y4.Uz,WV.Un,WV.UB,y4.Uy.at_,none,0,0,none,0,0,none,0,0,A6,n6,c6,A7,n7,c7,A8,n8,c8,A9,n9,c9,A14,n14,c14,WW,M11,h,J,J⟩ sA ((aU qu 9 _).trans ((aU mI 84 _).trans ((aU qu 9 _).trans (cS [2,1,0,3,8,9,10,11,7,5,6,4,13,12] 15)))) ?_
  rintro (_|WX) _ _ ⟨p4,w1,w2,w3,w4,w5,w6,w7,w8,w9,x0,x1,x2,x3,x4,x5,x6,x7,x8,x9,y0,y1,y3,y5,y6,y7,y8,y9,z1,z2,z6,B4,L0,L1,L2,L3,L4,L5,L6,L7,L8,L9,M0,M1,M2,M3,M4,M5,M6,Q1,h,rfl,rfl⟩
  ·exact ao h
  rw [pE.eq_2] at h;refine ac ?_;refine aG ?_;refine gH J h ?_ ?_<;>intro h
  ·refine ac ?_;refine au (fun s L=> ∃S0 S1 S2 S3 S4 S5 S6 S7 S8 S9 T1 T2 T3 T4 T5 T6 T7 T8 T9 U0 U1 U2 U3 U4 U5 U6 U7 U8 U9 V0 V1 V2 V4 V5 V6 V7 V8 V9 W0 W1 W2 W3 W4 W5 W7 W8 W9 X0 X1,yi N (pE N WX) p4 S0 S1 S2 S3 S4 S5 S6 S7 S8 S9 T1 T2 T3 T4 T5 T6 T7 T8 T9 U0 U1 U2 U3=some r/\s=[(2,.pointer none),(3,iV 0),(4,pV b1 0),(14,iV p4)]/\L=[cj U4 U5 U6 T1,ik U7 U8 U9 T5,cj V0 V1 V2 T6,ab b1 79 [iV S0,iV S1,iV S2,iV S3,iV S4,iV S5,iV S6,iV S7,iV S8,iV S9,.nilIface,pV B5 0,pV b0 0,U U4 U5 U6,iV T2,iV T3,iV T4,U U7 U8 U9,U V0 V1 V2],aZ V4 V5 V6 T7,aZ V7 V8 V9 T8,aC W0 W1 W2 T9,aC W3 W4 W5 U0,ab B5 99 [U V4 V5 V6,U V7 V8 V9,U W0 W1 W2,U W3 W4 W5,pV B10 0],gQ W7 W8 W9 U1,am av dq X0 U2,ab b0 118 [U W7 W8 W9,.map (some X0)],am bj bH X1 U3,ab B10 147 [.map (some X1)]]) ?_ ?_
   ·refine ac ?_;refine bV I ([]) (cS [] 14) ?_;refine zY [0,1,2,4,5] ?_;refine i4 3 6 I ?_ ?_
    ·refine bh J (yo (bp 3 J J wG J)) J J J ?_;rintro _ _ ⟨rfl,rfl⟩;refine aA (cS [] 14) ?_;obtain ⟨WY,b2,h⟩:=aa h;refine zD 6 J (oC (nm b2)) ?_;rintro _ _ ⟨_,⟨WZ,Xa,Xb,Xc,Xd,Xe,Xf,Xg,Xh,Xi,Xj,Xk,Xl,X2,X3,X4,X5,X6,X7,X8,X9,Y0,Y1,Y2,Y3,Y4,rfl,rfl⟩,rfl⟩;refine aA (cS [] 14) ?_;refine aH ?_;obtain ⟨Y5,a1,h⟩:=aa h;refine zD 7 J (oC (dm a1)) ?_;rintro _ _ ⟨_,⟨Y6,Y7,Y8,Y9,Z0,Z1,Z2,Z3,Z4,Z5,Z6,Z7,Z8,rfl,rfl⟩,rfl⟩;refine aA (cS [] 14) ?_;refine aH ?_;refine cT I ?_;exact jY
    obtain ⟨WY,b2,h⟩:=aa h;refine bh J (oC (nm b2)) J J J ?_;rintro _ _ ⟨_,⟨WZ,Xa,Xb,Xc,Xd,Xe,Xf,Xg,Xh,Xi,Xj,Xk,Xl,X2,X3,X4,X5,X6,X7,X8,X9,Y0,Y1,Y2,Y3,Y4,rfl,rfl⟩,rfl⟩;refine aA (cS [] 14) ?_;refine aH ?_;refine zD 3 J (yo (bp 0 J J wG J)) ?_;rintro _ _ ⟨rfl,rfl⟩;refine aA (cS [] 14) ?_;obtain ⟨Y5,a1,h⟩:=aa h;refine zD 7 J (oC (dm a1)) ?_;rintro _ _ ⟨_,⟨Y6,Y7,Y8,Y9,Z0,Z1,Z2,Z3,Z4,Z5,Z6,Z7,Z8,rfl,rfl⟩,rfl⟩;refine aA (cS [] 14) ?_;refine aH ?_;refine cT I ?_;exact jY
   rintro _ _ ⟨S0,S1,S2,S3,S4,S5,S6,S7,S8,S9,T1,T2,T3,T4,T5,T6,T7,T8,T9,U0,U1,U2,U3,U4,U5,U6,U7,U8,U9,V0,V1,V2,V4,V5,V6,V7,V8,V9,W0,W1,W2,W3,W4,W5,W7,W8,W9,X0,X1,h,rfl,rfl⟩;refine ac ?_;obtain ⟨Xm,h⟩:=ah h;exact lY
  exact jY
 rintro _ _ ⟨p5,p6,p7,p21,p8,q0,q1,q2,q3,q4,q5,q6,q7,q8,q9,r0,r1,r2,r3,r4,r5,r6,s0,s1,s2,s3,s4,s5,s6,s7,s8,s9,t1,t2,u0,u1,u2,u3,u4,u5,u6,u7,u8,u9,v1,v2,v6,v7,v8,h,rfl,rfl⟩;refine au (fun s L=> ∃b3 b4 b5 b6 b7 b8 b9 c0 d0 d1 d2 d3 d4 d6 e2 e3 e4 e5 e6 e7 e8 e9 f1 f2 f3 f4 g0 g1 g2 g3 g4 g5 g6 g7 g8 g9 h0 h1 h2 h3 h4 h5 h6 h7 h8 h9 i0 i1 i2,ww N b3 b4 b5 b6 b7 b8 b9 c0 d0 d1 d2 d3 d4 d6 e2 e3 e4 e5 e6 e7 e8 e9 f1=some r/\s=[(2,.pointer none),(3,iV 0),(4,pV b1 0)]/\L=[cj f2 f3 f4 d2,ik g0 g1 g2 e2,cj g3 g4 g5 e3,ab b1 79 [iV b3,iV b4,iV b5,iV b6,iV b7,iV b8,iV b9,iV c0,iV d0,iV d1,.nilIface,pV B5 0,pV b0 0,U f2 f3 f4,iV d3,iV d4,iV d6,U g0 g1 g2,U g3 g4 g5],aZ g6 g7 g8 e4,aZ g9 h0 h1 e5,aC h2 h3 h4 e6,aC h5 h6 h7 e7,ab B5 99 [U g6 g7 g8,U g9 h0 h1,U h2 h3 h4,U h5 h6 h7,pV B10 0],gQ h8 h9 i0 e8,am av dq i1 e9,ab b0 118 [U h8 h9 i0,.map (some i1)],am bj bH i2 f1,ab B10 147 [.map (some i2)]]) ?_ ?_
 ·refine bV I ([]) (cS [] 14) ?_;refine zY [0,1,2,4] ?_;refine zE 5 J (bM J (bld_42_0 _).out) ?_;refine i4 3 6 I ?_ ?_
  ·refine bh J (yo (bp 3 J J wG J)) J J J ?_;rintro _ _ ⟨rfl,rfl⟩;refine aA (cS [] 14) ?_;obtain ⟨Z9,a2,h⟩:=aa h;refine mD (ip ap _) (cS [] 15) ?_;refine mD (ip ap _) (cS [] 16) ?_;refine zD 6 J (oC (fj a2)) ?_;rintro _ _ ⟨_,⟨Vm,Vn,Vo,Vp,Vq,Vr,Vs,Vt,Vu,Vv,Vw,Vx,Vy,Vz,VA,VB,VC,VD,VE,VF,VG,VH,VI,VJ,VK,VL,rfl,rfl⟩,rfl⟩;refine aA (cS [] 16) ?_;refine aH ?_;obtain ⟨VM,a6,h⟩:=aa h;refine zD 7 J (oC (dm a6)) ?_;rintro _ _ ⟨_,⟨VN,VO,VP,VQ,VR,VS,VT,VU,VV,VW,VX,VY,VZ,rfl,rfl⟩,rfl⟩;refine aA (cS [] 16) ?_;refine aH ?_;refine cT I ?_;exact jY
  obtain ⟨Z9,a2,h⟩:=aa h;refine sO (ip ap _) (cS [] 15) ?_;refine sO (ip ap _) (cS [] 16) ?_;refine bh J (oC (fj a2)) J J J ?_;rintro _ _ ⟨_,⟨Vm,Vn,Vo,Vp,Vq,Vr,Vs,Vt,Vu,Vv,Vw,Vx,Vy,Vz,VA,VB,VC,VD,VE,VF,VG,VH,VI,VJ,VK,VL,rfl,rfl⟩,rfl⟩;refine aA (cS [] 16) ?_;refine aH ?_;refine zD 3 J (yo (bp 0 J J wG J)) ?_;rintro _ _ ⟨rfl,rfl⟩;refine aA (cS [] 16) ?_;obtain ⟨VM,a6,h⟩:=aa h;refine zD 7 J (oC (dm a6)) ?_;rintro _ _ ⟨_,⟨VN,VO,VP,VQ,VR,VS,VT,VU,VV,VW,VX,VY,VZ,rfl,rfl⟩,rfl⟩;refine aA (cS [] 16) ?_;refine aH ?_;refine cT I ?_;exact jY
 rintro _ _ ⟨b3,b4,b5,b6,b7,b8,b9,c0,d0,d1,d2,d3,d4,d6,e2,e3,e4,e5,e6,e7,e8,e9,f1,f2,f3,f4,g0,g1,g2,g3,g4,g5,g6,g7,g8,g9,h0,h1,h2,h3,h4,h5,h6,h7,h8,h9,i0,i1,i2,h,rfl,rfl⟩;refine au (fun s L=> ∃i8 j0 j1 j2 j3 j4 j5 j6 j7 j8 j9 k0 k1 k2 k3 k4 k5 k6 k7 k8 k9 l0 l1 l2 l3 l4 l5 l6 l7 l8 l9 m0 m1 m2 m3 m4 m5 m6 m7 m8 m9 n0 o0 o1 o2 p0 p1 p2 p3,wv N i8 j0 j1 j2 j3 j4 j5 j6 j7 j8 j9 k0 k1 k2 k3 k4 k5 k6 k7 k8 k9 l0 l1=some r/\s=[(2,.pointer none),(3,iV 0),(4,pV b1 0)]/\L=[cj l2 l3 l4 j9,ik l5 l6 l7 k3,cj l8 l9 m0 k4,ab b1 79 [iV i8,iV j0,iV j1,iV j2,iV j3,iV j4,iV j5,iV j6,iV j7,iV j8,.nilIface,pV B5 0,pV b0 0,U l2 l3 l4,iV k0,iV k1,iV k2,U l5 l6 l7,U l8 l9 m0],aZ m1 m2 m3 k5,aZ m4 m5 m6 k6,aC m7 m8 m9 k7,aC n0 o0 o1 k8,ab B5 99 [U m1 m2 m3,U m4 m5 m6,U m7 m8 m9,U n0 o0 o1,pV B10 0],gQ o2 p0 p1 k9,am av dq p2 l0,ab b0 118 [U o2 p0 p1,.map (some p2)],am bj bH p3 l1,ab B10 147 [.map (some p3)]]) ?_ ?_
 ·refine bV I ([]) (cS [] 14) ?_;refine zY [0,1,2,4] ?_;refine zE 5 J (bM J (bld_42_0 _).out) ?_;refine i4 3 6 I ?_ ?_
  ·refine bh J (yo (bp 3 J J wG J)) J J J ?_;rintro _ _ ⟨rfl,rfl⟩;refine aA (cS [] 14) ?_;obtain ⟨Wa,a7,h⟩:=aa h;refine mD (ip ap _) (cS [] 15) ?_;refine mD (ip ap _) (cS [] 16) ?_;refine zD 6 J (oC (fj a7)) ?_;rintro _ _ ⟨_,⟨Wb,Wc,Wd,We,Wf,Wg,Wh,Wi,Wj,Wk,Wl,Wm,Wn,Wo,Ws,Wt,Wu,Wv,Ww,Wx,Wy,Wz,WB,WC,WD,WE,rfl,rfl⟩,rfl⟩;refine aA (cS [] 16) ?_;refine aH ?_;obtain ⟨WF,a8,h⟩:=aa h;refine zD 7 J (oC (dm a8)) ?_;rintro _ _ ⟨_,⟨WG,WI,WJ,WK,WL,WM,WN,WO,WP,WQ,WR,WS,WT,rfl,rfl⟩,rfl⟩;refine aA (cS [] 16) ?_;refine aH ?_;refine cT I ?_;exact jY
  obtain ⟨Wa,a7,h⟩:=aa h;refine sO (ip ap _) (cS [] 15) ?_;refine sO (ip ap _) (cS [] 16) ?_;refine bh J (oC (fj a7)) J J J ?_;rintro _ _ ⟨_,⟨Wb,Wc,Wd,We,Wf,Wg,Wh,Wi,Wj,Wk,Wl,Wm,Wn,Wo,Ws,Wt,Wu,Wv,Ww,Wx,Wy,Wz,WB,WC,WD,WE,rfl,rfl⟩,rfl⟩;refine aA (cS [] 16) ?_;refine aH ?_;refine zD 3 J (yo (bp 0 J J wG J)) ?_;rintro _ _ ⟨rfl,rfl⟩;refine aA (cS [] 16) ?_;obtain ⟨WF,a8,h⟩:=aa h;refine zD 7 J (oC (dm a8)) ?_;rintro _ _ ⟨_,⟨WG,WI,WJ,WK,WL,WM,WN,WO,WP,WQ,WR,WS,WT,rfl,rfl⟩,rfl⟩;refine aA (cS [] 16) ?_;refine aH ?_;refine cT I ?_;exact jY
 rintro _ _ ⟨i8,j0,j1,j2,j3,j4,j5,j6,j7,j8,j9,k0,k1,k2,k3,k4,k5,k6,k7,k8,k9,l0,l1,l2,l3,l4,l5,l6,l7,l8,l9,m0,m1,m2,m3,m4,m5,m6,m7,m8,m9,n0,o0,o1,o2,p0,p1,p2,p3,h,rfl,rfl⟩;exact eY
def fD (N:Nat)(a0:Int)(a1:TC):Option Bool:=
 (bif decide (0<a0) then (be (a0≠0) (some (decide (a1.UA.UV.tmod a0=0)))) else (some false)).bind fun a2=>some a2
theorem oA {N:Nat}{a0:Int}{a1:TC}{r:Bool}(h:fD N a0 a1=some r):Okc Ua 43 [iV a0,pV B1 0] ([ar B1 24 [pV B2 0],ar B2 79 (iD a1 B3 B10 A13 n13 c13 A14 n14 c14 A15 n15 c15),ar B3 99 [U A4 n4 c4,U A5 n5 c5,U A6 n6 c6,U A7 n7 c7,pV B8 0],bf A4 n4 c4 a1.Uk.m_.Uj,bf A5 n5 c5 a1.Uk.m_.Ul,bc A6 n6 c6 a1.Uk.Ur,bc A7 n7 c7 a1.Uk.Uz,ar B8 147 [.map (some M9)],dk bj bH M9 a1.Uk.Uy.at_,ar B10 118 [U A11 n11 c11,.map (some M12)],om A11 n11 c11 a1.Un.Un,dk av dq M12 a1.Un.UB,gz A13 n13 c13 a1.UF,fX A14 n14 c14 a1.UH,gz A15 n15 c15 a1.UG]) (fun u post=>u=.bool r/\post=[]):=by
 refine cA Tryz.func43 ?_;obtain ⟨a7,a2,h⟩:=aa h;refine aR 9 15 a7 ?_ ?_
 ·clear h;refine aP 6 J (fun a6=> ?_) (fun a6=> ?_)
  ·have h:=aE a6 a2;refine ac ?_;obtain ⟨a8,h⟩:=ah h;refine qk (si J J a8) J (cB a6 J) J ?_;exact gY
  have h:=aF a6 a2;exact gY
 exact eY
theorem nn {r:Bool}: ∀v post,((fun (u:Value) (post:List Chunk)=>u=.bool r/\post=[])) v post-> ∀c∈post,jP c:=by
 rintro _ _ ⟨rfl,rfl⟩;exact aD
def mR (N:Nat)(a0:Ty):Option Bool:=
 (bif decide (a0.Ui=7) then (some true) else (some (decide (a0.Ui=9)))).bind fun b2=>some b2
theorem tK {N:Nat}{a0:Ty}{r:Bool}(h:mR N a0=some r):Okc Ua 181 [(gA a0)] ([]) (fun u post=>u=.bool r/\post=[]):=by
 refine cA Tryz.func181 ?_;intro B1;refine ac ?_;refine gS 4 10 6 h ?_;intro b2 h;exact eY
def eZ (N:Nat)(a1:Bool)(x8:Bool×Ty):(TO)->Option (Option Exit×TO)
 |p9=>(bif x8.1==a1 then ((mR N x8.2).bind fun a2=>some a2) else (some false)).bind fun a6=>bif a6 then (be (bJ (p9.length+([x8.2.N]:List Int).length)) (some (none,p9++([x8.2.N]:List Int)))) else (some (none,p9))
def kz (N:Nat)(a0:TB)(a1:Bool):Option TO:=
 (sw N a0).bind fun y6=>(nz N a0 (cY (fun x st=>eZ N a1 x st)) (none,[])).bind fun a2=>qP a2.1 (some a2.2) none (fun _=>none)
theorem tj {N:Nat}{a0:TB}{a1:Bool}{r:TO}(h:kz N a0 a1=some r):Okc Ua 143 [.agg #[iV a0.Ui,iV a0.Uw,iV a0.Uv,iV a0.Ux,U A1 n1 c1,U A2 n2 c2],.bool a1] ([bc A1 n1 c1 a0.Uo,bc A2 n2 c2 a0.Um]) (fun u post=> ∃A0 n0 c0,u=U A0 n0 c0/\post=[eA A0 n0 c0 r]):=by
 refine cA Tryz.func143 ?_;intro B3
 refine jg fun B4=> ?_
 intro B5;refine sY ?_;obtain ⟨y6,k,h⟩:=aa h;refine gD (oR (BQ k)) ?_;rintro _ _ ⟨_,⟨B7,rfl,rfl⟩,rfl⟩;refine ac ?_;refine ie ?_ bu (iF 0 J);obtain ⟨a7,k,h⟩:=aa h;refine ux (en:=(fun x=> [.bool x.1,.agg #[iV x.2.Ui,iV x.2.N,.string x.2.S]])) (fun x st=>eZ N a1 x st) (fun (st:TO) (mz:((Option Addr×Nat×Nat)))=> [ab B4 4 [.bool a1],eK (dg .i64) 3 (.slice mz.1 mz.2.1 mz.2.2) st,ab B5 39 [.slice mz.1 mz.2.1 mz.2.2]]) [ar B7 42 [iV a0.Ui,iV a0.Uw,iV a0.Uv,iV a0.Ux,U A1 n1 c1,U A2 n2 c2],bc A1 n1 c1 a0.Uo,bc A2 n2 c2 a0.Um] ([]) ((none,0,0)) J J call156.out J (fun _=>J) (fun l G hY=>(xd k hY).mono fun _ _ hh=>hh.2) ((aU (dg .i64) 3 _).trans (cL [1,5,6] [] [3,0,2] 7 J)) h ?_ ?_ ?_ ?_
 ·rintro l x8 p9 je sr8 ⟨A9,n9,c9⟩ h;replace h:eZ N a1 x8 p9=some (je,sr8):=h;simp only [An,List.zip_cons_cons,List.zip_nil_left,List.zip_nil_right,List.reverse_cons,List.reverse_nil,Ug,List.cons_append]
  refine jg fun b4=> ?_
  refine fC (LW J J Tg) ?_;obtain ⟨a8,a2,h⟩:=aa h;refine aR 3 18 a8 ?_ ?_
  ·clear h;refine aP 15 J (fun a6=> ?_) (fun a6=> ?_)
   ·have h:=aE a6 a2;refine ac ?_;obtain ⟨b5,k,h⟩:=aa h;refine gU (oR (tK k)) (cB a6 J) ?_;exact gY
   have h:=aF a6 a2;exact gY
  refine fw h ?_ ?_<;>intro h
  ·refine ac ?_;refine gD (az (R:=(dg .i64)) (vss:=[[iV x8.2.N]]) (xs:=[x8.2.N]) J (ll _) J J (fun _ _ hr=> .cons J All2.nil)) ?_;rintro _ _ ⟨A16,n16,c16,rfl,rfl⟩;obtain ⟨b0,h⟩:=ah h
   refine nk (ay 3 0 J J aB J J t5 F5 J J b0) fun b1 b2 b3=> ?_
   obtain ⟨rfl,rfl⟩:=Prod.mk.inj (Option.some.inj h);exact Cf ((cS [2,3,4] 5).trans (gr (b1,b2,b3) J))
  refine ac ?_;obtain ⟨rfl,rfl⟩:=Prod.mk.inj (Option.some.inj h);exact Cf ((cS [1,2,3] 4).trans (gr (A9,n9,c9) J))
 ·rintro ⟨A9,n9,c9⟩ h;refine pQ ([ab B4 4 [.bool a1],eA A9 n9 c9 a7.2,ab B5 39 [U A9 n9 c9]]) J ?_;exact eY
 ·rintro ⟨A9,n9,c9⟩ h;exact ao h
 rintro i ⟨A9,n9,c9⟩ h;exact ao h
def f0 (N:Nat)(a0:TB):Option TO:=
 (kz N a0 true).bind fun y4=>some y4
theorem jI {N:Nat}{a0:TB}{r:TO}(h:f0 N a0=some r):Okc Ua 97 [.agg #[iV a0.Ui,iV a0.Uw,iV a0.Uv,iV a0.Ux,U A1 n1 c1,U A2 n2 c2]] ([bc A1 n1 c1 a0.Uo,bc A2 n2 c2 a0.Um]) (fun u post=> ∃A0 n0 c0,u=U A0 n0 c0/\post=[eA A0 n0 c0 r]):=by
 refine cA Tryz.func97 ?_;intro B3;refine ac ?_;obtain ⟨y4,k,h⟩:=aa h
 refine nk (oR (tj k)) fun A5 n5 c5=> ?_
 exact eN
def jH (N:Nat)(a0:TB):Option TO:=
 (kz N a0 false).bind fun y4=>some y4
theorem oZ {N:Nat}{a0:TB}{r:TO}(h:jH N a0=some r):Okc Ua 98 [.agg #[iV a0.Ui,iV a0.Uw,iV a0.Uv,iV a0.Ux,U A1 n1 c1,U A2 n2 c2]] ([bc A1 n1 c1 a0.Uo,bc A2 n2 c2 a0.Um]) (fun u post=> ∃A0 n0 c0,u=U A0 n0 c0/\post=[eA A0 n0 c0 r]):=by
 refine cA Tryz.func98 ?_;intro B3;refine ac ?_;obtain ⟨y4,k,h⟩:=aa h
 refine nk (oR (tj k)) fun A5 n5 c5=> ?_
 exact eN
def oB (N:Nat)(a1:Int)(p6:TV)(p7:Int):Option (TV×Int×Bool):=
 (bif decide (0<a1) then (some (decide (p7<(p6.length:Int)))) else (some false)).bind fun a2=>some (p6,p7,a2)
def np (N:Nat)(a0:TM)(a1:Int):Option (TV×Int×Bool):=
 be (in64 (a1.tdiv 2)) (bif decide (a1.tmod 2=0) then (be (in64 (a1.tdiv 2)) (be (in64 ((a1.tdiv 2) - 1)) (oB N a1 a0.Ul ((a1.tdiv 2) - 1)))) else (oB N a1 a0.Uj (a1.tdiv 2)))
theorem wx {N:Nat}{a0:TM}{a1:Int}{r:TV×Int×Bool}(h:np N a0 a1=some r):Okc Ua 166 [.agg #[U A1 n1 c1,U A2 n2 c2],iV a1] ([bf A1 n1 c1 a0.Uj,bf A2 n2 c2 a0.Ul]) (fun u post=> ∃A0 n0 c0,u=.tuple #[U A0 n0 c0,iV r.2.1,.bool r.2.2]/\post=[bf A0 n0 c0 r.1]):=by
 refine cA Tryz.func166 ?_;intro B3;refine ac ?_;obtain ⟨q4,h⟩:=ah h;refine fC (yY J J (by decide) q4.1 q4.2) ?_;refine au (fun s L=> ∃p6 p7 A6 n6 c6,oB N a1 p6 p7=some r/\s=[(1,iV a1),(4,U none 0 0),(5,iV 0),(6,.bool false),(7,U A6 n6 c6),(8,iV p7)]/\L=[bf A6 n6 c6 p6]) ?_ ?_
 ·refine ac ?_;refine fC (si J J (by decide)) ?_;refine gH J h ?_ ?_<;>intro h
  ·refine ac ?_;obtain ⟨q9,h⟩:=ah h;refine gE (yY J J (by decide) q9.1 q9.2) ?_;obtain ⟨a2,h⟩:=ah h;exact jY
  exact jY
 rintro _ _ ⟨p6,p7,A6,n6,c6,h,rfl,rfl⟩;refine ac ?_;refine gS 5 30 25 h ?_;intro a6 h;exact eY
def jq (N:Nat)(a0:TM)(a1:Int):Option Bool:=
 (np N a0 a1).bind fun y4=>some y4.2.2
theorem kO {N:Nat}{a0:TM}{a1:Int}{r:Bool}(h:jq N a0 a1=some r):Okc Ua 140 [.agg #[U A1 n1 c1,U A2 n2 c2],iV a1] ([bf A1 n1 c1 a0.Uj,bf A2 n2 c2 a0.Ul]) (fun u post=>u=.bool r/\post=[]):=by
 refine cA Tryz.func140 ?_;intro B3;refine ac ?_;obtain ⟨y4,k,h⟩:=aa h
 refine nk (oC (wx k)) fun A5 n5 c5=> ?_
 exact eN
def iC (N:Nat)(a0:Int)(a1:TM):Option Bool:=
 (jq N a1 a0).bind fun y4=>some (!y4)
theorem zP {N:Nat}{a0:Int}{a1:TM}{r:Bool}(h:iC N a0 a1=some r):Okc Ua 163 [iV a0,pV B1 0] ([ar B1 96 [U A2 n2 c2,U A3 n3 c3],bf A2 n2 c2 a1.Uj,bf A3 n3 c3 a1.Ul]) (fun u post=>u=.bool r/\post=[]):=by
 refine cA Tryz.func163 ?_;obtain ⟨y4,k,h⟩:=aa h;refine kD (oR (kO k)) ?_;exact eN
def qF (N:Nat)(ff:Int->Option Bool):Option Int:=
 some (-1)
def dG (N:Nat)(ff:Int->Option Bool)(a0:TO):Nat->Int->Option Int
 |0,_=>none
 |m3+1,p4=>bif decide (p4<(a0.length:Int)) then ((aw a0 p4).bind fun x6=>(ff x6).bind fun y7=>bif y7 then (some p4) else (be (in64 (p4+1)) ((dG N ff a0 m3) (p4+1)))) else (qF N ff)
def kE (N:Nat)(a0:TO)(ff:Int->Option Bool):Option Int:=
 dG N ff a0 N 0
theorem xR {N:Nat}{a0:TO}{ff:Int->Option Bool}{r:Int}(h:kE N a0 ff=some r){vf:Value}{G:List Chunk}(hf:Ik Ua vf G (fun x=> [iV x]) (fun r=> .bool r) ff):Okc Ua 141 [U A1 n1 c1,vf] (db A1 n1 c1 a0::G) (fun u post=>u=iV r/\post=[]):=by
 refine cA Tryz.func141 ?_;refine au (fun s L=>qF N ff=some r/\s=[(4,iV 0)]/\L=G) ?_ ?_
 ·refine ac ?_;refine aY (fun m s L=> ∃p4,dG N ff a0 m p4=some r/\s=[(0,U A1 n1 c1),(1,vf),(4,iV 0),(7,iV (a0.length:Int)),(8,iV p4)]/\L=db A1 n1 c1 a0::G) N _ _ ⟨0,h,J,J⟩ sA (cS [0] 1) ?_;rintro (_|m3) _ _ ⟨p4,h,rfl,rfl⟩
  ·exact ao h
  rw [dG.eq_2] at h;refine ac ?_;refine aG ?_;refine gH J h ?_ ?_<;>intro h
  ·refine sY ?_;obtain ⟨x6,a1,a2,a6,h⟩:=bz h;refine ac ?_;obtain ⟨y7,k,h⟩:=aa h;refine gD (Da (a:=x6) [db A1 n1 c1 a0] hf k J J) ?_;rintro _ _ ⟨rfl,rfl⟩;refine fw h ?_ ?_<;>intro h
   ·exact eY
   refine ac ?_;obtain ⟨q9,h⟩:=ah h;exact lY
  exact jY
 rintro _ _ ⟨h,rfl,rfl⟩;exact eY
theorem vJ {r:Int}: ∀v post,((fun (u:Value) (post:List Chunk)=>u=iV r/\post=[])) v post-> ∀c∈post,jP c:=by
 rintro _ _ ⟨rfl,rfl⟩;exact aD
def bF (N:Nat)(a0:TO)(ff:Int->Option Bool):Option Bool:=
 (kE N a0 ff).bind fun y2=>some (decide (0<=y2))
theorem dz {N:Nat}{a0:TO}{ff:Int->Option Bool}{r:Bool}(h:bF N a0 ff=some r){vf:Value}{G:List Chunk}(hf:Ik Ua vf G (fun x=> [iV x]) (fun r=> .bool r) ff):Okc Ua 95 [U A1 n1 c1,vf] (db A1 n1 c1 a0::G) (fun u post=>u=.bool r/\post=[]):=by
 refine cA Tryz.func95 ?_;obtain ⟨y2,k,h⟩:=aa h;refine kD (cp (xR k hf) call141.out J (hP (cG (i:=0) J J) (Bc (E:=[db A1 n1 c1 a0]) hf.1)) vJ) ?_;exact eN
end
end Go.Proofs.YtjmonlcchlkdhaaGreat