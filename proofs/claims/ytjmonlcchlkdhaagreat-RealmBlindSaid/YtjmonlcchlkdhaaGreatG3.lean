/- Merged texts: part 3. No conditions of their own. -/
import Derived.Test.YtjmonlcchlkdhaaGreatG2
import Derived.Test.YtjmonlcchlkdhaaGreatChecked
import Derived.ProofKit
set_option maxHeartbeats 4000000
namespace Go.Proofs.YtjmonlcchlkdhaaGreat
section
theorem Rb:type_of% Tryz.underlying4:=Tryz.underlying4
theorem Ra:type_of% Tryz.underlying24:=Tryz.underlying24
theorem Q9:type_of% Tryz.underlying9:=Tryz.underlying9
theorem Q8:type_of% Tryz.underlying97:=Tryz.underlying97
theorem Q7:type_of% Tryz.underlying134:=Tryz.underlying134
theorem EM:type_of% Tryz.underlying115:=Tryz.underlying115
theorem Ex:type_of% Tryz.underlying94:=Tryz.underlying94
theorem z9:type_of% Tryz.underlying65:=Tryz.underlying65
theorem z5:type_of% Tryz.underlying60:=Tryz.underlying60
theorem t9:type_of% Tryz.underlying58:=Tryz.underlying58
theorem t5:type_of% Tryz.underlying50:=Tryz.underlying50
theorem t0:type_of% Tryz.underlying39:=Tryz.underlying39
theorem hU:type_of% Tryz.underlying30:=Tryz.underlying30
variable {A1 A10 A11 A12 A13 A14 A15 A16 A2 A3 A4 A5 A6 A7 A8 A9:Option Addr} {B1 B10 B2 B3 B6 B7 B8 B9 M11 M12 M7 M8 M9 c1 c10 c11 c12 c13 c14 c15 c16 c2 c3 c4 c5 c6 c7 c8 c9 n1 n10 n11 n12 n13 n14 n15 n16 n2 n3 n4 n5 n6 n7 n8 n9:Nat}
open Go.RowKit
class FcI (P:Program) (t:Nat) (v:outParam Value):Prop where
  out: ∀w,(zeroValue t).run P w=.ok v w
class FcB (P:Program) (t:Nat) (vs:List (Nat×Value)) (v:outParam Value):Prop where
  out: ∀w,(Instr.build t vs.toArray).run P w=.ok v w
class RepF {α:Type} (R:Rep α) (f:outParam (α->List Value)):Prop where
  out: ∀S w vs x,R.rel S w vs x->vs=f x
theorem xx {α:Type}{l:List α}(h:l=[]):l=[]:=h
theorem tK {α:Type}{l t T:List α}{a:α}(h:l=a::t)(k:t=T):l=a::T:=k▸h
inductive FndR (b:Nat) (cs:List Value):List Chunk->Prop
  |w {bt L}:FndR b cs (ac b bt cs::L)
  |r {bt L}:FndR b cs (ar b bt cs::L)
  |s {c L} (h:FndR b cs L):FndR b cs (c::L)
theorem FndR.ix {b:Nat}{cs:List Value}{L:List Chunk}(h:FndR b cs L): ∃(i:Nat) (bt:TypeId),L[i]? =some (ac b bt cs)\/L[i]? =some (ar b bt cs):=by
  induction h with
  |w=>exact ⟨0,_,.inl rfl⟩
  |r=>exact ⟨0,_,.inr rfl⟩
  |s _ ih=>obtain ⟨i,bt,h⟩:=ih;exact ⟨i+1,bt,h⟩
inductive FndW (b:Nat) (bt:TypeId) (cs cs':List Value):List Chunk->List Chunk->Prop
  |w {L}:FndW b bt cs cs' (ac b bt cs::L) (ac b bt cs'::L)
  |s {c L L'} (h:FndW b bt cs cs' L L'):FndW b bt cs cs' (c::L) (c::L')
theorem FndW.ix {b bt:Nat}{cs cs':List Value}{L L':List Chunk}(h:FndW b bt cs cs' L L'): ∃i:Nat,L[i]? =some (ac b bt cs)/\L'=L.set i (ac b bt cs'):=by
  induction h with
  |w=>exact ⟨0,rfl,rfl⟩
  |s _ ih=>obtain ⟨i,h,e⟩:=ih;exact ⟨i+1,h,by rw [e];rfl⟩
inductive FndE {α:Type} (R:Rep α) (v:Value) (xs:List α):List Chunk->Prop
  |w {c L} (h:DW R v xs c):FndE R v xs (c::L)
  |s {c L} (h:FndE R v xs L):FndE R v xs (c::L)
theorem FndE.ix {α:Type}{R:Rep α}{v:Value}{xs:List α}{L:List Chunk}(h:FndE R v xs L): ∃(i:Nat) (c:Chunk),L[i]? =some c/\DW R v xs c:=by
  induction h with
  |w h=>exact ⟨0,_,rfl,h⟩
  |s _ ih=>obtain ⟨i,c,h⟩:=ih;exact ⟨i+1,c,h⟩
structure RdS (P:Program) (s:bC) (L:List Chunk) (o:Oper) (v:Value):Prop where
  out:Rd P s L o v
theorem Pt {s:bC}:II s []=some []:=rfl
theorem Pu {s:bC}{i:Nat}{x:Operand}{v:Value}{r:List (Nat×Operand)}{l:List (Nat×Value)}(h:bx s x=some v)(k:II s r=some l):II s ((i,x)::r)=some ((i,v)::l):=by unfold II;rw [h,k]
section
variable {X:Cx} {ops:Array Oper} {K:K3} {s:bC} {L L':List Chunk} {rest:List Oper} {d:Nat} {ty:TypeId} {pos:String} {af:Array Edge} {gd:Option (Nat×Bool)} {v:Value}
theorem Qd {P:Program}{op:Op}(h:OR s op=some v):RdS P s L ⟨some d,op,ty,pos,af,gd⟩ v:=⟨fun _ _ _=>fun ρ hρ w _=>Km h ρ hρ w trivial⟩
theorem P7 {P:Program}{c x y:Operand}{g:Bool}(hc:bx s c=some (.bool g))(hg:g=true)(hx:bx s x=some v):RdS P s L ⟨some d,.pick c x y,ty,pos,af,gd⟩ v:=⟨fun _ _ _=>rm hg hc hx⟩
theorem P6 {P:Program}{c x y:Operand}{g:Bool}(hc:bx s c=some (.bool g))(hg:g=false)(hy:bx s y=some v):RdS P s L ⟨some d,.pick c x y,ty,pos,af,gd⟩ v:=⟨fun _ _ _=>rn hg hc hy⟩
theorem O2 {P:Program}{t f:Nat}{x:Operand}{b o:Nat}[h:FcA0 P t f](hx:bx s x=some (.pointer (some ⟨b,o,none⟩))):RdS P s L ⟨some d,.fieldAddr t x f,ty,pos,af,gd⟩ (.pointer (some ⟨b,o,none⟩)):=⟨fun _ _ _=>ml hx h.out⟩
theorem Qc {P:Program}{t f o':Nat}{x:Operand}{b o:Nat}[h:FcA P t f o'](hx:bx s x=some (.pointer (some ⟨b,o,none⟩))):RdS P s L ⟨some d,.fieldAddr t x f,ty,pos,af,gd⟩ (.pointer (some ⟨b,o+o',none⟩)):=⟨fun _ _ _=>gk hx h.out⟩
theorem Qf {P:Program}{t:TypeId}{x:Operand}{b o:Nat}{cs:List Value}[hu:Fc (fU P t=true)](hx:bx s x=some (.pointer (some ⟨b,o,none⟩)))(hi:FndR b cs L)(hc:cs[o]? =some v):RdS P s L ⟨some d,.load t x,ty,pos,af,gd⟩ v:=⟨by
  obtain ⟨i,bt,h|h⟩:=hi.ix
  ·exact bL i h hx hu.out hc
  ·exact qO i h hx hu.out hc⟩
theorem P5 {P:Program}{t:TypeId}{n:Nat}{x:Operand}{b o:Nat}{cs us:List Value}[hu:FcG P t n](hx:bx s x=some (.pointer (some ⟨b,o,none⟩)))(hi:FndR b cs L)(hc:(cs.drop o).take n=us)(hn:us.length=n):RdS P s L ⟨some d,.load t x,ty,pos,af,gd⟩ (.agg us.toArray):=⟨by
  obtain ⟨i,bt,h|h⟩:=hi.ix
  ·exact mM (us:=us) i h hx (hn▸hu.out) (hn▸hc)
  ·exact Jf (us:=us) i h hx (hn▸hu.out) (hn▸hc)⟩
theorem Qe {P:Program}{t:TypeId}{ps:List (Nat×Operand)}{vs:List (Nat×Value)}(hp:II s ps=some vs)(hb:FcB P t vs v):RdS P s L ⟨some d,.build t ps.toArray,ty,pos,af,gd⟩ v:=⟨fun _ _ _=>iX hp hb.out⟩
theorem P9 {P:Program}{α:Type}{R:Rep α}{t e sz:Nat}{x y:Operand}{xs:List α}{i:Int}[hu:FcS P t e][hz:FcZ P e sz](hx:bx s x=some v)(hy:bx s y=some (.int .i64 i))(he:FndE R v xs L)(h0:0<=i)(h1:i<xs.length):RdS P s L ⟨some d,.indexAddr t x y,ty,pos,af,gd⟩ (d5 v i.toNat sz 0):=⟨by
  obtain ⟨j,c,h,e⟩:=he.ix
  exact gn j h e hx hy hu.out hz.out h0 h1⟩
theorem Qb {P:Program}{α:Type}{R:Rep α}{f:α->List Value}{t n sz:Nat}{x:Operand}{us:List Value}{xs:List α}{k off:Nat}{y:α}[hu:FcG P t n](hx:bx s x=some (d5 v k sz off))(he:FndE R v xs L)(hf:RepF R f)(hy:xs[k]? =some y)(hz:R.sz=sz)(hc:((f y).drop off).take n=us)(hn:us.length=n):RdS P s L ⟨some d,.load t x,ty,pos,af,gd⟩ (.agg us.toArray):=⟨by
  obtain ⟨j,c,h,e⟩:=he.ix;subst hz
  exact pm (us:=us) j h e hx hy (hn▸hu.out) fun S w vs hr=>by rw [hf.out _ _ _ _ hr,hn];exact hc⟩
theorem Qa {P:Program}{α:Type}{R:Rep α}{f:α->List Value}{t sz:Nat}{x:Operand}{xs:List α}{k off:Nat}{y:α}{u:Value}[hu:Fc (fU P t=true)](hx:bx s x=some (d5 v k sz off))(he:FndE R v xs L)(hf:RepF R f)(hy:xs[k]? =some y)(hz:R.sz=sz)(hc:(f y)[off]? =some u):RdS P s L ⟨some d,.load t x,ty,pos,af,gd⟩ u:=⟨by
  obtain ⟨j,c,h,e⟩:=he.ix;subst hz
  exact iO (u:=u) j h e hx hy hu.out fun S w vs hr=>by rw [hf.out _ _ _ _ hr];exact hc⟩
theorem tR {op:Op}(h:RdS X.P s L ⟨some d,op,ty,pos,af,gd⟩ v)(hn:gq ⟨some d,op,ty,pos,af,gd⟩=true)(hd:Nat.ble (d+1) X.n=true)(k:bO X ops rest K ((d,v)::s) L):RunT X ops ⟨some d,op,ty,pos,af,gd⟩ rest K s L:=⟨fun hh=>tg h.out hn hh hd k⟩
theorem Qu {M:List Chunk}{fuel:Nat}{listed:Array Bool}(h:py X ops K M fuel listed s L):py X ops K M fuel listed s L:=h
theorem tN {M:List Chunk}{listed:Array Bool}(hr:Region.ready .any ops listed=[])(h:K .normal s L):py X ops K M 0 listed s L:=ju hr h
theorem tZ {M:List Chunk}{fuel:Nat}{listed:Array Bool}{op:Op}(i:Nat)(hI:ops.size - (fuel+1)=i)(hi:ops[i]? =some ⟨some d,op,ty,pos,af,gd⟩)(h:RdS X.P s M ⟨some d,op,ty,pos,af,gd⟩ v)(hk:Lf ops listed i=true)(hg:be ops s ⟨some d,op,ty,pos,af,gd⟩=some true)(hd:Nat.ble (d+1) X.n=true)(k:py X ops K M fuel (listed.setIfInBounds i true) ((d,v)::s) L):py X ops K M (fuel+1) listed s L:=zR i hi h.out k hk hg hd
theorem tW {t bt:TypeId}{n:Nat}{x y:Operand}{b o:Nat}{cs cs' us:List Value}[hs:FcZ X.P t n](hx:bx s x=some (.pointer (some ⟨b,o,none⟩)))(hy:bx s y=some v)(hv:v.cells.toList=us)(hf:FndW b bt cs cs' L L')(hc':cs.take o++us++cs.drop (o+us.length)=cs')(hn:us.length=n)(h1:us.all (·.oneCell')=true)(hc:Nat.ble (o+us.length) cs.length=true)(k:bO X ops rest K s L'):RunT X ops ⟨none,.store t x y,ty,pos,af,gd⟩ rest K s L:=⟨fun hh=>by
  obtain ⟨i,h,e⟩:=hf.ix
  exact gW (ax (us:=us) (cs':=cs') i h hx hy hv (hn▸hs.out) h1 hc hc') (e▸k) J hh⟩
theorem tA {t:TypeId}{cs:List Value}[hz:FcI X.P t v](hc:v.cells.toList=cs)(hd:Nat.ble (d+1) X.n=true)(k: ∀b,bO X ops rest K ((d,pV b 0)::s) (ac b t cs::L)):RunT X ops ⟨some d,.alloc t,ty,pos,af,gd⟩ rest K s L:=⟨fun hh=>gB (cP hz.out hc) k rfl hh hd⟩
theorem tX {t:TypeId}{x:Operand}{cs:List Value}(hx:bx s x=some v)(hc:v.cells.toList=cs)(hd:Nat.ble (d+1) X.n=true)(k: ∀b,bO X ops rest K ((d,pV b 0)::s) (ac b t cs::L)):RunT X ops ⟨some d,.box t x,ty,pos,af,gd⟩ rest K s L:=⟨fun hh=>gB (BI hx hc) k rfl hh hd⟩
end
end
section
variable {A1 A10 A11 A12 A13 A14 A15 A16 A2 A3 A4 A5 A6 A7 A8 A9:Option Addr} {B1 B10 B2 B3 B6 B7 B8 B9 M11 M12 M7 M8 M9 c1 c10 c11 c12 c13 c14 c15 c16 c2 c3 c4 c5 c6 c7 c8 c9 n1 n10 n11 n12 n13 n14 n15 n16 n2 n3 n4 n5 n6 n7 n8 n9:Nat}
open Go.RowKit
inductive FndL:Chunk->List Chunk->Prop
  |sl {α:Type} {R:Rep α} {v xs L}:FndL (qq R v xs) (qq R v xs::L)
  |so {α:Type} {R:Rep α} {e v xs L}:FndL (qq R v xs) (eu R e v xs::L)
  |bb {b t cs L}:FndL (ar b t cs) (ac b t cs::L)
  |br {b:Nat} {t:TypeId} {cs L}:FndL (ar b t cs) (ar b t cs::L)
  |mm {α β:Type} {ek:α->Value} {ev:β->Value} {m kv L}:FndL (eS ek ev m kv) (aj ek ev m kv::L)
  |mr {α β:Type} {ek:α->Value} {ev:β->Value} {m kv L}:FndL (eS ek ev m kv) (eS ek ev m kv::L)
  |s {c d L} (h:FndL c L):FndL c (d::L)
theorem FndL.lent' {c:Chunk}{L:List Chunk}(h:FndL c L): ∃(i:Nat) (d:Chunk),L[i]? =some d/\ ∀(L':List Chunk) (j:Nat),L'[j]? =some d->xG L' c:=by
  induction h with
  |sl=>exact ⟨0,_,rfl,fun _ _ h=>dX h rfl⟩
  |so=>exact ⟨0,_,rfl,fun _ _ h=>ai h⟩
  |bb=>exact ⟨0,_,rfl,fun _ _ h=>aC h⟩
  |br=>exact ⟨0,_,rfl,fun _ _ h=>dX h rfl⟩
  |mm=>exact ⟨0,_,rfl,fun _ _ h=>bW h⟩
  |mr=>exact ⟨0,_,rfl,fun _ _ h=>dX h rfl⟩
  |s _ ih=>obtain ⟨i,d,h1,h2⟩:=ih;exact ⟨i+1,d,h1,h2⟩
theorem FndL.lent {c:Chunk}{L:List Chunk}(h:FndL c L):xG L c:=by
  obtain ⟨i,d,h1,h2⟩:=h.lent';exact h2 L i h1
def DU (L pre:List Chunk):Prop:= ∀c∈pre,xG L c
theorem Qr {L:List Chunk}:DU L []:=ay
theorem Qs {L pre:List Chunk}{c:Chunk}(h:FndL c L)(k:DU L pre):DU L (c::pre):=hJ h.lent k
theorem Ph {L' L pre:List Chunk}(h:L'=L)(k:DU L pre):DU L' pre:=h▸k
theorem QC {α:Type}{p:α->Prop}{Q:Prop}(k: ∀a,p a->Q):(∃a,p a)->Q:=fun ⟨a,h⟩=>k a h
theorem QE {a b Q:Prop}(k:b->Q):a/\b->Q:=fun h=>k h.2
theorem Qz {post C:List Chunk}(k: ∀c∈C,jJ c):post=C-> ∀c∈post,jJ c:=fun h=>h▸k
theorem QB: ∀c∈([]:List Chunk),jJ c:=ay
theorem QA {α:Type}{sz:Nat}{en:α->List Value}{h1: ∀x,(en x).length=sz}{h2: ∀x,(en x).all (·.oneCell')=true}{e:TypeId}{v:Value}{xs:List α}{l:List Chunk}(k: ∀c∈l,jJ c): ∀c∈(eu (Rep.flat sz en h1 h2) e v xs::l),jJ c:=hJ pt k
theorem QD {b:Nat}{t:TypeId}{cs:List Value}{l:List Chunk}(k: ∀c∈l,jJ c): ∀c∈(ac b t cs::l),jJ c:=hJ Cg k
inductive FndC (c:Chunk):List Chunk->List Chunk->Prop
  |w {L}:FndC c (c::L) L
  |s {d L M} (h:FndC c L M):FndC c (d::L) (d::M)
theorem Mq {c d:Chunk}{L:List Chunk}:Cv (c::d::L) (d::c::L):=Cr [1,0] 2 rfl rfl
theorem FndC.cv {c:Chunk}{L M:List Chunk}(h:FndC c L M):Cv L (c::M):=by
  induction h with
  |w=>exact ae _
  |s _ ih=>exact (sd _ ih).trans Mq
inductive FndD (c:Chunk):List Chunk->Prop
  |w {L}:FndD c (c::L)
  |s {d L} (h:FndD c L):FndD c (d::L)
theorem FndD.cv {c:Chunk}{L:List Chunk}(h:FndD c L)(hc:c.ro=true):Cv L (c::L):=by
  obtain ⟨i,hi⟩: ∃i:Nat,L[i]? =some c:=by
    induction h with
    |w=>exact ⟨0,rfl⟩
    |s _ ih=>obtain ⟨i,h⟩:=ih;exact ⟨i+1,h⟩
  exact EF i hi hc
def Tk (L pre rest:List Chunk):Prop:=Cv L (pre++rest)
theorem Qk {L:List Chunk}:Tk L [] L:=ae _
theorem Ql {c:Chunk}{L M pre rest:List Chunk}(h:FndC c L M)(k:Tk M pre rest):Tk L (c::pre) rest:=h.cv.trans (sd c k)
theorem PN {c:Chunk}{L pre rest:List Chunk}(h:FndD c L)(hc:c.ro=true)(k:Tk L pre rest):Tk L (c::pre) rest:=(h.cv hc).trans (sd c k)
theorem Qj {α:Type}{R:Rep α}{v:Value}{xs:List α}{L pre rest:List Chunk}(h:FndD (qq R v xs) L)(k:Tk L pre rest):Tk L (qq R v xs::pre) rest:=PN h rfl k
theorem Qm {b:Nat}{t:TypeId}{cs:List Value}{L pre rest:List Chunk}(h:FndD (ar b t cs) L)(k:Tk L pre rest):Tk L (ar b t cs::pre) rest:=PN h rfl k
theorem O9 {L' L pre rest:List Chunk}(h:L'=L)(k:Tk L pre rest):Tk L' pre rest:=h▸k
class FcK (P:Program) (f:FuncId):Prop where
  out:ie P f
section
variable {P:Program} {s:bC} {L:List Chunk} {d:Option Nat} {ty:TypeId} {pos:String} {af:Array Edge} {gd:Option (Nat×Bool)}
theorem oR {f:FuncId}{xs:List Operand}{ats:Array TypeId}{vs:List Value}{pre:List Chunk}{R:Value->List Chunk->Prop}(hc:Okc P f vs pre R)[hf:FcK P f](hv:CW s xs=some vs:=by exact rfl)
    (hp:DU L pre:=by
      apply Ph (by repeat (first|exact rp rfl|apply nZ rfl|exact rfl))
      repeat (first|exact Qr|apply Qs (by with_reducible repeat (first|apply FndL.bb|apply FndL.br|apply FndL.sl|apply FndL.so|apply FndL.mm|apply FndL.mr|apply FndL.s))|apply leZ))
    (hr: ∀v post,R v post-> ∀c∈post,jJ c:=by
      intro v post
      repeat (first|(refine QC ?_;intro _)|refine QE ?_)
      refine Qz ?_
      repeat (first|exact QB|refine QD ?_|refine frM ?_|refine QA ?_)):OpX P s L ⟨d,.call ⟨.value (.func f),xs.toArray,ats⟩,ty,pos,af,gd⟩ fun u L'=> ∃post,R u post/\L'=post++L:=bV hc hf.out hv hp hr
theorem oC {f:FuncId}{xs:List Operand}{ats:Array TypeId}{vs:List Value}{pre rest:List Chunk}{R:Value->List Chunk->Prop}(hc:Okc P f vs pre R)[hf:FcK P f](hv:CW s xs=some vs:=by exact rfl)
    (hp:Tk L pre rest:=by
      apply O9 (by repeat (first|exact rp rfl|apply nZ rfl|exact rfl))
      repeat (first|exact Qk|apply Qj (by with_reducible repeat (first|apply FndD.w|apply FndD.s))|apply Qm (by with_reducible repeat (first|apply FndD.w|apply FndD.s))|apply tkM (by with_reducible repeat (first|apply FndD.w|apply FndD.s))|apply Ql (by with_reducible repeat (first|apply FndC.w|apply FndC.s)))):OpX P s L ⟨d,.call ⟨.value (.func f),xs.toArray,ats⟩,ty,pos,af,gd⟩ fun u L'=> ∃post,R u post/\L'=post++rest:=qi hc hf.out hv hp
end
inductive FndX (b:Nat) (bt:TypeId) (cs:List Value):List Chunk->Prop
  |w {L}:FndX b bt cs (ac b bt cs::L)
  |s {c L} (h:FndX b bt cs L):FndX b bt cs (c::L)
theorem FndX.ix {b bt:Nat}{cs:List Value}{L:List Chunk}(h:FndX b bt cs L): ∃i:Nat,L[i]? =some (ac b bt cs):=by
  induction h with
  |w=>exact ⟨0,rfl⟩
  |s _ ih=>obtain ⟨i,h⟩:=ih;exact ⟨i+1,h⟩
theorem aN {P:Program}{L:List Chunk}{s:bC}:All2 (sN P L s) [] []:=.nil
theorem aT {P:Program}{L:List Chunk}{s:bC}{t:Nat}{v:Value}{rs:List ResultVar}{vs:List Value}(h:jf s t=some v)(k:All2 (sN P L s) rs vs):All2 (sN P L s) (.tmp t::rs) (v::vs):=.cons (oB h) k
theorem aS {P:Program}{L:List Chunk}{s:bC}{t ty n bt b:Nat}{cs us:List Value}{rs:List ResultVar}{vs:List Value}(hu:FcG P ty n)(hl:jf s t=some (.pointer (some ⟨b,0,none⟩)))(hi:FndX b bt cs L)(hc:cs=us)(hn:us.length=n)(k:All2 (sN P L s) rs vs):All2 (sN P L s) (.cell t ty::rs) (.agg us.toArray::vs):=by
  obtain ⟨i,hi⟩:=hi.ix;subst hc;exact .cons (ij i hi hl (hn▸hu.out)) k
theorem aO {P:Program}{L:List Chunk}{s:bC}{t ty bt b:Nat}{v:Value}{rs:List ResultVar}{vs:List Value}(hu:Fc (fU P ty=true))(hl:jf s t=some (.pointer (some ⟨b,0,none⟩)))(hi:FndX b bt [v] L)(k:All2 (sN P L s) rs vs):All2 (sN P L s) (.cell t ty::rs) (v::vs):=by
  obtain ⟨i,hi⟩:=hi.ix;exact .cons (D9 i hi hl hu.out) k
theorem Ms {L' L T:List Chunk}(h:L'=L)(k:Cv L T):Cv L' T:=h▸k
theorem OW {c:Chunk}{L T:List Chunk}(k:Cv L T):Cv (c::L) T:=(cv_tl).trans k
theorem OU {L:List Chunk}:Cv L []:=fun Z w h=>by
  have:=(Cr (L:=L) [] L.length (by simp [CT]) (by simp)) Z w h;simpa [Az] using this
theorem OV {c:Chunk}{L M L2:List Chunk}(h:FndC c L M)(k:Cv M L2):Cv L (c::L2):=h.cv.trans (sd c k)
theorem OT {α:Type}{R:Rep α}{v:Value}{xs:List α}{L L2:List Chunk}(h:FndD (qq R v xs) L)(k:Cv L L2):Cv L (qq R v xs::L2):=(h.cv rfl).trans (sd _ k)
theorem Pv {X:Cx}{fn:Func}{R:Value->List Chunk->Prop}{s:bC}{L L2:List Chunk}{rs:List ResultVar}{vs:List Value}{v:Value}(hr:fn.results=rs.toArray)(h1:All2 (sN X.P L s) rs vs)(hv:O5 vs=v)(hR:R v L2)(hc:Cv L L2):IX X fn R .ret s L:=ox hr h1 hv hc hR
theorem eN {p:Prop}(hh:p:=by
    obtain rfl:=cB h
    first|apply Pv rfl|apply endN rfl
    repeat (first|exact aN|apply aT rfl|apply aS (by infer_instance) rfl (by with_reducible repeat (first|apply FndX.w|apply FndX.s)) (by repeat (first|exact xx rfl|apply tK rfl)) (by exact rfl)|apply aO (by infer_instance) rfl (by with_reducible repeat (first|apply FndX.w|apply FndX.s)))
    exact J
    repeat (apply Exists.intro)
    exact ⟨J,J⟩
    all_goals (try apply Ms (by repeat (first|exact rp rfl|apply nZ rfl|exact rfl)))
    all_goals (repeat (first|exact OU|apply OT (by with_reducible repeat (first|apply FndD.w|apply FndD.s))|apply OV (by with_reducible repeat (first|apply FndC.w|apply FndC.s))|apply cwF (by with_reducible repeat (first|apply FndC.w|apply FndC.s))|apply cwZ|apply cwY|exact ae _|apply OW))):p:=hh
theorem Qt {Fam:bC->List Chunk->Prop}{s s2:bC}{L L2:List Chunk}(h:Fam s2 L2)(hs:yV s s2)(hc:Cv L L2): ∃s2 L2,Fam s2 L2/\yV s s2/\Cv L L2:=⟨s2,L2,h,hs,hc⟩
theorem jN {p:Prop}(hh:p:=by
    apply Qt
    repeat (apply Exists.intro)
    exact ⟨h,J,J⟩
    all_goals (try exact sA)
    all_goals (try apply Ms (by repeat (first|exact rp rfl|apply nZ rfl|exact rfl)))
    all_goals (repeat (first|exact OU|apply OT (by with_reducible repeat (first|apply FndD.w|apply FndD.s))|apply OV (by with_reducible repeat (first|apply FndC.w|apply FndC.s))|apply cwF (by with_reducible repeat (first|apply FndC.w|apply FndC.s))|apply cwZ|apply cwY|exact ae _|apply OW))):p:=hh
theorem Qq {Fam:Nat->bC->List Chunk->Prop}{m:Nat}{s s2:bC}{L L2:List Chunk}(h:Fam m s2 L2)(hs:yV s s2)(hc:Cv L L2): ∃m' s3 L3,m'<m+1/\Fam m' s3 L3/\yV s s3/\Cv L L3:=⟨m,s2,L2,RO _,h,hs,hc⟩
theorem lN {p:Prop}(hh:p:=by
    apply Qq
    repeat (apply Exists.intro)
    exact ⟨h,J,J⟩
    all_goals (try exact sA)
    all_goals (try apply Ms (by repeat (first|exact rp rfl|apply nZ rfl|exact rfl)))
    all_goals (repeat (first|exact OU|apply OT (by with_reducible repeat (first|apply FndD.w|apply FndD.s))|apply OV (by with_reducible repeat (first|apply FndC.w|apply FndC.s))|apply cwF (by with_reducible repeat (first|apply FndC.w|apply FndC.s))|apply cwZ|apply cwY|exact ae _|apply OW))):p:=hh
instance repInt {k:IntKind}:RepF (eT k) (fun x=> [.int k x]):=⟨fun _ _ _ _ h=>h⟩
instance repStr:RepF Bt (fun x=> [.string x]):=⟨fun _ _ _ _ h=>h⟩
section
variable {P:Program} {s:bC} {L:List Chunk} {d:Nat} {ty:TypeId} {pos:String} {af:Array Edge} {gd:Option (Nat×Bool)} {v:Value}
theorem P8 {α:Type}{R:Rep α}{t e:TypeId}{x:Operand}{xs:List α}[hu:FcS P t e](hx:bx s x=some v)(he:FndE R v xs L):RdS P s L ⟨some d,.call ⟨.builtin .len, #[x], #[t]⟩,ty,pos,af,gd⟩ (.int .i64 (xs.length:Int)):=⟨by
  obtain ⟨j,c,h,e⟩:=he.ix
  exact lw j h e hx hu.out⟩
theorem O3 {t u:TypeId}{x y:Operand}{a b:Int}(hx:bx s x=some (.int .i64 a))(hy:bx s y=some (.int .i64 b))(h:in64 (a+b)):RdS P s L ⟨some d,.binOp .add t x y u,ty,pos,af,gd⟩ (.int .i64 (a+b)):=⟨fun _ _ _=>ia hx hy h.1 h.2⟩
theorem O1 {t u:TypeId}{x y:Operand}{a b:Int}(hx:bx s x=some (.int .i64 a))(hy:bx s y=some (.int .i64 b))(h:in64 (a - b)):RdS P s L ⟨some d,.binOp .sub t x y u,ty,pos,af,gd⟩ (.int .i64 (a - b)):=⟨fun _ _ _=>GM hx hy h.1 h.2⟩
theorem P4 {x:Operand}{i:Nat}{vs:Array Value}(hx:bx s x=some (.tuple vs))(hi:vs.toList[i]? =some v):RdS P s L ⟨some d,.extract x i,ty,pos,af,gd⟩ v:=⟨fun _ _ _=>Cn hx (by simpa using hi)⟩
theorem N4 {op:Op}(h:RdS P s L ⟨some d,op,ty,pos,af,gd⟩ v:=by
  first
    |exact P4 rfl rfl
    |exact Qd rfl
    |exact O2 rfl
    |exact Qc rfl
    |exact Qf rfl (by with_reducible repeat (first|apply FndR.w|apply FndR.r|apply FndR.s)) (by exact rfl)
    |exact P5 rfl (by with_reducible repeat (first|apply FndR.w|apply FndR.r|apply FndR.s)) (by repeat (first|exact xx rfl|apply tK rfl)) (by exact rfl)
    |exact Qe (by repeat (first|exact Pt|apply Pu rfl)) (by infer_instance)
    |exact P8 rfl (by with_reducible repeat (first|apply FndE.w bj|apply FndE.w aI|apply FndE.s))
    |exact P9 rfl rfl (by with_reducible repeat (first|apply FndE.w bj|apply FndE.w aI|apply FndE.s)) (by assumption) (by assumption)
    |exact Qb rfl (by with_reducible repeat (first|apply FndE.w bj|apply FndE.w aI|apply FndE.s)) (by infer_instance) (by assumption) (by exact rfl) (by repeat (first|exact xx rfl|apply tK rfl)) (by exact rfl)
    |exact Qa rfl (by with_reducible repeat (first|apply FndE.w bj|apply FndE.w aI|apply FndE.s)) (by infer_instance) (by assumption) (by exact rfl) (by exact rfl)
    |exact O3 rfl rfl (by assumption)
    |exact O1 rfl rfl (by assumption)
    |exact P7 rfl (by assumption) rfl
    |exact P6 rfl (by assumption) rfl):RdS P s L ⟨some d,op,ty,pos,af,gd⟩ v:=h
end
section
variable {X:Cx} {ops:Array Oper} {K:K3} {s:bC} {L:List Chunk} {l:List Oper} {d:Nat} {ty:TypeId} {pos:String} {af:Array Edge} {gd:Option (Nat×Bool)}
theorem Qx {A B:List Chunk}(h:bO X ops l K s (A++B)):bO X ops l K s (A++B):=h
theorem Qv {A:List Chunk}{c:Chunk}{i:Nat}(h:bO X ops l K s (A.set i c)):bO X ops l K s (A.set i c):=h
theorem Pj {A:List Chunk}{c:Chunk}{i:Nat}{y:Code}(h:Wq X y K s (A.set i c)):Wq X y K s (A.set i c):=h
theorem Qw {A B:List Chunk}{c:Code}(h:Wq X c K s (A++B)):Wq X c K s (A++B):=h
end
theorem ab {p q:Prop}(k:q)(h:Bxd q->p:=by
  intro k
  repeat (first
    | (with_reducible first|refine Qx ?_|refine Qv ?_
       refine xd ?_)
    | (with_reducible refine N0 ?_
       refine Po J ?_
       first
         | (refine O6 ?_
            first
              |refine tR N4 rfl rfl ?_
              |refine tW rfl rfl (by repeat (first|exact xx rfl|apply tK rfl)) (by with_reducible repeat (first|apply FndW.w|apply FndW.s)) (by repeat (first|exact xx rfl|apply tK rfl)) (by exact rfl) (by exact rfl) (by exact rfl) ?_
              |refine tA (by repeat (first|exact xx rfl|apply tK rfl)) rfl ?_
              |refine tX rfl (by repeat (first|exact xx rfl|apply tK rfl)) rfl ?_)
         |refine O7 ?_)
    | (with_reducible refine N0 ?_
       fail_if_success with_reducible refine Pm ?_
       refine Pk J ?_)
    | (with_reducible first|refine Qw ?_|refine Pj ?_
       refine N5 ?_)
    | (with_reducible refine Pi ?_
       first
         |refine aL (rH ?_)
         |with_reducible refine rH ?_
         |with_reducible refine G3 ?_
         | (fail_if_success with_reducible refine Pn ?_
            with_reducible refine uc ?_)
         |with_reducible refine KQ ?_
         |with_reducible refine G4 ?_)
    | (with_reducible refine Qu ?_
       first
         |refine tZ _ rfl rfl N4 I (by exact rfl) (by exact rfl) ?_
         |refine tU _ rfl rfl (by exact rfl) I (by exact rfl) ?_
         |refine tN I ?_)
    |with_reducible refine Ig ?_
    |with_reducible refine Mw ?_
    |with_reducible refine NJ ?_
    |with_reducible refine NI ?_
    |with_reducible refine Np ?_
    |with_reducible refine Nq ?_)
  exact k.un):p:=h ⟨k⟩
structure CvA (L L2:List Chunk):Prop where
  out:Cv L L2
theorem cX {L L2:List Chunk}(h:CvA L L2:=by
    refine CvA.mk ?_;apply Ms (by repeat (first|exact rp rfl|apply nZ rfl|exact rfl))
    repeat (first|exact OU|apply OT (by with_reducible repeat (first|apply FndD.w|apply FndD.s))|apply OV (by with_reducible repeat (first|apply FndC.w|apply FndC.s))|apply cwF (by with_reducible repeat (first|apply FndC.w|apply FndC.s))|apply cwZ|apply cwY|exact ae _|apply OW)):Cv L L2:=h.out
theorem gJ {X:Cx}{ops:Array Oper}{s s2:bC}{L L2:List Chunk}{pd:Nat}{a b:Bool}(h:some a=some b)(hs:yV s ((pd,.bool a)::s2):=by exact sA)(hl:Cv L L2:=by exact cX):bO X ops [] (Ap ((pd,.bool b)::s2) L2) s L:=by
  cases h;exact bp hs hl
theorem gS {ρ:Type}{X:Cx}{ops:Array Oper}{K:K3}{s:bC}{L:List Chunk}{l:List Oper}(k pd gc:Nat){c:Bool}{u v:Option Bool}{f:Bool->Option ρ}{r:ρ}(h:(bif c then u else v).bind f=some r)(k2: ∀b,f b=some r->bO X ops (l.drop k) K ((pd,.bool b)::s) L)
    (hc:bx s (.tmp gc)=some (.bool c):=by exact rfl)
    (h1: ∀b,c=true->u=some b->bO X ops (l.take k) (Ap ((pd,.bool b)::s) L) s L:=by
      intro b g h;refine ab ?_
      exact gJ h)
    (h2: ∀b,c=false->v=some b->bO X ops (l.take k) (Ap ((pd,.bool b)::s) L) s L:=by
      intro b g h;refine ab ?_
      exact gJ h):bO X ops l K s L:=by
  obtain ⟨b,hb,h⟩:=aa h;refine aH k pd b ?_ (k2 b h)
  cases hg:c with
  |true=>exact h1 b hg (az hg hb)
  |false=>exact h2 b hg (aA hg hb)
end
section
variable {A1 A10 A11 A12 A13 A14 A15 A16 A2 A3 A4 A5 A6 A7 A8 A9:Option Addr} {B1 B10 B2 B3 B6 B7 B8 B9 M11 M12 M7 M8 M9 c1 c10 c11 c12 c13 c14 c15 c16 c2 c3 c4 c5 c6 c7 c8 c9 n1 n10 n11 n12 n13 n14 n15 n16 n2 n3 n4 n5 n6 n7 n8 n9:Nat}
open Go.RowKit
def Qi:Chunk where
 ok _ _ _:=True
 loc:=fun _ h=>h
 mono:=fun _ h=>h
 ro:=true
 dup:=fun _ _ _ _ h=>h
section
variable {P:Program} {s:bC} {L:List Chunk} {d:Option Nat} {ty:TypeId} {pos:String} {af:Array Edge} {gd:Option (Nat×Bool)}
end
end
section
variable {A1 A10 A11 A12 A13 A14 A15 A16 A2 A3 A4 A5 A6 A7 A8 A9:Option Addr} {B1 B10 B2 B3 B6 B7 B8 B9 M11 M12 M7 M8 M9 c1 c10 c11 c12 c13 c14 c15 c16 c2 c3 c4 c5 c6 c7 c8 c9 n1 n10 n11 n12 n13 n14 n15 n16 n2 n3 n4 n5 n6 n7 n8 n9:Nat}
open Go.RowKit
theorem bG {α ρ:Type}{xs:List α}{i:Int}{f:α->Option ρ}{r:ρ}(h:(au xs i).bind f=some r): ∃x,0<=i/\i<xs.length/\xs[i.toNat]? =some x/\f x=some r:=by
  obtain ⟨x,hx,h⟩:=aa h;obtain ⟨l,u,hx⟩:=wr hx;exact ⟨x,l,u,hx,h⟩
theorem cG {P:Program}{fn:Func}{R:Value->List Chunk->Prop}{f:FuncId}{c:Code}{args:List Value}{L:List Chunk}{q:Prop}(hf:P.funcs[f]? =some fn)(k:q)(hb:fn.body=some c:=by exact rfl)(hn:Nat.ble args.length fn.ntmps=true:=by exact rfl)
    (h:Bxd q->Wq ⟨P,fn.ntmps,none⟩ c (IX ⟨P,fn.ntmps,none⟩ fn R) (sc args 0) L:=by
      intro k;simp only [sc];refine ab ?_
      exact k.un):Okc P f args L R:=Ed hf hb hn (h ⟨k⟩)
theorem eY {p:Prop}(hh:p:=by
    refine ab ?_
    exact eN):p:=hh
theorem jY {p:Prop}(hh:p:=by
    refine ab ?_
    exact jN):p:=hh
theorem lY {p:Prop}(hh:p:=by
    refine ab ?_
    exact lN):p:=hh
theorem gY {p:Prop}(hh:p:=by
    refine ab ?_
    exact gJ h):p:=hh
theorem iD {p:Prop}{q:Nat->Prop}(k: ∀b,q b)(h:(∀b,Bxd (q b))->p:=by
    intro k;refine ab ?_;intro b;refine ab ?_
    exact (k b).un):p:=h fun b=>⟨k b⟩
theorem sY {p q:Prop}(k:q)(h:Bxd q->p:=by
    intro k;refine ab ?_;refine aL ?_;refine ab ?_
    exact k.un):p:=h ⟨k⟩
theorem sZ {p q:Prop}(k:q)(h:Bxd q->p:=by
    intro k;refine aL ?_;refine ab ?_
    exact k.un):p:=h ⟨k⟩
section
variable {X:Cx} {K:K3} {s:bC} {L:List Chunk}
theorem fd {p:Prop}{ρ:Type}{c:Operand}{x y:Code}{b:Bool}{u v:Option ρ}{r:Option ρ}(h:(bif b then u else v)=r)(ht:u=r->Wq X x K s L)(hf:v=r->Wq X y K s L)(h0:Bxd (Wq X (.cond c x y) K s L)->p:=by
      intro k;refine ab ?_
      exact k.un) (hc:bx s c=some (.bool b):=by exact rfl):p:=h0 ⟨gH hc h ht hf⟩
variable {ops:Array Oper} {rest:List Oper} {d:Nat} {op:Op} {ty:TypeId} {pos:String} {af:Array Edge} {gd:Option (Nat×Bool)} {q:Prop}
theorem Dv {v:Value}(h:Rd X.P s L ⟨some d,op,ty,pos,af,gd⟩ v)(k:q)(hr:Bxd q->bO X ops rest K ((d,v)::s) L:=by
      intro k;refine ab ?_
      exact k.un) (hn:gq ⟨some d,op,ty,pos,af,gd⟩=true:=by rfl) (hg:be ops s ⟨some d,op,ty,pos,af,gd⟩=some true:=by rfl) (hd:Nat.ble (d+1) X.n=true:=by rfl):bO X ops (⟨some d,op,ty,pos,af,gd⟩::rest) K s L:=gR h (hr ⟨k⟩) hn hg hd
theorem fm {v:Value}(h:Ev X.P s (fun _=>True) ⟨some d,op,ty,pos,af,gd⟩ v)(k:q)(hr:Bxd q->bO X ops rest K ((d,v)::s) L:=by
      intro k;refine ab ?_
      exact k.un) (hn:gq ⟨some d,op,ty,pos,af,gd⟩=true:=by rfl) (hg:be ops s ⟨some d,op,ty,pos,af,gd⟩=some true:=by rfl) (hd:Nat.ble (d+1) X.n=true:=by rfl):bO X ops (⟨some d,op,ty,pos,af,gd⟩::rest) K s L:=gE h (hr ⟨k⟩) hn hg hd
theorem jQ {v:Value}{C Z:List Chunk}(h:OpX X.P s L ⟨some d,op,ty,pos,af,gd⟩ fun u L'=> ∃post,(u=v/\post=C)/\L'=post++Z)(k:q)(hr:Bxd q->bO X ops rest K ((d,v)::s) (C++Z):=by
      intro k;refine ab ?_
      exact k.un) (hn:gq ⟨some d,op,ty,pos,af,gd⟩=true:=by rfl) (hg:be ops s ⟨some d,op,ty,pos,af,gd⟩=some true:=by rfl) (hd:Nat.ble (d+1) X.n=true:=by rfl):bO X ops (⟨some d,op,ty,pos,af,gd⟩::rest) K s L:=gV h (hr ⟨k⟩) hn hg hd
theorem GJ {Z:List Chunk}(h:OpX X.P s L ⟨none,op,ty,pos,af,gd⟩ fun _ L'=>L'=Z)(k:q)(hr:Bxd q->bO X ops rest K s Z:=by
      intro k;refine ab ?_
      exact k.un) (hn:gq ⟨none,op,ty,pos,af,gd⟩=true:=by rfl) (hg:be ops s ⟨none,op,ty,pos,af,gd⟩=some true:=by rfl):bO X ops (⟨none,op,ty,pos,af,gd⟩::rest) K s L:=gW h (hr ⟨k⟩) hn hg
theorem Qy {R:Value->List Chunk->Prop}{q:Nat->Prop}(h:OpX X.P s L ⟨some d,op,ty,pos,af,gd⟩ R)(k: ∀(b:Nat),q b)(hr:(∀(b:Nat),Bxd (q b))-> ∀v L',R v L'->bO X ops rest K ((d,v)::s) L':=by
      intro k
      first|(rintro _ _ ⟨_,⟨b,rfl,rfl⟩,rfl⟩;refine ab ?_;exact (k b).un)|(rintro _ _ ⟨b,rfl,rfl⟩;refine ab ?_;exact (k b).un)) (hn:gq ⟨some d,op,ty,pos,af,gd⟩=true:=by rfl) (hg:be ops s ⟨some d,op,ty,pos,af,gd⟩=some true:=by rfl) (hd:Nat.ble (d+1) X.n=true:=by rfl):bO X ops (⟨some d,op,ty,pos,af,gd⟩::rest) K s L:=gD h (hr fun b=>⟨k b⟩) hn hg hd
theorem nr {R:Value->List Chunk->Prop}{q:Option Addr->Nat->Nat->Prop}(h:OpX X.P s L ⟨some d,op,ty,pos,af,gd⟩ R)(k: ∀(x0:Option Addr) (x1:Nat) (x2:Nat),q x0 x1 x2)(hr:(∀(x0:Option Addr) (x1:Nat) (x2:Nat),Bxd (q x0 x1 x2))-> ∀v L',R v L'->bO X ops rest K ((d,v)::s) L':=by
      intro k
      first|(rintro _ _ ⟨_,⟨x0,x1,x2,rfl,rfl⟩,rfl⟩;refine ab ?_;exact (k x0 x1 x2).un)|(rintro _ _ ⟨x0,x1,x2,rfl,rfl⟩;refine ab ?_;exact (k x0 x1 x2).un)) (hn:gq ⟨some d,op,ty,pos,af,gd⟩=true:=by rfl) (hg:be ops s ⟨some d,op,ty,pos,af,gd⟩=some true:=by rfl) (hd:Nat.ble (d+1) X.n=true:=by rfl):bO X ops (⟨some d,op,ty,pos,af,gd⟩::rest) K s L:=gD h (hr fun x0 x1 x2=>⟨k x0 x1 x2⟩) hn hg hd
theorem Ew {R:Value->List Chunk->Prop}{q:Option Addr->Nat->Nat->Option Addr->Nat->Nat->Prop}(h:OpX X.P s L ⟨some d,op,ty,pos,af,gd⟩ R)(k: ∀(x0:Option Addr) (x1:Nat) (x2:Nat) (x3:Option Addr) (x4:Nat) (x5:Nat),q x0 x1 x2 x3 x4 x5)(hr:(∀(x0:Option Addr) (x1:Nat) (x2:Nat) (x3:Option Addr) (x4:Nat) (x5:Nat),Bxd (q x0 x1 x2 x3 x4 x5))-> ∀v L',R v L'->bO X ops rest K ((d,v)::s) L':=by
      intro k
      first|(rintro _ _ ⟨_,⟨x0,x1,x2,x3,x4,x5,rfl,rfl⟩,rfl⟩;refine ab ?_;exact (k x0 x1 x2 x3 x4 x5).un)|(rintro _ _ ⟨x0,x1,x2,x3,x4,x5,rfl,rfl⟩;refine ab ?_;exact (k x0 x1 x2 x3 x4 x5).un)) (hn:gq ⟨some d,op,ty,pos,af,gd⟩=true:=by rfl) (hg:be ops s ⟨some d,op,ty,pos,af,gd⟩=some true:=by rfl) (hd:Nat.ble (d+1) X.n=true:=by rfl):bO X ops (⟨some d,op,ty,pos,af,gd⟩::rest) K s L:=gD h (hr fun x0 x1 x2 x3 x4 x5=>⟨k x0 x1 x2 x3 x4 x5⟩) hn hg hd
theorem OQ {R:Value->List Chunk->Prop}{q:Option Addr->Nat->Nat->Option Addr->Nat->Nat->Option Addr->Nat->Nat->Prop}(h:OpX X.P s L ⟨some d,op,ty,pos,af,gd⟩ R)(k: ∀(x0:Option Addr) (x1:Nat) (x2:Nat) (x3:Option Addr) (x4:Nat) (x5:Nat) (x6:Option Addr) (x7:Nat) (x8:Nat),q x0 x1 x2 x3 x4 x5 x6 x7 x8)(hr:(∀(x0:Option Addr) (x1:Nat) (x2:Nat) (x3:Option Addr) (x4:Nat) (x5:Nat) (x6:Option Addr) (x7:Nat) (x8:Nat),Bxd (q x0 x1 x2 x3 x4 x5 x6 x7 x8))-> ∀v L',R v L'->bO X ops rest K ((d,v)::s) L':=by
      intro k
      first|(rintro _ _ ⟨_,⟨x0,x1,x2,x3,x4,x5,x6,x7,x8,rfl,rfl⟩,rfl⟩;refine ab ?_;exact (k x0 x1 x2 x3 x4 x5 x6 x7 x8).un)|(rintro _ _ ⟨x0,x1,x2,x3,x4,x5,x6,x7,x8,rfl,rfl⟩;refine ab ?_;exact (k x0 x1 x2 x3 x4 x5 x6 x7 x8).un)) (hn:gq ⟨some d,op,ty,pos,af,gd⟩=true:=by rfl) (hg:be ops s ⟨some d,op,ty,pos,af,gd⟩=some true:=by rfl) (hd:Nat.ble (d+1) X.n=true:=by rfl):bO X ops (⟨some d,op,ty,pos,af,gd⟩::rest) K s L:=gD h (hr fun x0 x1 x2 x3 x4 x5 x6 x7 x8=>⟨k x0 x1 x2 x3 x4 x5 x6 x7 x8⟩) hn hg hd
theorem Oy {R:Value->List Chunk->Prop}{q:Option Addr->Nat->Nat->Option Addr->Nat->Nat->Option Addr->Nat->Nat->Option Addr->Nat->Nat->Prop}(h:OpX X.P s L ⟨some d,op,ty,pos,af,gd⟩ R)(k: ∀(x0:Option Addr) (x1:Nat) (x2:Nat) (x3:Option Addr) (x4:Nat) (x5:Nat) (x6:Option Addr) (x7:Nat) (x8:Nat) (x9:Option Addr) (a1:Nat) (a2:Nat),q x0 x1 x2 x3 x4 x5 x6 x7 x8 x9 a1 a2)(hr:(∀(x0:Option Addr) (x1:Nat) (x2:Nat) (x3:Option Addr) (x4:Nat) (x5:Nat) (x6:Option Addr) (x7:Nat) (x8:Nat) (x9:Option Addr) (a1:Nat) (a2:Nat),Bxd (q x0 x1 x2 x3 x4 x5 x6 x7 x8 x9 a1 a2))-> ∀v L',R v L'->bO X ops rest K ((d,v)::s) L':=by
      intro k
      first|(rintro _ _ ⟨_,⟨x0,x1,x2,x3,x4,x5,x6,x7,x8,x9,a1,a2,rfl,rfl⟩,rfl⟩;refine ab ?_;exact (k x0 x1 x2 x3 x4 x5 x6 x7 x8 x9 a1 a2).un)|(rintro _ _ ⟨x0,x1,x2,x3,x4,x5,x6,x7,x8,x9,a1,a2,rfl,rfl⟩;refine ab ?_;exact (k x0 x1 x2 x3 x4 x5 x6 x7 x8 x9 a1 a2).un)) (hn:gq ⟨some d,op,ty,pos,af,gd⟩=true:=by rfl) (hg:be ops s ⟨some d,op,ty,pos,af,gd⟩=some true:=by rfl) (hd:Nat.ble (d+1) X.n=true:=by rfl):bO X ops (⟨some d,op,ty,pos,af,gd⟩::rest) K s L:=gD h (hr fun x0 x1 x2 x3 x4 x5 x6 x7 x8 x9 a1 a2=>⟨k x0 x1 x2 x3 x4 x5 x6 x7 x8 x9 a1 a2⟩) hn hg hd
end
def Zl (_:List Nat)(p:Prop):Prop:=p
theorem OZ {p:Prop}(h:p):Zl [] p:=h
section
variable {X:Cx} {ops:Array Oper} {K:K3} {s:bC} {L M:List Chunk} {fuel:Nat} {listed:Array Bool} {d:Nat} {op:Op} {ty:TypeId} {pos:String} {af:Array Edge} {gd:Option (Nat×Bool)}
theorem OY (i:Nat){l:List Nat}{v:Value}(hi:ops[i]? =some ⟨some d,op,ty,pos,af,gd⟩)(h:RdS X.P s M ⟨some d,op,ty,pos,af,gd⟩ v)(hk:Lf ops listed i=true)(hg:be ops s ⟨some d,op,ty,pos,af,gd⟩=some true)(hd:Nat.ble (d+1) X.n=true)(k:Zl l (py X ops K M fuel (listed.setIfInBounds i true) ((d,v)::s) L)):Zl (i::l) (py X ops K M (fuel+1) listed s L):=zR i hi h.out k hk hg hd
end
theorem zY (l:List Nat){p q:Prop}(k:q)(h:Bxd q->Zl l p:=by
    intro k
    repeat (refine OY _ rfl N4 I (by exact rfl) (by exact rfl) ?_)
    refine OZ ?_
    exact k.un):p:=h ⟨k⟩
theorem P3 {l:List Nat}{p q:Prop}(f:q->p)(h:Zl l q):Zl l p:=f h
theorem zX (l:List Nat){p q:Prop}(k:q)(h:Bxd q->Zl l p:=by
    intro k
    repeat (refine OY _ rfl N4 I (by exact rfl) (by exact rfl) ?_)
    refine OZ ?_;refine ju I ?_
    exact k.un):p:=h ⟨k⟩
theorem dY (l:List Nat){p q:Prop}(k:q)(h:Bxd q->Zl l p:=by
    intro k;refine P3 (fun h=>aL (cZ I _ (ae _) h)) ?_
    repeat (refine OY _ rfl N4 I (by exact rfl) (by exact rfl) ?_)
    refine OZ ?_
    exact k.un):p:=h ⟨k⟩
def Zn (_:Nat)(p:Prop):Prop:=p
section
variable {X:Cx} {ops:Array Oper} {K:K3} {s:bC} {L M:List Chunk} {fuel:Nat} {listed:Array Bool} {d:Nat} {op:Op} {ty:TypeId} {pos:String} {af:Array Edge} {gd:Option (Nat×Bool)}
end
theorem bR {α:Sort _}{p:α->Prop}{q:Prop}(k: ∀a,p a->q):(∃a,p a)->q:=fun ⟨a,h⟩=>k a h
theorem PU {c:Prop}{s X:bC}{L Y:List Chunk}{q:bC->List Chunk->Prop}(k:c->q X Y):c/\s=X/\L=Y->q s L:=fun ⟨h,e1,e2⟩=>by subst e1 e2;exact k h
end
section
variable {A1 A10 A11 A12 A13 A14 A15 A16 A2 A3 A4 A5 A6 A7 A8 A9:Option Addr} {B1 B10 B2 B3 B6 B7 B8 B9 M11 M12 M7 M8 M9 c1 c10 c11 c12 c13 c14 c15 c16 c2 c3 c4 c5 c6 c7 c8 c9 n1 n10 n11 n12 n13 n14 n15 n16 n2 n3 n4 n5 n6 n7 n8 n9:Nat}
open Go.RowKit Asn
set_option maxRecDepth 20000
structure Rs where
 SI:Int
 SG:Int
 SA:Int
 SF:Int
 Se:Int
 SH:Int
 SJ:Int
 deriving DecidableEq,Inhabited
def Jh:Rep Rs:=.flat 7 (fun x=> [iV x.SI,iV x.SG,iV x.SA,iV x.SF,iV x.Se,iV x.SH,iV x.SJ]) (fun _=>rfl) (fun _=>rfl)
structure Rr where
 at_:RU
 deriving DecidableEq,Inhabited
structure Ry where
 Sa:Int
 N:Int
 S:ByteArray
 deriving DecidableEq,Inhabited
abbrev RJ:=List Ry
def aF:Rep Ry:=.flat 3 (fun x=> [iV x.Sa,iV x.N,.string x.S]) (fun _=>rfl) (fun _=>rfl)
structure Rk where
 Sa:Int
 Sk:Int
 Sj:Int
 Sn:Int
 Sg:RJ
 Sd:RJ
 deriving DecidableEq,Inhabited
abbrev RS:=List Rk
def eB:Rep Rk where
 sz:=6
 rel S w vs x:= ∃A4 n4 c4 A5 n5 c5,vs=[iV x.Sa,iV x.Sk,iV x.Sj,iV x.Sn,U A4 n4 c4,U A5 n5 c5]/\SlR aF S w (U A4 n4 c4) x.Sg/\SlR aF S w (U A5 n5 c5) x.Sd
 loc:=fun h ⟨_,_,_,_,_,_,e,h4,h5⟩=>⟨_,_,_,_,_,_,e,h4.loc h,h5.loc h⟩
 mono:=fun h ⟨_,_,_,_,_,_,e,h4,h5⟩=>⟨_,_,_,_,_,_,e,h4.mono h,h5.mono h⟩
 len:=fun ⟨_,_,_,_,_,_,e,_⟩=>by rw [e];rfl
 one:=fun ⟨_,_,_,_,_,_,e,_⟩=>by rw [e];rfl
theorem f0 (x:Rk):DT eB x fun vs cs=> ∃A4 n4 c4 A5 n5 c5,vs=[iV x.Sa,iV x.Sk,iV x.Sj,iV x.Sn,U A4 n4 c4,U A5 n5 c5]/\cs=[qq aF (U A4 n4 c4) x.Sg,qq aF (U A5 n5 c5) x.Sd]:=fun S w vs ⟨_,_,_,_,_,_,e,h4,h5⟩=>⟨_,⟨_,_,_,_,_,_,e,rfl⟩,hJ h4 (hJ h5 (ay))⟩
structure Rp where
 Se:RS
 Sc:RS
 deriving DecidableEq,Inhabited
def Ob:Rep Rp where
 sz:=2
 rel S w vs x:= ∃A0 n0 c0 A1 n1 c1,vs=[U A0 n0 c0,U A1 n1 c1]/\SlR eB S w (U A0 n0 c0) x.Se/\SlR eB S w (U A1 n1 c1) x.Sc
 loc:=fun h ⟨_,_,_,_,_,_,e,h0,h1⟩=>⟨_,_,_,_,_,_,e,h0.loc h,h1.loc h⟩
 mono:=fun h ⟨_,_,_,_,_,_,e,h0,h1⟩=>⟨_,_,_,_,_,_,e,h0.mono h,h1.mono h⟩
 len:=fun ⟨_,_,_,_,_,_,e,_⟩=>by rw [e];rfl
 one:=fun ⟨_,_,_,_,_,_,e,_⟩=>by rw [e];rfl
structure RG where
 m_:Rp
 Si:RJ
 Sq:RJ
 So:Rr
 deriving DecidableEq,Inhabited
structure Rq where
 Sa:Int
 N:Int
 S:ByteArray
 deriving DecidableEq,Inhabited
def Oc:Rep Rq:=.flat 3 (fun x=> [iV x.Sa,iV x.N,.string x.S]) (fun _=>rfl) (fun _=>rfl)
structure RI where
 Up:Int
 SK:Rq
 SP:Int
 SQ:Int
 deriving DecidableEq,Inhabited
def vY:Rep RI:=.flat 6 (fun x=> [iV x.Up,iV x.SK.Sa,iV x.SK.N,.string x.SK.S,iV x.SP,iV x.SQ]) (fun _=>rfl) (fun _=>rfl)
structure Rx where
 SS:Int
 SR:Rq
 ST:Int
 deriving DecidableEq,Inhabited
def Ng:Rep Rx:=.flat 5 (fun x=> [iV x.SS,iV x.SR.Sa,iV x.SR.N,.string x.SR.S,iV x.ST]) (fun _=>rfl) (fun _=>rfl)
structure Rl where
 Sf:(List RI)
 Ss:(List (Rx×Int))
 deriving DecidableEq,Inhabited
structure RD where
 SE:Int
 SC:Int
 SD:Int
 deriving DecidableEq,Inhabited
def K7:Rep RD:=.flat 3 (fun x=> [iV x.SE,iV x.SC,iV x.SD]) (fun _=>rfl) (fun _=>rfl)
structure RF where
 Sa:Int
 SK:Rq
 S:ByteArray
 deriving DecidableEq,Inhabited
def tz:Rep RF:=.flat 5 (fun x=> [iV x.Sa,iV x.SK.Sa,iV x.SK.N,.string x.SK.S,.string x.S]) (fun _=>rfl) (fun _=>rfl)
structure Rn where
 Sr:RD
 Sh:Rs
 Td:Unit
 Sb:RG
 Sf:Rl
 St:RV
 Sy:Int
 Sx:Int
 Sz:Int
 Sv:(List RF)
 Su:RV
 deriving DecidableEq,Inhabited
structure Ru where
 m_:Rp
 SB:RL
 Sw:(List (Int×Unit))
 SN:Int
 deriving DecidableEq,Inhabited
structure RC where
 m_:Rp
 SM:RL
 Sw:RL
 SL:RU
 Ss:Int
 deriving DecidableEq,Inhabited
structure RH where
 Sa:Int
 N:Int
 Value:Ry
 deriving DecidableEq,Inhabited
def Od:Rep RH:=.flat 5 (fun x=> [iV x.Sa,iV x.N,iV x.Value.Sa,iV x.Value.N,.string x.Value.S]) (fun _=>rfl) (fun _=>rfl)
structure Rz where
 Sa:Int
 N:Int
 M:Int
 S:ByteArray
 L:RL
 deriving DecidableEq,Inhabited
def H6:Rep Rz where
 sz:=5
 rel S w vs x:= ∃A4 n4 c4,vs=[iV x.Sa,iV x.N,iV x.M,.string x.S,U A4 n4 c4]/\SlR (eT .i64) S w (U A4 n4 c4) x.L
 loc:=fun h ⟨_,_,_,e,h4⟩=>⟨_,_,_,e,h4.loc h⟩
 mono:=fun h ⟨_,_,_,e,h4⟩=>⟨_,_,_,e,h4.mono h⟩
 len:=fun ⟨_,_,_,e,_⟩=>by rw [e];rfl
 one:=fun ⟨_,_,_,e,_⟩=>by rw [e];rfl
theorem BG (x:Rz):DT H6 x fun vs cs=> ∃A4 n4 c4,vs=[iV x.Sa,iV x.N,iV x.M,.string x.S,U A4 n4 c4]/\cs=[qq (eT .i64) (U A4 n4 c4) x.L]:=fun S w vs ⟨_,_,_,e,h4⟩=>⟨_,⟨_,_,_,e,rfl⟩,hJ h4 (ay)⟩
structure Rj where
 Ok:Bool
 N:Int
 S:ByteArray
 SO:RH
 L:RL
 deriving DecidableEq,Inhabited
def Pd:Rep Rj where
 sz:=9
 rel S w vs x:= ∃A8 n8 c8,vs=[.bool x.Ok,iV x.N,.string x.S,iV x.SO.Sa,iV x.SO.N,iV x.SO.Value.Sa,iV x.SO.Value.N,.string x.SO.Value.S,U A8 n8 c8]/\SlR (eT .i64) S w (U A8 n8 c8) x.L
 loc:=fun h ⟨_,_,_,e,h8⟩=>⟨_,_,_,e,h8.loc h⟩
 mono:=fun h ⟨_,_,_,e,h8⟩=>⟨_,_,_,e,h8.mono h⟩
 len:=fun ⟨_,_,_,e,_⟩=>by rw [e];rfl
 one:=fun ⟨_,_,_,e,_⟩=>by rw [e];rfl
structure Rm where
 C:Rs
 SG:Int
 SF:Int
 SA:Int
 SU:Int
 SV:Int
 SW:Int
 SX:Int
 SY:RV
 SZ:RV
 Ta:(List RF)
 Tb:(List RJ)
 deriving DecidableEq,Inhabited
def NZ:Rep Rm where
 sz:=18
 rel S w vs x:= ∃A14 n14 c14 A15 n15 c15 A16 n16 c16 a1 a2 a6,vs=[iV x.C.SI,iV x.C.SG,iV x.C.SA,iV x.C.SF,iV x.C.Se,iV x.C.SH,iV x.C.SJ,iV x.SG,iV x.SF,iV x.SA,iV x.SU,iV x.SV,iV x.SW,iV x.SX,U A14 n14 c14,U A15 n15 c15,U A16 n16 c16,U a1 a2 a6]/\SlR Bt S w (U A14 n14 c14) x.SY/\SlR Bt S w (U A15 n15 c15) x.SZ/\SlR tz S w (U A16 n16 c16) x.Ta/\SlR (Rep.sl aF) S w (U a1 a2 a6) x.Tb
 loc:=fun h ⟨_,_,_,_,_,_,_,_,_,_,_,_,e,h14,h15,h16,h17⟩=>⟨_,_,_,_,_,_,_,_,_,_,_,_,e,h14.loc h,h15.loc h,h16.loc h,h17.loc h⟩
 mono:=fun h ⟨_,_,_,_,_,_,_,_,_,_,_,_,e,h14,h15,h16,h17⟩=>⟨_,_,_,_,_,_,_,_,_,_,_,_,e,h14.mono h,h15.mono h,h16.mono h,h17.mono h⟩
 len:=fun ⟨_,_,_,_,_,_,_,_,_,_,_,_,e,_⟩=>by rw [e];rfl
 one:=fun ⟨_,_,_,_,_,_,_,_,_,_,_,_,e,_⟩=>by rw [e];rfl
abbrev aw (A:Option Addr)(n c:Nat):=eu aF 23 (.slice A n c)
abbrev aR (A:Option Addr)(n c:Nat):=eu eB 42 (.slice A n c)
abbrev bc (A:Option Addr)(n c:Nat):=qq aF (.slice A n c)
abbrev bi (A:Option Addr)(n c:Nat):=qq eB (.slice A n c)
abbrev ce (A:Option Addr)(n c:Nat):=eu Bt 9 (.slice A n c)
abbrev dK (A:Option Addr)(n c:Nat):=qq (eT .i64) (.slice A n c)
abbrev eG (A:Option Addr)(n c:Nat):=eu (eT .i64) 3 (.slice A n c)
abbrev CI (A:Option Addr)(n c:Nat):=qq Bt (.slice A n c)
abbrev gX (A:Option Addr)(n c:Nat):=eu tz 84 (.slice A n c)
abbrev f9 (A:Option Addr)(n c:Nat):=eu vY 114 (.slice A n c)
abbrev BZ (A:Option Addr)(n c:Nat):=qq tz (.slice A n c)
abbrev rK (A:Option Addr)(n c:Nat):=qq vY (.slice A n c)
abbrev FC (x:Rs):Value:=.agg #[iV x.SI,iV x.SG,iV x.SA,iV x.SF,iV x.Se,iV x.SH,iV x.SJ]
abbrev Dw (x:RH):Value:=.agg #[iV x.Sa,iV x.N,iV x.Value.Sa,iV x.Value.N,.string x.Value.S]
abbrev Hx (x:RF):Value:=.agg #[iV x.Sa,iV x.SK.Sa,iV x.SK.N,.string x.SK.S,.string x.S]
abbrev FB (x:Rq):Value:=.agg #[iV x.Sa,iV x.N,.string x.S]
abbrev Lw (x:RI):Value:=.agg #[iV x.Up,iV x.SK.Sa,iV x.SK.N,.string x.SK.S,iV x.SP,iV x.SQ]
abbrev JZ (x:Rx):Value:=.agg #[iV x.SS,iV x.SR.Sa,iV x.SR.N,.string x.SR.S,iV x.ST]
abbrev fX (x:Ry):Value:=.agg #[iV x.Sa,iV x.N,.string x.S]
abbrev Ov (x:Rs):List Value:=[iV x.SI,iV x.SG,iV x.SA,iV x.SF,iV x.Se,iV x.SH,iV x.SJ]
abbrev PS (x:RH):List Value:=[iV x.Sa,iV x.N,iV x.Value.Sa,iV x.Value.N,.string x.Value.S]
abbrev Ep (x:RF):List Value:=[iV x.Sa,iV x.SK.Sa,iV x.SK.N,.string x.SK.S,.string x.S]
abbrev MK (x:Rq):List Value:=[iV x.Sa,iV x.N,.string x.S]
abbrev Eo (x:RI):List Value:=[iV x.Up,iV x.SK.Sa,iV x.SK.N,.string x.SK.S,iV x.SP,iV x.SQ]
abbrev OP (x:RD):List Value:=[iV x.SE,iV x.SC,iV x.SD]
abbrev tO (x:Ry):List Value:=[iV x.Sa,iV x.N,.string x.S]
abbrev iU (x:Rn)(b d:Nat)(A:Option Addr)(n c:Nat)(A2:Option Addr)(n2 c2:Nat)(A3:Option Addr)(n3 c3:Nat):List Value:=[iV x.Sr.SE,iV x.Sr.SC,iV x.Sr.SD,iV x.Sh.SI,iV x.Sh.SG,iV x.Sh.SA,iV x.Sh.SF,iV x.Sh.Se,iV x.Sh.SH,iV x.Sh.SJ,.nilIface,pV b 0,pV d 0,.slice A n c,iV x.Sy,iV x.Sx,iV x.Sz,U A2 n2 c2,U A3 n3 c3]
instance call7:FcK RY 7:=⟨⟨Tryz.f7,Tryz.func7,rfl,rfl⟩⟩
instance call11:FcK RY 11:=⟨⟨Tryz.f11,Tryz.func11,rfl,rfl⟩⟩
instance call12:FcK RY 12:=⟨⟨Tryz.f12,Tryz.func12,rfl,rfl⟩⟩
instance call13:FcK RY 13:=⟨⟨Tryz.f13,Tryz.func13,rfl,rfl⟩⟩
instance call14:FcK RY 14:=⟨⟨Tryz.f14,Tryz.func14,rfl,rfl⟩⟩
instance call15:FcK RY 15:=⟨⟨Tryz.f15,Tryz.func15,rfl,rfl⟩⟩
instance call16:FcK RY 16:=⟨⟨Tryz.f16,Tryz.func16,rfl,rfl⟩⟩
instance call17:FcK RY 17:=⟨⟨Tryz.f17,Tryz.func17,rfl,rfl⟩⟩
instance call20:FcK RY 20:=⟨⟨Tryz.f20,Tryz.func20,rfl,rfl⟩⟩
instance call21:FcK RY 21:=⟨⟨Tryz.f21,Tryz.func21,rfl,rfl⟩⟩
instance call22:FcK RY 22:=⟨⟨Tryz.f22,Tryz.func22,rfl,rfl⟩⟩
instance call23:FcK RY 23:=⟨⟨Tryz.f23,Tryz.func23,rfl,rfl⟩⟩
instance call24:FcK RY 24:=⟨⟨Tryz.f24,Tryz.func24,rfl,rfl⟩⟩
instance call25:FcK RY 25:=⟨⟨Tryz.f25,Tryz.func25,rfl,rfl⟩⟩
instance call26:FcK RY 26:=⟨⟨Tryz.f26,Tryz.func26,rfl,rfl⟩⟩
instance call27:FcK RY 27:=⟨⟨Tryz.f27,Tryz.func27,rfl,rfl⟩⟩
instance call28:FcK RY 28:=⟨⟨Tryz.f28,Tryz.func28,rfl,rfl⟩⟩
instance call33:FcK RY 33:=⟨⟨Tryz.f33,Tryz.func33,rfl,rfl⟩⟩
instance call34:FcK RY 34:=⟨⟨Tryz.f34,Tryz.func34,rfl,rfl⟩⟩
instance call35:FcK RY 35:=⟨⟨Tryz.f35,Tryz.func35,rfl,rfl⟩⟩
instance call36:FcK RY 36:=⟨⟨Tryz.f36,Tryz.func36,rfl,rfl⟩⟩
instance call37:FcK RY 37:=⟨⟨Tryz.f37,Tryz.func37,rfl,rfl⟩⟩
instance call38:FcK RY 38:=⟨⟨Tryz.f38,Tryz.func38,rfl,rfl⟩⟩
instance call40:FcK RY 40:=⟨⟨Tryz.f40,Tryz.func40,rfl,rfl⟩⟩
instance call41:FcK RY 41:=⟨⟨Tryz.f41,Tryz.func41,rfl,rfl⟩⟩
instance call42:FcK RY 42:=⟨⟨Tryz.f42,Tryz.func42,rfl,rfl⟩⟩
instance call43:FcK RY 43:=⟨⟨Tryz.f43,Tryz.func43,rfl,rfl⟩⟩
instance call44:FcK RY 44:=⟨⟨Tryz.f44,Tryz.func44,rfl,rfl⟩⟩
instance call45:FcK RY 45:=⟨⟨Tryz.f45,Tryz.func45,rfl,rfl⟩⟩
instance call46:FcK RY 46:=⟨⟨Tryz.f46,Tryz.func46,rfl,rfl⟩⟩
instance call47:FcK RY 47:=⟨⟨Tryz.f47,Tryz.func47,rfl,rfl⟩⟩
instance call48:FcK RY 48:=⟨⟨Tryz.f48,Tryz.func48,rfl,rfl⟩⟩
instance call49:FcK RY 49:=⟨⟨Tryz.f49,Tryz.func49,rfl,rfl⟩⟩
instance call50:FcK RY 50:=⟨⟨Tryz.f50,Tryz.func50,rfl,rfl⟩⟩
instance call51:FcK RY 51:=⟨⟨Tryz.f51,Tryz.func51,rfl,rfl⟩⟩
instance call52:FcK RY 52:=⟨⟨Tryz.f52,Tryz.func52,rfl,rfl⟩⟩
instance call53:FcK RY 53:=⟨⟨Tryz.f53,Tryz.func53,rfl,rfl⟩⟩
instance call54:FcK RY 54:=⟨⟨Tryz.f54,Tryz.func54,rfl,rfl⟩⟩
instance call55:FcK RY 55:=⟨⟨Tryz.f55,Tryz.func55,rfl,rfl⟩⟩
instance call56:FcK RY 56:=⟨⟨Tryz.f56,Tryz.func56,rfl,rfl⟩⟩
instance call57:FcK RY 57:=⟨⟨Tryz.f57,Tryz.func57,rfl,rfl⟩⟩
instance call58:FcK RY 58:=⟨⟨Tryz.f58,Tryz.func58,rfl,rfl⟩⟩
instance call59:FcK RY 59:=⟨⟨Tryz.f59,Tryz.func59,rfl,rfl⟩⟩
instance call60:FcK RY 60:=⟨⟨Tryz.f60,Tryz.func60,rfl,rfl⟩⟩
instance call61:FcK RY 61:=⟨⟨Tryz.f61,Tryz.func61,rfl,rfl⟩⟩
instance call62:FcK RY 62:=⟨⟨Tryz.f62,Tryz.func62,rfl,rfl⟩⟩
instance call63:FcK RY 63:=⟨⟨Tryz.f63,Tryz.func63,rfl,rfl⟩⟩
instance call64:FcK RY 64:=⟨⟨Tryz.f64,Tryz.func64,rfl,rfl⟩⟩
instance call65:FcK RY 65:=⟨⟨Tryz.f65,Tryz.func65,rfl,rfl⟩⟩
instance call66:FcK RY 66:=⟨⟨Tryz.f66,Tryz.func66,rfl,rfl⟩⟩
instance call67:FcK RY 67:=⟨⟨Tryz.f67,Tryz.func67,rfl,rfl⟩⟩
instance call68:FcK RY 68:=⟨⟨Tryz.f68,Tryz.func68,rfl,rfl⟩⟩
instance call69:FcK RY 69:=⟨⟨Tryz.f69,Tryz.func69,rfl,rfl⟩⟩
instance call71:FcK RY 71:=⟨⟨Tryz.f71,Tryz.func71,rfl,rfl⟩⟩
instance call74:FcK RY 74:=⟨⟨Tryz.f74,Tryz.func74,rfl,rfl⟩⟩
instance call75:FcK RY 75:=⟨⟨Tryz.f75,Tryz.func75,rfl,rfl⟩⟩
instance call76:FcK RY 76:=⟨⟨Tryz.f76,Tryz.func76,rfl,rfl⟩⟩
instance call77:FcK RY 77:=⟨⟨Tryz.f77,Tryz.func77,rfl,rfl⟩⟩
instance call78:FcK RY 78:=⟨⟨Tryz.f78,Tryz.func78,rfl,rfl⟩⟩
instance call79:FcK RY 79:=⟨⟨Tryz.f79,Tryz.func79,rfl,rfl⟩⟩
instance call80:FcK RY 80:=⟨⟨Tryz.f80,Tryz.func80,rfl,rfl⟩⟩
instance call81:FcK RY 81:=⟨⟨Tryz.f81,Tryz.func81,rfl,rfl⟩⟩
instance call82:FcK RY 82:=⟨⟨Tryz.f82,Tryz.func82,rfl,rfl⟩⟩
instance call83:FcK RY 83:=⟨⟨Tryz.f83,Tryz.func83,rfl,rfl⟩⟩
instance call84:FcK RY 84:=⟨⟨Tryz.f84,Tryz.func84,rfl,rfl⟩⟩
instance call85:FcK RY 85:=⟨⟨Tryz.f85,Tryz.func85,rfl,rfl⟩⟩
instance call86:FcK RY 86:=⟨⟨Tryz.f86,Tryz.func86,rfl,rfl⟩⟩
instance call87:FcK RY 87:=⟨⟨Tryz.f87,Tryz.func87,rfl,rfl⟩⟩
instance call88:FcK RY 88:=⟨⟨Tryz.f88,Tryz.func88,rfl,rfl⟩⟩
instance call89:FcK RY 89:=⟨⟨Tryz.f89,Tryz.func89,rfl,rfl⟩⟩
instance call90:FcK RY 90:=⟨⟨Tryz.f90,Tryz.func90,rfl,rfl⟩⟩
instance call91:FcK RY 91:=⟨⟨Tryz.f91,Tryz.func91,rfl,rfl⟩⟩
instance call92:FcK RY 92:=⟨⟨Tryz.f92,Tryz.func92,rfl,rfl⟩⟩
instance call93:FcK RY 93:=⟨⟨Tryz.f93,Tryz.func93,rfl,rfl⟩⟩
instance call94:FcK RY 94:=⟨⟨Tryz.f94,Tryz.func94,rfl,rfl⟩⟩
instance call95:FcK RY 95:=⟨⟨Tryz.f95,Tryz.func95,rfl,rfl⟩⟩
instance call96:FcK RY 96:=⟨⟨Tryz.f96,Tryz.func96,rfl,rfl⟩⟩
instance call97:FcK RY 97:=⟨⟨Tryz.f97,Tryz.func97,rfl,rfl⟩⟩
instance call98:FcK RY 98:=⟨⟨Tryz.f98,Tryz.func98,rfl,rfl⟩⟩
instance call99:FcK RY 99:=⟨⟨Tryz.f99,Tryz.func99,rfl,rfl⟩⟩
instance call100:FcK RY 100:=⟨⟨Tryz.f100,Tryz.func100,rfl,rfl⟩⟩
instance call101:FcK RY 101:=⟨⟨Tryz.f101,Tryz.func101,rfl,rfl⟩⟩
instance call102:FcK RY 102:=⟨⟨Tryz.f102,Tryz.func102,rfl,rfl⟩⟩
instance call103:FcK RY 103:=⟨⟨Tryz.f103,Tryz.func103,rfl,rfl⟩⟩
instance call104:FcK RY 104:=⟨⟨Tryz.f104,Tryz.func104,rfl,rfl⟩⟩
instance call105:FcK RY 105:=⟨⟨Tryz.f105,Tryz.func105,rfl,rfl⟩⟩
instance call106:FcK RY 106:=⟨⟨Tryz.f106,Tryz.func106,rfl,rfl⟩⟩
instance call107:FcK RY 107:=⟨⟨Tryz.f107,Tryz.func107,rfl,rfl⟩⟩
instance call108:FcK RY 108:=⟨⟨Tryz.f108,Tryz.func108,rfl,rfl⟩⟩
instance call109:FcK RY 109:=⟨⟨Tryz.f109,Tryz.func109,rfl,rfl⟩⟩
instance call110:FcK RY 110:=⟨⟨Tryz.f110,Tryz.func110,rfl,rfl⟩⟩
instance call114:FcK RY 114:=⟨⟨Tryz.f114,Tryz.func114,rfl,rfl⟩⟩
instance call115:FcK RY 115:=⟨⟨Tryz.f115,Tryz.func115,rfl,rfl⟩⟩
instance call116:FcK RY 116:=⟨⟨Tryz.f116,Tryz.func116,rfl,rfl⟩⟩
instance call117:FcK RY 117:=⟨⟨Tryz.f117,Tryz.func117,rfl,rfl⟩⟩
instance call118:FcK RY 118:=⟨⟨Tryz.f118,Tryz.func118,rfl,rfl⟩⟩
instance call119:FcK RY 119:=⟨⟨Tryz.f119,Tryz.func119,rfl,rfl⟩⟩
instance call120:FcK RY 120:=⟨⟨Tryz.f120,Tryz.func120,rfl,rfl⟩⟩
instance call121:FcK RY 121:=⟨⟨Tryz.f121,Tryz.func121,rfl,rfl⟩⟩
instance call122:FcK RY 122:=⟨⟨Tryz.f122,Tryz.func122,rfl,rfl⟩⟩
instance call123:FcK RY 123:=⟨⟨Tryz.f123,Tryz.func123,rfl,rfl⟩⟩
instance call124:FcK RY 124:=⟨⟨Tryz.f124,Tryz.func124,rfl,rfl⟩⟩
instance call125:FcK RY 125:=⟨⟨Tryz.f125,Tryz.func125,rfl,rfl⟩⟩
instance call126:FcK RY 126:=⟨⟨Tryz.f126,Tryz.func126,rfl,rfl⟩⟩
instance call127:FcK RY 127:=⟨⟨Tryz.f127,Tryz.func127,rfl,rfl⟩⟩
instance call128:FcK RY 128:=⟨⟨Tryz.f128,Tryz.func128,rfl,rfl⟩⟩
instance call129:FcK RY 129:=⟨⟨Tryz.f129,Tryz.func129,rfl,rfl⟩⟩
instance call130:FcK RY 130:=⟨⟨Tryz.f130,Tryz.func130,rfl,rfl⟩⟩
instance call131:FcK RY 131:=⟨⟨Tryz.f131,Tryz.func131,rfl,rfl⟩⟩
instance call132:FcK RY 132:=⟨⟨Tryz.f132,Tryz.func132,rfl,rfl⟩⟩
instance call133:FcK RY 133:=⟨⟨Tryz.f133,Tryz.func133,rfl,rfl⟩⟩
instance call134:FcK RY 134:=⟨⟨Tryz.f134,Tryz.func134,rfl,rfl⟩⟩
instance call135:FcK RY 135:=⟨⟨Tryz.f135,Tryz.func135,rfl,rfl⟩⟩
instance call136:FcK RY 136:=⟨⟨Tryz.f136,Tryz.func136,rfl,rfl⟩⟩
instance call137:FcK RY 137:=⟨⟨Tryz.f137,Tryz.func137,rfl,rfl⟩⟩
instance call138:FcK RY 138:=⟨⟨Tryz.f138,Tryz.func138,rfl,rfl⟩⟩
instance call139:FcK RY 139:=⟨⟨Tryz.f139,Tryz.func139,rfl,rfl⟩⟩
instance call140:FcK RY 140:=⟨⟨Tryz.f140,Tryz.func140,rfl,rfl⟩⟩
instance call141:FcK RY 141:=⟨⟨Tryz.f141,Tryz.func141,rfl,rfl⟩⟩
instance call142:FcK RY 142:=⟨⟨Tryz.f142,Tryz.func142,rfl,rfl⟩⟩
instance call143:FcK RY 143:=⟨⟨Tryz.f143,Tryz.func143,rfl,rfl⟩⟩
instance call144:FcK RY 144:=⟨⟨Tryz.f144,Tryz.func144,rfl,rfl⟩⟩
instance call145:FcK RY 145:=⟨⟨Tryz.f145,Tryz.func145,rfl,rfl⟩⟩
instance call146:FcK RY 146:=⟨⟨Tryz.f146,Tryz.func146,rfl,rfl⟩⟩
instance call148:FcK RY 148:=⟨⟨Tryz.f148,Tryz.func148,rfl,rfl⟩⟩
instance call150:FcK RY 150:=⟨⟨Tryz.f150,Tryz.func150,rfl,rfl⟩⟩
instance call151:FcK RY 151:=⟨⟨Tryz.f151,Tryz.func151,rfl,rfl⟩⟩
instance call152:FcK RY 152:=⟨⟨Tryz.f152,Tryz.func152,rfl,rfl⟩⟩
instance call153:FcK RY 153:=⟨⟨Tryz.f153,Tryz.func153,rfl,rfl⟩⟩
instance call154:FcK RY 154:=⟨⟨Tryz.f154,Tryz.func154,rfl,rfl⟩⟩
instance call155:FcK RY 155:=⟨⟨Tryz.f155,Tryz.func155,rfl,rfl⟩⟩
instance call156:FcK RY 156:=⟨⟨Tryz.f156,Tryz.func156,rfl,rfl⟩⟩
instance call157:FcK RY 157:=⟨⟨Tryz.f157,Tryz.func157,rfl,rfl⟩⟩
instance call158:FcK RY 158:=⟨⟨Tryz.f158,Tryz.func158,rfl,rfl⟩⟩
instance call159:FcK RY 159:=⟨⟨Tryz.f159,Tryz.func159,rfl,rfl⟩⟩
instance call160:FcK RY 160:=⟨⟨Tryz.f160,Tryz.func160,rfl,rfl⟩⟩
instance call161:FcK RY 161:=⟨⟨Tryz.f161,Tryz.func161,rfl,rfl⟩⟩
instance call162:FcK RY 162:=⟨⟨Tryz.f162,Tryz.func162,rfl,rfl⟩⟩
instance call163:FcK RY 163:=⟨⟨Tryz.f163,Tryz.func163,rfl,rfl⟩⟩
instance call164:FcK RY 164:=⟨⟨Tryz.f164,Tryz.func164,rfl,rfl⟩⟩
instance call165:FcK RY 165:=⟨⟨Tryz.f165,Tryz.func165,rfl,rfl⟩⟩
instance call166:FcK RY 166:=⟨⟨Tryz.f166,Tryz.func166,rfl,rfl⟩⟩
instance call167:FcK RY 167:=⟨⟨Tryz.f167,Tryz.func167,rfl,rfl⟩⟩
instance call168:FcK RY 168:=⟨⟨Tryz.f168,Tryz.func168,rfl,rfl⟩⟩
instance call169:FcK RY 169:=⟨⟨Tryz.f169,Tryz.func169,rfl,rfl⟩⟩
instance call170:FcK RY 170:=⟨⟨Tryz.f170,Tryz.func170,rfl,rfl⟩⟩
instance call171:FcK RY 171:=⟨⟨Tryz.f171,Tryz.func171,rfl,rfl⟩⟩
instance call172:FcK RY 172:=⟨⟨Tryz.f172,Tryz.func172,rfl,rfl⟩⟩
instance call173:FcK RY 173:=⟨⟨Tryz.f173,Tryz.func173,rfl,rfl⟩⟩
instance call174:FcK RY 174:=⟨⟨Tryz.f174,Tryz.func174,rfl,rfl⟩⟩
instance call175:FcK RY 175:=⟨⟨Tryz.f175,Tryz.func175,rfl,rfl⟩⟩
instance call176:FcK RY 176:=⟨⟨Tryz.f176,Tryz.func176,rfl,rfl⟩⟩
instance call177:FcK RY 177:=⟨⟨Tryz.f177,Tryz.func177,rfl,rfl⟩⟩
instance call178:FcK RY 178:=⟨⟨Tryz.f178,Tryz.func178,rfl,rfl⟩⟩
instance call179:FcK RY 179:=⟨⟨Tryz.f179,Tryz.func179,rfl,rfl⟩⟩
instance call180:FcK RY 180:=⟨⟨Tryz.f180,Tryz.func180,rfl,rfl⟩⟩
instance call181:FcK RY 181:=⟨⟨Tryz.f181,Tryz.func181,rfl,rfl⟩⟩
instance call182:FcK RY 182:=⟨⟨Tryz.f182,Tryz.func182,rfl,rfl⟩⟩
instance call186:FcK RY 186:=⟨⟨Tryz.f186,Tryz.func186,rfl,rfl⟩⟩
instance call187:FcK RY 187:=⟨⟨Tryz.f187,Tryz.func187,rfl,rfl⟩⟩
instance call188:FcK RY 188:=⟨⟨Tryz.f188,Tryz.func188,rfl,rfl⟩⟩
instance call189:FcK RY 189:=⟨⟨Tryz.f189,Tryz.func189,rfl,rfl⟩⟩
instance call190:FcK RY 190:=⟨⟨Tryz.f190,Tryz.func190,rfl,rfl⟩⟩
instance call191:FcK RY 191:=⟨⟨Tryz.f191,Tryz.func191,rfl,rfl⟩⟩
instance call192:FcK RY 192:=⟨⟨Tryz.f192,Tryz.func192,rfl,rfl⟩⟩
instance call193:FcK RY 193:=⟨⟨Tryz.f193,Tryz.func193,rfl,rfl⟩⟩
instance call194:FcK RY 194:=⟨⟨Tryz.f194,Tryz.func194,rfl,rfl⟩⟩
instance call195:FcK RY 195:=⟨⟨Tryz.f195,Tryz.func195,rfl,rfl⟩⟩
instance call206:FcK RY 206:=⟨⟨Tryz.f206,Tryz.func206,rfl,rfl⟩⟩
instance call207:FcK RY 207:=⟨⟨Tryz.f207,Tryz.func207,rfl,rfl⟩⟩
instance call208:FcK RY 208:=⟨⟨Tryz.f208,Tryz.func208,rfl,rfl⟩⟩
instance call209:FcK RY 209:=⟨⟨Tryz.f209,Tryz.func209,rfl,rfl⟩⟩
instance call210:FcK RY 210:=⟨⟨Tryz.f210,Tryz.func210,rfl,rfl⟩⟩
theorem sb (b o:Nat)(w:World):(Instr.fieldAt 23 (pV b o) 0).run RY w=.ok (pV b o) w:=by kernel_rfl
theorem ww (b o:Nat)(w:World):(Instr.fieldAt 23 (pV b o) 1).run RY w=.ok (.pointer (some ⟨b,o+1,none⟩)) w:=by kernel_rfl
theorem HD (b o:Nat)(w:World):(Instr.fieldAt 23 (pV b o) 2).run RY w=.ok (.pointer (some ⟨b,o+2,none⟩)) w:=by kernel_rfl
theorem Mi (b o:Nat)(w:World):(Instr.fieldAt 29 (pV b o) 0).run RY w=.ok (pV b o) w:=by kernel_rfl
theorem Mh (b o:Nat)(w:World):(Instr.fieldAt 29 (pV b o) 1).run RY w=.ok (.pointer (some ⟨b,o+1,none⟩)) w:=by kernel_rfl
theorem Mg (b o:Nat)(w:World):(Instr.fieldAt 29 (pV b o) 2).run RY w=.ok (.pointer (some ⟨b,o+2,none⟩)) w:=by kernel_rfl
theorem Mf (b o:Nat)(w:World):(Instr.fieldAt 29 (pV b o) 3).run RY w=.ok (.pointer (some ⟨b,o+3,none⟩)) w:=by kernel_rfl
theorem Me (b o:Nat)(w:World):(Instr.fieldAt 29 (pV b o) 4).run RY w=.ok (.pointer (some ⟨b,o+4,none⟩)) w:=by kernel_rfl
theorem Md (b o:Nat)(w:World):(Instr.fieldAt 29 (pV b o) 5).run RY w=.ok (.pointer (some ⟨b,o+5,none⟩)) w:=by kernel_rfl
theorem Mc (b o:Nat)(w:World):(Instr.fieldAt 29 (pV b o) 6).run RY w=.ok (.pointer (some ⟨b,o+6,none⟩)) w:=by kernel_rfl
theorem Mb (b o:Nat)(w:World):(Instr.fieldAt 34 (pV b o) 0).run RY w=.ok (pV b o) w:=by kernel_rfl
theorem Ma (b o:Nat)(w:World):(Instr.fieldAt 34 (pV b o) 2).run RY w=.ok (.pointer (some ⟨b,o+2,none⟩)) w:=by kernel_rfl
theorem LZ (b o:Nat)(w:World):(Instr.fieldAt 42 (pV b o) 0).run RY w=.ok (pV b o) w:=by kernel_rfl
theorem LY (b o:Nat)(w:World):(Instr.fieldAt 42 (pV b o) 1).run RY w=.ok (.pointer (some ⟨b,o+1,none⟩)) w:=by kernel_rfl
theorem LX (b o:Nat)(w:World):(Instr.fieldAt 42 (pV b o) 2).run RY w=.ok (.pointer (some ⟨b,o+2,none⟩)) w:=by kernel_rfl
theorem yE (b o:Nat)(w:World):(Instr.fieldAt 42 (pV b o) 3).run RY w=.ok (.pointer (some ⟨b,o+3,none⟩)) w:=by kernel_rfl
theorem EE (b o:Nat)(w:World):(Instr.fieldAt 42 (pV b o) 4).run RY w=.ok (.pointer (some ⟨b,o+4,none⟩)) w:=by kernel_rfl
theorem wv (b o:Nat)(w:World):(Instr.fieldAt 42 (pV b o) 5).run RY w=.ok (.pointer (some ⟨b,o+5,none⟩)) w:=by kernel_rfl
theorem LW (b o:Nat)(w:World):(Instr.fieldAt 53 (pV b o) 0).run RY w=.ok (pV b o) w:=by kernel_rfl
theorem LV (b o:Nat)(w:World):(Instr.fieldAt 53 (pV b o) 1).run RY w=.ok (.pointer (some ⟨b,o+1,none⟩)) w:=by kernel_rfl
theorem LU (b o:Nat)(w:World):(Instr.fieldAt 53 (pV b o) 2).run RY w=.ok (.pointer (some ⟨b,o+2,none⟩)) w:=by kernel_rfl
theorem LT (b o:Nat)(w:World):(Instr.fieldAt 53 (pV b o) 3).run RY w=.ok (.pointer (some ⟨b,o+3,none⟩)) w:=by kernel_rfl
theorem LS (b o:Nat)(w:World):(Instr.fieldAt 53 (pV b o) 4).run RY w=.ok (.pointer (some ⟨b,o+4,none⟩)) w:=by kernel_rfl
theorem LR (b o:Nat)(w:World):(Instr.fieldAt 56 (pV b o) 0).run RY w=.ok (pV b o) w:=by kernel_rfl
theorem LP (b o:Nat)(w:World):(Instr.fieldAt 56 (pV b o) 1).run RY w=.ok (.pointer (some ⟨b,o+1,none⟩)) w:=by kernel_rfl
theorem LO (b o:Nat)(w:World):(Instr.fieldAt 56 (pV b o) 2).run RY w=.ok (.pointer (some ⟨b,o+2,none⟩)) w:=by kernel_rfl
theorem LN (b o:Nat)(w:World):(Instr.fieldAt 56 (pV b o) 3).run RY w=.ok (.pointer (some ⟨b,o+3,none⟩)) w:=by kernel_rfl
theorem ED (b o:Nat)(w:World):(Instr.fieldAt 56 (pV b o) 4).run RY w=.ok (.pointer (some ⟨b,o+8,none⟩)) w:=by kernel_rfl
theorem LM (b o:Nat)(w:World):(Instr.fieldAt 75 (pV b o) 0).run RY w=.ok (pV b o) w:=by kernel_rfl
theorem LL (b o:Nat)(w:World):(Instr.fieldAt 75 (pV b o) 1).run RY w=.ok (.pointer (some ⟨b,o+1,none⟩)) w:=by kernel_rfl
theorem LK (b o:Nat)(w:World):(Instr.fieldAt 75 (pV b o) 2).run RY w=.ok (.pointer (some ⟨b,o+2,none⟩)) w:=by kernel_rfl
theorem LJ (b o:Nat)(w:World):(Instr.fieldAt 79 (pV b o) 0).run RY w=.ok (pV b o) w:=by kernel_rfl
theorem LI (b o:Nat)(w:World):(Instr.fieldAt 79 (pV b o) 1).run RY w=.ok (.pointer (some ⟨b,o+3,none⟩)) w:=by kernel_rfl
theorem EC (b o:Nat)(w:World):(Instr.fieldAt 79 (pV b o) 3).run RY w=.ok (.pointer (some ⟨b,o+11,none⟩)) w:=by kernel_rfl
theorem LH (b o:Nat)(w:World):(Instr.fieldAt 79 (pV b o) 4).run RY w=.ok (.pointer (some ⟨b,o+12,none⟩)) w:=by kernel_rfl
theorem HC (b o:Nat)(w:World):(Instr.fieldAt 79 (pV b o) 5).run RY w=.ok (.pointer (some ⟨b,o+13,none⟩)) w:=by kernel_rfl
theorem LG (b o:Nat)(w:World):(Instr.fieldAt 79 (pV b o) 6).run RY w=.ok (.pointer (some ⟨b,o+14,none⟩)) w:=by kernel_rfl
theorem LF (b o:Nat)(w:World):(Instr.fieldAt 79 (pV b o) 7).run RY w=.ok (.pointer (some ⟨b,o+15,none⟩)) w:=by kernel_rfl
theorem LE (b o:Nat)(w:World):(Instr.fieldAt 79 (pV b o) 8).run RY w=.ok (.pointer (some ⟨b,o+16,none⟩)) w:=by kernel_rfl
theorem EB (b o:Nat)(w:World):(Instr.fieldAt 79 (pV b o) 9).run RY w=.ok (.pointer (some ⟨b,o+17,none⟩)) w:=by kernel_rfl
theorem J6 (b o:Nat)(w:World):(Instr.fieldAt 79 (pV b o) 10).run RY w=.ok (.pointer (some ⟨b,o+18,none⟩)) w:=by kernel_rfl
theorem LD (b o:Nat)(w:World):(Instr.fieldAt 82 (pV b o) 0).run RY w=.ok (pV b o) w:=by kernel_rfl
theorem LC (b o:Nat)(w:World):(Instr.fieldAt 82 (pV b o) 1).run RY w=.ok (.pointer (some ⟨b,o+1,none⟩)) w:=by kernel_rfl
theorem LB (b o:Nat)(w:World):(Instr.fieldAt 82 (pV b o) 2).run RY w=.ok (.pointer (some ⟨b,o+2,none⟩)) w:=by kernel_rfl
theorem HA (b o:Nat)(w:World):(Instr.fieldAt 84 (pV b o) 2).run RY w=.ok (.pointer (some ⟨b,o+4,none⟩)) w:=by kernel_rfl
theorem AP (b o:Nat)(w:World):(Instr.fieldAt 96 (pV b o) 0).run RY w=.ok (pV b o) w:=by kernel_rfl
theorem AO (b o:Nat)(w:World):(Instr.fieldAt 96 (pV b o) 1).run RY w=.ok (.pointer (some ⟨b,o+1,none⟩)) w:=by kernel_rfl
theorem yD (b o:Nat)(w:World):(Instr.fieldAt 99 (pV b o) 0).run RY w=.ok (pV b o) w:=by kernel_rfl
theorem EA (b o:Nat)(w:World):(Instr.fieldAt 99 (pV b o) 1).run RY w=.ok (.pointer (some ⟨b,o+2,none⟩)) w:=by kernel_rfl
theorem LA (b o:Nat)(w:World):(Instr.fieldAt 99 (pV b o) 2).run RY w=.ok (.pointer (some ⟨b,o+3,none⟩)) w:=by kernel_rfl
theorem Lz (b o:Nat)(w:World):(Instr.fieldAt 99 (pV b o) 3).run RY w=.ok (.pointer (some ⟨b,o+4,none⟩)) w:=by kernel_rfl
theorem Kc (b o:Nat)(w:World):(Instr.fieldAt 114 (pV b o) 0).run RY w=.ok (pV b o) w:=by kernel_rfl
theorem Cm (b o:Nat)(w:World):(Instr.fieldAt 114 (pV b o) 1).run RY w=.ok (.pointer (some ⟨b,o+1,none⟩)) w:=by kernel_rfl
theorem Cl (b o:Nat)(w:World):(Instr.fieldAt 114 (pV b o) 2).run RY w=.ok (.pointer (some ⟨b,o+4,none⟩)) w:=by kernel_rfl
theorem FL (b o:Nat)(w:World):(Instr.fieldAt 114 (pV b o) 3).run RY w=.ok (.pointer (some ⟨b,o+5,none⟩)) w:=by kernel_rfl
theorem yG (b o:Nat)(w:World):(Instr.fieldAt 118 (pV b o) 0).run RY w=.ok (pV b o) w:=by kernel_rfl
theorem Kb (b o:Nat)(w:World):(Instr.fieldAt 118 (pV b o) 1).run RY w=.ok (.pointer (some ⟨b,o+1,none⟩)) w:=by kernel_rfl
theorem Ka (b o:Nat)(w:World):(Instr.fieldAt 147 (pV b o) 0).run RY w=.ok (pV b o) w:=by kernel_rfl
theorem J9 (b o:Nat)(w:World):(Instr.fieldAt 186 (pV b o) 0).run RY w=.ok (pV b o) w:=by kernel_rfl
theorem FK (b o:Nat)(w:World):(Instr.fieldAt 186 (pV b o) 1).run RY w=.ok (.pointer (some ⟨b,o+2,none⟩)) w:=by kernel_rfl
theorem yF (b o:Nat)(w:World):(Instr.fieldAt 186 (pV b o) 2).run RY w=.ok (.pointer (some ⟨b,o+3,none⟩)) w:=by kernel_rfl
theorem J8 (b o:Nat)(w:World):(Instr.fieldAt 186 (pV b o) 3).run RY w=.ok (.pointer (some ⟨b,o+4,none⟩)) w:=by kernel_rfl
theorem FJ (b o:Nat)(w:World):(Instr.fieldAt 186 (pV b o) 4).run RY w=.ok (.pointer (some ⟨b,o+5,none⟩)) w:=by kernel_rfl
theorem FI (b o:Nat)(w:World):(Instr.fieldAt 229 (pV b o) 0).run RY w=.ok (pV b o) w:=by kernel_rfl
theorem Ck (b o:Nat)(w:World):(Instr.fieldAt 229 (pV b o) 1).run RY w=.ok (.pointer (some ⟨b,o+2,none⟩)) w:=by kernel_rfl
theorem J7 (b o:Nat)(w:World):(Instr.fieldAt 229 (pV b o) 2).run RY w=.ok (.pointer (some ⟨b,o+3,none⟩)) w:=by kernel_rfl
theorem FH (b o:Nat)(w:World):(Instr.fieldAt 229 (pV b o) 3).run RY w=.ok (.pointer (some ⟨b,o+4,none⟩)) w:=by kernel_rfl
theorem su:fU RY 3=true:=by kernel_rfl
theorem Pf:fU RY 4=true:=by kernel_rfl
theorem Nj:fU RY 9=true:=by kernel_rfl
theorem Fg:fU RY 24=true:=by kernel_rfl
theorem xa:fU RY 30=true:=by kernel_rfl
theorem Aa:fU RY 39=true:=by kernel_rfl
theorem uY:fU RY 46=true:=by kernel_rfl
theorem MI:fU RY 58=true:=by kernel_rfl
theorem MH:fU RY 60=true:=by kernel_rfl
theorem Ol:fU RY 72=true:=by kernel_rfl
theorem Oj:fU RY 89=true:=by kernel_rfl
theorem Dl:fU RY 94=true:=by kernel_rfl
theorem Oi:fU RY 97=true:=by kernel_rfl
theorem Gy:fU RY 115=true:=by kernel_rfl
theorem Nn:fU RY 116=true:=by kernel_rfl
theorem Nm:fU RY 145=true:=by kernel_rfl
theorem Gx:fU RY 170=true:=by kernel_rfl
theorem Nl:fU RY 225=true:=by kernel_rfl
theorem Nk:fU RY 227=true:=by kernel_rfl
instance agg23:FcG RY 23 3:=⟨by kernel_rfl⟩
instance agg29:FcG RY 29 7:=⟨by kernel_rfl⟩
instance agg34:FcG RY 34 5:=⟨by kernel_rfl⟩
instance agg42:FcG RY 42 6:=⟨by kernel_rfl⟩
instance agg53:FcG RY 53 5:=⟨by kernel_rfl⟩
instance agg56:FcG RY 56 9:=⟨by kernel_rfl⟩
instance agg82:FcG RY 82 3:=⟨by kernel_rfl⟩
instance agg84:FcG RY 84 5:=⟨by kernel_rfl⟩
instance agg96:FcG RY 96 2:=⟨by kernel_rfl⟩
instance agg114:FcG RY 114 6:=⟨by kernel_rfl⟩
instance size3:FcZ RY 3 1:=⟨by kernel_rfl⟩
instance size4:FcZ RY 4 1:=⟨by kernel_rfl⟩
instance size9:FcZ RY 9 1:=⟨by kernel_rfl⟩
instance size23:FcZ RY 23 3:=⟨by kernel_rfl⟩
instance size30:FcZ RY 30 1:=⟨by kernel_rfl⟩
instance size34:FcZ RY 34 5:=⟨by kernel_rfl⟩
instance size39:FcZ RY 39 1:=⟨by kernel_rfl⟩
instance size42:FcZ RY 42 6:=⟨by kernel_rfl⟩
instance size53:FcZ RY 53 5:=⟨by kernel_rfl⟩
instance size56:FcZ RY 56 9:=⟨by kernel_rfl⟩
instance size58:FcZ RY 58 1:=⟨by kernel_rfl⟩
instance size60:FcZ RY 60 1:=⟨by kernel_rfl⟩
instance size84:FcZ RY 84 5:=⟨by kernel_rfl⟩
instance size94:FcZ RY 94 1:=⟨by kernel_rfl⟩
instance size96:FcZ RY 96 2:=⟨by kernel_rfl⟩
instance size114:FcZ RY 114 6:=⟨by kernel_rfl⟩
instance size115:FcZ RY 115 1:=⟨by kernel_rfl⟩
instance size145:FcZ RY 145 1:=⟨by kernel_rfl⟩
instance size156:FcZ RY 156 4:=⟨by kernel_rfl⟩
instance size157:FcZ RY 157 22:=⟨by kernel_rfl⟩
instance size170:FcZ RY 170 1:=⟨by kernel_rfl⟩
instance size225:FcZ RY 225 1:=⟨by kernel_rfl⟩
instance size253:FcZ RY 253 0:=⟨by kernel_rfl⟩
instance zero3:FcI RY 3 (iV 0):=⟨fun w=>by kernel_rfl⟩
instance zero4:FcI RY 4 (.bool false):=⟨fun w=>by kernel_rfl⟩
instance zero23:FcI RY 23 (.agg #[iV 0,iV 0,.string ⟨#[]⟩]):=⟨fun w=>by kernel_rfl⟩
instance zero30:FcI RY 30 (U none 0 0):=⟨fun w=>by kernel_rfl⟩
instance zero34:FcI RY 34 (.agg #[iV 0,iV 0,iV 0,iV 0,.string ⟨#[]⟩]):=⟨fun w=>by kernel_rfl⟩
instance zero39:FcI RY 39 (U none 0 0):=⟨fun w=>by kernel_rfl⟩
instance zero42:FcI RY 42 (.agg #[iV 0,iV 0,iV 0,iV 0,U none 0 0,U none 0 0]):=⟨fun w=>by kernel_rfl⟩
instance zero56:FcI RY 56 (.agg #[.bool false,iV 0,.string ⟨#[]⟩,iV 0,iV 0,iV 0,iV 0,.string ⟨#[]⟩,U none 0 0]):=⟨fun w=>by kernel_rfl⟩
instance zero96:FcI RY 96 (.agg #[U none 0 0,U none 0 0]):=⟨fun w=>by kernel_rfl⟩
instance zero114:FcI RY 114 (.agg #[iV 0,iV 0,iV 0,.string ⟨#[]⟩,iV 0,iV 0]):=⟨fun w=>by kernel_rfl⟩
instance zero145:FcI RY 145 (.map none):=⟨fun w=>by kernel_rfl⟩
instance zero156:FcI RY 156 (.agg #[.string ⟨#[]⟩,.string ⟨#[]⟩,.string ⟨#[]⟩,.string ⟨#[]⟩]):=⟨fun w=>by kernel_rfl⟩
instance zero157:FcI RY 157 (.agg #[.string ⟨#[]⟩,.string ⟨#[]⟩,.string ⟨#[]⟩,.string ⟨#[]⟩,.string ⟨#[]⟩,.string ⟨#[]⟩,.string ⟨#[]⟩,.string ⟨#[]⟩,.string ⟨#[]⟩,.string ⟨#[]⟩,.string ⟨#[]⟩,.string ⟨#[]⟩,.string ⟨#[]⟩,.string ⟨#[]⟩,.string ⟨#[]⟩,.string ⟨#[]⟩,.string ⟨#[]⟩,.string ⟨#[]⟩,.string ⟨#[]⟩,.string ⟨#[]⟩,.string ⟨#[]⟩,.string ⟨#[]⟩]):=⟨fun w=>by kernel_rfl⟩
instance zero170:FcI RY 170 (.map none):=⟨fun w=>by kernel_rfl⟩
instance zero225:FcI RY 225 (.pointer none):=⟨fun w=>by kernel_rfl⟩
instance zero253:FcI RY 253 (.agg #[]):=⟨fun w=>by kernel_rfl⟩
theorem J3 (x0_:Int)(x1_:Int)(x2_:ByteArray)(w:World):(Instr.field 23 (.agg #[iV x0_,iV x1_,.string x2_]) 1).run RY w=.ok (iV x1_) w:=by kernel_rfl
theorem J2 (x0_:Int)(x1_:Int)(x2_:Int)(x3_:Int)(x4_a:Option Addr)(x4_n x4_c:Nat)(x5_a:Option Addr)(x5_n x5_c:Nat)(w:World):(Instr.field 42 (.agg #[iV x0_,iV x1_,iV x2_,iV x3_,.slice x4_a x4_n x4_c,.slice x5_a x5_n x5_c]) 2).run RY w=.ok (iV x2_) w:=by kernel_rfl
theorem J1 (x0_:Int)(x1_:Int)(x2_:Int)(x3_:Int)(x4_a:Option Addr)(x4_n x4_c:Nat)(x5_a:Option Addr)(x5_n x5_c:Nat)(w:World):(Instr.field 42 (.agg #[iV x0_,iV x1_,iV x2_,iV x3_,.slice x4_a x4_n x4_c,.slice x5_a x5_n x5_c]) 3).run RY w=.ok (iV x3_) w:=by kernel_rfl
theorem vv (x0_:Int)(x1_:Int)(x2_:Int)(x3_:Int)(x4_a:Option Addr)(x4_n x4_c:Nat)(x5_a:Option Addr)(x5_n x5_c:Nat)(w:World):(Instr.field 42 (.agg #[iV x0_,iV x1_,iV x2_,iV x3_,.slice x4_a x4_n x4_c,.slice x5_a x5_n x5_c]) 5).run RY w=.ok (.slice x5_a x5_n x5_c) w:=by kernel_rfl
instance bld_23_:FcB RY 23 [] (.agg #[iV 0,iV 0,.string ⟨#[]⟩]):=⟨fun w=>by kernel_rfl⟩
instance bld_23_0 (x0_:Int):FcB RY 23 [(0,iV x0_)] (.agg #[iV x0_,iV 0,.string ⟨#[]⟩]):=⟨fun w=>by kernel_rfl⟩
instance bld_23_0_1 (x0_:Int) (x1_:Int):FcB RY 23 [(0,iV x0_),(1,iV x1_)] (.agg #[iV x0_,iV x1_,.string ⟨#[]⟩]):=⟨fun w=>by kernel_rfl⟩
instance bld_23_0_2 (x0_:Int) (x2_:ByteArray):FcB RY 23 [(0,iV x0_),(2,.string x2_)] (.agg #[iV x0_,iV 0,.string x2_]):=⟨fun w=>by kernel_rfl⟩
instance bld_29_1_2_3 (x1_:Int) (x2_:Int) (x3_:Int):FcB RY 29 [(1,iV x1_),(2,iV x2_),(3,iV x3_)] (.agg #[iV 0,iV x1_,iV x2_,iV x3_,iV 0,iV 0,iV 0]):=⟨fun w=>by kernel_rfl⟩
instance bld_29_1_2_3_4_5 (x1_:Int) (x2_:Int) (x3_:Int) (x4_:Int) (x5_:Int):FcB RY 29 [(1,iV x1_),(2,iV x2_),(3,iV x3_),(4,iV x4_),(5,iV x5_)] (.agg #[iV 0,iV x1_,iV x2_,iV x3_,iV x4_,iV x5_,iV 0]):=⟨fun w=>by kernel_rfl⟩
instance bld_34_0_1 (x0_:Int) (x1_:Int):FcB RY 34 [(0,iV x0_),(1,iV x1_)] (.agg #[iV x0_,iV x1_,iV 0,iV 0,.string ⟨#[]⟩]):=⟨fun w=>by kernel_rfl⟩
instance bld_34_0_2 (x0_:Int) (x2_0_:Int) (x2_1_:Int) (x2_2_:ByteArray):FcB RY 34 [(0,iV x0_),(2,.agg #[iV x2_0_,iV x2_1_,.string x2_2_])] (.agg #[iV x0_,iV 0,iV x2_0_,iV x2_1_,.string x2_2_]):=⟨fun w=>by kernel_rfl⟩
instance bld_42_:FcB RY 42 [] (.agg #[iV 0,iV 0,iV 0,iV 0,U none 0 0,U none 0 0]):=⟨fun w=>by kernel_rfl⟩
instance bld_42_0 (x0_:Int):FcB RY 42 [(0,iV x0_)] (.agg #[iV x0_,iV 0,iV 0,iV 0,U none 0 0,U none 0 0]):=⟨fun w=>by kernel_rfl⟩
instance bld_42_0_1_2_4 (x0_:Int) (x1_:Int) (x2_:Int) (x4_a:Option Addr) (x4_n x4_c:Nat):FcB RY 42 [(0,iV x0_),(1,iV x1_),(2,iV x2_),(4,.slice x4_a x4_n x4_c)] (.agg #[iV x0_,iV x1_,iV x2_,iV 0,.slice x4_a x4_n x4_c,U none 0 0]):=⟨fun w=>by kernel_rfl⟩
instance bld_42_0_2_4 (x0_:Int) (x2_:Int) (x4_a:Option Addr) (x4_n x4_c:Nat):FcB RY 42 [(0,iV x0_),(2,iV x2_),(4,.slice x4_a x4_n x4_c)] (.agg #[iV x0_,iV 0,iV x2_,iV 0,.slice x4_a x4_n x4_c,U none 0 0]):=⟨fun w=>by kernel_rfl⟩
instance bld_42_0_5 (x0_:Int) (x5_a:Option Addr) (x5_n x5_c:Nat):FcB RY 42 [(0,iV x0_),(5,.slice x5_a x5_n x5_c)] (.agg #[iV x0_,iV 0,iV 0,iV 0,U none 0 0,.slice x5_a x5_n x5_c]):=⟨fun w=>by kernel_rfl⟩
instance bld_42_5 (x5_a:Option Addr) (x5_n x5_c:Nat):FcB RY 42 [(5,.slice x5_a x5_n x5_c)] (.agg #[iV 0,iV 0,iV 0,iV 0,U none 0 0,.slice x5_a x5_n x5_c]):=⟨fun w=>by kernel_rfl⟩
instance bld_79_1_3_4 (x1_0_:Int) (x1_1_:Int) (x1_2_:Int) (x1_3_:Int) (x1_4_:Int) (x1_5_:Int) (x1_6_:Int) (x3_:Option Addr) (x4_:Option Addr):FcB RY 79 [(1,.agg #[iV x1_0_,iV x1_1_,iV x1_2_,iV x1_3_,iV x1_4_,iV x1_5_,iV x1_6_]),(3,.pointer x3_),(4,.pointer x4_)] (.agg #[iV 0,iV 0,iV 0,iV x1_0_,iV x1_1_,iV x1_2_,iV x1_3_,iV x1_4_,iV x1_5_,iV x1_6_,.nilIface,.pointer x3_,.pointer x4_,U none 0 0,iV 0,iV 0,iV 0,U none 0 0,U none 0 0]):=⟨fun w=>by kernel_rfl⟩
instance bld_82_0_2 (x0_:Int) (x2_:ByteArray):FcB RY 82 [(0,iV x0_),(2,.string x2_)] (.agg #[iV x0_,iV 0,.string x2_]):=⟨fun w=>by kernel_rfl⟩
instance bld_84_0_2 (x0_:Int) (x2_:ByteArray):FcB RY 84 [(0,iV x0_),(2,.string x2_)] (.agg #[iV x0_,iV 0,iV 0,.string ⟨#[]⟩,.string x2_]):=⟨fun w=>by kernel_rfl⟩
instance bld_96_:FcB RY 96 [] (.agg #[U none 0 0,U none 0 0]):=⟨fun w=>by kernel_rfl⟩
instance bld_99_3 (x3_:Option Addr):FcB RY 99 [(3,.pointer x3_)] (.agg #[U none 0 0,U none 0 0,U none 0 0,U none 0 0,.pointer x3_]):=⟨fun w=>by kernel_rfl⟩
instance bld_114_:FcB RY 114 [] (.agg #[iV 0,iV 0,iV 0,.string ⟨#[]⟩,iV 0,iV 0]):=⟨fun w=>by kernel_rfl⟩
instance bld_114_0 (x0_:Int):FcB RY 114 [(0,iV x0_)] (.agg #[iV x0_,iV 0,iV 0,.string ⟨#[]⟩,iV 0,iV 0]):=⟨fun w=>by kernel_rfl⟩
instance bld_114_0_1_2_3 (x0_:Int) (x1_0_:Int) (x1_1_:Int) (x1_2_:ByteArray) (x2_:Int) (x3_:Int):FcB RY 114 [(0,iV x0_),(1,.agg #[iV x1_0_,iV x1_1_,.string x1_2_]),(2,iV x2_),(3,iV x3_)] (.agg #[iV x0_,iV x1_0_,iV x1_1_,.string x1_2_,iV x2_,iV x3_]):=⟨fun w=>by kernel_rfl⟩
instance bld_114_1_2 (x1_0_:Int) (x1_1_:Int) (x1_2_:ByteArray) (x2_:Int):FcB RY 114 [(1,.agg #[iV x1_0_,iV x1_1_,.string x1_2_]),(2,iV x2_)] (.agg #[iV 0,iV x1_0_,iV x1_1_,.string x1_2_,iV x2_,iV 0]):=⟨fun w=>by kernel_rfl⟩
instance bld_118_0_1 (x0_a:Option Addr) (x0_n x0_c:Nat) (x1_:Option Nat):FcB RY 118 [(0,.slice x0_a x0_n x0_c),(1,.map x1_)] (.agg #[.slice x0_a x0_n x0_c,.map x1_]):=⟨fun w=>by kernel_rfl⟩
instance bld_147_0 (x0_:Option Nat):FcB RY 147 [(0,.map x0_)] (.agg #[.map x0_]):=⟨fun w=>by kernel_rfl⟩
instance bld_156_0_1_2_3 (x0_:ByteArray) (x1_:ByteArray) (x2_:ByteArray) (x3_:ByteArray):FcB RY 156 [(0,.string x0_),(1,.string x1_),(2,.string x2_),(3,.string x3_)] (.agg #[.string x0_,.string x1_,.string x2_,.string x3_]):=⟨fun w=>by kernel_rfl⟩
instance bld_157_0_1_2_3_4_5_6_7_8_9_10_11_12_13_14_15_16_17_18_19_20_21 (x0_:ByteArray) (x1_:ByteArray) (x2_:ByteArray) (x3_:ByteArray) (x4_:ByteArray) (x5_:ByteArray) (x6_:ByteArray) (x7_:ByteArray) (x8_:ByteArray) (x9_:ByteArray) (x10_:ByteArray) (x11_:ByteArray) (x12_:ByteArray) (x13_:ByteArray) (x14_:ByteArray) (x15_:ByteArray) (x16_:ByteArray) (x17_:ByteArray) (x18_:ByteArray) (x19_:ByteArray) (x20_:ByteArray) (x21_:ByteArray):FcB RY 157 [(0,.string x0_),(1,.string x1_),(2,.string x2_),(3,.string x3_),(4,.string x4_),(5,.string x5_),(6,.string x6_),(7,.string x7_),(8,.string x8_),(9,.string x9_),(10,.string x10_),(11,.string x11_),(12,.string x12_),(13,.string x13_),(14,.string x14_),(15,.string x15_),(16,.string x16_),(17,.string x17_),(18,.string x18_),(19,.string x19_),(20,.string x20_),(21,.string x21_)] (.agg #[.string x0_,.string x1_,.string x2_,.string x3_,.string x4_,.string x5_,.string x6_,.string x7_,.string x8_,.string x9_,.string x10_,.string x11_,.string x12_,.string x13_,.string x14_,.string x15_,.string x16_,.string x17_,.string x18_,.string x19_,.string x20_,.string x21_]):=⟨fun w=>by kernel_rfl⟩
instance bld_186_0_1_3 (x0_0_a:Option Addr) (x0_0_n x0_0_c:Nat) (x0_1_a:Option Addr) (x0_1_n x0_1_c:Nat) (x1_a:Option Addr) (x1_n x1_c:Nat) (x3_:Option Nat):FcB RY 186 [(0,.agg #[.slice x0_0_a x0_0_n x0_0_c,.slice x0_1_a x0_1_n x0_1_c]),(1,.slice x1_a x1_n x1_c),(3,.map x3_)] (.agg #[.slice x0_0_a x0_0_n x0_0_c,.slice x0_1_a x0_1_n x0_1_c,.slice x1_a x1_n x1_c,U none 0 0,.map x3_,iV 0]):=⟨fun w=>by kernel_rfl⟩
instance bld_202_0_1_2 (x0_:Int) (x1_0_:Int) (x1_1_:Int) (x1_2_:ByteArray) (x2_:Int):FcB RY 202 [(0,iV x0_),(1,.agg #[iV x1_0_,iV x1_1_,.string x1_2_]),(2,iV x2_)] (.agg #[iV x0_,iV x1_0_,iV x1_1_,.string x1_2_,iV x2_]):=⟨fun w=>by kernel_rfl⟩
instance bld_229_0_2 (x0_0_a:Option Addr) (x0_0_n x0_0_c:Nat) (x0_1_a:Option Addr) (x0_1_n x0_1_c:Nat) (x2_:Option Nat):FcB RY 229 [(0,.agg #[.slice x0_0_a x0_0_n x0_0_c,.slice x0_1_a x0_1_n x0_1_c]),(2,.map x2_)] (.agg #[.slice x0_0_a x0_0_n x0_0_c,.slice x0_1_a x0_1_n x0_1_c,U none 0 0,.map x2_,iV 0]):=⟨fun w=>by kernel_rfl⟩
instance bld_253_:FcB RY 253 [] (.agg #[]):=⟨fun w=>by kernel_rfl⟩
theorem KD  (w:World):(Instr.buildSlice 30 0 #[]).run RY w=.ok (.slice (some ⟨w.heap.size,0,none⟩) 0 0) (w.alloc (.cells #[] 23)):=by kernel_rfl
theorem rC (x0_0_:Int)(x0_1_:Int)(x0_2_:ByteArray)(w:World):(Instr.buildSlice 30 1 #[(0,.agg #[iV x0_0_,iV x0_1_,.string x0_2_])]).run RY w=.ok (.slice (some ⟨w.heap.size,0,none⟩) 1 1) (w.alloc (.cells #[iV x0_0_,iV x0_1_,.string x0_2_] 23)):=by kernel_rfl
theorem vK (x0_0_:Int)(x0_1_:Int)(x0_2_:ByteArray)(x1_0_:Int)(x1_1_:Int)(x1_2_:ByteArray)(w:World):(Instr.buildSlice 30 2 #[(0,.agg #[iV x0_0_,iV x0_1_,.string x0_2_]),(1,.agg #[iV x1_0_,iV x1_1_,.string x1_2_])]).run RY w=.ok (.slice (some ⟨w.heap.size,0,none⟩) 2 2) (w.alloc (.cells #[iV x0_0_,iV x0_1_,.string x0_2_,iV x1_0_,iV x1_1_,.string x1_2_] 23)):=by kernel_rfl
theorem KC (x0_0_:Int)(x0_1_:Int)(x0_2_:ByteArray)(x1_0_:Int)(x1_1_:Int)(x1_2_:ByteArray)(x2_0_:Int)(x2_1_:Int)(x2_2_:ByteArray)(w:World):(Instr.buildSlice 30 3 #[(0,.agg #[iV x0_0_,iV x0_1_,.string x0_2_]),(1,.agg #[iV x1_0_,iV x1_1_,.string x1_2_]),(2,.agg #[iV x2_0_,iV x2_1_,.string x2_2_])]).run RY w=.ok (.slice (some ⟨w.heap.size,0,none⟩) 3 3) (w.alloc (.cells #[iV x0_0_,iV x0_1_,.string x0_2_,iV x1_0_,iV x1_1_,.string x1_2_,iV x2_0_,iV x2_1_,.string x2_2_] 23)):=by kernel_rfl
theorem KB (x0_0_:Int)(x0_1_:Int)(x0_2_:ByteArray)(x1_0_:Int)(x1_1_:Int)(x1_2_:ByteArray)(x2_0_:Int)(x2_1_:Int)(x2_2_:ByteArray)(x3_0_:Int)(x3_1_:Int)(x3_2_:ByteArray)(w:World):(Instr.buildSlice 30 4 #[(0,.agg #[iV x0_0_,iV x0_1_,.string x0_2_]),(1,.agg #[iV x1_0_,iV x1_1_,.string x1_2_]),(2,.agg #[iV x2_0_,iV x2_1_,.string x2_2_]),(3,.agg #[iV x3_0_,iV x3_1_,.string x3_2_])]).run RY w=.ok (.slice (some ⟨w.heap.size,0,none⟩) 4 4) (w.alloc (.cells #[iV x0_0_,iV x0_1_,.string x0_2_,iV x1_0_,iV x1_1_,.string x1_2_,iV x2_0_,iV x2_1_,.string x2_2_,iV x3_0_,iV x3_1_,.string x3_2_] 23)):=by kernel_rfl
theorem lF (x0_:Int)(w:World):(Instr.buildSlice 39 1 #[(0,iV x0_)]).run RY w=.ok (.slice (some ⟨w.heap.size,0,none⟩) 1 1) (w.alloc (.cells #[iV x0_] 3)):=by kernel_rfl
theorem KA (x0_:Int)(x1_:Int)(w:World):(Instr.buildSlice 39 2 #[(0,iV x0_),(1,iV x1_)]).run RY w=.ok (.slice (some ⟨w.heap.size,0,none⟩) 2 2) (w.alloc (.cells #[iV x0_,iV x1_] 3)):=by kernel_rfl
theorem Kz (x0_0_:Int)(x0_1_0_:Int)(x0_1_1_:Int)(x0_1_2_:ByteArray)(x0_2_:ByteArray)(w:World):(Instr.buildSlice 58 1 #[(0,.agg #[iV x0_0_,iV x0_1_0_,iV x0_1_1_,.string x0_1_2_,.string x0_2_])]).run RY w=.ok (.slice (some ⟨w.heap.size,0,none⟩) 1 1) (w.alloc (.cells #[iV x0_0_,iV x0_1_0_,iV x0_1_1_,.string x0_1_2_,.string x0_2_] 84)):=by kernel_rfl
theorem F0 (x0_:ByteArray)(w:World):(Instr.buildSlice 60 1 #[(0,.string x0_)]).run RY w=.ok (.slice (some ⟨w.heap.size,0,none⟩) 1 1) (w.alloc (.cells #[.string x0_] 9)):=by kernel_rfl
theorem mJ (x0_a:Option Addr)(x0_n x0_c:Nat)(x1_a:Option Addr)(x1_n x1_c:Nat)(w:World):(Instr.buildSlice 65 2 #[(0,.slice x0_a x0_n x0_c),(1,.slice x1_a x1_n x1_c)]).run RY w=.ok (.slice (some ⟨w.heap.size,0,none⟩) 2 2) (w.alloc (.cells #[.slice x0_a x0_n x0_c,.slice x1_a x1_n x1_c] 30)):=by kernel_rfl
theorem vJ (x0_0_:Int)(x0_1_:Int)(x0_2_:Int)(x0_3_:Int)(x0_4_a:Option Addr)(x0_4_n x0_4_c:Nat)(x0_5_a:Option Addr)(x0_5_n x0_5_c:Nat)(w:World):(Instr.buildSlice 94 1 #[(0,.agg #[iV x0_0_,iV x0_1_,iV x0_2_,iV x0_3_,.slice x0_4_a x0_4_n x0_4_c,.slice x0_5_a x0_5_n x0_5_c])]).run RY w=.ok (.slice (some ⟨w.heap.size,0,none⟩) 1 1) (w.alloc (.cells #[iV x0_0_,iV x0_1_,iV x0_2_,iV x0_3_,.slice x0_4_a x0_4_n x0_4_c,.slice x0_5_a x0_5_n x0_5_c] 42)):=by kernel_rfl
theorem zL (x0_0_:Int)(x0_1_0_:Int)(x0_1_1_:Int)(x0_1_2_:ByteArray)(x0_2_:Int)(x0_3_:Int)(w:World):(Instr.buildSlice 115 1 #[(0,.agg #[iV x0_0_,iV x0_1_0_,iV x0_1_1_,.string x0_1_2_,iV x0_2_,iV x0_3_])]).run RY w=.ok (.slice (some ⟨w.heap.size,0,none⟩) 1 1) (w.alloc (.cells #[iV x0_0_,iV x0_1_0_,iV x0_1_1_,.string x0_1_2_,iV x0_2_,iV x0_3_] 114)):=by kernel_rfl
theorem zK (x0_a:Option Addr)(x0_n x0_c:Nat)(x1_a:Option Addr)(x1_n x1_c:Nat)(w:World):(Instr.buildSlice 134 2 #[(0,.slice x0_a x0_n x0_c),(1,.slice x1_a x1_n x1_c)]).run RY w=.ok (.slice (some ⟨w.heap.size,0,none⟩) 2 2) (w.alloc (.cells #[.slice x0_a x0_n x0_c,.slice x1_a x1_n x1_c] 94)):=by kernel_rfl
theorem DN (x0_a:Option Addr)(x0_n x0_c:Nat)(x1_a:Option Addr)(x1_n x1_c:Nat)(w:World):(Instr.buildSlice 191 2 #[(0,.slice x0_a x0_n x0_c),(1,.slice x1_a x1_n x1_c)]).run RY w=.ok (.slice (some ⟨w.heap.size,0,none⟩) 2 2) (w.alloc (.cells #[.slice x0_a x0_n x0_c,.slice x1_a x1_n x1_c] 39)):=by kernel_rfl
theorem ES:sG RY 3 1 8=true:=by kernel_rfl
theorem O0:sG RY 9 1 16=true:=by kernel_rfl
theorem yW:sG RY 23 3 32=true:=by kernel_rfl
theorem ER:sG RY 42 6 80=true:=by kernel_rfl
theorem N2:sG RY 84 5 56=true:=by kernel_rfl
theorem N3:sG RY 114 6 56=true:=by kernel_rfl
instance:Fc (fU RY 3=true):=⟨su⟩
instance:Fc (fU RY 4=true):=⟨Pf⟩
instance:Fc (fU RY 9=true):=⟨Nj⟩
instance:Fc (fU RY 24=true):=⟨Fg⟩
instance:Fc (fU RY 30=true):=⟨xa⟩
instance:Fc (fU RY 39=true):=⟨Aa⟩
instance:Fc (fU RY 46=true):=⟨uY⟩
instance:Fc (fU RY 58=true):=⟨MI⟩
instance:Fc (fU RY 60=true):=⟨MH⟩
instance:Fc (fU RY 72=true):=⟨Ol⟩
instance:Fc (fU RY 89=true):=⟨Oj⟩
instance:Fc (fU RY 94=true):=⟨Dl⟩
instance:Fc (fU RY 97=true):=⟨Oi⟩
instance:Fc (fU RY 115=true):=⟨Gy⟩
instance:Fc (fU RY 116=true):=⟨Nn⟩
instance:Fc (fU RY 145=true):=⟨Nm⟩
instance:Fc (fU RY 170=true):=⟨Gx⟩
instance:Fc (fU RY 225=true):=⟨Nl⟩
instance:Fc (fU RY 227=true):=⟨Nk⟩
instance:FcA0 RY 23 0:=⟨sb⟩
instance:FcA RY 23 1 1:=⟨ww⟩
instance:FcA RY 23 2 2:=⟨HD⟩
instance:FcA0 RY 29 0:=⟨Mi⟩
instance:FcA RY 29 1 1:=⟨Mh⟩
instance:FcA RY 29 2 2:=⟨Mg⟩
instance:FcA RY 29 3 3:=⟨Mf⟩
instance:FcA RY 29 4 4:=⟨Me⟩
instance:FcA RY 29 5 5:=⟨Md⟩
instance:FcA RY 29 6 6:=⟨Mc⟩
instance:FcA0 RY 34 0:=⟨Mb⟩
instance:FcA RY 34 2 2:=⟨Ma⟩
instance:FcA0 RY 42 0:=⟨LZ⟩
instance:FcA RY 42 1 1:=⟨LY⟩
instance:FcA RY 42 2 2:=⟨LX⟩
instance:FcA RY 42 3 3:=⟨yE⟩
instance:FcA RY 42 4 4:=⟨EE⟩
instance:FcA RY 42 5 5:=⟨wv⟩
instance:FcA0 RY 53 0:=⟨LW⟩
instance:FcA RY 53 1 1:=⟨LV⟩
instance:FcA RY 53 2 2:=⟨LU⟩
instance:FcA RY 53 3 3:=⟨LT⟩
instance:FcA RY 53 4 4:=⟨LS⟩
instance:FcA0 RY 56 0:=⟨LR⟩
instance:FcA RY 56 1 1:=⟨LP⟩
instance:FcA RY 56 2 2:=⟨LO⟩
instance:FcA RY 56 3 3:=⟨LN⟩
instance:FcA RY 56 4 8:=⟨ED⟩
instance:FcA0 RY 75 0:=⟨LM⟩
instance:FcA RY 75 1 1:=⟨LL⟩
instance:FcA RY 75 2 2:=⟨LK⟩
instance:FcA0 RY 79 0:=⟨LJ⟩
instance:FcA RY 79 1 3:=⟨LI⟩
instance:FcA RY 79 3 11:=⟨EC⟩
instance:FcA RY 79 4 12:=⟨LH⟩
instance:FcA RY 79 5 13:=⟨HC⟩
instance:FcA RY 79 6 14:=⟨LG⟩
instance:FcA RY 79 7 15:=⟨LF⟩
instance:FcA RY 79 8 16:=⟨LE⟩
instance:FcA RY 79 9 17:=⟨EB⟩
instance:FcA RY 79 10 18:=⟨J6⟩
instance:FcA0 RY 82 0:=⟨LD⟩
instance:FcA RY 82 1 1:=⟨LC⟩
instance:FcA RY 82 2 2:=⟨LB⟩
instance:FcA RY 84 2 4:=⟨HA⟩
instance:FcA0 RY 96 0:=⟨AP⟩
instance:FcA RY 96 1 1:=⟨AO⟩
instance:FcA0 RY 99 0:=⟨yD⟩
instance:FcA RY 99 1 2:=⟨EA⟩
instance:FcA RY 99 2 3:=⟨LA⟩
instance:FcA RY 99 3 4:=⟨Lz⟩
instance:FcA0 RY 114 0:=⟨Kc⟩
instance:FcA RY 114 1 1:=⟨Cm⟩
instance:FcA RY 114 2 4:=⟨Cl⟩
instance:FcA RY 114 3 5:=⟨FL⟩
instance:FcA0 RY 118 0:=⟨yG⟩
instance:FcA RY 118 1 1:=⟨Kb⟩
instance:FcA0 RY 147 0:=⟨Ka⟩
instance:FcA0 RY 186 0:=⟨J9⟩
instance:FcA RY 186 1 2:=⟨FK⟩
instance:FcA RY 186 2 3:=⟨yF⟩
instance:FcA RY 186 3 4:=⟨J8⟩
instance:FcA RY 186 4 5:=⟨FJ⟩
instance:FcA0 RY 229 0:=⟨FI⟩
instance:FcA RY 229 1 2:=⟨Ck⟩
instance:FcA RY 229 2 3:=⟨J7⟩
instance:FcA RY 229 3 4:=⟨FH⟩
instance:FcS RY 30 23:=⟨hU⟩
instance:FcS RY 39 3:=⟨t0⟩
instance:FcS RY 50 53:=⟨t5⟩
instance:FcS RY 58 84:=⟨t9⟩
instance:FcS RY 60 9:=⟨z5⟩
instance:FcS RY 65 30:=⟨z9⟩
instance:FcS RY 94 42:=⟨Ex⟩
instance:FcS RY 115 114:=⟨EM⟩
instance:FcS RY 134 94:=⟨Q7⟩
instance:RepF Jh (fun x=> [iV x.SI,iV x.SG,iV x.SA,iV x.SF,iV x.Se,iV x.SH,iV x.SJ]):=⟨fun _ _ _ _ h=>h⟩
instance:RepF aF (fun x=> [iV x.Sa,iV x.N,.string x.S]):=⟨fun _ _ _ _ h=>h⟩
instance:RepF Oc (fun x=> [iV x.Sa,iV x.N,.string x.S]):=⟨fun _ _ _ _ h=>h⟩
instance:RepF vY (fun x=> [iV x.Up,iV x.SK.Sa,iV x.SK.N,.string x.SK.S,iV x.SP,iV x.SQ]):=⟨fun _ _ _ _ h=>h⟩
instance:RepF Ng (fun x=> [iV x.SS,iV x.SR.Sa,iV x.SR.N,.string x.SR.S,iV x.ST]):=⟨fun _ _ _ _ h=>h⟩
instance:RepF K7 (fun x=> [iV x.SE,iV x.SC,iV x.SD]):=⟨fun _ _ _ _ h=>h⟩
instance:RepF tz (fun x=> [iV x.Sa,iV x.SK.Sa,iV x.SK.N,.string x.SK.S,.string x.S]):=⟨fun _ _ _ _ h=>h⟩
instance:RepF Od (fun x=> [iV x.Sa,iV x.N,iV x.Value.Sa,iV x.Value.N,.string x.Value.S]):=⟨fun _ _ _ _ h=>h⟩
theorem IC:Tryz.prog.eqGuardType Tryz.prog.depth 34=false:=by kernel_rfl
theorem Mo (x y:RH)(w:World):(Op.equalIn 10000 34 ((Dw x)) ((Dw y))).run RY w=.ok (decide (x=y)) w:=by
 obtain ⟨xKind,xN,⟨xValueKind,xValueN,xValueS⟩⟩:=x;obtain ⟨yKind,yN,⟨yValueKind,yValueN,yValueS⟩⟩:=y;show (Op.equalIn 10000 34 (.agg #[iV xKind,iV xN,iV xValueKind,iV xValueN,.string xValueS]) (.agg #[iV yKind,iV yN,iV yValueKind,iV yValueN,.string yValueS])).run RY w=_
 go_simp
 simp only [CB];by_cases h0:xKind=yKind
 rotate_left
 ·simp [h0]
 by_cases h1:xN=yN
 rotate_left
 ·simp [h0,h1]
 by_cases h2:xValueKind=yValueKind
 rotate_left
 ·simp [h0,h1,h2]
 by_cases h3:xValueN=yValueN
 rotate_left
 ·simp [h0,h1,h2,h3]
 by_cases h4:xValueS=yValueS
 rotate_left
 ·simp [h0,h1,h2,h3,h4]
 simp [h0,h1,h2,h3,h4]
theorem Kg {s:bC}{C:World->Prop}{d:Option Nat}{ty u:TypeId}{pos:String}{af:Array Edge}{gd:Option (Nat×Bool)}{a b:Operand}{x y:RH}(hx:bx s a=some ((Dw x)))(hy:bx s b=some ((Dw y))):Ev RY s C ⟨d,.binOp .eql 34 a b u,ty,pos,af,gd⟩ (.bool (decide (x=y))):=
 gb hx hy fun w=>by
  rw [Sem.run_bind,run_eqGuard_agg w _ _ _ _ _ _ IC];simp only [Result.andThen_ok];rw [run_eql_struct,Mo];rfl
theorem IB:Tryz.prog.eqGuardType Tryz.prog.depth 82=false:=by kernel_rfl
theorem Mn (x y:Rq)(w:World):(Op.equalIn 10000 82 (.agg #[iV x.Sa,iV x.N,.string x.S]) (.agg #[iV y.Sa,iV y.N,.string y.S])).run RY w=.ok (decide (x=y)) w:=by
 obtain ⟨xKind,xN,xS⟩:=x;obtain ⟨yKind,yN,yS⟩:=y;show (Op.equalIn 10000 82 (.agg #[iV xKind,iV xN,.string xS]) (.agg #[iV yKind,iV yN,.string yS])).run RY w=_
 go_simp
 simp only [CB];by_cases h0:xKind=yKind<;>by_cases h1:xN=yN<;>by_cases h2:xS=yS<;>simp [h0,h1,h2]
theorem Kf {s:bC}{C:World->Prop}{d:Option Nat}{ty u:TypeId}{pos:String}{af:Array Edge}{gd:Option (Nat×Bool)}{a b:Operand}{x y:Rq}(hx:bx s a=some (.agg #[iV x.Sa,iV x.N,.string x.S]))(hy:bx s b=some (.agg #[iV y.Sa,iV y.N,.string y.S])):Ev RY s C ⟨d,.binOp .eql 82 a b u,ty,pos,af,gd⟩ (.bool (decide (x=y))):=
 gb hx hy fun w=>by
  rw [Sem.run_bind,run_eqGuard_agg w _ _ _ _ _ _ IB];simp only [Result.andThen_ok];rw [run_eql_struct,Mn];rfl
theorem Kn (x y:Rx)(w:World):(Op.equalIn 10000 202 ((JZ x)) ((JZ y))).run RY w=.ok (decide (x=y)) w:=by
 obtain ⟨xup_,⟨xkey_Kind,xkey_N,xkey_S⟩,xattrs_⟩:=x;obtain ⟨yup_,⟨ykey_Kind,ykey_N,ykey_S⟩,yattrs_⟩:=y;show (Op.equalIn 10000 202 (.agg #[iV xup_,iV xkey_Kind,iV xkey_N,.string xkey_S,iV xattrs_]) (.agg #[iV yup_,iV ykey_Kind,iV ykey_N,.string ykey_S,iV yattrs_])).run RY w=_
 go_simp
 simp only [CB];by_cases h0:xup_=yup_
 rotate_left
 ·simp [h0]
 by_cases h1:xkey_Kind=ykey_Kind
 rotate_left
 ·simp [h0,h1]
 by_cases h2:xkey_N=ykey_N
 rotate_left
 ·simp [h0,h1,h2]
 by_cases h3:xkey_S=ykey_S
 rotate_left
 ·simp [h0,h1,h2,h3]
 by_cases h4:xattrs_=yattrs_
 rotate_left
 ·simp [h0,h1,h2,h3,h4]
 simp [h0,h1,h2,h3,h4]
def ap (x:Rx):Value:=.agg #[iV x.SS,iV x.SR.Sa,iV x.SR.N,.string x.SR.S,iV x.ST]
theorem BW:KeyOk RY 202 ap where
 und:=⟨_,Tryz.underlying202,fun a b=> .inl rfl⟩
 eq:=fun a b w=>Kn a b w
 check:=fun e a w=>by
  obtain ⟨xup_,⟨xkey_Kind,xkey_N,xkey_S⟩,xattrs_⟩:=a;kernel_rfl
 bits:=fun a=>by
  obtain ⟨xup_,⟨xkey_Kind,xkey_N,xkey_S⟩,xattrs_⟩:=a;simp [ap,Instr.sameBits,GX]
def dl (N:Nat)(a0:Int)(a1:Int)(a2:Int):Option Bool:=
 (bif decide (a1<=a0) then (some (decide (a0<=a2))) else (some false)).bind fun b1=>some b1
theorem ez {N:Nat}{a0:Int}{a1:Int}{a2:Int}{r:Bool}(h:dl N a0 a1 a2=some r):Okc RY 74 [iV a0,iV a1,iV a2] ([]) (fun u post=>u=.bool r/\post=[]):=by
 refine cG Tryz.func74 ?_;refine gS 4 14 10 h ?_;intro b1 h;exact eY
theorem du {r:Bool}: ∀v post,((fun (u:Value) (post:List Chunk)=>u=.bool r/\post=[])) v post-> ∀c∈post,jJ c:=by
 rintro _ _ ⟨rfl,rfl⟩;exact ay
def kF (N:Nat)(a0:Rs):Option Bool:=
 (dl N a0.SI 0 1).bind fun y2=>(bif y2 then ((dl N a0.SG 0 1073741824).bind fun y4=>some y4) else (some false)).bind fun b3=>(bif b3 then ((dl N a0.SA 1 200).bind fun y6=>some y6) else (some false)).bind fun b5=>(bif b5 then ((dl N a0.SF 0 1048576).bind fun y8=>some y8) else (some false)).bind fun b7=>(bif b7 then ((dl N a0.Se 0 1073741824).bind fun a1=>some a1) else (some false)).bind fun b9=>(bif b9 then ((dl N a0.SH 0 1073741824).bind fun a2=>some a2) else (some false)).bind fun a6=>(bif a6 then ((dl N a0.SJ 0 4).bind fun a7=>some a7) else (some false)).bind fun a8=>some a8
theorem Bn {N:Nat}{a0:Rs}{r:Bool}(h:kF N a0=some r):Okc RY 33 [(FC a0)] ([]) (fun u post=>u=.bool r/\post=[]):=by
 refine cG Tryz.func33 ?_;intro B1;refine ab ?_;obtain ⟨y2,k,h⟩:=aa h;refine jQ (lP (ez k) call74.out J J J (ay) du) ?_;obtain ⟨b3,a8,h⟩:=aa h;refine aH 5 13 b3 ?_ ?_
 ·clear h;refine aE 8 J (fun g3=> ?_) (fun g3=> ?_)
  ·have h:=az g3 a8;refine ab ?_;obtain ⟨y4,k,h⟩:=aa h;refine gU (lP (ez k) call74.out J J J (ay) du) (cY g3 J) ?_;exact gY
  have h:=aA g3 a8;exact gY
 refine ab ?_;obtain ⟨b5,b0,h⟩:=aa h;refine aH 5 19 b5 ?_ ?_
 ·clear h;refine aE 14 J (fun g5=> ?_) (fun g5=> ?_)
  ·have h:=az g5 b0;refine ab ?_;obtain ⟨y6,k,h⟩:=aa h;refine gU (lP (ez k) call74.out J J J (ay) du) (cY g5 J) ?_;exact gY
  have h:=aA g5 b0;exact gY
 refine ab ?_;obtain ⟨b7,b1,h⟩:=aa h;refine aH 5 25 b7 ?_ ?_
 ·clear h;refine aE 20 J (fun g7=> ?_) (fun g7=> ?_)
  ·have h:=az g7 b1;refine ab ?_;obtain ⟨y8,k,h⟩:=aa h;refine gU (lP (ez k) call74.out J J J (ay) du) (cY g7 J) ?_;exact gY
  have h:=aA g7 b1;exact gY
 refine ab ?_;obtain ⟨b9,b2,h⟩:=aa h;refine aH 5 31 b9 ?_ ?_
 ·clear h;refine aE 26 J (fun g9=> ?_) (fun g9=> ?_)
  ·have h:=az g9 b2;refine ab ?_;obtain ⟨b8,k,h⟩:=aa h;refine gU (lP (ez k) call74.out J J J (ay) du) (cY g9 J) ?_;exact gY
  have h:=aA g9 b2;exact gY
 refine ab ?_;obtain ⟨b4,a1,h⟩:=aa h;refine aH 5 37 b4 ?_ ?_
 ·clear h;refine aE 32 J (fun a6=> ?_) (fun a6=> ?_)
  ·have h:=az a6 a1;refine ab ?_;obtain ⟨c0,k,h⟩:=aa h;refine gU (lP (ez k) call74.out J J J (ay) du) (cY a6 J) ?_;exact gY
  have h:=aA a6 a1;exact gY
 refine ab ?_;obtain ⟨b6,a2,h⟩:=aa h;refine aH 5 43 b6 ?_ ?_
 ·clear h;refine aE 38 J (fun a7=> ?_) (fun a7=> ?_)
  ·have h:=az a7 a2;refine ab ?_;obtain ⟨d0,k,h⟩:=aa h;refine gU (lP (ez k) call74.out J J J (ay) du) (cY a7 J) ?_;exact gY
  have h:=aA a7 a2;exact gY
 exact eY
def xR (N:Nat):Option Rr:=
 some (⟨([]:RU)⟩:Rr)
theorem CN {N:Nat}{r:Rr}(h:xR N=some r):Okc RY 75 [] ([]) (fun u post=> ∃B0 M1,u=pV B0 0/\post=[ac B0 147 [.map (some M1)],aj bf bI M1 r.at_]):=by
 refine cG Tryz.func75 ?_;refine gD (qU (ek:=bf) (ev:=bI)) ?_;rintro _ _ ⟨M1,rfl,rfl⟩;refine ab ?_;intro B2;exact eY
def Cd (N:Nat):Option RG:=
 (xR N).bind fun y1=>some (⟨(⟨[],[]⟩:Rp),[],[],y1⟩:RG)
theorem Fz {N:Nat}{r:RG}(h:Cd N=some r):Okc RY 34 [] ([]) (fun u post=> ∃B0 A1 n1 c1 A2 n2 c2 A3 n3 c3 A4 n4 c4 B5 M6,u=pV B0 0/\post=[ac B0 99 [U A1 n1 c1,U A2 n2 c2,U A3 n3 c3,U A4 n4 c4,pV B5 0],aR A1 n1 c1 r.m_.Se,aR A2 n2 c2 r.m_.Sc,aw A3 n3 c3 r.Si,aw A4 n4 c4 r.Sq,ac B5 147 [.map (some M6)],aj bf bI M6 r.So.at_]):=by
 refine cG Tryz.func34 ?_;obtain ⟨y1,k,h⟩:=aa h;refine gD (oC (CN k)) ?_;rintro _ _ ⟨_,⟨B2,M3,rfl,rfl⟩,rfl⟩
 refine iD fun B4=> ?_
 obtain rfl:=cB h;exact qb J J ((bh eB 42 _).trans ((bh eB 42 _).trans ((bh aF 23 _).trans ((bh aF 23 _).trans (cS [4,3,2,1,0,5,6] 7))))) ⟨_,_,_,_,_,_,_,_,_,_,_,_,_,_,_,J,J⟩
def zW (N:Nat):Option Rl:=
 some (⟨([(⟨(-1),(⟨0,0,⟨#[]⟩⟩:Rq),0,0⟩:RI)]:List RI),([]:(List (Rx×Int)))⟩:Rl)
theorem D6 {N:Nat}{r:Rl}(h:zW N=some r):Okc RY 35 [] ([]) (fun u post=> ∃B0 A1 n1 c1 M2,u=pV B0 0/\post=[ac B0 118 [U A1 n1 c1,.map (some M2)],f9 A1 n1 c1 r.Sf,aj ap dp M2 r.Ss]):=by
 refine cG Tryz.func35 ?_;refine gD (aY (R:=vY) (vss:=[[iV (-1),iV 0,iV 0,.string (⟨#[]⟩),iV 0,iV 0]]) (xs:=[(⟨(-1),(⟨0,0,⟨#[]⟩⟩:Rq),0,0⟩:RI)]) J (zL _ _ _ _ _ _) J J (fun _ _ hr=> .cons J All2.nil)) ?_;rintro _ _ ⟨A1,n1,c1,rfl,rfl⟩;refine gD (qU (ek:=ap) (ev:=dp)) ?_;rintro _ _ ⟨M2,rfl,rfl⟩;refine ab ?_;intro B3;exact eY
def aG (N:Nat)(a0:RG):Option Bool:=
 some false
theorem ca {N:Nat}{a0:RG}{r:Bool}(h:aG N a0=some r):Okc RY 49 [pV B1 0] ([ar B1 99 [U A2 n2 c2,U A3 n3 c3,U A4 n4 c4,U A5 n5 c5,pV B6 0],bi A2 n2 c2 a0.m_.Se,bi A3 n3 c3 a0.m_.Sc,bc A4 n4 c4 a0.Si,bc A5 n5 c5 a0.Sq,ar B6 147 [.map (some M7)],eS bf bI M7 a0.So.at_]) (fun u post=>u=.bool r/\post=[]):=by
 refine cG Tryz.func49 ?_;refine fm (bA J Tryz.underlying46) ?_;refine fm (bA J Q8) ?_;exact eN
def aZ (N:Nat)(a0:RG)(a1:Int):Option Ry:=
 (aG N a0).bind fun y9=>(bif y9 then (some true) else (some (decide (a1<0)))).bind fun a2=>(bif a2 then (some true) else (some (decide ((a0.Si.length:Int)<=a1)))).bind fun a6=>bif a6 then (some (⟨0,0,⟨#[]⟩⟩:Ry)) else ((au a0.Si a1).bind fun a7=>some a7)
theorem co {N:Nat}{a0:RG}{a1:Int}{r:Ry}(h:aZ N a0 a1=some r):Okc RY 38 [pV B1 0,iV a1] ([ar B1 99 [U A2 n2 c2,U A3 n3 c3,U A4 n4 c4,U A5 n5 c5,pV B6 0],bi A2 n2 c2 a0.m_.Se,bi A3 n3 c3 a0.m_.Sc,bc A4 n4 c4 a0.Si,bc A5 n5 c5 a0.Sq,ar B6 147 [.map (some M7)],eS bf bI M7 a0.So.at_]) (fun u post=>u=(fX r)/\post=[]):=by
 refine cG Tryz.func38 ?_;intro B8;refine sY ?_;obtain ⟨y9,k,h⟩:=aa h;refine jQ (oR (ca k)) ?_;refine gS 3 10 7 h ?_;intro a8 h;refine ab ?_;refine gS 8 19 11 h ?_;intro b0 h;refine fd h ?_ ?_<;>intro h
 ·exact eY
 refine ab ?_;obtain ⟨b1,a2,a6,a7,h⟩:=bG h;exact eY
def kE (N:Nat){σ:Type}(fy:(Bool×Ry)->σ->Option (Bool×σ))(a1:Rk):Nat->Int->σ->Option σ
 |0,_,_=>none
 |a8+1,a2,a7=>bif decide (a2<(a1.Sd.length:Int)) then ((au a1.Sd a2).bind fun b0=>(bif !decide (a1.Sa=8) then ((bif !decide (a1.Sa=10) then (some true) else (some (decide (a2.tmod 2=0)))).bind fun b1=>some b1) else (some false)).bind fun b2=>(fy (b2,b0) a7).bind fun a6=>bif !a6.1 then (some a6.2) else (bn (in64 (a2+1)) ((kE N fy a1 a8) (a2+1) a6.2))) else (some a7)
def rv (N:Nat){σ:Type}(fy:(Bool×Ry)->σ->Option (Bool×σ))(a1:Rk)(p5:σ):Option σ:=
 kE N fy a1 N 0 p5
def jH (N:Nat){σ:Type}(fy:(Bool×Ry)->σ->Option (Bool×σ))(a1:Rk):Nat->Int->σ->Option σ
 |0,_,_=>none
 |m6+1,p7,p8=>bif decide (p7<(a1.Sg.length:Int)) then ((au a1.Sg p7).bind fun a6=>(fy (true,a6) p8).bind fun a2=>bif !a2.1 then (some a2.2) else (bn (in64 (p7+1)) ((jH N fy a1 m6) (p7+1) a2.2))) else (rv N fy a1 p8)
def mI (N:Nat){σ:Type}(a1:Rk)(fy:(Bool×Ry)->σ->Option (Bool×σ))(s0:σ):Option σ:=
 jH N fy a1 N 0 s0
theorem vI {N:Nat}{σ:Type}{a1:Rk}{fy:(Bool×Ry)->σ->Option (Bool×σ)}{s0:σ}{r:σ}(h:mI N a1 fy s0=some r){l:Nat}{G:σ->List Chunk}(hY:sj RY l G (fun x=> [.bool x.1,.agg #[iV x.2.Sa,iV x.2.N,.string x.2.S]]) fy):Okc RY 156 [.func (.yield l) #[] #[],pV B1 0] (ar B1 42 [iV a1.Sa,iV a1.Sk,iV a1.Sj,iV a1.Sn,U A2 n2 c2,U A3 n3 c3]::bc A2 n2 c2 a1.Sg::bc A3 n3 c3 a1.Sd::(G s0)) (fun u post=>u=.tuple #[]/\post=G r):=by
 refine Ed Tryz.func156 J J ?_;simp only [sc];refine ao (fun s L=> ∃p5,rv N fy a1 p5=some r/\s=[(0,.func (.yield l) #[] #[]),(1,pV B1 0)]/\L=bc A2 n2 c2 a1.Sg::bc A3 n3 c3 a1.Sd::ar B1 42 [iV a1.Sa,iV a1.Sk,iV a1.Sj,iV a1.Sn,U A2 n2 c2,U A3 n3 c3]::(G p5)) ?_ ?_
 ·refine ab ?_;refine aW (fun m s L=> ∃p7 p8,jH N fy a1 m p7 p8=some r/\s=[(0,.func (.yield l) #[] #[]),(1,pV B1 0),(9,U A2 n2 c2),(10,iV (a1.Sg.length:Int)),(11,iV p7)]/\L=bc A2 n2 c2 a1.Sg::bc A3 n3 c3 a1.Sd::ar B1 42 [iV a1.Sa,iV a1.Sk,iV a1.Sj,iV a1.Sn,U A2 n2 c2,U A3 n3 c3]::(G p8)) N _ _ ⟨0,s0,h,J,J⟩ sA (cS [1,2,0] 3) ?_;rintro (_|m6) _ _ ⟨p7,p8,h,rfl,rfl⟩
  ·exact am h
  rw [jH.eq_2] at h;refine ab ?_;refine aL ?_;refine gH J h ?_ ?_<;>intro h
  ·refine sY ?_;obtain ⟨a7,b5,b6,b7,h⟩:=bG h
   refine iD fun b8=> ?_
   obtain ⟨d3,k,h⟩:=aa h;refine gD (wj (a:=(true,a7)) [ac b8 23 [iV a7.Sa,iV a7.N,.string a7.S],bc A2 n2 c2 a1.Sg,bc A3 n3 c3 a1.Sd,ar B1 42 [iV a1.Sa,iV a1.Sk,iV a1.Sj,iV a1.Sn,U A2 n2 c2,U A3 n3 c3]] hY k J J) ?_;rintro _ _ ⟨rfl,rfl⟩;refine fd h ?_ ?_<;>intro h
   ·exact eY
   refine ab ?_;obtain ⟨d4,h⟩:=ah h;exact lY
  exact jY
 rintro _ _ ⟨p5,h,rfl,rfl⟩;refine ab ?_;refine aW (fun m s L=> ∃b1 b2,kE N fy a1 m b1 b2=some r/\s=[(0,.func (.yield l) #[] #[]),(1,pV B1 0),(21,U A3 n3 c3),(22,iV (a1.Sd.length:Int)),(23,iV b1)]/\L=bc A3 n3 c3 a1.Sd::bc A2 n2 c2 a1.Sg::ar B1 42 [iV a1.Sa,iV a1.Sk,iV a1.Sj,iV a1.Sn,U A2 n2 c2,U A3 n3 c3]::(G b2)) N _ _ ⟨0,p5,h,J,J⟩ sA (cS [1,0,2] 3) ?_;rintro (_|d6) _ _ ⟨b1,b2,h,rfl,rfl⟩
 ·exact am h
 rw [kE.eq_2] at h;refine ab ?_;refine aL ?_;refine gH J h ?_ ?_<;>intro h
 ·refine sY ?_;obtain ⟨a8,b9,c0,d0,h⟩:=bG h
  refine iD fun d1=> ?_
  obtain ⟨b4,a2,h⟩:=aa h;refine aH 9 40 b4 ?_ ?_
  ·clear h;refine aE 31 J (fun b3=> ?_) (fun b3=> ?_)
   ·have h:=az b3 a2;refine ab ?_;obtain ⟨d2,a6,h⟩:=aa h;refine aH 4 39 d2 ?_ ?_
    ·clear h;refine aE 35 J (fun b0=> ?_) (fun b0=> ?_)
     ·have h:=az b0 a6;exact gY
     have h:=aA b0 a6;refine ab ?_;refine pP (rk J J (by decide)) J (jK b0 J) J ?_;exact gY
    exact gY
   have h:=aA b3 a2;exact gY
  refine ab ?_;obtain ⟨e2,k,h⟩:=aa h;refine gD (wj (a:=(b4,a8)) [ac d1 23 [iV a8.Sa,iV a8.N,.string a8.S],bc A3 n3 c3 a1.Sd,bc A2 n2 c2 a1.Sg,ar B1 42 [iV a1.Sa,iV a1.Sk,iV a1.Sj,iV a1.Sn,U A2 n2 c2,U A3 n3 c3]] hY k J J) ?_;rintro _ _ ⟨rfl,rfl⟩;refine fd h ?_ ?_<;>intro h
  ·exact eY
  refine ab ?_;obtain ⟨e3,h⟩:=ah h;exact lY
 exact eY
def rx (N:Nat)(a0:Rk):Option Unit:=
 some ()
theorem An {N:Nat}{a0:Rk}{r:Unit}(h:rx N a0=some r):Okc RY 118 [.agg #[iV a0.Sa,iV a0.Sk,iV a0.Sj,iV a0.Sn,U A1 n1 c1,U A2 n2 c2]] ([bc A1 n1 c1 a0.Sg,bc A2 n2 c2 a0.Sd]) (fun u post=> ∃a1,u=.func (.func 156) #[] #[pV a1 0]/\post=[ac a1 42 [iV a0.Sa,iV a0.Sk,iV a0.Sj,iV a0.Sn,U A1 n1 c1,U A2 n2 c2]]):=by
 refine cG Tryz.func118 ?_;intro B3;refine ab ?_;refine fm (dR J) ?_;exact eN
def pv (N:Nat)(a0:Ry)(a1:Bool):Option Bool:=
 bif a1 then (some (decide (1<=a0.N))) else ((bif decide (a0.N=0) then (some (decide (0<=a0.Sa))) else (some false)).bind fun a2=>(bif a2 then (some (decide (a0.Sa<=9))) else (some false)).bind fun a6=>some a6)
def t8 (N:Nat)(a0:Ry):Option Bool:=
 bif decide (a0.Sa=5) then ((bif decide (a0.N=0) then (some (decide ((a0.S.size:Int)<=65536))) else (some false)).bind fun b3=>some b3) else (bif !(a0.S.toList==(⟨#[]⟩:ByteArray).toList) then (some false) else (bif decide (a0.Sa=2) then ((bif decide (a0.N=0) then (some true) else (some (decide (a0.N=1)))).bind fun b6=>some b6) else (bif decide (a0.Sa=3) then ((bif decide ((-9007199254740992)<=a0.N) then (some (decide (a0.N<=9007199254740992))) else (some false)).bind fun b8=>some b8) else (bif decide (a0.Sa=6) then (pv N a0 (decide (a0.Sa=6))) else (bif decide (a0.Sa=7) then (pv N a0 (decide (a0.Sa=7))) else (pv N a0 (decide (a0.Sa=9))))))))
theorem FX {N:Nat}{a0:Ry}{r:Bool}(h:t8 N a0=some r):Okc RY 119 [(fX a0)] ([]) (fun u post=>u=.bool r/\post=[]):=by
 refine cG Tryz.func119 ?_;intro B1;refine sY ?_;refine gH J h ?_ ?_<;>intro h
 ·refine ab ?_;obtain ⟨b3,a2,h⟩:=aa h;refine aH 5 14 b3 ?_ ?_
  ·clear h;refine aE 9 J (fun g3=> ?_) (fun g3=> ?_)
   ·have h:=az g3 a2;refine ab ?_;refine pP (yI J Q9) J (cY g3 J) J ?_;exact gY
   have h:=aA g3 a2;exact gY
  exact eY
 refine sY ?_;refine fm (Ke J J) ?_;refine gH J h ?_ ?_<;>intro h
 ·exact eY
 refine sY ?_;refine gH J h ?_ ?_<;>intro h
 ·refine ab ?_;refine gS 4 29 25 h ?_;intro b6 h;exact eY
 refine fd h ?_ ?_<;>intro h
 ·refine ab ?_;refine gS 4 39 35 h ?_;intro b8 h;exact eY
 refine ao (fun s L=> ∃a1,pv N a0 a1=some r/\s=[(1,pV B1 0),(2,.bool false),(40,.bool a1)]/\L=[ac B1 23 (tO a0)]) ?_ ?_
 ·refine fd h ?_ ?_<;>intro h
  ·exact jY
  refine fd h ?_ ?_<;>intro h
  ·exact jY
  exact jY
 rintro _ _ ⟨a1,h,rfl,rfl⟩;refine gH J h ?_ ?_<;>intro h
 ·exact eY
 refine ab ?_;refine gS 4 54 50 h ?_;intro a6 h;refine ab ?_;refine gS 4 59 55 h ?_;intro a7 h;exact eY
def iZ (N:Nat)(p2:Bool):Option Bool:=
 bif p2 then (some true) else (some false)
def ua (N:Nat)(a0:Int):Option Bool:=
 bif decide (a0=1) then (iZ N (decide (a0=1))) else (bif decide (a0=2) then (iZ N (decide (a0=2))) else (bif decide (a0=3) then (iZ N (decide (a0=3))) else (bif decide (a0=6) then (iZ N (decide (a0=6))) else (bif decide (a0=8) then (iZ N (decide (a0=8))) else (bif decide (a0=9) then (iZ N (decide (a0=9))) else (iZ N (decide (a0=10))))))))
theorem FY {N:Nat}{a0:Int}{r:Bool}(h:ua N a0=some r):Okc RY 157 [iV a0] ([]) (fun u post=>u=.bool r/\post=[]):=by
 refine cG Tryz.func157 ?_;refine sZ ?_;refine ao (fun s L=> ∃p2,iZ N p2=some r/\s=[(2,.bool false),(4,.bool p2)]/\L=[]) ?_ ?_
 ·refine fd h ?_ ?_<;>intro h
  ·exact jY
  refine fd h ?_ ?_<;>intro h
  ·exact jY
  refine fd h ?_ ?_<;>intro h
  ·exact jY
  refine fd h ?_ ?_<;>intro h
  ·exact jY
  refine fd h ?_ ?_<;>intro h
  ·exact jY
  refine fd h ?_ ?_<;>intro h
  ·exact jY
  exact jY
 rintro _ _ ⟨p2,h,rfl,rfl⟩;refine gH J h ?_ ?_<;>intro h
 ·exact eY
 exact eY
def gA (N:Nat)(a0:Ry)(a1:Int):Option Bool:=
 (bif decide (a0.Sa=0) then (some true) else (some (decide (a0.Sa=a1)))).bind fun b2=>some b2
theorem jE {N:Nat}{a0:Ry}{a1:Int}{r:Bool}(h:gA N a0 a1=some r):Okc RY 158 [(fX a0),iV a1] ([]) (fun u post=>u=.bool r/\post=[]):=by
 refine cG Tryz.func158 ?_;intro B1;refine ab ?_;refine gS 5 13 8 h ?_;intro b2 h;exact eY
def iY (N:Nat)(a0:Rk):Option Bool:=
 (ua N a0.Sa).bind fun y4=>(bif y4 then (some true) else ((bif decide (a0.Sa=7) then (some (decide (0<(a0.Sg.length:Int)))) else (some false)).bind fun b6=>some b6)).bind fun b5=>bif b5 then ((bif decide (1<=(a0.Sg.length:Int)) then (some (decide ((a0.Sg.length:Int)<=1025))) else (some false)).bind fun b8=>(bif b8 then ((au a0.Sg 0).bind fun a1=>(bif decide (a1.Sa=1) then (some true) else ((au a0.Sg 0).bind fun a2=>some (decide (a2.Sa=7)))).bind fun a6=>some a6) else (some false)).bind fun b9=>some b9) else (bif decide (a0.Sa=7) then (some (decide (a0.Sk=0))) else ((bif !decide (a0.Sk=0) then (some true) else (some (!decide (a0.Sj=0)))).bind fun a7=>bif a7 then (some false) else (bif decide (a0.Sa=5) then ((bif decide ((a0.Sg.length:Int)=2) then ((au a0.Sg 0).bind fun a8=>(gA N a8 7).bind fun b0=>some b0) else (some false)).bind fun b1=>(bif b1 then ((au a0.Sg 1).bind fun b2=>(gA N b2 7).bind fun b3=>some b3) else (some false)).bind fun b4=>some b4) else (some (decide ((a0.Sg.length:Int)=0))))))
theorem xD {N:Nat}{a0:Rk}{r:Bool}(h:iY N a0=some r):Okc RY 120 [.agg #[iV a0.Sa,iV a0.Sk,iV a0.Sj,iV a0.Sn,U A1 n1 c1,U A2 n2 c2]] ([bc A1 n1 c1 a0.Sg,bc A2 n2 c2 a0.Sd]) (fun u post=>u=.bool r/\post=[]):=by
 refine cG Tryz.func120 ?_;intro B3;refine sY ?_;obtain ⟨y4,k,h⟩:=aa h;refine jQ (oR (FY k)) ?_;obtain ⟨b5,b7,h⟩:=aa h;refine aH 10 16 b5 ?_ ?_
 ·clear h;refine aE 6 J (fun g5=> ?_) (fun g5=> ?_)
  ·have h:=az g5 b7;exact gY
  have h:=aA g5 b7;refine ab ?_;refine gS 5 15 10 h ?_;intro b6 h;exact gY
 refine fd h ?_ ?_<;>intro h
 ·refine ab ?_;refine gS 5 26 21 h ?_;intro b8 h;refine ab ?_;obtain ⟨b9,c0,h⟩:=aa h;refine aH 15 42 b9 ?_ ?_
  ·clear h;refine aE 27 J (fun g9=> ?_) (fun g9=> ?_)
   ·have h:=az g9 c0;refine ab ?_;obtain ⟨e7,b1,b2,d0,h⟩:=bG h;refine ab ?_;refine tg (Br 1 J bj J (bP b1 b2) sb) J (cY g9 J) J ?_;refine ab ?_;obtain ⟨d1,a1,h⟩:=aa h;refine aH 7 41 d1 ?_ ?_
    ·clear h;refine aE 34 J (fun a7=> ?_) (fun a7=> ?_)
     ·have h:=az a7 a1;exact gY
     have h:=aA a7 a1;refine ab ?_;obtain ⟨e8,b3,b4,d2,h⟩:=bG h;refine ab ?_;refine tg (Br 1 J bj J (bP b3 b4) sb) J (jK a7 J) J ?_;exact gY
    exact gY
   have h:=aA g9 c0;exact gY
  exact eY
 refine sY ?_;refine gH J h ?_ ?_<;>intro h
 ·exact eY
 refine sY ?_;refine gS 4 56 52 h ?_;intro e9 h;refine fd h ?_ ?_<;>intro h
 ·exact eY
 refine sY ?_;refine gH J h ?_ ?_<;>intro h
 ·refine ab ?_;obtain ⟨d3,a2,h⟩:=aa h;refine aH 6 70 d3 ?_ ?_
  ·clear h;refine aE 64 J (fun a8=> ?_) (fun a8=> ?_)
   ·have h:=az a8 a2;refine ab ?_;obtain ⟨f1,d4,d6,e2,h⟩:=bG h;refine ab ?_;obtain ⟨f2,k,h⟩:=aa h;refine gU (oR (jE k)) (cY a8 J) ?_;exact gY
   have h:=aA a8 a2;exact gY
  refine ab ?_;obtain ⟨e3,a6,h⟩:=aa h;refine aH 6 77 e3 ?_ ?_
  ·clear h;refine aE 71 J (fun b0=> ?_) (fun b0=> ?_)
   ·have h:=az b0 a6;refine ab ?_;obtain ⟨f3,e4,e5,e6,h⟩:=bG h;refine ab ?_;obtain ⟨f4,k,h⟩:=aa h;refine gU (oR (jE k)) (cY b0 J) ?_;exact gY
   have h:=aA b0 a6;exact gY
  exact eY
 exact eY
def gC (N:Nat)(a0:Ry)(a1:Int)(a2:Int):Option Bool:=
 (bif decide (a0.Sa=3) then (some (decide (a1<=a0.N))) else (some false)).bind fun b2=>(bif b2 then (some (decide (a0.N<=a2))) else (some false)).bind fun b3=>some b3
theorem jF {N:Nat}{a0:Ry}{a1:Int}{a2:Int}{r:Bool}(h:gC N a0 a1 a2=some r):Okc RY 159 [(fX a0),iV a1,iV a2] ([]) (fun u post=>u=.bool r/\post=[]):=by
 refine cG Tryz.func159 ?_;intro B1;refine ab ?_;refine gS 5 15 10 h ?_;intro b2 h;refine ab ?_;refine gS 5 21 16 h ?_;intro b3 h;exact eY
def iz (N:Nat){σ:Type}(fy:RJ->σ->Option (Bool×σ))(a1:RJ)(a2:Int):Nat->Int->σ->Option σ
 |0,_,_=>none
 |m4+1,p5,p6=>bif decide (p5<(a1.length:Int)) then (bn ((0:Int)<=p5/\p5.toNat<=a1.length/\a1.length<=a1.length) (bn (in64 (p5+(min a2 (((a1.drop p5.toNat).take (a1.length - p5.toNat)).length:Int)))) (bn (in64 (p5+(min a2 (((a1.drop p5.toNat).take (a1.length - p5.toNat)).length:Int)))) (bn ((0:Int)<=p5/\(0:Int)<=p5+(min a2 (((a1.drop p5.toNat).take (a1.length - p5.toNat)).length:Int))/\p5.toNat<=(p5+(min a2 (((a1.drop p5.toNat).take (a1.length - p5.toNat)).length:Int))).toNat/\(p5+(min a2 (((a1.drop p5.toNat).take (a1.length - p5.toNat)).length:Int))).toNat<=a1.length) ((fy ((a1.drop p5.toNat).take ((p5+(min a2 (((a1.drop p5.toNat).take (a1.length - p5.toNat)).length:Int))).toNat - p5.toNat)) p6).bind fun a6=>bif !a6.1 then (some a6.2) else (bn (in64 (p5+a2)) ((iz N fy a1 a2 m4) (p5+a2) a6.2))))))) else (some p6)
def qF (N:Nat){σ:Type}(a1:RJ)(a2:Int)(fy:RJ->σ->Option (Bool×σ))(s0:σ):Option σ:=
 iz N fy a1 a2 N 0 s0
theorem Ay {N:Nat}{σ:Type}{a1:RJ}{a2:Int}{fy:RJ->σ->Option (Bool×σ)}{s0:σ}{r:σ}(h:qF N a1 a2 fy s0=some r){l:Nat}{G:σ->List Chunk}(hY:tf RY l G (fun (x:RJ) vs cs=> ∃A0 n0 c0,vs=[U A0 n0 c0]/\cs=[bc A0 n0 c0 x]) fy):Okc RY 206 [.func (.yield l) #[] #[],pV B1 0,pV B3 0] (ar B1 30 [U A2 n2 c2]::bc A2 n2 c2 a1::ar B3 3 [iV a2]::(G s0)) (fun u post=>u=.tuple #[]/\post=G r):=by
 refine cG Tryz.func206 ?_;refine aW (fun m s L=> ∃p5 p6,iz N fy a1 a2 m p5 p6=some r/\s=[(0,.func (.yield l) #[] #[]),(1,pV B1 0),(2,pV B3 0),(4,iV p5)]/\L=bc A2 n2 c2 a1::ar B1 30 [U A2 n2 c2]::ar B3 3 [iV a2]::(G p6)) N _ _ ⟨0,s0,h,J,J⟩ sA (cS [1,0,2] 3) ?_;rintro (_|m4) _ _ ⟨p5,p6,h,rfl,rfl⟩
 ·exact am h
 rw [iz.eq_2] at h;refine sZ ?_;refine gH J h ?_ ?_<;>intro h
 ·refine sY ?_;refine dY [0,1,2] ?_;obtain ⟨q8,h⟩:=ah h;refine zP 0 J (l:=p5.toNat) (h:=a1.length) q8.2.1 q8.2.2 ?_;rintro A9 n9 c9 e9;refine zR 3 J (vX 1 J e9 J hU size23.out J (by rw [Int.toNat_of_nonneg q8.1];rfl) q8.2.1) ?_;refine zY [4] ?_;refine zE 5 J (NF J J hP hP) ?_;refine zX [6] ?_;refine ab ?_;obtain ⟨a8,h⟩:=ah h;refine ab ?_;obtain ⟨b0,h⟩:=ah h;refine ab ?_;obtain ⟨a6,h⟩:=ah h;refine KT 1 J (l:=p5.toNat) (h:=(p5+(min a2 (((a1.drop p5.toNat).take (a1.length - p5.toNat)).length:Int))).toNat) a6.2.2.1 a6.2.2.2 ?_;rintro A13 n13 c13 a7;refine gR (Hg 2 J a7 J hU size23.out J (by rw [Int.toNat_of_nonneg a6.1];rfl) (by rw [Int.toNat_of_nonneg a6.2.1];rfl) (by rw [Int.toNat_of_nonneg a6.2.1];rfl) a6.2.2.1 a6.2.2.2) ?_;obtain ⟨b1,k,h⟩:=aa h;refine gD (Dk (a:=(a1.drop p5.toNat).take ((p5+(min a2 (((a1.drop p5.toNat).take (a1.length - p5.toNat)).length:Int))).toNat - p5.toNat)) [bc A13 n13 c13 ((a1.drop p5.toNat).take ((p5+(min a2 (((a1.drop p5.toNat).take (a1.length - p5.toNat)).length:Int))).toNat - p5.toNat)),bc A9 n9 c9 ((a1.drop p5.toNat).take (a1.length - p5.toNat)),bc A2 n2 c2 a1,ar B1 30 [U A2 n2 c2],ar B3 3 [iV a2]] hY k J J ⟨_,_,_,J,J⟩ (EF 0 J J)) ?_;rintro _ _ ⟨rfl,rfl⟩;refine fd h ?_ ?_<;>intro h
  ·exact eY
  refine ab ?_;obtain ⟨b2,h⟩:=ah h;exact lY
 exact eY
def jV (N:Nat)(a0:RJ)(a1:Int):Option Unit:=
 bif decide (a1<1) then none else (some ())
theorem wD {N:Nat}{a0:RJ}{a1:Int}{r:Unit}(h:jV N a0 a1=some r):Okc RY 188 [U A1 n1 c1,iV a1] ([bc A1 n1 c1 a0]) (fun u post=> ∃a2 a6,u=.func (.func 206) #[] #[pV a2 0,pV a6 0]/\post=[ac a2 30 [U A1 n1 c1],ac a6 3 [iV a1]]):=by
 refine cG Tryz.func188 ?_;intro B2
 refine iD fun B3=> ?_
 refine sZ ?_;refine gH J h ?_ ?_<;>intro h
 ·exact am h
 refine ab ?_;refine fm (dR J) ?_;exact eN
def bS (N:Nat)(a1:Int)(x9:RJ):(Unit)->Option (Option Exit×Unit)
 |()=>(au x9 0).bind fun a2=>(bif !decide (a2.Sa=7) then (some true) else ((au x9 1).bind fun a6=>some (decide (a6.Sa=8)))).bind fun a7=>bif a7 then (some (some .ret,())) else ((bif decide (a1=4) then ((au x9 2).bind fun a8=>(gA N a8 7).bind fun b0=>(bif !b0 then (some true) else ((au x9 3).bind fun b1=>(gC N b1 0 9007199254740992).bind fun b2=>some (!b2))).bind fun b3=>some b3) else (some false)).bind fun b4=>bif b4 then (some (some .ret,())) else (some (none,())))
def dz (N:Nat)(a0:RJ)(a1:Int):Option Bool:=
 bn (a1≠0) (bif !decide ((a0.length:Int).tmod a1=0) then (some false) else ((jV N a0 a1).bind fun y6=>(qF N a0 a1 (cQ (fun x st=>bS N a1 x st)) (none,())).bind fun a2=>qc a2.1 (some true) (some false) (fun _=>none)))
theorem pw {N:Nat}{a0:RJ}{a1:Int}{r:Bool}(h:dz N a0 a1=some r):Okc RY 160 [U A1 n1 c1,iV a1] ([bc A1 n1 c1 a0]) (fun u post=>u=.bool r/\post=[]):=by
 refine cG Tryz.func160 ?_;intro B2
 refine iD fun B3=> ?_
 refine sZ ?_;obtain ⟨q4,h⟩:=ah h;refine fm (rk J J q4) ?_;refine gH J h ?_ ?_<;>intro h
 ·exact eY
 refine sY ?_;obtain ⟨y6,k,h⟩:=aa h;refine gD (oR (wD k)) ?_;rintro _ _ ⟨_,⟨B7,B8,rfl,rfl⟩,rfl⟩;refine ab ?_;refine ic ?_ cD (gL 0 J);refine ic ?_ cD (gL 1 J);refine ab ?_;obtain ⟨e3,k,h⟩:=aa h;refine DV (R:=(fun (x:RJ) vs cs=> ∃A0 n0 c0,vs=[U A0 n0 c0]/\cs=[bc A0 n0 c0 x])) (fun x st=>bS N a1 x st) (fun (st:Unit) (mz:Unit)=> [ac B2 3 [iV a1],ac B3 4 [.bool false]]) [ar B7 30 [U A1 n1 c1],bc A1 n1 c1 a0,ar B8 3 [iV a1]] (()) (()) J J call206.out J (by rintro _ _ _ ⟨_,_,_,rfl,rfl⟩;rfl) (fun l G hY=>(Ay k hY).mono fun _ _ hh=>hh.2) (cp [0,4,1] [] [3,2] 5 J) h ?_ ?_ ?_ ?_
 ·rintro l x9 _ je sr9 _ h _ _ ⟨A10,n10,c10,rfl,rfl⟩;replace h:bS N a1 x9 ()=some (je,sr9):=h;simp only [yJ,List.zip_cons_cons,List.zip_nil_left,List.zip_nil_right,List.reverse_cons,List.reverse_nil,R4,List.cons_append];refine sY ?_;obtain ⟨e4,b2,b3,b6,h⟩:=bG h;refine ab ?_;refine Dv (Br 0 J bj J (bP b2 b3) sb) ?_;obtain ⟨b7,a2,h⟩:=aa h;refine aH 6 26 b7 ?_ ?_
  ·clear h;refine aE 20 J (fun a8=> ?_) (fun a8=> ?_)
   ·have h:=az a8 a2;exact gY
   have h:=aA a8 a2;refine ab ?_;obtain ⟨e5,b4,b5,b8,h⟩:=bG h;refine ab ?_;refine tg (Br 0 J bj J (bP b4 b5) sb) J (jK a8 J) J ?_;exact gY
  refine fd h ?_ ?_<;>intro h
  ·refine ab ?_;obtain ⟨rfl,rfl⟩:=Prod.mk.inj (Option.some.inj h);exact G2 ((cS [1,2] 3).trans (fQ () J))
  refine ab ?_;obtain ⟨b9,a6,h⟩:=aa h;refine aH 13 42 b9 ?_ ?_
  ·clear h;refine aE 29 J (fun b0=> ?_) (fun b0=> ?_)
   ·have h:=az b0 a6;refine ab ?_;obtain ⟨e6,d0,d1,d2,h⟩:=bG h;refine ab ?_;obtain ⟨e7,k,h⟩:=aa h;refine gU (oR (jE k)) (cY b0 J) ?_;refine ab ?_;obtain ⟨d3,a7,h⟩:=aa h;refine aH 6 41 d3 ?_ ?_
    ·clear h;refine aE 35 J (fun b1=> ?_) (fun b1=> ?_)
     ·have h:=az b1 a7;exact gY
     have h:=aA b1 a7;refine ab ?_;obtain ⟨e8,d4,d6,e2,h⟩:=bG h;refine ab ?_;obtain ⟨e9,k,h⟩:=aa h;refine gU (oR (jF k)) (jK b1 J) ?_;exact gY
    exact gY
   have h:=aA b0 a6;exact gY
  refine fd h ?_ ?_<;>intro h
  ·refine ab ?_;obtain ⟨rfl,rfl⟩:=Prod.mk.inj (Option.some.inj h);exact G2 ((cS [1,2] 3).trans (fQ () J))
  refine ab ?_;obtain ⟨rfl,rfl⟩:=Prod.mk.inj (Option.some.inj h);exact AG ((cS [1,2] 3).trans (fQ () J))
 ·rintro _ h;refine pc ([ac B2 3 [iV a1],ac B3 4 [.bool false]]) J ?_;exact eY
 ·rintro _ h;refine pc ([ac B2 3 [iV a1],ac B3 4 [.bool false]]) J ?_;exact eY
 rintro i _ h;exact am h
end
section
variable {A1 A10 A11 A12 A13 A14 A15 A16 A2 A3 A4 A5 A6 A7 A8 A9:Option Addr} {B1 B10 B2 B3 B6 B7 B8 B9 M11 M12 M7 M8 M9 c1 c10 c11 c12 c13 c14 c15 c16 c2 c3 c4 c5 c6 c7 c8 c9 n1 n10 n11 n12 n13 n14 n15 n16 n2 n3 n4 n5 n6 n7 n8 n9:Nat}
open Go.RowKit Asn
set_option maxRecDepth 20000
def lj (N:Nat)(a0:Int)(a1:RJ)(p5:Bool):Option Bool:=
 bif p5 then (some (decide ((a1.length:Int)=0))) else (bif decide (a0=3) then ((bif decide ((a1.length:Int)=3) then ((au a1 0).bind fun a2=>(gC N a2 0 9007199254740992).bind fun a6=>some a6) else (some false)).bind fun b9=>(bif b9 then ((au a1 1).bind fun a7=>(gA N a7 9).bind fun a8=>some a8) else (some false)).bind fun b0=>some b0) else (bif decide (a0=4) then ((bif decide (1<=(a1.length:Int)) then (some (decide ((a1.length:Int)<=4097))) else (some false)).bind fun b1=>(bif b1 then ((au a1 0).bind fun b2=>(gA N b2 9).bind fun b3=>some b3) else (some false)).bind fun b4=>some b4) else (bif decide (a0=6) then ((bif decide ((a1.length:Int)=2) then ((au a1 0).bind fun b5=>(gC N b5 0 3).bind fun b6=>some b6) else (some false)).bind fun b7=>(bif b7 then ((au a1 1).bind fun b8=>(gA N b8 9).bind fun c0=>some c0) else (some false)).bind fun d0=>some d0) else (bif decide (a0=7) then ((bif decide (4<=(a1.length:Int)) then ((au a1 2).bind fun d1=>(gC N d1 0 1).bind fun d2=>some d2) else (some false)).bind fun d3=>(bif d3 then ((au a1 3).bind fun d4=>(gC N d4 0 9007199254740992).bind fun d6=>some d6) else (some false)).bind fun e2=>some e2) else (bif decide (a0=8) then ((dz N a1 2).bind fun e3=>some e3) else (bif decide (a0=10) then ((bif decide (1<=(a1.length:Int)) then ((au a1 0).bind fun e4=>some (decide (e4.Sa=7))) else (some false)).bind fun e5=>(bif e5 then (bn ((0:Int)<=1/\(1:Int).toNat<=a1.length/\a1.length<=a1.length) ((dz N ((a1.drop ((1:Int).toNat)).take (a1.length - (1:Int).toNat)) 4).bind fun e6=>some e6)) else (some false)).bind fun e7=>some e7) else (bif decide (a0=9) then ((bif decide (2<=(a1.length:Int)) then ((au a1 0).bind fun e8=>(gC N e8 0 2).bind fun e9=>some e9) else (some false)).bind fun f1=>some f1) else (some true))))))))
def jG (N:Nat)(a0:Int)(a1:RJ):Option Bool:=
 bif decide (1048576<(a1.length:Int)) then (some false) else (bif decide (a0=2) then (some (decide ((a1.length:Int)<=4096))) else (bif decide (a0=1) then (lj N a0 a1 (decide (a0=1))) else (lj N a0 a1 (decide (a0=5)))))
theorem yP {N:Nat}{a0:Int}{a1:RJ}{r:Bool}(h:jG N a0 a1=some r):Okc RY 121 [iV a0,U A1 n1 c1] ([bc A1 n1 c1 a1]) (fun u post=>u=.bool r/\post=[]):=by
 refine cG Tryz.func121 ?_;refine sZ ?_;refine gH J h ?_ ?_<;>intro h
 ·exact eY
 refine sY ?_;refine gH J h ?_ ?_<;>intro h
 ·exact eY
 refine ao (fun s L=> ∃p5,lj N a0 a1 p5=some r/\s=[(1,U A1 n1 c1),(4,.bool false),(8,iV a0),(14,.bool p5)]/\L=[bc A1 n1 c1 a1]) ?_ ?_
 ·refine fd h ?_ ?_<;>intro h
  ·exact jY
  exact jY
 rintro _ _ ⟨p5,h,rfl,rfl⟩;refine gH J h ?_ ?_<;>intro h
 ·exact eY
 refine fd h ?_ ?_<;>intro h
 ·refine ab ?_;obtain ⟨b9,e3,h⟩:=aa h;refine aH 5 30 b9 ?_ ?_
  ·clear h;refine aE 25 J (fun g9=> ?_) (fun g9=> ?_)
   ·have h:=az g9 e3;refine ab ?_;obtain ⟨j2,e4,e5,e6,h⟩:=bG h;refine ab ?_;obtain ⟨j3,k,h⟩:=aa h;refine gU (oR (jF k)) (cY g9 J) ?_;exact gY
   have h:=aA g9 e3;exact gY
  refine ab ?_;obtain ⟨e7,a2,h⟩:=aa h;refine aH 5 36 e7 ?_ ?_
  ·clear h;refine aE 31 J (fun b6=> ?_) (fun b6=> ?_)
   ·have h:=az b6 a2;refine ab ?_;obtain ⟨j4,e8,e9,f1,h⟩:=bG h;refine ab ?_;obtain ⟨j5,k,h⟩:=aa h;refine gU (oR (jE k)) (cY b6 J) ?_;exact gY
   have h:=aA b6 a2;exact gY
  exact eY
 refine fd h ?_ ?_<;>intro h
 ·refine ab ?_;refine gS 4 46 42 h ?_;intro j6 h;refine ab ?_;obtain ⟨f2,a6,h⟩:=aa h;refine aH 5 52 f2 ?_ ?_
  ·clear h;refine aE 47 J (fun b7=> ?_) (fun b7=> ?_)
   ·have h:=az b7 a6;refine ab ?_;obtain ⟨j7,f3,f4,g0,h⟩:=bG h;refine ab ?_;obtain ⟨j8,k,h⟩:=aa h;refine gU (oR (jE k)) (cY b7 J) ?_;exact gY
   have h:=aA b7 a6;exact gY
  exact eY
 refine fd h ?_ ?_<;>intro h
 ·refine ab ?_;obtain ⟨g1,a7,h⟩:=aa h;refine aH 5 63 g1 ?_ ?_
  ·clear h;refine aE 58 J (fun b8=> ?_) (fun b8=> ?_)
   ·have h:=az b8 a7;refine ab ?_;obtain ⟨j9,g2,g3,g4,h⟩:=bG h;refine ab ?_;obtain ⟨k0,k,h⟩:=aa h;refine gU (oR (jF k)) (cY b8 J) ?_;exact gY
   have h:=aA b8 a7;exact gY
  refine ab ?_;obtain ⟨g5,a8,h⟩:=aa h;refine aH 5 69 g5 ?_ ?_
  ·clear h;refine aE 64 J (fun c0=> ?_) (fun c0=> ?_)
   ·have h:=az c0 a8;refine ab ?_;obtain ⟨k1,g6,g7,g8,h⟩:=bG h;refine ab ?_;obtain ⟨k2,k,h⟩:=aa h;refine gU (oR (jE k)) (cY c0 J) ?_;exact gY
   have h:=aA c0 a8;exact gY
  exact eY
 refine fd h ?_ ?_<;>intro h
 ·refine ab ?_;obtain ⟨h0,b0,h⟩:=aa h;refine aH 5 80 h0 ?_ ?_
  ·clear h;refine aE 75 J (fun d0=> ?_) (fun d0=> ?_)
   ·have h:=az d0 b0;refine ab ?_;obtain ⟨k3,h1,h2,h3,h⟩:=bG h;refine ab ?_;obtain ⟨k4,k,h⟩:=aa h;refine gU (oR (jF k)) (cY d0 J) ?_;exact gY
   have h:=aA d0 b0;exact gY
  refine ab ?_;obtain ⟨h4,b1,h⟩:=aa h;refine aH 5 86 h4 ?_ ?_
  ·clear h;refine aE 81 J (fun d1=> ?_) (fun d1=> ?_)
   ·have h:=az d1 b1;refine ab ?_;obtain ⟨k5,h5,h6,h7,h⟩:=bG h;refine ab ?_;obtain ⟨k6,k,h⟩:=aa h;refine gU (oR (jF k)) (cY d1 J) ?_;exact gY
   have h:=aA d1 b1;exact gY
  exact eY
 refine fd h ?_ ?_<;>intro h
 ·refine ab ?_;obtain ⟨k7,k,h⟩:=aa h;refine jQ (oR (pw k)) ?_;exact eN
 refine fd h ?_ ?_<;>intro h
 ·refine ab ?_;obtain ⟨h8,b2,h⟩:=aa h;refine aH 6 102 h8 ?_ ?_
  ·clear h;refine aE 96 J (fun d2=> ?_) (fun d2=> ?_)
   ·have h:=az d2 b2;refine ab ?_;obtain ⟨k8,d6,e2,h9,h⟩:=bG h;refine ab ?_;refine tg (Br 0 J bj J (bP d6 e2) sb) J (cY d2 J) J ?_;exact gY
   have h:=aA d2 b2;exact gY
  refine ab ?_;obtain ⟨i0,b3,h⟩:=aa h;refine aH 4 107 i0 ?_ ?_
  ·clear h;refine aE 103 J (fun b4=> ?_) (fun b4=> ?_)
   ·have h:=az b4 b3;refine ab ?_;obtain ⟨d3,h⟩:=ah h;refine MU 0 J (l:=(1:Int).toNat) (h:=a1.length) d3.2.1 d3.2.2 ?_;rintro k9 l0 l1 i1;refine tg (vX 1 J i1 J hU size23.out J (by rw [Int.toNat_of_nonneg d3.1];rfl) d3.2.1) J (cY b4 J) J ?_;obtain ⟨l2,k,h⟩:=aa h;refine gU (oR (pw k)) (cY b4 J) ?_;exact gY
   have h:=aA b4 b3;exact gY
  exact eY
 refine fd h ?_ ?_<;>intro h
 ·refine ab ?_;obtain ⟨i2,b5,h⟩:=aa h;refine aH 5 118 i2 ?_ ?_
  ·clear h;refine aE 113 J (fun d4=> ?_) (fun d4=> ?_)
   ·have h:=az d4 b5;refine ab ?_;obtain ⟨l3,i8,j0,j1,h⟩:=bG h;refine ab ?_;obtain ⟨l4,k,h⟩:=aa h;refine gU (oR (jF k)) (cY d4 J) ?_;exact gY
   have h:=aA d4 b5;exact gY
  exact eY
 exact eY
def fR (N:Nat)(a0:Rk)(a1:Bool×Ry):(Unit)->Option (Option Exit×Unit)
 |()=>(t8 N a1.2).bind fun a2=>bif !a2 then (some (some .ret,())) else (some (none,()))
def fA (N:Nat)(a0:Rk):Option Bool:=
 (bif decide (a0.Sa<1) then (some true) else (some (decide (11<a0.Sa)))).bind fun b5=>(bif b5 then (some true) else (some (decide (a0.Sk<0)))).bind fun b6=>(bif b6 then (some true) else (some (decide (a0.Sj<0)))).bind fun b7=>(bif b7 then (some true) else (some (decide (63<a0.Sj)))).bind fun b8=>(bif b8 then (some true) else ((bif !decide (a0.Sn=0) then (some (!decide (a0.Sn=1))) else (some false)).bind fun a1=>some a1)).bind fun b9=>bif b9 then (some false) else ((rx N a0).bind fun b0=>(mI N a0 (cQ (fun x st=>fR N a0 x st)) (none,())).bind fun a2=>qc a2.1 ((iY N a0).bind fun a6=>(bif a6 then ((jG N a0.Sa a0.Sd).bind fun a7=>some a7) else (some false)).bind fun a8=>some a8) (some false) (fun _=>none))
theorem kM {N:Nat}{a0:Rk}{r:Bool}(h:fA N a0=some r):Okc RY 81 [.agg #[iV a0.Sa,iV a0.Sk,iV a0.Sj,iV a0.Sn,U A1 n1 c1,U A2 n2 c2]] ([bc A1 n1 c1 a0.Sg,bc A2 n2 c2 a0.Sd]) (fun u post=>u=.bool r/\post=[]):=by
 refine cG Tryz.func81 ?_;intro B3
 refine iD fun B4=> ?_
 refine sZ ?_;refine gS 4 12 8 h ?_;intro b5 h;refine ab ?_;refine gS 4 17 13 h ?_;intro b6 h;refine ab ?_;refine gS 4 22 18 h ?_;intro b7 h;refine ab ?_;refine gS 4 27 23 h ?_;intro b8 h;refine ab ?_;obtain ⟨b9,a6,h⟩:=aa h;refine aH 9 37 b9 ?_ ?_
 ·clear h;refine aE 28 J (fun g9=> ?_) (fun g9=> ?_)
  ·have h:=az g9 a6;exact gY
  have h:=aA g9 a6;refine ab ?_;refine gS 4 36 32 h ?_;intro b1 h;exact gY
 refine fd h ?_ ?_<;>intro h
 ·exact eY
 refine sY ?_;obtain ⟨b2,k,h⟩:=aa h;refine gD (oR (An k)) ?_;rintro _ _ ⟨_,⟨a7,rfl,rfl⟩,rfl⟩;refine ab ?_;refine ic ?_ cD (gL 0 J);obtain ⟨b3,k,h⟩:=aa h;refine th (en:=(fun x=> [.bool x.1,.agg #[iV x.2.Sa,iV x.2.N,.string x.2.S]])) (fun x st=>fR N a0 x st) (fun (st:Unit) (mz:Unit)=> [bc A1 n1 c1 a0.Sg,bc A2 n2 c2 a0.Sd,ac B3 42 [iV a0.Sa,iV a0.Sk,iV a0.Sj,iV a0.Sn,U A1 n1 c1,U A2 n2 c2],ac B4 4 [.bool false]]) [ar a7 42 [iV a0.Sa,iV a0.Sk,iV a0.Sj,iV a0.Sn,U A1 n1 c1,U A2 n2 c2],bc A1 n1 c1 a0.Sg,bc A2 n2 c2 a0.Sd] (()) (()) J J call156.out J (fun _=>J) (fun l G hY=>(vI k hY).mono fun _ _ hh=>hh.2) (cp [0,3,4] [] [3,4,2,1] 5 J) h ?_ ?_ ?_ ?_
 ·rintro l a8 _ je sr14 _ h;replace h:fR N a0 a8 ()=some (je,sr14):=h;simp only [yJ,List.zip_cons_cons,List.zip_nil_left,List.zip_nil_right,List.reverse_cons,List.reverse_nil,R4,List.cons_append]
  refine iD fun b4=> ?_
  obtain ⟨c0,k,h⟩:=aa h;refine jQ (oR (FX k)) ?_;refine gH J h ?_ ?_<;>intro h
  ·refine ab ?_;obtain ⟨rfl,rfl⟩:=Prod.mk.inj (Option.some.inj h);exact G2 ((cS [1,2,3,4] 5).trans (fQ () J))
  refine ab ?_;obtain ⟨rfl,rfl⟩:=Prod.mk.inj (Option.some.inj h);exact AG ((cS [1,2,3,4] 5).trans (fQ () J))
 ·rintro _ h;refine pc ([bc A1 n1 c1 a0.Sg,bc A2 n2 c2 a0.Sd,ac B3 42 [iV a0.Sa,iV a0.Sk,iV a0.Sj,iV a0.Sn,U A1 n1 c1,U A2 n2 c2],ac B4 4 [.bool false]]) J ?_;refine ab ?_;obtain ⟨d0,k,h⟩:=aa h;refine jQ (oR (xD k)) ?_;obtain ⟨b0,a1,h⟩:=aa h;refine aH 6 53 b0 ?_ ?_
  ·clear h;refine aE 47 J (fun a2=> ?_) (fun a2=> ?_)
   ·have h:=az a2 a1;refine ab ?_;obtain ⟨d1,k,h⟩:=aa h;refine gU (oR (yP k)) (cY a2 J) ?_;exact gY
   have h:=aA a2 a1;exact gY
  exact eY
 ·rintro _ h;refine pc ([bc A1 n1 c1 a0.Sg,bc A2 n2 c2 a0.Sd,ac B3 42 [iV a0.Sa,iV a0.Sk,iV a0.Sj,iV a0.Sn,U A1 n1 c1,U A2 n2 c2],ac B4 4 [.bool false]]) J ?_;exact eY
 rintro i _ h;exact am h
def cF (N:Nat)(a0:RJ):Option RJ:=
 bn (cc (([]:List Ry).length+a0.length)) (some (([]:List Ry)++a0))
theorem eU {N:Nat}{a0:RJ}{r:RJ}(h:cF N a0=some r):Okc RY 76 [U A1 n1 c1] ([bc A1 n1 c1 a0]) (fun u post=> ∃A0 n0 c0,u=U A0 n0 c0/\post=[aw A0 n0 c0 r]):=by
 refine cG Tryz.func76 ?_;refine sZ ?_;refine fm (FN J hU) ?_;refine KU J (fun g2=> ?_) (fun g2=> ?_)
 ·replace g2:(A1).isNone=true:=by simpa using g2
  refine MD 0 J bj g2 (fun hx=> ?_);subst hx;replace h:bn (cc (([]:List Ry).length+([]:List Ry).length)) (some (([]:List Ry)++([]:List Ry)))=some r:=h
  replace h:some []=some r:=by simpa [bn] using h
  refine ab ?_;obtain rfl:=cB h;exact qb J J ((bh aF 23 _).trans (cS [0] 2)) ⟨_,_,_,J,J⟩
 refine ab ?_
 refine nr (aY (R:=aF) (vss:=[]) (xs:=[]) J (KD) J J (fun _ _ hr=>All2.nil)) fun A4 n4 c4=> ?_
 obtain ⟨q5,h⟩:=ah h
 refine nr (aX 0 1 J J bj J J hU yW J J q5) fun A6 n6 c6=> ?_
 exact eN
def eg (N:Nat)(a0:Rk):Option Rk:=
 (cF N a0.Sg).bind fun y5=>(cF N a0.Sd).bind fun y7=>some (⟨a0.Sa,a0.Sk,a0.Sj,a0.Sn,y5,y7⟩:Rk)
theorem i3 {N:Nat}{a0:Rk}{r:Rk}(h:eg N a0=some r):Okc RY 82 [.agg #[iV a0.Sa,iV a0.Sk,iV a0.Sj,iV a0.Sn,U A1 n1 c1,U A2 n2 c2]] ([bc A1 n1 c1 a0.Sg,bc A2 n2 c2 a0.Sd]) (fun u post=> ∃A0 n0 c0 A1 n1 c1,u=.agg #[iV r.Sa,iV r.Sk,iV r.Sj,iV r.Sn,U A0 n0 c0,U A1 n1 c1]/\post=[aw A0 n0 c0 r.Sg,aw A1 n1 c1 r.Sd]):=by
 refine cG Tryz.func82 ?_;intro B3
 refine iD fun B4=> ?_
 refine dY [0,1,3,4] ?_;obtain ⟨y5,k,h⟩:=aa h;refine zD 2 J (oR (eU k)) ?_;rintro _ _ ⟨_,⟨A6,n6,c6,rfl,rfl⟩,rfl⟩;refine aJ (cS [1,2,3,4] 5) ?_;refine zY [6] ?_;obtain ⟨y7,k,h⟩:=aa h;refine zD 5 J (oR (eU k)) ?_;rintro _ _ ⟨_,⟨A8,n8,c8,rfl,rfl⟩,rfl⟩;refine aJ (cS [2,3,4,5] 6) ?_;refine qo 7 J I I (ax (us:=[U A6 n6 c6]) (cs':=[iV a0.Sa,iV a0.Sk,iV a0.Sj,iV a0.Sn,U A6 n6 c6,U A2 n2 c2]) 3 J J J J size30.out J J J) ?_;rintro _ _ rfl;refine zY [8] ?_;refine qo 9 J I I (ax (us:=[U A8 n8 c8]) (cs':=[iV a0.Sa,iV a0.Sk,iV a0.Sj,iV a0.Sn,U A6 n6 c6,U A8 n8 c8]) 3 J J J J size30.out J J J) ?_;rintro _ _ rfl;refine ju I ?_;exact eY
def ee (N:Nat)(a0:RG)(a1:Rk):Option (Int×Int×RG):=
 (aG N a0).bind fun a6=>bif a6 then (some (0,1,a0)) else ((fA N a1).bind fun a7=>bif !a7 then (some (0,51,a0)) else ((eg N a1).bind fun a2=>bn (cc (a0.m_.Se.length+([(⟨a2.Sa,a2.Sk,a2.Sj,0,a2.Sg,a2.Sd⟩:Rk)]:List Rk).length)) (bn (in64 (2*((a0.m_.Se++([(⟨a2.Sa,a2.Sk,a2.Sj,0,a2.Sg,a2.Sd⟩:Rk)]:List Rk)).length:Int))) (bn (in64 ((2*((a0.m_.Se++([(⟨a2.Sa,a2.Sk,a2.Sj,0,a2.Sg,a2.Sd⟩:Rk)]:List Rk)).length:Int)) - 1)) (some ((2*((a0.m_.Se++([(⟨a2.Sa,a2.Sk,a2.Sj,0,a2.Sg,a2.Sd⟩:Rk)]:List Rk)).length:Int)) - 1,0,(⟨(⟨a0.m_.Se++([(⟨a2.Sa,a2.Sk,a2.Sj,0,a2.Sg,a2.Sd⟩:Rk)]:List Rk),a0.m_.Sc⟩:Rp),a0.Si,a0.Sq,a0.So⟩:RG)))))))
theorem nV {N:Nat}{a0:RG}{a1:Rk}{r:Int×Int×RG}(h:ee N a0 a1=some r):Okc RY 42 [pV B1 0,.agg #[iV a1.Sa,iV a1.Sk,iV a1.Sj,iV a1.Sn,U A8 n8 c8,U A9 n9 c9]] ([bc A8 n8 c8 a1.Sg,bc A9 n9 c9 a1.Sd,ac B1 99 [U A2 n2 c2,U A3 n3 c3,U A4 n4 c4,U A5 n5 c5,pV B6 0],aR A2 n2 c2 a0.m_.Se,aR A3 n3 c3 a0.m_.Sc,aw A4 n4 c4 a0.Si,aw A5 n5 c5 a0.Sq,ac B6 147 [.map (some M7)],aj bf bI M7 a0.So.at_]) (fun u post=> ∃A0 n0 c0 A1 n1 c1 A2 n2 c2 A3 n3 c3 M4,u=.tuple #[iV r.1,iV r.2.1]/\post=[ac B1 99 [U A0 n0 c0,U A1 n1 c1,U A2 n2 c2,U A3 n3 c3,pV B6 0],aR A0 n0 c0 r.2.2.m_.Se,aR A1 n1 c1 r.2.2.m_.Sc,aw A2 n2 c2 r.2.2.Si,aw A3 n3 c3 r.2.2.Sq,ac B6 147 [.map (some M4)],aj bf bI M4 r.2.2.So.at_]):=by
 refine cG Tryz.func42 ?_;intro B10;refine sY ?_;obtain ⟨d1,k,h⟩:=aa h;refine jQ (oR (ca k)) ?_;refine gH J h ?_ ?_<;>intro h
 ·exact eY
 refine ab ?_;obtain ⟨d2,k,h⟩:=aa h;refine jQ (oR (kM k)) ?_;refine gH J h ?_ ?_<;>intro h
 ·exact eY
 refine ab ?_;obtain ⟨a2,k,h⟩:=aa h
 refine Ew (oR (i3 k)) fun A16 n16 c16 b0 b1 b2=> ?_
 refine aL ?_;refine ic ?_ cD (bJ 0 J);refine ab ?_;refine ic ?_ cD (bJ 1 J);refine ic (t:=[(0,pV B1 0),(3,pV B10 0),(4,iV 0),(5,iV 0)]) ?_ mw (ae _)
 refine jv I 8 [0] [0,5,7] [16,17,18,19,20,21,22,23] [[],[],[1],[2],[3],[4],[],[6]] [aV (pV B1 0),
aV (pV B1 0),
aV (pV B1 0),
aV (pV B1 0),
aV (pV B1 0),
aV (U A2 n2 c2),
aV (.agg #[iV a2.Sa,iV a2.Sk,iV a2.Sj,iV 0,U A16 n16 c16,U b0 b1 b2]),
aX3 (fun (a6:Option Addr) (a7 a8:Nat)=> U a6 a7 a8) (fun a6 a7 a8=> [aR a6 a7 a8 ([(⟨a2.Sa,a2.Sk,a2.Sj,0,a2.Sg,a2.Sd⟩:Rk)]:List Rk)])] [] (ae _) (wg rfl mf) I rfl rfl ?_ ?_ ?_
 ·refine we J ?_ ?_
  ·exact DS (bo J) J (aQ J (ae _))
  exact me
 ·refine ad J ?_ ?_
  ·refine uz (aY (R:=eB) (vss:=[[iV a2.Sa,iV a2.Sk,iV a2.Sj,iV 0,U A16 n16 c16,U b0 b1 b2]]) (xs:=[(⟨a2.Sa,a2.Sk,a2.Sj,0,a2.Sg,a2.Sd⟩:Rk)]) J (vJ _ _ _ _ _ _ _ _ _ _) J J (fun _ _ hr=> .cons (⟨_,_,_,_,_,_,J,hr 0 _ J J,hr 1 _ J J⟩) All2.nil)) J ?_;rintro _ _ ⟨b7,b8,b9,rfl,rfl⟩;exact AE b7 b8 b9 (ae _)
  refine ad J ?_ ?_
  ·exact er (mM (us:=[iV a2.Sa,iV a2.Sk,iV a2.Sj,iV 0,U A16 n16 c16,U b0 b1 b2]) 2 J J agg42.out J) J (aQ J (ae _))
  refine ad J ?_ ?_
  ·exact er (bL 5 J J Dl J) J (aQ J (ae _))
  refine ad J ?_ ?_
  ·exact ci (ml J AP) J (aQ J (ae _))
  refine ad J ?_ ?_
  ·exact ci (ml J yD) J (aQ J (ae _))
  refine ad J ?_ ?_
  ·exact ci (bz J) J (aQ J (ae _))
  refine ad J ?_ ?_
  ·exact ci (bo J) J (aQ J (ae _))
  refine ad J ?_ ?_
  ·exact ci (bo J) J (aQ J (ae _))
  exact eJ
 intro a6 a7 a8;refine oe (t:=[(16,pV B1 0),(21,U A2 n2 c2),(23,U a6 a7 a8),(0,pV B1 0),(3,pV B10 0),(4,iV 0),(5,iV 0)]) (L':=[aR a6 a7 a8 ([(⟨a2.Sa,a2.Sk,a2.Sj,0,a2.Sg,a2.Sd⟩:Rk)]:List Rk),bc A16 n16 c16 a2.Sg,bc b0 b1 b2 a2.Sd,ac B10 42 [iV a2.Sa,iV a2.Sk,iV a2.Sj,iV 0,U A16 n16 c16,U b0 b1 b2],bc A8 n8 c8 a1.Sg,bc A9 n9 c9 a1.Sd,ac B1 99 [U A2 n2 c2,U A3 n3 c3,U A4 n4 c4,U A5 n5 c5,pV B6 0],aR A2 n2 c2 a0.m_.Se,aR A3 n3 c3 a0.m_.Sc,aw A4 n4 c4 a0.Si,aw A5 n5 c5 a0.Sq,ac B6 147 [.map (some M7)],aj bf bI M7 a0.So.at_]) ?_ mw (ae _);obtain ⟨d0,h⟩:=ah h;refine pz 8 J I (aX 7 0 J J aI J J Ex ER J J d0) J J J ?_;rintro _ _ ⟨b3,b4,b5,rfl,rfl⟩;refine yU 9 J I (bz J) J J J ?_;refine yU 10 J I (ml J yD) J J J ?_;refine yU 11 J I (ml J AP) J J J ?_;refine yT 12 J I (ax (us:=[U b3 b4 b5]) (cs':=[U b3 b4 b5,U A3 n3 c3,U A4 n4 c4,U A5 n5 c5,pV B6 0]) 6 J J J J size94.out J J J) J J ?_;rintro _ _ rfl;refine Dn ?_;refine ms I ?_;refine ab ?_;obtain ⟨b6,h⟩:=ah h;refine gE (sC J J b6.1 b6.2) ?_;obtain ⟨d3,h⟩:=ah h;exact eY
def ir (N:Nat)(a0:Rn)(a2:Int)(a6:Int)(a7:ByteArray)(a8:Int):Option (Ry×Rn):=
 (ee N a0.Sb (⟨1,0,a8,0,([(⟨a2,a6,a7⟩:Ry)]:List Ry),[]⟩:Rk)).bind fun a1=>some ((⟨7,a1.1,⟨#[]⟩⟩:Ry),(⟨a0.Sr,a0.Sh,(),a1.2.2,a0.Sf,a0.St,a0.Sy,a0.Sx,a0.Sz,a0.Sv,a0.Su⟩:Rn))
def dr (N:Nat)(a1:Int)(a0:Rn)(a2:Int)(a6:Int)(a7:ByteArray):Option (Ry×Rn):=
 bif decide (a1=17) then (ir N a0 a2 a6 a7 1) else (ir N a0 a2 a6 a7 17)
def iu (N:Nat)(a1:Int)(a0:Rn)(a7:Bool):Option (Ry×Rn):=
 bif a7 then ((aZ N a0.Sb 3).bind fun a2=>dr N a1 a0 a2.Sa a2.N a2.S) else ((aZ N a0.Sb 0).bind fun a6=>dr N a1 a0 a6.Sa a6.N a6.S)
def eW (N:Nat)(a1:Int)(a0:Rn)(a6:Bool):Option (Ry×Rn):=
 bif a6 then ((aZ N a0.Sb 5).bind fun a2=>dr N a1 a0 a2.Sa a2.N a2.S) else (bif decide (a1=4) then (iu N a1 a0 (decide (a1=4))) else (iu N a1 a0 (decide (a1=16))))
def nk (N:Nat)(a0:Rn)(a1:Int):Option (Ry×Rn):=
 bif decide (a1=0) then (dr N a1 a0 1 0 (⟨#[]⟩)) else (bif decide (a1=6) then (eW N a1 a0 (decide (a1=6))) else (bif decide (a1=7) then (eW N a1 a0 (decide (a1=7))) else (eW N a1 a0 (decide (a1=8)))))
theorem mx {N:Nat}{a0:Rn}{a1:Int}{r:Ry×Rn}(h:nk N a0 a1=some r):Okc RY 37 [pV B1 0,iV a1] ([ac B1 79 (iU a0 B2 B9 A12 n12 c12 A13 n13 c13 A14 n14 c14),ac B2 99 [U A3 n3 c3,U A4 n4 c4,U A5 n5 c5,U A6 n6 c6,pV B7 0],aR A3 n3 c3 a0.Sb.m_.Se,aR A4 n4 c4 a0.Sb.m_.Sc,aw A5 n5 c5 a0.Sb.Si,aw A6 n6 c6 a0.Sb.Sq,ac B7 147 [.map (some M8)],aj bf bI M8 a0.Sb.So.at_,ac B9 118 [U A10 n10 c10,.map (some M11)],f9 A10 n10 c10 a0.Sf.Sf,aj ap dp M11 a0.Sf.Ss,ce A12 n12 c12 a0.St,gX A13 n13 c13 a0.Sv,ce A14 n14 c14 a0.Su]) (fun u post=> ∃A0 n0 c0 A1 n1 c1 A2 n2 c2 A3 n3 c3 M4 A5 n5 c5 M6 A7 n7 c7 A8 n8 c8 A9 n9 c9,u=.agg #[iV r.1.Sa,iV r.1.N,.string r.1.S]/\post=[ac B1 79 (iU r.2 B2 B9 A7 n7 c7 A8 n8 c8 A9 n9 c9),ac B2 99 [U A0 n0 c0,U A1 n1 c1,U A2 n2 c2,U A3 n3 c3,pV B7 0],aR A0 n0 c0 r.2.Sb.m_.Se,aR A1 n1 c1 r.2.Sb.m_.Sc,aw A2 n2 c2 r.2.Sb.Si,aw A3 n3 c3 r.2.Sb.Sq,ac B7 147 [.map (some M4)],aj bf bI M4 r.2.Sb.So.at_,ac B9 118 [U A5 n5 c5,.map (some M6)],f9 A5 n5 c5 r.2.Sf.Sf,aj ap dp M6 r.2.Sf.Ss,ce A7 n7 c7 r.2.St,gX A8 n8 c8 r.2.Sv,ce A9 n9 c9 r.2.Su]):=by
 refine cG Tryz.func37 ?_;intro a2
 refine iD fun b0=> ?_
 refine ao (fun s L=> ∃a6 a7 a8,dr N a1 a0 a6 a7 a8=some r/\s=[(0,pV B1 0),(1,iV a1),(4,pV a2 0),(5,pV b0 0)]/\L=[ce A12 n12 c12 a0.St,gX A13 n13 c13 a0.Sv,ce A14 n14 c14 a0.Su,ac B1 79 (iU a0 B2 B9 A12 n12 c12 A13 n13 c13 A14 n14 c14),ac a2 23 [iV 0,iV 0,.string (⟨#[]⟩)],ac b0 23 [iV a6,iV a7,.string a8],aR A3 n3 c3 a0.Sb.m_.Se,aR A4 n4 c4 a0.Sb.m_.Sc,aw A5 n5 c5 a0.Sb.Si,aw A6 n6 c6 a0.Sb.Sq,ac B2 99 [U A3 n3 c3,U A4 n4 c4,U A5 n5 c5,U A6 n6 c6,pV B7 0],f9 A10 n10 c10 a0.Sf.Sf,aj ap dp M11 a0.Sf.Ss,ac B9 118 [U A10 n10 c10,.map (some M11)],aj bf bI M8 a0.Sb.So.at_,ac B7 147 [.map (some M8)]]) ?_ ?_
 ·refine fd h ?_ ?_<;>intro h
  ·exact jY
  refine ao (fun s L=> ∃b2,eW N a1 a0 b2=some r/\s=[(0,pV B1 0),(1,iV a1),(4,pV a2 0),(5,pV b0 0),(10,iV a1),(18,.bool b2)]/\L=[ce A12 n12 c12 a0.St,gX A13 n13 c13 a0.Sv,ce A14 n14 c14 a0.Su,ac B1 79 (iU a0 B2 B9 A12 n12 c12 A13 n13 c13 A14 n14 c14),ac a2 23 [iV 0,iV 0,.string (⟨#[]⟩)],ac b0 23 [iV 1,iV 0,.string (⟨#[]⟩)],aR A3 n3 c3 a0.Sb.m_.Se,aR A4 n4 c4 a0.Sb.m_.Sc,aw A5 n5 c5 a0.Sb.Si,aw A6 n6 c6 a0.Sb.Sq,ac B2 99 [U A3 n3 c3,U A4 n4 c4,U A5 n5 c5,U A6 n6 c6,pV B7 0],f9 A10 n10 c10 a0.Sf.Sf,aj ap dp M11 a0.Sf.Ss,ac B9 118 [U A10 n10 c10,.map (some M11)],aj bf bI M8 a0.Sb.So.at_,ac B7 147 [.map (some M8)]]) ?_ ?_
  ·refine fd h ?_ ?_<;>intro h
   ·exact jY
   refine fd h ?_ ?_<;>intro h
   ·exact jY
   exact jY
  rintro _ _ ⟨b2,h,rfl,rfl⟩;refine gH J h ?_ ?_<;>intro h
  ·refine ab ?_;obtain ⟨b8,k,h⟩:=aa h;refine jQ (oR (co k)) ?_;exact jN
  refine ao (fun s L=> ∃b3,iu N a1 a0 b3=some r/\s=[(0,pV B1 0),(1,iV a1),(4,pV a2 0),(5,pV b0 0),(27,.bool b3)]/\L=[ce A12 n12 c12 a0.St,gX A13 n13 c13 a0.Sv,ce A14 n14 c14 a0.Su,ac B1 79 (iU a0 B2 B9 A12 n12 c12 A13 n13 c13 A14 n14 c14),ac a2 23 [iV 0,iV 0,.string (⟨#[]⟩)],ac b0 23 [iV 1,iV 0,.string (⟨#[]⟩)],aR A3 n3 c3 a0.Sb.m_.Se,aR A4 n4 c4 a0.Sb.m_.Sc,aw A5 n5 c5 a0.Sb.Si,aw A6 n6 c6 a0.Sb.Sq,ac B2 99 [U A3 n3 c3,U A4 n4 c4,U A5 n5 c5,U A6 n6 c6,pV B7 0],f9 A10 n10 c10 a0.Sf.Sf,aj ap dp M11 a0.Sf.Ss,ac B9 118 [U A10 n10 c10,.map (some M11)],aj bf bI M8 a0.Sb.So.at_,ac B7 147 [.map (some M8)]]) ?_ ?_
  ·refine fd h ?_ ?_<;>intro h
   ·exact jY
   exact jY
  rintro _ _ ⟨b3,h,rfl,rfl⟩;refine gH J h ?_ ?_<;>intro h
  ·refine ab ?_;obtain ⟨b9,k,h⟩:=aa h;refine jQ (oR (co k)) ?_;exact jN
  refine ab ?_;obtain ⟨d0,k,h⟩:=aa h;refine jQ (oR (co k)) ?_;exact jN
 rintro _ _ ⟨a6,a7,a8,h,rfl,rfl⟩;refine ab ?_
 refine nr (aY (R:=aF) (vss:=[[iV a6,iV a7,.string a8]]) (xs:=[(⟨a6,a7,a8⟩:Ry)]) J (rC _ _ _) J J (fun _ _ hr=> .cons J All2.nil)) fun b4 b5 b6=> ?_
 intro b7;refine ab ?_;refine ao (fun s L=> ∃b1,ir N a0 a6 a7 a8 b1=some r/\s=[(0,pV B1 0),(4,pV a2 0),(6,pV b7 0)]/\L=[ce A12 n12 c12 a0.St,gX A13 n13 c13 a0.Sv,ce A14 n14 c14 a0.Su,ac B1 79 (iU a0 B2 B9 A12 n12 c12 A13 n13 c13 A14 n14 c14),ac a2 23 [iV 0,iV 0,.string (⟨#[]⟩)],aw b4 b5 b6 ([(⟨a6,a7,a8⟩:Ry)]:List Ry),ac b7 42 [iV 1,iV 0,iV b1,iV 0,U b4 b5 b6,U none 0 0],aR A3 n3 c3 a0.Sb.m_.Se,aR A4 n4 c4 a0.Sb.m_.Sc,aw A5 n5 c5 a0.Sb.Si,aw A6 n6 c6 a0.Sb.Sq,ac B2 99 [U A3 n3 c3,U A4 n4 c4,U A5 n5 c5,U A6 n6 c6,pV B7 0],f9 A10 n10 c10 a0.Sf.Sf,aj ap dp M11 a0.Sf.Ss,ac B9 118 [U A10 n10 c10,.map (some M11)],aj bf bI M8 a0.Sb.So.at_,ac B7 147 [.map (some M8)]]) ?_ ?_
 ·refine fd h ?_ ?_<;>intro h
  ·exact jY
  exact jY
 rintro _ _ ⟨b1,h,rfl,rfl⟩;refine aL ?_;refine cZ I ([ce A12 n12 c12 a0.St,gX A13 n13 c13 a0.Sv,ce A14 n14 c14 a0.Su,ac B1 79 (iU a0 B2 B9 A12 n12 c12 A13 n13 c13 A14 n14 c14),ac a2 23 [iV 0,iV 0,.string (⟨#[]⟩)],ac b7 42 [iV 1,iV 0,iV b1,iV 0,U b4 b5 b6,U none 0 0],f9 A10 n10 c10 a0.Sf.Sf,aj ap dp M11 a0.Sf.Ss,ac B9 118 [U A10 n10 c10,.map (some M11)]]) (cS [0,1,2,3,4,6,12,13,14] 17) ?_;refine ab ?_;refine lG (bJ 5 J) (cS [0,1,2,3,4,6,12,13,14] 17) ?_;refine aU ?_;obtain ⟨d1,k,h⟩:=aa h;refine lG (kq aF _) (cS [1,2,3,4,5,7,13,14,15] 18) ?_;refine zD 5 J (oC (nV k)) ?_;rintro _ _ ⟨_,⟨d2,d3,d4,d6,e2,e3,e4,e5,e6,e7,e8,e9,f1,rfl,rfl⟩,rfl⟩;refine aJ (cS [8,9,10,11,12,14,15,16,17] 18) ?_;refine aU ?_;exact eY
def dn (N:Nat)(a0:RG)(a1:Ry):Option (Int×RG):=
 (aG N a0).bind fun y9=>bif y9 then (some (0,a0)) else (bn (cc (a0.Si.length+([a1]:List Ry).length)) (bn (in64 (((a0.Si++([a1]:List Ry)).length:Int) - 1)) (some (((a0.Si++([a1]:List Ry)).length:Int) - 1,(⟨a0.m_,a0.Si++([a1]:List Ry),a0.Sq,a0.So⟩:RG)))))
theorem cW {N:Nat}{a0:RG}{a1:Ry}{r:Int×RG}(h:dn N a0 a1=some r):Okc RY 36 [pV B1 0,(fX a1)] ([ac B1 99 [U A2 n2 c2,U A3 n3 c3,U A4 n4 c4,U A5 n5 c5,pV B6 0],aR A2 n2 c2 a0.m_.Se,aR A3 n3 c3 a0.m_.Sc,aw A4 n4 c4 a0.Si,aw A5 n5 c5 a0.Sq,ac B6 147 [.map (some M7)],aj bf bI M7 a0.So.at_]) (fun u post=> ∃A0 n0 c0 A1 n1 c1 A2 n2 c2 A3 n3 c3 M4,u=iV r.1/\post=[ac B1 99 [U A0 n0 c0,U A1 n1 c1,U A2 n2 c2,U A3 n3 c3,pV B6 0],aR A0 n0 c0 r.2.m_.Se,aR A1 n1 c1 r.2.m_.Sc,aw A2 n2 c2 r.2.Si,aw A3 n3 c3 r.2.Sq,ac B6 147 [.map (some M4)],aj bf bI M4 r.2.So.at_]):=by
 refine cG Tryz.func36 ?_;intro B8;refine sY ?_;obtain ⟨y9,k,h⟩:=aa h;refine jQ (oR (ca k)) ?_;refine gH J h ?_ ?_<;>intro h
 ·exact eY
 refine ab ?_;refine aL ?_;refine ic (t:=[(0,pV B1 0),(3,pV B8 0),(4,iV 0)]) ?_ mw (ae _)
 refine jv I 7 [0] [0,4,6] [7,8,9,10,11,12,13] [[],[],[1],[2],[3],[],[5]] [aV (pV B1 0),
aV (pV B1 0),
aV (pV B1 0),
aV (pV B1 2),
aV (U A4 n4 c4),
aV ((fX a1)),
aX3 (fun (A12:Option Addr) (n12 c12:Nat)=> U A12 n12 c12) (fun A12 n12 c12=> [aw A12 n12 c12 ([a1]:List Ry)])] [] (ae _) (wg rfl mf) I rfl rfl ?_ ?_ ?_
 ·refine we J ?_ ?_
  ·exact DS (bo J) J (aQ J (ae _))
  exact me
 ·refine ad J ?_ ?_
  ·refine uz (aY (R:=aF) (vss:=[(tO a1)]) (xs:=[a1]) J (rC _ _ _) J J (fun _ _ hr=> .cons J All2.nil)) J ?_;rintro _ _ ⟨A11,n11,c11,rfl,rfl⟩;exact AE A11 n11 c11 (ae _)
  refine ad J ?_ ?_
  ·exact er (mM (us:=tO a1) 0 J J agg23.out J) J (aQ J (ae _))
  refine ad J ?_ ?_
  ·exact er (bL 1 J J xa J) J (aQ J (ae _))
  refine ad J ?_ ?_
  ·exact ci (gk J EA) J (aQ J (ae _))
  refine ad J ?_ ?_
  ·exact ci (bz J) J (aQ J (ae _))
  refine ad J ?_ ?_
  ·exact ci (bo J) J (aQ J (ae _))
  refine ad J ?_ ?_
  ·exact ci (bo J) J (aQ J (ae _))
  exact eJ
 intro A12 n12 c12;refine oe (t:=[(7,pV B1 0),(11,U A4 n4 c4),(13,U A12 n12 c12),(0,pV B1 0),(3,pV B8 0),(4,iV 0)]) (L':=[aw A12 n12 c12 ([a1]:List Ry),ac B8 23 (tO a1),ac B1 99 [U A2 n2 c2,U A3 n3 c3,U A4 n4 c4,U A5 n5 c5,pV B6 0],aR A2 n2 c2 a0.m_.Se,aR A3 n3 c3 a0.m_.Sc,aw A4 n4 c4 a0.Si,aw A5 n5 c5 a0.Sq,ac B6 147 [.map (some M7)],aj bf bI M7 a0.So.at_]) ?_ mw (ae _);obtain ⟨a2,h⟩:=ah h;refine pz 7 J I (aX 5 0 J J aI J J hU yW J J a2) J J J ?_;rintro _ _ ⟨A14,n14,c14,rfl,rfl⟩;refine yU 8 J I (bz J) J J J ?_;refine yU 9 J I (gk J EA) J J J ?_;refine yT 10 J I (ax (us:=[U A14 n14 c14]) (cs':=[U A2 n2 c2,U A3 n3 c3,U A14 n14 c14,U A5 n5 c5,pV B6 0]) 2 J J J J size30.out J J J) J J ?_;rintro _ _ rfl;refine ms I ?_;refine ab ?_;obtain ⟨a6,h⟩:=ah h;exact eY
def dh (N:Nat)(a0:Rn)(a1:Rk):Option (Ry×Rn):=
 (ee N a0.Sb a1).bind fun a2=>bif !decide (a2.2.1=0) then (some ((⟨0,0,⟨#[]⟩⟩:Ry),(⟨a0.Sr,a0.Sh,(),a2.2.2,a0.Sf,a0.St,a0.Sy,a0.Sx,a0.Sz,a0.Sv,a0.Su⟩:Rn))) else (some ((⟨9,a2.1,⟨#[]⟩⟩:Ry),(⟨a0.Sr,a0.Sh,(),a2.2.2,a0.Sf,a0.St,a0.Sy,a0.Sx,a0.Sz,a0.Sv,a0.Su⟩:Rn)))
theorem eM {N:Nat}{a0:Rn}{a1:Rk}{r:Ry×Rn}(h:dh N a0 a1=some r):Okc RY 14 [pV B1 0,.agg #[iV a1.Sa,iV a1.Sk,iV a1.Sj,iV a1.Sn,U A15 n15 c15,U A16 n16 c16]] ([bc A15 n15 c15 a1.Sg,bc A16 n16 c16 a1.Sd,ac B1 79 (iU a0 B2 B9 A12 n12 c12 A13 n13 c13 A14 n14 c14),ac B2 99 [U A3 n3 c3,U A4 n4 c4,U A5 n5 c5,U A6 n6 c6,pV B7 0],aR A3 n3 c3 a0.Sb.m_.Se,aR A4 n4 c4 a0.Sb.m_.Sc,aw A5 n5 c5 a0.Sb.Si,aw A6 n6 c6 a0.Sb.Sq,ac B7 147 [.map (some M8)],aj bf bI M8 a0.Sb.So.at_,ac B9 118 [U A10 n10 c10,.map (some M11)],f9 A10 n10 c10 a0.Sf.Sf,aj ap dp M11 a0.Sf.Ss,ce A12 n12 c12 a0.St,gX A13 n13 c13 a0.Sv,ce A14 n14 c14 a0.Su]) (fun u post=> ∃A0 n0 c0 A1 n1 c1 A2 n2 c2 A3 n3 c3 M4 A5 n5 c5 M6 A7 n7 c7 A8 n8 c8 A9 n9 c9,u=.agg #[iV r.1.Sa,iV r.1.N,.string r.1.S]/\post=[ac B1 79 (iU r.2 B2 B9 A7 n7 c7 A8 n8 c8 A9 n9 c9),ac B2 99 [U A0 n0 c0,U A1 n1 c1,U A2 n2 c2,U A3 n3 c3,pV B7 0],aR A0 n0 c0 r.2.Sb.m_.Se,aR A1 n1 c1 r.2.Sb.m_.Sc,aw A2 n2 c2 r.2.Sb.Si,aw A3 n3 c3 r.2.Sb.Sq,ac B7 147 [.map (some M4)],aj bf bI M4 r.2.Sb.So.at_,ac B9 118 [U A5 n5 c5,.map (some M6)],f9 A5 n5 c5 r.2.Sf.Sf,aj ap dp M6 r.2.Sf.Ss,ce A7 n7 c7 r.2.St,gX A8 n8 c8 r.2.Sv,ce A9 n9 c9 r.2.Su]):=by
 refine cG Tryz.func14 ?_;intro a2
 refine iD fun a6=> ?_
 refine sZ ?_;refine fm (bA J Ra) ?_;refine cJ J ?_;refine ab ?_;refine aL ?_;refine cZ I ([ac a6 23 [iV 0,iV 0,.string (⟨#[]⟩)],ac a2 42 [iV a1.Sa,iV a1.Sk,iV a1.Sj,iV a1.Sn,U A15 n15 c15,U A16 n16 c16],bc A15 n15 c15 a1.Sg,bc A16 n16 c16 a1.Sd,ac B1 79 (iU a0 B2 B9 A12 n12 c12 A13 n13 c13 A14 n14 c14),ac B9 118 [U A10 n10 c10,.map (some M11)],f9 A10 n10 c10 a0.Sf.Sf,aj ap dp M11 a0.Sf.Ss,ce A12 n12 c12 a0.St,gX A13 n13 c13 a0.Sv,ce A14 n14 c14 a0.Su]) (cS [0,1,2,3,4,12,13,14,15,16,17] 18) ?_;refine ab ?_;obtain ⟨a7,k,h⟩:=aa h;refine zD 5 J (oC (nV k)) ?_;rintro _ _ ⟨_,⟨a8,b0,b1,b2,b3,b4,b5,b6,b7,b8,b9,d0,d1,rfl,rfl⟩,rfl⟩;refine aJ (cS [7,8,9,10,11,12,13,14,15,16,17] 18) ?_;refine aU ?_;refine sY ?_;refine gH J h ?_ ?_<;>intro h
 ·exact eY
 exact eY
def uR (N:Nat)(a1:Int)(a2:Int)(a6:Int)(a7:Int)(a8:Int)(b0:Int)(b1:Int)(b2:Int)(b3:Int)(b4:Int)(b5:RV)(b6:Int)(b7:Int)(b8:Int)(b9:List RF)(c0:RV)(d0:RS)(d1:RS)(d2:RJ)(d3:RJ)(d4:List RI)(d6:(List (Rx×Int)))(e2:RU):Option (Int ⊕ (Rn×Int)):=
 some (.inr ((⟨(⟨a1,a2,a6⟩:RD),(⟨a7,a8,b0,b1,b2,b3,b4⟩:Rs),(),(⟨(⟨d0,d1⟩:Rp),d2,d3,(⟨e2⟩:Rr)⟩:RG),(⟨d4,d6⟩:Rl),b5,b6,b7,b8,b9,c0⟩:Rn),0))
def uS (N:Nat)(a6:Int)(a7:Int)(a8:Int)(b0:Int)(b1:Int)(b2:Int)(b3:Int)(b4:Int)(b5:Int)(b6:Int)(b7:RV)(b8:Int)(b9:Int)(c0:Int)(d0:List RF)(d1:RV)(d2:RS)(d3:RS)(d4:RJ)(d6:RJ)(e2:List RI)(e3:(List (Rx×Int)))(e4:RU):Option (Int ⊕ (Rn×Int)):=
 (dh N (⟨(⟨a6,a7,a8⟩:RD),(⟨b0,b1,b2,b3,b4,b5,b6⟩:Rs),(),(⟨(⟨d2,d3⟩:Rp),d4,d6,(⟨e4⟩:Rr)⟩:RG),(⟨e2,e3⟩:Rl),b7,b8,b9,c0,d0,d1⟩:Rn) (⟨11,0,0,0,[],[]⟩:Rk)).bind fun a1=>(dn N a1.2.Sb a1.1).bind fun a2=>uR N a1.2.Sr.SE a1.2.Sr.SC a1.2.Sr.SD a1.2.Sh.SI a1.2.Sh.SG a1.2.Sh.SA a1.2.Sh.SF a1.2.Sh.Se a1.2.Sh.SH a1.2.Sh.SJ a1.2.St a1.2.Sy a1.2.Sx a1.2.Sz a1.2.Sv a1.2.Su a2.2.m_.Se a2.2.m_.Sc a2.2.Si a2.2.Sq a1.2.Sf.Sf a1.2.Sf.Ss a2.2.So.at_
def wU (N:Nat)(a6:Int)(a7:Int)(a8:Int)(p21:Int)(b0:Int)(b1:Int)(b2:Int)(b3:Int)(b4:Int)(b5:Int)(b6:RV)(b7:Int)(b8:Int)(b9:Int)(c0:List RF)(d0:RV)(d1:RS)(d2:RS)(d3:RJ)(d4:RJ)(d6:List RI)(e2:(List (Rx×Int)))(e3:RU):Option (Int ⊕ (Rn×Int)):=
 (dh N (⟨(⟨a6,a7,a8⟩:RD),(⟨p21,b0,b1,b2,b3,b4,b5⟩:Rs),(),(⟨(⟨d1,d2⟩:Rp),d3,d4,(⟨e3⟩:Rr)⟩:RG),(⟨d6,e2⟩:Rl),b6,b7,b8,b9,c0,d0⟩:Rn) (⟨11,0,0,0,[],[]⟩:Rk)).bind fun a1=>(dn N a1.2.Sb a1.1).bind fun a2=>uS N a1.2.Sr.SE a1.2.Sr.SC a1.2.Sr.SD a1.2.Sh.SI a1.2.Sh.SG a1.2.Sh.SA a1.2.Sh.SF a1.2.Sh.Se a1.2.Sh.SH a1.2.Sh.SJ a1.2.St a1.2.Sy a1.2.Sx a1.2.Sz a1.2.Sv a1.2.Su a2.2.m_.Se a2.2.m_.Sc a2.2.Si a2.2.Sq a1.2.Sf.Sf a1.2.Sf.Ss a2.2.So.at_
def wT (N:Nat)(a1:Int->Int->Int->Int->Int->Int->Int->Int->Int->Int->Int->RV->Int->Int->Int->(List RF)->RV->RS->RS->RJ->RJ->(List RI)->(List (Rx×Int))->RU->Option (Int ⊕ (Rn×Int)))(a2:Int)(a6:Int)(a7:Int)(a8:Int)(b0:Int)(b1:Int)(b2:Int)(b3:Int)(b4:Int)(b5:Int)(b6:Int)(b7:RV)(b8:Int)(b9:Int)(c0:Int)(d0:List RF)(d1:RV)(d2:RS)(d3:RS)(d4:RJ)(d6:RJ)(e2:List RI)(e3:(List (Rx×Int)))(e4:RU):Option (Int ⊕ (Rn×Int)):=
 bn (in64 (a2+1)) (a1 (a2+1) a6 a7 a8 b0 b1 b2 b3 b4 b5 b6 b7 b8 b9 c0 d0 d1 d2 d3 d4 d6 e2 e3 e4)
def oX (N:Nat):Nat->Int->Int->Int->Int->Int->Int->Int->Int->Int->Int->Int->RV->Int->Int->Int->(List RF)->RV->RS->RS->RJ->RJ->(List RI)->(List (Rx×Int))->RU->Option (Int ⊕ (Rn×Int))
 |0,_,_,_,_,_,_,_,_,_,_,_,_,_,_,_,_,_,_,_,_,_,_,_,_=>none
 |e6+1,a6,a7,a8,b0,b1,b2,b3,b4,b5,b6,b7,b8,b9,c0,d0,d1,d2,d3,d4,d6,e2,e3,e4,e5=>bif decide (a6<18) then ((nk N (⟨(⟨a7,a8,b0⟩:RD),(⟨b1,b2,b3,b4,b5,b6,b7⟩:Rs),(),(⟨(⟨d3,d4⟩:Rp),d6,e2,(⟨e5⟩:Rr)⟩:RG),(⟨e3,e4⟩:Rl),b8,b9,c0,d0,d1,d2⟩:Rn) a6).bind fun a1=>(dn N a1.2.Sb a1.1).bind fun a2=>wT N (oX N e6) a6 a1.2.Sr.SE a1.2.Sr.SC a1.2.Sr.SD a1.2.Sh.SI a1.2.Sh.SG a1.2.Sh.SA a1.2.Sh.SF a1.2.Sh.Se a1.2.Sh.SH a1.2.Sh.SJ a1.2.St a1.2.Sy a1.2.Sx a1.2.Sz a1.2.Sv a1.2.Su a2.2.m_.Se a2.2.m_.Sc a2.2.Si a2.2.Sq a1.2.Sf.Sf a1.2.Sf.Ss a2.2.So.at_) else (wU N a7 a8 b0 b1 b2 b3 b4 b5 b6 b7 b8 b9 c0 d0 d1 d2 d3 d4 d6 e2 e3 e4 e5)
def iL (N:Nat)(a0:Rs):Option (Int ⊕ (Rn×Int)):=
 (kF N a0).bind fun y2=>bif !y2 then (some (.inl 1)) else ((Cd N).bind fun y4=>(zW N).bind fun a1=>oX N N 0 0 0 0 a0.SI a0.SG a0.SA a0.SF a0.Se a0.SH a0.SJ [] 0 0 0 [] [] y4.m_.Se y4.m_.Sc y4.Si y4.Sq a1.Sf a1.Ss y4.So.at_)
theorem iK {N:Nat}{a0:Rs}{r:(Int ⊕ (Rn×Int))}(h:iL N a0=some r):Okc RY 7 [(FC a0)] ([]) (fun u post=>NY (fun (r:Int)=>u=.tuple #[.pointer none,iV r]/\post=[]) (fun (r:Rn×Int)=> ∃B0 B1 A2 n2 c2 A3 n3 c3 A4 n4 c4 A5 n5 c5 B6 M7 B8 A9 n9 c9 UM A11 n11 c11 A12 n12 c12 A13 n13 c13,u=.tuple #[pV B0 0,iV r.2]/\post=[ac B0 79 (iU r.1 B1 B8 A11 n11 c11 A12 n12 c12 A13 n13 c13),ac B1 99 [U A2 n2 c2,U A3 n3 c3,U A4 n4 c4,U A5 n5 c5,pV B6 0],aR A2 n2 c2 r.1.Sb.m_.Se,aR A3 n3 c3 r.1.Sb.m_.Sc,aw A4 n4 c4 r.1.Sb.Si,aw A5 n5 c5 r.1.Sb.Sq,ac B6 147 [.map (some M7)],aj bf bI M7 r.1.Sb.So.at_,ac B8 118 [U A9 n9 c9,.map (some UM)],f9 A9 n9 c9 r.1.Sf.Sf,aj ap dp UM r.1.Sf.Ss,ce A11 n11 c11 r.1.St,gX A12 n12 c12 r.1.Sv,ce A13 n13 c13 r.1.Su]) r):=by
 refine cG Tryz.func7 ?_;intro B1;refine sY ?_;obtain ⟨y2,k,h⟩:=aa h;refine jQ (oR (Bn k)) ?_;refine gH J h ?_ ?_<;>intro h
 ·exact eY
 refine ab ?_;refine dY [] ?_;refine ab ?_;obtain ⟨y4,k,h⟩:=aa h;refine zD 1 J (oC (Fz k)) ?_;rintro _ _ ⟨_,⟨B5,A6,n6,c6,A7,n7,c7,A8,n8,c8,A9,n9,c9,B10,M11,rfl,rfl⟩,rfl⟩;refine aJ (cS [7] 8) ?_;refine aU ?_;obtain ⟨UN,k,h⟩:=aa h;refine zD 2 J (oC (D6 k)) ?_;rintro _ _ ⟨_,⟨b0,A14,n14,c14,UO,rfl,rfl⟩,rfl⟩;refine aJ (cS [10] 11) ?_;refine aU ?_;refine ab ?_;refine zD 4 J (BI J J) ?_;rintro _ _ ⟨b1,rfl,rfl⟩;refine aJ (cS [11] 12) ?_;refine ab ?_;refine ao (fun s L=> ∃p5 p6 p7 p21 p8 q0 q1 q2 q3 q4 q5 q6 q7 q8 q9 r0 r1 r2 r3 r4 r5 r6 s0 s1 s2 s3 s4 s5 s6 s7 s8 s9 t1 t2 u0 u1 u2 u3 u4 u5 u6 u7 u8 u9 v1 v2 v6 v7 v8,wU N p5 p6 p7 p21 p8 q0 q1 q2 q3 q4 q5 q6 q7 q8 q9 r0 r1 r2 r3 r4 r5 r6 s0=some r/\s=[(2,.pointer none),(3,iV 0),(4,pV b1 0)]/\L=[ce s1 s2 s3 q5,gX s4 s5 s6 q9,ce s7 s8 s9 r0,ac b1 79 [iV p5,iV p6,iV p7,iV p21,iV p8,iV q0,iV q1,iV q2,iV q3,iV q4,.nilIface,pV B5 0,pV b0 0,U s1 s2 s3,iV q6,iV q7,iV q8,U s4 s5 s6,U s7 s8 s9],aR t1 t2 u0 r1,aR u1 u2 u3 r2,aw u4 u5 u6 r3,aw u7 u8 u9 r4,ac B5 99 [U t1 t2 u0,U u1 u2 u3,U u4 u5 u6,U u7 u8 u9,pV B10 0],f9 v1 v2 v6 r5,aj ap dp v7 r6,ac b0 118 [U v1 v2 v6,.map (some v7)],aj bf bI v8 s0,ac B10 147 [.map (some v8)]]) ?_ ?_
 ·refine ab ?_;refine aW (fun m s L=> ∃p4 w1 w2 w3 w4 w5 w6 w7 w8 w9 x0 x1 x2 x3 x4 x5 x6 x7 x8 x9 y0 y1 y3 y5 y6 y7 y8 y9 z1 z2 B4 L0 L1 L2 L3 L4 L5 L6 L7 L8 L9 M0 M1 M2 M3 M4 M5 M6 Q1 R6,oX N m p4 w1 w2 w3 w4 w5 w6 w7 w8 w9 x0 x1 x2 x3 x4 x5 x6 x7 x8 x9 y0 y1 y3 y5=some r/\s=[(2,.pointer none),(3,iV 0),(4,pV b1 0),(14,iV p4)]/\L=[ce y6 y7 y8 x1,gX y9 z1 z2 x5,ce B4 L0 L1 x6,ac b1 79 [iV w1,iV w2,iV w3,iV w4,iV w5,iV w6,iV w7,iV w8,iV w9,iV x0,.nilIface,pV B5 0,pV b0 0,U y6 y7 y8,iV x2,iV x3,iV x4,U y9 z1 z2,U B4 L0 L1],aR L2 L3 L4 x7,aR L5 L6 L7 x8,aw L8 L9 M0 x9,aw M1 M2 M3 y0,ac B5 99 [U L2 L3 L4,U L5 L6 L7,U L8 L9 M0,U M1 M2 M3,pV B10 0],f9 M4 M5 M6 y1,aj ap dp Q1 y3,ac b0 118 [U M4 M5 M6,.map (some Q1)],aj bf bI R6 y5,ac B10 147 [.map (some R6)]]) N _ _ ⟨0,0,0,0,a0.SI,a0.SG,a0.SA,a0.SF,a0.Se,a0.SH,a0.SJ,[],0,0,0,[],[],y4.m_.Se,y4.m_.Sc,y4.Si,y4.Sq,UN.Sf,UN.Ss,y4.So.at_,none,0,0,none,0,0,none,0,0,A6,n6,c6,A7,n7,c7,A8,n8,c8,A9,n9,c9,A14,n14,c14,UO,M11,h,J,J⟩ sA ((bh Bt 9 _).trans ((bh tz 84 _).trans ((bh Bt 9 _).trans (cS [2,1,0,3,8,9,10,11,7,5,6,4,13,12] 15)))) ?_
  rintro (_|UP) _ _ ⟨p4,w1,w2,w3,w4,w5,w6,w7,w8,w9,x0,x1,x2,x3,x4,x5,x6,x7,x8,x9,y0,y1,y3,y5,y6,y7,y8,y9,z1,z2,B4,L0,L1,L2,L3,L4,L5,L6,L7,L8,L9,M0,M1,M2,M3,M4,M5,M6,Q1,R6,h,rfl,rfl⟩
  ·exact am h
  rw [oX.eq_2] at h;refine ab ?_;refine aL ?_;refine gH J h ?_ ?_<;>intro h
  ·refine ab ?_;refine ao (fun s L=> ∃R7 R8 R9 S0 S1 S2 S3 S4 S5 S6 S7 S8 S9 T1 T2 T3 T4 T5 T6 T7 T8 T9 U0 U1 U2 U3 U4 U5 U6 U7 U8 U9 V0 V1 V2 V4 V5 V6 V7 V8 V9 W0 W1 W2 W3 W4 W5 W7 W8,wT N (oX N UP) p4 R7 R8 R9 S0 S1 S2 S3 S4 S5 S6 S7 S8 S9 T1 T2 T3 T4 T5 T6 T7 T8 T9 U0=some r/\s=[(2,.pointer none),(3,iV 0),(4,pV b1 0),(14,iV p4)]/\L=[ce U1 U2 U3 S7,gX U4 U5 U6 T2,ce U7 U8 U9 T3,ac b1 79 [iV R7,iV R8,iV R9,iV S0,iV S1,iV S2,iV S3,iV S4,iV S5,iV S6,.nilIface,pV B5 0,pV b0 0,U U1 U2 U3,iV S8,iV S9,iV T1,U U4 U5 U6,U U7 U8 U9],aR V0 V1 V2 T4,aR V4 V5 V6 T5,aw V7 V8 V9 T6,aw W0 W1 W2 T7,ac B5 99 [U V0 V1 V2,U V4 V5 V6,U V7 V8 V9,U W0 W1 W2,pV B10 0],f9 W3 W4 W5 T8,aj ap dp W7 T9,ac b0 118 [U W3 W4 W5,.map (some W7)],aj bf bI W8 U0,ac B10 147 [.map (some W8)]]) ?_ ?_
   ·refine ab ?_;refine cZ I ([]) (cS [] 14) ?_;refine zY [0,1,2,4,5] ?_;refine mq 3 6 I ?_ ?_
    ·refine bK J (wY (bL 3 J J uY J)) J J J ?_;rintro _ _ ⟨rfl,rfl⟩;refine aJ (cS [] 14) ?_;obtain ⟨UQ,b2,h⟩:=aa h;refine zD 6 J (oC (mx b2)) ?_;rintro _ _ ⟨_,⟨UR,US,UT,UU,UV,UW,UX,UY,UZ,Va,Vb,Vc,Vd,W9,X0,X1,X2,X3,X4,X5,X6,X7,X8,X9,Y0,Y1,rfl,rfl⟩,rfl⟩;refine aJ (cS [] 14) ?_;refine aU ?_;obtain ⟨Y2,a1,h⟩:=aa h;refine zD 7 J (oC (cW a1)) ?_;rintro _ _ ⟨_,⟨Y3,Y4,Y5,Y6,Y7,Y8,Y9,Z0,Z1,Z2,Z3,Z4,Z5,rfl,rfl⟩,rfl⟩;refine aJ (cS [] 14) ?_;refine aU ?_;refine ju I ?_;exact jY
    obtain ⟨UQ,b2,h⟩:=aa h;refine bK J (oC (mx b2)) J J J ?_;rintro _ _ ⟨_,⟨UR,US,UT,UU,UV,UW,UX,UY,UZ,Va,Vb,Vc,Vd,W9,X0,X1,X2,X3,X4,X5,X6,X7,X8,X9,Y0,Y1,rfl,rfl⟩,rfl⟩;refine aJ (cS [] 14) ?_;refine aU ?_;refine zD 3 J (wY (bL 0 J J uY J)) ?_;rintro _ _ ⟨rfl,rfl⟩;refine aJ (cS [] 14) ?_;obtain ⟨Y2,a1,h⟩:=aa h;refine zD 7 J (oC (cW a1)) ?_;rintro _ _ ⟨_,⟨Y3,Y4,Y5,Y6,Y7,Y8,Y9,Z0,Z1,Z2,Z3,Z4,Z5,rfl,rfl⟩,rfl⟩;refine aJ (cS [] 14) ?_;refine aU ?_;refine ju I ?_;exact jY
   rintro _ _ ⟨R7,R8,R9,S0,S1,S2,S3,S4,S5,S6,S7,S8,S9,T1,T2,T3,T4,T5,T6,T7,T8,T9,U0,U1,U2,U3,U4,U5,U6,U7,U8,U9,V0,V1,V2,V4,V5,V6,V7,V8,V9,W0,W1,W2,W3,W4,W5,W7,W8,h,rfl,rfl⟩;refine ab ?_;obtain ⟨Ve,h⟩:=ah h;exact lY
  exact jY
 rintro _ _ ⟨p5,p6,p7,p21,p8,q0,q1,q2,q3,q4,q5,q6,q7,q8,q9,r0,r1,r2,r3,r4,r5,r6,s0,s1,s2,s3,s4,s5,s6,s7,s8,s9,t1,t2,u0,u1,u2,u3,u4,u5,u6,u7,u8,u9,v1,v2,v6,v7,v8,h,rfl,rfl⟩;refine ao (fun s L=> ∃b3 b4 b5 b6 b7 b8 b9 c0 d0 d1 d2 d3 d4 d6 e2 e3 e4 e5 e6 e7 e8 e9 f1 f2 f3 f4 g0 g1 g2 g3 g4 g5 g6 g7 g8 g9 h0 h1 h2 h3 h4 h5 h6 h7 h8 h9 i0 i1 i2,uS N b3 b4 b5 b6 b7 b8 b9 c0 d0 d1 d2 d3 d4 d6 e2 e3 e4 e5 e6 e7 e8 e9 f1=some r/\s=[(2,.pointer none),(3,iV 0),(4,pV b1 0)]/\L=[ce f2 f3 f4 d2,gX g0 g1 g2 e2,ce g3 g4 g5 e3,ac b1 79 [iV b3,iV b4,iV b5,iV b6,iV b7,iV b8,iV b9,iV c0,iV d0,iV d1,.nilIface,pV B5 0,pV b0 0,U f2 f3 f4,iV d3,iV d4,iV d6,U g0 g1 g2,U g3 g4 g5],aR g6 g7 g8 e4,aR g9 h0 h1 e5,aw h2 h3 h4 e6,aw h5 h6 h7 e7,ac B5 99 [U g6 g7 g8,U g9 h0 h1,U h2 h3 h4,U h5 h6 h7,pV B10 0],f9 h8 h9 i0 e8,aj ap dp i1 e9,ac b0 118 [U h8 h9 i0,.map (some i1)],aj bf bI i2 f1,ac B10 147 [.map (some i2)]]) ?_ ?_
 ·refine cZ I ([]) (cS [] 14) ?_;refine zY [0,1,2,4] ?_;refine zE 5 J (iX J (bld_42_0 _).out) ?_;refine mq 3 6 I ?_ ?_
  ·refine bK J (wY (bL 3 J J uY J)) J J J ?_;rintro _ _ ⟨rfl,rfl⟩;refine aJ (cS [] 14) ?_;obtain ⟨Z6,a2,h⟩:=aa h;refine lG (kq aF _) (cS [] 15) ?_;refine lG (kq aF _) (cS [] 16) ?_;refine zD 6 J (oC (eM a2)) ?_;rintro _ _ ⟨_,⟨Z7,Z8,Z9,Th,Ti,Tj,Tl,Tn,To,Tp,Ts,Tt,Tu,Tv,Tw,Tx,Ty,Tz,TA,TB,TC,TD,TE,TF,TG,TH,rfl,rfl⟩,rfl⟩;refine aJ (cS [] 16) ?_;refine aU ?_;obtain ⟨TI,a6,h⟩:=aa h;refine zD 7 J (oC (cW a6)) ?_;rintro _ _ ⟨_,⟨TJ,TK,TL,TM,TN,TO,TP,TQ,TR,TS,TT,TU,TV,rfl,rfl⟩,rfl⟩;refine aJ (cS [] 16) ?_;refine aU ?_;refine ju I ?_;exact jY
  obtain ⟨Z6,a2,h⟩:=aa h;refine rP (kq aF _) (cS [] 15) ?_;refine rP (kq aF _) (cS [] 16) ?_;refine bK J (oC (eM a2)) J J J ?_;rintro _ _ ⟨_,⟨Z7,Z8,Z9,Th,Ti,Tj,Tl,Tn,To,Tp,Ts,Tt,Tu,Tv,Tw,Tx,Ty,Tz,TA,TB,TC,TD,TE,TF,TG,TH,rfl,rfl⟩,rfl⟩;refine aJ (cS [] 16) ?_;refine aU ?_;refine zD 3 J (wY (bL 0 J J uY J)) ?_;rintro _ _ ⟨rfl,rfl⟩;refine aJ (cS [] 16) ?_;obtain ⟨TI,a6,h⟩:=aa h;refine zD 7 J (oC (cW a6)) ?_;rintro _ _ ⟨_,⟨TJ,TK,TL,TM,TN,TO,TP,TQ,TR,TS,TT,TU,TV,rfl,rfl⟩,rfl⟩;refine aJ (cS [] 16) ?_;refine aU ?_;refine ju I ?_;exact jY
 rintro _ _ ⟨b3,b4,b5,b6,b7,b8,b9,c0,d0,d1,d2,d3,d4,d6,e2,e3,e4,e5,e6,e7,e8,e9,f1,f2,f3,f4,g0,g1,g2,g3,g4,g5,g6,g7,g8,g9,h0,h1,h2,h3,h4,h5,h6,h7,h8,h9,i0,i1,i2,h,rfl,rfl⟩;refine ao (fun s L=> ∃i8 j0 j1 j2 j3 j4 j5 j6 j7 j8 j9 k0 k1 k2 k3 k4 k5 k6 k7 k8 k9 l0 l1 l2 l3 l4 l5 l6 l7 l8 l9 m0 m1 m2 m3 m4 m5 m6 m7 m8 m9 n0 o0 o1 o2 p0 p1 p2 p3,uR N i8 j0 j1 j2 j3 j4 j5 j6 j7 j8 j9 k0 k1 k2 k3 k4 k5 k6 k7 k8 k9 l0 l1=some r/\s=[(2,.pointer none),(3,iV 0),(4,pV b1 0)]/\L=[ce l2 l3 l4 j9,gX l5 l6 l7 k3,ce l8 l9 m0 k4,ac b1 79 [iV i8,iV j0,iV j1,iV j2,iV j3,iV j4,iV j5,iV j6,iV j7,iV j8,.nilIface,pV B5 0,pV b0 0,U l2 l3 l4,iV k0,iV k1,iV k2,U l5 l6 l7,U l8 l9 m0],aR m1 m2 m3 k5,aR m4 m5 m6 k6,aw m7 m8 m9 k7,aw n0 o0 o1 k8,ac B5 99 [U m1 m2 m3,U m4 m5 m6,U m7 m8 m9,U n0 o0 o1,pV B10 0],f9 o2 p0 p1 k9,aj ap dp p2 l0,ac b0 118 [U o2 p0 p1,.map (some p2)],aj bf bI p3 l1,ac B10 147 [.map (some p3)]]) ?_ ?_
 ·refine cZ I ([]) (cS [] 14) ?_;refine zY [0,1,2,4] ?_;refine zE 5 J (iX J (bld_42_0 _).out) ?_;refine mq 3 6 I ?_ ?_
  ·refine bK J (wY (bL 3 J J uY J)) J J J ?_;rintro _ _ ⟨rfl,rfl⟩;refine aJ (cS [] 14) ?_;obtain ⟨TW,a7,h⟩:=aa h;refine lG (kq aF _) (cS [] 15) ?_;refine lG (kq aF _) (cS [] 16) ?_;refine zD 6 J (oC (eM a7)) ?_;rintro _ _ ⟨_,⟨TX,TY,TZ,Ua,Ub,Uc,Ud,Ue,Uf,Ug,Uh,Ui,Uj,Uk,Ul,Um,Un,Uo,Uq,Ur,Us,Ut,Uu,Uv,Uw,Ux,rfl,rfl⟩,rfl⟩;refine aJ (cS [] 16) ?_;refine aU ?_;obtain ⟨Uy,a8,h⟩:=aa h;refine zD 7 J (oC (cW a8)) ?_;rintro _ _ ⟨_,⟨Uz,UA,UB,UC,UD,UE,UF,UG,UH,UI,UJ,UK,UL,rfl,rfl⟩,rfl⟩;refine aJ (cS [] 16) ?_;refine aU ?_;refine ju I ?_;exact jY
  obtain ⟨TW,a7,h⟩:=aa h;refine rP (kq aF _) (cS [] 15) ?_;refine rP (kq aF _) (cS [] 16) ?_;refine bK J (oC (eM a7)) J J J ?_;rintro _ _ ⟨_,⟨TX,TY,TZ,Ua,Ub,Uc,Ud,Ue,Uf,Ug,Uh,Ui,Uj,Uk,Ul,Um,Un,Uo,Uq,Ur,Us,Ut,Uu,Uv,Uw,Ux,rfl,rfl⟩,rfl⟩;refine aJ (cS [] 16) ?_;refine aU ?_;refine zD 3 J (wY (bL 0 J J uY J)) ?_;rintro _ _ ⟨rfl,rfl⟩;refine aJ (cS [] 16) ?_;obtain ⟨Uy,a8,h⟩:=aa h;refine zD 7 J (oC (cW a8)) ?_;rintro _ _ ⟨_,⟨Uz,UA,UB,UC,UD,UE,UF,UG,UH,UI,UJ,UK,UL,rfl,rfl⟩,rfl⟩;refine aJ (cS [] 16) ?_;refine aU ?_;refine ju I ?_;exact jY
 rintro _ _ ⟨i8,j0,j1,j2,j3,j4,j5,j6,j7,j8,j9,k0,k1,k2,k3,k4,k5,k6,k7,k8,k9,l0,l1,l2,l3,l4,l5,l6,l7,l8,l9,m0,m1,m2,m3,m4,m5,m6,m7,m8,m9,n0,o0,o1,o2,p0,p1,p2,p3,h,rfl,rfl⟩;exact eY
def eX (N:Nat)(a0:Int)(a1:Rn):Option Bool:=
 (bif decide (0<a0) then (bn (a0≠0) (some (decide (a1.Sr.SE.tmod a0=0)))) else (some false)).bind fun a2=>some a2
theorem nF {N:Nat}{a0:Int}{a1:Rn}{r:Bool}(h:eX N a0 a1=some r):Okc RY 43 [iV a0,pV B1 0] ([ar B1 24 [pV B2 0],ar B2 79 (iU a1 B3 B10 A13 n13 c13 A14 n14 c14 A15 n15 c15),ar B3 99 [U A4 n4 c4,U A5 n5 c5,U A6 n6 c6,U A7 n7 c7,pV B8 0],bi A4 n4 c4 a1.Sb.m_.Se,bi A5 n5 c5 a1.Sb.m_.Sc,bc A6 n6 c6 a1.Sb.Si,bc A7 n7 c7 a1.Sb.Sq,ar B8 147 [.map (some M9)],eS bf bI M9 a1.Sb.So.at_,ar B10 118 [U A11 n11 c11,.map (some M12)],rK A11 n11 c11 a1.Sf.Sf,eS ap dp M12 a1.Sf.Ss,CI A13 n13 c13 a1.St,BZ A14 n14 c14 a1.Sv,CI A15 n15 c15 a1.Su]) (fun u post=>u=.bool r/\post=[]):=by
 refine cG Tryz.func43 ?_;obtain ⟨a7,a2,h⟩:=aa h;refine aH 9 15 a7 ?_ ?_
 ·clear h;refine aE 6 J (fun a6=> ?_) (fun a6=> ?_)
  ·have h:=az a6 a2;refine ab ?_;obtain ⟨a8,h⟩:=ah h;refine pP (rk J J a8) J (cY a6 J) J ?_;exact gY
  have h:=aA a6 a2;exact gY
 exact eY
theorem my {r:Bool}: ∀v post,((fun (u:Value) (post:List Chunk)=>u=.bool r/\post=[])) v post-> ∀c∈post,jJ c:=by
 rintro _ _ ⟨rfl,rfl⟩;exact ay
def lT (N:Nat)(a0:Ry):Option Bool:=
 (bif decide (a0.Sa=7) then (some true) else (some (decide (a0.Sa=9)))).bind fun b2=>some b2
theorem sD {N:Nat}{a0:Ry}{r:Bool}(h:lT N a0=some r):Okc RY 181 [(fX a0)] ([]) (fun u post=>u=.bool r/\post=[]):=by
 refine cG Tryz.func181 ?_;intro B1;refine ab ?_;refine gS 4 10 6 h ?_;intro b2 h;exact eY
def eH (N:Nat)(a1:Bool)(x8:Bool×Ry):(RL)->Option (Option Exit×RL)
 |p9=>(bif x8.1==a1 then ((lT N x8.2).bind fun a2=>some a2) else (some false)).bind fun a6=>bif a6 then (bn (cc (p9.length+([x8.2.N]:List Int).length)) (some (none,p9++([x8.2.N]:List Int)))) else (some (none,p9))
def jI (N:Nat)(a0:Rk)(a1:Bool):Option RL:=
 (rx N a0).bind fun y6=>(mI N a0 (cQ (fun x st=>eH N a1 x st)) (none,[])).bind fun a2=>qc a2.1 (some a2.2) none (fun _=>none)
theorem si {N:Nat}{a0:Rk}{a1:Bool}{r:RL}(h:jI N a0 a1=some r):Okc RY 143 [.agg #[iV a0.Sa,iV a0.Sk,iV a0.Sj,iV a0.Sn,U A1 n1 c1,U A2 n2 c2],.bool a1] ([bc A1 n1 c1 a0.Sg,bc A2 n2 c2 a0.Sd]) (fun u post=> ∃A0 n0 c0,u=U A0 n0 c0/\post=[eG A0 n0 c0 r]):=by
 refine cG Tryz.func143 ?_;intro B3
 refine iD fun B4=> ?_
 intro B5;refine sY ?_;obtain ⟨y6,k,h⟩:=aa h;refine gD (oR (An k)) ?_;rintro _ _ ⟨_,⟨B7,rfl,rfl⟩,rfl⟩;refine ab ?_;refine ic ?_ cD (gL 0 J);obtain ⟨a7,k,h⟩:=aa h;refine th (en:=(fun x=> [.bool x.1,.agg #[iV x.2.Sa,iV x.2.N,.string x.2.S]])) (fun x st=>eH N a1 x st) (fun (st:RL) (mz:((Option Addr×Nat×Nat)))=> [ac B4 4 [.bool a1],eu (eT .i64) 3 (.slice mz.1 mz.2.1 mz.2.2) st,ac B5 39 [.slice mz.1 mz.2.1 mz.2.2]]) [ar B7 42 [iV a0.Sa,iV a0.Sk,iV a0.Sj,iV a0.Sn,U A1 n1 c1,U A2 n2 c2],bc A1 n1 c1 a0.Sg,bc A2 n2 c2 a0.Sd] ([]) ((none,0,0)) J J call156.out J (fun _=>J) (fun l G hY=>(vI k hY).mono fun _ _ hh=>hh.2) ((bh (eT .i64) 3 _).trans (cp [1,5,6] [] [3,0,2] 7 J)) h ?_ ?_ ?_ ?_
 ·rintro l x8 p9 je sr8 ⟨A9,n9,c9⟩ h;replace h:eH N a1 x8 p9=some (je,sr8):=h;simp only [yJ,List.zip_cons_cons,List.zip_nil_left,List.zip_nil_right,List.reverse_cons,List.reverse_nil,R4,List.cons_append]
  refine iD fun b4=> ?_
  refine fm (Kl J J Rb) ?_;obtain ⟨a8,a2,h⟩:=aa h;refine aH 3 18 a8 ?_ ?_
  ·clear h;refine aE 15 J (fun a6=> ?_) (fun a6=> ?_)
   ·have h:=az a6 a2;refine ab ?_;obtain ⟨b5,k,h⟩:=aa h;refine gU (oR (sD k)) (cY a6 J) ?_;exact gY
   have h:=aA a6 a2;exact gY
  refine fd h ?_ ?_<;>intro h
  ·refine ab ?_;refine gD (aY (R:=(eT .i64)) (vss:=[[iV x8.2.N]]) (xs:=[x8.2.N]) J (lF _) J J (fun _ _ hr=> .cons J All2.nil)) ?_;rintro _ _ ⟨A16,n16,c16,rfl,rfl⟩;obtain ⟨b0,h⟩:=ah h
   refine nr (aX 3 0 J J aI J J t0 ES J J b0) fun b1 b2 b3=> ?_
   obtain ⟨rfl,rfl⟩:=Prod.mk.inj (Option.some.inj h);exact AG ((cS [2,3,4] 5).trans (fQ (b1,b2,b3) J))
  refine ab ?_;obtain ⟨rfl,rfl⟩:=Prod.mk.inj (Option.some.inj h);exact AG ((cS [1,2,3] 4).trans (fQ (A9,n9,c9) J))
 ·rintro ⟨A9,n9,c9⟩ h;refine pc ([ac B4 4 [.bool a1],eG A9 n9 c9 a7.2,ac B5 39 [U A9 n9 c9]]) J ?_;exact eY
 ·rintro ⟨A9,n9,c9⟩ h;exact am h
 rintro i ⟨A9,n9,c9⟩ h;exact am h
def fC (N:Nat)(a0:Rk):Option RL:=
 (jI N a0 true).bind fun y4=>some y4
theorem jb {N:Nat}{a0:Rk}{r:RL}(h:fC N a0=some r):Okc RY 97 [.agg #[iV a0.Sa,iV a0.Sk,iV a0.Sj,iV a0.Sn,U A1 n1 c1,U A2 n2 c2]] ([bc A1 n1 c1 a0.Sg,bc A2 n2 c2 a0.Sd]) (fun u post=> ∃A0 n0 c0,u=U A0 n0 c0/\post=[eG A0 n0 c0 r]):=by
 refine cG Tryz.func97 ?_;intro B3;refine ab ?_;obtain ⟨y4,k,h⟩:=aa h
 refine nr (oR (si k)) fun A5 n5 c5=> ?_
 exact eN
def ja (N:Nat)(a0:Rk):Option RL:=
 (jI N a0 false).bind fun y4=>some y4
theorem ob {N:Nat}{a0:Rk}{r:RL}(h:ja N a0=some r):Okc RY 98 [.agg #[iV a0.Sa,iV a0.Sk,iV a0.Sj,iV a0.Sn,U A1 n1 c1,U A2 n2 c2]] ([bc A1 n1 c1 a0.Sg,bc A2 n2 c2 a0.Sd]) (fun u post=> ∃A0 n0 c0,u=U A0 n0 c0/\post=[eG A0 n0 c0 r]):=by
 refine cG Tryz.func98 ?_;intro B3;refine ab ?_;obtain ⟨y4,k,h⟩:=aa h
 refine nr (oR (si k)) fun A5 n5 c5=> ?_
 exact eN
def nH (N:Nat)(a1:Int)(p6:RS)(p7:Int):Option (RS×Int×Bool):=
 (bif decide (0<a1) then (some (decide (p7<(p6.length:Int)))) else (some false)).bind fun a2=>some (p6,p7,a2)
def mC (N:Nat)(a0:Rp)(a1:Int):Option (RS×Int×Bool):=
 bn (in64 (a1.tdiv 2)) (bif decide (a1.tmod 2=0) then (bn (in64 (a1.tdiv 2)) (bn (in64 ((a1.tdiv 2) - 1)) (nH N a1 a0.Sc ((a1.tdiv 2) - 1)))) else (nH N a1 a0.Se (a1.tdiv 2)))
theorem uT {N:Nat}{a0:Rp}{a1:Int}{r:RS×Int×Bool}(h:mC N a0 a1=some r):Okc RY 166 [.agg #[U A1 n1 c1,U A2 n2 c2],iV a1] ([bi A1 n1 c1 a0.Se,bi A2 n2 c2 a0.Sc]) (fun u post=> ∃A0 n0 c0,u=.tuple #[U A0 n0 c0,iV r.2.1,.bool r.2.2]/\post=[bi A0 n0 c0 r.1]):=by
 refine cG Tryz.func166 ?_;intro B3;refine ab ?_;obtain ⟨q4,h⟩:=ah h;refine fm (xB J J (by decide) q4.1 q4.2) ?_;refine ao (fun s L=> ∃p6 p7 A6 n6 c6,nH N a1 p6 p7=some r/\s=[(1,iV a1),(4,U none 0 0),(5,iV 0),(6,.bool false),(7,U A6 n6 c6),(8,iV p7)]/\L=[bi A6 n6 c6 p6]) ?_ ?_
 ·refine ab ?_;refine fm (rk J J (by decide)) ?_;refine gH J h ?_ ?_<;>intro h
  ·refine ab ?_;obtain ⟨q9,h⟩:=ah h;refine gE (xB J J (by decide) q9.1 q9.2) ?_;obtain ⟨a2,h⟩:=ah h;exact jY
  exact jY
 rintro _ _ ⟨p6,p7,A6,n6,c6,h,rfl,rfl⟩;refine ab ?_;refine gS 5 30 25 h ?_;intro a6 h;exact eY
def iN (N:Nat)(a0:Rp)(a1:Int):Option Bool:=
 (mC N a0 a1).bind fun y4=>some y4.2.2
theorem kf {N:Nat}{a0:Rp}{a1:Int}{r:Bool}(h:iN N a0 a1=some r):Okc RY 140 [.agg #[U A1 n1 c1,U A2 n2 c2],iV a1] ([bi A1 n1 c1 a0.Se,bi A2 n2 c2 a0.Sc]) (fun u post=>u=.bool r/\post=[]):=by
 refine cG Tryz.func140 ?_;intro B3;refine ab ?_;obtain ⟨y4,k,h⟩:=aa h
 refine nr (oC (uT k)) fun A5 n5 c5=> ?_
 exact eN
def gI (N:Nat)(a0:Int)(a1:Rp):Option Bool:=
 (iN N a1 a0).bind fun y4=>some (!y4)
theorem ym {N:Nat}{a0:Int}{a1:Rp}{r:Bool}(h:gI N a0 a1=some r):Okc RY 163 [iV a0,pV B1 0] ([ar B1 96 [U A2 n2 c2,U A3 n3 c3],bi A2 n2 c2 a1.Se,bi A3 n3 c3 a1.Sc]) (fun u post=>u=.bool r/\post=[]):=by
 refine cG Tryz.func163 ?_;obtain ⟨y4,k,h⟩:=aa h;refine jQ (oR (kf k)) ?_;exact eN
def pR (N:Nat)(ff:Int->Option Bool):Option Int:=
 some (-1)
def dt (N:Nat)(ff:Int->Option Bool)(a0:RL):Nat->Int->Option Int
 |0,_=>none
 |m3+1,p4=>bif decide (p4<(a0.length:Int)) then ((au a0 p4).bind fun x6=>(ff x6).bind fun y7=>bif y7 then (some p4) else (bn (in64 (p4+1)) ((dt N ff a0 m3) (p4+1)))) else (pR N ff)
def jR (N:Nat)(a0:RL)(ff:Int->Option Bool):Option Int:=
 dt N ff a0 N 0
theorem wB {N:Nat}{a0:RL}{ff:Int->Option Bool}{r:Int}(h:jR N a0 ff=some r){vf:Value}{G:List Chunk}(hf:G5 RY vf G (fun x=> [iV x]) (fun r=> .bool r) ff):Okc RY 141 [U A1 n1 c1,vf] (dK A1 n1 c1 a0::G) (fun u post=>u=iV r/\post=[]):=by
 refine cG Tryz.func141 ?_;refine ao (fun s L=>pR N ff=some r/\s=[(4,iV 0)]/\L=G) ?_ ?_
 ·refine ab ?_;refine aW (fun m s L=> ∃p4,dt N ff a0 m p4=some r/\s=[(0,U A1 n1 c1),(1,vf),(4,iV 0),(7,iV (a0.length:Int)),(8,iV p4)]/\L=dK A1 n1 c1 a0::G) N _ _ ⟨0,h,J,J⟩ sA (cS [0] 1) ?_;rintro (_|m3) _ _ ⟨p4,h,rfl,rfl⟩
  ·exact am h
  rw [dt.eq_2] at h;refine ab ?_;refine aL ?_;refine gH J h ?_ ?_<;>intro h
  ·refine sY ?_;obtain ⟨x6,a1,a2,a6,h⟩:=bG h;refine ab ?_;obtain ⟨y7,k,h⟩:=aa h;refine gD (BH (a:=x6) [dK A1 n1 c1 a0] hf k J J) ?_;rintro _ _ ⟨rfl,rfl⟩;refine fd h ?_ ?_<;>intro h
   ·exact eY
   refine ab ?_;obtain ⟨q9,h⟩:=ah h;exact lY
  exact jY
 rintro _ _ ⟨h,rfl,rfl⟩;exact eY
theorem uu {r:Int}: ∀v post,((fun (u:Value) (post:List Chunk)=>u=iV r/\post=[])) v post-> ∀c∈post,jJ c:=by
 rintro _ _ ⟨rfl,rfl⟩;exact ay
def bB (N:Nat)(a0:RL)(ff:Int->Option Bool):Option Bool:=
 (jR N a0 ff).bind fun y2=>some (decide (0<=y2))
theorem dj {N:Nat}{a0:RL}{ff:Int->Option Bool}{r:Bool}(h:bB N a0 ff=some r){vf:Value}{G:List Chunk}(hf:G5 RY vf G (fun x=> [iV x]) (fun r=> .bool r) ff):Okc RY 95 [U A1 n1 c1,vf] (dK A1 n1 c1 a0::G) (fun u post=>u=.bool r/\post=[]):=by
 refine cG Tryz.func95 ?_;obtain ⟨y2,k,h⟩:=aa h;refine jQ (bV (wB k hf) call141.out J (hJ (dX (i:=0) J J) (zx (E:=[dK A1 n1 c1 a0]) hf.1)) uu) ?_;exact eN
end
end Go.Proofs.YtjmonlcchlkdhaaGreat