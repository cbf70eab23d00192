/- Merged texts: part 3. No conditions of their own. -/
import Derived.Test.YthhiddkljcacaaaGreatG2
import Derived.Shelf.SlIterI.Nil
import Derived.Shelf.SortM.Plain
import Derived.Shelf.SortM.SortNone
import Derived.Shelf.SlGeneric
import Derived.Ground.GgzProg
import Derived.Ground.SlgmProg
import Derived.Test.YthhiddkljcacaaaGreatProg
import Derived.Test.YthhiddkljcacaaaGreatChecked
import Derived.ProofKit
set_option maxHeartbeats 4000000
namespace Go.Proofs.YthhiddkljcacaaaGreat
variable (N:Nat){listed:Array Bool}{af:Array Edge}{ops:Array Oper}{ats:Array TypeId}{c:Chunk}{X:Cx}{B:Func}{f:FuncId}{a1 a2:Int}{K:K3}{D:List (Int×Bool)}{xs:List Operand}{rs:List ResultVar}{B2 a i j pd:Nat}{o:Oper}{x:Operand}{gd:Option (Nat×Bool)}{P:Program}{pos:String}{α β ι κ ρ σ:Type}{t ty:TypeId}{A L L' L2 M post z:V3}{args cs vs:V4}{v:Value}{R R':Value->V3->Prop}{C:World->Prop}{s s2:au}
section
theorem Vi:type_of% Tryz.underlying9:=Tryz.underlying9
theorem Vh:type_of% Tryz.underlying126:=Tryz.underlying126
theorem Vg:type_of% Tryz.underlying174:=Tryz.underlying174
theorem Vf:type_of% Tryz.underlying156:=Tryz.underlying156
theorem Ve:type_of% Tryz.underlying123:=Tryz.underlying123
theorem Vd:type_of% Tryz.underlying99:=Tryz.underlying99
theorem Vc:type_of% Tryz.underlying72:=Tryz.underlying72
theorem Vb:type_of% Tryz.underlying53:=Tryz.underlying53
theorem Va:type_of% Tryz.underlying40:=Tryz.underlying40
theorem EM:type_of% Tryz.underlying22:=Tryz.underlying22
theorem Ex:type_of% Tryz.underlying3:=Tryz.underlying3
open Go.RowKit
def iO (Q:ι->V3):Chunk where
 ok _ S w:= ∃x:ι, ∀c∈Q x,c.ok (fun _=>False) S w
 loc:=fun h ⟨x,k⟩=>⟨x,fun c a=>c.loc (h.mono fun _ d=>d.elim False.elim .inr) (k c a)⟩
 mono:=fun h ⟨x,k⟩=>⟨x,fun c a=>c.mono h (k c a)⟩
 ro:=true
 dup:=fun _ _ _ _ h=>h
class LentP {ι κ:Type} (Q:ι->V3) (R:κ->V3):Prop where
 out: ∀x,gw (Q x) (iO R)
class LentQ {ι κ:Type} (Q:ι->V3) (R:outParam (κ->V3)):Prop where
 out:LentP Q R
instance lentQP {Q:ι->V3}{R:κ->V3}[h:LentQ Q R]:LentP Q R:=h.out
class MemR {ι:Type} (Q:ι->V3) (c:Chunk):Prop where
 out: ∀x,c∈Q x
theorem LentP.of {Q:ι->V3}{R:κ->V3}(h:∀x, ∃y, ∀d∈R y,gw (Q x) d):LentP Q R:=⟨fun x T S w e=>by
 obtain ⟨y,a⟩:=h x;exact ⟨y,fun d c=>a d c T S w e⟩⟩
theorem qj {Q:ι->V3}{R:κ->V3}(hi:L[i]? =some (cP Q))[e:LentP Q R]:gw L (iO R):=fun T S w h=>by
 obtain ⟨x,T',l,j,d⟩:=h.ok hi;exact e.out x T' S w ⟨fun f=>l _ _ f,fun c a b=>j _ _ _ c a b,fun a b=>h.ro (d _ _ a) b,fun a=>h.lt (d _ _ a),h.lts⟩
theorem qk {Q:ι->V3}{R:κ->V3}(hi:L[i]? =some (cP Q))[hp:LentQ Q R]:gw L (iO R):=qj hi
theorem LentP.sub {η:Type}{Q:ι->V3}{R:κ->V3}{R':η->V3}(i:Nat)(h:∀x,(Q x)[i]? =some (cP R'))[hp:LentP R' R]:LentP Q R:=⟨fun x=>qj (h x)⟩
theorem abe {Q:ι->V3}(hi:L[i]? =some (iO Q))[e:MemR Q c]:gw L c:=fun T S w h=>by
 obtain ⟨x,a⟩:=h.ok hi;exact c.mono (fun _ d=>h.lts d) (a c (e.out x))
theorem nb (h:L.Perm M):Cv L M:=by
 induction h with
 |nil=>exact ah _
 |cons c _ d=>exact iv c d
 |swap a b l=>exact ql [1,0] 2 rfl rfl
 |trans _ _ f e=>exact f.trans e
theorem Lb {L:List α}{k:Nat}{c:α}(a:L[k]? =some c):L=L.take k++c::L.drop (k+1):=by
 obtain ⟨e,d⟩:=WH.1 a;rw [<-d,List.getElem_cons_drop,Xe]
theorem okN (h:Okc P f args L R)(hr:∀v post,R v post-> ∃post',R' v post'/\Cv post post'):Okc P f args L R':=⟨h.cal,fun Z w hw=>
 (h.run Z w hw).mono fun _ _ ⟨v,post,d,c,a⟩=>by
  obtain ⟨post',i,e⟩:=hr v post a;exact ⟨v,post',d,e _ _ c,i⟩⟩
theorem adm {R:ι->Value->V3->Prop}{Q:ι->V3}[Inhabited ι](k:Nat)(c:L[k]? =some (cP Q))(h:∀x,Okc P f args (L.take k++(Q x++L.drop (k+1))) (R x))(hr:∀x v post,R x v post-> ∃post',R' v post'/\Cv post post'):Okc P f args L R':=⟨(h default).cal,fun Z w hw=>by
 rw [Lb c] at hw;obtain ⟨x,a⟩:=gr (nb Xd Z w hw);exact (okN (h x) (hr x)).run Z w (nb (Xc _ _ _) Z w a)⟩
theorem jR {Q:ι->V3}[Inhabited ι](k:Nat)(e:L[k]? =some (iO Q))(h:∀x,Okc P f args (L.take k++(Q x++L.drop (k+1))) R):Okc P f args L R:=⟨(h default).cal,fun Z w hw=>by
 rw [Lb e] at hw;have n:=nb Xd Z w hw;obtain ⟨T,S,a⟩:=n;obtain ⟨x,d⟩:=a.ok (i:=0) (c:=iO Q) rfl;obtain ⟨T',m⟩:=SepL.facts (Q x) a d;have l:Sp Z (Q x++(iO Q::(L.take k++L.drop (k+1)))) w:=⟨T',S,by rw [VT];exact m⟩;have j:Sp Z (Q x++(L.take k++L.drop (k+1))) w:=cv_tl _ _ (nb Xd _ _ l);exact (h x).run Z w (nb (Xc _ _ _) Z w j)⟩
theorem OB {p:V3->Prop}{post':V3}(h:p post')(k:Cv post post'): ∃post',p post'/\Cv post post':=⟨post',h,k⟩
theorem abY {Q:ι->V3}{a:κ->V3}(h:∀x, ∃y,(Q x).Perm (c::a y)):Cv (cP Q::L) (c::cP a::L):=fun Z w hw=>by
 obtain ⟨x,e⟩:=gr hw;obtain ⟨y,d⟩:=h x;have f:Sp Z (c::(a y++L)) w:=nb (d.append_right L) Z w e;exact iv c (fa (Q:=a) y) Z w f
theorem UL {Q:ι->V3}{a:κ->V3}(h:∀y, ∃x,(c::a y).Perm (Q x)):Cv (c::cP a::L) (cP Q::L):=fun Z w hw=>by
 obtain ⟨y,d⟩:=gr (nb (List.Perm.swap _ _ _) Z w hw);obtain ⟨x,e⟩:=h y;have f:Sp Z (c::(a y++L)) w:=nb Xd Z w d;exact fa (Q:=Q) x Z w (nb (e.append_right L) Z w f)
end
section
open Go.RowKit
inductive FndL:Chunk->V3->Prop
  |sl {α:Type} {R:Rep α} {v xs L}:FndL (aL R v xs) (aL R v xs::L)
  |so {α:Type} {R:Rep α} {e v xs L}:FndL (aL R v xs) (aK R e v xs::L)
  |bb {b t cs L:_}:FndL (aQ b t cs) (ab b t cs::L)
  |br {b:Nat} {t:TypeId} {cs L}:FndL (aQ b t cs) (aQ b t cs::L)
  |mm {α β:Type} {ek:α->Value} {ev:β->Value} {m kv L}:FndL (cK ek ev m kv) (aA ek ev m kv::L)
  |mr {α β:Type} {ek:α->Value} {ev:β->Value} {m kv L}:FndL (cK ek ev m kv) (cK ek ev m kv::L)
  |pk {ι κ:Type} {Q:ι->V3} {R:κ->V3} {L} [h:LentP Q R]:FndL (iO R) (cP Q::L)
  |pq {ι κ:Type} {Q:ι->V3} {R:κ->V3} {L} [h:LentQ Q R]:FndL (iO R) (cP Q::L)
  |pr {ι:Type} {Q:ι->V3} {L}:FndL (iO Q) (iO Q::L)
  |rm {ι:Type} {Q:ι->V3} {c L} [h:MemR Q c]:FndL c (iO Q::L)
  |s {c d L:_} (h:FndL c L):FndL c (d::L)
theorem FndL.lent' (h:FndL c L): ∃(i:Nat) (d:Chunk),L[i]? =some d/\ ∀(L':V3) (j:Nat),L'[j]? =some d->gw L' c:=by
  induction h with
  |sl=>exact ⟨0,_,rfl,fun _ _ h=>bK h rfl⟩
  |so=>exact ⟨0,_,rfl,fun _ _ h=>cM h⟩
  |bb=>exact ⟨0,_,rfl,fun _ _ h=>fY h⟩
  |br=>exact ⟨0,_,rfl,fun _ _ h=>bK h rfl⟩
  |mm=>exact ⟨0,_,rfl,fun _ _ h=>mY h⟩
  |mr=>exact ⟨0,_,rfl,fun _ _ h=>bK h rfl⟩
  |pk=>exact ⟨0,_,rfl,fun _ _ h=>qj h⟩
  |pq=>exact ⟨0,_,rfl,fun _ _ h=>qj h⟩
  |pr=>exact ⟨0,_,rfl,fun _ _ h=>bK h rfl⟩
  |rm=>exact ⟨0,_,rfl,fun _ _ h=>abe h⟩
  |s _ a=>obtain ⟨i,d,f,e⟩:=a;exact ⟨i+1,d,f,e⟩
theorem FndL.lent (h:FndL c L):gw L c:=by
  obtain ⟨i,d,e,a⟩:=h.lent';exact a L i e
def nk (L z:V3):Prop:= ∀c∈z,gw L c
theorem CH:nk L []:=aW
theorem CL (h:FndL c L)(k:nk L z):nk L (c::z):=t9 h.lent k
theorem Cu (h:L'=L)(k:nk L z):nk L' z:=h▸k
theorem CK {p:α->Prop}{Q:Prop}(k:∀a,p a->Q):(∃a,p a)->Q:=fun ⟨a,h⟩=>k a h
theorem frA {a b Q:Prop}(k:b->Q):a/\b->Q:=fun h=>k h.2
theorem frQ {C:V3}(k:∀c∈C,bP c):post=C-> ∀c∈post,bP c:=fun h=>h▸k
theorem CV: ∀c∈([]:V3),bP c:=aW
theorem CW {sz:Nat}{en:α->V4}{d:∀x,(en x).length=sz}{a:∀x,(en x).all (·.oneCell')=true}{e:TypeId}{xs:List α}{l:V3}(k:∀c∈l,bP c): ∀c∈(aK (Rep.flat sz en d a) e v xs::l),bP c:=t9 iU k
theorem CT {b:Nat}{l:V3}(k:∀c∈l,bP c): ∀c∈(ab b t cs::l),bP c:=t9 Bn k
theorem CO {ek:α->Value}{ev:β->Value}{m:Nat}{kv:List (α×β)}{l:V3}(k:∀c∈l,bP c): ∀c∈(aA ek ev m kv::l),bP c:=t9 Fs k
inductive FndC (c:Chunk):V3->V3->Prop
  |w {L:_}:FndC c (c::L) L
  |s {d L M:_} (h:FndC c L M):FndC c (d::L) (d::M)
theorem abB {d:Chunk}:Cv (c::d::L) (d::c::L):=ql [1,0] 2 rfl rfl
theorem FndC.cv (h:FndC c L M):Cv L (c::M):=by
  induction h with
  |w=>exact ah _
  |s _ a=>exact (iv _ a).trans abB
inductive FndD (c:Chunk):V3->Prop
  |w {L:_}:FndD c (c::L)
  |s {d L:_} (h:FndD c L):FndD c (d::L)
theorem FndD.cv (h:FndD c L)(d:c.ro=true):Cv L (c::L):=by
  obtain ⟨i,hi⟩: ∃i:Nat,L[i]? =some c:=by
    induction h with
    |w=>exact ⟨0,rfl⟩
    |s _ a=>obtain ⟨i,h⟩:=a;exact ⟨i+1,h⟩
  exact Gq i hi d
def Tk (L z rest:V3):Prop:=Cv L (z++rest)
theorem CP:Tk L [] L:=ah _
theorem CS {rest:V3}(h:FndC c L M)(k:Tk M z rest):Tk L (c::z) rest:=h.cv.trans (iv c k)
theorem OA {rest:V3}(h:FndD c L)(a:c.ro=true)(k:Tk L z rest):Tk L (c::z) rest:=(h.cv a).trans (iv c k)
theorem CI {R:Rep α}{xs:List α}{rest:V3}(h:FndD (aL R v xs) L)(k:Tk L z rest):Tk L (aL R v xs::z) rest:=OA h rfl k
theorem CR {b:Nat}{rest:V3}(h:FndD (aQ b t cs) L)(k:Tk L z rest):Tk L (aQ b t cs::z) rest:=OA h rfl k
theorem Cz {rest:V3}(h:L'=L)(k:Tk L z rest):Tk L' z rest:=h▸k
class FcK (P:Program) (f:FuncId):Prop where
  out:oy P f
section
variable {d:Option Nat}
theorem oR (i:Okc P f vs z R)(a:eu s xs=some vs:=by exact rfl)(e:nk L z:=by
      apply Cu (by repeat (first|exact gK rfl|apply gG rfl|exact rfl))
      repeat (first|exact CH|apply CL (by with_reducible repeat (first|apply FndL.bb|apply FndL.br|apply FndL.sl|apply FndL.so|apply FndL.mm|apply FndL.mr|apply FndL.pq|apply FndL.pk|apply FndL.pr|apply FndL.rm|apply FndL.s))|apply leZ))(hr:∀v post,R v post-> ∀c∈post,bP c:=by
      intro v post
      repeat (first|(refine CK ?_;intro _)|refine frA ?_)
      refine frQ ?_
      repeat (first|exact CV|refine CT ?_|refine CO ?_|refine CW ?_)):OpX P s L ⟨d,.call ⟨.value (.func f),xs.toArray,ats⟩,ty,pos,af,gd⟩ fun u L'=> ∃post,R u post/\L'=post++L:=co i a e hr
theorem oC {rest:V3}(e:Okc P f vs z R)(a:eu s xs=some vs:=by exact rfl)(c:Tk L z rest:=by
      apply Cz (by repeat (first|exact gK rfl|apply gG rfl|exact rfl))
      repeat (first|exact CP|apply CI (by with_reducible repeat (first|apply FndD.w|apply FndD.s))|apply CR (by with_reducible repeat (first|apply FndD.w|apply FndD.s))|apply tkM (by with_reducible repeat (first|apply FndD.w|apply FndD.s))|apply tkR (by with_reducible repeat (first|apply FndD.w|apply FndD.s))|apply CS (by with_reducible repeat (first|apply FndC.w|apply FndC.s)))):OpX P s L ⟨d,.call ⟨.value (.func f),xs.toArray,ats⟩,ty,pos,af,gd⟩ fun u L'=> ∃post,R u post/\L'=post++rest:=kR e a c
end
inductive FndX (b:Nat) (bt:TypeId) (cs:V4):V3->Prop
  |w {L:_}:FndX b bt cs (ab b bt cs::L)
  |s {c L:_} (h:FndX b bt cs L):FndX b bt cs (c::L)
theorem FndX.ix {b bt:Nat}(h:FndX b bt cs L): ∃i:Nat,L[i]? =some (ab b bt cs):=by
  induction h with
  |w=>exact ⟨0,rfl⟩
  |s _ a=>obtain ⟨i,h⟩:=a;exact ⟨i+1,h⟩
theorem aN:All2 (jI P L s) [] []:=.nil
theorem aT {t:Nat}(h:cq s t=some v)(k:All2 (jI P L s) rs vs):All2 (jI P L s) (.tmp t::rs) (v::vs):=.cons (ng h) k
theorem aS {t ty n bt b:Nat}{us:V4}(a:FcG P ty n)(d:cq s t=some (.pointer (some ⟨b,0,none⟩)))(hi:FndX b bt cs L)(e:cs=us)(c:us.length=n)(k:All2 (jI P L s) rs vs):All2 (jI P L s) (.cell t ty::rs) (.agg us.toArray::vs):=by
  obtain ⟨i,hi⟩:=hi.ix;subst e;exact .cons (lV i hi d (c▸a.out)) k
theorem aO {t ty bt b:Nat}(a:Fc (cz P ty=true))(c:cq s t=some (.pointer (some ⟨b,0,none⟩)))(hi:FndX b bt [v] L)(k:All2 (jI P L s) rs vs):All2 (jI P L s) (.cell t ty::rs) (v::vs):=by
  obtain ⟨i,hi⟩:=hi.ix;exact .cons (Gc i hi c a.out) k
theorem wR {T:V3}(h:L'=L)(k:Cv L T):Cv L' T:=h▸k
theorem wZ {T:V3}(k:Cv L T):Cv (c::L) T:=(cv_tl).trans k
theorem wY:Cv L []:=fun Z w h=>by
  have:=(ql (L:=L) [] L.length (by simp [nr]) (by simp)) Z w h;simpa [ln] using this
theorem wW (h:FndC c L M)(k:Cv M L2):Cv L (c::L2):=h.cv.trans (iv c k)
theorem wX {R:Rep α}{xs:List α}(h:FndD (aL R v xs) L)(k:Cv L L2):Cv L (aL R v xs::L2):=(h.cv rfl).trans (iv _ k)
theorem adi (hr:B.results=rs.toArray)(e:All2 (jI X.P L s) rs vs)(a:Hh vs=v)(d:R v L2)(c:Cv L L2):ts X B R .ret s L:=me hr e a c d
theorem eN {p:Prop}(a:p:=by
    obtain rfl:=bn h
    first|apply adi rfl|apply endN rfl
    repeat (first|exact aN|apply aT rfl|apply aS (by infer_instance) rfl (by with_reducible repeat (first|apply FndX.w|apply FndX.s)) (by repeat (first|exact qn rfl|apply qh rfl)) (by exact rfl)|apply aO (by infer_instance) rfl (by with_reducible repeat (first|apply FndX.w|apply FndX.s)))
    exact J
    repeat (apply Exists.intro)
    exact ⟨J,J⟩
    all_goals (try apply wR (by repeat (first|exact gK rfl|apply gG rfl|exact rfl)))
    all_goals (repeat (first|exact wY|apply wX (by with_reducible repeat (first|apply FndD.w|apply FndD.s))|apply wW (by with_reducible repeat (first|apply FndC.w|apply FndC.s))|apply cwF (by with_reducible repeat (first|apply FndC.w|apply FndC.s))|apply cwZ|apply cwY|exact ah _|apply wZ))):p:=a
theorem OH {Fam:au->V3->Prop}(h:Fam s2 L2)(a:dK s s2)(c:Cv L L2): ∃s2 L2,Fam s2 L2/\dK s s2/\Cv L L2:=⟨s2,L2,h,a,c⟩
theorem jN {p:Prop}(a:p:=by
    apply OH
    repeat (apply Exists.intro)
    exact ⟨h,J,J⟩
    all_goals (try exact sA)
    all_goals (try apply wR (by repeat (first|exact gK rfl|apply gG rfl|exact rfl)))
    all_goals (repeat (first|exact wY|apply wX (by with_reducible repeat (first|apply FndD.w|apply FndD.s))|apply wW (by with_reducible repeat (first|apply FndC.w|apply FndC.s))|apply cwF (by with_reducible repeat (first|apply FndC.w|apply FndC.s))|apply cwZ|apply cwY|exact ah _|apply wZ))):p:=a
theorem lpP {Fam:Nat->au->V3->Prop}{m:Nat}(h:Fam m s2 L2)(d:dK s s2)(e:Cv L L2): ∃m' a c,m'<m+1/\Fam m' a c/\dK s a/\Cv L c:=⟨m,s2,L2,VS _,h,d,e⟩
theorem lN {p:Prop}(a:p:=by
    apply lpP
    repeat (apply Exists.intro)
    exact ⟨h,J,J⟩
    all_goals (try exact sA)
    all_goals (try apply wR (by repeat (first|exact gK rfl|apply gG rfl|exact rfl)))
    all_goals (repeat (first|exact wY|apply wX (by with_reducible repeat (first|apply FndD.w|apply FndD.s))|apply wW (by with_reducible repeat (first|apply FndC.w|apply FndC.s))|apply cwF (by with_reducible repeat (first|apply FndC.w|apply FndC.s))|apply cwZ|apply cwY|exact ah _|apply wZ))):p:=a
instance repInt {k:IntKind}:RepF (df k) (fun x=> [.int k x]):=⟨fun _ _ _ _ h=>h⟩
section
variable {d:Nat}
theorem xrL {R:Rep α}{e:TypeId}{xs:List α}[f:FcS P t e](a:ao s x=some v)(i:FndE R v xs L):RdS P s L ⟨some d,.call ⟨.builtin .len, #[x], #[t]⟩,ty,pos,af,gd⟩ (.int .i64 (xs.length:Int)):=⟨by
  obtain ⟨j,c,h,e⟩:=i.ix;exact ie j h e a f.out⟩
theorem adu {u:TypeId}{y:Operand}{a b:Int}(e:ao s x=some (.int .i64 a))(c:ao s y=some (.int .i64 b))(h:in64 (a+b)):RdS P s L ⟨some d,.binOp .add t x y u,ty,pos,af,gd⟩ (.int .i64 (a+b)):=⟨fun _ _ _=>cY e c h.1 h.2⟩
theorem ado {u:TypeId}{y:Operand}{a b:Int}(e:ao s x=some (.int .i64 a))(c:ao s y=some (.int .i64 b))(h:in64 (a - b)):RdS P s L ⟨some d,.binOp .sub t x y u,ty,pos,af,gd⟩ (.int .i64 (a - b)):=⟨fun _ _ _=>ne e c h.1 h.2⟩
theorem xrT {vs:Array Value}(a:ao s x=some (.tuple vs))(hi:vs.toList[i]? =some v):RdS P s L ⟨some d,.extract x i,ty,pos,af,gd⟩ v:=⟨fun _ _ _=>oo a (by simpa using hi)⟩
theorem qz {op:Op}(h:RdS P s L ⟨some d,op,ty,pos,af,gd⟩ v:=by
  first
    |exact xrT rfl rfl
    |exact xrE rfl
    |exact adq rfl
    |exact xrF rfl
    |exact xr1 rfl (by with_reducible repeat (first|apply FndR.w|apply FndR.r|apply FndR.s)) (by exact rfl)
    |exact xrS rfl (by with_reducible repeat (first|apply FndR.w|apply FndR.r|apply FndR.s)) (by repeat (first|exact qn rfl|apply qh rfl)) (by exact rfl)
    |exact xrD (by repeat (first|exact adp|apply adg rfl)) (by infer_instance)
    |exact xrL rfl (by with_reducible repeat (first|apply FndE.w bA|apply FndE.w aw|apply FndE.s))
    |exact xrI rfl rfl (by with_reducible repeat (first|apply FndE.w bA|apply FndE.w aw|apply FndE.s)) (by assumption) (by assumption)
    |exact xrG rfl (by with_reducible repeat (first|apply FndE.w bA|apply FndE.w aw|apply FndE.s)) (by infer_instance) (by assumption) (by exact rfl) (by repeat (first|exact qn rfl|apply qh rfl)) (by exact rfl)
    |exact xrH rfl (by with_reducible repeat (first|apply FndE.w bA|apply FndE.w aw|apply FndE.s)) (by infer_instance) (by assumption) (by exact rfl) (by exact rfl)
    |exact adu rfl rfl (by assumption)
    |exact ado rfl rfl (by assumption)
    |exact xrP rfl (by assumption) rfl
    |exact xrQ rfl (by assumption) rfl):RdS P s L ⟨some d,op,ty,pos,af,gd⟩ v:=h
end
section
variable {l:List Oper}
theorem tw {B:V3}(h:aP X ops l K s (A++B)):aP X ops l K s (A++B):=h
theorem isS (h:aP X ops l K s (A.set i c)):aP X ops l K s (A.set i c):=h
theorem adl {y:Code}(h:Wq X y K s (A.set i c)):Wq X y K s (A.set i c):=h
theorem isB {B:V3}{c:Code}(h:Wq X c K s (A++B)):Wq X c K s (A++B):=h
end
theorem aa {p q:Prop}(k:q)(h:Bxd q->p:=by
  intro k
  repeat (first
    | (with_reducible first|refine tw ?_|refine isS ?_
       refine ld ?_)
    | (with_reducible refine tx ?_
       refine Hi J ?_
       first
         | (refine Hq ?_
            first
              |refine tR qz rfl rfl ?_
              |refine tW rfl rfl (by repeat (first|exact qn rfl|apply qh rfl)) (by with_reducible repeat (first|apply FndW.w|apply FndW.s)) (by repeat (first|exact qn rfl|apply qh rfl)) (by exact rfl) (by exact rfl) (by exact rfl) ?_
              |refine tA (by repeat (first|exact qn rfl|apply qh rfl)) rfl ?_
              |refine tX rfl (by repeat (first|exact qn rfl|apply qh rfl)) rfl ?_)
         |refine Ht ?_)
    | (with_reducible refine tx ?_
       fail_if_success with_reducible refine Hm ?_
       refine Hl J ?_)
    | (with_reducible first|refine isB ?_|refine adl ?_
       refine Cr ?_)
    | (with_reducible refine Ho ?_
       first
         |refine aH (iT ?_)
         |with_reducible refine iT ?_
         |with_reducible refine Cf ?_
         | (fail_if_success with_reducible refine Hp ?_
            with_reducible refine qi ?_)
         |with_reducible refine wI ?_
         |with_reducible refine Gw ?_)
    | (with_reducible refine isT ?_
       first
         |refine tZ _ rfl rfl qz I (by exact rfl) (by exact rfl) ?_
         |refine tU _ rfl rfl (by exact rfl) I (by exact rfl) ?_
         |refine tN I ?_)
    |with_reducible refine d5 ?_
    |with_reducible refine G2 ?_
    |with_reducible refine He ?_
    |with_reducible refine G1 ?_
    |with_reducible refine CA ?_
    |with_reducible refine Hf ?_)
  exact k.un):p:=h ⟨k⟩
structure CvA (L L2:V3):Prop where
  out:Cv L L2
theorem cX (h:CvA L L2:=by
    refine CvA.mk ?_;apply wR (by repeat (first|exact gK rfl|apply gG rfl|exact rfl))
    repeat (first|exact wY|apply wX (by with_reducible repeat (first|apply FndD.w|apply FndD.s))|apply wW (by with_reducible repeat (first|apply FndC.w|apply FndC.s))|apply cwF (by with_reducible repeat (first|apply FndC.w|apply FndC.s))|apply cwZ|apply cwY|exact ah _|apply wZ)):Cv L L2:=h.out
theorem gJ {a b:Bool}(h:some a=some b)(c:dK s ((pd,.bool a)::s2):=by exact sA)(d:Cv L L2:=by exact cX):aP X ops [] (jk ((pd,.bool b)::s2) L2) s L:=by
  cases h;exact fN c d
theorem gS {l:List Oper}(k pd gc:Nat){c:Bool}{u v:Option Bool}{f:Bool->Option ρ}{r:ρ}(h:(bif c then u else v).bind f=some r)(k2:∀b,f b=some r->aP X ops (l.drop k) K ((pd,.bool b)::s) L)(i:ao s (.tmp gc)=some (.bool c):=by exact rfl)(e:∀b,c=true->u=some b->aP X ops (l.take k) (jk ((pd,.bool b)::s) L) s L:=by
      intro b g h;refine aa ?_;exact gJ h)(d:∀b,c=false->v=some b->aP X ops (l.take k) (jk ((pd,.bool b)::s) L) s L:=by
      intro b g h;refine aa ?_;exact gJ h):aP X ops l K s L:=by
  obtain ⟨b,hb,h⟩:=ad h;refine eD k pd b ?_ (k2 b h)
  cases a:c with
  |true=>exact e b a (du a hb)
  |false=>exact d b a (dt a hb)
end
section
open Go.RowKit
theorem aI {xs:List α}{i:Int}{f:α->Option ρ}{r:ρ}(h:(ak xs i).bind f=some r): ∃x,0<=i/\i<xs.length/\xs[i.toNat]? =some x/\f x=some r:=by
  obtain ⟨x,a,h⟩:=ad h;obtain ⟨l,u,a⟩:=jz a;exact ⟨x,l,u,a,h⟩
theorem av {c:Code}{q:Prop}(d:P.funcs[f]? =some B)(k:q)(hb:B.body=some c:=by exact rfl)(a:Nat.ble args.length B.ntmps=true:=by exact rfl)(hm:(B.name== "runtime.NumGoroutine")=false:=by exact rfl)(h:Bxd q->Wq ⟨P,B.ntmps,none⟩ c (ts ⟨P,B.ntmps,none⟩ B R) (fe args 0) L:=by
      intro k;simp only [fe];refine aa ?_;exact k.un):Okc P f args L R:=gQ d hb a (h ⟨k⟩) hm
theorem eY {p:Prop}(a:p:=by
    refine aa ?_;exact eN):p:=a
theorem jY {p:Prop}(a:p:=by
    refine aa ?_;exact jN):p:=a
theorem lY {p:Prop}(a:p:=by
    refine aa ?_;exact lN):p:=a
theorem gY {p:Prop}(a:p:=by
    refine aa ?_;exact gJ h):p:=a
theorem bB {p:Prop}{q:Nat->Prop}(k:∀b,q b)(h:(∀b,Bxd (q b))->p:=by
    intro k;refine aa ?_;intro b;refine aa ?_;exact (k b).un):p:=h fun b=>⟨k b⟩
theorem sY {p q:Prop}(k:q)(h:Bxd q->p:=by
    intro k;refine aa ?_;refine aH ?_;refine aa ?_;exact k.un):p:=h ⟨k⟩
theorem sZ {p q:Prop}(k:q)(h:Bxd q->p:=by
    intro k;refine aH ?_;refine aa ?_;exact k.un):p:=h ⟨k⟩
section
theorem aG {p:Prop}{c:Operand}{x y:Code}{b:Bool}{u v r:Option ρ}(h:(bif b then u else v)=r)(a:u=r->Wq X x K s L)(d:v=r->Wq X y K s L)(f:Bxd (Wq X (.cond c x y) K s L)->p:=by
      intro k;refine aa ?_;exact k.un)(e:ao s c=some (.bool b):=by exact rfl):p:=f ⟨gH e h a d⟩
variable {rest:List Oper}{d:Nat}{op:Op}{q:Prop}
theorem fS (h:Rd X.P s L ⟨some d,op,ty,pos,af,gd⟩ v)(k:q)(hr:Bxd q->aP X ops rest K ((d,v)::s) L:=by
      intro k;refine aa ?_;exact k.un)(a:bQ ⟨some d,op,ty,pos,af,gd⟩=true:=by rfl)(c:bu ops s ⟨some d,op,ty,pos,af,gd⟩=some true:=by rfl)(e:Nat.ble (d+1) X.n=true:=by rfl):aP X ops (⟨some d,op,ty,pos,af,gd⟩::rest) K s L:=gR h (hr ⟨k⟩) a c e
theorem aJ (h:Ev X.P s (fun _=>True) ⟨some d,op,ty,pos,af,gd⟩ v)(k:q)(hr:Bxd q->aP X ops rest K ((d,v)::s) L:=by
      intro k;refine aa ?_;exact k.un)(a:bQ ⟨some d,op,ty,pos,af,gd⟩=true:=by rfl)(c:bu ops s ⟨some d,op,ty,pos,af,gd⟩=some true:=by rfl)(e:Nat.ble (d+1) X.n=true:=by rfl):aP X ops (⟨some d,op,ty,pos,af,gd⟩::rest) K s L:=gE h (hr ⟨k⟩) a c e
theorem cV {C Z:V3}(h:OpX X.P s L ⟨some d,op,ty,pos,af,gd⟩ fun u L'=> ∃post,(u=v/\post=C)/\L'=post++Z)(k:q)(hr:Bxd q->aP X ops rest K ((d,v)::s) (C++Z):=by
      intro k;refine aa ?_;exact k.un)(a:bQ ⟨some d,op,ty,pos,af,gd⟩=true:=by rfl)(c:bu ops s ⟨some d,op,ty,pos,af,gd⟩=some true:=by rfl)(e:Nat.ble (d+1) X.n=true:=by rfl):aP X ops (⟨some d,op,ty,pos,af,gd⟩::rest) K s L:=gV h (hr ⟨k⟩) a c e
theorem fm {Z:V3}(h:OpX X.P s L ⟨none,op,ty,pos,af,gd⟩ fun _ L'=>L'=Z)(k:q)(hr:Bxd q->aP X ops rest K s Z:=by
      intro k;refine aa ?_;exact k.un)(a:bQ ⟨none,op,ty,pos,af,gd⟩=true:=by rfl)(c:bu ops s ⟨none,op,ty,pos,af,gd⟩=some true:=by rfl):aP X ops (⟨none,op,ty,pos,af,gd⟩::rest) K s L:=gW h (hr ⟨k⟩) a c
theorem bN {q:Option Addr->Nat->Nat->Prop}(h:OpX X.P s L ⟨some d,op,ty,pos,af,gd⟩ R)(k:∀(x0:Option Addr) (x1:Nat) (x2:Nat),q x0 x1 x2)(hr:(∀(x0:Option Addr) (x1:Nat) (x2:Nat),Bxd (q x0 x1 x2))-> ∀v L',R v L'->aP X ops rest K ((d,v)::s) L':=by
      intro k
      first|(rintro _ _ ⟨_,⟨x0,x1,x2,rfl,rfl⟩,rfl⟩;refine aa ?_;exact (k x0 x1 x2).un)|(rintro _ _ ⟨x0,x1,x2,rfl,rfl⟩;refine aa ?_;exact (k x0 x1 x2).un))(a:bQ ⟨some d,op,ty,pos,af,gd⟩=true:=by rfl)(c:bu ops s ⟨some d,op,ty,pos,af,gd⟩=some true:=by rfl)(e:Nat.ble (d+1) X.n=true:=by rfl):aP X ops (⟨some d,op,ty,pos,af,gd⟩::rest) K s L:=gD h (hr fun x0 x1 x2=>⟨k x0 x1 x2⟩) a c e
theorem OE {q:Option Addr->Nat->Nat->Option Addr->Nat->Nat->Prop}(h:OpX X.P s L ⟨some d,op,ty,pos,af,gd⟩ R)(k:∀(x0:Option Addr) (x1:Nat) (x2:Nat) (x3:Option Addr) (x4:Nat) (x5:Nat),q x0 x1 x2 x3 x4 x5)(hr:(∀(x0:Option Addr) (x1:Nat) (x2:Nat) (x3:Option Addr) (x4:Nat) (x5:Nat),Bxd (q x0 x1 x2 x3 x4 x5))-> ∀v L',R v L'->aP X ops rest K ((d,v)::s) L':=by
      intro k
      first|(rintro _ _ ⟨_,⟨x0,x1,x2,x3,x4,x5,rfl,rfl⟩,rfl⟩;refine aa ?_;exact (k x0 x1 x2 x3 x4 x5).un)|(rintro _ _ ⟨x0,x1,x2,x3,x4,x5,rfl,rfl⟩;refine aa ?_;exact (k x0 x1 x2 x3 x4 x5).un))(a:bQ ⟨some d,op,ty,pos,af,gd⟩=true:=by rfl)(c:bu ops s ⟨some d,op,ty,pos,af,gd⟩=some true:=by rfl)(e:Nat.ble (d+1) X.n=true:=by rfl):aP X ops (⟨some d,op,ty,pos,af,gd⟩::rest) K s L:=gD h (hr fun x0 x1 x2 x3 x4 x5=>⟨k x0 x1 x2 x3 x4 x5⟩) a c e
theorem OC {q:Option Addr->Nat->Nat->Option Addr->Nat->Nat->Option Addr->Nat->Nat->Prop}(h:OpX X.P s L ⟨some d,op,ty,pos,af,gd⟩ R)(k:∀(x0:Option Addr) (x1:Nat) (x2:Nat) (x3:Option Addr) (x4:Nat) (x5:Nat) (x6:Option Addr) (x7:Nat) (x8:Nat),q x0 x1 x2 x3 x4 x5 x6 x7 x8)(hr:(∀(x0:Option Addr) (x1:Nat) (x2:Nat) (x3:Option Addr) (x4:Nat) (x5:Nat) (x6:Option Addr) (x7:Nat) (x8:Nat),Bxd (q x0 x1 x2 x3 x4 x5 x6 x7 x8))-> ∀v L',R v L'->aP X ops rest K ((d,v)::s) L':=by
      intro k
      first|(rintro _ _ ⟨_,⟨x0,x1,x2,x3,x4,x5,x6,x7,x8,rfl,rfl⟩,rfl⟩;refine aa ?_;exact (k x0 x1 x2 x3 x4 x5 x6 x7 x8).un)|(rintro _ _ ⟨x0,x1,x2,x3,x4,x5,x6,x7,x8,rfl,rfl⟩;refine aa ?_;exact (k x0 x1 x2 x3 x4 x5 x6 x7 x8).un))(a:bQ ⟨some d,op,ty,pos,af,gd⟩=true:=by rfl)(c:bu ops s ⟨some d,op,ty,pos,af,gd⟩=some true:=by rfl)(e:Nat.ble (d+1) X.n=true:=by rfl):aP X ops (⟨some d,op,ty,pos,af,gd⟩::rest) K s L:=gD h (hr fun x0 x1 x2 x3 x4 x5 x6 x7 x8=>⟨k x0 x1 x2 x3 x4 x5 x6 x7 x8⟩) a c e
theorem Ow {q:Option Addr->Nat->Nat->Option Addr->Nat->Nat->Option Addr->Nat->Nat->Option Addr->Nat->Nat->Prop}(h:OpX X.P s L ⟨some d,op,ty,pos,af,gd⟩ R)(k:∀(x0:Option Addr) (x1:Nat) (x2:Nat) (x3:Option Addr) (x4:Nat) (x5:Nat) (x6:Option Addr) (x7:Nat) (x8:Nat) (x9:Option Addr) (a6:Nat) (a8:Nat),q x0 x1 x2 x3 x4 x5 x6 x7 x8 x9 a6 a8)(hr:(∀(x0:Option Addr) (x1:Nat) (x2:Nat) (x3:Option Addr) (x4:Nat) (x5:Nat) (x6:Option Addr) (x7:Nat) (x8:Nat) (x9:Option Addr) (a6:Nat) (a8:Nat),Bxd (q x0 x1 x2 x3 x4 x5 x6 x7 x8 x9 a6 a8))-> ∀v L',R v L'->aP X ops rest K ((d,v)::s) L':=by
      intro k
      first|(rintro _ _ ⟨_,⟨x0,x1,x2,x3,x4,x5,x6,x7,x8,x9,a6,a8,rfl,rfl⟩,rfl⟩;refine aa ?_;exact (k x0 x1 x2 x3 x4 x5 x6 x7 x8 x9 a6 a8).un)|(rintro _ _ ⟨x0,x1,x2,x3,x4,x5,x6,x7,x8,x9,a6,a8,rfl,rfl⟩;refine aa ?_;exact (k x0 x1 x2 x3 x4 x5 x6 x7 x8 x9 a6 a8).un))(a:bQ ⟨some d,op,ty,pos,af,gd⟩=true:=by rfl)(c:bu ops s ⟨some d,op,ty,pos,af,gd⟩=some true:=by rfl)(e:Nat.ble (d+1) X.n=true:=by rfl):aP X ops (⟨some d,op,ty,pos,af,gd⟩::rest) K s L:=gD h (hr fun x0 x1 x2 x3 x4 x5 x6 x7 x8 x9 a6 a8=>⟨k x0 x1 x2 x3 x4 x5 x6 x7 x8 x9 a6 a8⟩) a c e
end
def Zl (_:List Nat)(p:Prop):Prop:=p
theorem xe {p:Prop}(h:p):Zl [] p:=h
section
variable {d:Nat}{op:Op}
theorem Hu (i:Nat){l:List Nat}(hi:ops[i]? =some ⟨some d,op,ty,pos,af,gd⟩)(h:RdS X.P s M ⟨some d,op,ty,pos,af,gd⟩ v)(c:jQ ops listed i=true)(e:bu ops s ⟨some d,op,ty,pos,af,gd⟩=some true)(f:Nat.ble (d+1) X.n=true)(k:Zl l (bv X ops K M a (listed.setIfInBounds i true) ((d,v)::s) L)):Zl (i::l) (bv X ops K M (a+1) listed s L):=zR i hi h.out k c e f
end
theorem zY (l:List Nat){p q:Prop}(k:q)(h:Bxd q->Zl l p:=by
    intro k
    repeat (refine Hu _ rfl qz I (by exact rfl) (by exact rfl) ?_)
    refine xe ?_;exact k.un):p:=h ⟨k⟩
theorem zlM {l:List Nat}{p q:Prop}(f:q->p)(h:Zl l q):Zl l p:=f h
theorem zX (l:List Nat){p q:Prop}(k:q)(h:Bxd q->Zl l p:=by
    intro k
    repeat (refine Hu _ rfl qz I (by exact rfl) (by exact rfl) ?_)
    refine xe ?_;refine cJ I ?_;exact k.un):p:=h ⟨k⟩
theorem dY (l:List Nat){p q:Prop}(k:q)(h:Bxd q->Zl l p:=by
    intro k;refine zlM (fun h=>aH (cy I _ (ah _) h)) ?_
    repeat (refine Hu _ rfl qz I (by exact rfl) (by exact rfl) ?_)
    refine xe ?_;exact k.un):p:=h ⟨k⟩
theorem bE {P:V3->Prop}(k:P M)(h:Cv L M:=by exact cX): ∃M',Cv L M'/\Cv M' M/\P M':=cj h k
section
variable {d:Nat}{op:Op}
theorem o9 (i:Nat){q:Nat->Prop}(hi:ops[i]? =some ⟨some d,op,ty,pos,af,gd⟩)(h:OpX X.P s L ⟨some d,op,ty,pos,af,gd⟩ R)(k:∀(x0:Nat),q x0)(c:(∀(x0:Nat),Bxd (q x0))-> ∀v L',R v L'-> ∃M',Cv L' M'/\Cv M' M/\bv X ops K M' a (listed.setIfInBounds i true) ((d,v)::s) L':=by
      intro k
      first
        | rintro _ _ ⟨_,⟨x0,rfl,rfl⟩,rfl⟩
          refine bE ?_;refine bX ?_;exact (k x0).un
        | rintro _ _ ⟨x0,rfl,rfl⟩
          refine bE ?_;refine bX ?_;exact (k x0).un)(hr:Region.ready .any ops listed=[i]:=by kernel_rfl)(e:bQ ⟨some d,op,ty,pos,af,gd⟩=true:=by exact rfl)(f:bu ops s ⟨some d,op,ty,pos,af,gd⟩=some true:=by exact rfl)(j:Nat.ble (d+1) X.n=true:=by exact rfl):bv X ops K M (a+1) listed s L:=zD i hi h (c fun x0=>⟨k x0⟩) hr e f j
theorem fk (i:Nat){q:Option Addr->Nat->Nat->Prop}(hi:ops[i]? =some ⟨some d,op,ty,pos,af,gd⟩)(h:OpX X.P s L ⟨some d,op,ty,pos,af,gd⟩ R)(k:∀(x0:Option Addr) (x1:Nat) (x2:Nat),q x0 x1 x2)(c:(∀(x0:Option Addr) (x1:Nat) (x2:Nat),Bxd (q x0 x1 x2))-> ∀v L',R v L'-> ∃M',Cv L' M'/\Cv M' M/\bv X ops K M' a (listed.setIfInBounds i true) ((d,v)::s) L':=by
      intro k
      first
        | rintro _ _ ⟨_,⟨x0,x1,x2,rfl,rfl⟩,rfl⟩
          refine bE ?_;refine bX ?_;exact (k x0 x1 x2).un
        | rintro _ _ ⟨x0,x1,x2,rfl,rfl⟩
          refine bE ?_;refine bX ?_;exact (k x0 x1 x2).un)(hr:Region.ready .any ops listed=[i]:=by kernel_rfl)(e:bQ ⟨some d,op,ty,pos,af,gd⟩=true:=by exact rfl)(f:bu ops s ⟨some d,op,ty,pos,af,gd⟩=some true:=by exact rfl)(j:Nat.ble (d+1) X.n=true:=by exact rfl):bv X ops K M (a+1) listed s L:=zD i hi h (c fun x0 x1 x2=>⟨k x0 x1 x2⟩) hr e f j
theorem zT6 (i:Nat){q:Option Addr->Nat->Nat->Option Addr->Nat->Nat->Prop}(hi:ops[i]? =some ⟨some d,op,ty,pos,af,gd⟩)(h:OpX X.P s L ⟨some d,op,ty,pos,af,gd⟩ R)(k:∀(x0:Option Addr) (x1:Nat) (x2:Nat) (x3:Option Addr) (x4:Nat) (x5:Nat),q x0 x1 x2 x3 x4 x5)(c:(∀(x0:Option Addr) (x1:Nat) (x2:Nat) (x3:Option Addr) (x4:Nat) (x5:Nat),Bxd (q x0 x1 x2 x3 x4 x5))-> ∀v L',R v L'-> ∃M',Cv L' M'/\Cv M' M/\bv X ops K M' a (listed.setIfInBounds i true) ((d,v)::s) L':=by
      intro k
      first
        | rintro _ _ ⟨_,⟨x0,x1,x2,x3,x4,x5,rfl,rfl⟩,rfl⟩
          refine bE ?_;refine bX ?_;exact (k x0 x1 x2 x3 x4 x5).un
        | rintro _ _ ⟨x0,x1,x2,x3,x4,x5,rfl,rfl⟩
          refine bE ?_;refine bX ?_;exact (k x0 x1 x2 x3 x4 x5).un)(hr:Region.ready .any ops listed=[i]:=by kernel_rfl)(e:bQ ⟨some d,op,ty,pos,af,gd⟩=true:=by exact rfl)(f:bu ops s ⟨some d,op,ty,pos,af,gd⟩=some true:=by exact rfl)(j:Nat.ble (d+1) X.n=true:=by exact rfl):bv X ops K M (a+1) listed s L:=zD i hi h (c fun x0 x1 x2 x3 x4 x5=>⟨k x0 x1 x2 x3 x4 x5⟩) hr e f j
theorem Ok (i:Nat){q:Option Addr->Nat->Nat->Option Addr->Nat->Nat->Option Addr->Nat->Nat->Option Addr->Nat->Nat->Prop}(hi:ops[i]? =some ⟨some d,op,ty,pos,af,gd⟩)(h:OpX X.P s L ⟨some d,op,ty,pos,af,gd⟩ R)(k:∀(x0:Option Addr) (x1:Nat) (x2:Nat) (x3:Option Addr) (x4:Nat) (x5:Nat) (x6:Option Addr) (x7:Nat) (x8:Nat) (x9:Option Addr) (a6:Nat) (a8:Nat),q x0 x1 x2 x3 x4 x5 x6 x7 x8 x9 a6 a8)(c:(∀(x0:Option Addr) (x1:Nat) (x2:Nat) (x3:Option Addr) (x4:Nat) (x5:Nat) (x6:Option Addr) (x7:Nat) (x8:Nat) (x9:Option Addr) (a6:Nat) (a8:Nat),Bxd (q x0 x1 x2 x3 x4 x5 x6 x7 x8 x9 a6 a8))-> ∀v L',R v L'-> ∃M',Cv L' M'/\Cv M' M/\bv X ops K M' a (listed.setIfInBounds i true) ((d,v)::s) L':=by
      intro k
      first
        | rintro _ _ ⟨_,⟨x0,x1,x2,x3,x4,x5,x6,x7,x8,x9,a6,a8,rfl,rfl⟩,rfl⟩
          refine bE ?_;refine bX ?_;exact (k x0 x1 x2 x3 x4 x5 x6 x7 x8 x9 a6 a8).un
        | rintro _ _ ⟨x0,x1,x2,x3,x4,x5,x6,x7,x8,x9,a6,a8,rfl,rfl⟩
          refine bE ?_;refine bX ?_;exact (k x0 x1 x2 x3 x4 x5 x6 x7 x8 x9 a6 a8).un)(hr:Region.ready .any ops listed=[i]:=by kernel_rfl)(e:bQ ⟨some d,op,ty,pos,af,gd⟩=true:=by exact rfl)(f:bu ops s ⟨some d,op,ty,pos,af,gd⟩=some true:=by exact rfl)(j:Nat.ble (d+1) X.n=true:=by exact rfl):bv X ops K M (a+1) listed s L:=zD i hi h (c fun x0 x1 x2 x3 x4 x5 x6 x7 x8 x9 a6 a8=>⟨k x0 x1 x2 x3 x4 x5 x6 x7 x8 x9 a6 a8⟩) hr e f j
end
theorem ac {α:Sort _}{p:α->Prop}{q:Prop}(k:∀a,p a->q):(∃a,p a)->q:=fun ⟨a,h⟩=>k a h
theorem Za{α β γ:Sort _}{p:α->β->γ->Prop}{q:Prop}(k:∀a b c,p a b c->q):(∃a b c,p a b c)->q:=fun⟨a,b,c,h⟩=>k a b c h
theorem Zb{α β γ δ ε ζ:Sort _}{p:α->β->γ->δ->ε->ζ->Prop}{q:Prop}(k:∀a b c d e f,p a b c d e f->q):(∃a b c d e f,p a b c d e f)->q:=fun⟨a,b,c,d,e,f,h⟩=>k a b c d e f h
theorem d7 {c:Prop}{X:au}{a:V3}{q:au->V3->Prop}(k:c->q X a):c/\s=X/\L=a->q s L:=fun ⟨h,e,d⟩=>by subst e d;exact k h
end
section
variable {n2:Nat}
open Go.RowKit
section
variable {d:Nat}{op:Op}
theorem zlU (i:Nat){l:List Nat}(hi:ops[i]? =some ⟨some d,op,ty,pos,af,gd⟩)(e:bu ops s ⟨some d,op,ty,pos,af,gd⟩=some false)(c:jQ ops listed i=true)(f:Nat.ble (d+1) X.n=true)(k:Zl l (bv X ops K M a (listed.setIfInBounds i true) ((d,undef)::s) L)):Zl (i::l) (bv X ops K M (a+1) listed s L):=cT i hi c e f k
theorem zlG (i:Nat){l:List Nat}(hi:ops[i]? =some ⟨some d,op,ty,pos,af,gd⟩)(e:bu ops s ⟨some d,op,ty,pos,af,gd⟩=some true)(h:RdS X.P s M ⟨some d,op,ty,pos,af,gd⟩ v)(c:jQ ops listed i=true)(f:Nat.ble (d+1) X.n=true)(k:Zl l (bv X ops K M a (listed.setIfInBounds i true) ((d,v)::s) L)):Zl (i::l) (bv X ops K M (a+1) listed s L):=zR i hi h.out k c e f
end
theorem yY (l:List Nat){p q:Prop}(k:q)(h:Bxd q->Zl l p:=by
  intro k
  repeat (first
   |refine zlU _ rfl (by first|exact rfl|exact eK (by assumption) rfl|exact gX (by assumption) rfl) I (by exact rfl) ?_
   |refine zlG _ rfl (by first|exact rfl|exact be (by assumption) rfl|exact bY (by assumption) rfl) qz I (by exact rfl) ?_)
  refine xe ?_;exact k.un):p:=h ⟨k⟩
section
theorem yS {n2:Nat}{l:Array Bool}{a b:Bool}(rest:bv X ops K M n2 l ((pd,.bool b)::s2) L2)(h:some a=some b)(c:dK s ((pd,.bool a)::s2):=by exact sA)(d:Cv L L2:=by exact cX)(hm:Cv L2 M:=by exact cX):bv X ops K M n2 l s L:=by
 cases h;exact jg rest c d hm
theorem yJ (ix:List Nat)(n2 gc pd:Nat){c:Bool}{u v:Option Bool}{f:Bool->Option ρ}{r:ρ}(h:(bif c then u else v).bind f=some r)(j:∀b,c=true->u=some b->bv X ops K M n2 (jd listed ix) ((pd,.bool b)::s) L->bv X ops K M a listed s L)(i:∀b,c=false->v=some b->bv X ops K M n2 (jd listed ix) ((pd,.bool b)::s) L->bv X ops K M a listed s L)(k2:∀b,f b=some r->bv X ops K M n2 (jd listed ix) ((pd,.bool b)::s) L)(e:cq s gc=some (.bool c):=by exact rfl):bv X ops K M a listed s L:=by
 have _:=e;obtain ⟨b,hb,h⟩:=ad h
 cases d:c with
 |true=>exact j b d (du d hb) (k2 b h)
 |false=>exact i b d (dt d hb) (k2 b h)
theorem iF {l:List Oper}(k pd gc:Nat){c:Bool}{u v:Option Bool}{f:Bool->Option ρ}{r:ρ}(h:(bif c then u else v).bind f=some r)(i:∀b,c=true->u=some b->aP X ops (l.take k) (jk ((pd,.bool b)::s) L) s L)(e:∀b,c=false->v=some b->aP X ops (l.take k) (jk ((pd,.bool b)::s) L) s L)(k2:∀b,f b=some r->aP X ops (l.drop k) K ((pd,.bool b)::s) L)(d:cq s gc=some (.bool c):=by exact rfl):aP X ops l K s L:=by
 have _:=d;obtain ⟨b,hb,h⟩:=ad h;refine eD k pd b ?_ (k2 b h)
 cases a:c with
 |true=>exact i b a (du a hb)
 |false=>exact e b a (dt a hb)
end
section
variable {d:V3}{n:Nat}{p:Nat->Oper->Prop}
theorem qE {v':Value}(h:Ev P s (fun _=>True) o v')(k:∀(i:Nat) (o:Oper),i<n->ops[i]? =some o->p i o)(e:ops[n]? =some o:=by exact rfl)(c:nv P ops s L d o (Asn.aV v).full->p n o:=by exact id)(a:v'=v:=by exact rfl)(j:bu ops s o=some true:=by exact rfl)(f:Cv L d:=by exact ah _): ∀(i:Nat) (o:Oper),i<n+1->ops[i]? =some o->p i o:=bl e (c (dI h j (bj a f))) k
theorem qR {v':Value}(h:Rd P s L o v')(k:∀(i:Nat) (o:Oper),i<n->ops[i]? =some o->p i o)(e:ops[n]? =some o:=by exact rfl)(c:nv P ops s L d o (Asn.aV v).full->p n o:=by exact id)(a:v'=v:=by exact rfl)(j:bu ops s o=some true:=by exact rfl)(f:Cv L d:=by exact ah _): ∀(i:Nat) (o:Oper),i<n+1->ops[i]? =some o->p i o:=bl e (c (dj h j (bj a f))) k
end
end
section
open Go.RowKit
section
variable {e:Nat}{l:Option Nat}{rest:List Oper}{d:Nat}{m:Option α}{g:α->Option ρ}{r:ρ}{re:V3}{p:Prop}
theorem cR {v:α->Value}{C:α->V3}{q:α->Prop}(h:m.bind g=some r)(c:∀y,m=some y->Okc P f vs z (fun u p=>u=v y/\p=C y))(k:∀y,g y=some r->q y)(n:∀y,Bxd (q y)->(aP ⟨P,e,l⟩ ops rest K ((d,v y)::s) (C y++L)->aP ⟨P,e,l⟩ ops (⟨some d,.call ⟨.value (.func f),xs.toArray,ats⟩,ty,pos,af,gd⟩::rest) K s L)->p:=by
   intro y k1 k2;refine aa ?_;refine k2 ?_;refine aa ?_;exact k1.un)(i:eu s xs=some vs:=by exact rfl)(t:nk L z:=by
   apply Cu (by repeat (first|exact gK rfl|apply gG rfl|exact rfl))
   repeat (first|exact CH|apply CL (by with_reducible repeat (first|apply FndL.bb|apply FndL.br|apply FndL.sl|apply FndL.so|apply FndL.mm|apply FndL.mr|apply FndL.pq|apply FndL.pk|apply FndL.pr|apply FndL.rm|apply FndL.s))|apply leZ))(hr:∀y, ∀c∈C y,bP c:=by
   intro y
   repeat (first|exact CV|refine CT ?_|refine CO ?_|refine CW ?_))(o:bQ ⟨some d,.call ⟨.value (.func f),xs.toArray,ats⟩,ty,pos,af,gd⟩=true:=by rfl)(A:bu ops s ⟨some d,.call ⟨.value (.func f),xs.toArray,ats⟩,ty,pos,af,gd⟩=some true:=by first|exact rfl|exact be (by assumption) rfl|exact bY (by assumption) rfl)(B:Nat.ble (d+1) e=true:=by rfl):p:=by
 obtain ⟨y,a,h⟩:=ad h;refine n y (⟨k y h⟩) fun j=>gD (co (c y a) i t (fun u post h=>by obtain ⟨-,rfl⟩:=h;exact hr y)) ?_ o A B
 rintro _ _ ⟨_,⟨rfl,rfl⟩,rfl⟩;exact j
theorem cC {v:α->Value}{C:α->V3}{q:α->Prop}(h:m.bind g=some r)(c:∀y,m=some y->Okc P f vs z (fun u p=>u=v y/\p=C y))(k:∀y,g y=some r->q y)(n:∀y,Bxd (q y)->(aP ⟨P,e,l⟩ ops rest K ((d,v y)::s) (C y++re)->aP ⟨P,e,l⟩ ops (⟨some d,.call ⟨.value (.func f),xs.toArray,ats⟩,ty,pos,af,gd⟩::rest) K s L)->p:=by
   intro y k1 k2;refine aa ?_;refine k2 ?_;refine aa ?_;exact k1.un)(i:eu s xs=some vs:=by exact rfl)(t:Tk L z re:=by
   apply Cz (by repeat (first|exact gK rfl|apply gG rfl|exact rfl))
   repeat (first|exact CP|apply CI (by with_reducible repeat (first|apply FndD.w|apply FndD.s))|apply CR (by with_reducible repeat (first|apply FndD.w|apply FndD.s))|apply tkM (by with_reducible repeat (first|apply FndD.w|apply FndD.s))|apply tkR (by with_reducible repeat (first|apply FndD.w|apply FndD.s))|apply CS (by with_reducible repeat (first|apply FndC.w|apply FndC.s))))(o:bQ ⟨some d,.call ⟨.value (.func f),xs.toArray,ats⟩,ty,pos,af,gd⟩=true:=by rfl)(A:bu ops s ⟨some d,.call ⟨.value (.func f),xs.toArray,ats⟩,ty,pos,af,gd⟩=some true:=by first|exact rfl|exact be (by assumption) rfl|exact bY (by assumption) rfl)(B:Nat.ble (d+1) e=true:=by rfl):p:=by
 obtain ⟨y,a,h⟩:=ad h;refine n y (⟨k y h⟩) fun j=>gD (kR (c y a) i t) ?_ o A B
 rintro _ _ ⟨_,⟨rfl,rfl⟩,rfl⟩;exact j
theorem kG {v:α->Option Addr->Nat->Nat->Value}{C:α->Option Addr->Nat->Nat->V3}{q:α->Option Addr->Nat->Nat->Prop}(h:m.bind g=some r)(c:∀y,m=some y->Okc P f vs z (fun u p=> ∃(x0:Option Addr) (x1:Nat) (x2:Nat),u=v y x0 x1 x2/\p=C y x0 x1 x2))(k:∀y (x0:Option Addr) (x1:Nat) (x2:Nat),g y=some r->q y x0 x1 x2)(n:∀y,(∀(x0:Option Addr) (x1:Nat) (x2:Nat),Bxd (q y x0 x1 x2))->((∀(x0:Option Addr) (x1:Nat) (x2:Nat),aP ⟨P,e,l⟩ ops rest K ((d,v y x0 x1 x2)::s) (C y x0 x1 x2++L))->aP ⟨P,e,l⟩ ops (⟨some d,.call ⟨.value (.func f),xs.toArray,ats⟩,ty,pos,af,gd⟩::rest) K s L)->p:=by
   intro y k1 k2;refine aa ?_;refine k2 ?_;intro x0 x1 x2;refine aa ?_;exact (k1 x0 x1 x2).un)(i:eu s xs=some vs:=by exact rfl)(t:nk L z:=by
   apply Cu (by repeat (first|exact gK rfl|apply gG rfl|exact rfl))
   repeat (first|exact CH|apply CL (by with_reducible repeat (first|apply FndL.bb|apply FndL.br|apply FndL.sl|apply FndL.so|apply FndL.mm|apply FndL.mr|apply FndL.pq|apply FndL.pk|apply FndL.pr|apply FndL.rm|apply FndL.s))|apply leZ))(hr:∀y (x0:Option Addr) (x1:Nat) (x2:Nat), ∀c∈C y x0 x1 x2,bP c:=by
   intro y x0 x1 x2
   repeat (first|exact CV|refine CT ?_|refine CO ?_|refine CW ?_))(o:bQ ⟨some d,.call ⟨.value (.func f),xs.toArray,ats⟩,ty,pos,af,gd⟩=true:=by rfl)(A:bu ops s ⟨some d,.call ⟨.value (.func f),xs.toArray,ats⟩,ty,pos,af,gd⟩=some true:=by first|exact rfl|exact be (by assumption) rfl|exact bY (by assumption) rfl)(B:Nat.ble (d+1) e=true:=by rfl):p:=by
 obtain ⟨y,a,h⟩:=ad h;refine n y (fun x0 x1 x2=>⟨k y x0 x1 x2 h⟩) fun j=>gD (co (c y a) i t (fun u post h=>by obtain ⟨x0,x1,x2, -,rfl⟩:=h;exact hr y x0 x1 x2)) ?_ o A B
 rintro _ _ ⟨_,⟨x0,x1,x2,rfl,rfl⟩,rfl⟩;exact j x0 x1 x2
theorem Hj {v:α->Option Addr->Nat->Nat->Value}{C:α->Option Addr->Nat->Nat->V3}{q:α->Option Addr->Nat->Nat->Prop}(h:m.bind g=some r)(c:∀y,m=some y->Okc P f vs z (fun u p=> ∃(x0:Option Addr) (x1:Nat) (x2:Nat),u=v y x0 x1 x2/\p=C y x0 x1 x2))(k:∀y (x0:Option Addr) (x1:Nat) (x2:Nat),g y=some r->q y x0 x1 x2)(n:∀y,(∀(x0:Option Addr) (x1:Nat) (x2:Nat),Bxd (q y x0 x1 x2))->((∀(x0:Option Addr) (x1:Nat) (x2:Nat),aP ⟨P,e,l⟩ ops rest K ((d,v y x0 x1 x2)::s) (C y x0 x1 x2++re))->aP ⟨P,e,l⟩ ops (⟨some d,.call ⟨.value (.func f),xs.toArray,ats⟩,ty,pos,af,gd⟩::rest) K s L)->p:=by
   intro y k1 k2;refine aa ?_;refine k2 ?_;intro x0 x1 x2;refine aa ?_;exact (k1 x0 x1 x2).un)(i:eu s xs=some vs:=by exact rfl)(t:Tk L z re:=by
   apply Cz (by repeat (first|exact gK rfl|apply gG rfl|exact rfl))
   repeat (first|exact CP|apply CI (by with_reducible repeat (first|apply FndD.w|apply FndD.s))|apply CR (by with_reducible repeat (first|apply FndD.w|apply FndD.s))|apply tkM (by with_reducible repeat (first|apply FndD.w|apply FndD.s))|apply tkR (by with_reducible repeat (first|apply FndD.w|apply FndD.s))|apply CS (by with_reducible repeat (first|apply FndC.w|apply FndC.s))))(o:bQ ⟨some d,.call ⟨.value (.func f),xs.toArray,ats⟩,ty,pos,af,gd⟩=true:=by rfl)(A:bu ops s ⟨some d,.call ⟨.value (.func f),xs.toArray,ats⟩,ty,pos,af,gd⟩=some true:=by first|exact rfl|exact be (by assumption) rfl|exact bY (by assumption) rfl)(B:Nat.ble (d+1) e=true:=by rfl):p:=by
 obtain ⟨y,a,h⟩:=ad h;refine n y (fun x0 x1 x2=>⟨k y x0 x1 x2 h⟩) fun j=>gD (kR (c y a) i t) ?_ o A B
 rintro _ _ ⟨_,⟨x0,x1,x2,rfl,rfl⟩,rfl⟩;exact j x0 x1 x2
theorem qA {v:α->Option Addr->Nat->Nat->Option Addr->Nat->Nat->Value}{C:α->Option Addr->Nat->Nat->Option Addr->Nat->Nat->V3}{q:α->Option Addr->Nat->Nat->Option Addr->Nat->Nat->Prop}(h:m.bind g=some r)(c:∀y,m=some y->Okc P f vs z (fun u p=> ∃(x0:Option Addr) (x1:Nat) (x2:Nat) (x3:Option Addr) (x4:Nat) (x5:Nat),u=v y x0 x1 x2 x3 x4 x5/\p=C y x0 x1 x2 x3 x4 x5))(k:∀y (x0:Option Addr) (x1:Nat) (x2:Nat) (x3:Option Addr) (x4:Nat) (x5:Nat),g y=some r->q y x0 x1 x2 x3 x4 x5)(n:∀y,(∀(x0:Option Addr) (x1:Nat) (x2:Nat) (x3:Option Addr) (x4:Nat) (x5:Nat),Bxd (q y x0 x1 x2 x3 x4 x5))->((∀(x0:Option Addr) (x1:Nat) (x2:Nat) (x3:Option Addr) (x4:Nat) (x5:Nat),aP ⟨P,e,l⟩ ops rest K ((d,v y x0 x1 x2 x3 x4 x5)::s) (C y x0 x1 x2 x3 x4 x5++L))->aP ⟨P,e,l⟩ ops (⟨some d,.call ⟨.value (.func f),xs.toArray,ats⟩,ty,pos,af,gd⟩::rest) K s L)->p:=by
   intro y k1 k2;refine aa ?_;refine k2 ?_;intro x0 x1 x2 x3 x4 x5;refine aa ?_;exact (k1 x0 x1 x2 x3 x4 x5).un)(i:eu s xs=some vs:=by exact rfl)(t:nk L z:=by
   apply Cu (by repeat (first|exact gK rfl|apply gG rfl|exact rfl))
   repeat (first|exact CH|apply CL (by with_reducible repeat (first|apply FndL.bb|apply FndL.br|apply FndL.sl|apply FndL.so|apply FndL.mm|apply FndL.mr|apply FndL.pq|apply FndL.pk|apply FndL.pr|apply FndL.rm|apply FndL.s))|apply leZ))(hr:∀y (x0:Option Addr) (x1:Nat) (x2:Nat) (x3:Option Addr) (x4:Nat) (x5:Nat), ∀c∈C y x0 x1 x2 x3 x4 x5,bP c:=by
   intro y x0 x1 x2 x3 x4 x5
   repeat (first|exact CV|refine CT ?_|refine CO ?_|refine CW ?_))(o:bQ ⟨some d,.call ⟨.value (.func f),xs.toArray,ats⟩,ty,pos,af,gd⟩=true:=by rfl)(A:bu ops s ⟨some d,.call ⟨.value (.func f),xs.toArray,ats⟩,ty,pos,af,gd⟩=some true:=by first|exact rfl|exact be (by assumption) rfl|exact bY (by assumption) rfl)(B:Nat.ble (d+1) e=true:=by rfl):p:=by
 obtain ⟨y,a,h⟩:=ad h;refine n y (fun x0 x1 x2 x3 x4 x5=>⟨k y x0 x1 x2 x3 x4 x5 h⟩) fun j=>gD (co (c y a) i t (fun u post h=>by obtain ⟨x0,x1,x2,x3,x4,x5, -,rfl⟩:=h;exact hr y x0 x1 x2 x3 x4 x5)) ?_ o A B
 rintro _ _ ⟨_,⟨x0,x1,x2,x3,x4,x5,rfl,rfl⟩,rfl⟩;exact j x0 x1 x2 x3 x4 x5
theorem qy {v:α->Option Addr->Nat->Nat->Option Addr->Nat->Nat->Value}{C:α->Option Addr->Nat->Nat->Option Addr->Nat->Nat->V3}{q:α->Option Addr->Nat->Nat->Option Addr->Nat->Nat->Prop}(h:m.bind g=some r)(c:∀y,m=some y->Okc P f vs z (fun u p=> ∃(x0:Option Addr) (x1:Nat) (x2:Nat) (x3:Option Addr) (x4:Nat) (x5:Nat),u=v y x0 x1 x2 x3 x4 x5/\p=C y x0 x1 x2 x3 x4 x5))(k:∀y (x0:Option Addr) (x1:Nat) (x2:Nat) (x3:Option Addr) (x4:Nat) (x5:Nat),g y=some r->q y x0 x1 x2 x3 x4 x5)(n:∀y,(∀(x0:Option Addr) (x1:Nat) (x2:Nat) (x3:Option Addr) (x4:Nat) (x5:Nat),Bxd (q y x0 x1 x2 x3 x4 x5))->((∀(x0:Option Addr) (x1:Nat) (x2:Nat) (x3:Option Addr) (x4:Nat) (x5:Nat),aP ⟨P,e,l⟩ ops rest K ((d,v y x0 x1 x2 x3 x4 x5)::s) (C y x0 x1 x2 x3 x4 x5++re))->aP ⟨P,e,l⟩ ops (⟨some d,.call ⟨.value (.func f),xs.toArray,ats⟩,ty,pos,af,gd⟩::rest) K s L)->p:=by
   intro y k1 k2;refine aa ?_;refine k2 ?_;intro x0 x1 x2 x3 x4 x5;refine aa ?_;exact (k1 x0 x1 x2 x3 x4 x5).un)(i:eu s xs=some vs:=by exact rfl)(t:Tk L z re:=by
   apply Cz (by repeat (first|exact gK rfl|apply gG rfl|exact rfl))
   repeat (first|exact CP|apply CI (by with_reducible repeat (first|apply FndD.w|apply FndD.s))|apply CR (by with_reducible repeat (first|apply FndD.w|apply FndD.s))|apply tkM (by with_reducible repeat (first|apply FndD.w|apply FndD.s))|apply tkR (by with_reducible repeat (first|apply FndD.w|apply FndD.s))|apply CS (by with_reducible repeat (first|apply FndC.w|apply FndC.s))))(o:bQ ⟨some d,.call ⟨.value (.func f),xs.toArray,ats⟩,ty,pos,af,gd⟩=true:=by rfl)(A:bu ops s ⟨some d,.call ⟨.value (.func f),xs.toArray,ats⟩,ty,pos,af,gd⟩=some true:=by first|exact rfl|exact be (by assumption) rfl|exact bY (by assumption) rfl)(B:Nat.ble (d+1) e=true:=by rfl):p:=by
 obtain ⟨y,a,h⟩:=ad h;refine n y (fun x0 x1 x2 x3 x4 x5=>⟨k y x0 x1 x2 x3 x4 x5 h⟩) fun j=>gD (kR (c y a) i t) ?_ o A B
 rintro _ _ ⟨_,⟨x0,x1,x2,x3,x4,x5,rfl,rfl⟩,rfl⟩;exact j x0 x1 x2 x3 x4 x5
end
section
theorem lK {c:Code}(Fam:Nat->au->V3->Prop)(e:Nat)(k:∀m s2 L2,Fam (m+1) s2 L2->Wq X c (nx (fun f L'=> ∃m' a d,m'<m+1/\Fam m' a d/\dK f a/\Cv L' d) K) s2 L2)(j:∃s2 L2,Fam e s2 L2/\dK s s2/\Cv L L2:=by
   apply OH
   repeat (apply Exists.intro)
   exact ⟨h,J,J⟩
   all_goals (try exact sA)
   all_goals (try apply wR (by repeat (first|exact gK rfl|apply gG rfl|exact rfl)))
   all_goals (repeat (first|exact wY|apply wX (by with_reducible repeat (first|apply FndD.w|apply FndD.s))|apply wW (by with_reducible repeat (first|apply FndC.w|apply FndC.s))|apply cwF (by with_reducible repeat (first|apply FndC.w|apply FndC.s))|apply cwZ|apply cwY|exact ah _|apply wZ)))(i:∀s2 L2,Fam 0 s2 L2->False:=by
   intro s2 L2
   repeat (refine CK ?_;intro _)
   intro h;exact bO h.1):Wq X (.loop c) K s L:=by
 obtain ⟨s2,L2,o,n,l⟩:=j;refine dU Fam e s2 L2 o n l fun m a d h=> ?_
 cases m with
 |zero=>exact (i _ _ h).elim
 |succ m=>exact k m _ _ h
theorem bF {l:List Oper}(k pd gc:Nat){c:Bool}{u v:Option Bool}{f:Bool->Option ρ}{r:ρ}(h:(bif c then u else v).bind f=some r)(e:∀b,c=true->u=some b->aP X ops (l.take k) (jk ((pd,.bool b)::s) L) s L)(k2:∀b,f b=some r->aP X ops (l.drop k) K ((pd,.bool b)::s) L)(a:cq s gc=some (.bool c):=by exact rfl)(d:∀b,c=false->v=some b->aP X ops (l.take k) (jk ((pd,.bool b)::s) L) s L:=by
   intro b g h;exact gY):aP X ops l K s L:=iF k pd gc h e d k2 a
theorem dJ {l:List Oper}(k pd gc:Nat){c:Bool}{u v:Option Bool}{f:Bool->Option ρ}{r:ρ}(h:(bif c then u else v).bind f=some r)(d:∀b,c=false->v=some b->aP X ops (l.take k) (jk ((pd,.bool b)::s) L) s L)(k2:∀b,f b=some r->aP X ops (l.drop k) K ((pd,.bool b)::s) L)(a:cq s gc=some (.bool c):=by exact rfl)(e:∀b,c=true->u=some b->aP X ops (l.take k) (jk ((pd,.bool b)::s) L) s L:=by
   intro b g h;exact gY):aP X ops l K s L:=iF k pd gc h e d k2 a
end
end
section
open Go.RowKit
theorem OpX.fr {t:au}(h:OpX P s L o R)(n:dK t s)(C:Chunk):OpX P t (C::L) o fun v L2=> ∃L',R v L'/\L2=C::L':=fun ρ hρ Z w hw=>by
 have up: ∀{L' w'},Sp (C::Z) L' w'->Sp Z (C::L') w':=fun h=>SepL.perm h Xd
 have dn:Sp (C::Z) L w:=SepL.perm hw Xd.symm;rcases h ρ (fun x u m=>hρ x u (by cases x<;>first|exact m|exact FX n m)) (C::Z) w dn with ⟨v,w',L',c,a,j⟩|⟨w',L',c,a,j⟩|⟨f,args,c,a⟩|⟨l,f,tmps,assign,body,c,a⟩
 ·exact .inl ⟨v,w',_,c,up a,L',j,J⟩
 ·exact .inr (.inl ⟨w',_,c,up a,L',j,J⟩)
 ·refine .inr (.inr (.inl ⟨f,args,c,a.mono ?_⟩));rintro e w' ⟨v,L',rfl,i,d⟩;exact ⟨v,_,J,up i,L',d,J⟩
 refine .inr (.inr (.inr ⟨l,f,tmps,assign,body,c,a.mono ?_⟩));rintro e w' ⟨v,L',rfl,i,d⟩;exact ⟨v,_,J,up i,L',d,J⟩
def lz (X:Cx)(ops:Array Oper)(K:K3)(M:V3)(a:Nat)(listed:Array Bool)(s:au)(L:V3)(j d:Nat)(t:TypeId)(cs:V4):Prop:=
 bv X ops K M (a+1) listed s L/\ ∀B,bv X ops K M a (listed.setIfInBounds j true) ((d,pV B 0)::s) (ab B t cs::L)
section
variable {d e:Nat}{op:Op}{ty':TypeId}{pos':String}{af':Array Edge}{u:Value}
theorem NI (c:Cv L L')(hm:Cv L' M)(k:lz X ops K M a listed s L' j d t cs):lz X ops K M a listed s L j d t cs:=
 ⟨fg c hm k.1,fun B=>fg (iv _ c) (cv_tl.trans hm) (k.2 B)⟩
theorem tg (k:lz X ops K M a listed s L j d t cs)(h:L'=L:=by repeat (first|exact gK rfl|apply gG rfl|exact rfl)):lz X ops K M a listed s L' j d t cs:=h▸k
theorem aB (j:Nat)[hz:FcI X.P t u](e:ops[j]? =some ⟨some d,.alloc t,ty',pos',af',none⟩)(c:u.cells.toList=cs)(k:lz X ops K M a listed s L j d t cs):bv X ops K M (a+1) listed s L:=k.1
theorem aD (i:Nat)[P:FcI X.P t u](h:OpX X.P s L ⟨some e,op,ty,pos,af,none⟩ R)(k:∀v L',R v L'-> ∃M',Cv L' M'/\Cv M' M/\lz X ops K M' a (listed.setIfInBounds i true) ((e,v)::s) L' j d t cs)(hi:ops[i]? =some ⟨some e,op,ty,pos,af,none⟩:=by exact rfl)(S:ops[j]? =some ⟨some d,.alloc t,ty',pos',af',none⟩:=by exact rfl)(Q:u.cells.toList=cs:=by exact rfl)(hr:Region.ready .any ops listed=[i,j]\/Region.ready .any ops listed=[j,i]:=by first|exact .inl I|exact .inr I)(n:Region.ready .any ops (listed.setIfInBounds j true)=[i]:=by kernel_rfl)(H:bQ ⟨some e,op,ty,pos,af,none⟩=true:=by exact rfl)(T:cq s d=none:=by exact rfl)(o:(d==e)=false:=by exact rfl)(p:(i==j)=false:=by exact rfl)(U:Nat.ble (d+1) X.n=true:=by exact rfl)(N:Nat.ble (e+1) X.n=true:=by exact rfl):lz X ops K M (a+1) listed s L j d t cs:=by
 have z:d≠e:=by simpa using o
 have hne':i≠j:=by simpa using p
 have key: ∀B,Cv (ab B t cs::L) M->bv X ops K M (a+1) (listed.setIfInBounds j true) ((d,pV B 0)::s) (ab B t cs::L):=fun B _=>by
  refine Cl i hi n (h.fr (bc dG T) _) H J N ?_;rintro v _ ⟨L',A,rfl⟩;obtain ⟨M',m,D,C⟩:=k v L' A;refine ⟨M',cv_tl.trans m,D,?_⟩;have O:=C.2 B;rw [Array.setIfInBounds_comm _ _ hne'] at O;refine jg O ?_ (ah _) (cv_tl.trans m);intro q x f;show cq ((e,v)::(d,pV B 0)::s) q=some x;rw [gm,gm] at f;rw [gm,gm];by_cases l:e=q
  ·rw [if_neg (fun V:d=q=>z (V.trans l.symm)),if_pos l] at f;rw [if_pos l];exact f
  rw [if_neg l];rw [if_neg l] at f;exact f
 have F:o7 X ops K M (a+1) listed s L i:=Bt hi h H rfl N fun v L' A=>(k v L' A).elim fun M' q=>⟨M',q.1,q.2.1,q.2.2.1⟩
 have E:o7 X ops K M (a+1) listed s L j:=fun c=>Bt S (iq P.out Q) rfl rfl U (fun _ _ ⟨B,m,C⟩=>by subst m;subst C;exact ⟨M,cv_tl.trans c,ah _,key B (cv_tl.trans c)⟩) c
 exact ⟨hr.elim (fun h=>nh i j h F E) (fun h=>nh j i h E F),fun B c=>key B c c⟩
theorem aE (j:Nat)[e:FcI X.P t u](k:∀B,bv X ops K M a (listed.setIfInBounds j true) ((d,pV B 0)::s) (ab B t cs::L))(i:ops[j]? =some ⟨some d,.alloc t,ty',pos',af',none⟩:=by exact rfl)(f:u.cells.toList=cs:=by exact rfl)(hr:Region.ready .any ops listed=[j]:=by kernel_rfl)(l:Nat.ble (d+1) X.n=true:=by exact rfl):lz X ops K M a listed s L j d t cs:=by
 refine ⟨fun c=>Cl j i hr (iq e.out f) J J l ?_ c,k⟩;rintro _ _ ⟨B,rfl,rfl⟩;exact ⟨M,cv_tl.trans c,ah _,k B⟩
theorem Rd.ext {q:au}(h:Rd P s L o v)(c:dK q s):Rd P q L o v:=fun Z w hw ρ hρ=>h Z w hw ρ fun x u a=>hρ x u (by cases x<;>first|exact a|exact FX c a)
theorem alR (i:Nat){l:List Nat}(hi:ops[i]? =some ⟨some e,op,ty,pos,af,none⟩)(h:RdS X.P s M ⟨some e,op,ty,pos,af,none⟩ v)(C:jQ ops listed i=true)(a6:jQ ops (listed.setIfInBounds j true) i=true)(p:Nat.ble (e+1) X.n=true)(D:cq s d=none)(m:(d==e)=false)(n:(i==j)=false)(k:Zl l (lz X ops K M a (listed.setIfInBounds i true) ((e,v)::s) L j d t cs)):Zl (i::l) (lz X ops K M (a+1) listed s L j d t cs):=by
 have hne':i≠j:=by simpa using n
 have o:d≠e:=by simpa using m
 have A:Rd X.P s M ⟨some e,op,ty,pos,af,none⟩ v:=h.out;refine (⟨gb i hi C A J p k.1,fun B=>gb i hi a6 (A.ext (bc dG D)) J p ?_⟩:lz X ops K M (a+1) listed s L j d t cs);have z:=k.2 B;rw [Array.setIfInBounds_comm _ _ hne'] at z;intro u;refine jg z ?_ (ah _) u u;intro q x c;show cq ((e,v)::(d,pV B 0)::s) q=some x;rw [gm,gm] at c;rw [gm,gm];by_cases f:e=q
 ·rw [if_neg (fun E:d=q=>o (E.trans f.symm)),if_pos f] at c;rw [if_pos f];exact c
 rw [if_neg f];rw [if_neg f] at c;exact c
theorem aY (l:List Nat){p q:Prop}(k:q)(h:Bxd q->Zl l p:=by
  intro k
  repeat (refine alR _ rfl qz I I (by exact rfl) rfl rfl rfl ?_)
  refine xe ?_;exact k.un):p:=h ⟨k⟩
end
end
end Go.Proofs.YthhiddkljcacaaaGreat
namespace Go.Proofs
open Go.Shelf
def Tryz.keysA_ren:Go.Shelf.Ren:=⟨fun|7=>126|10=>176|n=>n,fun|23=>184|26=>3|3=>4|28=>182|0=>0|27=>181|33=>94|4=>4|n=>n,fun|n=>n⟩
theorem Tryz.keysA:Go.Proofs.SlLaysZI.n7 Tryz.prog Tryz.keysA_ren:={
 mixed:=by kernel_rfl
 f7:=⟨Tryz.f126.name,by decide,Tryz.func126.trans (congrArg some (by kernel_rfl))⟩
 f10:=⟨Tryz.f176.name,by decide,Tryz.func176.trans (congrArg some (by kernel_rfl))⟩
 t0:=Tryz.underlying0
 a0:=Tryz.isAgg0
 z0:=Tryz.sizeOf0
 v0:=Tryz.zeroValue0
 t4:=Tryz.underlying4
 a4:=Tryz.isAgg4
 z4:=Tryz.sizeOf4
 v4:=Tryz.zeroValue4
 t23:=Tryz.underlying184
 a23:=Tryz.isAgg184
 z23:=Tryz.sizeOf184
 v23:=Tryz.zeroValue184
 t26:=Tryz.underlying3
 a26:=Tryz.isAgg3
 z26:=Tryz.sizeOf3
 v26:=Tryz.zeroValue3
 t27:=Tryz.underlying181
 a27:=Tryz.isAgg181
 z27:=Tryz.sizeOf181
 v27:=Tryz.zeroValue181
 t28:=Tryz.underlying182
 a28:=Tryz.isAgg182
 z28:=Tryz.sizeOf182
 v28:=Tryz.zeroValue182
 t33:=Tryz.underlying94
 a33:=Tryz.isAgg94
 z33:=Tryz.sizeOf94
 v33:=Tryz.zeroValue94}
def Tryz.sortedA_ren:Go.Shelf.Ren:=⟨fun|6=>125|8=>174|9=>175|11=>213|13=>215|12=>214|23=>238|24=>239|14=>230|15=>231|16=>232|17=>233|18=>234|19=>235|20=>171|21=>236|22=>237|25=>246|26=>247|27=>248|28=>249|29=>250|30=>212|31=>253|n=>n,fun|26=>3|28=>182|24=>99|0=>0|3=>3|37=>233|48=>282|50=>284|4=>4|40=>276|39=>275|45=>163|5=>5|9=>9|51=>289|55=>293|57=>298|58=>299|33=>94|n=>n,fun|n=>n⟩
theorem Tryz.sortedA:Go.Proofs.SlLaysZI.n6 Tryz.prog Tryz.sortedA_ren:={
 mixed:=by kernel_rfl
 f6:=⟨Tryz.f125.name,by decide,Tryz.func125.trans (congrArg some (by kernel_rfl))⟩
 f8:=⟨Tryz.f174.name,by decide,Tryz.func174.trans (congrArg some (by kernel_rfl))⟩
 f11:=⟨Tryz.f213.name,by decide,Tryz.func213.trans (congrArg some (by kernel_rfl))⟩
 t0:=Tryz.underlying0
 a0:=Tryz.isAgg0
 z0:=Tryz.sizeOf0
 v0:=Tryz.zeroValue0
 t24:=Tryz.underlying99
 a24:=Tryz.isAgg99
 z24:=Tryz.sizeOf99
 v24:=Tryz.zeroValue99
 t26:=Tryz.underlying3
 a26:=Tryz.isAgg3
 z26:=Tryz.sizeOf3
 v26:=Tryz.zeroValue3
 t28:=Tryz.underlying182
 a28:=Tryz.isAgg182
 z28:=Tryz.sizeOf182
 v28:=Tryz.zeroValue182
 i26:=by kernel_rfl}
def Tryz.sortA_ren:Go.Shelf.Ren:=⟨fun|5=>175|8=>215|7=>214|19=>238|20=>239|10=>230|11=>231|12=>232|13=>233|14=>234|15=>235|16=>171|17=>236|18=>237|30=>246|31=>247|32=>248|33=>249|34=>250|35=>212|40=>253|n=>n,fun|23=>99|25=>3|3=>3|32=>233|22=>99|0=>0|44=>282|46=>284|4=>4|36=>276|35=>275|41=>163|5=>5|9=>9|53=>289|57=>293|63=>298|64=>299|n=>n,fun|n=>n⟩
theorem Tryz.sortA:Go.Proofs.SlLaysM.n5 Tryz.prog Tryz.sortA_ren:={
 mixed:=by kernel_rfl
 f5:=⟨Tryz.f175.name,by decide,Tryz.func175.trans (congrArg some (by kernel_rfl))⟩
 f7:=⟨Tryz.f214.name,by decide,Tryz.func214.trans (congrArg some (by kernel_rfl))⟩
 f8:=Tryz.func215.trans (congrArg some (by kernel_rfl))
 f10:=⟨Tryz.f230.name,by decide,Tryz.func230.trans (congrArg some (by kernel_rfl))⟩
 f11:=⟨Tryz.f231.name,by decide,Tryz.func231.trans (congrArg some (by kernel_rfl))⟩
 f12:=⟨Tryz.f232.name,by decide,Tryz.func232.trans (congrArg some (by kernel_rfl))⟩
 f13:=⟨Tryz.f233.name,by decide,Tryz.func233.trans (congrArg some (by kernel_rfl))⟩
 f14:=⟨Tryz.f234.name,by decide,Tryz.func234.trans (congrArg some (by kernel_rfl))⟩
 f15:=⟨Tryz.f235.name,by decide,Tryz.func235.trans (congrArg some (by kernel_rfl))⟩
 f16:=⟨Tryz.f171.name,by decide,Tryz.func171.trans (congrArg some (by kernel_rfl))⟩
 f17:=⟨Tryz.f236.name,by decide,Tryz.func236.trans (congrArg some (by kernel_rfl))⟩
 f18:=⟨Tryz.f237.name,by decide,Tryz.func237.trans (congrArg some (by kernel_rfl))⟩
 f19:=Tryz.func238.trans (congrArg some (by kernel_rfl))
 f20:=Tryz.func239.trans (congrArg some (by kernel_rfl))
 f30:=⟨Tryz.f246.name,by decide,Tryz.func246.trans (congrArg some (by kernel_rfl))⟩
 f31:=Tryz.func247.trans (congrArg some (by kernel_rfl))
 f32:=Tryz.func248.trans (congrArg some (by kernel_rfl))
 f33:=⟨Tryz.f249.name,by decide,Tryz.func249.trans (congrArg some (by kernel_rfl))⟩
 f34:=⟨Tryz.f250.name,by decide,Tryz.func250.trans (congrArg some (by kernel_rfl))⟩
 f35:=⟨Tryz.f212.name,by decide,Tryz.func212.trans (congrArg some (by kernel_rfl))⟩
 f40:=⟨Tryz.f253.name,by decide,Tryz.func253.trans (congrArg some (by kernel_rfl))⟩
 t0:=Tryz.underlying0
 a0:=Tryz.isAgg0
 z0:=Tryz.sizeOf0
 v0:=Tryz.zeroValue0
 t3:=Tryz.underlying3
 a3:=Tryz.isAgg3
 z3:=Tryz.sizeOf3
 v3:=Tryz.zeroValue3
 t4:=Tryz.underlying4
 a4:=Tryz.isAgg4
 z4:=Tryz.sizeOf4
 v4:=Tryz.zeroValue4
 t5:=Tryz.underlying5
 a5:=Tryz.isAgg5
 z5:=Tryz.sizeOf5
 v5:=Tryz.zeroValue5
 t9:=Tryz.underlying9
 a9:=Tryz.isAgg9
 z9:=Tryz.sizeOf9
 v9:=Tryz.zeroValue9
 t22:=Tryz.underlying99
 a22:=Tryz.isAgg99
 z22:=Tryz.sizeOf99
 v22:=Tryz.zeroValue99
 t23:=Tryz.underlying99
 a23:=Tryz.isAgg99
 z23:=Tryz.sizeOf99
 v23:=Tryz.zeroValue99
 t25:=Tryz.underlying3
 a25:=Tryz.isAgg3
 z25:=Tryz.sizeOf3
 v25:=Tryz.zeroValue3
 t32:=Tryz.underlying233
 a32:=Tryz.isAgg233
 z32:=Tryz.sizeOf233
 v32:=Tryz.zeroValue233
 t35:=Tryz.underlying275
 a35:=Tryz.isAgg275
 z35:=Tryz.sizeOf275
 v35:=Tryz.zeroValue275
 t36:=Tryz.underlying276
 a36:=Tryz.isAgg276
 z36:=Tryz.sizeOf276
 v36:=Tryz.zeroValue276
 t41:=Tryz.underlying163
 a41:=Tryz.isAgg163
 z41:=Tryz.sizeOf163
 v41:=Tryz.zeroValue163
 t44:=Tryz.underlying282
 a44:=Tryz.isAgg282
 z44:=Tryz.sizeOf282
 v44:=Tryz.zeroValue282
 t46:=Tryz.underlying284
 a46:=Tryz.isAgg284
 z46:=Tryz.sizeOf284
 v46:=Tryz.zeroValue284
 t53:=Tryz.underlying289
 a53:=Tryz.isAgg289
 z53:=Tryz.sizeOf289
 v53:=Tryz.zeroValue289
 t57:=Tryz.underlying293
 a57:=Tryz.isAgg293
 z57:=Tryz.sizeOf293
 v57:=Tryz.zeroValue293
 t63:=Tryz.underlying298
 a63:=Tryz.isAgg298
 z63:=Tryz.sizeOf298
 v63:=Tryz.zeroValue298
 t64:=Tryz.underlying299
 a64:=Tryz.isAgg299
 z64:=Tryz.sizeOf299
 v64:=Tryz.zeroValue299}
end Go.Proofs
namespace Go.Proofs.YthhiddkljcacaaaGreat
variable (N:Nat){listed:Array Bool}{af:Array Edge}{ops:Array Oper}{ats:Array TypeId}{c:Chunk}{X:Cx}{p:Func}{f:FuncId}{a1 a2:Int}{K:K3}{a:List (Int×Bool)}{xs:List Operand}{rs:List ResultVar}{B2 m i j pd:Nat}{o:Oper}{x:Operand}{gd:Option (Nat×Bool)}{P:Program}{pos:String}{α β ι κ ρ σ:Type}{t ty:TypeId}{A L L' L2 M post n:V3}{args cs vs:V4}{v:Value}{R R':Value->V3->Prop}{C:World->Prop}{s s2:au}
section
variable {B1 d:Nat}
open Go.RowKit Go.Maps Go.Shelf
def di (kv:List (Int×β)):List Int:=(kv.map (·.1)).mergeSort (fun x y=>decide (x<=y))
theorem RP (m:Nat):AnyZI.SortsIn V5 Tryz.sortedA_ren Fence.wide m:=
 ⟨fun o8 off cap d c e hblk a=>callsIn_wide.2 (AnyM.slices_Sort_int Tryz.sortA o8 off cap d c e hblk a),
  fun p cap c=>callsIn_wide.2 (AnyM.slices_Sort_int_none Tryz.sortA p cap c)⟩
abbrev Om:Lit->Int:=Go.intOf
def Cg:Value->Option (DataW Unit×List MemPlace):=fun _=>some (.nil,[])
theorem SD {ev:β->Value}{w:World}{m:Nat}{kv:List (Int×β)}(h:Mp w m ax ev kv)(A:∀k∈kv.map (·.1),in64 k)(B:(kv.map (·.1)).Nodup)(L:kv.length<=1099511627776): ∃D:DataW Unit,w.ownsMap V5 3 Cg m kv.length D/\(intKeys D).Perm (kv.map (·.1))/\Maps.size D=kv.length:=by
 obtain ⟨c,clk,H,q,F,E⟩:=h
 have hlen:c.size=kv.length:=by simpa using congrArg List.length q
 have f: ∀x∈c.toList, ∃a,a∈kv.map (·.1)/\x.key=ax a/\WideElems.rd V5 3 Cg x=some (Lit.int .i64 a,DataW.nil):=by
  intro x d;have j:(x.key,x.val)∈c.toList.map (fun e=>(e.key,e.val)):=W3.2 ⟨x,d,rfl⟩;rw [q] at j;obtain ⟨p,z,e⟩:=W3.1 j;have l:ax p.1=x.key:=congrArg Prod.fst e;have i:p.1∈kv.map (·.1):=W3.2 ⟨p,z,rfl⟩;refine ⟨p.1,i,l.symm,?_⟩;have hw:=A p.1 i;unfold WideElems.rd;rw [<-l];unfold ax;rw [keyOf_int_mk Ex (by have l:IntKind.i64.min= -9223372036854775808:=rfl;have K:IntKind.i64.max=9223372036854775807:=rfl;unfold Lit.wf;simp only [l,K,XM,XE];exact hw)];rfl
 have hkeys:c.toList.map (·.key)=kv.map (fun p=>ax p.1):=by
  have j:=congrArg (List.map Prod.fst) q;simpa [List.map_map,Function.comp_def] using j
 have n:(c.toList.map (WideElems.rg V5 3 Cg)).map (fun p=>Om p.1)=kv.map (·.1):=by
  have u:c.toList.map (fun x=>Om (WideElems.rg V5 3 Cg x).1)=(c.toList.map (·.key)).map (fun v=>match v with| .int _ a=>a|_=>0):=by
   rw [List.map_map];apply List.map_congr_left;intro x d;obtain ⟨a, -,C,o⟩:=f x d;simp only [WideElems.rg,o,Xv,Function.comp,C];rfl
  simp only [List.map_map,Function.comp_def] at u⊢;rw [u];have t:=congrArg (List.map (fun v:Value=>match v with| .int _ a=>a|_=>(0:Int))) hkeys;simp only [List.map_map,Function.comp_def,ax] at t;exact t
 refine ⟨_,⟨c,clk,H,⟨by unfold maxLen;omega,⟨E,?_,?_⟩,fun x d=> ?_⟩,by omega,rfl⟩,?_,?_⟩
 ·rw [List.nodup_iff_pairwise_ne,List.pairwise_map];exact F.imp fun h=>by omega
 ·rw [hkeys]
  have:kv.map (fun p=>ax p.1)=(kv.map (·.1)).map ax:=by rw [List.map_map];rfl
  rw [this,List.nodup_iff_pairwise_ne,List.pairwise_map];exact (List.nodup_iff_pairwise_ne.1 B).imp fun h e=>h (by unfold ax at e;injection e)
 ·obtain ⟨a, -, -,o⟩:=f x d;exact ⟨_,o⟩
 ·rw [<-n];exact ((WideShapes.sorted_perm _).map _)
 rw [Maps.size_eq,(WideShapes.sorted_perm _).length_eq];simp [hlen]
theorem ST {a b:List Int}(h:a.Perm b):a.mergeSort (fun x y=>decide (x<=y))=b.mergeSort (fun x y=>decide (x<=y)):=by
 have tr: ∀x y z:Int,decide (x<=y)=true->decide (y<=z)=true->decide (x<=z)=true:=by simp;omega
 have tot: ∀x y:Int,(decide (x<=y)||decide (y<=x))=true:=by simp;omega
 have c:=List.pairwise_mergeSort tr tot a;have s2:=List.pairwise_mergeSort tr tot b;have p:(a.mergeSort (fun x y=>decide (x<=y))).Perm (b.mergeSort (fun x y=>decide (x<=y))):=(List.mergeSort_perm a _).trans (h.trans (List.mergeSort_perm b _).symm);exact p.eq_of_pairwise (by intro x y _ _ e d;simp at e d;omega) c s2
def EU (_:Nat)(_:List (Int×β)):Option Unit:=some ()
theorem Rq {N:Nat}{r:Unit}(_:EU N a=some r):Okc V5 126 [.map (some d)] [] (fun u p=> ∃a6,u=.func (.func 176) #[] #[.pointer (some ⟨a6,0,none⟩)]/\p=[ab a6 184 [.map (some d)]]):=by
 refine ⟨⟨_,Tryz.func126,J,J⟩,?_⟩;intro Z w hw;have h:=callsIn_wide.1 (AnyZI.keys_in Tryz.keysA Fence.wide 5 trivial rfl (some d) w);refine h.mono ?_;rintro e w' ⟨rfl,rfl⟩;refine ⟨_,_,J,?_,w.heap.size,J,J⟩;exact SepL.new hw (Agr.of_ext ((Ext.refl w).alloc _)) fun _ S _=>⟨(· =w.heap.size),fun q c=>by subst c;simp,rfl,Blk.new w _ _⟩
def D9 (_:Nat)(kv:List (Int×Bool)):Option VW:=ae ((∀k∈kv.map Prod.fst,in64 k)/\(kv.map Prod.fst).Nodup/\bC kv.length) (some (di kv))
theorem Qj {N:Nat}{r:List Int}(h:D9 N a=some r){B1 d:Nat}:Okc V5 125 [.func (.func 176) #[] #[.pointer (some ⟨B1,0,none⟩)]] [aQ B1 184 [.map (some d)],cK ax aU d a] (fun u p=> ∃B t z,u=Y B t z/\p=[aK (df .i64) 3 (Y B t z) r]):=by
 refine ⟨⟨_,Tryz.func125,J,J⟩,?_⟩;intro Z w hw;obtain ⟨⟨L,M,K⟩,h⟩:=ai h;obtain rfl:=bn h;obtain ⟨T,S,F,hbox⟩:=SepL.get hw (i:=0) (c:=aQ B1 184 [.map (some d)]) rfl;obtain ⟨V,X,E,o⟩:=SepL.get hw (i:=1) (c:=cK ax aU d a) rfl;obtain ⟨D,hown,hperm,hsize⟩:=SD o L M K;have hcell:w.cell? ⟨B1,0,none⟩=some (.map (some d)):=(RBlk.cells hbox 0).trans rfl
 have hseq:SeqGives Fence.wide 2 V5 176 #[.pointer (some ⟨B1,0,none⟩)] encZ (fun j=>j.Perm (intKeys D)) (Maps.size D) w:=
  AnyZI.keys_gives (ρ:=Tryz.keysA_ren) {Tryz.keysA with} Fence.wide _ trivial rfl W B1 d _ D w (RBlk.lt hbox) hcell hown
 have cS:=AnyZI.sorted_in Tryz.sortedA Fence.wide 5 trivial trivial trivial trivial rfl W (RP _) (enters_of Tryz.func175 I rfl) 176 #[.pointer (some ⟨B1,0,none⟩)] trivial (enters_of Tryz.func176 I rfl) _ _ (by rw [hsize];unfold maxLen;omega) (by rw [hsize];omega) _ hseq;refine (callsIn_wide.1 cS).mono ?_;rintro e w' ⟨v,j,rfl,O,hrow,hnil,hb⟩;have hkeys:j.mergeSort (fun x y=>decide (x<=y))=di a:=ST (O.trans hperm);rw [hkeys] at hrow
 have hlen:j.length=(di a).length:=by rw [<-hkeys,List.length_mergeSort]
 rw [hlen] at hrow
 have n: ∃A c,v=.slice A (di a).length c:=by
  rcases hrow.2 with ⟨rfl,Q⟩|⟨g,cap,f,rfl, -⟩
  ·exact ⟨none,0,by rw [Q]⟩
  exact ⟨_,cap,J⟩
 obtain ⟨A,c,rfl⟩:=n;refine ⟨_,_,J,?_,A,_,c,J,J⟩;have C:SepL Z w:=SepL.dropL (A:=[aQ B1 184 [.map (some d)],cK ax aU d a]) hw;refine SepL.new C (Agr.of_ext hb) fun _ S _=>⟨fun q=>(Value.slice A (di a).length c).ownBlock=some q,fun q H=>World.ownsRow.lt hrow q H,(di a).map (fun x=> [.int .i64 x]),?_,.inl ⟨?_,fun _ h=>h⟩⟩
 ·induction di a with
  |nil=>exact .nil
  |cons x l m=>exact .cons rfl m
 have e:((di a).map (fun x=> [Value.int .i64 x])).flatten=(di a).map encZ:=by
  induction di a with
  |nil=>rfl
  |cons x l m=>simp only [WW,Wz,m];rfl
 rw [e];refine .of ⟨hrow.1,?_⟩;rcases hrow.2 with P|⟨g,cap,f,R,U,r⟩
 ·exact .inl P
 exact .inr ⟨g,cap,f,R,Xt _,r⟩
end
section
variable {A1 A2 A3 A4 A5:Option Addr}{B1 d B6 l M7 c1 c2 c3 c4 c5 e n2 n3 n4 n5:Nat}
open Go.RowKit Asn
set_option maxRecDepth 20000
structure VM where
 YD:Int
 Yy:Int
 Yq:Int
 YC:Int
 XS:Int
 YB:Int
 YE:Int
 deriving DecidableEq,Inhabited
def aag:Rep VM:=.flat 7 (fun x=> [iV x.YD,iV x.Yy,iV x.Yq,iV x.YC,iV x.XS,iV x.YB,iV x.YE]) (fun _=>rfl) (fun _=>rfl)
structure Vu where
 at_:VY
 deriving DecidableEq,Inhabited
structure VH where
 no:Int
 N:Int
 S:ByteArray
 deriving DecidableEq,Inhabited
abbrev VO:=List VH
def ca:Rep VH:=.flat 3 (fun x=> [iV x.no,iV x.N,.string x.S]) (fun _=>rfl) (fun _=>rfl)
structure VL where
 no:Int
 XV:Int
 XU:Int
 XW:Int
 XQ:VO
 XP:VO
 deriving DecidableEq,Inhabited
abbrev VX:=List VL
def dL:Rep VL where
 sz:=6
 rel S w vs x:= ∃A4 n4 c4 A5 n5 c5,vs=[iV x.no,iV x.XV,iV x.XU,iV x.XW,Y A4 n4 c4,Y A5 n5 c5]/\SlR ca S w (Y A4 n4 c4) x.XQ/\SlR ca S w (Y A5 n5 c5) x.XP
 loc:=fun h ⟨_,_,_,_,_,_,e,c,a⟩=>⟨_,_,_,_,_,_,e,c.loc h,a.loc h⟩
 mono:=fun h ⟨_,_,_,_,_,_,e,c,a⟩=>⟨_,_,_,_,_,_,e,c.mono h,a.mono h⟩
 len:=fun ⟨_,_,_,_,_,_,e,_⟩=>by rw [e];rfl
 one:=fun ⟨_,_,_,_,_,_,e,_⟩=>by rw [e];rfl
theorem kc (x:VL):sX dL x fun vs cs=> ∃A4 n4 c4 A5 n5 c5,vs=[iV x.no,iV x.XV,iV x.XU,iV x.XW,Y A4 n4 c4,Y A5 n5 c5]/\cs=[aL ca (Y A4 n4 c4) x.XQ,aL ca (Y A5 n5 c5) x.XP]:=fun S w vs ⟨_,_,_,_,_,_,e,c,a⟩=>⟨_,⟨_,_,_,_,_,_,e,rfl⟩,t9 c (t9 a (aW))⟩
structure Vw where
 XS:VX
 XR:VX
 deriving DecidableEq,Inhabited
structure Vz where
 m_:Vw
 Yb:VO
 Yg:VO
 Yf:Vu
 deriving DecidableEq,Inhabited
structure Vy where
 no:Int
 N:Int
 S:ByteArray
 deriving DecidableEq,Inhabited
abbrev VP:=List Vy
def fO:Rep Vy:=.flat 3 (fun x=> [iV x.no,iV x.N,.string x.S]) (fun _=>rfl) (fun _=>rfl)
structure VI where
 Up:Int
 XZ:Vy
 XT:Int
 Yo:Int
 deriving DecidableEq,Inhabited
def cD:Rep VI:=.flat 6 (fun x=> [iV x.Up,iV x.XZ.no,iV x.XZ.N,.string x.XZ.S,iV x.XT,iV x.Yo]) (fun _=>rfl) (fun _=>rfl)
structure VD where
 YG:Int
 YF:Vy
 YH:Int
 deriving DecidableEq,Inhabited
def acs:Rep VD:=.flat 5 (fun x=> [iV x.YG,iV x.YF.no,iV x.YF.N,.string x.YF.S,iV x.YH]) (fun _=>rfl) (fun _=>rfl)
structure VC where
 Ya:(List VI)
 Yn:(List (VD×Int))
 deriving DecidableEq,Inhabited
structure VJ where
 Yw:Int
 Yx:Int
 Yz:Int
 deriving DecidableEq,Inhabited
def abF:Rep VJ:=.flat 3 (fun x=> [iV x.Yw,iV x.Yx,iV x.Yz]) (fun _=>rfl) (fun _=>rfl)
structure Vv where
 no:Int
 XZ:Vy
 S:ByteArray
 deriving DecidableEq,Inhabited
def jE:Rep Vv:=.flat 5 (fun x=> [iV x.no,iV x.XZ.no,iV x.XZ.N,.string x.XZ.S,.string x.S]) (fun _=>rfl) (fun _=>rfl)
structure VK where
 Yj:VJ
 Ye:VM
 YI:Unit
 XX:Vz
 Ya:VC
 Yk:(List ByteArray)
 Yh:Int
 Yr:Int
 Ys:Int
 Yl:(List Vv)
 Ym:(List ByteArray)
 deriving DecidableEq,Inhabited
structure VE where
 Has:Int
 XT:Int
 Value:VH
 Yc:VH
 Yd:VH
 deriving DecidableEq,Inhabited
def Nv:Rep VE:=.flat 11 (fun x=> [iV x.Has,iV x.XT,iV x.Value.no,iV x.Value.N,.string x.Value.S,iV x.Yc.no,iV x.Yc.N,.string x.Yc.S,iV x.Yd.no,iV x.Yd.N,.string x.Yd.S]) (fun _=>rfl) (fun _=>rfl)
structure Vx where
 no:Int
 O:Int
 P:Int
 K:Vy
 D:VE
 V:VH
 XT:Int
 deriving DecidableEq,Inhabited
def lq:Rep Vx:=.flat 21 (fun x=> [iV x.no,iV x.O,iV x.P,iV x.K.no,iV x.K.N,.string x.K.S,iV x.D.Has,iV x.D.XT,iV x.D.Value.no,iV x.D.Value.N,.string x.D.Value.S,iV x.D.Yc.no,iV x.D.Yc.N,.string x.D.Yc.S,iV x.D.Yd.no,iV x.D.Yd.N,.string x.D.Yd.S,iV x.V.no,iV x.V.N,.string x.V.S,iV x.XT]) (fun _=>rfl) (fun _=>rfl)
structure VA where
 XY:VL
 w_:VK
 at_:VH
 deriving DecidableEq,Inhabited
structure VN where
 XZ:Vy
 XT:Int
 Value:VH
 Yc:VH
 Yd:VH
 deriving DecidableEq,Inhabited
abbrev VZ:=List VN
def cI:Rep VN:=.flat 13 (fun x=> [iV x.XZ.no,iV x.XZ.N,.string x.XZ.S,iV x.XT,iV x.Value.no,iV x.Value.N,.string x.Value.S,iV x.Yc.no,iV x.Yc.N,.string x.Yc.S,iV x.Yd.no,iV x.Yd.N,.string x.Yd.S]) (fun _=>rfl) (fun _=>rfl)
structure VB where
 Yt:Int
 Ext:Bool
 Row:VZ
 deriving DecidableEq,Inhabited
def fQ:Rep VB where
 sz:=3
 rel S w vs x:= ∃A2 n2 c2,vs=[iV x.Yt,.bool x.Ext,Y A2 n2 c2]/\SlR cI S w (Y A2 n2 c2) x.Row
 loc:=fun h ⟨_,_,_,e,a⟩=>⟨_,_,_,e,a.loc h⟩
 mono:=fun h ⟨_,_,_,e,a⟩=>⟨_,_,_,e,a.mono h⟩
 len:=fun ⟨_,_,_,e,_⟩=>by rw [e];rfl
 one:=fun ⟨_,_,_,e,_⟩=>by rw [e];rfl
theorem TD (x:VB):sX fQ x fun vs cs=> ∃A2 n2 c2,vs=[iV x.Yt,.bool x.Ext,Y A2 n2 c2]/\cs=[aL cI (Y A2 n2 c2) x.Row]:=fun S w vs ⟨_,_,_,e,a⟩=>⟨_,⟨_,_,_,e,rfl⟩,t9 a (aW)⟩
structure VF where
 m_:Vw
 Yp:VW
 Yi:(List (Int×Unit))
 YA:Int
 deriving DecidableEq,Inhabited
structure VG where
 m_:Vw
 Yv:VW
 Yi:VW
 Yu:VY
 Yn:Int
 deriving DecidableEq,Inhabited
abbrev aj (A:Option Addr)(n c:Nat):=aK ca 29 (.slice A n c)
abbrev aq (A:Option Addr)(n c:Nat):=aL dL (.slice A n c)
abbrev ap (A:Option Addr)(n c:Nat):=aL ca (.slice A n c)
abbrev aC (A:Option Addr)(n c:Nat):=aK dL 45 (.slice A n c)
abbrev aR (A:Option Addr)(n c:Nat):=aK (df .i64) 3 (.slice A n c)
abbrev aX (A:Option Addr)(n c:Nat):=aL (df .i64) (.slice A n c)
abbrev bi (A:Option Addr)(n c:Nat):=aK eS 9 (.slice A n c)
abbrev bp (A:Option Addr)(n c:Nat):=aK fO 34 (.slice A n c)
abbrev cx (A:Option Addr)(n c:Nat):=aK jE 319 (.slice A n c)
abbrev eL (A:Option Addr)(n c:Nat):=aL fO (.slice A n c)
abbrev FH (x:VM):Value:=.agg #[iV x.YD,iV x.Yy,iV x.Yq,iV x.YC,iV x.XS,iV x.YB,iV x.YE]
abbrev gL (x:VE):Value:=.agg #[iV x.Has,iV x.XT,iV x.Value.no,iV x.Value.N,.string x.Value.S,iV x.Yc.no,iV x.Yc.N,.string x.Yc.S,iV x.Yd.no,iV x.Yd.N,.string x.Yd.S]
abbrev dN (x:Vy):Value:=.agg #[iV x.no,iV x.N,.string x.S]
abbrev Oj (x:Vx):Value:=.agg #[iV x.no,iV x.O,iV x.P,iV x.K.no,iV x.K.N,.string x.K.S,iV x.D.Has,iV x.D.XT,iV x.D.Value.no,iV x.D.Value.N,.string x.D.Value.S,iV x.D.Yc.no,iV x.D.Yc.N,.string x.D.Yc.S,iV x.D.Yd.no,iV x.D.Yd.N,.string x.D.Yd.S,iV x.V.no,iV x.V.N,.string x.V.S,iV x.XT]
abbrev dw (x:VN):Value:=.agg #[iV x.XZ.no,iV x.XZ.N,.string x.XZ.S,iV x.XT,iV x.Value.no,iV x.Value.N,.string x.Value.S,iV x.Yc.no,iV x.Yc.N,.string x.Yc.S,iV x.Yd.no,iV x.Yd.N,.string x.Yd.S]
abbrev aaK (x:VI):Value:=.agg #[iV x.Up,iV x.XZ.no,iV x.XZ.N,.string x.XZ.S,iV x.XT,iV x.Yo]
abbrev NA (x:VD):Value:=.agg #[iV x.YG,iV x.YF.no,iV x.YF.N,.string x.YF.S,iV x.YH]
abbrev bS (x:VH):Value:=.agg #[iV x.no,iV x.N,.string x.S]
abbrev iJ (x:VE):V4:=[iV x.Has,iV x.XT,iV x.Value.no,iV x.Value.N,.string x.Value.S,iV x.Yc.no,iV x.Yc.N,.string x.Yc.S,iV x.Yd.no,iV x.Yd.N,.string x.Yd.S]
abbrev ij (x:Vy):V4:=[iV x.no,iV x.N,.string x.S]
abbrev oW (x:Vx):V4:=[iV x.no,iV x.O,iV x.P,iV x.K.no,iV x.K.N,.string x.K.S,iV x.D.Has,iV x.D.XT,iV x.D.Value.no,iV x.D.Value.N,.string x.D.Value.S,iV x.D.Yc.no,iV x.D.Yc.N,.string x.D.Yc.S,iV x.D.Yd.no,iV x.D.Yd.N,.string x.D.Yd.S,iV x.V.no,iV x.V.N,.string x.V.S,iV x.XT]
abbrev dS (x:VN):V4:=[iV x.XZ.no,iV x.XZ.N,.string x.XZ.S,iV x.XT,iV x.Value.no,iV x.Value.N,.string x.Value.S,iV x.Yc.no,iV x.Yc.N,.string x.Yc.S,iV x.Yd.no,iV x.Yd.N,.string x.Yd.S]
abbrev Bq (x:VI):V4:=[iV x.Up,iV x.XZ.no,iV x.XZ.N,.string x.XZ.S,iV x.XT,iV x.Yo]
abbrev ee (x:VH):V4:=[iV x.no,iV x.N,.string x.S]
abbrev cF (x:VK)(b d:Nat)(A:Option Addr)(n c:Nat)(A2:Option Addr)(n2 c2:Nat)(A3:Option Addr)(n3 c3:Nat):V4:=[iV x.Yj.Yw,iV x.Yj.Yx,iV x.Yj.Yz,iV x.Ye.YD,iV x.Ye.Yy,iV x.Ye.Yq,iV x.Ye.YC,iV x.Ye.XS,iV x.Ye.YB,iV x.Ye.YE,.nilIface,pV b 0,pV d 0,.slice A n c,iV x.Yh,iV x.Yr,iV x.Ys,Y A2 n2 c2,Y A3 n3 c3]
instance call69:FcK V5 69:=⟨⟨Tryz.f69,Tryz.func69,rfl,rfl⟩⟩
instance call121:FcK V5 121:=⟨⟨Tryz.f121,Tryz.func121,rfl,rfl⟩⟩
instance call162:FcK V5 162:=⟨⟨Tryz.f162,Tryz.func162,rfl,rfl⟩⟩
instance call173:FcK V5 173:=⟨⟨Tryz.f173,Tryz.func173,rfl,rfl⟩⟩
instance call191:FcK V5 191:=⟨⟨Tryz.f191,Tryz.func191,rfl,rfl⟩⟩
instance call193:FcK V5 193:=⟨⟨Tryz.f193,Tryz.func193,rfl,rfl⟩⟩
instance call201:FcK V5 201:=⟨⟨Tryz.f201,Tryz.func201,rfl,rfl⟩⟩
instance call218:FcK V5 218:=⟨⟨Tryz.f218,Tryz.func218,rfl,rfl⟩⟩
instance call228:FcK V5 228:=⟨⟨Tryz.f228,Tryz.func228,rfl,rfl⟩⟩
instance call245:FcK V5 245:=⟨⟨Tryz.f245,Tryz.func245,rfl,rfl⟩⟩
instance call252:FcK V5 252:=⟨⟨Tryz.f252,Tryz.func252,rfl,rfl⟩⟩
theorem oH (b o:Nat)(w:World):(Instr.fieldAt 29 (pV b o) 0).run V5 w=.ok (pV b o) w:=by kernel_rfl
theorem wr (b o:Nat)(w:World):(Instr.fieldAt 29 (pV b o) 1).run V5 w=.ok (.pointer (some ⟨b,o+1,none⟩)) w:=by kernel_rfl
theorem abd (b o:Nat)(w:World):(Instr.fieldAt 29 (pV b o) 2).run V5 w=.ok (.pointer (some ⟨b,o+2,none⟩)) w:=by kernel_rfl
theorem MM (b o:Nat)(w:World):(Instr.fieldAt 34 (pV b o) 0).run V5 w=.ok (pV b o) w:=by kernel_rfl
theorem Bp (b o:Nat)(w:World):(Instr.fieldAt 34 (pV b o) 1).run V5 w=.ok (.pointer (some ⟨b,o+1,none⟩)) w:=by kernel_rfl
theorem Gn (b o:Nat)(w:World):(Instr.fieldAt 34 (pV b o) 2).run V5 w=.ok (.pointer (some ⟨b,o+2,none⟩)) w:=by kernel_rfl
theorem abX (b o:Nat)(w:World):(Instr.fieldAt 36 (pV b o) 0).run V5 w=.ok (pV b o) w:=by kernel_rfl
theorem MW (b o:Nat)(w:World):(Instr.fieldAt 36 (pV b o) 1).run V5 w=.ok (.pointer (some ⟨b,o+1,none⟩)) w:=by kernel_rfl
theorem abW (b o:Nat)(w:World):(Instr.fieldAt 36 (pV b o) 2).run V5 w=.ok (.pointer (some ⟨b,o+2,none⟩)) w:=by kernel_rfl
theorem abK (b o:Nat)(w:World):(Instr.fieldAt 36 (pV b o) 3).run V5 w=.ok (.pointer (some ⟨b,o+5,none⟩)) w:=by kernel_rfl
theorem Nl (b o:Nat)(w:World):(Instr.fieldAt 36 (pV b o) 4).run V5 w=.ok (.pointer (some ⟨b,o+8,none⟩)) w:=by kernel_rfl
theorem abU (b o:Nat)(w:World):(Instr.fieldAt 38 (pV b o) 0).run V5 w=.ok (pV b o) w:=by kernel_rfl
theorem abc (b o:Nat)(w:World):(Instr.fieldAt 38 (pV b o) 1).run V5 w=.ok (.pointer (some ⟨b,o+1,none⟩)) w:=by kernel_rfl
theorem aaV (b o:Nat)(w:World):(Instr.fieldAt 38 (pV b o) 2).run V5 w=.ok (.pointer (some ⟨b,o+2,none⟩)) w:=by kernel_rfl
theorem wl (b o:Nat)(w:World):(Instr.fieldAt 38 (pV b o) 3).run V5 w=.ok (.pointer (some ⟨b,o+3,none⟩)) w:=by kernel_rfl
theorem MN (b o:Nat)(w:World):(Instr.fieldAt 38 (pV b o) 4).run V5 w=.ok (.pointer (some ⟨b,o+6,none⟩)) w:=by kernel_rfl
theorem Mo (b o:Nat)(w:World):(Instr.fieldAt 38 (pV b o) 5).run V5 w=.ok (.pointer (some ⟨b,o+17,none⟩)) w:=by kernel_rfl
theorem ME (b o:Nat)(w:World):(Instr.fieldAt 38 (pV b o) 6).run V5 w=.ok (.pointer (some ⟨b,o+20,none⟩)) w:=by kernel_rfl
theorem aa7 (b o:Nat)(w:World):(Instr.fieldAt 45 (pV b o) 0).run V5 w=.ok (pV b o) w:=by kernel_rfl
theorem abV (b o:Nat)(w:World):(Instr.fieldAt 45 (pV b o) 1).run V5 w=.ok (.pointer (some ⟨b,o+1,none⟩)) w:=by kernel_rfl
theorem Mn (b o:Nat)(w:World):(Instr.fieldAt 45 (pV b o) 2).run V5 w=.ok (.pointer (some ⟨b,o+2,none⟩)) w:=by kernel_rfl
theorem na (b o:Nat)(w:World):(Instr.fieldAt 45 (pV b o) 3).run V5 w=.ok (.pointer (some ⟨b,o+3,none⟩)) w:=by kernel_rfl
theorem Gi (b o:Nat)(w:World):(Instr.fieldAt 45 (pV b o) 4).run V5 w=.ok (.pointer (some ⟨b,o+4,none⟩)) w:=by kernel_rfl
theorem we (b o:Nat)(w:World):(Instr.fieldAt 45 (pV b o) 5).run V5 w=.ok (.pointer (some ⟨b,o+5,none⟩)) w:=by kernel_rfl
theorem BK (b o:Nat)(w:World):(Instr.fieldAt 48 (pV b o) 0).run V5 w=.ok (pV b o) w:=by kernel_rfl
theorem F4 (b o:Nat)(w:World):(Instr.fieldAt 48 (pV b o) 1).run V5 w=.ok (.pointer (some ⟨b,o+3,none⟩)) w:=by kernel_rfl
theorem MU (b o:Nat)(w:World):(Instr.fieldAt 48 (pV b o) 2).run V5 w=.ok (.pointer (some ⟨b,o+4,none⟩)) w:=by kernel_rfl
theorem abC (b o:Nat)(w:World):(Instr.fieldAt 48 (pV b o) 3).run V5 w=.ok (.pointer (some ⟨b,o+7,none⟩)) w:=by kernel_rfl
theorem aba (b o:Nat)(w:World):(Instr.fieldAt 48 (pV b o) 4).run V5 w=.ok (.pointer (some ⟨b,o+10,none⟩)) w:=by kernel_rfl
theorem wp (b o:Nat)(w:World):(Instr.fieldAt 55 (pV b o) 0).run V5 w=.ok (pV b o) w:=by kernel_rfl
theorem BF (b o:Nat)(w:World):(Instr.fieldAt 55 (pV b o) 1).run V5 w=.ok (.pointer (some ⟨b,o+1,none⟩)) w:=by kernel_rfl
theorem jC (b o:Nat)(w:World):(Instr.fieldAt 55 (pV b o) 2).run V5 w=.ok (.pointer (some ⟨b,o+2,none⟩)) w:=by kernel_rfl
theorem abN (b o:Nat)(w:World):(Instr.fieldAt 67 (pV b o) 0).run V5 w=.ok (pV b o) w:=by kernel_rfl
theorem abE (b o:Nat)(w:World):(Instr.fieldAt 67 (pV b o) 1).run V5 w=.ok (.pointer (some ⟨b,o+1,none⟩)) w:=by kernel_rfl
theorem abG (b o:Nat)(w:World):(Instr.fieldAt 67 (pV b o) 2).run V5 w=.ok (.pointer (some ⟨b,o+2,none⟩)) w:=by kernel_rfl
theorem aaF (b o:Nat)(w:World):(Instr.fieldAt 67 (pV b o) 3).run V5 w=.ok (.pointer (some ⟨b,o+3,none⟩)) w:=by kernel_rfl
theorem abb (b o:Nat)(w:World):(Instr.fieldAt 67 (pV b o) 4).run V5 w=.ok (.pointer (some ⟨b,o+4,none⟩)) w:=by kernel_rfl
theorem aaN (b o:Nat)(w:World):(Instr.fieldAt 67 (pV b o) 5).run V5 w=.ok (.pointer (some ⟨b,o+5,none⟩)) w:=by kernel_rfl
theorem aaE (b o:Nat)(w:World):(Instr.fieldAt 67 (pV b o) 6).run V5 w=.ok (.pointer (some ⟨b,o+6,none⟩)) w:=by kernel_rfl
theorem aaY (b o:Nat)(w:World):(Instr.fieldAt 78 (pV b o) 0).run V5 w=.ok (pV b o) w:=by kernel_rfl
theorem aaO (b o:Nat)(w:World):(Instr.fieldAt 78 (pV b o) 1).run V5 w=.ok (.pointer (some ⟨b,o+1,none⟩)) w:=by kernel_rfl
theorem aaJ (b o:Nat)(w:World):(Instr.fieldAt 85 (pV b o) 0).run V5 w=.ok (pV b o) w:=by kernel_rfl
theorem abQ (b o:Nat)(w:World):(Instr.fieldAt 85 (pV b o) 1).run V5 w=.ok (.pointer (some ⟨b,o+3,none⟩)) w:=by kernel_rfl
theorem BN (b o:Nat)(w:World):(Instr.fieldAt 85 (pV b o) 3).run V5 w=.ok (.pointer (some ⟨b,o+11,none⟩)) w:=by kernel_rfl
theorem aby (b o:Nat)(w:World):(Instr.fieldAt 85 (pV b o) 4).run V5 w=.ok (.pointer (some ⟨b,o+12,none⟩)) w:=by kernel_rfl
theorem abo (b o:Nat)(w:World):(Instr.fieldAt 85 (pV b o) 6).run V5 w=.ok (.pointer (some ⟨b,o+14,none⟩)) w:=by kernel_rfl
theorem Ly (b o:Nat)(w:World):(Instr.fieldAt 103 (pV b o) 0).run V5 w=.ok (pV b o) w:=by kernel_rfl
theorem LY (b o:Nat)(w:World):(Instr.fieldAt 103 (pV b o) 1).run V5 w=.ok (.pointer (some ⟨b,o+6,none⟩)) w:=by kernel_rfl
theorem U0 (b o:Nat)(w:World):(Instr.fieldAt 103 (pV b o) 2).run V5 w=.ok (.pointer (some ⟨b,o+7,none⟩)) w:=by kernel_rfl
theorem AX (b o:Nat)(w:World):(Instr.fieldAt 125 (pV b o) 0).run V5 w=.ok (pV b o) w:=by kernel_rfl
theorem AY (b o:Nat)(w:World):(Instr.fieldAt 125 (pV b o) 1).run V5 w=.ok (.pointer (some ⟨b,o+1,none⟩)) w:=by kernel_rfl
theorem kj (b o:Nat)(w:World):(Instr.fieldAt 128 (pV b o) 0).run V5 w=.ok (pV b o) w:=by kernel_rfl
theorem lS (b o:Nat)(w:World):(Instr.fieldAt 128 (pV b o) 1).run V5 w=.ok (.pointer (some ⟨b,o+2,none⟩)) w:=by kernel_rfl
theorem oB (b o:Nat)(w:World):(Instr.fieldAt 128 (pV b o) 2).run V5 w=.ok (.pointer (some ⟨b,o+3,none⟩)) w:=by kernel_rfl
theorem Bb (b o:Nat)(w:World):(Instr.fieldAt 128 (pV b o) 3).run V5 w=.ok (.pointer (some ⟨b,o+4,none⟩)) w:=by kernel_rfl
theorem FQ (b o:Nat)(w:World):(Instr.fieldAt 159 (pV b o) 0).run V5 w=.ok (pV b o) w:=by kernel_rfl
theorem FS (b o:Nat)(w:World):(Instr.fieldAt 159 (pV b o) 1).run V5 w=.ok (.pointer (some ⟨b,o+1,none⟩)) w:=by kernel_rfl
theorem AN (b o:Nat)(w:World):(Instr.fieldAt 159 (pV b o) 2).run V5 w=.ok (.pointer (some ⟨b,o+4,none⟩)) w:=by kernel_rfl
theorem FR (b o:Nat)(w:World):(Instr.fieldAt 159 (pV b o) 3).run V5 w=.ok (.pointer (some ⟨b,o+5,none⟩)) w:=by kernel_rfl
theorem UA (b o:Nat)(w:World):(Instr.fieldAt 186 (pV b o) 0).run V5 w=.ok (pV b o) w:=by kernel_rfl
theorem Ba (b o:Nat)(w:World):(Instr.fieldAt 191 (pV b o) 0).run V5 w=.ok (pV b o) w:=by kernel_rfl
theorem Us (b o:Nat)(w:World):(Instr.fieldAt 191 (pV b o) 1).run V5 w=.ok (.pointer (some ⟨b,o+1,none⟩)) w:=by kernel_rfl
theorem aae (b o:Nat)(w:World):(Instr.fieldAt 223 (pV b o) 0).run V5 w=.ok (pV b o) w:=by kernel_rfl
theorem LK (b o:Nat)(w:World):(Instr.fieldAt 223 (pV b o) 1).run V5 w=.ok (.pointer (some ⟨b,o+2,none⟩)) w:=by kernel_rfl
theorem Bg (b o:Nat)(w:World):(Instr.fieldAt 223 (pV b o) 2).run V5 w=.ok (.pointer (some ⟨b,o+3,none⟩)) w:=by kernel_rfl
theorem aab (b o:Nat)(w:World):(Instr.fieldAt 223 (pV b o) 3).run V5 w=.ok (.pointer (some ⟨b,o+4,none⟩)) w:=by kernel_rfl
theorem Lj (b o:Nat)(w:World):(Instr.fieldAt 223 (pV b o) 4).run V5 w=.ok (.pointer (some ⟨b,o+5,none⟩)) w:=by kernel_rfl
theorem Lt (b o:Nat)(w:World):(Instr.fieldAt 269 (pV b o) 0).run V5 w=.ok (pV b o) w:=by kernel_rfl
theorem LC (b o:Nat)(w:World):(Instr.fieldAt 269 (pV b o) 1).run V5 w=.ok (.pointer (some ⟨b,o+2,none⟩)) w:=by kernel_rfl
theorem US (b o:Nat)(w:World):(Instr.fieldAt 269 (pV b o) 2).run V5 w=.ok (.pointer (some ⟨b,o+3,none⟩)) w:=by kernel_rfl
theorem Ls (b o:Nat)(w:World):(Instr.fieldAt 269 (pV b o) 3).run V5 w=.ok (.pointer (some ⟨b,o+4,none⟩)) w:=by kernel_rfl
theorem eo:cz V5 3=true:=by kernel_rfl
theorem Hg:cz V5 4=true:=by kernel_rfl
theorem ada:cz V5 9=true:=by kernel_rfl
theorem tf:cz V5 23=true:=by kernel_rfl
theorem mi:cz V5 40=true:=by kernel_rfl
theorem gt:cz V5 43=true:=by kernel_rfl
theorem mh:cz V5 60=true:=by kernel_rfl
theorem ac5:cz V5 81=true:=by kernel_rfl
theorem tj:cz V5 99=true:=by kernel_rfl
theorem sR:cz V5 123=true:=by kernel_rfl
theorem Ce:cz V5 126=true:=by kernel_rfl
theorem GI:cz V5 156=true:=by kernel_rfl
theorem acK:cz V5 184=true:=by kernel_rfl
theorem acy:cz V5 189=true:=by kernel_rfl
theorem sQ:cz V5 207=true:=by kernel_rfl
theorem acJ:cz V5 265=true:=by kernel_rfl
theorem acF:cz V5 267=true:=by kernel_rfl
instance agg29:FcG V5 29 3:=⟨by kernel_rfl⟩
instance agg34:FcG V5 34 3:=⟨by kernel_rfl⟩
instance agg36:FcG V5 36 11:=⟨by kernel_rfl⟩
instance agg38:FcG V5 38 21:=⟨by kernel_rfl⟩
instance agg45:FcG V5 45 6:=⟨by kernel_rfl⟩
instance agg48:FcG V5 48 13:=⟨by kernel_rfl⟩
instance agg55:FcG V5 55 3:=⟨by kernel_rfl⟩
instance agg67:FcG V5 67 7:=⟨by kernel_rfl⟩
instance agg125:FcG V5 125 2:=⟨by kernel_rfl⟩
instance agg159:FcG V5 159 6:=⟨by kernel_rfl⟩
instance size3:FcZ V5 3 1:=⟨by kernel_rfl⟩
instance size4:FcZ V5 4 1:=⟨by kernel_rfl⟩
instance size29:FcZ V5 29 3:=⟨by kernel_rfl⟩
instance size34:FcZ V5 34 3:=⟨by kernel_rfl⟩
instance size36:FcZ V5 36 11:=⟨by kernel_rfl⟩
instance size38:FcZ V5 38 21:=⟨by kernel_rfl⟩
instance size40:FcZ V5 40 1:=⟨by kernel_rfl⟩
instance size43:FcZ V5 43 1:=⟨by kernel_rfl⟩
instance size45:FcZ V5 45 6:=⟨by kernel_rfl⟩
instance size48:FcZ V5 48 13:=⟨by kernel_rfl⟩
instance size55:FcZ V5 55 3:=⟨by kernel_rfl⟩
instance size99:FcZ V5 99 1:=⟨by kernel_rfl⟩
instance size123:FcZ V5 123 1:=⟨by kernel_rfl⟩
instance size125:FcZ V5 125 2:=⟨by kernel_rfl⟩
instance size156:FcZ V5 156 1:=⟨by kernel_rfl⟩
instance size159:FcZ V5 159 6:=⟨by kernel_rfl⟩
instance size207:FcZ V5 207 1:=⟨by kernel_rfl⟩
instance size265:FcZ V5 265 1:=⟨by kernel_rfl⟩
instance size296:FcZ V5 296 0:=⟨by kernel_rfl⟩
instance zero3:FcI V5 3 (iV 0):=⟨fun w=>by kernel_rfl⟩
instance zero4:FcI V5 4 (.bool false):=⟨fun w=>by kernel_rfl⟩
instance zero29:FcI V5 29 (.agg #[iV 0,iV 0,.string ⟨#[]⟩]):=⟨fun w=>by kernel_rfl⟩
instance zero34:FcI V5 34 (.agg #[iV 0,iV 0,.string ⟨#[]⟩]):=⟨fun w=>by kernel_rfl⟩
instance zero36:FcI V5 36 (.agg #[iV 0,iV 0,iV 0,iV 0,.string ⟨#[]⟩,iV 0,iV 0,.string ⟨#[]⟩,iV 0,iV 0,.string ⟨#[]⟩]):=⟨fun w=>by kernel_rfl⟩
instance zero38:FcI V5 38 (.agg #[iV 0,iV 0,iV 0,iV 0,iV 0,.string ⟨#[]⟩,iV 0,iV 0,iV 0,iV 0,.string ⟨#[]⟩,iV 0,iV 0,.string ⟨#[]⟩,iV 0,iV 0,.string ⟨#[]⟩,iV 0,iV 0,.string ⟨#[]⟩,iV 0]):=⟨fun w=>by kernel_rfl⟩
instance zero43:FcI V5 43 (Y none 0 0):=⟨fun w=>by kernel_rfl⟩
instance zero45:FcI V5 45 (.agg #[iV 0,iV 0,iV 0,iV 0,Y none 0 0,Y none 0 0]):=⟨fun w=>by kernel_rfl⟩
instance zero48:FcI V5 48 (.agg #[iV 0,iV 0,.string ⟨#[]⟩,iV 0,iV 0,iV 0,.string ⟨#[]⟩,iV 0,iV 0,.string ⟨#[]⟩,iV 0,iV 0,.string ⟨#[]⟩]):=⟨fun w=>by kernel_rfl⟩
instance zero99:FcI V5 99 (Y none 0 0):=⟨fun w=>by kernel_rfl⟩
instance zero125:FcI V5 125 (.agg #[Y none 0 0,Y none 0 0]):=⟨fun w=>by kernel_rfl⟩
instance zero159:FcI V5 159 (.agg #[iV 0,iV 0,iV 0,.string ⟨#[]⟩,iV 0,iV 0]):=⟨fun w=>by kernel_rfl⟩
instance zero207:FcI V5 207 (.map none):=⟨fun w=>by kernel_rfl⟩
instance zero265:FcI V5 265 (.pointer none):=⟨fun w=>by kernel_rfl⟩
instance zero296:FcI V5 296 (.agg #[]):=⟨fun w=>by kernel_rfl⟩
theorem UK (a e d c:Int)(x4_a:Option Addr)(x4_n x4_c:Nat)(x5_a:Option Addr)(x5_n x5_c:Nat)(w:World):(Instr.field 45 (.agg #[iV a,iV e,iV d,iV c,.slice x4_a x4_n x4_c,.slice x5_a x5_n x5_c]) 0).run V5 w=.ok (iV a) w:=by kernel_rfl
theorem aan (e d c a:Int)(x4_a:Option Addr)(x4_n x4_c:Nat)(x5_a:Option Addr)(x5_n x5_c:Nat)(w:World):(Instr.field 45 (.agg #[iV e,iV d,iV c,iV a,.slice x4_a x4_n x4_c,.slice x5_a x5_n x5_c]) 3).run V5 w=.ok (iV a) w:=by kernel_rfl
theorem FZ (e d c a:Int)(x4_a:Option Addr)(x4_n x4_c:Nat)(x5_a:Option Addr)(x5_n x5_c:Nat)(w:World):(Instr.field 45 (.agg #[iV e,iV d,iV c,iV a,.slice x4_a x4_n x4_c,.slice x5_a x5_n x5_c]) 5).run V5 w=.ok (.slice x5_a x5_n x5_c) w:=by kernel_rfl
instance bld_29_:FcB V5 29 [] (.agg #[iV 0,iV 0,.string ⟨#[]⟩]):=⟨fun w=>by kernel_rfl⟩
instance bld_29_0 (a:Int):FcB V5 29 [(0,iV a)] (.agg #[iV a,iV 0,.string ⟨#[]⟩]):=⟨fun w=>by kernel_rfl⟩
instance bld_29_0_1 (c a:Int):FcB V5 29 [(0,iV c),(1,iV a)] (.agg #[iV c,iV a,.string ⟨#[]⟩]):=⟨fun w=>by kernel_rfl⟩
instance bld_34_0_2 (c:Int)(a:ByteArray):FcB V5 34 [(0,iV c),(2,.string a)] (.agg #[iV c,iV 0,.string a]):=⟨fun w=>by kernel_rfl⟩
instance bld_34_1 (a:Int):FcB V5 34 [(1,iV a)] (.agg #[iV 0,iV a,.string ⟨#[]⟩]):=⟨fun w=>by kernel_rfl⟩
instance bld_36_0_1_2 (c a x2_0_ x2_1_:Int)(x2_2_:ByteArray):FcB V5 36 [(0,iV c),(1,iV a),(2,.agg #[iV x2_0_,iV x2_1_,.string x2_2_])] (.agg #[iV c,iV a,iV x2_0_,iV x2_1_,.string x2_2_,iV 0,iV 0,.string ⟨#[]⟩,iV 0,iV 0,.string ⟨#[]⟩]):=⟨fun w=>by kernel_rfl⟩
instance bld_45_:FcB V5 45 [] (.agg #[iV 0,iV 0,iV 0,iV 0,Y none 0 0,Y none 0 0]):=⟨fun w=>by kernel_rfl⟩
instance bld_45_0 (a:Int):FcB V5 45 [(0,iV a)] (.agg #[iV a,iV 0,iV 0,iV 0,Y none 0 0,Y none 0 0]):=⟨fun w=>by kernel_rfl⟩
instance bld_45_0_2_4 (c a:Int)(x4_a:Option Addr)(x4_n x4_c:Nat):FcB V5 45 [(0,iV c),(2,iV a),(4,.slice x4_a x4_n x4_c)] (.agg #[iV c,iV 0,iV a,iV 0,.slice x4_a x4_n x4_c,Y none 0 0]):=⟨fun w=>by kernel_rfl⟩
instance bld_45_0_2_4_5 (c a:Int)(x4_a:Option Addr)(x4_n x4_c:Nat)(x5_a:Option Addr)(x5_n x5_c:Nat):FcB V5 45 [(0,iV c),(2,iV a),(4,.slice x4_a x4_n x4_c),(5,.slice x5_a x5_n x5_c)] (.agg #[iV c,iV 0,iV a,iV 0,.slice x4_a x4_n x4_c,.slice x5_a x5_n x5_c]):=⟨fun w=>by kernel_rfl⟩
instance bld_45_0_4 (a:Int)(x4_a:Option Addr)(x4_n x4_c:Nat):FcB V5 45 [(0,iV a),(4,.slice x4_a x4_n x4_c)] (.agg #[iV a,iV 0,iV 0,iV 0,.slice x4_a x4_n x4_c,Y none 0 0]):=⟨fun w=>by kernel_rfl⟩
instance bld_45_5 (x5_a:Option Addr)(x5_n x5_c:Nat):FcB V5 45 [(5,.slice x5_a x5_n x5_c)] (.agg #[iV 0,iV 0,iV 0,iV 0,Y none 0 0,.slice x5_a x5_n x5_c]):=⟨fun w=>by kernel_rfl⟩
instance bld_48_:FcB V5 48 [] (.agg #[iV 0,iV 0,.string ⟨#[]⟩,iV 0,iV 0,iV 0,.string ⟨#[]⟩,iV 0,iV 0,.string ⟨#[]⟩,iV 0,iV 0,.string ⟨#[]⟩]):=⟨fun w=>by kernel_rfl⟩
instance bld_48_0 (x0_0_ x0_1_:Int)(x0_2_:ByteArray):FcB V5 48 [(0,.agg #[iV x0_0_,iV x0_1_,.string x0_2_])] (.agg #[iV x0_0_,iV x0_1_,.string x0_2_,iV 0,iV 0,iV 0,.string ⟨#[]⟩,iV 0,iV 0,.string ⟨#[]⟩,iV 0,iV 0,.string ⟨#[]⟩]):=⟨fun w=>by kernel_rfl⟩
instance bld_48_0_1 (x0_0_ x0_1_:Int)(x0_2_:ByteArray)(a:Int):FcB V5 48 [(0,.agg #[iV x0_0_,iV x0_1_,.string x0_2_]),(1,iV a)] (.agg #[iV x0_0_,iV x0_1_,.string x0_2_,iV a,iV 0,iV 0,.string ⟨#[]⟩,iV 0,iV 0,.string ⟨#[]⟩,iV 0,iV 0,.string ⟨#[]⟩]):=⟨fun w=>by kernel_rfl⟩
instance bld_48_0_1_2 (x0_0_ x0_1_:Int)(x0_2_:ByteArray)(a x2_0_ x2_1_:Int)(x2_2_:ByteArray):FcB V5 48 [(0,.agg #[iV x0_0_,iV x0_1_,.string x0_2_]),(1,iV a),(2,.agg #[iV x2_0_,iV x2_1_,.string x2_2_])] (.agg #[iV x0_0_,iV x0_1_,.string x0_2_,iV a,iV x2_0_,iV x2_1_,.string x2_2_,iV 0,iV 0,.string ⟨#[]⟩,iV 0,iV 0,.string ⟨#[]⟩]):=⟨fun w=>by kernel_rfl⟩
instance bld_55_0_1 (c:Int)(a:Bool):FcB V5 55 [(0,iV c),(1,.bool a)] (.agg #[iV c,.bool a,Y none 0 0]):=⟨fun w=>by kernel_rfl⟩
instance bld_67_1_2_3_4_5_6 (i f e d c a:Int):FcB V5 67 [(1,iV i),(2,iV f),(3,iV e),(4,iV d),(5,iV c),(6,iV a)] (.agg #[iV 0,iV i,iV f,iV e,iV d,iV c,iV a]):=⟨fun w=>by kernel_rfl⟩
instance bld_85_1_3_4 (x1_0_ x1_1_ x1_2_ x1_3_ x1_4_ x1_5_ x1_6_:Int)(c a:Option Addr):FcB V5 85 [(1,.agg #[iV x1_0_,iV x1_1_,iV x1_2_,iV x1_3_,iV x1_4_,iV x1_5_,iV x1_6_]),(3,.pointer c),(4,.pointer a)] (.agg #[iV 0,iV 0,iV 0,iV x1_0_,iV x1_1_,iV x1_2_,iV x1_3_,iV x1_4_,iV x1_5_,iV x1_6_,.nilIface,.pointer c,.pointer a,Y none 0 0,iV 0,iV 0,iV 0,Y none 0 0,Y none 0 0]):=⟨fun w=>by kernel_rfl⟩
instance bld_103_0_1_2 (x0_0_ x0_1_ x0_2_ x0_3_:Int)(x0_4_a:Option Addr)(x0_4_n x0_4_c:Nat)(x0_5_a:Option Addr)(x0_5_n x0_5_c:Nat)(a:Option Addr)(x2_0_ x2_1_:Int)(x2_2_:ByteArray):FcB V5 103 [(0,.agg #[iV x0_0_,iV x0_1_,iV x0_2_,iV x0_3_,.slice x0_4_a x0_4_n x0_4_c,.slice x0_5_a x0_5_n x0_5_c]),(1,.pointer a),(2,.agg #[iV x2_0_,iV x2_1_,.string x2_2_])] (.agg #[iV x0_0_,iV x0_1_,iV x0_2_,iV x0_3_,.slice x0_4_a x0_4_n x0_4_c,.slice x0_5_a x0_5_n x0_5_c,.pointer a,iV x2_0_,iV x2_1_,.string x2_2_]):=⟨fun w=>by kernel_rfl⟩
instance bld_125_:FcB V5 125 [] (.agg #[Y none 0 0,Y none 0 0]):=⟨fun w=>by kernel_rfl⟩
instance bld_128_3 (a:Option Addr):FcB V5 128 [(3,.pointer a)] (.agg #[Y none 0 0,Y none 0 0,Y none 0 0,Y none 0 0,.pointer a]):=⟨fun w=>by kernel_rfl⟩
instance bld_159_:FcB V5 159 [] (.agg #[iV 0,iV 0,iV 0,.string ⟨#[]⟩,iV 0,iV 0]):=⟨fun w=>by kernel_rfl⟩
instance bld_159_0 (a:Int):FcB V5 159 [(0,iV a)] (.agg #[iV a,iV 0,iV 0,.string ⟨#[]⟩,iV 0,iV 0]):=⟨fun w=>by kernel_rfl⟩
instance bld_159_0_1_2_3 (d x1_0_ x1_1_:Int)(x1_2_:ByteArray)(c a:Int):FcB V5 159 [(0,iV d),(1,.agg #[iV x1_0_,iV x1_1_,.string x1_2_]),(2,iV c),(3,iV a)] (.agg #[iV d,iV x1_0_,iV x1_1_,.string x1_2_,iV c,iV a]):=⟨fun w=>by kernel_rfl⟩
instance bld_159_1_2 (x1_0_ x1_1_:Int)(x1_2_:ByteArray)(a:Int):FcB V5 159 [(1,.agg #[iV x1_0_,iV x1_1_,.string x1_2_]),(2,iV a)] (.agg #[iV 0,iV x1_0_,iV x1_1_,.string x1_2_,iV a,iV 0]):=⟨fun w=>by kernel_rfl⟩
instance bld_186_0 (a:Option Nat):FcB V5 186 [(0,.map a)] (.agg #[.map a]):=⟨fun w=>by kernel_rfl⟩
instance bld_191_0_1 (x0_a:Option Addr)(x0_n x0_c:Nat)(a:Option Nat):FcB V5 191 [(0,.slice x0_a x0_n x0_c),(1,.map a)] (.agg #[.slice x0_a x0_n x0_c,.map a]):=⟨fun w=>by kernel_rfl⟩
instance bld_223_0_1_3 (x0_0_a:Option Addr)(x0_0_n x0_0_c:Nat)(x0_1_a:Option Addr)(x0_1_n x0_1_c:Nat)(x1_a:Option Addr)(x1_n x1_c:Nat)(a:Option Nat):FcB V5 223 [(0,.agg #[.slice x0_0_a x0_0_n x0_0_c,.slice x0_1_a x0_1_n x0_1_c]),(1,.slice x1_a x1_n x1_c),(3,.map a)] (.agg #[.slice x0_0_a x0_0_n x0_0_c,.slice x0_1_a x0_1_n x0_1_c,.slice x1_a x1_n x1_c,Y none 0 0,.map a,iV 0]):=⟨fun w=>by kernel_rfl⟩
instance bld_245_0_1_2 (c x1_0_ x1_1_:Int)(x1_2_:ByteArray)(a:Int):FcB V5 245 [(0,iV c),(1,.agg #[iV x1_0_,iV x1_1_,.string x1_2_]),(2,iV a)] (.agg #[iV c,iV x1_0_,iV x1_1_,.string x1_2_,iV a]):=⟨fun w=>by kernel_rfl⟩
instance bld_269_0_2 (x0_0_a:Option Addr)(x0_0_n x0_0_c:Nat)(x0_1_a:Option Addr)(x0_1_n x0_1_c:Nat)(a:Option Nat):FcB V5 269 [(0,.agg #[.slice x0_0_a x0_0_n x0_0_c,.slice x0_1_a x0_1_n x0_1_c]),(2,.map a)] (.agg #[.slice x0_0_a x0_0_n x0_0_c,.slice x0_1_a x0_1_n x0_1_c,Y none 0 0,.map a,iV 0]):=⟨fun w=>by kernel_rfl⟩
instance bld_296_:FcB V5 296 [] (.agg #[]):=⟨fun w=>by kernel_rfl⟩
theorem UM (w:World):(Instr.buildSlice 40 0 #[]).run V5 w=.ok (.slice (some ⟨w.heap.size,0,none⟩) 0 0) (w.alloc (.cells #[] 48)):=by kernel_rfl
theorem FG (x0_0_0_ x0_0_1_:Int)(x0_0_2_:ByteArray)(x0_1_ x0_2_0_ x0_2_1_:Int)(x0_2_2_:ByteArray)(x0_3_0_ x0_3_1_:Int)(x0_3_2_:ByteArray)(x0_4_0_ x0_4_1_:Int)(x0_4_2_:ByteArray)(w:World):(Instr.buildSlice 40 1 #[(0,.agg #[iV x0_0_0_,iV x0_0_1_,.string x0_0_2_,iV x0_1_,iV x0_2_0_,iV x0_2_1_,.string x0_2_2_,iV x0_3_0_,iV x0_3_1_,.string x0_3_2_,iV x0_4_0_,iV x0_4_1_,.string x0_4_2_])]).run V5 w=.ok (.slice (some ⟨w.heap.size,0,none⟩) 1 1) (w.alloc (.cells #[iV x0_0_0_,iV x0_0_1_,.string x0_0_2_,iV x0_1_,iV x0_2_0_,iV x0_2_1_,.string x0_2_2_,iV x0_3_0_,iV x0_3_1_,.string x0_3_2_,iV x0_4_0_,iV x0_4_1_,.string x0_4_2_] 48)):=by kernel_rfl
theorem UP (w:World):(Instr.buildSlice 43 0 #[]).run V5 w=.ok (.slice (some ⟨w.heap.size,0,none⟩) 0 0) (w.alloc (.cells #[] 29)):=by kernel_rfl
theorem qf (x0_0_ x0_1_:Int)(x0_2_:ByteArray)(w:World):(Instr.buildSlice 43 1 #[(0,.agg #[iV x0_0_,iV x0_1_,.string x0_2_])]).run V5 w=.ok (.slice (some ⟨w.heap.size,0,none⟩) 1 1) (w.alloc (.cells #[iV x0_0_,iV x0_1_,.string x0_2_] 29)):=by kernel_rfl
theorem Lo (x0_0_ x0_1_:Int)(x0_2_:ByteArray)(x1_0_ x1_1_:Int)(x1_2_:ByteArray)(w:World):(Instr.buildSlice 43 2 #[(0,.agg #[iV x0_0_,iV x0_1_,.string x0_2_]),(1,.agg #[iV x1_0_,iV x1_1_,.string x1_2_])]).run V5 w=.ok (.slice (some ⟨w.heap.size,0,none⟩) 2 2) (w.alloc (.cells #[iV x0_0_,iV x0_1_,.string x0_2_,iV x1_0_,iV x1_1_,.string x1_2_] 29)):=by kernel_rfl
theorem Uy (x0_0_ x0_1_:Int)(x0_2_:ByteArray)(x1_0_ x1_1_:Int)(x1_2_:ByteArray)(x2_0_ x2_1_:Int)(x2_2_:ByteArray)(x3_0_ x3_1_:Int)(x3_2_:ByteArray)(w:World):(Instr.buildSlice 43 4 #[(0,.agg #[iV x0_0_,iV x0_1_,.string x0_2_]),(1,.agg #[iV x1_0_,iV x1_1_,.string x1_2_]),(2,.agg #[iV x2_0_,iV x2_1_,.string x2_2_]),(3,.agg #[iV x3_0_,iV x3_1_,.string x3_2_])]).run V5 w=.ok (.slice (some ⟨w.heap.size,0,none⟩) 4 4) (w.alloc (.cells #[iV x0_0_,iV x0_1_,.string x0_2_,iV x1_0_,iV x1_1_,.string x1_2_,iV x2_0_,iV x2_1_,.string x2_2_,iV x3_0_,iV x3_1_,.string x3_2_] 29)):=by kernel_rfl
theorem Uo (w:World):(Instr.buildSlice 53 0 #[]).run V5 w=.ok (.slice (some ⟨w.heap.size,0,none⟩) 0 0) (w.alloc (.cells #[] 55)):=by kernel_rfl
theorem aad (x0_0_:Int)(x0_1_:Bool)(x0_2_a:Option Addr)(x0_2_n x0_2_c:Nat)(w:World):(Instr.buildSlice 53 1 #[(0,.agg #[iV x0_0_,.bool x0_1_,.slice x0_2_a x0_2_n x0_2_c])]).run V5 w=.ok (.slice (some ⟨w.heap.size,0,none⟩) 1 1) (w.alloc (.cells #[iV x0_0_,.bool x0_1_,.slice x0_2_a x0_2_n x0_2_c] 55)):=by kernel_rfl
theorem aaq (w:World):(Instr.buildSlice 72 0 #[]).run V5 w=.ok (.slice (some ⟨w.heap.size,0,none⟩) 0 0) (w.alloc (.cells #[] 34)):=by kernel_rfl
theorem oF (x0_0_ x0_1_:Int)(x0_2_:ByteArray)(w:World):(Instr.buildSlice 72 1 #[(0,.agg #[iV x0_0_,iV x0_1_,.string x0_2_])]).run V5 w=.ok (.slice (some ⟨w.heap.size,0,none⟩) 1 1) (w.alloc (.cells #[iV x0_0_,iV x0_1_,.string x0_2_] 34)):=by kernel_rfl
theorem lQ (a:Int)(w:World):(Instr.buildSlice 99 1 #[(0,iV a)]).run V5 w=.ok (.slice (some ⟨w.heap.size,0,none⟩) 1 1) (w.alloc (.cells #[iV a] 3)):=by kernel_rfl
theorem U9 (c a:Int)(w:World):(Instr.buildSlice 99 2 #[(0,iV c),(1,iV a)]).run V5 w=.ok (.slice (some ⟨w.heap.size,0,none⟩) 2 2) (w.alloc (.cells #[iV c,iV a] 3)):=by kernel_rfl
theorem vJ (x0_0_ x0_1_ x0_2_ x0_3_:Int)(x0_4_a:Option Addr)(x0_4_n x0_4_c:Nat)(x0_5_a:Option Addr)(x0_5_n x0_5_c:Nat)(w:World):(Instr.buildSlice 123 1 #[(0,.agg #[iV x0_0_,iV x0_1_,iV x0_2_,iV x0_3_,.slice x0_4_a x0_4_n x0_4_c,.slice x0_5_a x0_5_n x0_5_c])]).run V5 w=.ok (.slice (some ⟨w.heap.size,0,none⟩) 1 1) (w.alloc (.cells #[iV x0_0_,iV x0_1_,iV x0_2_,iV x0_3_,.slice x0_4_a x0_4_n x0_4_c,.slice x0_5_a x0_5_n x0_5_c] 45)):=by kernel_rfl
theorem Fm (x0_0_ x0_1_0_ x0_1_1_:Int)(x0_1_2_:ByteArray)(x0_2_ x0_3_:Int)(w:World):(Instr.buildSlice 156 1 #[(0,.agg #[iV x0_0_,iV x0_1_0_,iV x0_1_1_,.string x0_1_2_,iV x0_2_,iV x0_3_])]).run V5 w=.ok (.slice (some ⟨w.heap.size,0,none⟩) 1 1) (w.alloc (.cells #[iV x0_0_,iV x0_1_0_,iV x0_1_1_,.string x0_1_2_,iV x0_2_,iV x0_3_] 159)):=by kernel_rfl
theorem ox (x0_a:Option Addr)(x0_n x0_c:Nat)(x1_a:Option Addr)(x1_n x1_c:Nat)(w:World):(Instr.buildSlice 171 2 #[(0,.slice x0_a x0_n x0_c),(1,.slice x1_a x1_n x1_c)]).run V5 w=.ok (.slice (some ⟨w.heap.size,0,none⟩) 2 2) (w.alloc (.cells #[.slice x0_a x0_n x0_c,.slice x1_a x1_n x1_c] 43)):=by kernel_rfl
theorem Fo (x0_a:Option Addr)(x0_n x0_c:Nat)(x1_a:Option Addr)(x1_n x1_c:Nat)(w:World):(Instr.buildSlice 174 2 #[(0,.slice x0_a x0_n x0_c),(1,.slice x1_a x1_n x1_c)]).run V5 w=.ok (.slice (some ⟨w.heap.size,0,none⟩) 2 2) (w.alloc (.cells #[.slice x0_a x0_n x0_c,.slice x1_a x1_n x1_c] 123)):=by kernel_rfl
theorem Kn (x0_a:Option Addr)(x0_n x0_c:Nat)(x1_a:Option Addr)(x1_n x1_c:Nat)(w:World):(Instr.buildSlice 230 2 #[(0,.slice x0_a x0_n x0_c),(1,.slice x1_a x1_n x1_c)]).run V5 w=.ok (.slice (some ⟨w.heap.size,0,none⟩) 2 2) (w.alloc (.cells #[.slice x0_a x0_n x0_c,.slice x1_a x1_n x1_c] 99)):=by kernel_rfl
theorem iE:iB V5 3 1 8=true:=by kernel_rfl
theorem nm:iB V5 29 3 32=true:=by kernel_rfl
theorem kB:iB V5 34 3 32=true:=by kernel_rfl
theorem oZ:iB V5 45 6 80=true:=by kernel_rfl
theorem CC:iB V5 48 13 136=true:=by kernel_rfl
theorem Ol:iB V5 55 3 40=true:=by kernel_rfl
theorem acX:iB V5 159 6 56=true:=by kernel_rfl
instance:Fc (cz V5 3=true):=⟨eo⟩
instance:Fc (cz V5 4=true):=⟨Hg⟩
instance:Fc (cz V5 9=true):=⟨ada⟩
instance:Fc (cz V5 23=true):=⟨tf⟩
instance:Fc (cz V5 40=true):=⟨mi⟩
instance:Fc (cz V5 43=true):=⟨gt⟩
instance:Fc (cz V5 60=true):=⟨mh⟩
instance:Fc (cz V5 81=true):=⟨ac5⟩
instance:Fc (cz V5 99=true):=⟨tj⟩
instance:Fc (cz V5 123=true):=⟨sR⟩
instance:Fc (cz V5 126=true):=⟨Ce⟩
instance:Fc (cz V5 156=true):=⟨GI⟩
instance:Fc (cz V5 184=true):=⟨acK⟩
instance:Fc (cz V5 189=true):=⟨acy⟩
instance:Fc (cz V5 207=true):=⟨sQ⟩
instance:Fc (cz V5 265=true):=⟨acJ⟩
instance:Fc (cz V5 267=true):=⟨acF⟩
instance:FcA0 V5 29 0:=⟨oH⟩
instance:FcA V5 29 1 1:=⟨wr⟩
instance:FcA V5 29 2 2:=⟨abd⟩
instance:FcA0 V5 34 0:=⟨MM⟩
instance:FcA V5 34 1 1:=⟨Bp⟩
instance:FcA V5 34 2 2:=⟨Gn⟩
instance:FcA0 V5 36 0:=⟨abX⟩
instance:FcA V5 36 1 1:=⟨MW⟩
instance:FcA V5 36 2 2:=⟨abW⟩
instance:FcA V5 36 3 5:=⟨abK⟩
instance:FcA V5 36 4 8:=⟨Nl⟩
instance:FcA0 V5 38 0:=⟨abU⟩
instance:FcA V5 38 1 1:=⟨abc⟩
instance:FcA V5 38 2 2:=⟨aaV⟩
instance:FcA V5 38 3 3:=⟨wl⟩
instance:FcA V5 38 4 6:=⟨MN⟩
instance:FcA V5 38 5 17:=⟨Mo⟩
instance:FcA V5 38 6 20:=⟨ME⟩
instance:FcA0 V5 45 0:=⟨aa7⟩
instance:FcA V5 45 1 1:=⟨abV⟩
instance:FcA V5 45 2 2:=⟨Mn⟩
instance:FcA V5 45 3 3:=⟨na⟩
instance:FcA V5 45 4 4:=⟨Gi⟩
instance:FcA V5 45 5 5:=⟨we⟩
instance:FcA0 V5 48 0:=⟨BK⟩
instance:FcA V5 48 1 3:=⟨F4⟩
instance:FcA V5 48 2 4:=⟨MU⟩
instance:FcA V5 48 3 7:=⟨abC⟩
instance:FcA V5 48 4 10:=⟨aba⟩
instance:FcA0 V5 55 0:=⟨wp⟩
instance:FcA V5 55 1 1:=⟨BF⟩
instance:FcA V5 55 2 2:=⟨jC⟩
instance:FcA0 V5 67 0:=⟨abN⟩
instance:FcA V5 67 1 1:=⟨abE⟩
instance:FcA V5 67 2 2:=⟨abG⟩
instance:FcA V5 67 3 3:=⟨aaF⟩
instance:FcA V5 67 4 4:=⟨abb⟩
instance:FcA V5 67 5 5:=⟨aaN⟩
instance:FcA V5 67 6 6:=⟨aaE⟩
instance:FcA0 V5 78 0:=⟨aaY⟩
instance:FcA V5 78 1 1:=⟨aaO⟩
instance:FcA0 V5 85 0:=⟨aaJ⟩
instance:FcA V5 85 1 3:=⟨abQ⟩
instance:FcA V5 85 3 11:=⟨BN⟩
instance:FcA V5 85 4 12:=⟨aby⟩
instance:FcA V5 85 6 14:=⟨abo⟩
instance:FcA0 V5 103 0:=⟨Ly⟩
instance:FcA V5 103 1 6:=⟨LY⟩
instance:FcA V5 103 2 7:=⟨U0⟩
instance:FcA0 V5 125 0:=⟨AX⟩
instance:FcA V5 125 1 1:=⟨AY⟩
instance:FcA0 V5 128 0:=⟨kj⟩
instance:FcA V5 128 1 2:=⟨lS⟩
instance:FcA V5 128 2 3:=⟨oB⟩
instance:FcA V5 128 3 4:=⟨Bb⟩
instance:FcA0 V5 159 0:=⟨FQ⟩
instance:FcA V5 159 1 1:=⟨FS⟩
instance:FcA V5 159 2 4:=⟨AN⟩
instance:FcA V5 159 3 5:=⟨FR⟩
instance:FcA0 V5 186 0:=⟨UA⟩
instance:FcA0 V5 191 0:=⟨Ba⟩
instance:FcA V5 191 1 1:=⟨Us⟩
instance:FcA0 V5 223 0:=⟨aae⟩
instance:FcA V5 223 1 2:=⟨LK⟩
instance:FcA V5 223 2 3:=⟨Bg⟩
instance:FcA V5 223 3 4:=⟨aab⟩
instance:FcA V5 223 4 5:=⟨Lj⟩
instance:FcA0 V5 269 0:=⟨Lt⟩
instance:FcA V5 269 1 2:=⟨LC⟩
instance:FcA V5 269 2 3:=⟨US⟩
instance:FcA V5 269 3 4:=⟨Ls⟩
theorem KX:Tryz.prog.eqGuardType Tryz.prog.depth 29=false:=by kernel_rfl
theorem MH (x y:VH)(w:World):(Op.equalIn 10000 29 (.agg #[iV x.no,iV x.N,.string x.S]) (.agg #[iV y.no,iV y.N,.string y.S])).run V5 w=.ok (decide (x=y)) w:=by
 obtain ⟨xKind,xN,xS⟩:=x;obtain ⟨yKind,yN,yS⟩:=y;show (Op.equalIn 10000 29 (.agg #[iV xKind,iV xN,.string xS]) (.agg #[iV yKind,iV yN,.string yS])).run V5 w=_
 go_simp
 simp only [sF];by_cases d:xKind=yKind<;>by_cases c:xN=yN<;>by_cases a:xS=yS<;>simp [d,c,a]
theorem vN {d:Option Nat}{u:TypeId}{a b:Operand}{x y:VH}(e:ao s a=some (.agg #[iV x.no,iV x.N,.string x.S]))(c:ao s b=some (.agg #[iV y.no,iV y.N,.string y.S])):Ev V5 s C ⟨d,.binOp .eql 29 a b u,ty,pos,af,gd⟩ (.bool (decide (x=y))):=
 dM e c fun w=>by
  rw [XB,run_eqGuard_agg w _ _ _ _ _ _ KX];simp only [XA];rw [run_eql_struct,MH];rfl
theorem Kk {d:Option Nat}{u:TypeId}{a b:Operand}{x y:VH}(e:ao s a=some (.agg #[iV x.no,iV x.N,.string x.S]))(c:ao s b=some (.agg #[iV y.no,iV y.N,.string y.S])):Ev V5 s C ⟨d,.binOp .neq 29 a b u,ty,pos,af,gd⟩ (.bool (!decide (x=y))):=
 dM e c fun w=>by
  rw [XB,run_eqGuard_agg w _ _ _ _ _ _ KX];simp only [XA];rw [run_neq_struct,MH];rfl
theorem KC:Tryz.prog.eqGuardType Tryz.prog.depth 34=false:=by kernel_rfl
theorem MD (x y:Vy)(w:World):(Op.equalIn 10000 34 (.agg #[iV x.no,iV x.N,.string x.S]) (.agg #[iV y.no,iV y.N,.string y.S])).run V5 w=.ok (decide (x=y)) w:=by
 obtain ⟨xKind,xN,xS⟩:=x;obtain ⟨yKind,yN,yS⟩:=y;show (Op.equalIn 10000 34 (.agg #[iV xKind,iV xN,.string xS]) (.agg #[iV yKind,iV yN,.string yS])).run V5 w=_
 go_simp
 simp only [sF];by_cases d:xKind=yKind<;>by_cases c:xN=yN<;>by_cases a:xS=yS<;>simp [d,c,a]
theorem Mk {d:Option Nat}{u:TypeId}{a b:Operand}{x y:Vy}(e:ao s a=some (.agg #[iV x.no,iV x.N,.string x.S]))(c:ao s b=some (.agg #[iV y.no,iV y.N,.string y.S])):Ev V5 s C ⟨d,.binOp .eql 34 a b u,ty,pos,af,gd⟩ (.bool (decide (x=y))):=
 dM e c fun w=>by
  rw [XB,run_eqGuard_agg w _ _ _ _ _ _ KC];simp only [XA];rw [run_eql_struct,MD];rfl
theorem TN {d:Option Nat}{u:TypeId}{a b:Operand}{x y:Vy}(e:ao s a=some (.agg #[iV x.no,iV x.N,.string x.S]))(c:ao s b=some (.agg #[iV y.no,iV y.N,.string y.S])):Ev V5 s C ⟨d,.binOp .neq 34 a b u,ty,pos,af,gd⟩ (.bool (!decide (x=y))):=
 dM e c fun w=>by
  rw [XB,run_eqGuard_agg w _ _ _ _ _ _ KC];simp only [XA];rw [run_neq_struct,MD];rfl
theorem K0:Tryz.prog.eqGuardType Tryz.prog.depth 48=false:=by kernel_rfl
theorem Nk (x y:VN)(w:World):(Op.equalIn 10000 48 ((dw x)) ((dw y))).run V5 w=.ok (decide (x=y)) w:=by
 obtain ⟨⟨xKeyKind,xKeyN,xKeyS⟩,xAttrs,⟨xValueKind,xValueN,xValueS⟩,⟨xGetKind,xGetN,xGetS⟩,⟨xSetKind,xSetN,xSetS⟩⟩:=x;obtain ⟨⟨yKeyKind,yKeyN,yKeyS⟩,yAttrs,⟨yValueKind,yValueN,yValueS⟩,⟨yGetKind,yGetN,yGetS⟩,⟨ySetKind,ySetN,ySetS⟩⟩:=y;show (Op.equalIn 10000 48 (.agg #[iV xKeyKind,iV xKeyN,.string xKeyS,iV xAttrs,iV xValueKind,iV xValueN,.string xValueS,iV xGetKind,iV xGetN,.string xGetS,iV xSetKind,iV xSetN,.string xSetS]) (.agg #[iV yKeyKind,iV yKeyN,.string yKeyS,iV yAttrs,iV yValueKind,iV yValueN,.string yValueS,iV yGetKind,iV yGetN,.string yGetS,iV ySetKind,iV ySetN,.string ySetS])).run V5 w=_
 go_simp
 simp only [sF];by_cases a:xKeyKind=yKeyKind
 rotate_left
 ·simp [a]
 by_cases c:xKeyN=yKeyN
 rotate_left
 ·simp [a,c]
 by_cases d:xKeyS=yKeyS
 rotate_left
 ·simp [a,c,d]
 by_cases e:xAttrs=yAttrs
 rotate_left
 ·simp [a,c,d,e]
 by_cases f:xValueKind=yValueKind
 rotate_left
 ·simp [a,c,d,e,f]
 by_cases i:xValueN=yValueN
 rotate_left
 ·simp [a,c,d,e,f,i]
 by_cases l:xValueS=yValueS
 rotate_left
 ·simp [a,c,d,e,f,i,l]
 by_cases m:xGetKind=yGetKind
 rotate_left
 ·simp [a,c,d,e,f,i,l,m]
 by_cases o:xGetN=yGetN
 rotate_left
 ·simp [a,c,d,e,f,i,l,m,o]
 by_cases p:xGetS=yGetS
 rotate_left
 ·simp [a,c,d,e,f,i,l,m,o,p]
 by_cases j:xSetKind=ySetKind
 rotate_left
 ·simp [a,c,d,e,f,i,l,m,o,p,j]
 by_cases n:xSetN=ySetN
 rotate_left
 ·simp [a,c,d,e,f,i,l,m,o,p,j,n]
 by_cases q:xSetS=ySetS
 rotate_left
 ·simp [a,c,d,e,f,i,l,m,o,p,j,n,q]
 simp [a,c,d,e,f,i,l,m,o,p,j,n,q]
theorem Ml {d:Option Nat}{u:TypeId}{a b:Operand}{x y:VN}(e:ao s a=some ((dw x)))(c:ao s b=some ((dw y))):Ev V5 s C ⟨d,.binOp .eql 48 a b u,ty,pos,af,gd⟩ (.bool (decide (x=y))):=
 dM e c fun w=>by
  rw [XB,run_eqGuard_agg w _ _ _ _ _ _ K0];simp only [XA];rw [run_eql_struct,Nk];rfl
theorem TQ {d:Option Nat}{u:TypeId}{a b:Operand}{x y:VN}(e:ao s a=some ((dw x)))(c:ao s b=some ((dw y))):Ev V5 s C ⟨d,.binOp .neq 48 a b u,ty,pos,af,gd⟩ (.bool (!decide (x=y))):=
 dM e c fun w=>by
  rw [XB,run_eqGuard_agg w _ _ _ _ _ _ K0];simp only [XA];rw [run_neq_struct,Nk];rfl
theorem UN (x y:VD)(w:World):(Op.equalIn 10000 245 ((NA x)) ((NA y))).run V5 w=.ok (decide (x=y)) w:=by
 obtain ⟨xup_,⟨xkey_Kind,xkey_N,xkey_S⟩,xattrs_⟩:=x;obtain ⟨yup_,⟨ykey_Kind,ykey_N,ykey_S⟩,yattrs_⟩:=y;show (Op.equalIn 10000 245 (.agg #[iV xup_,iV xkey_Kind,iV xkey_N,.string xkey_S,iV xattrs_]) (.agg #[iV yup_,iV ykey_Kind,iV ykey_N,.string ykey_S,iV yattrs_])).run V5 w=_
 go_simp
 simp only [sF];by_cases a:xup_=yup_
 rotate_left
 ·simp [a]
 by_cases c:xkey_Kind=ykey_Kind
 rotate_left
 ·simp [a,c]
 by_cases d:xkey_N=ykey_N
 rotate_left
 ·simp [a,c,d]
 by_cases e:xkey_S=ykey_S
 rotate_left
 ·simp [a,c,d,e]
 by_cases f:xattrs_=yattrs_
 rotate_left
 ·simp [a,c,d,e,f]
 simp [a,c,d,e,f]
def dH (x:VD):Value:=.agg #[iV x.YG,iV x.YF.no,iV x.YF.N,.string x.YF.S,iV x.YH]
theorem JM:KeyOk V5 245 dH where
 und:=⟨_,Tryz.underlying245,fun a b=> .inl rfl⟩
 eq:=fun a b w=>UN a b w
 check:=fun e a w=>by
  obtain ⟨xup_,⟨xkey_Kind,xkey_N,xkey_S⟩,xattrs_⟩:=a;kernel_rfl
 bits:=fun a=>by
  obtain ⟨xup_,⟨xkey_Kind,xkey_N,xkey_S⟩,xattrs_⟩:=a;simp [dH,Instr.sameBits,R6]
structure XDHeap where
 A2:Option Addr
 n2:Nat
 c2:Nat
 A3:Option Addr
 n3:Nat
 c3:Nat
 A4:Option Addr
 n4:Nat
 c4:Nat
 A5:Option Addr
 n5:Nat
 c5:Nat
 B6:Nat
 M7:Nat
 deriving Inhabited
def GH (B1:Nat)(e:Vz)(x:XDHeap):V3:=[ab B1 128 [.slice x.A2 x.n2 x.c2,.slice x.A3 x.n3 x.c3,.slice x.A4 x.n4 x.c4,.slice x.A5 x.n5 x.c5,.pointer (some ⟨x.B6,0,none⟩)],aK dL 45 (.slice x.A2 x.n2 x.c2) e.m_.XS,aK dL 45 (.slice x.A3 x.n3 x.c3) e.m_.XR,aK ca 29 (.slice x.A4 x.n4 x.c4) e.Yb,aK ca 29 (.slice x.A5 x.n5 x.c5) e.Yg,ab x.B6 186 [.map (some x.M7)],aA ax aU x.M7 e.Yf.at_]
def Gx (B1:Nat)(e:Vz)(x:XDHeap):V3:=[aQ B1 128 [.slice x.A2 x.n2 x.c2,.slice x.A3 x.n3 x.c3,.slice x.A4 x.n4 x.c4,.slice x.A5 x.n5 x.c5,.pointer (some ⟨x.B6,0,none⟩)],aL dL (.slice x.A2 x.n2 x.c2) e.m_.XS,aL dL (.slice x.A3 x.n3 x.c3) e.m_.XR,aL ca (.slice x.A4 x.n4 x.c4) e.Yb,aL ca (.slice x.A5 x.n5 x.c5) e.Yg,aQ x.B6 186 [.map (some x.M7)],cK ax aU x.M7 e.Yf.at_]
@[reducible] def oDHeap (B1:Nat)(e:Vz):Chunk:=cP (GH B1 e)
@[reducible] def pDHeap (B1:Nat)(e:Vz):Chunk:=iO (Gx B1 e)
theorem MG {B1:Nat}{e:Vz}{A2:Option Addr}{n2 c2:Nat}{A3:Option Addr}{n3 c3:Nat}{A4:Option Addr}{n4 c4:Nat}{A5:Option Addr}{n5 c5 B6 M7:Nat}(k:Cv L M):Cv (ab B1 128 [Y A2 n2 c2,Y A3 n3 c3,Y A4 n4 c4,Y A5 n5 c5,pV B6 0]::aC A2 n2 c2 e.m_.XS::aC A3 n3 c3 e.m_.XR::aj A4 n4 c4 e.Yb::aj A5 n5 c5 e.Yg::ab B6 186 [.map (some M7)]::aA ax aU M7 e.Yf.at_::L) (oDHeap B1 e::M):=(fa (Q:=GH B1 e) ⟨A2,n2,c2,A3,n3,c3,A4,n4,c4,A5,n5,c5,B6,M7⟩).trans (iv _ k)
instance {B1:Nat}{e:Vz}:LentQ (GH B1 e) (Gx B1 e):=⟨.of fun x=>⟨x,t9 (fY (i:=0) rfl) (t9 (cM (i:=1) rfl) (t9 (cM (i:=2) rfl) (t9 (cM (i:=3) rfl) (t9 (cM (i:=4) rfl) (t9 (fY (i:=5) rfl) (t9 (mY (i:=6) rfl) aW))))))⟩⟩
structure XDTable where
 A2:Option Addr
 n2:Nat
 c2:Nat
 M3:Nat
 deriving Inhabited
def Ge (B1:Nat)(e:VC)(x:XDTable):V3:=[ab B1 191 [.slice x.A2 x.n2 x.c2,.map (some x.M3)],aK cD 159 (.slice x.A2 x.n2 x.c2) e.Ya,aA dH cp x.M3 e.Yn]
def F7 (B1:Nat)(e:VC)(x:XDTable):V3:=[aQ B1 191 [.slice x.A2 x.n2 x.c2,.map (some x.M3)],aL cD (.slice x.A2 x.n2 x.c2) e.Ya,cK dH cp x.M3 e.Yn]
@[reducible] def oDTable (B1:Nat)(e:VC):Chunk:=cP (Ge B1 e)
@[reducible] def pDTable (B1:Nat)(e:VC):Chunk:=iO (F7 B1 e)
theorem Mg {B1:Nat}{e:VC}{A2:Option Addr}{n2 c2 M3:Nat}(k:Cv L M):Cv (ab B1 191 [Y A2 n2 c2,.map (some M3)]::aK cD 159 (Y A2 n2 c2) e.Ya::aA dH cp M3 e.Yn::L) (oDTable B1 e::M):=(fa (Q:=Ge B1 e) ⟨A2,n2,c2,M3⟩).trans (iv _ k)
instance {B1:Nat}{e:VC}:LentQ (Ge B1 e) (F7 B1 e):=⟨.of fun x=>⟨x,t9 (fY (i:=0) rfl) (t9 (cM (i:=1) rfl) (t9 (mY (i:=2) rfl) aW))⟩⟩
structure XDWorld where
 A4:Option Addr
 n4:Nat
 c4:Nat
 A5:Option Addr
 n5:Nat
 c5:Nat
 A6:Option Addr
 n6:Nat
 c6:Nat
 deriving Inhabited
def wc (B1 B2 d:Nat)(e:VK)(x:XDWorld):V3:=[ab B1 85 [iV e.Yj.Yw,iV e.Yj.Yx,iV e.Yj.Yz,iV e.Ye.YD,iV e.Ye.Yy,iV e.Ye.Yq,iV e.Ye.YC,iV e.Ye.XS,iV e.Ye.YB,iV e.Ye.YE,.nilIface,pV B2 0,pV d 0,.slice x.A4 x.n4 x.c4,iV e.Yh,iV e.Yr,iV e.Ys,.slice x.A5 x.n5 x.c5,.slice x.A6 x.n6 x.c6],oDHeap B2 e.XX,oDTable d e.Ya,aK eS 9 (.slice x.A4 x.n4 x.c4) e.Yk,aK jE 319 (.slice x.A5 x.n5 x.c5) e.Yl,aK eS 9 (.slice x.A6 x.n6 x.c6) e.Ym]
def Bu (B1 B2 d:Nat)(e:VK)(x:XDWorld):V3:=[aQ B1 85 [iV e.Yj.Yw,iV e.Yj.Yx,iV e.Yj.Yz,iV e.Ye.YD,iV e.Ye.Yy,iV e.Ye.Yq,iV e.Ye.YC,iV e.Ye.XS,iV e.Ye.YB,iV e.Ye.YE,.nilIface,pV B2 0,pV d 0,.slice x.A4 x.n4 x.c4,iV e.Yh,iV e.Yr,iV e.Ys,.slice x.A5 x.n5 x.c5,.slice x.A6 x.n6 x.c6],pDHeap B2 e.XX,pDTable d e.Ya,aL eS (.slice x.A4 x.n4 x.c4) e.Yk,aL jE (.slice x.A5 x.n5 x.c5) e.Yl,aL eS (.slice x.A6 x.n6 x.c6) e.Ym]
@[reducible] def oDWorld (B1 B2 d:Nat)(e:VK):Chunk:=cP (wc B1 B2 d e)
@[reducible] def pDWorld (B1 B2 d:Nat)(e:VK):Chunk:=iO (Bu B1 B2 d e)
theorem Md {B1 d:Nat}{e:VK}{A4:Option Addr}{n4 c4:Nat}{A5:Option Addr}{n5 c5:Nat}{A6:Option Addr}{n6 c6:Nat}(k:Cv L M):Cv (ab B1 85 (cF e B2 d A4 n4 c4 A5 n5 c5 A6 n6 c6)::oDHeap B2 e.XX::oDTable d e.Ya::bi A4 n4 c4 e.Yk::cx A5 n5 c5 e.Yl::bi A6 n6 c6 e.Ym::L) (oDWorld B1 B2 d e::M):=(fa (Q:=wc B1 B2 d e) ⟨A4,n4,c4,A5,n5,c5,A6,n6,c6⟩).trans (iv _ k)
instance {B1 d:Nat}{e:VK}:LentQ (wc B1 B2 d e) (Bu B1 B2 d e):=⟨.of fun x=>⟨x,t9 (fY (i:=0) rfl) (t9 (qj (i:=1) rfl) (t9 (qj (i:=2) rfl) (t9 (cM (i:=3) rfl) (t9 (cM (i:=4) rfl) (t9 (cM (i:=5) rfl) aW)))))⟩⟩
instance {B1 d:Nat}{e:VK}:LentP (wc B1 B2 d e) (Gx B2 e.XX):=.sub 1 fun _=>rfl
instance {B1 d:Nat}{e:VK}:MemR (Bu B1 B2 d e) (pDHeap B2 e.XX):=⟨fun _=>W0 _ (List.mem_cons_self)⟩
@[reducible] def oDWorld_h1 (B1 B2 d:Nat)(e:VK):Chunk:=cP fun x:XDWorld=> [ab B1 85 [iV e.Yj.Yw,iV e.Yj.Yx,iV e.Yj.Yz,iV e.Ye.YD,iV e.Ye.Yy,iV e.Ye.Yq,iV e.Ye.YC,iV e.Ye.XS,iV e.Ye.YB,iV e.Ye.YE,.nilIface,pV B2 0,pV d 0,.slice x.A4 x.n4 x.c4,iV e.Yh,iV e.Yr,iV e.Ys,.slice x.A5 x.n5 x.c5,.slice x.A6 x.n6 x.c6],oDTable d e.Ya,aK eS 9 (.slice x.A4 x.n4 x.c4) e.Yk,aK jE 319 (.slice x.A5 x.n5 x.c5) e.Yl,aK eS 9 (.slice x.A6 x.n6 x.c6) e.Ym]
instance {B1 d:Nat}{e:VK}:LentP (wc B1 B2 d e) (F7 d e.Ya):=.sub 2 fun _=>rfl
instance {B1 d:Nat}{e:VK}:MemR (Bu B1 B2 d e) (pDTable d e.Ya):=⟨fun _=>W0 _ (W0 _ (List.mem_cons_self))⟩
instance:FcS V5 22 38:=⟨EM⟩
instance:FcS V5 40 48:=⟨Va⟩
instance:FcS V5 43 29:=⟨z9⟩
instance:FcS V5 53 55:=⟨Vb⟩
instance:FcS V5 72 34:=⟨Vc⟩
instance:FcS V5 99 3:=⟨Vd⟩
instance:FcS V5 123 45:=⟨Ve⟩
instance:FcS V5 156 159:=⟨Vf⟩
instance:FcS V5 174 123:=⟨Vg⟩
instance:RepF aag (fun x=> [iV x.YD,iV x.Yy,iV x.Yq,iV x.YC,iV x.XS,iV x.YB,iV x.YE]):=⟨fun _ _ _ _ h=>h⟩
instance:RepF ca (fun x=> [iV x.no,iV x.N,.string x.S]):=⟨fun _ _ _ _ h=>h⟩
instance:RepF fO (fun x=> [iV x.no,iV x.N,.string x.S]):=⟨fun _ _ _ _ h=>h⟩
instance:RepF cD (fun x=> [iV x.Up,iV x.XZ.no,iV x.XZ.N,.string x.XZ.S,iV x.XT,iV x.Yo]):=⟨fun _ _ _ _ h=>h⟩
instance:RepF acs (fun x=> [iV x.YG,iV x.YF.no,iV x.YF.N,.string x.YF.S,iV x.YH]):=⟨fun _ _ _ _ h=>h⟩
instance:RepF abF (fun x=> [iV x.Yw,iV x.Yx,iV x.Yz]):=⟨fun _ _ _ _ h=>h⟩
instance:RepF jE (fun x=> [iV x.no,iV x.XZ.no,iV x.XZ.N,.string x.XZ.S,.string x.S]):=⟨fun _ _ _ _ h=>h⟩
instance:RepF Nv (fun x=> [iV x.Has,iV x.XT,iV x.Value.no,iV x.Value.N,.string x.Value.S,iV x.Yc.no,iV x.Yc.N,.string x.Yc.S,iV x.Yd.no,iV x.Yd.N,.string x.Yd.S]):=⟨fun _ _ _ _ h=>h⟩
instance:RepF lq (fun x=> [iV x.no,iV x.O,iV x.P,iV x.K.no,iV x.K.N,.string x.K.S,iV x.D.Has,iV x.D.XT,iV x.D.Value.no,iV x.D.Value.N,.string x.D.Value.S,iV x.D.Yc.no,iV x.D.Yc.N,.string x.D.Yc.S,iV x.D.Yd.no,iV x.D.Yd.N,.string x.D.Yd.S,iV x.V.no,iV x.V.N,.string x.V.S,iV x.XT]):=⟨fun _ _ _ _ h=>h⟩
instance:RepF cI (fun x=> [iV x.XZ.no,iV x.XZ.N,.string x.XZ.S,iV x.XT,iV x.Value.no,iV x.Value.N,.string x.Value.S,iV x.Yc.no,iV x.Yc.N,.string x.Yc.S,iV x.Yd.no,iV x.Yd.N,.string x.Yd.S]):=⟨fun _ _ _ _ h=>h⟩
@[reducible] def oDWorld_h2 (B1 B2 d:Nat)(e:VK):Chunk:=cP fun x:XDWorld=> [ab B1 85 [iV e.Yj.Yw,iV e.Yj.Yx,iV e.Yj.Yz,iV e.Ye.YD,iV e.Ye.Yy,iV e.Ye.Yq,iV e.Ye.YC,iV e.Ye.XS,iV e.Ye.YB,iV e.Ye.YE,.nilIface,pV B2 0,pV d 0,.slice x.A4 x.n4 x.c4,iV e.Yh,iV e.Yr,iV e.Ys,.slice x.A5 x.n5 x.c5,.slice x.A6 x.n6 x.c6],oDHeap B2 e.XX,aK eS 9 (.slice x.A4 x.n4 x.c4) e.Yk,aK jE 319 (.slice x.A5 x.n5 x.c5) e.Yl,aK eS 9 (.slice x.A6 x.n6 x.c6) e.Ym]
theorem Ff {B1 d:Nat}{e:VK}:Cv (oDWorld B1 B2 d e::L) (oDTable d e.Ya::oDWorld_h2 B1 B2 d e::L):=abY fun x=>⟨x,(.trans (.swap _ _ _) (.cons _ (.trans (.swap _ _ _) (.cons _ (.refl _)))):List.Perm _ _).symm⟩
theorem E4 {B1 d:Nat}{e:VK}{z:VC}:Cv (oDTable d z::oDWorld_h2 B1 B2 d e::L) (oDWorld B1 B2 d (⟨e.Yj,e.Ye,(),e.XX,z,e.Yk,e.Yh,e.Yr,e.Ys,e.Yl,e.Ym⟩:VK)::L):=UL fun x=>⟨x,.trans (.swap _ _ _) (.cons _ (.trans (.swap _ _ _) (.cons _ (.refl _))))⟩
theorem il {R:ι->Value->V3->Prop}{Q:ι->V3}[Inhabited ι](k:Nat)(a:L[k]? =some (cP Q))(h:∀x,Okc P f args (L.take k++(Q x++L.drop (k+1))) (R x))(hr:∀x v post,R x v post-> ∃post',R' v post'/\Cv post post':=by
   intro x v post
   repeat (refine CK ?_;intro _)
   rintro ⟨rfl,rfl⟩;apply OB
   repeat (apply Exists.intro)
   exact ⟨J,J⟩
   all_goals (repeat (first|with_reducible exact ah _|apply MG|apply Mg|apply Md|apply iv))):Okc P f args L R':=adm k a h hr
theorem Hr (h:Okc P f args L R)(hr:∀v post,R v post-> ∃post',R' v post'/\Cv post post':=by
   intro v post
   repeat (refine CK ?_;intro _)
   rintro ⟨rfl,rfl⟩;apply OB
   repeat (apply Exists.intro)
   exact ⟨J,J⟩
   all_goals (repeat (first|with_reducible exact ah _|apply MG|apply Mg|apply Md|apply iv))):Okc P f args L R':=okN h hr
abbrev bw (x:VL)(A:Option Addr)(n c:Nat)(A2:Option Addr)(n2 c2:Nat):V4:=[iV x.no,iV x.XV,iV x.XU,iV x.XW,.slice A n c,Y A2 n2 c2]
def nJ (N:Nat)(a a1 a2:Int):Option Bool:=
 (bif decide (a1<=a) then (some (decide (a<=a2))) else (some false)).bind fun b1=>some b1
theorem pw {N:Nat}{a:Int}{r:Bool}(h:nJ N a a1 a2=some r):Okc V5 127 [iV a,iV a1,iV a2] ([]) (fun u p=>u=.bool r/\p=[]):=by
 refine av Tryz.func127 ?_;refine gS 4 14 10 h ?_;intro b1 h;exact eY
theorem pi {r:Bool}: ∀v post,((fun (u:Value) (post:V3)=>u=.bool r/\post=[])) v post-> ∀c∈post,bP c:=by
 rintro _ _ ⟨rfl,rfl⟩;exact aW
def Ja (a:VM):Option Bool:=
 (nJ N a.YD 0 1).bind fun f=>(bif f then ((nJ N a.Yy 0 1073741824).bind fun e=>some e) else (some false)).bind fun b3=>(bif b3 then ((nJ N a.Yq 1 200).bind fun d=>some d) else (some false)).bind fun n=>(bif n then ((nJ N a.YC 0 1048576).bind fun c=>some c) else (some false)).bind fun l=>(bif l then ((nJ N a.XS 0 1073741824).bind fun a6=>some a6) else (some false)).bind fun j=>(bif j then ((nJ N a.YB 0 1073741824).bind fun a8=>some a8) else (some false)).bind fun o=>(bif o then ((nJ N a.YE 0 4).bind fun m=>some m) else (some false)).bind fun i=>some i
theorem QG {N:Nat}{a:VM}{r:Bool}(h:Ja N a=some r):Okc V5 75 [(FH a)] ([]) (fun u p=>u=.bool r/\p=[]):=by
 refine av Tryz.func75 ?_;intro B1;refine aa ?_;obtain ⟨m,k,h⟩:=ad h;refine cV (jA (pw k) J J J (aW) pi) ?_;refine bF 5 13 8 h (fun _ f h=> ?_) fun b3 h=> ?_
 ·refine aa ?_;obtain ⟨l,k,h⟩:=ad h;refine gU (jA (pw k) J J J (aW) pi) (be f J) ?_;exact gY
 refine aa ?_;refine bF 5 19 14 h (fun _ e h=> ?_) fun B h=> ?_
 ·refine aa ?_;obtain ⟨j,k,h⟩:=ad h;refine gU (jA (pw k) J J J (aW) pi) (be e J) ?_;exact gY
 refine aa ?_;refine bF 5 25 20 h (fun _ d h=> ?_) fun z h=> ?_
 ·refine aa ?_;obtain ⟨i,k,h⟩:=ad h;refine gU (jA (pw k) J J J (aW) pi) (be d J) ?_;exact gY
 refine aa ?_;refine bF 5 31 26 h (fun _ c h=> ?_) fun t h=> ?_
 ·refine aa ?_;obtain ⟨C,k,h⟩:=ad h;refine gU (jA (pw k) J J J (aW) pi) (be c J) ?_;exact gY
 refine aa ?_;refine bF 5 37 32 h (fun _ a6 h=> ?_) fun A h=> ?_
 ·refine aa ?_;obtain ⟨q,k,h⟩:=ad h;refine gU (jA (pw k) J J J (aW) pi) (be a6 J) ?_;exact gY
 refine aa ?_;refine bF 5 43 38 h (fun _ a8 h=> ?_) fun o h=> ?_
 ·refine aa ?_;obtain ⟨n,k,h⟩:=ad h;refine gU (jA (pw k) J J J (aW) pi) (be a8 J) ?_;exact gY
 exact eY
def Jj (N:Nat):Option Vu:=
 some (⟨([]:VY)⟩:Vu)
theorem Rc {N:Nat}{r:Vu}(h:Jj N=some r):Okc V5 128 [] ([]) (fun u p=> ∃a l,u=pV a 0/\p=[ab a 186 [.map (some l)],aA ax aU l r.at_]):=by
 refine av Tryz.func128 ?_;refine gD (vq (ek:=ax) (ev:=aU)) ?_;rintro _ _ ⟨l,rfl,rfl⟩;refine aa ?_;intro B2;exact eY
def E3:Option Vz:=
 (Jj N).bind fun a=>some (⟨(⟨[],[]⟩:Vw),[],[],a⟩:Vz)
theorem RZ {N:Nat}{r:Vz}(h:E3 N=some r):Okc V5 76 [] ([]) (fun u p=> ∃d A1 e c1 A2 n2 c2 A3 n3 c3 A4 n4 c4 c a,u=pV d 0/\p=[ab d 128 [Y A1 e c1,Y A2 n2 c2,Y A3 n3 c3,Y A4 n4 c4,pV c 0],aC A1 e c1 r.m_.XS,aC A2 n2 c2 r.m_.XR,aj A3 n3 c3 r.Yb,aj A4 n4 c4 r.Yg,ab c 186 [.map (some a)],aA ax aU a r.Yf.at_]):=by
 refine av Tryz.func76 ?_;obtain ⟨f,k,h⟩:=ad h;refine gD (oR (Rc k)) ?_;rintro _ _ ⟨_,⟨B2,M3,rfl,rfl⟩,rfl⟩;refine bB fun i=> ?_
 obtain rfl:=bn h;exact dV J J ((ck dL 45 _).trans ((ck dL 45 _).trans ((ck ca 29 _).trans ((ck ca 29 _).trans (cS [4,3,2,1,0,5,6] 7))))) ⟨_,_,_,_,_,_,_,_,_,_,_,_,_,_,_,J,J⟩
theorem Q4 {N:Nat}{r:Vz}(h:E3 N=some r):Okc V5 76 [] ([]) (fun u p=> ∃a,u=pV a 0/\p=[oDHeap a r]):=Hr (RZ h)
def EQ (N:Nat):Option VC:=
 some (⟨([(⟨(-1),(⟨0,0,⟨#[]⟩⟩:Vy),0,0⟩:VI)]:List VI),([]:(List (VD×Int)))⟩:VC)
theorem RH {N:Nat}{r:VC}(h:EQ N=some r):Okc V5 77 [] ([]) (fun u p=> ∃c A1 e c1 a,u=pV c 0/\p=[ab c 191 [Y A1 e c1,.map (some a)],aK cD 159 (Y A1 e c1) r.Ya,aA dH cp a r.Yn]):=by
 refine av Tryz.func77 ?_;refine gD (cB (R:=cD) (vss:=[[iV (-1),iV 0,iV 0,.string (⟨#[]⟩),iV 0,iV 0]]) (xs:=[(⟨(-1),(⟨0,0,⟨#[]⟩⟩:Vy),0,0⟩:VI)]) J (Fm _ _ _ _ _ _) J J (fun _ _ hr=> .cons J All2.nil)) ?_;rintro _ _ ⟨A1,e,c1,rfl,rfl⟩;refine gD (vq (ek:=dH) (ev:=cp)) ?_;rintro _ _ ⟨a,rfl,rfl⟩;refine aa ?_;intro d;exact eY
theorem QQ {N:Nat}{r:VC}(h:EQ N=some r):Okc V5 77 [] ([]) (fun u p=> ∃a,u=pV a 0/\p=[oDTable a r]):=Hr (RH h)
def fJ (N:Nat)(a:Vz):Option Bool:=
 some false
theorem kI {N:Nat}{a:Vz}{r:Bool}(h:fJ N a=some r):Okc V5 66 [pV B1 0] ([aQ B1 128 [Y A2 n2 c2,Y A3 n3 c3,Y A4 n4 c4,Y A5 n5 c5,pV B6 0],aq A2 n2 c2 a.m_.XS,aq A3 n3 c3 a.m_.XR,ap A4 n4 c4 a.Yb,ap A5 n5 c5 a.Yg,aQ B6 186 [.map (some M7)],cK ax aU M7 a.Yf.at_]) (fun u p=>u=.bool r/\p=[]):=by
 refine av Tryz.func66 ?_;refine aJ (gC J Tryz.underlying60) ?_;refine aJ (gC J Vh) ?_;exact eN
theorem Dv {r:Bool}: ∀v post,((fun (u:Value) (post:V3)=>u=.bool r/\post=[])) v post-> ∀c∈post,bP c:=by
 rintro _ _ ⟨rfl,rfl⟩;exact aW
def jx (a:Vz)(a1:Int):Option VH:=
 (fJ N a).bind fun c=>(bif c then (some true) else (some (decide (a1<0)))).bind fun a6=>(bif a6 then (some true) else (some (decide ((a.Yb.length:Int)<=a1)))).bind fun a8=>bif a8 then (some (⟨0,0,⟨#[]⟩⟩:VH)) else ((ak a.Yb a1).bind fun d=>some d)
theorem Qa {N:Nat}{a:Vz}{r:VH}(h:jx N a a1=some r):Okc V5 53 [pV B1 0,iV a1] ([aQ B1 128 [Y A2 n2 c2,Y A3 n3 c3,Y A4 n4 c4,Y A5 n5 c5,pV B6 0],aq A2 n2 c2 a.m_.XS,aq A3 n3 c3 a.m_.XR,ap A4 n4 c4 a.Yb,ap A5 n5 c5 a.Yg,aQ B6 186 [.map (some M7)],cK ax aU M7 a.Yf.at_]) (fun u p=>u=(bS r)/\p=[]):=by
 refine av Tryz.func53 ?_;intro j;refine sY ?_;refine cR h (fun _ k=>kI k) fun c h=> ?_
 refine gS 3 10 7 h ?_;intro f h;refine aa ?_;refine gS 8 19 11 h ?_;intro e h;refine aG h ?_ ?_<;>intro h
 ·exact eY
 refine aa ?_;obtain ⟨d,a6,a8,i,h⟩:=aI h;exact eY
theorem qS {N:Nat}{a:Vz}{r:VH}(h:jx N a a1=some r):Okc V5 53 [pV B1 0,iV a1] ([pDHeap B1 a]) (fun u p=>u=(bS r)/\p=[]):=jR 0 rfl (fun _=>Qa h)
def uH (N:Nat){σ:Type}(a:(Bool×VH)->σ->Option (Bool×σ))(a1:VL):Nat->Int->σ->Option σ
 |0,_,_=>none
 |i+1,a6,c=>bif decide (a6<(a1.XP.length:Int)) then ((ak a1.XP a6).bind fun f=>(bif !decide (a1.no=8) then ((bif !decide (a1.no=10) then (some true) else (some (decide (a6.tmod 2=0)))).bind fun e=>some e) else (some false)).bind fun d=>(a (d,f) c).bind fun a8=>bif !a8.1 then (some a8.2) else (ae (in64 (a6+1)) ((uH N a a1 i) (a6+1) a8.2))) else (some c)
def Er (c:(Bool×VH)->σ->Option (Bool×σ))(a1:VL)(a:σ):Option σ:=
 uH N c a1 N 0 a
def rC (N:Nat){σ:Type}(c:(Bool×VH)->σ->Option (Bool×σ))(a1:VL):Nat->Int->σ->Option σ
 |0,_,_=>none
 |e+1,a,d=>bif decide (a<(a1.XQ.length:Int)) then ((ak a1.XQ a).bind fun a8=>(c (true,a8) d).bind fun a6=>bif !a6.1 then (some a6.2) else (ae (in64 (a+1)) ((rC N c a1 e) (a+1) a6.2))) else (Er N c a1 d)
def uY (a1:VL)(c:(Bool×VH)->σ->Option (Bool×σ))(a:σ):Option σ:=
 rC N c a1 N 0 a
theorem IF {N:Nat}{a1:VL}{d:(Bool×VH)->σ->Option (Bool×σ)}{o r:σ}(h:uY N a1 d o=some r){l:Nat}{c:σ->V3}(q:sI V5 l c (fun x=> [.bool x.1,.agg #[iV x.2.no,iV x.2.N,.string x.2.S]]) d):Okc V5 218 [.func (.yield l) #[] #[],pV B1 0] (aQ B1 45 (bw a1 A2 n2 c2 A3 n3 c3)::ap A2 n2 c2 a1.XQ::ap A3 n3 c3 a1.XP::(c o)) (fun u p=>u=.tuple #[]/\p=c r):=by
 refine gQ Tryz.func218 J J ?_;simp only [fe];refine aF (fun s L=> ∃i,Er N d a1 i=some r/\s=[(0,.func (.yield l) #[] #[]),(1,pV B1 0)]/\L=ap A2 n2 c2 a1.XQ::ap A3 n3 c3 a1.XP::aQ B1 45 (bw a1 A2 n2 c2 A3 n3 c3)::(c i)) ?_ ?_
 ·refine aa ?_;refine lK (fun m s L=> ∃(f:Int) (e:σ),rC N d a1 m f e=some r/\s=[(0,.func (.yield l) #[] #[]),(1,pV B1 0),(9,Y A2 n2 c2),(10,iV (a1.XQ.length:Int)),(11,iV f)]/\L=ap A2 n2 c2 a1.XQ::ap A3 n3 c3 a1.XP::aQ B1 45 (bw a1 A2 n2 c2 A3 n3 c3)::(c e)) N ?_;rintro C _ _ ⟨f,e,h,rfl,rfl⟩;rw [rC.eq_2] at h;refine aa ?_;refine aH ?_;refine gH J h ?_ ?_<;>intro h
  ·refine sY ?_;obtain ⟨a6,U,T,S,h⟩:=aI h;refine bB fun B=> ?_
   obtain ⟨O,k,h⟩:=ad h;refine gD (AL (a:=(true,a6)) [ab B 29 [iV a6.no,iV a6.N,.string a6.S],ap A2 n2 c2 a1.XQ,ap A3 n3 c3 a1.XP,aQ B1 45 (bw a1 A2 n2 c2 A3 n3 c3)] q k J J) ?_;rintro _ _ ⟨rfl,rfl⟩;refine aG h ?_ ?_<;>intro h
   ·exact eY
   refine aa ?_;obtain ⟨M,h⟩:=ai h;exact lY
  exact jY
 rintro _ _ ⟨i,h,rfl,rfl⟩;refine aa ?_;refine lK (fun m s L=> ∃(n:Int) (j:σ),uH N d a1 m n j=some r/\s=[(0,.func (.yield l) #[] #[]),(1,pV B1 0),(21,Y A3 n3 c3),(22,iV (a1.XP.length:Int)),(23,iV n)]/\L=ap A3 n3 c3 a1.XP::ap A2 n2 c2 a1.XQ::aQ B1 45 (bw a1 A2 n2 c2 A3 n3 c3)::(c j)) N ?_;rintro K _ _ ⟨n,j,h,rfl,rfl⟩;rw [uH.eq_2] at h;refine aa ?_;refine aH ?_;refine gH J h ?_ ?_<;>intro h
 ·refine sY ?_;obtain ⟨a8,R,Q,P,h⟩:=aI h;refine bB fun A=> ?_
  refine bF 9 40 31 h (fun _ H h=> ?_) fun z h=> ?_
  ·refine aa ?_;refine dJ 4 39 35 h (fun _ t h=> ?_) fun F h=> ?_
   ·refine aa ?_;refine bR (iz J J (by decide)) J (bY t J) J ?_;exact gY
   exact gY
  refine aa ?_;obtain ⟨E,k,h⟩:=ad h;refine gD (AL (a:=(z,a8)) [ab A 29 [iV a8.no,iV a8.N,.string a8.S],ap A3 n3 c3 a1.XP,ap A2 n2 c2 a1.XQ,aQ B1 45 (bw a1 A2 n2 c2 A3 n3 c3)] q k J J) ?_;rintro _ _ ⟨rfl,rfl⟩;refine aG h ?_ ?_<;>intro h
  ·exact eY
  refine aa ?_;obtain ⟨D,h⟩:=ai h;exact lY
 exact eY
def vy (N:Nat)(a:VL):Option Unit:=
 some ()
theorem JC {N:Nat}{a:VL}{r:Unit}(h:vy N a=some r):Okc V5 184 [.agg #[iV a.no,iV a.XV,iV a.XU,iV a.XW,Y A1 e c1,Y A2 n2 c2]] ([ap A1 e c1 a.XQ,ap A2 n2 c2 a.XP]) (fun u p=> ∃a6,u=.func (.func 218) #[] #[pV a6 0]/\p=[ab a6 45 (bw a A1 e c1 A2 n2 c2)]):=by
 refine av Tryz.func184 ?_;intro d;refine aa ?_;refine aJ (jZ J) ?_;exact eN
def vj (N:Nat)(a:VH)(a6:Bool):Option Bool:=
 bif a6 then (some (decide (1<=a.N))) else ((bif decide (a.N=0) then (some (decide (0<=a.no))) else (some false)).bind fun a8=>(bif a8 then (some (decide (a.no<=9))) else (some false)).bind fun c=>some c)
def Ap (a:VH):Option Bool:=
 bif decide (a.no=5) then ((bif decide (a.N=0) then (some (decide ((a.S.size:Int)<=65536))) else (some false)).bind fun b3=>some b3) else (bif !(a.S.toList==(⟨#[]⟩:ByteArray).toList) then (some false) else (bif decide (a.no=2) then ((bif decide (a.N=0) then (some true) else (some (decide (a.N=1)))).bind fun c=>some c) else (bif decide (a.no=3) then ((bif decide ((-9007199254740992)<=a.N) then (some (decide (a.N<=9007199254740992))) else (some false)).bind fun b8=>some b8) else (bif decide (a.no=6) then (vj N a (decide (a.no=6))) else (bif decide (a.no=7) then (vj N a (decide (a.no=7))) else (vj N a (decide (a.no=9))))))))
theorem RO {N:Nat}{a:VH}{r:Bool}(h:Ap N a=some r):Okc V5 185 [(bS a)] ([]) (fun u p=>u=.bool r/\p=[]):=by
 refine av Tryz.func185 ?_;intro B1;refine sY ?_;refine gH J h ?_ ?_<;>intro h
 ·refine aa ?_;refine bF 5 14 9 h (fun _ c h=> ?_) fun b3 h=> ?_
  ·refine aa ?_;refine bR (jD J Vi) J (be c J) J ?_;exact gY
  exact eY
 refine sY ?_;refine aJ (Me J J) ?_;refine gH J h ?_ ?_<;>intro h
 ·exact eY
 refine sY ?_;refine gH J h ?_ ?_<;>intro h
 ·refine aa ?_;refine gS 4 29 25 h ?_;intro d h;exact eY
 refine aG h ?_ ?_<;>intro h
 ·refine aa ?_;refine gS 4 39 35 h ?_;intro b8 h;exact eY
 refine aF (fun s L=> ∃a6,vj N a a6=some r/\s=[(1,pV B1 0),(2,.bool false),(40,.bool a6)]/\L=[ab B1 29 (ee a)]) ?_ ?_
 ·refine aG h ?_ ?_<;>intro h
  ·exact jY
  refine aG h ?_ ?_<;>intro h
  ·exact jY
  exact jY
 rintro _ _ ⟨a6,h,rfl,rfl⟩;refine gH J h ?_ ?_<;>intro h
 ·exact eY
 refine aa ?_;refine gS 4 54 50 h ?_;intro a8 h;refine aa ?_;refine gS 4 59 55 h ?_;intro e h;exact eY
def mQ (N:Nat)(a:Bool):Option Bool:=
 bif a then (some true) else (some false)
def Ak (a:Int):Option Bool:=
 bif decide (a=1) then (mQ N (decide (a=1))) else (bif decide (a=2) then (mQ N (decide (a=2))) else (bif decide (a=3) then (mQ N (decide (a=3))) else (bif decide (a=6) then (mQ N (decide (a=6))) else (bif decide (a=8) then (mQ N (decide (a=8))) else (bif decide (a=9) then (mQ N (decide (a=9))) else (mQ N (decide (a=10))))))))
theorem R5 {N:Nat}{a:Int}{r:Bool}(h:Ak N a=some r):Okc V5 219 [iV a] ([]) (fun u p=>u=.bool r/\p=[]):=by
 refine av Tryz.func219 ?_;refine sZ ?_;refine aF (fun s L=> ∃c,mQ N c=some r/\s=[(2,.bool false),(4,.bool c)]/\L=[]) ?_ ?_
 ·refine aG h ?_ ?_<;>intro h
  ·exact jY
  refine aG h ?_ ?_<;>intro h
  ·exact jY
  refine aG h ?_ ?_<;>intro h
  ·exact jY
  refine aG h ?_ ?_<;>intro h
  ·exact jY
  refine aG h ?_ ?_<;>intro h
  ·exact jY
  refine aG h ?_ ?_<;>intro h
  ·exact jY
  exact jY
 rintro _ _ ⟨c,h,rfl,rfl⟩;refine gH J h ?_ ?_<;>intro h
 ·exact eY
 exact eY
def nV (N:Nat)(a:VH)(a1:Int):Option Bool:=
 (bif decide (a.no=0) then (some true) else (some (decide (a.no=a1)))).bind fun b2=>some b2
theorem rE {N:Nat}{a:VH}{r:Bool}(h:nV N a a1=some r):Okc V5 220 [(bS a),iV a1] ([]) (fun u p=>u=.bool r/\p=[]):=by
 refine av Tryz.func220 ?_;intro B1;refine aa ?_;refine gS 5 13 8 h ?_;intro b2 h;exact eY
def uz (a:VL):Option Bool:=
 (Ak N a.no).bind fun c=>(bif c then (some true) else ((bif decide (a.no=7) then (some (decide (0<(a.XQ.length:Int)))) else (some false)).bind fun o=>some o)).bind fun p=>bif p then ((bif decide (1<=(a.XQ.length:Int)) then (some (decide ((a.XQ.length:Int)<=1025))) else (some false)).bind fun b8=>(bif b8 then ((ak a.XQ 0).bind fun a6=>(bif decide (a6.no=1) then (some true) else ((ak a.XQ 0).bind fun a8=>some (decide (a8.no=7)))).bind fun q=>some q) else (some false)).bind fun m=>some m) else (bif decide (a.no=7) then (some (decide (a.XV=0))) else ((bif !decide (a.XV=0) then (some true) else (some (!decide (a.XU=0)))).bind fun n=>bif n then (some false) else (bif decide (a.no=5) then ((bif decide ((a.XQ.length:Int)=2) then ((ak a.XQ 0).bind fun l=>(nV N l 7).bind fun j=>some j) else (some false)).bind fun i=>(bif i then ((ak a.XQ 1).bind fun f=>(nV N f 7).bind fun e=>some e) else (some false)).bind fun d=>some d) else (some (decide ((a.XQ.length:Int)=0))))))
theorem P0 {N:Nat}{a:VL}{r:Bool}(h:uz N a=some r):Okc V5 186 [.agg #[iV a.no,iV a.XV,iV a.XU,iV a.XW,Y A1 e c1,Y A2 n2 c2]] ([ap A1 e c1 a.XQ,ap A2 n2 c2 a.XP]) (fun u p=>u=.bool r/\p=[]):=by
 refine av Tryz.func186 ?_;intro d;refine sY ?_;refine cR h (fun _ k=>R5 k) fun l h=> ?_
 refine dJ 10 16 6 h (fun _ m h=> ?_) fun V h=> ?_
 ·refine aa ?_;refine gS 5 15 10 h ?_;intro U h;exact gY
 refine aG h ?_ ?_<;>intro h
 ·refine aa ?_;refine gS 5 26 21 h ?_;intro b8 h;refine aa ?_;refine bF 15 42 27 h (fun _ c h=> ?_) fun T h=> ?_
  ·refine aa ?_;obtain ⟨H,a6,a8,S,h⟩:=aI h;refine aa ?_;refine dF (iA 1 J bA J (toNat_lt a6 a8) oH) J (be c J) J ?_;refine aa ?_;refine dJ 7 41 34 h (fun _ f h=> ?_) fun F h=> ?_
   ·refine aa ?_;obtain ⟨E,j,i,R,h⟩:=aI h;refine aa ?_;refine dF (iA 1 J bA J (toNat_lt j i) oH) J (bY f J) J ?_;exact gY
   exact gY
  exact eY
 refine sY ?_;refine gH J h ?_ ?_<;>intro h
 ·exact eY
 refine sY ?_;refine gS 4 56 52 h ?_;intro D h;refine aG h ?_ ?_<;>intro h
 ·exact eY
 refine sY ?_;refine gH J h ?_ ?_<;>intro h
 ·refine aa ?_;refine bF 6 70 64 h (fun _ C h=> ?_) fun B h=> ?_
  ·refine aa ?_;obtain ⟨A,Q,P,O,h⟩:=aI h;refine cR h (fun _ k=>rE k) fun z h=> ?_
   exact gY
  refine aa ?_;refine bF 6 77 71 h (fun _ t h=> ?_) fun q h=> ?_
  ·refine aa ?_;obtain ⟨o,M,L,K,h⟩:=aI h;refine cR h (fun _ k=>rE k) fun n h=> ?_
   exact gY
  exact eY
 exact eY
def nT (N:Nat)(a:VH)(a1 a2:Int):Option Bool:=
 (bif decide (a.no=3) then (some (decide (a1<=a.N))) else (some false)).bind fun b2=>(bif b2 then (some (decide (a.N<=a2))) else (some false)).bind fun b3=>some b3
theorem rG {N:Nat}{a:VH}{r:Bool}(h:nT N a a1 a2=some r):Okc V5 221 [(bS a),iV a1,iV a2] ([]) (fun u p=>u=.bool r/\p=[]):=by
 refine av Tryz.func221 ?_;intro B1;refine aa ?_;refine gS 5 15 10 h ?_;intro b2 h;refine aa ?_;refine gS 5 21 16 h ?_;intro b3 h;exact eY
def rA (N:Nat){σ:Type}(d:VO->σ->Option (Bool×σ))(a1:VO)(a2:Int):Nat->Int->σ->Option σ
 |0,_,_=>none
 |e+1,a,c=>bif decide (a<(a1.length:Int)) then (ae ((0:Int)<=a/\a.toNat<=a1.length/\a1.length<=a1.length) (ae (in64 (a+(min a2 (((a1.drop a.toNat).take (a1.length - a.toNat)).length:Int)))) (ae (in64 (a+(min a2 (((a1.drop a.toNat).take (a1.length - a.toNat)).length:Int)))) (ae ((0:Int)<=a/\(0:Int)<=a+(min a2 (((a1.drop a.toNat).take (a1.length - a.toNat)).length:Int))/\a.toNat<=(a+(min a2 (((a1.drop a.toNat).take (a1.length - a.toNat)).length:Int))).toNat/\(a+(min a2 (((a1.drop a.toNat).take (a1.length - a.toNat)).length:Int))).toNat<=a1.length) ((d ((a1.drop a.toNat).take ((a+(min a2 (((a1.drop a.toNat).take (a1.length - a.toNat)).length:Int))).toNat - a.toNat)) c).bind fun a6=>bif !a6.1 then (some a6.2) else (ae (in64 (a+a2)) ((rA N d a1 a2 e) (a+a2) a6.2))))))) else (some c)
def Ef (a1:VO)(a2:Int)(c:VO->σ->Option (Bool×σ))(a:σ):Option σ:=
 rA N c a1 a2 N 0 a
theorem Qx {N:Nat}{a1:VO}{j:VO->σ->Option (Bool×σ)}{n r:σ}(h:Ef N a1 a2 j n=some r){l:Nat}{e:σ->V3}(A:vL V5 l e (fun (x:VO) vs cs=> ∃t o q,vs=[Y t o q]/\cs=[ap t o q x]) j):Okc V5 252 [.func (.yield l) #[] #[],pV B1 0,pV d 0] (aQ B1 43 [Y A2 n2 c2]::ap A2 n2 c2 a1::aQ d 3 [iV a2]::(e n)) (fun u p=>u=.tuple #[]/\p=e r):=by
 refine av Tryz.func252 ?_;refine lK (fun m s L=> ∃(c:Int) (i:σ),rA N j a1 a2 m c i=some r/\s=[(0,.func (.yield l) #[] #[]),(1,pV B1 0),(2,pV d 0),(4,iV c)]/\L=ap A2 n2 c2 a1::aQ B1 43 [Y A2 n2 c2]::aQ d 3 [iV a2]::(e i)) N ?_;rintro K _ _ ⟨c,i,h,rfl,rfl⟩;rw [rA.eq_2] at h;refine sZ ?_;refine gH J h ?_ ?_<;>intro h
 ·refine sY ?_;refine dY [0,1,2] ?_;obtain ⟨f,h⟩:=ai h;refine oM 0 J (l:=c.toNat) (h:=a1.length) f.2.1 f.2.2 ?_;rintro H z C B;refine zR 3 J (oJ 1 J B J z9 size29.out J (by rw [Wh f.1];rfl) f.2.1) ?_;refine zY [4] ?_;refine zE 5 J (acx J J Ex Ex) ?_;refine zX [6] ?_;refine aa ?_;obtain ⟨Q,h⟩:=ai h;refine aa ?_;obtain ⟨P,h⟩:=ai h;refine aa ?_;obtain ⟨a6,h⟩:=ai h;refine ack 1 J (l:=c.toNat) (h:=(c+(min a2 (((a1.drop c.toNat).take (a1.length - c.toNat)).length:Int))).toNat) a6.2.2.1 a6.2.2.2 ?_;rintro a8 F E D;refine gR (abl 2 J D J z9 size29.out J (by rw [Wh a6.1];rfl) (by rw [Wh a6.2.1];rfl) (by rw [Wh a6.2.1];rfl) a6.2.2.1 a6.2.2.2) ?_;obtain ⟨O,k,h⟩:=ad h;refine gD (Tg (a:=(a1.drop c.toNat).take ((c+(min a2 (((a1.drop c.toNat).take (a1.length - c.toNat)).length:Int))).toNat - c.toNat)) [ap a8 F E ((a1.drop c.toNat).take ((c+(min a2 (((a1.drop c.toNat).take (a1.length - c.toNat)).length:Int))).toNat - c.toNat)),ap H z C ((a1.drop c.toNat).take (a1.length - c.toNat)),ap A2 n2 c2 a1,aQ B1 43 [Y A2 n2 c2],aQ d 3 [iV a2]] A k J J ⟨_,_,_,J,J⟩ (Gq 0 J J)) ?_;rintro _ _ ⟨rfl,rfl⟩;refine aG h ?_ ?_<;>intro h
  ·exact eY
  refine aa ?_;obtain ⟨M,h⟩:=ai h;exact lY
 exact eY
def yd (N:Nat)(a:VO)(a1:Int):Option Unit:=
 bif decide (a1<1) then none else (some ())
theorem PS {N:Nat}{a:VO}{r:Unit}(h:yd N a a1=some r):Okc V5 241 [Y A1 e c1,iV a1] ([ap A1 e c1 a]) (fun u p=> ∃a6 a8,u=.func (.func 252) #[] #[pV a6 0,pV a8 0]/\p=[ab a6 43 [Y A1 e c1],ab a8 3 [iV a1]]):=by
 refine av Tryz.func241 ?_;intro B2;refine bB fun d=> ?_
 refine sZ ?_;refine gH J h ?_ ?_<;>intro h
 ·exact bO h
 refine aa ?_;refine aJ (jZ J) ?_;exact eN
end
