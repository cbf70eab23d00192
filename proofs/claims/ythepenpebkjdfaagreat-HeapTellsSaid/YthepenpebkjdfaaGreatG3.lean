/- Merged texts: part 3. No conditions of their own. -/
import Derived.Test.YthepenpebkjdfaaGreatG2
import Derived.Test.YthepenpebkjdfaaGreatChecked
import Derived.ProofKit
set_option maxHeartbeats 4000000
namespace Go.Proofs.YthepenpebkjdfaaGreat
section
theorem P5:type_of% Tryz.underlying43:=Tryz.underlying43
theorem P4:type_of% Tryz.underlying35:=Tryz.underlying35
theorem P3:type_of% Tryz.underlying37:=Tryz.underlying37
theorem P2:type_of% Tryz.underlying9:=Tryz.underlying9
theorem P1:type_of% Tryz.underlying53:=Tryz.underlying53
theorem P0:type_of% Tryz.underlying23:=Tryz.underlying23
theorem EM:type_of% Tryz.underlying106:=Tryz.underlying106
theorem Ex:type_of% Tryz.underlying82:=Tryz.underlying82
theorem z9:type_of% Tryz.underlying30:=Tryz.underlying30
theorem t9:type_of% Tryz.underlying27:=Tryz.underlying27
theorem t5:type_of% Tryz.underlying22:=Tryz.underlying22
variable {A1 A2 A3 A4 A5:Option Addr} {B1 B3 B6 M7 c1 c2 c3 c4 c5 n1 n2 n3 n4 n5:Nat}
open Go.RowKit
inductive FndL:Chunk->List Chunk->Prop
  |sl {α:Type} {R:Rep α} {v xs L}:FndL (o5 R v xs) (o5 R v xs::L)
  |so {α:Type} {R:Rep α} {e v xs L}:FndL (o5 R v xs) (eu R e v xs::L)
  |bb {b t cs L}:FndL (bu b t cs) (ah b t cs::L)
  |br {b:Nat} {t:TypeId} {cs L}:FndL (bu b t cs) (bu b t cs::L)
  |mm {α β:Type} {ek:α->Value} {ev:β->Value} {m kv L}:FndL (nB ek ev m kv) (bj ek ev m kv::L)
  |mr {α β:Type} {ek:α->Value} {ev:β->Value} {m kv L}:FndL (nB ek ev m kv) (nB ek ev m kv::L)
  |s {c d L} (h:FndL c L):FndL c (d::L)
theorem FndL.lent' {c:Chunk}{L:List Chunk}(h:FndL c L): ∃(i:Nat) (d:Chunk),L[i]? =some d/\ ∀(L':List Chunk) (j:Nat),L'[j]? =some d->Am L' c:=by
  induction h with
  |sl=>exact ⟨0,_,rfl,fun _ _ h=>aJ h rfl⟩
  |so=>exact ⟨0,_,rfl,fun _ _ h=>cM h⟩
  |bb=>exact ⟨0,_,rfl,fun _ _ h=>rW h⟩
  |br=>exact ⟨0,_,rfl,fun _ _ h=>aJ h rfl⟩
  |mm=>exact ⟨0,_,rfl,fun _ _ h=>zQ h⟩
  |mr=>exact ⟨0,_,rfl,fun _ _ h=>aJ h rfl⟩
  |s _ ih=>obtain ⟨i,d,h1,h2⟩:=ih;exact ⟨i+1,d,h1,h2⟩
theorem FndL.lent {c:Chunk}{L:List Chunk}(h:FndL c L):Am L c:=by
  obtain ⟨i,d,h1,h2⟩:=h.lent';exact h2 L i h1
def EJ (L pre:List Chunk):Prop:= ∀c∈pre,Am L c
theorem Po {L:List Chunk}:EJ L []:=ax
theorem Pp {L pre:List Chunk}{c:Chunk}(h:FndL c L)(k:EJ L pre):EJ L (c::pre):=hU h.lent k
theorem Og {L' L pre:List Chunk}(h:L'=L)(k:EJ L pre):EJ L' pre:=h▸k
theorem PA {α:Type}{p:α->Prop}{Q:Prop}(k: ∀a,p a->Q):(∃a,p a)->Q:=fun ⟨a,h⟩=>k a h
theorem PC {a b Q:Prop}(k:b->Q):a/\b->Q:=fun h=>k h.2
theorem Px {post C:List Chunk}(k: ∀c∈C,fu c):post=C-> ∀c∈post,fu c:=fun h=>h▸k
theorem Pz: ∀c∈([]:List Chunk),fu c:=ax
theorem Py {α:Type}{sz:Nat}{en:α->List Value}{h1: ∀x,(en x).length=sz}{h2: ∀x,(en x).all (·.oneCell')=true}{e:TypeId}{v:Value}{xs:List α}{l:List Chunk}(k: ∀c∈l,fu c): ∀c∈(eu (Rep.flat sz en h1 h2) e v xs::l),fu c:=hU gr k
theorem PB {b:Nat}{t:TypeId}{cs:List Value}{l:List Chunk}(k: ∀c∈l,fu c): ∀c∈(ah b t cs::l),fu c:=hU Dc k
inductive FndC (c:Chunk):List Chunk->List Chunk->Prop
  |w {L}:FndC c (c::L) L
  |s {d L M} (h:FndC c L M):FndC c (d::L) (d::M)
theorem LO {c d:Chunk}{L:List Chunk}:Cv (c::d::L) (d::c::L):=Dj [1,0] 2 rfl rfl
theorem FndC.cv {c:Chunk}{L M:List Chunk}(h:FndC c L M):Cv L (c::M):=by
  induction h with
  |w=>exact ab _
  |s _ ih=>exact (tg _ ih).trans LO
inductive FndD (c:Chunk):List Chunk->Prop
  |w {L}:FndD c (c::L)
  |s {d L} (h:FndD c L):FndD c (d::L)
theorem FndD.cv {c:Chunk}{L:List Chunk}(h:FndD c L)(hc:c.ro=true):Cv L (c::L):=by
  obtain ⟨i,hi⟩: ∃i:Nat,L[i]? =some c:=by
    induction h with
    |w=>exact ⟨0,rfl⟩
    |s _ ih=>obtain ⟨i,h⟩:=ih;exact ⟨i+1,h⟩
  exact fc i hi hc
def Tk (L pre rest:List Chunk):Prop:=Cv L (pre++rest)
theorem O9 {L:List Chunk}:Tk L [] L:=ab _
theorem Pa {c:Chunk}{L M pre rest:List Chunk}(h:FndC c L M)(k:Tk M pre rest):Tk L (c::pre) rest:=h.cv.trans (tg c k)
theorem OJ {c:Chunk}{L pre rest:List Chunk}(h:FndD c L)(hc:c.ro=true)(k:Tk L pre rest):Tk L (c::pre) rest:=(h.cv hc).trans (tg c k)
theorem O8 {α:Type}{R:Rep α}{v:Value}{xs:List α}{L pre rest:List Chunk}(h:FndD (o5 R v xs) L)(k:Tk L pre rest):Tk L (o5 R v xs::pre) rest:=OJ h rfl k
theorem Pb {b:Nat}{t:TypeId}{cs:List Value}{L pre rest:List Chunk}(h:FndD (bu b t cs) L)(k:Tk L pre rest):Tk L (bu b t cs::pre) rest:=OJ h rfl k
theorem N7 {L' L pre rest:List Chunk}(h:L'=L)(k:Tk L pre rest):Tk L' pre rest:=h▸k
class FcK (P:Program) (f:FuncId):Prop where
  out:jU P f
section
variable {P:Program} {s:ca} {L:List Chunk} {d:Option Nat} {ty:TypeId} {pos:String} {af:Array Edge} {gd:Option (Nat×Bool)}
theorem oR {f:FuncId}{xs:List Operand}{ats:Array TypeId}{vs:List Value}{pre:List Chunk}{R:Value->List Chunk->Prop}(hc:Okc P f vs pre R)[hf:FcK P f](hv:FB s xs=some vs:=by exact rfl)
    (hp:EJ L pre:=by
      apply Og (by repeat (first|exact r9 rfl|apply oT rfl|exact rfl))
      repeat (first|exact Po|apply Pp (by with_reducible repeat (first|apply FndL.bb|apply FndL.br|apply FndL.sl|apply FndL.so|apply FndL.mm|apply FndL.mr|apply FndL.s))|apply leZ))
    (hr: ∀v post,R v post-> ∀c∈post,fu c:=by
      intro v post
      repeat (first|(refine PA ?_;intro _)|refine PC ?_)
      refine Px ?_
      repeat (first|exact Pz|refine PB ?_|refine frM ?_|refine Py ?_)):OpX P s L ⟨d,.call ⟨.value (.func f),xs.toArray,ats⟩,ty,pos,af,gd⟩ fun u L'=> ∃post,R u post/\L'=post++L:=ba hc hf.out hv hp hr
theorem oC {f:FuncId}{xs:List Operand}{ats:Array TypeId}{vs:List Value}{pre rest:List Chunk}{R:Value->List Chunk->Prop}(hc:Okc P f vs pre R)[hf:FcK P f](hv:FB s xs=some vs:=by exact rfl)
    (hp:Tk L pre rest:=by
      apply N7 (by repeat (first|exact r9 rfl|apply oT rfl|exact rfl))
      repeat (first|exact O9|apply O8 (by with_reducible repeat (first|apply FndD.w|apply FndD.s))|apply Pb (by with_reducible repeat (first|apply FndD.w|apply FndD.s))|apply tkM (by with_reducible repeat (first|apply FndD.w|apply FndD.s))|apply Pa (by with_reducible repeat (first|apply FndC.w|apply FndC.s)))):OpX P s L ⟨d,.call ⟨.value (.func f),xs.toArray,ats⟩,ty,pos,af,gd⟩ fun u L'=> ∃post,R u post/\L'=post++rest:=gz hc hf.out hv hp
end
inductive FndX (b:Nat) (bt:TypeId) (cs:List Value):List Chunk->Prop
  |w {L}:FndX b bt cs (ah b bt cs::L)
  |s {c L} (h:FndX b bt cs L):FndX b bt cs (c::L)
theorem FndX.ix {b bt:Nat}{cs:List Value}{L:List Chunk}(h:FndX b bt cs L): ∃i:Nat,L[i]? =some (ah b bt cs):=by
  induction h with
  |w=>exact ⟨0,rfl⟩
  |s _ ih=>obtain ⟨i,h⟩:=ih;exact ⟨i+1,h⟩
theorem aN {P:Program}{L:List Chunk}{s:ca}:All2 (t6 P L s) [] []:=.nil
theorem aT {P:Program}{L:List Chunk}{s:ca}{t:Nat}{v:Value}{rs:List ResultVar}{vs:List Value}(h:jv s t=some v)(k:All2 (t6 P L s) rs vs):All2 (t6 P L s) (.tmp t::rs) (v::vs):=.cons (iu h) k
theorem aS {P:Program}{L:List Chunk}{s:ca}{t ty n bt b:Nat}{cs us:List Value}{rs:List ResultVar}{vs:List Value}(hu:FcG P ty n)(hl:jv s t=some (.pointer (some ⟨b,0,none⟩)))(hi:FndX b bt cs L)(hc:cs=us)(hn:us.length=n)(k:All2 (t6 P L s) rs vs):All2 (t6 P L s) (.cell t ty::rs) (.agg us.toArray::vs):=by
  obtain ⟨i,hi⟩:=hi.ix;subst hc;exact .cons (bd i hi hl (hn▸hu.out)) k
theorem aO {P:Program}{L:List Chunk}{s:ca}{t ty bt b:Nat}{v:Value}{rs:List ResultVar}{vs:List Value}(hu:Fc (ju P ty=true))(hl:jv s t=some (.pointer (some ⟨b,0,none⟩)))(hi:FndX b bt [v] L)(k:All2 (t6 P L s) rs vs):All2 (t6 P L s) (.cell t ty::rs) (v::vs):=by
  obtain ⟨i,hi⟩:=hi.ix;exact .cons (EX i hi hl hu.out) k
theorem LQ {L' L T:List Chunk}(h:L'=L)(k:Cv L T):Cv L' T:=h▸k
theorem NX {c:Chunk}{L T:List Chunk}(k:Cv L T):Cv (c::L) T:=(cv_tl).trans k
theorem NV {L:List Chunk}:Cv L []:=fun Z w h=>by
  have:=(Dj (L:=L) [] L.length (by simp [DK]) (by simp)) Z w h;simpa [BF] using this
theorem NW {c:Chunk}{L M L2:List Chunk}(h:FndC c L M)(k:Cv M L2):Cv L (c::L2):=h.cv.trans (tg c k)
theorem NU {α:Type}{R:Rep α}{v:Value}{xs:List α}{L L2:List Chunk}(h:FndD (o5 R v xs) L)(k:Cv L L2):Cv L (o5 R v xs::L2):=(h.cv rfl).trans (tg _ k)
theorem Ov {X:Cx}{fn:Func}{R:Value->List Chunk->Prop}{s:ca}{L L2:List Chunk}{rs:List ResultVar}{vs:List Value}{v:Value}(hr:fn.results=rs.toArray)(h1:All2 (t6 X.P L s) rs vs)(hv:N4 vs=v)(hR:R v L2)(hc:Cv L L2):Jw X fn R .ret s L:=dt hr h1 hv hc hR
theorem eN {p:Prop}(hh:p:=by
    obtain rfl:=bw h
    first|apply Ov rfl|apply endN rfl
    repeat (first|exact aN|apply aT rfl|apply aS (by infer_instance) rfl (by with_reducible repeat (first|apply FndX.w|apply FndX.s)) (by repeat (first|exact yI rfl|apply vh rfl)) (by exact rfl)|apply aO (by infer_instance) rfl (by with_reducible repeat (first|apply FndX.w|apply FndX.s)))
    exact J
    repeat (apply Exists.intro)
    exact ⟨J,J⟩
    all_goals (try apply LQ (by repeat (first|exact r9 rfl|apply oT rfl|exact rfl)))
    all_goals (repeat (first|exact NV|apply NU (by with_reducible repeat (first|apply FndD.w|apply FndD.s))|apply NW (by with_reducible repeat (first|apply FndC.w|apply FndC.s))|apply cwF (by with_reducible repeat (first|apply FndC.w|apply FndC.s))|apply cwZ|apply cwY|exact ab _|apply NX))):p:=hh
theorem Pq {Fam:ca->List Chunk->Prop}{s s2:ca}{L L2:List Chunk}(h:Fam s2 L2)(hs:An s s2)(hc:Cv L L2): ∃s2 L2,Fam s2 L2/\An s s2/\Cv L L2:=⟨s2,L2,h,hs,hc⟩
theorem jN {p:Prop}(hh:p:=by
    apply Pq
    repeat (apply Exists.intro)
    exact ⟨h,J,J⟩
    all_goals (try exact sA)
    all_goals (try apply LQ (by repeat (first|exact r9 rfl|apply oT rfl|exact rfl)))
    all_goals (repeat (first|exact NV|apply NU (by with_reducible repeat (first|apply FndD.w|apply FndD.s))|apply NW (by with_reducible repeat (first|apply FndC.w|apply FndC.s))|apply cwF (by with_reducible repeat (first|apply FndC.w|apply FndC.s))|apply cwZ|apply cwY|exact ab _|apply NX))):p:=hh
theorem Pn {Fam:Nat->ca->List Chunk->Prop}{m:Nat}{s s2:ca}{L L2:List Chunk}(h:Fam m s2 L2)(hs:An s s2)(hc:Cv L L2): ∃m' s3 L3,m'<m+1/\Fam m' s3 L3/\An s s3/\Cv L L3:=⟨m,s2,L2,Qu _,h,hs,hc⟩
theorem lN {p:Prop}(hh:p:=by
    apply Pn
    repeat (apply Exists.intro)
    exact ⟨h,J,J⟩
    all_goals (try exact sA)
    all_goals (try apply LQ (by repeat (first|exact r9 rfl|apply oT rfl|exact rfl)))
    all_goals (repeat (first|exact NV|apply NU (by with_reducible repeat (first|apply FndD.w|apply FndD.s))|apply NW (by with_reducible repeat (first|apply FndC.w|apply FndC.s))|apply cwF (by with_reducible repeat (first|apply FndC.w|apply FndC.s))|apply cwZ|apply cwY|exact ab _|apply NX))):p:=hh
instance repInt {k:IntKind}:RepF (da k) (fun x=> [.int k x]):=⟨fun _ _ _ _ h=>h⟩
instance repBool:RepF zh (fun x=> [.bool x]):=⟨fun _ _ _ _ h=>h⟩
section
variable {P:Program} {s:ca} {L:List Chunk} {d:Nat} {ty:TypeId} {pos:String} {af:Array Edge} {gd:Option (Nat×Bool)} {v:Value}
theorem OZ {α:Type}{R:Rep α}{t e:TypeId}{x:Operand}{xs:List α}[hu:FcS P t e](hx:cg s x=some v)(he:FndE R v xs L):RdS P s L ⟨some d,.call ⟨.builtin .len, #[x], #[t]⟩,ty,pos,af,gd⟩ (.int .i64 (xs.length:Int)):=⟨by
  obtain ⟨j,c,h,e⟩:=he.ix
  exact cC j h e hx hu.out⟩
theorem N2 {t u:TypeId}{x y:Operand}{a b:Int}(hx:cg s x=some (.int .i64 a))(hy:cg s y=some (.int .i64 b))(h:in64 (a+b)):RdS P s L ⟨some d,.binOp .add t x y u,ty,pos,af,gd⟩ (.int .i64 (a+b)):=⟨fun _ _ _=>cr hx hy h.1 h.2⟩
theorem N0 {t u:TypeId}{x y:Operand}{a b:Int}(hx:cg s x=some (.int .i64 a))(hy:cg s y=some (.int .i64 b))(h:in64 (a - b)):RdS P s L ⟨some d,.binOp .sub t x y u,ty,pos,af,gd⟩ (.int .i64 (a - b)):=⟨fun _ _ _=>tL hx hy h.1 h.2⟩
theorem OV {x:Operand}{i:Nat}{vs:Array Value}(hx:cg s x=some (.tuple vs))(hi:vs.toList[i]? =some v):RdS P s L ⟨some d,.extract x i,ty,pos,af,gd⟩ v:=⟨fun _ _ _=>au hx (by simpa using hi)⟩
theorem OH {op:Op}(h:RdS P s L ⟨some d,op,ty,pos,af,gd⟩ v:=by
  first
    |exact OV rfl rfl
    |exact O4 rfl
    |exact N1 rfl
    |exact O3 rfl
    |exact O6 rfl (by with_reducible repeat (first|apply FndR.w|apply FndR.r|apply FndR.s)) (by exact rfl)
    |exact OW rfl (by with_reducible repeat (first|apply FndR.w|apply FndR.r|apply FndR.s)) (by repeat (first|exact yI rfl|apply vh rfl)) (by exact rfl)
    |exact O5 (by repeat (first|exact Ot|apply Ou rfl)) (by infer_instance)
    |exact OZ rfl (by with_reducible repeat (first|apply FndE.w ao|apply FndE.w ap|apply FndE.s))
    |exact O0 rfl rfl (by with_reducible repeat (first|apply FndE.w ao|apply FndE.w ap|apply FndE.s)) (by assumption) (by assumption)
    |exact O2 rfl (by with_reducible repeat (first|apply FndE.w ao|apply FndE.w ap|apply FndE.s)) (by infer_instance) (by assumption) (by exact rfl) (by repeat (first|exact yI rfl|apply vh rfl)) (by exact rfl)
    |exact O1 rfl (by with_reducible repeat (first|apply FndE.w ao|apply FndE.w ap|apply FndE.s)) (by infer_instance) (by assumption) (by exact rfl) (by exact rfl)
    |exact N2 rfl rfl (by assumption)
    |exact N0 rfl rfl (by assumption)
    |exact OY rfl (by assumption) rfl
    |exact OX rfl (by assumption) rfl):RdS P s L ⟨some d,op,ty,pos,af,gd⟩ v:=h
end
section
variable {X:Cx} {ops:Array Oper} {K:K3} {s:ca} {L:List Chunk} {l:List Oper} {d:Nat} {ty:TypeId} {pos:String} {af:Array Edge} {gd:Option (Nat×Bool)}
theorem Pu {A B:List Chunk}(h:cm X ops l K s (A++B)):cm X ops l K s (A++B):=h
theorem Ps {A:List Chunk}{c:Chunk}{i:Nat}(h:cm X ops l K s (A.set i c)):cm X ops l K s (A.set i c):=h
theorem Oi {A:List Chunk}{c:Chunk}{i:Nat}{y:Code}(h:Wq X y K s (A.set i c)):Wq X y K s (A.set i c):=h
theorem Pt {A B:List Chunk}{c:Code}(h:Wq X c K s (A++B)):Wq X c K s (A++B):=h
end
theorem ae {p q:Prop}(k:q)(h:Bxd q->p:=by
  intro k
  repeat (first
    | (with_reducible first|refine Pu ?_|refine Ps ?_
       refine eh ?_)
    | (with_reducible refine Nt ?_
       refine On J ?_
       first
         | (refine N5 ?_
            first
              |refine tR OH rfl rfl ?_
              |refine tW rfl rfl (by repeat (first|exact yI rfl|apply vh rfl)) (by with_reducible repeat (first|apply FndW.w|apply FndW.s)) (by repeat (first|exact yI rfl|apply vh rfl)) (by exact rfl) (by exact rfl) (by exact rfl) ?_
              |refine tA (by repeat (first|exact yI rfl|apply vh rfl)) rfl ?_
              |refine tX rfl (by repeat (first|exact yI rfl|apply vh rfl)) rfl ?_)
         |refine N6 ?_)
    | (with_reducible refine Nt ?_
       fail_if_success with_reducible refine Ol ?_
       refine Oj J ?_)
    | (with_reducible first|refine Pt ?_|refine Oi ?_
       refine Md ?_)
    | (with_reducible refine Oh ?_
       first
         |refine ay (oZ ?_)
         |with_reducible refine oZ ?_
         |with_reducible refine Hy ?_
         | (fail_if_success with_reducible refine Om ?_
            with_reducible refine nA ?_)
         |with_reducible refine KW ?_
         |with_reducible refine Hz ?_)
    | (with_reducible refine Pr ?_
       first
         |refine tZ _ rfl rfl OH I (by exact rfl) (by exact rfl) ?_
         |refine tU _ rfl rfl (by exact rfl) I (by exact rfl) ?_
         |refine tN I ?_)
    |with_reducible refine wF ?_
    |with_reducible refine LV ?_
    |with_reducible refine Ng ?_
    |with_reducible refine Nf ?_
    |with_reducible refine MI ?_
    |with_reducible refine MJ ?_)
  exact k.un):p:=h ⟨k⟩
structure CvA (L L2:List Chunk):Prop where
  out:Cv L L2
theorem cX {L L2:List Chunk}(h:CvA L L2:=by
    refine CvA.mk ?_;apply LQ (by repeat (first|exact r9 rfl|apply oT rfl|exact rfl))
    repeat (first|exact NV|apply NU (by with_reducible repeat (first|apply FndD.w|apply FndD.s))|apply NW (by with_reducible repeat (first|apply FndC.w|apply FndC.s))|apply cwF (by with_reducible repeat (first|apply FndC.w|apply FndC.s))|apply cwZ|apply cwY|exact ab _|apply NX)):Cv L L2:=h.out
theorem gJ {X:Cx}{ops:Array Oper}{s s2:ca}{L L2:List Chunk}{pd:Nat}{a b:Bool}(h:some a=some b)(hs:An s ((pd,.bool a)::s2):=by exact sA)(hl:Cv L L2:=by exact cX):cm X ops [] (Bz ((pd,.bool b)::s2) L2) s L:=by
  cases h;exact cH hs hl
theorem gS {ρ:Type}{X:Cx}{ops:Array Oper}{K:K3}{s:ca}{L:List Chunk}{l:List Oper}(k pd gc:Nat){c:Bool}{u v:Option Bool}{f:Bool->Option ρ}{r:ρ}(h:(bif c then u else v).bind f=some r)(k2: ∀b,f b=some r->cm X ops (l.drop k) K ((pd,.bool b)::s) L)
    (hc:cg s (.tmp gc)=some (.bool c):=by exact rfl)
    (h1: ∀b,c=true->u=some b->cm X ops (l.take k) (Bz ((pd,.bool b)::s) L) s L:=by
      intro b g h;refine ae ?_
      exact gJ h)
    (h2: ∀b,c=false->v=some b->cm X ops (l.take k) (Bz ((pd,.bool b)::s) L) s L:=by
      intro b g h;refine ae ?_
      exact gJ h):cm X ops l K s L:=by
  obtain ⟨b,hb,h⟩:=aa h;refine aQ k pd b ?_ (k2 b h)
  cases hg:c with
  |true=>exact h1 b hg (aE hg hb)
  |false=>exact h2 b hg (aF hg hb)
end
section
variable {A1 A2 A3 A4 A5:Option Addr} {B1 B3 B6 M7 c1 c2 c3 c4 c5 n1 n2 n3 n4 n5:Nat}
open Go.RowKit
theorem KE {α:Type}{R:Rep α}{e:TypeId}{v:Value}{xs:List α}{L:List Chunk}(i:Nat)(hi:L[i]? =some (eu R e v xs)):Cv L (L.set i (ga R e v xs v xs.length)):=fun Z w h=>by
 have h1:=h.weak (bO hi) (d:=ga R e v xs v xs.length) fun T S ⟨vss,h1,h2⟩=>by
  refine ⟨vss,h1,h2,Nat.le_refl _,?_⟩;rcases h2 with ⟨h2,h3⟩|⟨h0,A,rfl⟩
  ·rcases h2.2 with ⟨rfl,h0⟩|⟨g,cap,cur,rfl,g1,g2,g3,g4,g5,g6⟩
   ·exact ⟨none,0,by rw [h0],by omega,by omega,fun h=>absurd h U⟩
   refine ⟨_,cap,J,g3,by unfold maxLen at g4;omega,fun _=>⟨g,rfl,h3 g rfl,Blk.lt (t:=e) (cs:=cur) g2,?_⟩⟩;rw [List.take_of_length_le (by rw [h1.length];exact Nat.le_refl _)];exact lb (cap:=cap) g2 g6
  exact ⟨A,0,by rw [h0],by omega,by omega,fun h=>absurd h U⟩
 rw [nN Z hi] at h1;exact h1
theorem KC {α:Type}{R:Rep α}{e:TypeId}{v vw:Value}{xs:List α}{k:Nat}{L:List Chunk}(i:Nat)(hi:L[i]? =some (ga R e v xs vw k)):Cv L (L.set i (o5 R vw (List.take k xs))):=fun Z w h=>by
 have h1:=SepL.frz h (bO hi) (d:=o5 R vw (List.take k xs)) fun T S ⟨vss,h1,_,h3,A,cv,h4,h7,h5,h6⟩=>by
  have hl:(xs.take k).length=k:=by rw [QD];omega
  show SlR R _ w _ _;refine ⟨A,cv,by rw [hl];exact h4,by omega,h5,fun h0=> ?_⟩;rw [hl] at h0;obtain ⟨b,g1,g2,g3,g4⟩:=h6 h0;exact ⟨b,0,vss.take k,g1,.inr g2,g3,(h1.imp fun _ _=>R.mono fun _=> .inl).take k,g4⟩
 rw [nN Z hi] at h1;exact h1
def Nv:Chunk where
 ok _ _ _:=True
 loc:=fun _ h=>h
 mono:=fun _ h=>h
 ro:=true
 dup:=fun _ _ _ _ h=>h
section
variable {P:Program} {s:ca} {L:List Chunk} {d:Option Nat} {ty:TypeId} {pos:String} {af:Array Edge} {gd:Option (Nat×Bool)}
theorem vb {t e:TypeId}{ps:List (Nat×Operand)}{vs:List (Nat×Value)}(hp:Ib s ps=some vs)(hr: ∀w,(Instr.buildSlice t 0 vs.toArray).run P w=.ok (.slice (some ⟨w.heap.size,0,none⟩) 0 0) (w.alloc (.cells ([]:List (List Value)).flatten.toArray e))):OpX P s L ⟨d,.buildSlice t 0 ps.toArray,ty,pos,af,gd⟩ fun u L'=> ∃A,u=.slice A 0 0/\L'=L:=fun ρ hρ Z w hw=>by
 have hx:Ext w (w.alloc (.cells ([]:List (List Value)).flatten.toArray e)):=(Ext.refl w).alloc _;refine .inl ⟨.slice (some ⟨w.heap.size,0,none⟩) 0 0,w.alloc (.cells ([]:List (List Value)).flatten.toArray e),L,?_,?_,some ⟨w.heap.size,0,none⟩,J,J⟩
 ·unfold execOp;simp only [List.map_toArray,z8 hρ hp,Sem.run_bind,hr,Result.andThen_ok];rfl
 exact cv_tl (c:=Nv) Z _ (SepL.new (c:=Nv) hw (Agr.of_ext hx) fun T S h=>⟨fun _=>False,fun q hq=>hq.elim,trivial⟩)
end
end
section
variable {A1 A2 A3 A4 A5:Option Addr} {B1 B3 B6 M7 c1 c2 c3 c4 c5 n1 n2 n3 n4 n5:Nat}
open Go.RowKit
theorem aU {α ρ:Type}{xs:List α}{i:Int}{f:α->Option ρ}{r:ρ}(h:(aw xs i).bind f=some r): ∃x,0<=i/\i<xs.length/\xs[i.toNat]? =some x/\f x=some r:=by
  obtain ⟨x,hx,h⟩:=aa h;obtain ⟨l,u,hx⟩:=Jg hx;exact ⟨x,l,u,hx,h⟩
theorem cQ {P:Program}{fn:Func}{R:Value->List Chunk->Prop}{f:FuncId}{c:Code}{args:List Value}{L:List Chunk}{q:Prop}(hf:P.funcs[f]? =some fn)(k:q)(hb:fn.body=some c:=by exact rfl)(hn:Nat.ble args.length fn.ntmps=true:=by exact rfl)
    (h:Bxd q->Wq ⟨P,fn.ntmps,none⟩ c (Jw ⟨P,fn.ntmps,none⟩ fn R) (jr args 0) L:=by
      intro k;simp only [jr];refine ae ?_
      exact k.un):Okc P f args L R:=rQ hf hb hn (h ⟨k⟩)
theorem eY {p:Prop}(hh:p:=by
    refine ae ?_
    exact eN):p:=hh
theorem jY {p:Prop}(hh:p:=by
    refine ae ?_
    exact jN):p:=hh
theorem lY {p:Prop}(hh:p:=by
    refine ae ?_
    exact lN):p:=hh
theorem gY {p:Prop}(hh:p:=by
    refine ae ?_
    exact gJ h):p:=hh
theorem gg {p:Prop}{q:Nat->Prop}(k: ∀b,q b)(h:(∀b,Bxd (q b))->p:=by
    intro k;refine ae ?_;intro b;refine ae ?_
    exact (k b).un):p:=h fun b=>⟨k b⟩
theorem sY {p q:Prop}(k:q)(h:Bxd q->p:=by
    intro k;refine ae ?_;refine ay ?_;refine ae ?_
    exact k.un):p:=h ⟨k⟩
theorem sZ {p q:Prop}(k:q)(h:Bxd q->p:=by
    intro k;refine ay ?_;refine ae ?_
    exact k.un):p:=h ⟨k⟩
section
variable {X:Cx} {K:K3} {s:ca} {L:List Chunk}
theorem ew {p:Prop}{ρ:Type}{c:Operand}{x y:Code}{b:Bool}{u v:Option ρ}{r:Option ρ}(h:(bif b then u else v)=r)(ht:u=r->Wq X x K s L)(hf:v=r->Wq X y K s L)(h0:Bxd (Wq X (.cond c x y) K s L)->p:=by
      intro k;refine ae ?_
      exact k.un) (hc:cg s c=some (.bool b):=by exact rfl):p:=h0 ⟨gH hc h ht hf⟩
variable {ops:Array Oper} {rest:List Oper} {d:Nat} {op:Op} {ty:TypeId} {pos:String} {af:Array Edge} {gd:Option (Nat×Bool)} {q:Prop}
theorem zX {v:Value}(h:Rd X.P s L ⟨some d,op,ty,pos,af,gd⟩ v)(k:q)(hr:Bxd q->cm X ops rest K ((d,v)::s) L:=by
      intro k;refine ae ?_
      exact k.un) (hn:gA ⟨some d,op,ty,pos,af,gd⟩=true:=by rfl) (hg:bE ops s ⟨some d,op,ty,pos,af,gd⟩=some true:=by rfl) (hd:Nat.ble (d+1) X.n=true:=by rfl):cm X ops (⟨some d,op,ty,pos,af,gd⟩::rest) K s L:=gR h (hr ⟨k⟩) hn hg hd
theorem lh {v:Value}(h:Ev X.P s (fun _=>True) ⟨some d,op,ty,pos,af,gd⟩ v)(k:q)(hr:Bxd q->cm X ops rest K ((d,v)::s) L:=by
      intro k;refine ae ?_
      exact k.un) (hn:gA ⟨some d,op,ty,pos,af,gd⟩=true:=by rfl) (hg:bE ops s ⟨some d,op,ty,pos,af,gd⟩=some true:=by rfl) (hd:Nat.ble (d+1) X.n=true:=by rfl):cm X ops (⟨some d,op,ty,pos,af,gd⟩::rest) K s L:=gE h (hr ⟨k⟩) hn hg hd
theorem kw {v:Value}{C Z:List Chunk}(h:OpX X.P s L ⟨some d,op,ty,pos,af,gd⟩ fun u L'=> ∃post,(u=v/\post=C)/\L'=post++Z)(k:q)(hr:Bxd q->cm X ops rest K ((d,v)::s) (C++Z):=by
      intro k;refine ae ?_
      exact k.un) (hn:gA ⟨some d,op,ty,pos,af,gd⟩=true:=by rfl) (hg:bE ops s ⟨some d,op,ty,pos,af,gd⟩=some true:=by rfl) (hd:Nat.ble (d+1) X.n=true:=by rfl):cm X ops (⟨some d,op,ty,pos,af,gd⟩::rest) K s L:=gV h (hr ⟨k⟩) hn hg hd
theorem Fu {Z:List Chunk}(h:OpX X.P s L ⟨none,op,ty,pos,af,gd⟩ fun _ L'=>L'=Z)(k:q)(hr:Bxd q->cm X ops rest K s Z:=by
      intro k;refine ae ?_
      exact k.un) (hn:gA ⟨none,op,ty,pos,af,gd⟩=true:=by rfl) (hg:bE ops s ⟨none,op,ty,pos,af,gd⟩=some true:=by rfl):cm X ops (⟨none,op,ty,pos,af,gd⟩::rest) K s L:=gW h (hr ⟨k⟩) hn hg
theorem Pw {R:Value->List Chunk->Prop}{q:Nat->Prop}(h:OpX X.P s L ⟨some d,op,ty,pos,af,gd⟩ R)(k: ∀(b:Nat),q b)(hr:(∀(b:Nat),Bxd (q b))-> ∀v L',R v L'->cm X ops rest K ((d,v)::s) L':=by
      intro k
      first|(rintro _ _ ⟨_,⟨b,rfl,rfl⟩,rfl⟩;refine ae ?_;exact (k b).un)|(rintro _ _ ⟨b,rfl,rfl⟩;refine ae ?_;exact (k b).un)) (hn:gA ⟨some d,op,ty,pos,af,gd⟩=true:=by rfl) (hg:bE ops s ⟨some d,op,ty,pos,af,gd⟩=some true:=by rfl) (hd:Nat.ble (d+1) X.n=true:=by rfl):cm X ops (⟨some d,op,ty,pos,af,gd⟩::rest) K s L:=gD h (hr fun b=>⟨k b⟩) hn hg hd
theorem iE {R:Value->List Chunk->Prop}{q:Option Addr->Nat->Nat->Prop}(h:OpX X.P s L ⟨some d,op,ty,pos,af,gd⟩ R)(k: ∀(x0:Option Addr) (x1:Nat) (x2:Nat),q x0 x1 x2)(hr:(∀(x0:Option Addr) (x1:Nat) (x2:Nat),Bxd (q x0 x1 x2))-> ∀v L',R v L'->cm X ops rest K ((d,v)::s) L':=by
      intro k
      first|(rintro _ _ ⟨_,⟨x0,x1,x2,rfl,rfl⟩,rfl⟩;refine ae ?_;exact (k x0 x1 x2).un)|(rintro _ _ ⟨x0,x1,x2,rfl,rfl⟩;refine ae ?_;exact (k x0 x1 x2).un)) (hn:gA ⟨some d,op,ty,pos,af,gd⟩=true:=by rfl) (hg:bE ops s ⟨some d,op,ty,pos,af,gd⟩=some true:=by rfl) (hd:Nat.ble (d+1) X.n=true:=by rfl):cm X ops (⟨some d,op,ty,pos,af,gd⟩::rest) K s L:=gD h (hr fun x0 x1 x2=>⟨k x0 x1 x2⟩) hn hg hd
theorem BM {R:Value->List Chunk->Prop}{q:Option Addr->Nat->Nat->Option Addr->Nat->Nat->Prop}(h:OpX X.P s L ⟨some d,op,ty,pos,af,gd⟩ R)(k: ∀(x0:Option Addr) (x1:Nat) (x2:Nat) (x3:Option Addr) (x4:Nat) (x5:Nat),q x0 x1 x2 x3 x4 x5)(hr:(∀(x0:Option Addr) (x1:Nat) (x2:Nat) (x3:Option Addr) (x4:Nat) (x5:Nat),Bxd (q x0 x1 x2 x3 x4 x5))-> ∀v L',R v L'->cm X ops rest K ((d,v)::s) L':=by
      intro k
      first|(rintro _ _ ⟨_,⟨x0,x1,x2,x3,x4,x5,rfl,rfl⟩,rfl⟩;refine ae ?_;exact (k x0 x1 x2 x3 x4 x5).un)|(rintro _ _ ⟨x0,x1,x2,x3,x4,x5,rfl,rfl⟩;refine ae ?_;exact (k x0 x1 x2 x3 x4 x5).un)) (hn:gA ⟨some d,op,ty,pos,af,gd⟩=true:=by rfl) (hg:bE ops s ⟨some d,op,ty,pos,af,gd⟩=some true:=by rfl) (hd:Nat.ble (d+1) X.n=true:=by rfl):cm X ops (⟨some d,op,ty,pos,af,gd⟩::rest) K s L:=gD h (hr fun x0 x1 x2 x3 x4 x5=>⟨k x0 x1 x2 x3 x4 x5⟩) hn hg hd
theorem MX {R:Value->List Chunk->Prop}{q:Option Addr->Nat->Nat->Option Addr->Nat->Nat->Option Addr->Nat->Nat->Prop}(h:OpX X.P s L ⟨some d,op,ty,pos,af,gd⟩ R)(k: ∀(x0:Option Addr) (x1:Nat) (x2:Nat) (x3:Option Addr) (x4:Nat) (x5:Nat) (x6:Option Addr) (x7:Nat) (x8:Nat),q x0 x1 x2 x3 x4 x5 x6 x7 x8)(hr:(∀(x0:Option Addr) (x1:Nat) (x2:Nat) (x3:Option Addr) (x4:Nat) (x5:Nat) (x6:Option Addr) (x7:Nat) (x8:Nat),Bxd (q x0 x1 x2 x3 x4 x5 x6 x7 x8))-> ∀v L',R v L'->cm X ops rest K ((d,v)::s) L':=by
      intro k
      first|(rintro _ _ ⟨_,⟨x0,x1,x2,x3,x4,x5,x6,x7,x8,rfl,rfl⟩,rfl⟩;refine ae ?_;exact (k x0 x1 x2 x3 x4 x5 x6 x7 x8).un)|(rintro _ _ ⟨x0,x1,x2,x3,x4,x5,x6,x7,x8,rfl,rfl⟩;refine ae ?_;exact (k x0 x1 x2 x3 x4 x5 x6 x7 x8).un)) (hn:gA ⟨some d,op,ty,pos,af,gd⟩=true:=by rfl) (hg:bE ops s ⟨some d,op,ty,pos,af,gd⟩=some true:=by rfl) (hd:Nat.ble (d+1) X.n=true:=by rfl):cm X ops (⟨some d,op,ty,pos,af,gd⟩::rest) K s L:=gD h (hr fun x0 x1 x2 x3 x4 x5 x6 x7 x8=>⟨k x0 x1 x2 x3 x4 x5 x6 x7 x8⟩) hn hg hd
theorem NH {R:Value->List Chunk->Prop}{q:Option Addr->Nat->Nat->Option Addr->Nat->Nat->Option Addr->Nat->Nat->Option Addr->Nat->Nat->Prop}(h:OpX X.P s L ⟨some d,op,ty,pos,af,gd⟩ R)(k: ∀(x0:Option Addr) (x1:Nat) (x2:Nat) (x3:Option Addr) (x4:Nat) (x5:Nat) (x6:Option Addr) (x7:Nat) (x8:Nat) (x9:Option Addr) (x10:Nat) (x11:Nat),q x0 x1 x2 x3 x4 x5 x6 x7 x8 x9 x10 x11)(hr:(∀(x0:Option Addr) (x1:Nat) (x2:Nat) (x3:Option Addr) (x4:Nat) (x5:Nat) (x6:Option Addr) (x7:Nat) (x8:Nat) (x9:Option Addr) (x10:Nat) (x11:Nat),Bxd (q x0 x1 x2 x3 x4 x5 x6 x7 x8 x9 x10 x11))-> ∀v L',R v L'->cm X ops rest K ((d,v)::s) L':=by
      intro k
      first|(rintro _ _ ⟨_,⟨x0,x1,x2,x3,x4,x5,x6,x7,x8,x9,x10,x11,rfl,rfl⟩,rfl⟩;refine ae ?_;exact (k x0 x1 x2 x3 x4 x5 x6 x7 x8 x9 x10 x11).un)|(rintro _ _ ⟨x0,x1,x2,x3,x4,x5,x6,x7,x8,x9,x10,x11,rfl,rfl⟩;refine ae ?_;exact (k x0 x1 x2 x3 x4 x5 x6 x7 x8 x9 x10 x11).un)) (hn:gA ⟨some d,op,ty,pos,af,gd⟩=true:=by rfl) (hg:bE ops s ⟨some d,op,ty,pos,af,gd⟩=some true:=by rfl) (hd:Nat.ble (d+1) X.n=true:=by rfl):cm X ops (⟨some d,op,ty,pos,af,gd⟩::rest) K s L:=gD h (hr fun x0 x1 x2 x3 x4 x5 x6 x7 x8 x9 x10 x11=>⟨k x0 x1 x2 x3 x4 x5 x6 x7 x8 x9 x10 x11⟩) hn hg hd
end
end
section
variable {A1 A2 A3 A4 A5:Option Addr} {B1 B3 B6 M7 c1 c2 c3 c4 c5 n1 n2 n3 n4 n5:Nat}
open Go.RowKit Asn
set_option maxRecDepth 20000
structure Qo where
 at_:Qz
 deriving DecidableEq,Inhabited
structure Qn where
 Kind:Int
 N:Int
 S:ByteArray
 deriving DecidableEq,Inhabited
abbrev Qr:=List Qn
def ak:Rep Qn:=.flat 3 (fun x=> [iV x.Kind,iV x.N,.string x.S]) (fun _=>rfl) (fun _=>rfl)
structure Ql where
 Kind:Int
 Shape:Int
 Flags:Int
 Age:Int
 Slots:Qr
 More:Qr
 deriving DecidableEq,Inhabited
abbrev Qy:=List Ql
def bT:Rep Ql where
 sz:=6
 rel S w vs x:= ∃A4 n4 c4 A5 n5 c5,vs=[iV x.Kind,iV x.Shape,iV x.Flags,iV x.Age,W A4 n4 c4,W A5 n5 c5]/\SlR ak S w (W A4 n4 c4) x.Slots/\SlR ak S w (W A5 n5 c5) x.More
 loc:=fun h ⟨_,_,_,_,_,_,e,h4,h5⟩=>⟨_,_,_,_,_,_,e,h4.loc h,h5.loc h⟩
 mono:=fun h ⟨_,_,_,_,_,_,e,h4,h5⟩=>⟨_,_,_,_,_,_,e,h4.mono h,h5.mono h⟩
 len:=fun ⟨_,_,_,_,_,_,e,_⟩=>by rw [e];rfl
 one:=fun ⟨_,_,_,_,_,_,e,_⟩=>by rw [e];rfl
theorem bR (x:Ql):Du bT x fun vs cs=> ∃A4 n4 c4 A5 n5 c5,vs=[iV x.Kind,iV x.Shape,iV x.Flags,iV x.Age,W A4 n4 c4,W A5 n5 c5]/\cs=[o5 ak (W A4 n4 c4) x.Slots,o5 ak (W A5 n5 c5) x.More]:=fun S w vs ⟨_,_,_,_,_,_,e,h4,h5⟩=>⟨_,⟨_,_,_,_,_,_,e,rfl⟩,hU h4 (hU h5 (ax))⟩
structure Qg where
 Young:Qy
 Old:Qy
 deriving DecidableEq,Inhabited
def Nz:Rep Qg where
 sz:=2
 rel S w vs x:= ∃A0 n0 c0 A1 n1 c1,vs=[W A0 n0 c0,W A1 n1 c1]/\SlR bT S w (W A0 n0 c0) x.Young/\SlR bT S w (W A1 n1 c1) x.Old
 loc:=fun h ⟨_,_,_,_,_,_,e,h0,h1⟩=>⟨_,_,_,_,_,_,e,h0.loc h,h1.loc h⟩
 mono:=fun h ⟨_,_,_,_,_,_,e,h0,h1⟩=>⟨_,_,_,_,_,_,e,h0.mono h,h1.mono h⟩
 len:=fun ⟨_,_,_,_,_,_,e,_⟩=>by rw [e];rfl
 one:=fun ⟨_,_,_,_,_,_,e,_⟩=>by rw [e];rfl
structure Qe where
 m_:Qg
 roots_:Qr
 pending_:Qr
 set_:Qo
 deriving DecidableEq,Inhabited
structure Qc where
 Kind:Int
 N:Int
 C:Ql
 V:Qn
 deriving DecidableEq,Inhabited
def E1:Rep Qc where
 sz:=11
 rel S w vs x:= ∃A6 n6 c6 A7 n7 c7,vs=[iV x.Kind,iV x.N,iV x.C.Kind,iV x.C.Shape,iV x.C.Flags,iV x.C.Age,W A6 n6 c6,W A7 n7 c7,iV x.V.Kind,iV x.V.N,.string x.V.S]/\SlR ak S w (W A6 n6 c6) x.C.Slots/\SlR ak S w (W A7 n7 c7) x.C.More
 loc:=fun h ⟨_,_,_,_,_,_,e,h6,h7⟩=>⟨_,_,_,_,_,_,e,h6.loc h,h7.loc h⟩
 mono:=fun h ⟨_,_,_,_,_,_,e,h6,h7⟩=>⟨_,_,_,_,_,_,e,h6.mono h,h7.mono h⟩
 len:=fun ⟨_,_,_,_,_,_,e,_⟩=>by rw [e];rfl
 one:=fun ⟨_,_,_,_,_,_,e,_⟩=>by rw [e];rfl
theorem zC (x:Qc):Du E1 x fun vs cs=> ∃A6 n6 c6 A7 n7 c7,vs=[iV x.Kind,iV x.N,iV x.C.Kind,iV x.C.Shape,iV x.C.Flags,iV x.C.Age,W A6 n6 c6,W A7 n7 c7,iV x.V.Kind,iV x.V.N,.string x.V.S]/\cs=[o5 ak (W A6 n6 c6) x.C.Slots,o5 ak (W A7 n7 c7) x.C.More]:=fun S w vs ⟨_,_,_,_,_,_,e,h6,h7⟩=>⟨_,⟨_,_,_,_,_,_,e,rfl⟩,hU h6 (hU h7 (ax))⟩
structure Qh where
 m_:Qg
 kept_:Qq
 met_:Qq
 seen_:Qz
 next_:Int
 deriving DecidableEq,Inhabited
structure Qp where
 m_:Qg
 all_:Qq
 met_:(List (Int×Unit))
 done_:Int
 deriving DecidableEq,Inhabited
structure Qk where
 M:Qg
 Roots:Qr
 Pending:Qr
 deriving DecidableEq,Inhabited
def NA:Rep Qk where
 sz:=4
 rel S w vs x:= ∃A0 n0 c0 A1 n1 c1 A2 n2 c2 A3 n3 c3,vs=[W A0 n0 c0,W A1 n1 c1,W A2 n2 c2,W A3 n3 c3]/\SlR bT S w (W A0 n0 c0) x.M.Young/\SlR bT S w (W A1 n1 c1) x.M.Old/\SlR ak S w (W A2 n2 c2) x.Roots/\SlR ak S w (W A3 n3 c3) x.Pending
 loc:=fun h ⟨_,_,_,_,_,_,_,_,_,_,_,_,e,h0,h1,h2,h3⟩=>⟨_,_,_,_,_,_,_,_,_,_,_,_,e,h0.loc h,h1.loc h,h2.loc h,h3.loc h⟩
 mono:=fun h ⟨_,_,_,_,_,_,_,_,_,_,_,_,e,h0,h1,h2,h3⟩=>⟨_,_,_,_,_,_,_,_,_,_,_,_,e,h0.mono h,h1.mono h,h2.mono h,h3.mono h⟩
 len:=fun ⟨_,_,_,_,_,_,_,_,_,_,_,_,e,_⟩=>by rw [e];rfl
 one:=fun ⟨_,_,_,_,_,_,_,_,_,_,_,_,e,_⟩=>by rw [e];rfl
structure Qd where
 N:Int
 E:Int
 Ok:Bool
 C:Ql
 V:Qn
 L:Qr
 deriving DecidableEq,Inhabited
def Oa:Rep Qd where
 sz:=13
 rel S w vs x:= ∃A7 n7 c7 A8 n8 c8 A12 n12 c12,vs=[iV x.N,iV x.E,.bool x.Ok,iV x.C.Kind,iV x.C.Shape,iV x.C.Flags,iV x.C.Age,W A7 n7 c7,W A8 n8 c8,iV x.V.Kind,iV x.V.N,.string x.V.S,W A12 n12 c12]/\SlR ak S w (W A7 n7 c7) x.C.Slots/\SlR ak S w (W A8 n8 c8) x.C.More/\SlR ak S w (W A12 n12 c12) x.L
 loc:=fun h ⟨_,_,_,_,_,_,_,_,_,e,h7,h8,h12⟩=>⟨_,_,_,_,_,_,_,_,_,e,h7.loc h,h8.loc h,h12.loc h⟩
 mono:=fun h ⟨_,_,_,_,_,_,_,_,_,e,h7,h8,h12⟩=>⟨_,_,_,_,_,_,_,_,_,e,h7.mono h,h8.mono h,h12.mono h⟩
 len:=fun ⟨_,_,_,_,_,_,_,_,_,e,_⟩=>by rw [e];rfl
 one:=fun ⟨_,_,_,_,_,_,_,_,_,e,_⟩=>by rw [e];rfl
structure Qm where
 M:Qg
 Now:Qr
 Gone:Qr
 Err:Int
 deriving DecidableEq,Inhabited
def Ob:Rep Qm where
 sz:=5
 rel S w vs x:= ∃A0 n0 c0 A1 n1 c1 A2 n2 c2 A3 n3 c3,vs=[W A0 n0 c0,W A1 n1 c1,W A2 n2 c2,W A3 n3 c3,iV x.Err]/\SlR bT S w (W A0 n0 c0) x.M.Young/\SlR bT S w (W A1 n1 c1) x.M.Old/\SlR ak S w (W A2 n2 c2) x.Now/\SlR ak S w (W A3 n3 c3) x.Gone
 loc:=fun h ⟨_,_,_,_,_,_,_,_,_,_,_,_,e,h0,h1,h2,h3⟩=>⟨_,_,_,_,_,_,_,_,_,_,_,_,e,h0.loc h,h1.loc h,h2.loc h,h3.loc h⟩
 mono:=fun h ⟨_,_,_,_,_,_,_,_,_,_,_,_,e,h0,h1,h2,h3⟩=>⟨_,_,_,_,_,_,_,_,_,_,_,_,e,h0.mono h,h1.mono h,h2.mono h,h3.mono h⟩
 len:=fun ⟨_,_,_,_,_,_,_,_,_,_,_,_,e,_⟩=>by rw [e];rfl
 one:=fun ⟨_,_,_,_,_,_,_,_,_,_,_,_,e,_⟩=>by rw [e];rfl
abbrev az (A:Option Addr)(n c:Nat):=o5 ak (.slice A n c)
abbrev aK (A:Option Addr)(n c:Nat):=o5 bT (.slice A n c)
abbrev bh (A:Option Addr)(n c:Nat):=eu ak 37 (.slice A n c)
abbrev bS (A:Option Addr)(n c:Nat):=eu (da .i64) 3 (.slice A n c)
abbrev bV (A:Option Addr)(n c:Nat):=o5 (da .i64) (.slice A n c)
abbrev bY (A:Option Addr)(n c:Nat):=eu bT 35 (.slice A n c)
abbrev bD (x:Qn):Value:=.agg #[iV x.Kind,iV x.N,.string x.S]
abbrev be (x:Qn):List Value:=[iV x.Kind,iV x.N,.string x.S]
instance call4:FcK QB 4:=⟨⟨Tryz.f4,Tryz.func4,rfl,rfl⟩⟩
instance call5:FcK QB 5:=⟨⟨Tryz.f5,Tryz.func5,rfl,rfl⟩⟩
instance call6:FcK QB 6:=⟨⟨Tryz.f6,Tryz.func6,rfl,rfl⟩⟩
instance call7:FcK QB 7:=⟨⟨Tryz.f7,Tryz.func7,rfl,rfl⟩⟩
instance call8:FcK QB 8:=⟨⟨Tryz.f8,Tryz.func8,rfl,rfl⟩⟩
instance call9:FcK QB 9:=⟨⟨Tryz.f9,Tryz.func9,rfl,rfl⟩⟩
instance call10:FcK QB 10:=⟨⟨Tryz.f10,Tryz.func10,rfl,rfl⟩⟩
instance call11:FcK QB 11:=⟨⟨Tryz.f11,Tryz.func11,rfl,rfl⟩⟩
instance call12:FcK QB 12:=⟨⟨Tryz.f12,Tryz.func12,rfl,rfl⟩⟩
instance call13:FcK QB 13:=⟨⟨Tryz.f13,Tryz.func13,rfl,rfl⟩⟩
instance call14:FcK QB 14:=⟨⟨Tryz.f14,Tryz.func14,rfl,rfl⟩⟩
instance call15:FcK QB 15:=⟨⟨Tryz.f15,Tryz.func15,rfl,rfl⟩⟩
instance call16:FcK QB 16:=⟨⟨Tryz.f16,Tryz.func16,rfl,rfl⟩⟩
instance call17:FcK QB 17:=⟨⟨Tryz.f17,Tryz.func17,rfl,rfl⟩⟩
instance call18:FcK QB 18:=⟨⟨Tryz.f18,Tryz.func18,rfl,rfl⟩⟩
instance call19:FcK QB 19:=⟨⟨Tryz.f19,Tryz.func19,rfl,rfl⟩⟩
instance call20:FcK QB 20:=⟨⟨Tryz.f20,Tryz.func20,rfl,rfl⟩⟩
instance call21:FcK QB 21:=⟨⟨Tryz.f21,Tryz.func21,rfl,rfl⟩⟩
instance call22:FcK QB 22:=⟨⟨Tryz.f22,Tryz.func22,rfl,rfl⟩⟩
instance call23:FcK QB 23:=⟨⟨Tryz.f23,Tryz.func23,rfl,rfl⟩⟩
instance call24:FcK QB 24:=⟨⟨Tryz.f24,Tryz.func24,rfl,rfl⟩⟩
instance call25:FcK QB 25:=⟨⟨Tryz.f25,Tryz.func25,rfl,rfl⟩⟩
instance call26:FcK QB 26:=⟨⟨Tryz.f26,Tryz.func26,rfl,rfl⟩⟩
instance call27:FcK QB 27:=⟨⟨Tryz.f27,Tryz.func27,rfl,rfl⟩⟩
instance call28:FcK QB 28:=⟨⟨Tryz.f28,Tryz.func28,rfl,rfl⟩⟩
instance call29:FcK QB 29:=⟨⟨Tryz.f29,Tryz.func29,rfl,rfl⟩⟩
instance call30:FcK QB 30:=⟨⟨Tryz.f30,Tryz.func30,rfl,rfl⟩⟩
instance call31:FcK QB 31:=⟨⟨Tryz.f31,Tryz.func31,rfl,rfl⟩⟩
instance call32:FcK QB 32:=⟨⟨Tryz.f32,Tryz.func32,rfl,rfl⟩⟩
instance call33:FcK QB 33:=⟨⟨Tryz.f33,Tryz.func33,rfl,rfl⟩⟩
instance call34:FcK QB 34:=⟨⟨Tryz.f34,Tryz.func34,rfl,rfl⟩⟩
instance call35:FcK QB 35:=⟨⟨Tryz.f35,Tryz.func35,rfl,rfl⟩⟩
instance call36:FcK QB 36:=⟨⟨Tryz.f36,Tryz.func36,rfl,rfl⟩⟩
instance call37:FcK QB 37:=⟨⟨Tryz.f37,Tryz.func37,rfl,rfl⟩⟩
instance call38:FcK QB 38:=⟨⟨Tryz.f38,Tryz.func38,rfl,rfl⟩⟩
instance call39:FcK QB 39:=⟨⟨Tryz.f39,Tryz.func39,rfl,rfl⟩⟩
instance call40:FcK QB 40:=⟨⟨Tryz.f40,Tryz.func40,rfl,rfl⟩⟩
instance call41:FcK QB 41:=⟨⟨Tryz.f41,Tryz.func41,rfl,rfl⟩⟩
instance call42:FcK QB 42:=⟨⟨Tryz.f42,Tryz.func42,rfl,rfl⟩⟩
instance call43:FcK QB 43:=⟨⟨Tryz.f43,Tryz.func43,rfl,rfl⟩⟩
instance call44:FcK QB 44:=⟨⟨Tryz.f44,Tryz.func44,rfl,rfl⟩⟩
instance call45:FcK QB 45:=⟨⟨Tryz.f45,Tryz.func45,rfl,rfl⟩⟩
instance call46:FcK QB 46:=⟨⟨Tryz.f46,Tryz.func46,rfl,rfl⟩⟩
instance call47:FcK QB 47:=⟨⟨Tryz.f47,Tryz.func47,rfl,rfl⟩⟩
instance call48:FcK QB 48:=⟨⟨Tryz.f48,Tryz.func48,rfl,rfl⟩⟩
instance call49:FcK QB 49:=⟨⟨Tryz.f49,Tryz.func49,rfl,rfl⟩⟩
instance call50:FcK QB 50:=⟨⟨Tryz.f50,Tryz.func50,rfl,rfl⟩⟩
instance call51:FcK QB 51:=⟨⟨Tryz.f51,Tryz.func51,rfl,rfl⟩⟩
instance call52:FcK QB 52:=⟨⟨Tryz.f52,Tryz.func52,rfl,rfl⟩⟩
instance call53:FcK QB 53:=⟨⟨Tryz.f53,Tryz.func53,rfl,rfl⟩⟩
instance call54:FcK QB 54:=⟨⟨Tryz.f54,Tryz.func54,rfl,rfl⟩⟩
instance call55:FcK QB 55:=⟨⟨Tryz.f55,Tryz.func55,rfl,rfl⟩⟩
instance call56:FcK QB 56:=⟨⟨Tryz.f56,Tryz.func56,rfl,rfl⟩⟩
instance call57:FcK QB 57:=⟨⟨Tryz.f57,Tryz.func57,rfl,rfl⟩⟩
instance call58:FcK QB 58:=⟨⟨Tryz.f58,Tryz.func58,rfl,rfl⟩⟩
instance call59:FcK QB 59:=⟨⟨Tryz.f59,Tryz.func59,rfl,rfl⟩⟩
instance call60:FcK QB 60:=⟨⟨Tryz.f60,Tryz.func60,rfl,rfl⟩⟩
instance call61:FcK QB 61:=⟨⟨Tryz.f61,Tryz.func61,rfl,rfl⟩⟩
instance call62:FcK QB 62:=⟨⟨Tryz.f62,Tryz.func62,rfl,rfl⟩⟩
instance call63:FcK QB 63:=⟨⟨Tryz.f63,Tryz.func63,rfl,rfl⟩⟩
instance call64:FcK QB 64:=⟨⟨Tryz.f64,Tryz.func64,rfl,rfl⟩⟩
instance call65:FcK QB 65:=⟨⟨Tryz.f65,Tryz.func65,rfl,rfl⟩⟩
instance call66:FcK QB 66:=⟨⟨Tryz.f66,Tryz.func66,rfl,rfl⟩⟩
instance call67:FcK QB 67:=⟨⟨Tryz.f67,Tryz.func67,rfl,rfl⟩⟩
instance call68:FcK QB 68:=⟨⟨Tryz.f68,Tryz.func68,rfl,rfl⟩⟩
instance call69:FcK QB 69:=⟨⟨Tryz.f69,Tryz.func69,rfl,rfl⟩⟩
instance call70:FcK QB 70:=⟨⟨Tryz.f70,Tryz.func70,rfl,rfl⟩⟩
instance call71:FcK QB 71:=⟨⟨Tryz.f71,Tryz.func71,rfl,rfl⟩⟩
instance call72:FcK QB 72:=⟨⟨Tryz.f72,Tryz.func72,rfl,rfl⟩⟩
instance call73:FcK QB 73:=⟨⟨Tryz.f73,Tryz.func73,rfl,rfl⟩⟩
instance call74:FcK QB 74:=⟨⟨Tryz.f74,Tryz.func74,rfl,rfl⟩⟩
instance call75:FcK QB 75:=⟨⟨Tryz.f75,Tryz.func75,rfl,rfl⟩⟩
instance call76:FcK QB 76:=⟨⟨Tryz.f76,Tryz.func76,rfl,rfl⟩⟩
instance call77:FcK QB 77:=⟨⟨Tryz.f77,Tryz.func77,rfl,rfl⟩⟩
instance call78:FcK QB 78:=⟨⟨Tryz.f78,Tryz.func78,rfl,rfl⟩⟩
instance call79:FcK QB 79:=⟨⟨Tryz.f79,Tryz.func79,rfl,rfl⟩⟩
instance call80:FcK QB 80:=⟨⟨Tryz.f80,Tryz.func80,rfl,rfl⟩⟩
instance call81:FcK QB 81:=⟨⟨Tryz.f81,Tryz.func81,rfl,rfl⟩⟩
instance call82:FcK QB 82:=⟨⟨Tryz.f82,Tryz.func82,rfl,rfl⟩⟩
instance call83:FcK QB 83:=⟨⟨Tryz.f83,Tryz.func83,rfl,rfl⟩⟩
instance call84:FcK QB 84:=⟨⟨Tryz.f84,Tryz.func84,rfl,rfl⟩⟩
instance call85:FcK QB 85:=⟨⟨Tryz.f85,Tryz.func85,rfl,rfl⟩⟩
instance call86:FcK QB 86:=⟨⟨Tryz.f86,Tryz.func86,rfl,rfl⟩⟩
instance call87:FcK QB 87:=⟨⟨Tryz.f87,Tryz.func87,rfl,rfl⟩⟩
instance call88:FcK QB 88:=⟨⟨Tryz.f88,Tryz.func88,rfl,rfl⟩⟩
instance call89:FcK QB 89:=⟨⟨Tryz.f89,Tryz.func89,rfl,rfl⟩⟩
instance call90:FcK QB 90:=⟨⟨Tryz.f90,Tryz.func90,rfl,rfl⟩⟩
instance call91:FcK QB 91:=⟨⟨Tryz.f91,Tryz.func91,rfl,rfl⟩⟩
instance call92:FcK QB 92:=⟨⟨Tryz.f92,Tryz.func92,rfl,rfl⟩⟩
instance call93:FcK QB 93:=⟨⟨Tryz.f93,Tryz.func93,rfl,rfl⟩⟩
instance call94:FcK QB 94:=⟨⟨Tryz.f94,Tryz.func94,rfl,rfl⟩⟩
instance call95:FcK QB 95:=⟨⟨Tryz.f95,Tryz.func95,rfl,rfl⟩⟩
instance call96:FcK QB 96:=⟨⟨Tryz.f96,Tryz.func96,rfl,rfl⟩⟩
instance call97:FcK QB 97:=⟨⟨Tryz.f97,Tryz.func97,rfl,rfl⟩⟩
instance call98:FcK QB 98:=⟨⟨Tryz.f98,Tryz.func98,rfl,rfl⟩⟩
instance call99:FcK QB 99:=⟨⟨Tryz.f99,Tryz.func99,rfl,rfl⟩⟩
instance call100:FcK QB 100:=⟨⟨Tryz.f100,Tryz.func100,rfl,rfl⟩⟩
instance call101:FcK QB 101:=⟨⟨Tryz.f101,Tryz.func101,rfl,rfl⟩⟩
instance call102:FcK QB 102:=⟨⟨Tryz.f102,Tryz.func102,rfl,rfl⟩⟩
instance call103:FcK QB 103:=⟨⟨Tryz.f103,Tryz.func103,rfl,rfl⟩⟩
instance call104:FcK QB 104:=⟨⟨Tryz.f104,Tryz.func104,rfl,rfl⟩⟩
instance call105:FcK QB 105:=⟨⟨Tryz.f105,Tryz.func105,rfl,rfl⟩⟩
instance call106:FcK QB 106:=⟨⟨Tryz.f106,Tryz.func106,rfl,rfl⟩⟩
instance call107:FcK QB 107:=⟨⟨Tryz.f107,Tryz.func107,rfl,rfl⟩⟩
instance call108:FcK QB 108:=⟨⟨Tryz.f108,Tryz.func108,rfl,rfl⟩⟩
instance call109:FcK QB 109:=⟨⟨Tryz.f109,Tryz.func109,rfl,rfl⟩⟩
instance call110:FcK QB 110:=⟨⟨Tryz.f110,Tryz.func110,rfl,rfl⟩⟩
instance call111:FcK QB 111:=⟨⟨Tryz.f111,Tryz.func111,rfl,rfl⟩⟩
instance call112:FcK QB 112:=⟨⟨Tryz.f112,Tryz.func112,rfl,rfl⟩⟩
instance call113:FcK QB 113:=⟨⟨Tryz.f113,Tryz.func113,rfl,rfl⟩⟩
instance call114:FcK QB 114:=⟨⟨Tryz.f114,Tryz.func114,rfl,rfl⟩⟩
instance call115:FcK QB 115:=⟨⟨Tryz.f115,Tryz.func115,rfl,rfl⟩⟩
instance call116:FcK QB 116:=⟨⟨Tryz.f116,Tryz.func116,rfl,rfl⟩⟩
instance call117:FcK QB 117:=⟨⟨Tryz.f117,Tryz.func117,rfl,rfl⟩⟩
instance call118:FcK QB 118:=⟨⟨Tryz.f118,Tryz.func118,rfl,rfl⟩⟩
instance call119:FcK QB 119:=⟨⟨Tryz.f119,Tryz.func119,rfl,rfl⟩⟩
instance call120:FcK QB 120:=⟨⟨Tryz.f120,Tryz.func120,rfl,rfl⟩⟩
instance call121:FcK QB 121:=⟨⟨Tryz.f121,Tryz.func121,rfl,rfl⟩⟩
instance call122:FcK QB 122:=⟨⟨Tryz.f122,Tryz.func122,rfl,rfl⟩⟩
instance call123:FcK QB 123:=⟨⟨Tryz.f123,Tryz.func123,rfl,rfl⟩⟩
instance call124:FcK QB 124:=⟨⟨Tryz.f124,Tryz.func124,rfl,rfl⟩⟩
instance call125:FcK QB 125:=⟨⟨Tryz.f125,Tryz.func125,rfl,rfl⟩⟩
instance call126:FcK QB 126:=⟨⟨Tryz.f126,Tryz.func126,rfl,rfl⟩⟩
instance call128:FcK QB 128:=⟨⟨Tryz.f128,Tryz.func128,rfl,rfl⟩⟩
instance call130:FcK QB 130:=⟨⟨Tryz.f130,Tryz.func130,rfl,rfl⟩⟩
instance call131:FcK QB 131:=⟨⟨Tryz.f131,Tryz.func131,rfl,rfl⟩⟩
instance call132:FcK QB 132:=⟨⟨Tryz.f132,Tryz.func132,rfl,rfl⟩⟩
instance call133:FcK QB 133:=⟨⟨Tryz.f133,Tryz.func133,rfl,rfl⟩⟩
instance call134:FcK QB 134:=⟨⟨Tryz.f134,Tryz.func134,rfl,rfl⟩⟩
instance call135:FcK QB 135:=⟨⟨Tryz.f135,Tryz.func135,rfl,rfl⟩⟩
instance call136:FcK QB 136:=⟨⟨Tryz.f136,Tryz.func136,rfl,rfl⟩⟩
instance call137:FcK QB 137:=⟨⟨Tryz.f137,Tryz.func137,rfl,rfl⟩⟩
instance call138:FcK QB 138:=⟨⟨Tryz.f138,Tryz.func138,rfl,rfl⟩⟩
instance call139:FcK QB 139:=⟨⟨Tryz.f139,Tryz.func139,rfl,rfl⟩⟩
instance call140:FcK QB 140:=⟨⟨Tryz.f140,Tryz.func140,rfl,rfl⟩⟩
instance call141:FcK QB 141:=⟨⟨Tryz.f141,Tryz.func141,rfl,rfl⟩⟩
instance call142:FcK QB 142:=⟨⟨Tryz.f142,Tryz.func142,rfl,rfl⟩⟩
instance call143:FcK QB 143:=⟨⟨Tryz.f143,Tryz.func143,rfl,rfl⟩⟩
instance call144:FcK QB 144:=⟨⟨Tryz.f144,Tryz.func144,rfl,rfl⟩⟩
instance call145:FcK QB 145:=⟨⟨Tryz.f145,Tryz.func145,rfl,rfl⟩⟩
instance call146:FcK QB 146:=⟨⟨Tryz.f146,Tryz.func146,rfl,rfl⟩⟩
instance call147:FcK QB 147:=⟨⟨Tryz.f147,Tryz.func147,rfl,rfl⟩⟩
instance call148:FcK QB 148:=⟨⟨Tryz.f148,Tryz.func148,rfl,rfl⟩⟩
instance call149:FcK QB 149:=⟨⟨Tryz.f149,Tryz.func149,rfl,rfl⟩⟩
instance call150:FcK QB 150:=⟨⟨Tryz.f150,Tryz.func150,rfl,rfl⟩⟩
instance call151:FcK QB 151:=⟨⟨Tryz.f151,Tryz.func151,rfl,rfl⟩⟩
instance call152:FcK QB 152:=⟨⟨Tryz.f152,Tryz.func152,rfl,rfl⟩⟩
instance call153:FcK QB 153:=⟨⟨Tryz.f153,Tryz.func153,rfl,rfl⟩⟩
instance call154:FcK QB 154:=⟨⟨Tryz.f154,Tryz.func154,rfl,rfl⟩⟩
instance call155:FcK QB 155:=⟨⟨Tryz.f155,Tryz.func155,rfl,rfl⟩⟩
instance call156:FcK QB 156:=⟨⟨Tryz.f156,Tryz.func156,rfl,rfl⟩⟩
instance call157:FcK QB 157:=⟨⟨Tryz.f157,Tryz.func157,rfl,rfl⟩⟩
instance call158:FcK QB 158:=⟨⟨Tryz.f158,Tryz.func158,rfl,rfl⟩⟩
instance call159:FcK QB 159:=⟨⟨Tryz.f159,Tryz.func159,rfl,rfl⟩⟩
instance call160:FcK QB 160:=⟨⟨Tryz.f160,Tryz.func160,rfl,rfl⟩⟩
instance call161:FcK QB 161:=⟨⟨Tryz.f161,Tryz.func161,rfl,rfl⟩⟩
instance call162:FcK QB 162:=⟨⟨Tryz.f162,Tryz.func162,rfl,rfl⟩⟩
instance call163:FcK QB 163:=⟨⟨Tryz.f163,Tryz.func163,rfl,rfl⟩⟩
instance call164:FcK QB 164:=⟨⟨Tryz.f164,Tryz.func164,rfl,rfl⟩⟩
instance call165:FcK QB 165:=⟨⟨Tryz.f165,Tryz.func165,rfl,rfl⟩⟩
instance call166:FcK QB 166:=⟨⟨Tryz.f166,Tryz.func166,rfl,rfl⟩⟩
instance call167:FcK QB 167:=⟨⟨Tryz.f167,Tryz.func167,rfl,rfl⟩⟩
instance call168:FcK QB 168:=⟨⟨Tryz.f168,Tryz.func168,rfl,rfl⟩⟩
instance call169:FcK QB 169:=⟨⟨Tryz.f169,Tryz.func169,rfl,rfl⟩⟩
instance call170:FcK QB 170:=⟨⟨Tryz.f170,Tryz.func170,rfl,rfl⟩⟩
instance call171:FcK QB 171:=⟨⟨Tryz.f171,Tryz.func171,rfl,rfl⟩⟩
instance call172:FcK QB 172:=⟨⟨Tryz.f172,Tryz.func172,rfl,rfl⟩⟩
instance call173:FcK QB 173:=⟨⟨Tryz.f173,Tryz.func173,rfl,rfl⟩⟩
instance call174:FcK QB 174:=⟨⟨Tryz.f174,Tryz.func174,rfl,rfl⟩⟩
instance call178:FcK QB 178:=⟨⟨Tryz.f178,Tryz.func178,rfl,rfl⟩⟩
instance call179:FcK QB 179:=⟨⟨Tryz.f179,Tryz.func179,rfl,rfl⟩⟩
instance call180:FcK QB 180:=⟨⟨Tryz.f180,Tryz.func180,rfl,rfl⟩⟩
instance call181:FcK QB 181:=⟨⟨Tryz.f181,Tryz.func181,rfl,rfl⟩⟩
instance call182:FcK QB 182:=⟨⟨Tryz.f182,Tryz.func182,rfl,rfl⟩⟩
instance call183:FcK QB 183:=⟨⟨Tryz.f183,Tryz.func183,rfl,rfl⟩⟩
instance call184:FcK QB 184:=⟨⟨Tryz.f184,Tryz.func184,rfl,rfl⟩⟩
instance call185:FcK QB 185:=⟨⟨Tryz.f185,Tryz.func185,rfl,rfl⟩⟩
instance call186:FcK QB 186:=⟨⟨Tryz.f186,Tryz.func186,rfl,rfl⟩⟩
instance call187:FcK QB 187:=⟨⟨Tryz.f187,Tryz.func187,rfl,rfl⟩⟩
instance call188:FcK QB 188:=⟨⟨Tryz.f188,Tryz.func188,rfl,rfl⟩⟩
instance call189:FcK QB 189:=⟨⟨Tryz.f189,Tryz.func189,rfl,rfl⟩⟩
instance call190:FcK QB 190:=⟨⟨Tryz.f190,Tryz.func190,rfl,rfl⟩⟩
instance call191:FcK QB 191:=⟨⟨Tryz.f191,Tryz.func191,rfl,rfl⟩⟩
instance call192:FcK QB 192:=⟨⟨Tryz.f192,Tryz.func192,rfl,rfl⟩⟩
instance call203:FcK QB 203:=⟨⟨Tryz.f203,Tryz.func203,rfl,rfl⟩⟩
instance call204:FcK QB 204:=⟨⟨Tryz.f204,Tryz.func204,rfl,rfl⟩⟩
instance call205:FcK QB 205:=⟨⟨Tryz.f205,Tryz.func205,rfl,rfl⟩⟩
instance call206:FcK QB 206:=⟨⟨Tryz.f206,Tryz.func206,rfl,rfl⟩⟩
instance call207:FcK QB 207:=⟨⟨Tryz.f207,Tryz.func207,rfl,rfl⟩⟩
instance call208:FcK QB 208:=⟨⟨Tryz.f208,Tryz.func208,rfl,rfl⟩⟩
theorem ny (b o:Nat)(w:World):(Instr.fieldAt 29 (pV b o) 0).run QB w=.ok (pV b o) w:=by kernel_rfl
theorem lC (b o:Nat)(w:World):(Instr.fieldAt 29 (pV b o) 1).run QB w=.ok (.pointer (some ⟨b,o+1,none⟩)) w:=by kernel_rfl
theorem oQ (b o:Nat)(w:World):(Instr.fieldAt 32 (pV b o) 0).run QB w=.ok (pV b o) w:=by kernel_rfl
theorem te (b o:Nat)(w:World):(Instr.fieldAt 32 (pV b o) 1).run QB w=.ok (.pointer (some ⟨b,o+2,none⟩)) w:=by kernel_rfl
theorem FA (b o:Nat)(w:World):(Instr.fieldAt 32 (pV b o) 2).run QB w=.ok (.pointer (some ⟨b,o+3,none⟩)) w:=by kernel_rfl
theorem Ia (b o:Nat)(w:World):(Instr.fieldAt 35 (pV b o) 0).run QB w=.ok (pV b o) w:=by kernel_rfl
theorem H9 (b o:Nat)(w:World):(Instr.fieldAt 35 (pV b o) 1).run QB w=.ok (.pointer (some ⟨b,o+1,none⟩)) w:=by kernel_rfl
theorem H8 (b o:Nat)(w:World):(Instr.fieldAt 35 (pV b o) 2).run QB w=.ok (.pointer (some ⟨b,o+2,none⟩)) w:=by kernel_rfl
theorem td (b o:Nat)(w:World):(Instr.fieldAt 35 (pV b o) 3).run QB w=.ok (.pointer (some ⟨b,o+3,none⟩)) w:=by kernel_rfl
theorem pO (b o:Nat)(w:World):(Instr.fieldAt 35 (pV b o) 4).run QB w=.ok (.pointer (some ⟨b,o+4,none⟩)) w:=by kernel_rfl
theorem dT (b o:Nat)(w:World):(Instr.fieldAt 35 (pV b o) 5).run QB w=.ok (.pointer (some ⟨b,o+5,none⟩)) w:=by kernel_rfl
theorem fE (b o:Nat)(w:World):(Instr.fieldAt 37 (pV b o) 0).run QB w=.ok (pV b o) w:=by kernel_rfl
theorem kx (b o:Nat)(w:World):(Instr.fieldAt 37 (pV b o) 1).run QB w=.ok (.pointer (some ⟨b,o+1,none⟩)) w:=by kernel_rfl
theorem LL (b o:Nat)(w:World):(Instr.fieldAt 37 (pV b o) 2).run QB w=.ok (.pointer (some ⟨b,o+2,none⟩)) w:=by kernel_rfl
theorem LK (b o:Nat)(w:World):(Instr.fieldAt 39 (pV b o) 0).run QB w=.ok (pV b o) w:=by kernel_rfl
theorem LJ (b o:Nat)(w:World):(Instr.fieldAt 39 (pV b o) 1).run QB w=.ok (.pointer (some ⟨b,o+1,none⟩)) w:=by kernel_rfl
theorem LI (b o:Nat)(w:World):(Instr.fieldAt 39 (pV b o) 2).run QB w=.ok (.pointer (some ⟨b,o+2,none⟩)) w:=by kernel_rfl
theorem LH (b o:Nat)(w:World):(Instr.fieldAt 39 (pV b o) 3).run QB w=.ok (.pointer (some ⟨b,o+3,none⟩)) w:=by kernel_rfl
theorem LG (b o:Nat)(w:World):(Instr.fieldAt 39 (pV b o) 4).run QB w=.ok (.pointer (some ⟨b,o+9,none⟩)) w:=by kernel_rfl
theorem LF (b o:Nat)(w:World):(Instr.fieldAt 39 (pV b o) 5).run QB w=.ok (.pointer (some ⟨b,o+12,none⟩)) w:=by kernel_rfl
theorem LE (b o:Nat)(w:World):(Instr.fieldAt 43 (pV b o) 0).run QB w=.ok (pV b o) w:=by kernel_rfl
theorem Fz (b o:Nat)(w:World):(Instr.fieldAt 43 (pV b o) 1).run QB w=.ok (.pointer (some ⟨b,o+1,none⟩)) w:=by kernel_rfl
theorem Fy (b o:Nat)(w:World):(Instr.fieldAt 43 (pV b o) 2).run QB w=.ok (.pointer (some ⟨b,o+2,none⟩)) w:=by kernel_rfl
theorem H7 (b o:Nat)(w:World):(Instr.fieldAt 43 (pV b o) 3).run QB w=.ok (.pointer (some ⟨b,o+8,none⟩)) w:=by kernel_rfl
theorem nw (b o:Nat)(w:World):(Instr.fieldAt 56 (pV b o) 0).run QB w=.ok (pV b o) w:=by kernel_rfl
theorem pN (b o:Nat)(w:World):(Instr.fieldAt 56 (pV b o) 1).run QB w=.ok (.pointer (some ⟨b,o+2,none⟩)) w:=by kernel_rfl
theorem tc (b o:Nat)(w:World):(Instr.fieldAt 56 (pV b o) 2).run QB w=.ok (.pointer (some ⟨b,o+3,none⟩)) w:=by kernel_rfl
theorem H6 (b o:Nat)(w:World):(Instr.fieldAt 56 (pV b o) 3).run QB w=.ok (.pointer (some ⟨b,o+4,none⟩)) w:=by kernel_rfl
theorem LD (b o:Nat)(w:World):(Instr.fieldAt 87 (pV b o) 0).run QB w=.ok (pV b o) w:=by kernel_rfl
theorem BT (b o:Nat)(w:World):(Instr.fieldAt 98 (pV b o) 0).run QB w=.ok (pV b o) w:=by kernel_rfl
theorem H5 (b o:Nat)(w:World):(Instr.fieldAt 98 (pV b o) 1).run QB w=.ok (.pointer (some ⟨b,o+2,none⟩)) w:=by kernel_rfl
theorem H4 (b o:Nat)(w:World):(Instr.fieldAt 98 (pV b o) 2).run QB w=.ok (.pointer (some ⟨b,o+3,none⟩)) w:=by kernel_rfl
theorem H3 (b o:Nat)(w:World):(Instr.fieldAt 98 (pV b o) 3).run QB w=.ok (.pointer (some ⟨b,o+4,none⟩)) w:=by kernel_rfl
theorem Ku (b o:Nat)(w:World):(Instr.fieldAt 130 (pV b o) 0).run QB w=.ok (pV b o) w:=by kernel_rfl
theorem GA (b o:Nat)(w:World):(Instr.fieldAt 130 (pV b o) 1).run QB w=.ok (.pointer (some ⟨b,o+2,none⟩)) w:=by kernel_rfl
theorem ux (b o:Nat)(w:World):(Instr.fieldAt 130 (pV b o) 2).run QB w=.ok (.pointer (some ⟨b,o+3,none⟩)) w:=by kernel_rfl
theorem Kt (b o:Nat)(w:World):(Instr.fieldAt 130 (pV b o) 3).run QB w=.ok (.pointer (some ⟨b,o+4,none⟩)) w:=by kernel_rfl
theorem Gz (b o:Nat)(w:World):(Instr.fieldAt 130 (pV b o) 4).run QB w=.ok (.pointer (some ⟨b,o+5,none⟩)) w:=by kernel_rfl
theorem Gy (b o:Nat)(w:World):(Instr.fieldAt 185 (pV b o) 0).run QB w=.ok (pV b o) w:=by kernel_rfl
theorem Dg (b o:Nat)(w:World):(Instr.fieldAt 185 (pV b o) 1).run QB w=.ok (.pointer (some ⟨b,o+2,none⟩)) w:=by kernel_rfl
theorem Ks (b o:Nat)(w:World):(Instr.fieldAt 185 (pV b o) 2).run QB w=.ok (.pointer (some ⟨b,o+3,none⟩)) w:=by kernel_rfl
theorem Gx (b o:Nat)(w:World):(Instr.fieldAt 185 (pV b o) 3).run QB w=.ok (.pointer (some ⟨b,o+4,none⟩)) w:=by kernel_rfl
theorem ex:ju QB 3=true:=by kernel_rfl
theorem Of:ju QB 4=true:=by kernel_rfl
theorem Oe:ju QB 9=true:=by kernel_rfl
theorem J2:ju QB 23=true:=by kernel_rfl
theorem ni:ju QB 27=true:=by kernel_rfl
theorem dr:ju QB 30=true:=by kernel_rfl
theorem NE:ju QB 33=true:=by kernel_rfl
theorem Mk:ju QB 53=true:=by kernel_rfl
theorem ND:ju QB 77=true:=by kernel_rfl
theorem zG:ju QB 82=true:=by kernel_rfl
theorem Mj:ju QB 85=true:=by kernel_rfl
theorem CT:ju QB 135=true:=by kernel_rfl
theorem MH:ju QB 181=true:=by kernel_rfl
theorem MG:ju QB 183=true:=by kernel_rfl
instance agg29:FcG QB 29 2:=⟨by kernel_rfl⟩
instance agg32:FcG QB 32 4:=⟨by kernel_rfl⟩
instance agg35:FcG QB 35 6:=⟨by kernel_rfl⟩
instance agg37:FcG QB 37 3:=⟨by kernel_rfl⟩
instance agg39:FcG QB 39 13:=⟨by kernel_rfl⟩
instance agg43:FcG QB 43 11:=⟨by kernel_rfl⟩
instance agg98:FcG QB 98 5:=⟨by kernel_rfl⟩
instance size3:FcZ QB 3 1:=⟨by kernel_rfl⟩
instance size4:FcZ QB 4 1:=⟨by kernel_rfl⟩
instance size27:FcZ QB 27 1:=⟨by kernel_rfl⟩
instance size29:FcZ QB 29 2:=⟨by kernel_rfl⟩
instance size30:FcZ QB 30 1:=⟨by kernel_rfl⟩
instance size32:FcZ QB 32 4:=⟨by kernel_rfl⟩
instance size33:FcZ QB 33 1:=⟨by kernel_rfl⟩
instance size35:FcZ QB 35 6:=⟨by kernel_rfl⟩
instance size37:FcZ QB 37 3:=⟨by kernel_rfl⟩
instance size39:FcZ QB 39 13:=⟨by kernel_rfl⟩
instance size43:FcZ QB 43 11:=⟨by kernel_rfl⟩
instance size82:FcZ QB 82 1:=⟨by kernel_rfl⟩
instance size85:FcZ QB 85 1:=⟨by kernel_rfl⟩
instance size98:FcZ QB 98 5:=⟨by kernel_rfl⟩
instance size135:FcZ QB 135 1:=⟨by kernel_rfl⟩
instance size181:FcZ QB 181 1:=⟨by kernel_rfl⟩
instance size213:FcZ QB 213 0:=⟨by kernel_rfl⟩
instance zero3:FcI QB 3 (iV 0):=⟨fun w=>by kernel_rfl⟩
instance zero4:FcI QB 4 (.bool false):=⟨fun w=>by kernel_rfl⟩
instance zero29:FcI QB 29 (.agg #[W none 0 0,W none 0 0]):=⟨fun w=>by kernel_rfl⟩
instance zero30:FcI QB 30 (W none 0 0):=⟨fun w=>by kernel_rfl⟩
instance zero32:FcI QB 32 (.agg #[W none 0 0,W none 0 0,W none 0 0,W none 0 0]):=⟨fun w=>by kernel_rfl⟩
instance zero35:FcI QB 35 (.agg #[iV 0,iV 0,iV 0,iV 0,W none 0 0,W none 0 0]):=⟨fun w=>by kernel_rfl⟩
instance zero37:FcI QB 37 (.agg #[iV 0,iV 0,.string ⟨#[]⟩]):=⟨fun w=>by kernel_rfl⟩
instance zero39:FcI QB 39 (.agg #[iV 0,iV 0,.bool false,iV 0,iV 0,iV 0,iV 0,W none 0 0,W none 0 0,iV 0,iV 0,.string ⟨#[]⟩,W none 0 0]):=⟨fun w=>by kernel_rfl⟩
instance zero82:FcI QB 82 (W none 0 0):=⟨fun w=>by kernel_rfl⟩
instance zero85:FcI QB 85 (.map none):=⟨fun w=>by kernel_rfl⟩
instance zero98:FcI QB 98 (.agg #[W none 0 0,W none 0 0,W none 0 0,W none 0 0,iV 0]):=⟨fun w=>by kernel_rfl⟩
instance zero135:FcI QB 135 (.map none):=⟨fun w=>by kernel_rfl⟩
instance zero181:FcI QB 181 (.pointer none):=⟨fun w=>by kernel_rfl⟩
instance zero213:FcI QB 213 (.agg #[]):=⟨fun w=>by kernel_rfl⟩
theorem Gt (x0_:Int)(x1_:Int)(x2_:Int)(x3_:Int)(x4_a:Option Addr)(x4_n x4_c:Nat)(x5_a:Option Addr)(x5_n x5_c:Nat)(w:World):(Instr.field 35 (.agg #[iV x0_,iV x1_,iV x2_,iV x3_,.slice x4_a x4_n x4_c,.slice x5_a x5_n x5_c]) 3).run QB w=.ok (iV x3_) w:=by kernel_rfl
theorem Gs (x0_:Int)(x1_:Int)(x2_:Int)(x3_:Int)(x4_a:Option Addr)(x4_n x4_c:Nat)(x5_a:Option Addr)(x5_n x5_c:Nat)(w:World):(Instr.field 35 (.agg #[iV x0_,iV x1_,iV x2_,iV x3_,.slice x4_a x4_n x4_c,.slice x5_a x5_n x5_c]) 5).run QB w=.ok (.slice x5_a x5_n x5_c) w:=by kernel_rfl
theorem Gq (x0_:Int)(x1_:Int)(x2_:ByteArray)(w:World):(Instr.field 37 (.agg #[iV x0_,iV x1_,.string x2_]) 1).run QB w=.ok (iV x1_) w:=by kernel_rfl
instance bld_29_:FcB QB 29 [] (.agg #[W none 0 0,W none 0 0]):=⟨fun w=>by kernel_rfl⟩
instance bld_29_0_1 (x0_a:Option Addr) (x0_n x0_c:Nat) (x1_a:Option Addr) (x1_n x1_c:Nat):FcB QB 29 [(0,.slice x0_a x0_n x0_c),(1,.slice x1_a x1_n x1_c)] (.agg #[.slice x0_a x0_n x0_c,.slice x1_a x1_n x1_c]):=⟨fun w=>by kernel_rfl⟩
instance bld_35_:FcB QB 35 [] (.agg #[iV 0,iV 0,iV 0,iV 0,W none 0 0,W none 0 0]):=⟨fun w=>by kernel_rfl⟩
instance bld_35_0_1_2_3 (x0_:Int) (x1_:Int) (x2_:Int) (x3_:Int):FcB QB 35 [(0,iV x0_),(1,iV x1_),(2,iV x2_),(3,iV x3_)] (.agg #[iV x0_,iV x1_,iV x2_,iV x3_,W none 0 0,W none 0 0]):=⟨fun w=>by kernel_rfl⟩
instance bld_35_0_1_2_3_4_5 (x0_:Int) (x1_:Int) (x2_:Int) (x3_:Int) (x4_a:Option Addr) (x4_n x4_c:Nat) (x5_a:Option Addr) (x5_n x5_c:Nat):FcB QB 35 [(0,iV x0_),(1,iV x1_),(2,iV x2_),(3,iV x3_),(4,.slice x4_a x4_n x4_c),(5,.slice x5_a x5_n x5_c)] (.agg #[iV x0_,iV x1_,iV x2_,iV x3_,.slice x4_a x4_n x4_c,.slice x5_a x5_n x5_c]):=⟨fun w=>by kernel_rfl⟩
instance bld_35_0_5 (x0_:Int) (x5_a:Option Addr) (x5_n x5_c:Nat):FcB QB 35 [(0,iV x0_),(5,.slice x5_a x5_n x5_c)] (.agg #[iV x0_,iV 0,iV 0,iV 0,W none 0 0,.slice x5_a x5_n x5_c]):=⟨fun w=>by kernel_rfl⟩
instance bld_35_5 (x5_a:Option Addr) (x5_n x5_c:Nat):FcB QB 35 [(5,.slice x5_a x5_n x5_c)] (.agg #[iV 0,iV 0,iV 0,iV 0,W none 0 0,.slice x5_a x5_n x5_c]):=⟨fun w=>by kernel_rfl⟩
instance bld_37_:FcB QB 37 [] (.agg #[iV 0,iV 0,.string ⟨#[]⟩]):=⟨fun w=>by kernel_rfl⟩
instance bld_37_0_1 (x0_:Int) (x1_:Int):FcB QB 37 [(0,iV x0_),(1,iV x1_)] (.agg #[iV x0_,iV x1_,.string ⟨#[]⟩]):=⟨fun w=>by kernel_rfl⟩
instance bld_39_:FcB QB 39 [] (.agg #[iV 0,iV 0,.bool false,iV 0,iV 0,iV 0,iV 0,W none 0 0,W none 0 0,iV 0,iV 0,.string ⟨#[]⟩,W none 0 0]):=⟨fun w=>by kernel_rfl⟩
instance bld_39_0 (x0_:Int):FcB QB 39 [(0,iV x0_)] (.agg #[iV x0_,iV 0,.bool false,iV 0,iV 0,iV 0,iV 0,W none 0 0,W none 0 0,iV 0,iV 0,.string ⟨#[]⟩,W none 0 0]):=⟨fun w=>by kernel_rfl⟩
instance bld_39_1 (x1_:Int):FcB QB 39 [(1,iV x1_)] (.agg #[iV 0,iV x1_,.bool false,iV 0,iV 0,iV 0,iV 0,W none 0 0,W none 0 0,iV 0,iV 0,.string ⟨#[]⟩,W none 0 0]):=⟨fun w=>by kernel_rfl⟩
instance bld_39_2 (x2_:Bool):FcB QB 39 [(2,.bool x2_)] (.agg #[iV 0,iV 0,.bool x2_,iV 0,iV 0,iV 0,iV 0,W none 0 0,W none 0 0,iV 0,iV 0,.string ⟨#[]⟩,W none 0 0]):=⟨fun w=>by kernel_rfl⟩
instance bld_39_2_3 (x2_:Bool) (x3_0_:Int) (x3_1_:Int) (x3_2_:Int) (x3_3_:Int) (x3_4_a:Option Addr) (x3_4_n x3_4_c:Nat) (x3_5_a:Option Addr) (x3_5_n x3_5_c:Nat):FcB QB 39 [(2,.bool x2_),(3,.agg #[iV x3_0_,iV x3_1_,iV x3_2_,iV x3_3_,.slice x3_4_a x3_4_n x3_4_c,.slice x3_5_a x3_5_n x3_5_c])] (.agg #[iV 0,iV 0,.bool x2_,iV x3_0_,iV x3_1_,iV x3_2_,iV x3_3_,.slice x3_4_a x3_4_n x3_4_c,.slice x3_5_a x3_5_n x3_5_c,iV 0,iV 0,.string ⟨#[]⟩,W none 0 0]):=⟨fun w=>by kernel_rfl⟩
instance bld_39_4 (x4_0_:Int) (x4_1_:Int) (x4_2_:ByteArray):FcB QB 39 [(4,.agg #[iV x4_0_,iV x4_1_,.string x4_2_])] (.agg #[iV 0,iV 0,.bool false,iV 0,iV 0,iV 0,iV 0,W none 0 0,W none 0 0,iV x4_0_,iV x4_1_,.string x4_2_,W none 0 0]):=⟨fun w=>by kernel_rfl⟩
instance bld_39_5 (x5_a:Option Addr) (x5_n x5_c:Nat):FcB QB 39 [(5,.slice x5_a x5_n x5_c)] (.agg #[iV 0,iV 0,.bool false,iV 0,iV 0,iV 0,iV 0,W none 0 0,W none 0 0,iV 0,iV 0,.string ⟨#[]⟩,.slice x5_a x5_n x5_c]):=⟨fun w=>by kernel_rfl⟩
instance bld_56_3 (x3_:Option Addr):FcB QB 56 [(3,.pointer x3_)] (.agg #[W none 0 0,W none 0 0,W none 0 0,W none 0 0,.pointer x3_]):=⟨fun w=>by kernel_rfl⟩
instance bld_87_0 (x0_:Option Nat):FcB QB 87 [(0,.map x0_)] (.agg #[.map x0_]):=⟨fun w=>by kernel_rfl⟩
instance bld_98_1 (x1_a:Option Addr) (x1_n x1_c:Nat):FcB QB 98 [(1,.slice x1_a x1_n x1_c)] (.agg #[W none 0 0,W none 0 0,.slice x1_a x1_n x1_c,W none 0 0,iV 0]):=⟨fun w=>by kernel_rfl⟩
instance bld_98_3 (x3_:Int):FcB QB 98 [(3,iV x3_)] (.agg #[W none 0 0,W none 0 0,W none 0 0,W none 0 0,iV x3_]):=⟨fun w=>by kernel_rfl⟩
instance bld_130_0_1_3 (x0_0_a:Option Addr) (x0_0_n x0_0_c:Nat) (x0_1_a:Option Addr) (x0_1_n x0_1_c:Nat) (x1_a:Option Addr) (x1_n x1_c:Nat) (x3_:Option Nat):FcB QB 130 [(0,.agg #[.slice x0_0_a x0_0_n x0_0_c,.slice x0_1_a x0_1_n x0_1_c]),(1,.slice x1_a x1_n x1_c),(3,.map x3_)] (.agg #[.slice x0_0_a x0_0_n x0_0_c,.slice x0_1_a x0_1_n x0_1_c,.slice x1_a x1_n x1_c,W none 0 0,.map x3_,iV 0]):=⟨fun w=>by kernel_rfl⟩
instance bld_185_0_2 (x0_0_a:Option Addr) (x0_0_n x0_0_c:Nat) (x0_1_a:Option Addr) (x0_1_n x0_1_c:Nat) (x2_:Option Nat):FcB QB 185 [(0,.agg #[.slice x0_0_a x0_0_n x0_0_c,.slice x0_1_a x0_1_n x0_1_c]),(2,.map x2_)] (.agg #[.slice x0_0_a x0_0_n x0_0_c,.slice x0_1_a x0_1_n x0_1_c,W none 0 0,.map x2_,iV 0]):=⟨fun w=>by kernel_rfl⟩
instance bld_213_:FcB QB 213 [] (.agg #[]):=⟨fun w=>by kernel_rfl⟩
theorem xh  (w:World):(Instr.buildSlice 27 0 #[]).run QB w=.ok (.slice (some ⟨w.heap.size,0,none⟩) 0 0) (w.alloc (.cells #[] 35)):=by kernel_rfl
theorem mf (x0_0_:Int)(x0_1_:Int)(x0_2_:Int)(x0_3_:Int)(x0_4_a:Option Addr)(x0_4_n x0_4_c:Nat)(x0_5_a:Option Addr)(x0_5_n x0_5_c:Nat)(w:World):(Instr.buildSlice 27 1 #[(0,.agg #[iV x0_0_,iV x0_1_,iV x0_2_,iV x0_3_,.slice x0_4_a x0_4_n x0_4_c,.slice x0_5_a x0_5_n x0_5_c])]).run QB w=.ok (.slice (some ⟨w.heap.size,0,none⟩) 1 1) (w.alloc (.cells #[iV x0_0_,iV x0_1_,iV x0_2_,iV x0_3_,.slice x0_4_a x0_4_n x0_4_c,.slice x0_5_a x0_5_n x0_5_c] 35)):=by kernel_rfl
theorem kT  (w:World):(Instr.buildSlice 30 0 #[]).run QB w=.ok (.slice (some ⟨w.heap.size,0,none⟩) 0 0) (w.alloc (.cells #[] 37)):=by kernel_rfl
theorem oX (x0_0_:Int)(x0_1_:Int)(x0_2_:ByteArray)(w:World):(Instr.buildSlice 30 1 #[(0,.agg #[iV x0_0_,iV x0_1_,.string x0_2_])]).run QB w=.ok (.slice (some ⟨w.heap.size,0,none⟩) 1 1) (w.alloc (.cells #[iV x0_0_,iV x0_1_,.string x0_2_] 37)):=by kernel_rfl
theorem GM (x0_0_:Int)(x0_1_:Int)(x0_2_:ByteArray)(x1_0_:Int)(x1_1_:Int)(x1_2_:ByteArray)(w:World):(Instr.buildSlice 30 2 #[(0,.agg #[iV x0_0_,iV x0_1_,.string x0_2_]),(1,.agg #[iV x1_0_,iV x1_1_,.string x1_2_])]).run QB w=.ok (.slice (some ⟨w.heap.size,0,none⟩) 2 2) (w.alloc (.cells #[iV x0_0_,iV x0_1_,.string x0_2_,iV x1_0_,iV x1_1_,.string x1_2_] 37)):=by kernel_rfl
theorem GL (x0_0_:Int)(x0_1_:Int)(x0_2_:ByteArray)(x1_0_:Int)(x1_1_:Int)(x1_2_:ByteArray)(x2_0_:Int)(x2_1_:Int)(x2_2_:ByteArray)(w:World):(Instr.buildSlice 30 3 #[(0,.agg #[iV x0_0_,iV x0_1_,.string x0_2_]),(1,.agg #[iV x1_0_,iV x1_1_,.string x1_2_]),(2,.agg #[iV x2_0_,iV x2_1_,.string x2_2_])]).run QB w=.ok (.slice (some ⟨w.heap.size,0,none⟩) 3 3) (w.alloc (.cells #[iV x0_0_,iV x0_1_,.string x0_2_,iV x1_0_,iV x1_1_,.string x1_2_,iV x2_0_,iV x2_1_,.string x2_2_] 37)):=by kernel_rfl
theorem GK (x0_0_:Int)(x0_1_:Int)(x0_2_:ByteArray)(x1_0_:Int)(x1_1_:Int)(x1_2_:ByteArray)(x2_0_:Int)(x2_1_:Int)(x2_2_:ByteArray)(x3_0_:Int)(x3_1_:Int)(x3_2_:ByteArray)(w:World):(Instr.buildSlice 30 4 #[(0,.agg #[iV x0_0_,iV x0_1_,.string x0_2_]),(1,.agg #[iV x1_0_,iV x1_1_,.string x1_2_]),(2,.agg #[iV x2_0_,iV x2_1_,.string x2_2_]),(3,.agg #[iV x3_0_,iV x3_1_,.string x3_2_])]).run QB w=.ok (.slice (some ⟨w.heap.size,0,none⟩) 4 4) (w.alloc (.cells #[iV x0_0_,iV x0_1_,.string x0_2_,iV x1_0_,iV x1_1_,.string x1_2_,iV x2_0_,iV x2_1_,.string x2_2_,iV x3_0_,iV x3_1_,.string x3_2_] 37)):=by kernel_rfl
theorem uz  (w:World):(Instr.buildSlice 82 0 #[]).run QB w=.ok (.slice (some ⟨w.heap.size,0,none⟩) 0 0) (w.alloc (.cells #[] 3)):=by kernel_rfl
theorem dp (x0_:Int)(w:World):(Instr.buildSlice 82 1 #[(0,iV x0_)]).run QB w=.ok (.slice (some ⟨w.heap.size,0,none⟩) 1 1) (w.alloc (.cells #[iV x0_] 3)):=by kernel_rfl
theorem KN (x0_:Int)(x1_:Int)(w:World):(Instr.buildSlice 82 2 #[(0,iV x0_),(1,iV x1_)]).run QB w=.ok (.slice (some ⟨w.heap.size,0,none⟩) 2 2) (w.alloc (.cells #[iV x0_,iV x1_] 3)):=by kernel_rfl
theorem lj (x0_a:Option Addr)(x0_n x0_c:Nat)(x1_a:Option Addr)(x1_n x1_c:Nat)(w:World):(Instr.buildSlice 103 2 #[(0,.slice x0_a x0_n x0_c),(1,.slice x1_a x1_n x1_c)]).run QB w=.ok (.slice (some ⟨w.heap.size,0,none⟩) 2 2) (w.alloc (.cells #[.slice x0_a x0_n x0_c,.slice x1_a x1_n x1_c] 30)):=by kernel_rfl
theorem AU (x0_a:Option Addr)(x0_n x0_c:Nat)(x1_a:Option Addr)(x1_n x1_c:Nat)(w:World):(Instr.buildSlice 106 2 #[(0,.slice x0_a x0_n x0_c),(1,.slice x1_a x1_n x1_c)]).run QB w=.ok (.slice (some ⟨w.heap.size,0,none⟩) 2 2) (w.alloc (.cells #[.slice x0_a x0_n x0_c,.slice x1_a x1_n x1_c] 27)):=by kernel_rfl
theorem EF (x0_a:Option Addr)(x0_n x0_c:Nat)(x1_a:Option Addr)(x1_n x1_c:Nat)(w:World):(Instr.buildSlice 148 2 #[(0,.slice x0_a x0_n x0_c),(1,.slice x1_a x1_n x1_c)]).run QB w=.ok (.slice (some ⟨w.heap.size,0,none⟩) 2 2) (w.alloc (.cells #[.slice x0_a x0_n x0_c,.slice x1_a x1_n x1_c] 82)):=by kernel_rfl
theorem Jp (x0_:Bool)(w:World):(Instr.buildSlice 171 1 #[(0,.bool x0_)]).run QB w=.ok (.slice (some ⟨w.heap.size,0,none⟩) 1 1) (w.alloc (.cells #[.bool x0_] 4)):=by kernel_rfl
theorem uE:vT QB 3 1 8=true:=by kernel_rfl
theorem OU:vT QB 4 1 1=true:=by kernel_rfl
theorem tt:vT QB 35 6 80=true:=by kernel_rfl
theorem lF:vT QB 37 3 32=true:=by kernel_rfl
instance:Fc (ju QB 3=true):=⟨ex⟩
instance:Fc (ju QB 4=true):=⟨Of⟩
instance:Fc (ju QB 9=true):=⟨Oe⟩
instance:Fc (ju QB 23=true):=⟨J2⟩
instance:Fc (ju QB 27=true):=⟨ni⟩
instance:Fc (ju QB 30=true):=⟨dr⟩
instance:Fc (ju QB 33=true):=⟨NE⟩
instance:Fc (ju QB 53=true):=⟨Mk⟩
instance:Fc (ju QB 77=true):=⟨ND⟩
instance:Fc (ju QB 82=true):=⟨zG⟩
instance:Fc (ju QB 85=true):=⟨Mj⟩
instance:Fc (ju QB 135=true):=⟨CT⟩
instance:Fc (ju QB 181=true):=⟨MH⟩
instance:Fc (ju QB 183=true):=⟨MG⟩
instance:FcA0 QB 29 0:=⟨ny⟩
instance:FcA QB 29 1 1:=⟨lC⟩
instance:FcA0 QB 32 0:=⟨oQ⟩
instance:FcA QB 32 1 2:=⟨te⟩
instance:FcA QB 32 2 3:=⟨FA⟩
instance:FcA0 QB 35 0:=⟨Ia⟩
instance:FcA QB 35 1 1:=⟨H9⟩
instance:FcA QB 35 2 2:=⟨H8⟩
instance:FcA QB 35 3 3:=⟨td⟩
instance:FcA QB 35 4 4:=⟨pO⟩
instance:FcA QB 35 5 5:=⟨dT⟩
instance:FcA0 QB 37 0:=⟨fE⟩
instance:FcA QB 37 1 1:=⟨kx⟩
instance:FcA QB 37 2 2:=⟨LL⟩
instance:FcA0 QB 39 0:=⟨LK⟩
instance:FcA QB 39 1 1:=⟨LJ⟩
instance:FcA QB 39 2 2:=⟨LI⟩
instance:FcA QB 39 3 3:=⟨LH⟩
instance:FcA QB 39 4 9:=⟨LG⟩
instance:FcA QB 39 5 12:=⟨LF⟩
instance:FcA0 QB 43 0:=⟨LE⟩
instance:FcA QB 43 1 1:=⟨Fz⟩
instance:FcA QB 43 2 2:=⟨Fy⟩
instance:FcA QB 43 3 8:=⟨H7⟩
instance:FcA0 QB 56 0:=⟨nw⟩
instance:FcA QB 56 1 2:=⟨pN⟩
instance:FcA QB 56 2 3:=⟨tc⟩
instance:FcA QB 56 3 4:=⟨H6⟩
instance:FcA0 QB 87 0:=⟨LD⟩
instance:FcA0 QB 98 0:=⟨BT⟩
instance:FcA QB 98 1 2:=⟨H5⟩
instance:FcA QB 98 2 3:=⟨H4⟩
instance:FcA QB 98 3 4:=⟨H3⟩
instance:FcA0 QB 130 0:=⟨Ku⟩
instance:FcA QB 130 1 2:=⟨GA⟩
instance:FcA QB 130 2 3:=⟨ux⟩
instance:FcA QB 130 3 4:=⟨Kt⟩
instance:FcA QB 130 4 5:=⟨Gz⟩
instance:FcA0 QB 185 0:=⟨Gy⟩
instance:FcA QB 185 1 2:=⟨Dg⟩
instance:FcA QB 185 2 3:=⟨Ks⟩
instance:FcA QB 185 3 4:=⟨Gx⟩
instance:FcS QB 22 43:=⟨t5⟩
instance:FcS QB 27 35:=⟨t9⟩
instance:FcS QB 30 37:=⟨z9⟩
instance:FcS QB 82 3:=⟨Ex⟩
instance:FcS QB 106 27:=⟨EM⟩
instance:FcS QB 171 4:=⟨Tryz.underlying171⟩
instance:RepF ak (fun x=> [iV x.Kind,iV x.N,.string x.S]):=⟨fun _ _ _ _ h=>h⟩
theorem Eh:Tryz.prog.eqGuardType Tryz.prog.depth 37=false:=by kernel_rfl
theorem If (x y:Qn)(w:World):(Op.equalIn 10000 37 ((bD x)) ((bD y))).run QB w=.ok (decide (x=y)) w:=by
 obtain ⟨xKind,xN,xS⟩:=x;obtain ⟨yKind,yN,yS⟩:=y;show (Op.equalIn 10000 37 (.agg #[iV xKind,iV xN,.string xS]) (.agg #[iV yKind,iV yN,.string yS])).run QB w=_
 go_simp
 simp only [KM];by_cases h0:xKind=yKind<;>by_cases h1:xN=yN<;>by_cases h2:xS=yS<;>simp [h0,h1,h2]
theorem Kw {s:ca}{C:World->Prop}{d:Option Nat}{ty u:TypeId}{pos:String}{af:Array Edge}{gd:Option (Nat×Bool)}{a b:Operand}{x y:Qn}(hx:cg s a=some ((bD x)))(hy:cg s b=some ((bD y))):Ev QB s C ⟨d,.binOp .eql 37 a b u,ty,pos,af,gd⟩ (.bool (decide (x=y))):=
 jM hx hy fun w=>by
  rw [Sem.run_bind,run_eqGuard_agg w _ _ _ _ _ _ Eh];simp only [Result.andThen_ok];rw [run_eql_struct,If];rfl
theorem Ek {s:ca}{C:World->Prop}{d:Option Nat}{ty u:TypeId}{pos:String}{af:Array Edge}{gd:Option (Nat×Bool)}{a b:Operand}{x y:Qn}(hx:cg s a=some ((bD x)))(hy:cg s b=some ((bD y))):Ev QB s C ⟨d,.binOp .neq 37 a b u,ty,pos,af,gd⟩ (.bool (!decide (x=y))):=
 jM hx hy fun w=>by
  rw [Sem.run_bind,run_eqGuard_agg w _ _ _ _ _ _ Eh];simp only [Result.andThen_ok];rw [run_neq_struct,If];rfl
def uL (N:Nat):Option Qo:=
 some (⟨([]:Qz)⟩:Qo)
theorem Dy {N:Nat}{r:Qo}(h:uL N=some r):Okc QB 17 [] ([]) (fun u post=> ∃B0 M1,u=pV B0 0/\post=[ah B0 87 [.map (some M1)],bj cx dW M1 r.at_]):=by
 refine cQ Tryz.func17 ?_;refine gD (va (ek:=cx) (ev:=dW)) ?_;rintro _ _ ⟨M1,rfl,rfl⟩;refine ae ?_;intro B2;exact eY
def vo (N:Nat):Option Qe:=
 (uL N).bind fun y1=>some (⟨(⟨[],[]⟩:Qg),[],[],y1⟩:Qe)
theorem Bn {N:Nat}{r:Qe}(h:vo N=some r):Okc QB 4 [] ([]) (fun u post=> ∃B0 A1 n1 c1 A2 n2 c2 A3 n3 c3 A4 n4 c4 B5 M6,u=pV B0 0/\post=[ah B0 56 [W A1 n1 c1,W A2 n2 c2,W A3 n3 c3,W A4 n4 c4,pV B5 0],bY A1 n1 c1 r.m_.Young,bY A2 n2 c2 r.m_.Old,bh A3 n3 c3 r.roots_,bh A4 n4 c4 r.pending_,ah B5 87 [.map (some M6)],bj cx dW M6 r.set_.at_]):=by
 refine cQ Tryz.func4 ?_;obtain ⟨y1,k,h⟩:=aa h;refine gD (oC (Dy k)) ?_;rintro _ _ ⟨_,⟨B2,M3,rfl,rfl⟩,rfl⟩
 refine gg fun B4=> ?_
 obtain rfl:=bw h;exact js J J ((aD bT 35 _).trans ((aD bT 35 _).trans ((aD ak 37 _).trans ((aD ak 37 _).trans (cS [4,3,2,1,0,5,6] 7))))) ⟨_,_,_,_,_,_,_,_,_,_,_,_,_,_,_,J,J⟩
def yV (N:Nat):Option Bool:=
 some true
def mi (N:Nat)(a0:List Qc):Nat->Int->Option Bool
 |0,_=>none
 |m4+1,p5=>bif decide (p5<(a0.length:Int)) then ((aw a0 p5).bind fun x7=>(bif decide (20<(x7.C.Slots.length:Int)) then (some true) else ((aw a0 p5).bind fun x12=>some (decide (20<(x12.C.More.length:Int))))).bind fun b11=>bif b11 then (some false) else (aZ (in64 (p5+1)) ((mi N a0 m4) (p5+1)))) else (yV N)
def sx (N:Nat)(a0:List Qc):Option Bool:=
 bif decide (40<(a0.length:Int)) then (some false) else (mi N a0 N 0)
theorem ER {N:Nat}{a0:List Qc}{r:Bool}(h:sx N a0=some r):Okc QB 5 [W A1 n1 c1] ([o5 E1 (W A1 n1 c1) a0]) (fun u post=>u=.bool r/\post=[]):=by
 refine rQ Tryz.func5 J J ?_;simp only [jr];refine Y ?_;refine ay ?_;refine Y ?_;refine gR (cC 0 J ao J t5) ?_;refine Y ?_;refine gH J h ?_ ?_<;>intro h
 ·refine Y ?_;obtain rfl:=bw h;exact js J J (cS [] 1) ⟨J,J⟩
 refine Y ?_;refine am (fun s L=>yV N=some r/\s=[(2,.bool false)]/\L=[]) ?_ ?_
 ·refine Y ?_;refine aH (fun m s L=> ∃p5,mi N a0 m p5=some r/\s=[(0,W A1 n1 c1),(2,.bool false),(3,iV p5)]/\L=[o5 E1 (W A1 n1 c1) a0]) N _ _ ⟨0,h,J,J⟩ sA (cS [0] 1) ?_;rintro (_|m4) _ _ ⟨p5,h,rfl,rfl⟩
  ·exact aj h
  rw [mi.eq_2] at h;refine ay ?_;refine Y ?_;refine gR (cC 0 J ao J t5) ?_;refine Y ?_;refine gH J h ?_ ?_<;>intro h
  ·refine Y ?_;refine ay ?_;refine Y ?_;obtain ⟨x7,lx7,ux7,hx7,h⟩:=aU h;refine gR (bf 0 J ao J J t5 size43.out lx7 ux7) ?_;refine gR (mJ 0 J ao J (bc lx7 ux7) Fy) ?_;refine gR (mJ 0 J ao J (bc lx7 ux7) pO) ?_;refine mL 0 J hx7 (zC x7) ?_;rintro _ _ ⟨A8,n8,c8,A9,n9,c9,rfl,rfl⟩;refine gR (HL 0 J J dr J) ?_;refine gR (cC 1 J ao J z9) ?_;refine Y ?_;obtain ⟨b11,hb11,h⟩:=aa h;refine aQ 9 30 b11 ?_ ?_
   ·clear h;refine aM 21 J (fun g11=> ?_) (fun g11=> ?_)
    ·have h:=aE g11 hb11;refine Y ?_;obtain rfl:=bw h;exact cH sA (cS [0,1,2,3] 4)
    have h:=aF g11 hb11;refine Y ?_;obtain ⟨x12,lx12,ux12,hx12,h⟩:=aU h;refine mH (bf 3 J ao J J t5 size43.out lx12 ux12) J (dh g11 J) J ?_;refine mH (mJ 3 J ao J (bc lx12 ux12) Fy) J (dh g11 J) J ?_;refine mH (mJ 3 J ao J (bc lx12 ux12) dT) J (dh g11 J) J ?_;refine mL 3 J hx12 (zC x12) ?_;rintro _ _ ⟨A13,n13,c13,A14,n14,c14,rfl,rfl⟩;refine mH (HL 0 J J dr J) J (dh g11 J) J ?_;refine mH (cC 2 J ao J z9) J (dh g11 J) J ?_;refine Y ?_;obtain rfl:=bw h;exact cH sA (cS [3,4,5,6] 7)
   refine Y ?_;refine gH J h ?_ ?_<;>intro h
   ·refine Y ?_;obtain rfl:=bw h;exact js J J (cS [] 4) ⟨J,J⟩
   refine Y ?_;obtain ⟨q17,h⟩:=ad h;refine gE (cr J J q17.1 q17.2) ?_;refine Y ?_;exact ⟨m4,_,_,Qu _,⟨p5+1,h,J,J⟩,sA,cS [3] 4⟩
  refine Y ?_;exact ⟨_,_,⟨h,J,J⟩,sA,cS [] 1⟩
 rintro _ _ ⟨h,rfl,rfl⟩;refine Y ?_;obtain rfl:=bw h;exact js J J (cS [] 0) ⟨J,J⟩
theorem Cc {r:Bool}: ∀v post,((fun (u:Value) (post:List Chunk)=>u=.bool r/\post=[])) v post-> ∀c∈post,fu c:=by
 rintro _ _ ⟨rfl,rfl⟩;exact ax
def Ap (N:Nat)(a0:Qr):Option Ql:=
 some (⟨11,0,0,0,[],a0⟩:Ql)
theorem Cd {N:Nat}{a0:Qr}{r:Ql}(h:Ap N a0=some r):Okc QB 19 [W A1 n1 c1] ([az A1 n1 c1 a0]) (fun u post=> ∃A0 n0 c0 A1 n1 c1,u=.agg #[iV r.Kind,iV r.Shape,iV r.Flags,iV r.Age,W A0 n0 c0,W A1 n1 c1]/\post=[az A0 n0 c0 r.Slots,az A1 n1 c1 r.More]):=by
 refine cQ Tryz.func19 ?_;intro B2;refine ae ?_;obtain rfl:=bw h;exact dt (rs:=[.cell 2 35]) (vs:=[.agg #[iV 11,iV 0,iV 0,iV 0,W none 0 0,W A1 n1 c1]]) J (.cons (bd 0 J J agg35.out) .nil) J ((cq ak _).trans (cS [0,2] 3)) ⟨_,_,_,_,_,_,J,J⟩
def aI (N:Nat)(a0:Qe):Option Bool:=
 some false
theorem bL {N:Nat}{a0:Qe}{r:Bool}(h:aI N a0=some r):Okc QB 36 [pV B1 0] ([bu B1 56 [W A2 n2 c2,W A3 n3 c3,W A4 n4 c4,W A5 n5 c5,pV B6 0],aK A2 n2 c2 a0.m_.Young,aK A3 n3 c3 a0.m_.Old,az A4 n4 c4 a0.roots_,az A5 n5 c5 a0.pending_,bu B6 87 [.map (some M7)],nB cx dW M7 a0.set_.at_]) (fun u post=>u=.bool r/\post=[]):=by
 refine cQ Tryz.func36 ?_;refine lh (pq J P0) ?_;refine lh (pq J P1) ?_;exact eN
def kS (N:Nat){σ:Type}(fy:(Bool×Qn)->σ->Option (Bool×σ))(a1:Ql):Nat->Int->σ->Option σ
 |0,_,_=>none
 |m15+1,p16,p17=>bif decide (p16<(a1.More.length:Int)) then ((aw a1.More p16).bind fun x19=>(bif !decide (a1.Kind=8) then ((bif !decide (a1.Kind=10) then (some true) else (some (decide (p16.tmod 2=0)))).bind fun b22=>some b22) else (some false)).bind fun b21=>(fy (b21,x19) p17).bind fun y23=>bif !y23.1 then (some y23.2) else (aZ (in64 (p16+1)) ((kS N fy a1 m15) (p16+1) y23.2))) else (some p17)
def se (N:Nat){σ:Type}(fy:(Bool×Qn)->σ->Option (Bool×σ))(a1:Ql)(p5:σ):Option σ:=
 kS N fy a1 N 0 p5
def jR (N:Nat){σ:Type}(fy:(Bool×Qn)->σ->Option (Bool×σ))(a1:Ql):Nat->Int->σ->Option σ
 |0,_,_=>none
 |m6+1,p7,p8=>bif decide (p7<(a1.Slots.length:Int)) then ((aw a1.Slots p7).bind fun x10=>(fy (true,x10) p8).bind fun y12=>bif !y12.1 then (some y12.2) else (aZ (in64 (p7+1)) ((jR N fy a1 m6) (p7+1) y12.2))) else (se N fy a1 p8)
def nk (N:Nat){σ:Type}(a1:Ql)(fy:(Bool×Qn)->σ->Option (Bool×σ))(s0:σ):Option σ:=
 jR N fy a1 N 0 s0
theorem xg {N:Nat}{σ:Type}{a1:Ql}{fy:(Bool×Qn)->σ->Option (Bool×σ)}{s0:σ}{r:σ}(h:nk N a1 fy s0=some r){l:Nat}{G:σ->List Chunk}(hY:ts QB l G (fun x=> [.bool x.1,(bD x.2)]) fy):Okc QB 130 [.func (.yield l) #[] #[],pV B1 0] (bu B1 35 [iV a1.Kind,iV a1.Shape,iV a1.Flags,iV a1.Age,W A2 n2 c2,W A3 n3 c3]::az A2 n2 c2 a1.Slots::az A3 n3 c3 a1.More::(G s0)) (fun u post=>u=.tuple #[]/\post=G r):=by
 refine rQ Tryz.func130 J J ?_;simp only [jr];refine am (fun s L=> ∃p5,se N fy a1 p5=some r/\s=[(0,.func (.yield l) #[] #[]),(1,pV B1 0)]/\L=az A2 n2 c2 a1.Slots::az A3 n3 c3 a1.More::bu B1 35 [iV a1.Kind,iV a1.Shape,iV a1.Flags,iV a1.Age,W A2 n2 c2,W A3 n3 c3]::(G p5)) ?_ ?_
 ·refine ae ?_;refine aH (fun m s L=> ∃p7 p8,jR N fy a1 m p7 p8=some r/\s=[(0,.func (.yield l) #[] #[]),(1,pV B1 0),(9,W A2 n2 c2),(10,iV (a1.Slots.length:Int)),(11,iV p7)]/\L=az A2 n2 c2 a1.Slots::az A3 n3 c3 a1.More::bu B1 35 [iV a1.Kind,iV a1.Shape,iV a1.Flags,iV a1.Age,W A2 n2 c2,W A3 n3 c3]::(G p8)) N _ _ ⟨0,s0,h,J,J⟩ sA (cS [1,2,0] 3) ?_;rintro (_|m6) _ _ ⟨p7,p8,h,rfl,rfl⟩
  ·exact aj h
  rw [jR.eq_2] at h;refine ae ?_;refine ay ?_;refine gH J h ?_ ?_<;>intro h
  ·refine sY ?_;obtain ⟨x10,lx10,ux10,hx10,h⟩:=aU h
   refine gg fun B11=> ?_
   obtain ⟨y12,k,h⟩:=aa h;refine gD (xE (a:=(true,x10)) [ah B11 37 (be x10),az A2 n2 c2 a1.Slots,az A3 n3 c3 a1.More,bu B1 35 [iV a1.Kind,iV a1.Shape,iV a1.Flags,iV a1.Age,W A2 n2 c2,W A3 n3 c3]] hY k J J) ?_;rintro _ _ ⟨rfl,rfl⟩;refine ew h ?_ ?_<;>intro h
   ·exact eY
   refine ae ?_;obtain ⟨q14,h⟩:=ad h;exact lY
  exact jY
 rintro _ _ ⟨p5,h,rfl,rfl⟩;refine ae ?_;refine aH (fun m s L=> ∃p16 p17,kS N fy a1 m p16 p17=some r/\s=[(0,.func (.yield l) #[] #[]),(1,pV B1 0),(21,W A3 n3 c3),(22,iV (a1.More.length:Int)),(23,iV p16)]/\L=az A3 n3 c3 a1.More::az A2 n2 c2 a1.Slots::bu B1 35 [iV a1.Kind,iV a1.Shape,iV a1.Flags,iV a1.Age,W A2 n2 c2,W A3 n3 c3]::(G p17)) N _ _ ⟨0,p5,h,J,J⟩ sA (cS [1,0,2] 3) ?_;rintro (_|m15) _ _ ⟨p16,p17,h,rfl,rfl⟩
 ·exact aj h
 rw [kS.eq_2] at h;refine ae ?_;refine ay ?_;refine gH J h ?_ ?_<;>intro h
 ·refine sY ?_;obtain ⟨x19,lx19,ux19,hx19,h⟩:=aU h
  refine gg fun B20=> ?_
  obtain ⟨b21,hb21,h⟩:=aa h;refine aQ 9 40 b21 ?_ ?_
  ·clear h;refine aM 31 J (fun g21=> ?_) (fun g21=> ?_)
   ·have h:=aE g21 hb21;refine ae ?_;obtain ⟨b22,hb22,h⟩:=aa h;refine aQ 4 39 b22 ?_ ?_
    ·clear h;refine aM 35 J (fun g22=> ?_) (fun g22=> ?_)
     ·have h:=aE g22 hb22;exact gY
     have h:=aF g22 hb22;refine ae ?_;refine su (ky J J (by decide)) J (dh g22 J) J ?_;exact gY
    exact gY
   have h:=aF g21 hb21;exact gY
  refine ae ?_;obtain ⟨y23,k,h⟩:=aa h;refine gD (xE (a:=(b21,x19)) [ah B20 37 (be x19),az A3 n3 c3 a1.More,az A2 n2 c2 a1.Slots,bu B1 35 [iV a1.Kind,iV a1.Shape,iV a1.Flags,iV a1.Age,W A2 n2 c2,W A3 n3 c3]] hY k J J) ?_;rintro _ _ ⟨rfl,rfl⟩;refine ew h ?_ ?_<;>intro h
  ·exact eY
  refine ae ?_;obtain ⟨q25,h⟩:=ad h;exact lY
 exact eY
def sf (N:Nat)(a0:Ql):Option Unit:=
 some ()
theorem Bx {N:Nat}{a0:Ql}{r:Unit}(h:sf N a0=some r):Okc QB 80 [.agg #[iV a0.Kind,iV a0.Shape,iV a0.Flags,iV a0.Age,W A1 n1 c1,W A2 n2 c2]] ([az A1 n1 c1 a0.Slots,az A2 n2 c2 a0.More]) (fun u post=> ∃B900,u=.func (.func 130) #[] #[pV B900 0]/\post=[ah B900 35 [iV a0.Kind,iV a0.Shape,iV a0.Flags,iV a0.Age,W A1 n1 c1,W A2 n2 c2]]):=by
 refine cQ Tryz.func80 ?_;intro B3;refine ae ?_;refine lh (ei J) ?_;exact eN
def qr (N:Nat)(a0:Qn)(p10:Bool):Option Bool:=
 bif p10 then (some (decide (1<=a0.N))) else ((bif decide (a0.N=0) then (some (decide (0<=a0.Kind))) else (some false)).bind fun b14=>(bif b14 then (some (decide (a0.Kind<=9))) else (some false)).bind fun b15=>some b15)
def vC (N:Nat)(a0:Qn):Option Bool:=
 bif decide (a0.Kind=5) then ((bif decide (a0.N=0) then (some (decide ((a0.S.size:Int)<=65536))) else (some false)).bind fun b3=>some b3) else (bif !(a0.S.toList==(⟨#[]⟩:ByteArray).toList) then (some false) else (bif decide (a0.Kind=2) then ((bif decide (a0.N=0) then (some true) else (some (decide (a0.N=1)))).bind fun b6=>some b6) else (bif decide (a0.Kind=3) then ((bif decide ((-9007199254740992)<=a0.N) then (some (decide (a0.N<=9007199254740992))) else (some false)).bind fun b8=>some b8) else (bif decide (a0.Kind=6) then (qr N a0 (decide (a0.Kind=6))) else (bif decide (a0.Kind=7) then (qr N a0 (decide (a0.Kind=7))) else (qr N a0 (decide (a0.Kind=9))))))))
theorem GI {N:Nat}{a0:Qn}{r:Bool}(h:vC N a0=some r):Okc QB 81 [(bD a0)] ([]) (fun u post=>u=.bool r/\post=[]):=by
 refine cQ Tryz.func81 ?_;intro B1;refine sY ?_;refine gH J h ?_ ?_<;>intro h
 ·refine ae ?_;obtain ⟨b3,hb3,h⟩:=aa h;refine aQ 5 14 b3 ?_ ?_
  ·clear h;refine aM 9 J (fun g3=> ?_) (fun g3=> ?_)
   ·have h:=aE g3 hb3;refine ae ?_;refine su (Id J P2) J (bx g3 J) J ?_;exact gY
   have h:=aF g3 hb3;exact gY
  exact eY
 refine sY ?_;refine lh (GB J J) ?_;refine gH J h ?_ ?_<;>intro h
 ·exact eY
 refine sY ?_;refine gH J h ?_ ?_<;>intro h
 ·refine ae ?_;refine gS 4 29 25 h ?_;intro b6 h;exact eY
 refine ew h ?_ ?_<;>intro h
 ·refine ae ?_;refine gS 4 39 35 h ?_;intro b8 h;exact eY
 refine am (fun s L=> ∃p10,qr N a0 p10=some r/\s=[(1,pV B1 0),(2,.bool false),(40,.bool p10)]/\L=[ah B1 37 (be a0)]) ?_ ?_
 ·refine ew h ?_ ?_<;>intro h
  ·exact jY
  refine ew h ?_ ?_<;>intro h
  ·exact jY
  exact jY
 rintro _ _ ⟨p10,h,rfl,rfl⟩;refine gH J h ?_ ?_<;>intro h
 ·exact eY
 refine ae ?_;refine gS 4 54 50 h ?_;intro b14 h;refine ae ?_;refine gS 4 59 55 h ?_;intro b15 h;exact eY
def jd (N:Nat)(p2:Bool):Option Bool:=
 bif p2 then (some true) else (some false)
def vD (N:Nat)(a0:Int):Option Bool:=
 bif decide (a0=1) then (jd N (decide (a0=1))) else (bif decide (a0=2) then (jd N (decide (a0=2))) else (bif decide (a0=3) then (jd N (decide (a0=3))) else (bif decide (a0=6) then (jd N (decide (a0=6))) else (bif decide (a0=8) then (jd N (decide (a0=8))) else (bif decide (a0=9) then (jd N (decide (a0=9))) else (jd N (decide (a0=10))))))))
theorem GJ {N:Nat}{a0:Int}{r:Bool}(h:vD N a0=some r):Okc QB 131 [iV a0] ([]) (fun u post=>u=.bool r/\post=[]):=by
 refine cQ Tryz.func131 ?_;refine sZ ?_;refine am (fun s L=> ∃p2,jd N p2=some r/\s=[(2,.bool false),(4,.bool p2)]/\L=[]) ?_ ?_
 ·refine ew h ?_ ?_<;>intro h
  ·exact jY
  refine ew h ?_ ?_<;>intro h
  ·exact jY
  refine ew h ?_ ?_<;>intro h
  ·exact jY
  refine ew h ?_ ?_<;>intro h
  ·exact jY
  refine ew h ?_ ?_<;>intro h
  ·exact jY
  refine ew h ?_ ?_<;>intro h
  ·exact jY
  exact jY
 rintro _ _ ⟨p2,h,rfl,rfl⟩;refine gH J h ?_ ?_<;>intro h
 ·exact eY
 exact eY
def ia (N:Nat)(a0:Qn)(a1:Int):Option Bool:=
 (bif decide (a0.Kind=0) then (some true) else (some (decide (a0.Kind=a1)))).bind fun b2=>some b2
theorem jO {N:Nat}{a0:Qn}{a1:Int}{r:Bool}(h:ia N a0 a1=some r):Okc QB 132 [(bD a0),iV a1] ([]) (fun u post=>u=.bool r/\post=[]):=by
 refine cQ Tryz.func132 ?_;intro B1;refine ae ?_;refine gS 5 13 8 h ?_;intro b2 h;exact eY
def jc (N:Nat)(a0:Ql):Option Bool:=
 (vD N a0.Kind).bind fun y4=>(bif y4 then (some true) else ((bif decide (a0.Kind=7) then (some (decide (0<(a0.Slots.length:Int)))) else (some false)).bind fun b6=>some b6)).bind fun b5=>bif b5 then ((bif decide (1<=(a0.Slots.length:Int)) then (some (decide ((a0.Slots.length:Int)<=1025))) else (some false)).bind fun b8=>(bif b8 then ((aw a0.Slots 0).bind fun x10=>(bif decide (x10.Kind=1) then (some true) else ((aw a0.Slots 0).bind fun x12=>some (decide (x12.Kind=7)))).bind fun b11=>some b11) else (some false)).bind fun b9=>some b9) else (bif decide (a0.Kind=7) then (some (decide (a0.Shape=0))) else ((bif !decide (a0.Shape=0) then (some true) else (some (!decide (a0.Flags=0)))).bind fun b14=>bif b14 then (some false) else (bif decide (a0.Kind=5) then ((bif decide ((a0.Slots.length:Int)=2) then ((aw a0.Slots 0).bind fun x18=>(ia N x18 7).bind fun y19=>some y19) else (some false)).bind fun b17=>(bif b17 then ((aw a0.Slots 1).bind fun x21=>(ia N x21 7).bind fun y22=>some y22) else (some false)).bind fun b20=>some b20) else (some (decide ((a0.Slots.length:Int)=0))))))
theorem yO {N:Nat}{a0:Ql}{r:Bool}(h:jc N a0=some r):Okc QB 82 [.agg #[iV a0.Kind,iV a0.Shape,iV a0.Flags,iV a0.Age,W A1 n1 c1,W A2 n2 c2]] ([az A1 n1 c1 a0.Slots,az A2 n2 c2 a0.More]) (fun u post=>u=.bool r/\post=[]):=by
 refine cQ Tryz.func82 ?_;intro B3;refine sY ?_;obtain ⟨y4,k,h⟩:=aa h;refine kw (oR (GJ k)) ?_;obtain ⟨b5,hb5,h⟩:=aa h;refine aQ 10 16 b5 ?_ ?_
 ·clear h;refine aM 6 J (fun g5=> ?_) (fun g5=> ?_)
  ·have h:=aE g5 hb5;exact gY
  have h:=aF g5 hb5;refine ae ?_;refine gS 5 15 10 h ?_;intro b6 h;exact gY
 refine ew h ?_ ?_<;>intro h
 ·refine ae ?_;refine gS 5 26 21 h ?_;intro b8 h;refine ae ?_;obtain ⟨b9,hb9,h⟩:=aa h;refine aQ 15 42 b9 ?_ ?_
  ·clear h;refine aM 27 J (fun g9=> ?_) (fun g9=> ?_)
   ·have h:=aE g9 hb9;refine ae ?_;obtain ⟨x10,lx10,ux10,hx10,h⟩:=aU h;refine ae ?_;refine mH (mO 1 J ao J (bc lx10 ux10) fE) J (bx g9 J) J ?_;refine ae ?_;obtain ⟨b11,hb11,h⟩:=aa h;refine aQ 7 41 b11 ?_ ?_
    ·clear h;refine aM 34 J (fun g11=> ?_) (fun g11=> ?_)
     ·have h:=aE g11 hb11;exact gY
     have h:=aF g11 hb11;refine ae ?_;obtain ⟨x12,lx12,ux12,hx12,h⟩:=aU h;refine ae ?_;refine mH (mO 1 J ao J (bc lx12 ux12) fE) J (dh g11 J) J ?_;exact gY
    exact gY
   have h:=aF g9 hb9;exact gY
  exact eY
 refine sY ?_;refine gH J h ?_ ?_<;>intro h
 ·exact eY
 refine sY ?_;refine gS 4 56 52 h ?_;intro b14 h;refine ew h ?_ ?_<;>intro h
 ·exact eY
 refine sY ?_;refine gH J h ?_ ?_<;>intro h
 ·refine ae ?_;obtain ⟨b17,hb17,h⟩:=aa h;refine aQ 6 70 b17 ?_ ?_
  ·clear h;refine aM 64 J (fun g17=> ?_) (fun g17=> ?_)
   ·have h:=aE g17 hb17;refine ae ?_;obtain ⟨x18,lx18,ux18,hx18,h⟩:=aU h;refine ae ?_;obtain ⟨y19,k,h⟩:=aa h;refine gU (oR (jO k)) (bx g17 J) ?_;exact gY
   have h:=aF g17 hb17;exact gY
  refine ae ?_;obtain ⟨b20,hb20,h⟩:=aa h;refine aQ 6 77 b20 ?_ ?_
  ·clear h;refine aM 71 J (fun g20=> ?_) (fun g20=> ?_)
   ·have h:=aE g20 hb20;refine ae ?_;obtain ⟨x21,lx21,ux21,hx21,h⟩:=aU h;refine ae ?_;obtain ⟨y22,k,h⟩:=aa h;refine gU (oR (jO k)) (bx g20 J) ?_;exact gY
   have h:=aF g20 hb20;exact gY
  exact eY
 exact eY
def ib (N:Nat)(a0:Qn)(a1:Int)(a2:Int):Option Bool:=
 (bif decide (a0.Kind=3) then (some (decide (a1<=a0.N))) else (some false)).bind fun b2=>(bif b2 then (some (decide (a0.N<=a2))) else (some false)).bind fun b3=>some b3
theorem jP {N:Nat}{a0:Qn}{a1:Int}{a2:Int}{r:Bool}(h:ib N a0 a1 a2=some r):Okc QB 133 [(bD a0),iV a1,iV a2] ([]) (fun u post=>u=.bool r/\post=[]):=by
 refine cQ Tryz.func133 ?_;intro B1;refine ae ?_;refine gS 5 15 10 h ?_;intro b2 h;refine ae ?_;refine gS 5 21 16 h ?_;intro b3 h;exact eY
def iI (N:Nat){σ:Type}(fy:Qr->σ->Option (Bool×σ))(a1:Qr)(a2:Int):Nat->Int->σ->Option σ
 |0,_,_=>none
 |m4+1,p5,p6=>bif decide (p5<(a1.length:Int)) then (aZ ((0:Int)<=p5/\p5.toNat<=a1.length/\a1.length<=a1.length) (aZ (in64 (p5+(min a2 (((a1.drop p5.toNat).take (a1.length - p5.toNat)).length:Int)))) (aZ (in64 (p5+(min a2 (((a1.drop p5.toNat).take (a1.length - p5.toNat)).length:Int)))) (aZ ((0:Int)<=p5/\(0:Int)<=p5+(min a2 (((a1.drop p5.toNat).take (a1.length - p5.toNat)).length:Int))/\p5.toNat<=(p5+(min a2 (((a1.drop p5.toNat).take (a1.length - p5.toNat)).length:Int))).toNat/\(p5+(min a2 (((a1.drop p5.toNat).take (a1.length - p5.toNat)).length:Int))).toNat<=a1.length) ((fy ((a1.drop p5.toNat).take ((p5+(min a2 (((a1.drop p5.toNat).take (a1.length - p5.toNat)).length:Int))).toNat - p5.toNat)) p6).bind fun y14=>bif !y14.1 then (some y14.2) else (aZ (in64 (p5+a2)) ((iI N fy a1 a2 m4) (p5+a2) y14.2))))))) else (some p6)
def ry (N:Nat){σ:Type}(a1:Qr)(a2:Int)(fy:Qr->σ->Option (Bool×σ))(s0:σ):Option σ:=
 iI N fy a1 a2 N 0 s0
theorem BE {N:Nat}{σ:Type}{a1:Qr}{a2:Int}{fy:Qr->σ->Option (Bool×σ)}{s0:σ}{r:σ}(h:ry N a1 a2 fy s0=some r){l:Nat}{G:σ->List Chunk}(hY:uC QB l G (fun (x:Qr) vs cs=> ∃A0 n0 c0,vs=[W A0 n0 c0]/\cs=[az A0 n0 c0 x]) fy):Okc QB 203 [.func (.yield l) #[] #[],pV B1 0,pV B3 0] (bu B1 30 [W A2 n2 c2]::az A2 n2 c2 a1::bu B3 3 [iV a2]::(G s0)) (fun u post=>u=.tuple #[]/\post=G r):=by
 refine cQ Tryz.func203 ?_;refine aH (fun m s L=> ∃p5 p6,iI N fy a1 a2 m p5 p6=some r/\s=[(0,.func (.yield l) #[] #[]),(1,pV B1 0),(2,pV B3 0),(4,iV p5)]/\L=az A2 n2 c2 a1::bu B1 30 [W A2 n2 c2]::bu B3 3 [iV a2]::(G p6)) N _ _ ⟨0,s0,h,J,J⟩ sA (cS [1,0,2] 3) ?_;rintro (_|m4) _ _ ⟨p5,p6,h,rfl,rfl⟩
 ·exact aj h
 rw [iI.eq_2] at h;refine sZ ?_;refine gH J h ?_ ?_<;>intro h
 ·refine sY ?_;refine ay ?_;refine bm I _ (ab _) ?_;refine zR 0 J (lO 2 J J ex J) ?_;refine zR 1 J (lO 1 J J dr J) ?_;refine zE 2 J (ai J) ?_;obtain ⟨q8,h⟩:=ad h;refine Dr 0 J (l:=p5.toNat) (h:=a1.length) q8.2.1 q8.2.2 ?_;rintro A9 n9 c9 e9;refine zR 3 J (xy 1 J e9 J z9 size37.out J (by rw [Int.toNat_of_nonneg q8.1];rfl) q8.2.1) ?_;refine zR 4 J (cC 0 J ao J z9) ?_;refine zE 5 J (Nb J J t0 t0) ?_;refine zE 6 J (av J) ?_;refine bv I ?_;refine ae ?_;obtain ⟨q10,h⟩:=ad h;refine ae ?_;obtain ⟨q11,h⟩:=ad h;refine ae ?_;obtain ⟨q12,h⟩:=ad h;refine KY 1 J (l:=p5.toNat) (h:=(p5+(min a2 (((a1.drop p5.toNat).take (a1.length - p5.toNat)).length:Int))).toNat) q12.2.2.1 q12.2.2.2 ?_;rintro A13 n13 c13 e13;refine gR (HM 2 J e13 J z9 size37.out J (by rw [Int.toNat_of_nonneg q12.1];rfl) (by rw [Int.toNat_of_nonneg q12.2.1];rfl) (by rw [Int.toNat_of_nonneg q12.2.1];rfl) q12.2.2.1 q12.2.2.2) ?_;obtain ⟨y14,k,h⟩:=aa h
  refine gD (D8 (a:=(a1.drop p5.toNat).take ((p5+(min a2 (((a1.drop p5.toNat).take (a1.length - p5.toNat)).length:Int))).toNat - p5.toNat)) [az A13 n13 c13 ((a1.drop p5.toNat).take ((p5+(min a2 (((a1.drop p5.toNat).take (a1.length - p5.toNat)).length:Int))).toNat - p5.toNat)),az A9 n9 c9 ((a1.drop p5.toNat).take (a1.length - p5.toNat)),az A2 n2 c2 a1,bu B1 30 [W A2 n2 c2],bu B3 3 [iV a2]] hY k J J ⟨_,_,_,J,J⟩ (fc 0 J J)) ?_;rintro _ _ ⟨rfl,rfl⟩;refine ew h ?_ ?_<;>intro h
  ·exact eY
  refine ae ?_;obtain ⟨q16,h⟩:=ad h;exact lY
 exact eY
def kd (N:Nat)(a0:Qr)(a1:Int):Option Unit:=
 bif decide (a1<1) then none else (some ())
theorem xM {N:Nat}{a0:Qr}{a1:Int}{r:Unit}(h:kd N a0 a1=some r):Okc QB 178 [W A1 n1 c1,iV a1] ([az A1 n1 c1 a0]) (fun u post=> ∃B900 B901,u=.func (.func 203) #[] #[pV B900 0,pV B901 0]/\post=[ah B900 30 [W A1 n1 c1],ah B901 3 [iV a1]]):=by
 refine cQ Tryz.func178 ?_;intro B2
 refine gg fun B3=> ?_
 refine sZ ?_;refine gH J h ?_ ?_<;>intro h
 ·exact aj h
 refine ae ?_;refine lh (ei J) ?_;exact eN
def co (N:Nat)(a1:Int)(x9:Qr):(Unit)->Option (Option Exit×Unit)
 |()=>(aw x9 0).bind fun x12=>(bif !decide (x12.Kind=7) then (some true) else ((aw x9 1).bind fun x14=>some (decide (x14.Kind=8)))).bind fun b13=>bif b13 then (some (some .ret,())) else ((bif decide (a1=4) then ((aw x9 2).bind fun x17=>(ia N x17 7).bind fun y18=>(bif !y18 then (some true) else ((aw x9 3).bind fun x20=>(ib N x20 0 9007199254740992).bind fun y21=>some (!y21))).bind fun b19=>some b19) else (some false)).bind fun b16=>bif b16 then (some (some .ret,())) else (some (none,())))
def dK (N:Nat)(a0:Qr)(a1:Int):Option Bool:=
 aZ (a1≠0) (bif !decide ((a0.length:Int).tmod a1=0) then (some false) else ((kd N a0 a1).bind fun y6=>(ry N a0 a1 (dn (fun x st=>co N a1 x st)) (none,())).bind fun y11=>qM y11.1 (some true) (some false) (fun _=>none)))
theorem qt {N:Nat}{a0:Qr}{a1:Int}{r:Bool}(h:dK N a0 a1=some r):Okc QB 134 [W A1 n1 c1,iV a1] ([az A1 n1 c1 a0]) (fun u post=>u=.bool r/\post=[]):=by
 refine cQ Tryz.func134 ?_;intro B2
 refine gg fun B3=> ?_
 refine sZ ?_;obtain ⟨q4,h⟩:=ad h;refine lh (ky J J q4) ?_;refine gH J h ?_ ?_<;>intro h
 ·exact eY
 refine sY ?_;obtain ⟨y6,k,h⟩:=aa h;refine gD (oR (xM k)) ?_;rintro _ _ ⟨_,⟨B7,B8,rfl,rfl⟩,rfl⟩;refine ae ?_;refine dB ?_ aW (ip 0 J);refine dB ?_ aW (ip 1 J);refine ae ?_;obtain ⟨y11,k,h⟩:=aa h;refine EK (R:=(fun (x:Qr) vs cs=> ∃A0 n0 c0,vs=[W A0 n0 c0]/\cs=[az A0 n0 c0 x])) (fun x st=>co N a1 x st) (fun (st:Unit) (mz:Unit)=> [ah B2 3 [iV a1],ah B3 4 [.bool false]]) [bu B7 30 [W A1 n1 c1],az A1 n1 c1 a0,bu B8 3 [iV a1]] (()) (()) J J call203.out J (by rintro _ _ _ ⟨_,_,_,rfl,rfl⟩;rfl) (fun l G hY=>(BE k hY).mono fun _ _ hh=>hh.2) (ce [0,4,1] [] [3,2] 5 J) h ?_ ?_ ?_ ?_
 ·rintro l x9 _ je sr9 _ h _ _ ⟨A10,n10,c10,rfl,rfl⟩;replace h:co N a1 x9 ()=some (je,sr9):=h;simp only [Ad,List.zip_cons_cons,List.zip_nil_left,List.zip_nil_right,List.reverse_cons,List.reverse_nil,QH,List.cons_append];refine sY ?_;obtain ⟨x12,lx12,ux12,hx12,h⟩:=aU h;refine ae ?_;refine zX (mO 0 J ao J (bc lx12 ux12) fE) ?_;obtain ⟨b13,hb13,h⟩:=aa h;refine aQ 6 26 b13 ?_ ?_
  ·clear h;refine aM 20 J (fun g13=> ?_) (fun g13=> ?_)
   ·have h:=aE g13 hb13;exact gY
   have h:=aF g13 hb13;refine ae ?_;obtain ⟨x14,lx14,ux14,hx14,h⟩:=aU h;refine ae ?_;refine mH (mO 0 J ao J (bc lx14 ux14) fE) J (dh g13 J) J ?_;exact gY
  refine ew h ?_ ?_<;>intro h
  ·refine ae ?_;obtain ⟨rfl,rfl⟩:=Prod.mk.inj (Option.some.inj h);exact Hx ((cS [1,2] 3).trans (fU () J))
  refine ae ?_;obtain ⟨b16,hb16,h⟩:=aa h;refine aQ 13 42 b16 ?_ ?_
  ·clear h;refine aM 29 J (fun g16=> ?_) (fun g16=> ?_)
   ·have h:=aE g16 hb16;refine ae ?_;obtain ⟨x17,lx17,ux17,hx17,h⟩:=aU h;refine ae ?_;obtain ⟨y18,k,h⟩:=aa h;refine gU (oR (jO k)) (bx g16 J) ?_;refine ae ?_;obtain ⟨b19,hb19,h⟩:=aa h;refine aQ 6 41 b19 ?_ ?_
    ·clear h;refine aM 35 J (fun g19=> ?_) (fun g19=> ?_)
     ·have h:=aE g19 hb19;exact gY
     have h:=aF g19 hb19;refine ae ?_;obtain ⟨x20,lx20,ux20,hx20,h⟩:=aU h;refine ae ?_;obtain ⟨y21,k,h⟩:=aa h;refine gU (oR (jP k)) (dh g19 J) ?_;exact gY
    exact gY
   have h:=aF g16 hb16;exact gY
  refine ew h ?_ ?_<;>intro h
  ·refine ae ?_;obtain ⟨rfl,rfl⟩:=Prod.mk.inj (Option.some.inj h);exact Hx ((cS [1,2] 3).trans (fU () J))
  refine ae ?_;obtain ⟨rfl,rfl⟩:=Prod.mk.inj (Option.some.inj h);exact BP ((cS [1,2] 3).trans (fU () J))
 ·rintro _ h;refine pS ([ah B2 3 [iV a1],ah B3 4 [.bool false]]) J ?_;exact eY
 ·rintro _ h;refine pS ([ah B2 3 [iV a1],ah B3 4 [.bool false]]) J ?_;exact eY
 rintro i _ h;exact aj h
def lD (N:Nat)(a0:Int)(a1:Qr)(p5:Bool):Option Bool:=
 bif p5 then (some (decide ((a1.length:Int)=0))) else (bif decide (a0=3) then ((bif decide ((a1.length:Int)=3) then ((aw a1 0).bind fun x10=>(ib N x10 0 9007199254740992).bind fun y11=>some y11) else (some false)).bind fun b9=>(bif b9 then ((aw a1 1).bind fun x13=>(ia N x13 9).bind fun y14=>some y14) else (some false)).bind fun b12=>some b12) else (bif decide (a0=4) then ((bif decide (1<=(a1.length:Int)) then (some (decide ((a1.length:Int)<=4097))) else (some false)).bind fun b16=>(bif b16 then ((aw a1 0).bind fun x18=>(ia N x18 9).bind fun y19=>some y19) else (some false)).bind fun b17=>some b17) else (bif decide (a0=6) then ((bif decide ((a1.length:Int)=2) then ((aw a1 0).bind fun x22=>(ib N x22 0 3).bind fun y23=>some y23) else (some false)).bind fun b21=>(bif b21 then ((aw a1 1).bind fun x25=>(ia N x25 9).bind fun y26=>some y26) else (some false)).bind fun b24=>some b24) else (bif decide (a0=7) then ((bif decide (4<=(a1.length:Int)) then ((aw a1 2).bind fun x29=>(ib N x29 0 1).bind fun y30=>some y30) else (some false)).bind fun b28=>(bif b28 then ((aw a1 3).bind fun x32=>(ib N x32 0 9007199254740992).bind fun y33=>some y33) else (some false)).bind fun b31=>some b31) else (bif decide (a0=8) then ((dK N a1 2).bind fun y35=>some y35) else (bif decide (a0=10) then ((bif decide (1<=(a1.length:Int)) then ((aw a1 0).bind fun x38=>some (decide (x38.Kind=7))) else (some false)).bind fun b37=>(bif b37 then (aZ ((0:Int)<=1/\(1:Int).toNat<=a1.length/\a1.length<=a1.length) ((dK N ((a1.drop ((1:Int).toNat)).take (a1.length - (1:Int).toNat)) 4).bind fun y42=>some y42)) else (some false)).bind fun b39=>some b39) else (bif decide (a0=9) then ((bif decide (2<=(a1.length:Int)) then ((aw a1 0).bind fun x45=>(ib N x45 0 2).bind fun y46=>some y46) else (some false)).bind fun b44=>some b44) else (some true))))))))
def jQ (N:Nat)(a0:Int)(a1:Qr):Option Bool:=
 bif decide (1048576<(a1.length:Int)) then (some false) else (bif decide (a0=2) then (some (decide ((a1.length:Int)<=4096))) else (bif decide (a0=1) then (lD N a0 a1 (decide (a0=1))) else (lD N a0 a1 (decide (a0=5)))))
theorem Ai {N:Nat}{a0:Int}{a1:Qr}{r:Bool}(h:jQ N a0 a1=some r):Okc QB 83 [iV a0,W A1 n1 c1] ([az A1 n1 c1 a1]) (fun u post=>u=.bool r/\post=[]):=by
 refine cQ Tryz.func83 ?_;refine sZ ?_;refine gH J h ?_ ?_<;>intro h
 ·exact eY
 refine sY ?_;refine gH J h ?_ ?_<;>intro h
 ·exact eY
 refine am (fun s L=> ∃p5,lD N a0 a1 p5=some r/\s=[(1,W A1 n1 c1),(4,.bool false),(8,iV a0),(14,.bool p5)]/\L=[az A1 n1 c1 a1]) ?_ ?_
 ·refine ew h ?_ ?_<;>intro h
  ·exact jY
  exact jY
 rintro _ _ ⟨p5,h,rfl,rfl⟩;refine gH J h ?_ ?_<;>intro h
 ·exact eY
 refine ew h ?_ ?_<;>intro h
 ·refine ae ?_;obtain ⟨b9,hb9,h⟩:=aa h;refine aQ 5 30 b9 ?_ ?_
  ·clear h;refine aM 25 J (fun g9=> ?_) (fun g9=> ?_)
   ·have h:=aE g9 hb9;refine ae ?_;obtain ⟨x10,lx10,ux10,hx10,h⟩:=aU h;refine ae ?_;obtain ⟨y11,k,h⟩:=aa h;refine gU (oR (jP k)) (bx g9 J) ?_;exact gY
   have h:=aF g9 hb9;exact gY
  refine ae ?_;obtain ⟨b12,hb12,h⟩:=aa h;refine aQ 5 36 b12 ?_ ?_
  ·clear h;refine aM 31 J (fun g12=> ?_) (fun g12=> ?_)
   ·have h:=aE g12 hb12;refine ae ?_;obtain ⟨x13,lx13,ux13,hx13,h⟩:=aU h;refine ae ?_;obtain ⟨y14,k,h⟩:=aa h;refine gU (oR (jO k)) (bx g12 J) ?_;exact gY
   have h:=aF g12 hb12;exact gY
  exact eY
 refine ew h ?_ ?_<;>intro h
 ·refine ae ?_;refine gS 4 46 42 h ?_;intro b16 h;refine ae ?_;obtain ⟨b17,hb17,h⟩:=aa h;refine aQ 5 52 b17 ?_ ?_
  ·clear h;refine aM 47 J (fun g17=> ?_) (fun g17=> ?_)
   ·have h:=aE g17 hb17;refine ae ?_;obtain ⟨x18,lx18,ux18,hx18,h⟩:=aU h;refine ae ?_;obtain ⟨y19,k,h⟩:=aa h;refine gU (oR (jO k)) (bx g17 J) ?_;exact gY
   have h:=aF g17 hb17;exact gY
  exact eY
 refine ew h ?_ ?_<;>intro h
 ·refine ae ?_;obtain ⟨b21,hb21,h⟩:=aa h;refine aQ 5 63 b21 ?_ ?_
  ·clear h;refine aM 58 J (fun g21=> ?_) (fun g21=> ?_)
   ·have h:=aE g21 hb21;refine ae ?_;obtain ⟨x22,lx22,ux22,hx22,h⟩:=aU h;refine ae ?_;obtain ⟨y23,k,h⟩:=aa h;refine gU (oR (jP k)) (bx g21 J) ?_;exact gY
   have h:=aF g21 hb21;exact gY
  refine ae ?_;obtain ⟨b24,hb24,h⟩:=aa h;refine aQ 5 69 b24 ?_ ?_
  ·clear h;refine aM 64 J (fun g24=> ?_) (fun g24=> ?_)
   ·have h:=aE g24 hb24;refine ae ?_;obtain ⟨x25,lx25,ux25,hx25,h⟩:=aU h;refine ae ?_;obtain ⟨y26,k,h⟩:=aa h;refine gU (oR (jO k)) (bx g24 J) ?_;exact gY
   have h:=aF g24 hb24;exact gY
  exact eY
 refine ew h ?_ ?_<;>intro h
 ·refine ae ?_;obtain ⟨b28,hb28,h⟩:=aa h;refine aQ 5 80 b28 ?_ ?_
  ·clear h;refine aM 75 J (fun g28=> ?_) (fun g28=> ?_)
   ·have h:=aE g28 hb28;refine ae ?_;obtain ⟨x29,lx29,ux29,hx29,h⟩:=aU h;refine ae ?_;obtain ⟨y30,k,h⟩:=aa h;refine gU (oR (jP k)) (bx g28 J) ?_;exact gY
   have h:=aF g28 hb28;exact gY
  refine ae ?_;obtain ⟨b31,hb31,h⟩:=aa h;refine aQ 5 86 b31 ?_ ?_
  ·clear h;refine aM 81 J (fun g31=> ?_) (fun g31=> ?_)
   ·have h:=aE g31 hb31;refine ae ?_;obtain ⟨x32,lx32,ux32,hx32,h⟩:=aU h;refine ae ?_;obtain ⟨y33,k,h⟩:=aa h;refine gU (oR (jP k)) (bx g31 J) ?_;exact gY
   have h:=aF g31 hb31;exact gY
  exact eY
 refine ew h ?_ ?_<;>intro h
 ·refine ae ?_;obtain ⟨y35,k,h⟩:=aa h;refine kw (oR (qt k)) ?_;exact eN
 refine ew h ?_ ?_<;>intro h
 ·refine ae ?_;obtain ⟨b37,hb37,h⟩:=aa h;refine aQ 6 102 b37 ?_ ?_
  ·clear h;refine aM 96 J (fun g37=> ?_) (fun g37=> ?_)
   ·have h:=aE g37 hb37;refine ae ?_;obtain ⟨x38,lx38,ux38,hx38,h⟩:=aU h;refine ae ?_;refine mH (mO 0 J ao J (bc lx38 ux38) fE) J (bx g37 J) J ?_;exact gY
   have h:=aF g37 hb37;exact gY
  refine ae ?_;obtain ⟨b39,hb39,h⟩:=aa h;refine aQ 4 107 b39 ?_ ?_
  ·clear h;refine aM 103 J (fun g39=> ?_) (fun g39=> ?_)
   ·have h:=aE g39 hb39;refine ae ?_;obtain ⟨q40,h⟩:=ad h;refine GQ 0 J (l:=(1:Int).toNat) (h:=a1.length) q40.2.1 q40.2.2 ?_;rintro A41 n41 c41 e41;refine mH (xy 1 J e41 J z9 size37.out J (by rw [Int.toNat_of_nonneg q40.1];rfl) q40.2.1) J (bx g39 J) J ?_;obtain ⟨y42,k,h⟩:=aa h;refine gU (oR (qt k)) (bx g39 J) ?_;exact gY
   have h:=aF g39 hb39;exact gY
  exact eY
 refine ew h ?_ ?_<;>intro h
 ·refine ae ?_;obtain ⟨b44,hb44,h⟩:=aa h;refine aQ 5 118 b44 ?_ ?_
  ·clear h;refine aM 113 J (fun g44=> ?_) (fun g44=> ?_)
   ·have h:=aE g44 hb44;refine ae ?_;obtain ⟨x45,lx45,ux45,hx45,h⟩:=aU h;refine ae ?_;obtain ⟨y46,k,h⟩:=aa h;refine gU (oR (jP k)) (bx g44 J) ?_;exact gY
   have h:=aF g44 hb44;exact gY
  exact eY
 exact eY
def fV (N:Nat)(a0:Ql)(x14:Bool×Qn):(Unit)->Option (Option Exit×Unit)
 |()=>(vC N x14.2).bind fun y17=>bif !y17 then (some (some .ret,())) else (some (none,()))
def fF (N:Nat)(a0:Ql):Option Bool:=
 (bif decide (a0.Kind<1) then (some true) else (some (decide (11<a0.Kind)))).bind fun b5=>(bif b5 then (some true) else (some (decide (a0.Shape<0)))).bind fun b6=>(bif b6 then (some true) else (some (decide (a0.Flags<0)))).bind fun b7=>(bif b7 then (some true) else (some (decide (63<a0.Flags)))).bind fun b8=>(bif b8 then (some true) else ((bif !decide (a0.Age=0) then (some (!decide (a0.Age=1))) else (some false)).bind fun b10=>some b10)).bind fun b9=>bif b9 then (some false) else ((sf N a0).bind fun y12=>(nk N a0 (dn (fun x st=>fV N a0 x st)) (none,())).bind fun y15=>qM y15.1 ((jc N a0).bind fun y19=>(bif y19 then ((jQ N a0.Kind a0.More).bind fun y21=>some y21) else (some false)).bind fun b20=>some b20) (some false) (fun _=>none))
theorem li {N:Nat}{a0:Ql}{r:Bool}(h:fF N a0=some r):Okc QB 49 [.agg #[iV a0.Kind,iV a0.Shape,iV a0.Flags,iV a0.Age,W A1 n1 c1,W A2 n2 c2]] ([az A1 n1 c1 a0.Slots,az A2 n2 c2 a0.More]) (fun u post=>u=.bool r/\post=[]):=by
 refine cQ Tryz.func49 ?_;intro B3
 refine gg fun B4=> ?_
 refine sZ ?_;refine gS 4 12 8 h ?_;intro b5 h;refine ae ?_;refine gS 4 17 13 h ?_;intro b6 h;refine ae ?_;refine gS 4 22 18 h ?_;intro b7 h;refine ae ?_;refine gS 4 27 23 h ?_;intro b8 h;refine ae ?_;obtain ⟨b9,hb9,h⟩:=aa h;refine aQ 9 37 b9 ?_ ?_
 ·clear h;refine aM 28 J (fun g9=> ?_) (fun g9=> ?_)
  ·have h:=aE g9 hb9;exact gY
  have h:=aF g9 hb9;refine ae ?_;refine gS 4 36 32 h ?_;intro b10 h;exact gY
 refine ew h ?_ ?_<;>intro h
 ·exact eY
 refine sY ?_;obtain ⟨y12,k,h⟩:=aa h;refine gD (oR (Bx k)) ?_;rintro _ _ ⟨_,⟨B13,rfl,rfl⟩,rfl⟩;refine ae ?_;refine dB ?_ aW (ip 0 J);obtain ⟨y15,k,h⟩:=aa h;refine uD (en:=(fun x=> [.bool x.1,(bD x.2)])) (fun x st=>fV N a0 x st) (fun (st:Unit) (mz:Unit)=> [az A1 n1 c1 a0.Slots,az A2 n2 c2 a0.More,ah B3 35 [iV a0.Kind,iV a0.Shape,iV a0.Flags,iV a0.Age,W A1 n1 c1,W A2 n2 c2],ah B4 4 [.bool false]]) [bu B13 35 [iV a0.Kind,iV a0.Shape,iV a0.Flags,iV a0.Age,W A1 n1 c1,W A2 n2 c2],az A1 n1 c1 a0.Slots,az A2 n2 c2 a0.More] (()) (()) J J call130.out J (fun _=>J) (fun l G hY=>(xg k hY).mono fun _ _ hh=>hh.2) (ce [0,3,4] [] [3,4,2,1] 5 J) h ?_ ?_ ?_ ?_
 ·rintro l x14 _ je sr14 _ h;replace h:fV N a0 x14 ()=some (je,sr14):=h;simp only [Ad,List.zip_cons_cons,List.zip_nil_left,List.zip_nil_right,List.reverse_cons,List.reverse_nil,QH,List.cons_append]
  refine gg fun B16=> ?_
  obtain ⟨y17,k,h⟩:=aa h;refine kw (oR (GI k)) ?_;refine gH J h ?_ ?_<;>intro h
  ·refine ae ?_;obtain ⟨rfl,rfl⟩:=Prod.mk.inj (Option.some.inj h);exact Hx ((cS [1,2,3,4] 5).trans (fU () J))
  refine ae ?_;obtain ⟨rfl,rfl⟩:=Prod.mk.inj (Option.some.inj h);exact BP ((cS [1,2,3,4] 5).trans (fU () J))
 ·rintro _ h;refine pS ([az A1 n1 c1 a0.Slots,az A2 n2 c2 a0.More,ah B3 35 [iV a0.Kind,iV a0.Shape,iV a0.Flags,iV a0.Age,W A1 n1 c1,W A2 n2 c2],ah B4 4 [.bool false]]) J ?_;refine ae ?_;obtain ⟨y19,k,h⟩:=aa h;refine kw (oR (yO k)) ?_;obtain ⟨b20,hb20,h⟩:=aa h;refine aQ 6 53 b20 ?_ ?_
  ·clear h;refine aM 47 J (fun g20=> ?_) (fun g20=> ?_)
   ·have h:=aE g20 hb20;refine ae ?_;obtain ⟨y21,k,h⟩:=aa h;refine gU (oR (Ai k)) (bx g20 J) ?_;exact gY
   have h:=aF g20 hb20;exact gY
  exact eY
 ·rintro _ h;refine pS ([az A1 n1 c1 a0.Slots,az A2 n2 c2 a0.More,ah B3 35 [iV a0.Kind,iV a0.Shape,iV a0.Flags,iV a0.Age,W A1 n1 c1,W A2 n2 c2],ah B4 4 [.bool false]]) J ?_;exact eY
 rintro i _ h;exact aj h
def cT (N:Nat)(a0:Qr):Option Qr:=
 aZ (bi (([]:List Qn).length+a0.length)) (some (([]:List Qn)++a0))
theorem eU {N:Nat}{a0:Qr}{r:Qr}(h:cT N a0=some r):Okc QB 38 [W A1 n1 c1] ([az A1 n1 c1 a0]) (fun u post=> ∃A0 n0 c0,u=W A0 n0 c0/\post=[bh A0 n0 c0 r]):=by
 refine cQ Tryz.func38 ?_;refine sZ ?_;refine lh (GC J z9) ?_;refine KZ J (fun g2=> ?_) (fun g2=> ?_)
 ·replace g2:(A1).isNone=true:=by simpa using g2
  refine Mc 0 J ao g2 (fun hx=> ?_);subst hx;replace h:aZ (bi (([]:List Qn).length+([]:List Qn).length)) (some (([]:List Qn)++([]:List Qn)))=some r:=h
  replace h:some []=some r:=by simpa [aZ] using h
  refine ae ?_;obtain rfl:=bw h;exact js J J ((aD ak 37 _).trans (cS [0] 2)) ⟨_,_,_,J,J⟩
 refine ae ?_
 refine iE (aG (R:=ak) (vss:=[]) (xs:=[]) J (kT) J J (fun _ _ hr=>All2.nil)) fun A4 n4 c4=> ?_
 obtain ⟨q5,h⟩:=ad h
 refine iE (ar 0 1 J J ao J J z9 lF J J q5) fun A6 n6 c6=> ?_
 exact eN
end
section
variable {A1 A2 A3 A4 A5:Option Addr} {B1 B3 B6 M7 c1 c2 c3 c4 c5 n1 n2 n3 n4 n5:Nat}
open Go.RowKit Go.ChangeShapes Go.WideShapes Go.Deep
def xr (x:Qn):Prop:=(in64 x.Kind)/\(in64 x.N)/\(x.S.size<=reachBytes)
set_option maxRecDepth 100000 in
theorem wl:Hw QB 37 ak xr:=fun {_ enc w base spare held _ cs y} h hw=>by
 obtain ⟨xs,m, -,hy,hl,hx,hf⟩:=DataW.trod_struct P3 h
 have hc:Tryz.prog.cellsOf 37=3:=by kernel_rfl
 rw [hc] at hl
 match cs,hl,hf with
 | [c0,c1,c2],_,hf=>
  have k0:DataW.trod enc QB w base spare held m 3 (List.take (Tryz.prog.cellsOf 3) (List.drop 0 [c0,c1,c2]))=xs[0]? :=hf 0 _ rfl
  have z0:Tryz.prog.cellsOf 3=1:=by kernel_rfl
  simp only [z0,List.drop_succ_cons,List.drop_zero,List.take_succ_cons,List.take_zero] at k0
  have l0:0<xs.length:=by rw [hx];decide
  obtain ⟨a0,r0,w0⟩:=(Rdr.w (sI t0)) (k0.trans (List.getElem?_eq_getElem l0)) (ic P3 hy hw (i:=0) rfl (List.getElem?_eq_getElem l0));have k1:DataW.trod enc QB w base spare held m 3 (List.take (Tryz.prog.cellsOf 3) (List.drop 1 [c0,c1,c2]))=xs[1]? :=hf 1 _ rfl
  have z1:Tryz.prog.cellsOf 3=1:=by kernel_rfl
  simp only [z1,List.drop_succ_cons,List.drop_zero,List.take_succ_cons,List.take_zero] at k1
  have l1:1<xs.length:=by rw [hx];decide
  obtain ⟨a1,r1,w1⟩:=(Rdr.w (sI t0)) (k1.trans (List.getElem?_eq_getElem l1)) (ic P3 hy hw (i:=1) rfl (List.getElem?_eq_getElem l1));have k2:DataW.trod enc QB w base spare held m 9 (List.take (Tryz.prog.cellsOf 9) (List.drop 2 [c0,c1,c2]))=xs[2]? :=hf 2 _ rfl
  have z2:Tryz.prog.cellsOf 9=1:=by kernel_rfl
  simp only [z2,List.drop_succ_cons,List.drop_zero,List.take_succ_cons,List.take_zero] at k2
  have l2:2<xs.length:=by rw [hx];decide
  obtain ⟨a2,r2,w2⟩:=(JK P2) (k2.trans (List.getElem?_eq_getElem l2)) (ic P3 hy hw (i:=2) rfl (List.getElem?_eq_getElem l2));obtain ⟨rfl, -⟩:=List.cons.inj (show [c0]=[_] from r0);obtain ⟨rfl, -⟩:=List.cons.inj (show [c1]=[_] from r1);obtain ⟨rfl, -⟩:=List.cons.inj (show [c2]=[_] from r2);exact ⟨⟨a0,a1,a2⟩,J,⟨w0,w1,w2⟩⟩
def FM (x:Ql):Prop:=(in64 x.Kind)/\(in64 x.Shape)/\(in64 x.Flags)/\(in64 x.Age)/\(Nu (fun z30=>xr z30) x.Slots)/\(Nu (fun z30=>xr z30) x.More)
set_option maxRecDepth 100000 in
theorem G4:Hw QB 35 bT FM:=fun {_ enc w base spare held _ cs y} h hw=>by
 obtain ⟨xs,m, -,hy,hl,hx,hf⟩:=DataW.trod_struct P4 h
 have hc:Tryz.prog.cellsOf 35=6:=by kernel_rfl
 rw [hc] at hl
 match cs,hl,hf with
 | [c0,c1,c2,c3,c4,c5],_,hf=>
  have k0:DataW.trod enc QB w base spare held m 3 (List.take (Tryz.prog.cellsOf 3) (List.drop 0 [c0,c1,c2,c3,c4,c5]))=xs[0]? :=hf 0 _ rfl
  have z0:Tryz.prog.cellsOf 3=1:=by kernel_rfl
  simp only [z0,List.drop_succ_cons,List.drop_zero,List.take_succ_cons,List.take_zero] at k0
  have l0:0<xs.length:=by rw [hx];decide
  obtain ⟨a0,r0,w0⟩:=(Rdr.w (sI t0)) (k0.trans (List.getElem?_eq_getElem l0)) (ic P4 hy hw (i:=0) rfl (List.getElem?_eq_getElem l0));have k1:DataW.trod enc QB w base spare held m 3 (List.take (Tryz.prog.cellsOf 3) (List.drop 1 [c0,c1,c2,c3,c4,c5]))=xs[1]? :=hf 1 _ rfl
  have z1:Tryz.prog.cellsOf 3=1:=by kernel_rfl
  simp only [z1,List.drop_succ_cons,List.drop_zero,List.take_succ_cons,List.take_zero] at k1
  have l1:1<xs.length:=by rw [hx];decide
  obtain ⟨a1,r1,w1⟩:=(Rdr.w (sI t0)) (k1.trans (List.getElem?_eq_getElem l1)) (ic P4 hy hw (i:=1) rfl (List.getElem?_eq_getElem l1));have k2:DataW.trod enc QB w base spare held m 3 (List.take (Tryz.prog.cellsOf 3) (List.drop 2 [c0,c1,c2,c3,c4,c5]))=xs[2]? :=hf 2 _ rfl
  have z2:Tryz.prog.cellsOf 3=1:=by kernel_rfl
  simp only [z2,List.drop_succ_cons,List.drop_zero,List.take_succ_cons,List.take_zero] at k2
  have l2:2<xs.length:=by rw [hx];decide
  obtain ⟨a2,r2,w2⟩:=(Rdr.w (sI t0)) (k2.trans (List.getElem?_eq_getElem l2)) (ic P4 hy hw (i:=2) rfl (List.getElem?_eq_getElem l2));have k3:DataW.trod enc QB w base spare held m 3 (List.take (Tryz.prog.cellsOf 3) (List.drop 3 [c0,c1,c2,c3,c4,c5]))=xs[3]? :=hf 3 _ rfl
  have z3:Tryz.prog.cellsOf 3=1:=by kernel_rfl
  simp only [z3,List.drop_succ_cons,List.drop_zero,List.take_succ_cons,List.take_zero] at k3
  have l3:3<xs.length:=by rw [hx];decide
  obtain ⟨a3,r3,w3⟩:=(Rdr.w (sI t0)) (k3.trans (List.getElem?_eq_getElem l3)) (ic P4 hy hw (i:=3) rfl (List.getElem?_eq_getElem l3));have k4:DataW.trod enc QB w base spare held m 30 (List.take (Tryz.prog.cellsOf 30) (List.drop 4 [c0,c1,c2,c3,c4,c5]))=xs[4]? :=hf 4 _ rfl
  have z4:Tryz.prog.cellsOf 30=1:=by kernel_rfl
  simp only [z4,List.drop_succ_cons,List.drop_zero,List.take_succ_cons,List.take_zero] at k4
  have l4:4<xs.length:=by rw [hx];decide
  obtain ⟨a4,r4,w4⟩:=(EZ z9 I (by decide) (of_decide_eq_true I) wl) (k4.trans (List.getElem?_eq_getElem l4)) (ic P4 hy hw (i:=4) rfl (List.getElem?_eq_getElem l4));have k5:DataW.trod enc QB w base spare held m 30 (List.take (Tryz.prog.cellsOf 30) (List.drop 5 [c0,c1,c2,c3,c4,c5]))=xs[5]? :=hf 5 _ rfl
  have z5:Tryz.prog.cellsOf 30=1:=by kernel_rfl
  simp only [z5,List.drop_succ_cons,List.drop_zero,List.take_succ_cons,List.take_zero] at k5
  have l5:5<xs.length:=by rw [hx];decide
  obtain ⟨a5,r5,w5⟩:=(EZ z9 I (by decide) (of_decide_eq_true I) wl) (k5.trans (List.getElem?_eq_getElem l5)) (ic P4 hy hw (i:=5) rfl (List.getElem?_eq_getElem l5));obtain ⟨rfl, -⟩:=List.cons.inj (show [c0]=[_] from r0);obtain ⟨rfl, -⟩:=List.cons.inj (show [c1]=[_] from r1);obtain ⟨rfl, -⟩:=List.cons.inj (show [c2]=[_] from r2);obtain ⟨rfl, -⟩:=List.cons.inj (show [c3]=[_] from r3);obtain ⟨v4,e4,b4⟩:=r4;obtain ⟨rfl, -⟩:=List.cons.inj e4;obtain ⟨A4,q4,rfl,d4⟩:=b4;have b4:SlR ak _ _ (.slice A4 a4.length q4) a4:=⟨_,_,rfl,d4⟩;obtain ⟨v5,e5,b5⟩:=r5;obtain ⟨rfl, -⟩:=List.cons.inj e5;obtain ⟨A5,q5,rfl,d5⟩:=b5;have b5:SlR ak _ _ (.slice A5 a5.length q5) a5:=⟨_,_,rfl,d5⟩;exact ⟨⟨a0,a1,a2,a3,a4,a5⟩,⟨_,_,_,_,_,_,J,b4,b5⟩,⟨w0,w1,w2,w3,w4,w5⟩⟩
def EP (x:Qc):Prop:=(in64 x.Kind)/\(in64 x.N)/\(FM x.C)/\(xr x.V)
set_option maxRecDepth 100000 in
theorem JL:Hw QB 43 E1 EP:=fun {_ enc w base spare held _ cs y} h hw=>by
 obtain ⟨xs,m, -,hy,hl,hx,hf⟩:=DataW.trod_struct P5 h
 have hc:Tryz.prog.cellsOf 43=11:=by kernel_rfl
 rw [hc] at hl
 match cs,hl,hf with
 | [c0,c1,c2,c3,c4,c5,c6,c7,c8,c9,c10],_,hf=>
  have k0:DataW.trod enc QB w base spare held m 3 (List.take (Tryz.prog.cellsOf 3) (List.drop 0 [c0,c1,c2,c3,c4,c5,c6,c7,c8,c9,c10]))=xs[0]? :=hf 0 _ rfl
  have z0:Tryz.prog.cellsOf 3=1:=by kernel_rfl
  simp only [z0,List.drop_succ_cons,List.drop_zero,List.take_succ_cons,List.take_zero] at k0
  have l0:0<xs.length:=by rw [hx];decide
  obtain ⟨a0,r0,w0⟩:=(Rdr.w (sI t0)) (k0.trans (List.getElem?_eq_getElem l0)) (ic P5 hy hw (i:=0) rfl (List.getElem?_eq_getElem l0));have k1:DataW.trod enc QB w base spare held m 3 (List.take (Tryz.prog.cellsOf 3) (List.drop 1 [c0,c1,c2,c3,c4,c5,c6,c7,c8,c9,c10]))=xs[1]? :=hf 1 _ rfl
  have z1:Tryz.prog.cellsOf 3=1:=by kernel_rfl
  simp only [z1,List.drop_succ_cons,List.drop_zero,List.take_succ_cons,List.take_zero] at k1
  have l1:1<xs.length:=by rw [hx];decide
  obtain ⟨a1,r1,w1⟩:=(Rdr.w (sI t0)) (k1.trans (List.getElem?_eq_getElem l1)) (ic P5 hy hw (i:=1) rfl (List.getElem?_eq_getElem l1));have k2:DataW.trod enc QB w base spare held m 35 (List.take (Tryz.prog.cellsOf 35) (List.drop 2 [c0,c1,c2,c3,c4,c5,c6,c7,c8,c9,c10]))=xs[2]? :=hf 2 _ rfl
  have z2:Tryz.prog.cellsOf 35=6:=by kernel_rfl
  simp only [z2,List.drop_succ_cons,List.drop_zero,List.take_succ_cons,List.take_zero] at k2
  have l2:2<xs.length:=by rw [hx];decide
  obtain ⟨a2,r2,w2⟩:=G4 (k2.trans (List.getElem?_eq_getElem l2)) (ic P5 hy hw (i:=2) rfl (List.getElem?_eq_getElem l2));have k3:DataW.trod enc QB w base spare held m 37 (List.take (Tryz.prog.cellsOf 37) (List.drop 8 [c0,c1,c2,c3,c4,c5,c6,c7,c8,c9,c10]))=xs[3]? :=hf 3 _ rfl
  have z3:Tryz.prog.cellsOf 37=3:=by kernel_rfl
  simp only [z3,List.drop_succ_cons,List.drop_zero,List.take_succ_cons,List.take_zero] at k3
  have l3:3<xs.length:=by rw [hx];decide
  obtain ⟨a3,r3,w3⟩:=wl (k3.trans (List.getElem?_eq_getElem l3)) (ic P5 hy hw (i:=3) rfl (List.getElem?_eq_getElem l3));obtain ⟨rfl, -⟩:=List.cons.inj (show [c0]=[_] from r0);obtain ⟨rfl, -⟩:=List.cons.inj (show [c1]=[_] from r1);obtain ⟨_,_,_,_,_,_,e2,b2_0,b2_1⟩:=r2;simp only [List.cons.injEq,and_true] at e2;obtain ⟨rfl,rfl,rfl,rfl,rfl,rfl⟩:=e2;have e3:[c8,c9,c10]=[.int .i64 a3.Kind,.int .i64 a3.N,.string a3.S]:=r3;simp only [List.cons.injEq,and_true] at e3;obtain ⟨rfl,rfl,rfl⟩:=e3;exact ⟨⟨a0,a1,a2,a3⟩,⟨_,_,_,_,_,_,J,b2_0,b2_1⟩,⟨w0,w1,w2,w3⟩⟩
set_option maxRecDepth 100000 in
theorem Nj {H:Type}{enc:TypeId×Value->H}{hJ:World}{r:Reach}{b0:Nat}{base:Nat}{spare:Nat->Bool}{held:Bool}{v:Value}{d:DataW H}{p:List MemPlace}
  (hv:Value.okWide QB hJ r b0 22 v) (h:DataW.Trod enc QB hJ base spare held 22 v d p) (hz:Light QB 22 d): ∃(m:List Qc) (Aq_0:Option Addr) (nq_0 cq_0:Nat),v=W Aq_0 nq_0 cq_0/\(Nu (fun z22=>EP z22) m)/\(o5 E1 (W Aq_0 nq_0 cq_0) m).ok (fun _=>False) (fun q=>q<hJ.heap.size) hJ:=by
 obtain ⟨A,n,c,rfl⟩:=okWide_slice t5 hv;obtain ⟨fuel,hf⟩:=h;obtain ⟨m,⟨u,e,h1⟩,hw⟩:=(EZ t5 I (by decide) (of_decide_eq_true I) JL) hf hz;obtain ⟨rfl, -⟩:=List.cons.inj (show [_]=[_] from e);exact ⟨m,A,n,c,J,hw,h1⟩
end
end Go.Proofs.YthepenpebkjdfaaGreat