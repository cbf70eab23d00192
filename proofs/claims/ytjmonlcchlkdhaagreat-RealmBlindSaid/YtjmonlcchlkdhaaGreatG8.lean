/- Merged texts: part 8. No conditions of their own. -/
import Derived.Test.YtjmonlcchlkdhaaGreatG7
import Derived.ProofKit
namespace Go.Proofs.YtjmonlcchlkdhaaGreat
section
open Go.RowKit
abbrev EP {ρ:Type}(m:Option ρ):Prop:=Sat m fun _=>True
theorem bm {ρ:Type}(x:ρ):EP (some x):=av trivial
theorem kV {ρ:Type}{b:Bool}{x y:Option ρ}(hx:b=true->EP x)(hy:b=false->EP y):EP (bif b then x else y):=qI hx hy
theorem yg (N:Nat)(v:Ry)(a b:Int):EP (fV N v a b):=by
 unfold fV
 refine Sat.bind (P:=fun _=>True) (kV (fun _=>bm _) fun _=>bm _) fun x _=>Sat.bind (P:=fun _=>True) (kV (fun _=>bm _) fun _=>bm _) fun y _=>bm _
theorem vc (N:Nat)(v:Ry)(a:Int):EP (dx N v a):=by
 unfold dx
 exact Sat.bind (P:=fun _=>True) (kV (fun _=>bm _) fun _=>bm _) fun x _=>bm _
theorem vR {c:Bool}{m:Option Bool}(h:c=true->EP m):EP (bif c then m else some false):=kV h fun _=>bm _
theorem uD {l:List Ry}{i:Nat}{f:Ry->Option Bool}(hi:i<l.length)(h: ∀v,EP (f v)):EP ((au l (i:Int)).bind f):=by
 rw [aK hi,bs];exact h _
theorem ey {m:Option Bool}{f:Bool->Option Bool}(h:EP m)(k: ∀b,EP (f b)):EP (m.bind f):=Sat.bind h fun b _=>k b
theorem qp {m:Option Bool}{p:Prop}{f:Bool->Option Bool}(h:Sat m fun b=>b=true->p)(k: ∀b,(b=true->p)->EP (f b)):EP (m.bind f):=Sat.bind h k
theorem HW (N:Nat)(c:Rk):EP (iP N c):=by
 unfold iP
 have hp:EP (jP N c.Sa):=by
  unfold jP
  iterate 6 refine ey (kV (fun _=>bm _) fun _=>bm _) fun _=> ?_
  exact bm _
 refine ey hp fun y=>ey (kV (fun _=>bm _) fun _=>ey (kV (fun _=>bm _) fun _=>bm _) fun _=>bm _) fun b=> ?_
 refine kV (fun _=> ?_) fun _=> ?_
 ·refine qp (p:=0<c.Sg.length) (dB (fun h=>av fun _=>by omega) fun _=>av fun h=>by cases h) fun b hb=>ey (vR fun h=> ?_) fun _=>bm _
  have h0:=hb h
  refine uD (i:=0) h0 fun v=>ey (kV (fun _=>bm _) fun _=>uD (i:=0) h0 fun _=>bm _) fun _=>bm _
 refine kV (fun _=>bm _) fun _=>ey (kV (fun _=>bm _) fun _=>bm _) fun _=>kV (fun _=>bm _) fun _=>qI (fun _=> ?_) fun _=>bm _
 refine qp (p:=1<c.Sg.length) (dB (fun h=> ?_) fun _=>av fun h=>by cases h) fun b hb=>ey (vR fun h=> ?_) fun _=>bm _
 ·rw [show ((0:Int))=((0:Nat):Int) from rfl,aK V,bs];obtain ⟨x,hx, -⟩:=vc N c.Sg[0] 7
  rw [hx,bs];exact av fun _=>by omega
 refine uD (i:=1) (hb h) fun v=>ey (vc N v 7) fun _=>bm _
theorem GZ {l:List Ry}{i:Nat}{m:Ry->Option Bool}(hi:i<l.length)(h: ∀v,EP (m v)){p:Prop}(hp:p):Sat ((au l (i:Int)).bind fun x=>(m x).bind fun y=>some y) fun b=>b=true->p:=by
 rw [aK hi,bs];obtain ⟨x,hx, -⟩:=h l[i]
 rw [hx,bs];exact av fun _=>hp
def xF (c:Rk):Prop:=(c.Sa=8->c.Sd.length%2=0)/\(c.Sa=10->1<=c.Sd.length/\(c.Sd.length - 1)%4=0)
theorem JE (N:Nat)(hN:2000<N)(c:Rk)(hc:c.Sd.length<=1000):Sat (kh N c) fun b=>b=true->xF c:=by
 have j6: ∀p,(p=true->c.Sa=1\/c.Sa=5)->Sat (jO N c p) fun b=>b=true->xF c:=by
  intro p hp
  have other: ∀{m:Option Bool},c.Sa≠8->c.Sa≠10->EP m->Sat m fun b=>b=true->xF c:=fun h8 h10 h=>h.mono fun _ _ _=>⟨fun e=>absurd e h8,fun e=>absurd e h10⟩
  unfold jO
  refine qI (fun h=>other (by rcases hp h with e|e<;>omega) (by rcases hp h with e|e<;>omega) (bm _)) fun _=> ?_
  refine dB (fun hk=>other V V ?_) fun _=> ?_
  ·refine qp (p:=1<c.Sd.length) (dB (fun h=>GZ (i:=0) V (fun v=>yg N v _ _) V) fun _=>av fun h=>by cases h) fun b hb=>ey (vR fun h=>uD (i:=1) (hb h) fun v=>ey (vc N v 9) fun _=>bm _) fun _=>bm _
  refine dB (fun hk=>other V V ?_) fun _=> ?_
  ·refine qp (p:=0<c.Sd.length) (dB (fun h=>av fun _=>by omega) fun _=>av fun h=>by cases h) fun b hb=>ey (vR fun h=>uD (i:=0) (hb h) fun v=>ey (vc N v 9) fun _=>bm _) fun _=>bm _
  refine dB (fun hk=>other V V ?_) fun _=> ?_
  ·refine qp (p:=1<c.Sd.length) (dB (fun h=>GZ (i:=0) V (fun v=>yg N v _ _) V) fun _=>av fun h=>by cases h) fun b hb=>ey (vR fun h=>uD (i:=1) (hb h) fun v=>ey (vc N v 9) fun _=>bm _) fun _=>bm _
  refine dB (fun hk=>other V V ?_) fun _=> ?_
  ·refine qp (p:=3<c.Sd.length) (dB (fun h=>GZ (i:=2) V (fun v=>yg N v _ _) V) fun _=>av fun h=>by cases h) fun b hb=>ey (vR fun h=>uD (i:=3) (hb h) fun v=>ey (yg N v _ _) fun _=>bm _) fun _=>bm _
  refine dB (fun hk=> ?_) fun a2=> ?_
  ·obtain ⟨b, -,h2,h3⟩:=rq N hN 2 (.inl rfl) c.Sd hc;have h2':cT N c.Sd 2=some b:=h2;rw [h2',bs]
   exact av fun hb=>⟨fun _=>h3 hb,fun e=>absurd e V⟩
  refine dB (fun hk=> ?_) fun a1=> ?_
  ·refine Sat.bind (P:=fun b=>b=true->1<=c.Sd.length) (dB (fun h=> ?_) fun _=>av fun h=>by cases h) fun b hb=> ?_
   ·rw [show ((0:Int))=((0:Nat):Int) from rfl,aK V,bs];exact av fun _=>by omega
   refine Sat.bind (P:=fun b=>b=true->xF c) (qI (fun h=> ?_) fun _=>av fun h=>by cases h) fun b' hb'=>av hb'
   have h1:=hb h;rw [AJ ⟨by omega,by show (1:Int).toNat<=_;exact h1,Nat.le_refl _⟩]
   have hl:((c.Sd.drop ((1:Int).toNat)).take (c.Sd.length - (1:Int).toNat)).length=c.Sd.length - 1:=by
    rw [R0,List.length_drop];show min (c.Sd.length - 1) (c.Sd.length - 1)=_;omega
   obtain ⟨b2, -,h2,h3⟩:=rq N hN 4 (.inr rfl) ((c.Sd.drop ((1:Int).toNat)).take (c.Sd.length - (1:Int).toNat)) (by rw [hl];omega);have h2':cT N ((c.Sd.drop ((1:Int).toNat)).take (c.Sd.length - (1:Int).toNat)) 4=some b2:=h2;rw [h2',bs]
   exact av fun a6=>⟨fun e=>absurd e V,fun _=>⟨h1,by have:=h3 a6;rw [hl] at this;exact this⟩⟩
  refine dB (fun hk=>other V V ?_) fun _=>other a2 a1 (bm _)
  refine ey ?_ fun _=>bm _
  exact kV (fun h=>uD (i:=0) (by have:=of_decide_eq_true h;omega) fun v=>ey (yg N v _ _) fun _=>bm _) fun _=>bm _
 unfold kh
 refine dB (fun _=>av fun h=>by cases h) fun _=>dB (fun hk=>av fun _=>⟨fun e=>absurd e V,fun e=>absurd e V⟩) fun _=>dB (fun hk=>j6 _ fun _=> .inl hk) fun _=>j6 _ fun h=> .inr (of_decide_eq_true h)
theorem zh (N:Nat)(hN:2000<N)(c:Rk)(hS:c.Sg.length<=1000)(hc:c.Sd.length<=1000):Sat (d8 N c) fun b=>b=true->xF c:=by
 obtain ⟨b1,g1, -⟩:=rU N hN c hS hc N 0 V V;have g1':gx N c N 0=(bif b1 then cU N c else some false):=g1
 have hj:Sat (cU N c) fun b=>b=true->xF c:=by
  unfold cU
  refine Sat.bind (HW N c) fun y _=> ?_
  refine Sat.bind (P:=fun b=>b=true->xF c) (qI (fun _=>Sat.bind (JE N hN c hc) fun _ h=>av h) fun _=>av fun h=>by cases h) fun _ h=>av h
 unfold d8;rw [g1']
 iterate 6 refine Sat.bind (P:=fun _=>True) (kV (fun _=>bm _) fun _=>bm _) fun _ _=> ?_
 refine qI (fun _=>av fun h=>by cases h) fun _=>qI (fun _=>hj) fun _=>av fun h=>by cases h
theorem wl {α ρ:Type}(L:Nat->Int->Option ρ)(l:List α)(p:α->Bool)(bad k:Option ρ)
  (step: ∀m (i:Nat) (h:i<l.length),L (m+1) (i:Int)=bif p l[i] then L m ((i:Int)+1) else bad)
  (fin: ∀m,L (m+1) (l.length:Int)=k) (N:Nat) (hN:l.length<N):L N 0=bif l.all p then k else bad:=by
 have key: ∀m i:Nat,l.length<m+i->i<=l.length->L m (i:Int)=bif (l.drop i).all p then k else bad:=by
  intro m
  induction m with
  |zero=>intro i h1 h2;omega
  | succ m ih=>
   intro i h1 h2;by_cases hi:i<l.length
   ·rw [step m i hi,List.drop_eq_getElem_cons hi,List.all_cons];have h3:=ih (i+1) V hi;rw [show (((i+1:Nat)):Int)=(i:Int)+1 by omega] at h3;rw [h3];cases p l[i]<;>rfl
   have e:i=l.length:=by omega
   subst e;rw [fin,List.drop_length];rfl
 have:=key N 0 V V;simpa using this
theorem Fn {α:Type}(L:Nat->Int->Option Bool)(l:List α)(p:α->Bool)
  (step: ∀m (i:Nat) (h:i<l.length),L (m+1) (i:Int)=bif p l[i] then L m ((i:Int)+1) else some false)
  (fin: ∀m,L (m+1) (l.length:Int)=some true) (N:Nat) (hN:l.length<N):L N 0=some (l.all p):=by
 rw [wl L l p _ _ step fin N hN];cases l.all p<;>rfl
theorem all_map {α β:Type}(f:α->β)(p:β->Bool)(l:List α):(l.map f).all p=l.all fun x=>p (f x):=by rw [List.all_map];rfl
theorem CD {α:Type}(q p:α->Bool): ∀l:List α,(l.filter q).all p=l.all fun x=> !q x||p x
 | []=>rfl
 |x::l=>by
  rw [List.filter_cons,List.all_cons, <-CD q p l];cases h:q x<;>simp
def KW {α β:Type}[DecidableEq α](a:α)(b:β):List (α×β)->List (α×β)
 | []=> [(a,b)]
 |p::l=>if p.1=a then (a,b)::l else p::KW a b l
theorem KX {α β:Type}[DecidableEq α](L:List (α×β))(a:α)(b:β):xi L a b=KW a b L:=by
 have key: ∀(L:List (α×β)) (j:Nat),(∃i c,fp a L j=some (i,c)/\j<=i/\L.set (i - j) (a,b)=KW a b L)\/(fp a L j=none/\L++ [(a,b)]=KW a b L):=by
  intro L
  induction L with
  |nil=>intro j;exact .inr ⟨J,J⟩
  | cons p l ih=>
   intro j;obtain ⟨x,y⟩:=p;by_cases e:a=x
   ·refine .inl ⟨j,y,by simp [fp,e],Nat.le_refl _,?_⟩;rw [Nat.sub_self];simp [KW,e]
   have e': ¬x=a:=fun h=>e h.symm
   rcases ih (j+1) with ⟨i,c,h1,h2,h3⟩|⟨h1,h2⟩
   ·refine .inl ⟨i,c,by simp [fp,e,h1],by omega,?_⟩;rw [show i - j=(i - (j+1))+1 by omega,List.set_cons_succ,h3];simp [KW,e']
   exact .inr ⟨by simp [fp,e,h1],by simp [KW,e',h2]⟩
 unfold xi;rcases key L 0 with ⟨i,c,h1, -,h3⟩|⟨h1,h2⟩
 ·rw [h1];exact h3
 rw [h1];exact h2
theorem yo {α β:Type}[DecidableEq α](p:α×β)(l:List (α×β))(x:α):lk (p::l) x=if p.1=x then some p.2 else lk l x:=by
 unfold lk;rw [List.find?_cons];by_cases e:p.1=x<;>simp [e]
theorem Fo {α β:Type}[DecidableEq α](L:List (α×β))(a:α)(b:β)(x:α):lk (xi L a b) x=if a=x then some b else lk L x:=by
 rw [KX]
 induction L with
 |nil=>rw [KW,yo]
 | cons p l ih=>
  unfold KW;by_cases e:p.1=a
  ·rw [if_pos e,yo,yo,e];by_cases e2:a=x<;>simp [e2]
  rw [if_neg e,yo,yo,ih];by_cases e2:p.1=x
  ·rw [if_pos e2,if_pos e2,if_neg (fun h=>e (by rw [e2,h]))]
  rw [if_neg e2,if_neg e2]
abbrev vZ:Ry:=⟨0,0,⟨#[]⟩⟩
def pO (l:List Ry)(i:Nat):Ry:=l.getD i vZ
theorem kD {l:List Ry}{i:Nat}(h:i<l.length):au l (i:Int)=some (pO l i):=by
 rw [aK h];unfold pO;simp [List.getD,h]
def kB (v:Ry):Bool:=(db 0 v).getD false
theorem Fk (N:Nat)(v:Ry):db N v=some (kB v):=by
 obtain ⟨b,hb⟩:=Fl 0 v;have e:db N v=db 0 v:=Eq.trans rfl rfl;unfold kB;rw [e,hb];rfl
def numB (v:Ry)(a b:Int):Bool:=decide (v.Sa=3)&&(decide (a<=v.N)&&decide (v.N<=b))
def noneB (v:Ry)(k:Int):Bool:=decide (v.Sa=0)||decide (v.Sa=k)
theorem uZ (N:Nat)(v:Ry)(a b:Int):fV N v a b=some (numB v a b):=by
 unfold fV numB;cases decide (v.Sa=3)<;>cases decide (a<=v.N)<;>cases decide (v.N<=b)<;>rfl
theorem sW (N:Nat)(v:Ry)(k:Int):dx N v k=some (noneB v k):=by
 unfold dx noneB;cases decide (v.Sa=0)<;>cases decide (v.Sa=k)<;>rfl
def Ea (k:Int):Bool:=decide (k=1)||decide (k=2)||decide (k=3)||decide (k=6)||decide (k=8)||decide (k=9)||decide (k=10)
theorem Gp (N:Nat)(k:Int):jP N k=some (Ea k):=by
 unfold jP Ea;cases decide (k=1)<;>cases decide (k=2)<;>cases decide (k=3)<;>cases decide (k=6)<;>cases decide (k=8)<;>cases decide (k=9)<;>cases decide (k=10)<;>rfl
def pA (k sh fl:Int)(l:List Ry):Bool:=
 bif Ea k||(decide (k=7)&&decide (0<l.length)) then decide (1<=l.length)&&decide (l.length<=1025)&&(decide ((pO l 0).Sa=1)||decide ((pO l 0).Sa=7))
 else bif decide (k=7) then decide (sh=0) else bif !decide (sh=0)|| !decide (fl=0) then false else bif decide (k=5) then decide (l.length=2)&&noneB (pO l 0) 7&&noneB (pO l 1) 7 else decide (l.length=0)
theorem gl {p q:Prop}[Decidable p][Decidable q](h:p↔q):decide p=decide q:=by
 by_cases hp:p
 ·rw [RM hp,RM (h.1 hp)]
 rw [RN hp,RN fun hq=>hp (h.2 hq)]
theorem Gf (N:Nat)(c:Rk):iP N c=some (pA c.Sa c.Sk c.Sj c.Sg):=by
 unfold iP pA;rw [Gp,bs,gl (p:=(0:Int)<(c.Sg.length:Int)) (q:=0<c.Sg.length) V,gl (p:=(1:Int)<=(c.Sg.length:Int)) (q:=1<=c.Sg.length) V,gl (p:=(c.Sg.length:Int)<=1025) (q:=c.Sg.length<=1025) V,gl (p:=(c.Sg.length:Int)=2) (q:=c.Sg.length=2) V,gl (p:=(c.Sg.length:Int)=0) (q:=c.Sg.length=0) V]
 have hA: ∀b:Bool,((bif decide (1<=c.Sg.length) then some (decide (c.Sg.length<=1025)) else some false).bind fun b8=>(bif b8 then ((au c.Sg 0).bind fun a1=>(bif decide (a1.Sa=1) then (some true) else ((au c.Sg 0).bind fun a2=>some (decide (a2.Sa=7)))).bind fun a6=>some a6) else (some false)).bind fun b9=>some b9)=some (decide (1<=c.Sg.length)&&decide (c.Sg.length<=1025)&&(decide ((pO c.Sg 0).Sa=1)||decide ((pO c.Sg 0).Sa=7))):=fun _=>by
  by_cases h:1<=c.Sg.length
  ·have g:au c.Sg 0=some (pO c.Sg 0):=kD (i:=0) V;rw [RM h,g];simp only [bs];cases decide (c.Sg.length<=1025)<;>cases decide ((pO c.Sg 0).Sa=1)<;>cases decide ((pO c.Sg 0).Sa=7)<;>rfl
  rw [RN h];rfl
 have hB:((bif decide (c.Sg.length=2) then ((au c.Sg 0).bind fun a7=>(dx N a7 7).bind fun a8=>some a8) else (some false)).bind fun b0=>(bif b0 then ((au c.Sg 1).bind fun b1=>(dx N b1 7).bind fun b2=>some b2) else (some false)).bind fun b3=>some b3)=some (decide (c.Sg.length=2)&&noneB (pO c.Sg 0) 7&&noneB (pO c.Sg 1) 7):=by
  by_cases h:c.Sg.length=2
  ·have g:au c.Sg 0=some (pO c.Sg 0):=kD (i:=0) V;have g1:au c.Sg 1=some (pO c.Sg 1):=kD (i:=1) V;rw [RM h,g,g1];simp only [bs,sW];cases noneB (pO c.Sg 0) 7<;>cases noneB (pO c.Sg 1) 7<;>rfl
  rw [RN h];rfl
 rw [hA true,hB];cases Ea c.Sa<;>cases decide (c.Sa=7)<;>cases decide (0<c.Sg.length)<;>cases decide (c.Sk=0)<;>cases decide (c.Sj=0)<;>cases decide (c.Sa=5)<;>rfl
def pZ:List Ry->Bool
 |k::v::r=>decide (k.Sa=7)&& !decide (v.Sa=8)&&pZ r
 | [_]=>false
 | []=>true
def lX:List Ry->Bool
 |t::h::k::s::r=>decide (t.Sa=7)&& !decide (h.Sa=8)&&(noneB k 7&&numB s 0 9007199254740992)&&lX r
 | []=>true
 |_=>false
theorem nh (k v:Ry)(r:List Ry):pZ (k::v::r)=(decide (k.Sa=7)&& !decide (v.Sa=8)&&pZ r):=Eq.trans rfl rfl
theorem ng (t h k s:Ry)(r:List Ry):lX (t::h::k::s::r)=(decide (t.Sa=7)&& !decide (h.Sa=8)&&(noneB k 7&&numB s 0 9007199254740992)&&lX r):=Eq.trans rfl rfl
theorem DE: ∀{l:List Ry},pZ l=true->l.length%2=0
 | [],_=>rfl
 | [_],h=>by cases h
 |k::v::r,h=>by
  rw [nh] at h;rw [R3] at h;have:=DE h.2;simp only [List.length_cons];omega
theorem DD: ∀{l:List Ry},lX l=true->l.length%4=0
 | [],_=>rfl
 | [_],h=>by cases h
 | [_,_],h=>by cases h
 | [_,_,_],h=>by cases h
 |t::a::k::s::r,h=>by
  rw [ng] at h;rw [R3] at h;have:=DD h.2;simp only [List.length_cons];omega
theorem wz {l r:List Ry}{i:Nat}{v:Ry}(h:l.drop i=v::r):au l (i:Int)=some v/\l.drop (i+1)=r:=by
 have hl:i<l.length:=by
  rcases Nat.lt_or_ge i l.length with h1|h1
  ·exact h1
  rw [List.drop_eq_nil_of_le h1] at h;cases h
 rw [List.drop_eq_getElem_cons hl] at h;obtain ⟨e1,e2⟩:=List.cons.inj h;exact ⟨by rw [aK hl,e1],e2⟩
theorem DH (N:Nat)(l:List Ry)(hl:l.length<=1000): ∀(m i:Nat),l.length<m+i->i<=l.length->(l.length - i)%2=0->fI N 2 l m (i:Int)=some (pZ (l.drop i))
 |0,i,h,h2,_=>by omega
 | m+1,i,h,h2,h3=>by
  rw [fI.eq_2]
  match hd:l.drop i with
  | []=>
   have hi:l.length<=i:=by have:=congrArg List.length hd;rw [List.length_drop] at this;simp at this;omega
   rw [cu V,cf];rfl
  | [x]=>have:=congrArg List.length hd;rw [List.length_drop] at this;simp at this;omega
  |k::v::r=>
   have hlen:=congrArg List.length hd;rw [List.length_drop] at hlen;simp only [List.length_cons] at hlen;obtain ⟨g1,d1⟩:=wz hd;obtain ⟨g2,d2⟩:=wz d1;rw [show (((i+1:Nat)):Int)=(i:Int)+1 by omega] at g2;have ih:=DH N l hl m (i+2) V V V;rw [show (((i+2:Nat)):Int)=(i:Int)+2 by omega,d2] at ih;rw [cn V,ct,g1,bs,r64 V V,g2,bs,RN (p:=(2:Int)=4) (by decide),cf,bs,cf,r64 V V,ih];simp only [nh];cases decide (k.Sa=7)<;>cases decide (v.Sa=8)<;>rfl
theorem DF (N:Nat)(l:List Ry)(hl:l.length<=1000): ∀(m i:Nat),l.length<m+i->i<=l.length->(l.length - i)%4=0->fI N 4 l m (i:Int)=some (lX (l.drop i))
 |0,i,h,h2,_=>by omega
 | m+1,i,h,h2,h3=>by
  rw [fI.eq_2]
  match hd:l.drop i with
  | []=>
   have hi:l.length<=i:=by have:=congrArg List.length hd;rw [List.length_drop] at this;simp at this;omega
   rw [cu V,cf];rfl
  | [x]=>have:=congrArg List.length hd;rw [List.length_drop] at this;simp at this;omega
  | [x,y]=>have:=congrArg List.length hd;rw [List.length_drop] at this;simp at this;omega
  | [x,y,z]=>have:=congrArg List.length hd;rw [List.length_drop] at this;simp at this;omega
  |t::v::k::s::r=>
   have hlen:=congrArg List.length hd;rw [List.length_drop] at hlen;simp only [List.length_cons] at hlen;obtain ⟨g1,d1⟩:=wz hd;obtain ⟨g2,d2⟩:=wz d1;obtain ⟨g3,d3⟩:=wz d2;obtain ⟨g4,d4⟩:=wz d3;rw [show (((i+1:Nat)):Int)=(i:Int)+1 by omega] at g2;rw [show (((i+1+1:Nat)):Int)=(i:Int)+2 by omega] at g3;rw [show (((i+1+1+1:Nat)):Int)=(i:Int)+3 by omega] at g4;have ih:=DF N l hl m (i+4) V V V;rw [show (((i+4:Nat)):Int)=(i:Int)+4 by omega,d4] at ih;rw [cn V,ct,g1,bs,r64 V V,g2,bs,RM (p:=(4:Int)=4) rfl,ct,r64 V V,g3,bs,sW,bs,r64 V V,g4,bs,uZ,bs,r64 V V,ih];simp only [ng];cases decide (t.Sa=7)<;>cases decide (v.Sa=8)<;>cases noneB k 7<;>cases numB s 0 9007199254740992<;>rfl
theorem Kp (N:Nat)(hN:2000<N)(l:List Ry)(hl:l.length<=1000):cT N l 2=some (pZ l):=by
 unfold cT;rw [iq (by decide)]
 have e:(l.length:Int).tmod 2=((l.length%2:Nat):Int):=by rw [Int.tmod_eq_emod_of_nonneg V];omega
 rw [e];by_cases h:l.length%2=0
 ·rw [h,RM (p:=((0:Nat):Int)=0) rfl,nt,cf];exact DH N l hl N 0 V V V
 rw [RN V,nf,ct]
 cases hb:pZ l with
 |false=>rfl
 |true=>exact absurd (DE hb) h
theorem Ko (N:Nat)(hN:2000<N)(l:List Ry)(hl:l.length<=1000):cT N l 4=some (lX l):=by
 unfold cT;rw [iq (by decide)]
 have e:(l.length:Int).tmod 4=((l.length%4:Nat):Int):=by rw [Int.tmod_eq_emod_of_nonneg V];omega
 rw [e];by_cases h:l.length%4=0
 ·rw [h,RM (p:=((0:Nat):Int)=0) rfl,nt,cf];exact DF N l hl N 0 V V V
 rw [RN V,nf,ct]
 cases hb:lX l with
 |false=>rfl
 |true=>exact absurd (DD hb) h
def qV (k:Int)(l:List Ry):Bool:=
 bif decide (k=2) then decide (l.length<=4096)
 else bif decide (k=1)||decide (k=5) then decide (l.length=0)
 else bif decide (k=3) then decide (l.length=3)&&numB (pO l 0) 0 9007199254740992&&noneB (pO l 1) 9
 else bif decide (k=4) then decide (1<=l.length)&&decide (l.length<=4097)&&noneB (pO l 0) 9
 else bif decide (k=6) then decide (l.length=2)&&numB (pO l 0) 0 3&&noneB (pO l 1) 9
 else bif decide (k=7) then decide (4<=l.length)&&numB (pO l 2) 0 1&&numB (pO l 3) 0 9007199254740992
 else bif decide (k=8) then pZ l
 else bif decide (k=10) then decide (1<=l.length)&&decide ((pO l 0).Sa=7)&&lX (l.drop 1)
 else bif decide (k=9) then decide (2<=l.length)&&numB (pO l 0) 0 2
 else true
theorem Im (N:Nat)(hN:2000<N)(c:Rk)(hc:c.Sd.length<=1000):kh N c=some (qV c.Sa c.Sd):=by
 have h6: ∀p:Bool,p=(decide (c.Sa=1)||decide (c.Sa=5))->c.Sa≠2->jO N c p=some (qV c.Sa c.Sd):=by
  intro p hp h2;subst hp;unfold jO qV;rw [gu h2,cf];rcases Bool.eq_false_or_eq_true (decide (c.Sa=1)||decide (c.Sa=5)) with h15|h15
  ·rw [h15,ct,ct,gl (p:=(c.Sd.length:Int)=0) (q:=c.Sd.length=0) V]
  rw [h15,cf,cf];by_cases k3:c.Sa=3
  ·rw [og k3,ct,ct,gl (p:=(c.Sd.length:Int)=3) (q:=c.Sd.length=3) V];by_cases h:c.Sd.length=3
   ·have g0:au c.Sd 0=some (pO c.Sd 0):=kD (i:=0) V;have g1:au c.Sd 1=some (pO c.Sd 1):=kD (i:=1) V;rw [RM h,g0,g1];simp only [bs,uZ,sW];cases numB (pO c.Sd 0) 0 9007199254740992<;>cases noneB (pO c.Sd 1) 9<;>rfl
   rw [RN h];rfl
  rw [gu k3,cf,cf];by_cases k4:c.Sa=4
  ·rw [og k4,ct,ct,gl (p:=(1:Int)<=(c.Sd.length:Int)) (q:=1<=c.Sd.length) V,gl (p:=(c.Sd.length:Int)<=4097) (q:=c.Sd.length<=4097) V];by_cases h:1<=c.Sd.length
   ·have g0:au c.Sd 0=some (pO c.Sd 0):=kD (i:=0) V;rw [RM h,g0];simp only [bs,sW];cases decide (c.Sd.length<=4097)<;>cases noneB (pO c.Sd 0) 9<;>rfl
   rw [RN h];rfl
  rw [gu k4,cf,cf];by_cases k6:c.Sa=6
  ·rw [og k6,ct,ct,gl (p:=(c.Sd.length:Int)=2) (q:=c.Sd.length=2) V];by_cases h:c.Sd.length=2
   ·have g0:au c.Sd 0=some (pO c.Sd 0):=kD (i:=0) V;have g1:au c.Sd 1=some (pO c.Sd 1):=kD (i:=1) V;rw [RM h,g0,g1];simp only [bs,uZ,sW];cases numB (pO c.Sd 0) 0 3<;>cases noneB (pO c.Sd 1) 9<;>rfl
   rw [RN h];rfl
  rw [gu k6,cf,cf];by_cases k7:c.Sa=7
  ·rw [og k7,ct,ct,gl (p:=(4:Int)<=(c.Sd.length:Int)) (q:=4<=c.Sd.length) V];by_cases h:4<=c.Sd.length
   ·have g2:au c.Sd 2=some (pO c.Sd 2):=kD (i:=2) V;have g3:au c.Sd 3=some (pO c.Sd 3):=kD (i:=3) V;rw [RM h,g2,g3];simp only [bs,uZ];cases numB (pO c.Sd 2) 0 1<;>cases numB (pO c.Sd 3) 0 9007199254740992<;>rfl
   rw [RN h];rfl
  rw [gu k7,cf,cf];by_cases k8:c.Sa=8
  ·rw [og k8,ct,ct,Kp N hN _ hc,bs]
  rw [gu k8,cf,cf];by_cases a1:c.Sa=10
  ·rw [og a1,ct,ct,gl (p:=(1:Int)<=(c.Sd.length:Int)) (q:=1<=c.Sd.length) V];by_cases h:1<=c.Sd.length
   ·have g0:au c.Sd 0=some (pO c.Sd 0):=kD (i:=0) V;have hd:((c.Sd.drop ((1:Int).toNat)).take (c.Sd.length - (1:Int).toNat))=c.Sd.drop 1:=List.take_of_length_le (by rw [List.length_drop];exact Nat.le_refl _);rw [RM h,g0,hd,iq ⟨by omega,by show 1<=_;omega,Nat.le_refl _⟩,Ko N hN _ (by rw [List.length_drop];omega)];simp only [bs];cases decide ((pO c.Sd 0).Sa=7)<;>cases lX (c.Sd.drop 1)<;>rfl
   rw [RN h];rfl
  rw [gu a1,cf,cf];by_cases k9:c.Sa=9
  ·rw [og k9,ct,ct,gl (p:=(2:Int)<=(c.Sd.length:Int)) (q:=2<=c.Sd.length) V];by_cases h:2<=c.Sd.length
   ·have g0:au c.Sd 0=some (pO c.Sd 0):=kD (i:=0) V;rw [RM h,g0];simp only [bs,uZ];cases numB (pO c.Sd 0) 0 2<;>rfl
   rw [RN h];rfl
  rw [gu k9,cf,cf]
 unfold kh;rw [cu V,cf];by_cases k2:c.Sa=2
 ·rw [og k2,ct];unfold qV;rw [og k2,ct,gl (p:=(c.Sd.length:Int)<=4096) (q:=c.Sd.length<=4096) V]
 rw [gu k2,cf];by_cases k1:c.Sa=1
 ·rw [og k1,ct];exact h6 _ (by rw [og k1];rfl) k2
 rw [gu k1,cf];exact h6 _ (by rw [gu k1];rfl) k2
def bu (c:Rk):Bool:=
 (!decide (c.Sa<1)&& !decide (11<c.Sa)&& !decide (c.Sk<0)&& !decide (c.Sj<0)&& !decide (63<c.Sj)&& !decide (c.Sn<0)&& !decide (1<c.Sn))&&(c.Sg.all kB&&(c.Sd.all kB&&(pA c.Sa c.Sk c.Sj c.Sg&&qV c.Sa c.Sd)))
theorem oD (N:Nat)(hN:2000<N)(c:Rk)(hS:c.Sg.length<=1000)(hc:c.Sd.length<=1000):d8 N c=some (bu c):=by
 have h19:cU N c=some (pA c.Sa c.Sk c.Sj c.Sg&&qV c.Sa c.Sd):=by
  unfold cU;rw [Gf,Im N hN c hc,bs];cases pA c.Sa c.Sk c.Sj c.Sg<;>rfl
 have h20:mF N c N 0=some (c.Sd.all kB&&(pA c.Sa c.Sk c.Sj c.Sg&&qV c.Sa c.Sd)):=by
  rw [wl (fun k i=>mF N c k i) c.Sd kB (some false) (some (pA c.Sa c.Sk c.Sj c.Sg&&qV c.Sa c.Sd)) (fun k i h=> ?_) (fun k=> ?_) N V]
  ·cases c.Sd.all kB<;>rfl
  ·rw [mF.eq_2,cn V,ct,aK h,bs,Fk,bs,r64 V V];cases kB c.Sd[i]<;>rfl
  rw [mF.eq_2,cu V,cf,h19]
 have h12:gx N c N 0=some (c.Sg.all kB&&(c.Sd.all kB&&(pA c.Sa c.Sk c.Sj c.Sg&&qV c.Sa c.Sd))):=by
  rw [wl (fun k i=>gx N c k i) c.Sg kB (some false) (some (c.Sd.all kB&&(pA c.Sa c.Sk c.Sj c.Sg&&qV c.Sa c.Sd))) (fun k i h=> ?_) (fun k=> ?_) N V]
  ·cases c.Sg.all kB<;>rfl
  ·rw [gx.eq_2,cn V,ct,aK h,bs,Fk,bs,r64 V V];cases kB c.Sg[i]<;>rfl
  rw [gx.eq_2,cu V,cf];unfold wX;exact h20
 unfold d8 bu;rw [h12];cases decide (c.Sa<1)<;>cases decide (11<c.Sa)<;>cases decide (c.Sk<0)<;>cases decide (c.Sj<0)<;>cases decide (63<c.Sj)<;>cases decide (c.Sn<0)<;>cases decide (1<c.Sn)<;>rfl
theorem Cb (N:Nat)(x:Int)(l:List Int)(hl:l.length<=5000): ∀(m i:Nat),l.length<m+i->i<=l.length->Sat (kr N x l m (i:Int)) fun r=>decide (0<=r)=decide (x∈l.drop i)
 |0,i,h,h2=>by omega
 | m+1,i,h,h2=>by
  rw [kr.eq_2];by_cases hi:i<l.length
  ·rw [cn V,ct,aK hi,bs,List.drop_eq_getElem_cons hi]
   refine dB (fun e=> ?_) fun e=> ?_
   ·exact av (by rw [RM V,RM];rw [e];exact List.mem_cons_self ..)
   rw [r64 V V];have:=Cb N x l hl m (i+1) V hi;simp only [Int.natCast_add,Int.cast_ofNat_Int] at this
   refine this.mono fun r hr=> ?_
   rw [hr];have:(x∈l[i]::l.drop (i+1))↔x∈l.drop (i+1):=⟨fun h=>(List.mem_cons.1 h).resolve_left (fun e2=>e e2),List.mem_cons_of_mem _⟩;rw [decide_eq_decide];exact this.symm
  rw [cu V,cf,List.drop_eq_nil_of_le V];exact av (by simp)
theorem o9 (N:Nat)(hN:6500<N)(l:List Int)(hl:l.length<=5000)(x:Int):dA N l x=some (decide (x∈l)):=by
 obtain ⟨r,h1,h2⟩:=Cb N x l hl N 0 V V;unfold dA qE;rw [show kr N x l N 0=some r from h1,bs,h2];rfl
theorem Pr (N:Nat)(hN:6500<N)(l:List Int)(hl:l.length<=5000)(x:Int):By N x l=some (decide (x∈l)):=by
 apply Sat.eq;unfold By
 have key: ∀(m i:Nat),l.length<m+i->i<=l.length->Sat (zm N x l m (i:Int)) (· =decide (x∈l.drop i)):=by
  intro m
  induction m with
  |zero=>intro i h h2;omega
  | succ m ih=>
   intro i h h2;rw [zm.eq_2];by_cases hi:i<l.length
   ·rw [cn V,ct,aK hi,bs,List.drop_eq_getElem_cons hi]
    refine dB (fun e=> ?_) fun e=> ?_
    ·exact av (by rw [RM];rw [e];exact List.mem_cons_self ..)
    rw [r64 V V];have:=ih (i+1) V hi;simp only [Int.natCast_add,Int.cast_ofNat_Int] at this
    refine this.mono fun r hr=> ?_
    rw [hr];have:(x∈l[i]::l.drop (i+1))↔x∈l.drop (i+1):=⟨fun h=>(List.mem_cons.1 h).resolve_left (fun e2=>e e2.symm),List.mem_cons_of_mem _⟩;rw [decide_eq_decide];exact this.symm
   rw [cu V,cf,List.drop_eq_nil_of_le V];exact av (by simp)
 exact key N 0 V V
theorem Pq (N:Nat)(hN:6500<N)(l:List Int)(hl:l.length<=5000)(x:Int):Bw N l x=some (decide (x∈l)):=by
 apply Sat.eq;unfold Bw
 have key: ∀(m i:Nat),l.length<m+i->i<=l.length->Sat (zl N x l m (i:Int)) (· =decide (x∈l.drop i)):=by
  intro m
  induction m with
  |zero=>intro i h h2;omega
  | succ m ih=>
   intro i h h2;rw [zl.eq_2];by_cases hi:i<l.length
   ·rw [cn V,ct,aK hi,bs,List.drop_eq_getElem_cons hi]
    refine dB (fun e=> ?_) fun e=> ?_
    ·exact av (by rw [RM];rw [e];exact List.mem_cons_self ..)
    rw [r64 V V];have:=ih (i+1) V hi;simp only [Int.natCast_add,Int.cast_ofNat_Int] at this
    refine this.mono fun r hr=> ?_
    rw [hr];have:(x∈l[i]::l.drop (i+1))↔x∈l.drop (i+1):=⟨fun h=>(List.mem_cons.1 h).resolve_left (fun e2=>e e2.symm),List.mem_cons_of_mem _⟩;rw [decide_eq_decide];exact this.symm
   rw [cu V,cf,List.drop_eq_nil_of_le V];exact av (by simp)
 exact key N 0 V V
def opens (p:Int->Bool):List Ry->List Int
 |k::v::l=>(bif ba v&&p k.N then [v.N] else [])++opens p l
 |_=> []
theorem oH (p:Int->Bool)(k v:Ry)(l:List Ry):opens p (k::v::l)=(bif ba v&&p k.N then [v.N] else [])++opens p l:=rfl
theorem Dj (p:Int->Bool): ∀l:List Ry,(opens p l).length<=l.length
 | []=>Nat.le_refl _
 | [_]=>Nat.zero_le _
 |k::v::l=>by
  have:=Dj p l;rw [oH,RZ];cases ba v&&p k.N<;>simp<;>omega
theorem Di {p:Int->Bool}{x:Int}: ∀{l:List Ry},x∈opens p l-> ∃v∈l,v.N=x
 | [],h=>by cases h
 | [_],h=>by cases h
 | k::v::l,h=>by
  rw [oH,List.mem_append] at h;rcases h with h|h
  ·cases hb:ba v&&p k.N
   ·rw [hb] at h;cases h
   rw [hb] at h;exact ⟨v,by simp,(List.mem_singleton.1 h).symm⟩
  obtain ⟨w,h1,h2⟩:=Di h;exact ⟨w,by simp [h1],h2⟩
theorem Fd {p q:Int->Bool}(h: ∀x,p x=q x)(l:List Ry):opens p l=opens q l:=by rw [show p=q from funext h]
theorem re (v:Ry):((bif decide (v.Sa=7) then (some true) else (some (decide (v.Sa=9)))):Option Bool)=some (ba v):=by unfold ba;cases decide (v.Sa=7)<;>rfl
def dy (N:Nat)(c:Rk)(l:List Int):List Int:=bif pK N c then opens (fun x=>decide (x∈l)) c.Sd else []
theorem BF (N:Nat)(c:Rk)(l:List Int):(dy N c l).length<=c.Sd.length:=by
 unfold dy;cases pK N c
 ·exact Nat.zero_le _
 exact Dj _ _
theorem Gu {N:Nat}{c:Rk}{l:List Int}{x:Int}(h:x∈dy N c l): ∃v∈c.Sg++c.Sd,v.N=x:=by
 unfold dy at h;cases hw:pK N c
 ·rw [hw] at h;cases h
 rw [hw] at h;obtain ⟨v,h1,h2⟩:=Di h;exact ⟨v,by simp [h1],h2⟩
theorem Gs (N:Nat)(hN:6500<N)(l:List Int)(hl:l.length<=5000)(k v:Ry)(s:List Int)(hs:s.length<=5000):cQ (fun x st=>gM N l x st) (k,v) (none,s)=some (true,(none,s++(bif ba v&&decide (k.N∈l) then [v.N] else []))):=by
 unfold cQ gM;simp only [re,bs,o9 N hN l hl];cases ba v
 ·simp only [cf,bs,Bool.false_and,List.append_nil];rfl
 simp only [ct,bs,Bool.true_and];cases decide (k.N∈l)
 ·simp only [cf,List.append_nil];rfl
 simp only [ct];rw [rF (by simp;omega)];rfl
theorem yK (N:Nat)(hN:6500<N)(l:List Int)(hl:l.length<=5000)(c:Rk)(hc:c.Sd.length<=1000)(he:c.Sd.length%2=0): ∀(m i:Nat) (s:List Int),c.Sd.length<m+i->i<=c.Sd.length->i%2=0->s.length<=i->d7 N (cQ (fun x st=>gM N l x st)) c m (i:Int) (none,s)=some (none,s++opens (fun x=>decide (x∈l)) (c.Sd.drop i))
 |0,i,s,h,h2,_,_=>by omega
 | m+1,i,s,h,h2,h3,h4=>by
  rw [d7.eq_2,r64 (a:=(i:Int)+1) V V];by_cases hi:i<c.Sd.length
  ·have hi1:i+1<c.Sd.length:=by omega
   have a1:au c.Sd ((i:Int)+1)=some c.Sd[i+1]:=by
    have:=aK hi1;simpa using this
   rw [cn V,ct,aK hi,bs,r64 (a:=(i:Int)+1) V V,a1,bs,Gs N hN l hl _ _ s V,bs];simp only [nt,cf];rw [r64 V V]
   have hlen:(s++(bif ba c.Sd[i+1]&&decide (c.Sd[i].N∈l) then [c.Sd[i+1].N] else [])).length<=i+2:=by
    cases ba c.Sd[i+1]&&decide (c.Sd[i].N∈l)<;>simp<;>omega
   have:=yK N hN l hl c hc he m (i+2) _ V V V hlen;simp only [Int.natCast_add,Int.cast_ofNat_Int] at this;rw [this,List.drop_eq_getElem_cons hi,List.drop_eq_getElem_cons hi1,oH,RP]
  rw [cu V,cf,List.drop_eq_nil_of_le V];simp [opens]
theorem BE (N:Nat)(hN:6500<N)(l:List Int)(hl:l.length<=5000)(c:Rk)(hS:c.Sg.length<=1000)(hc:c.Sd.length<=1000):nv N c l=some (dy N c l):=by
 obtain ⟨-,h1,h2⟩:=GE N V c hS hc;unfold nv dy iC;rw [h1,bs];cases hw:pK N c
 ·rfl
 have e:ll N c=some ():=rfl;have:=yK N hN l hl c hc (h2 hw) N 0 [] V V rfl (by simp);simp only [nt,cf,ct,e,bs];have h3:d7 N (cQ (fun x st=>gM N l x st)) c N 0 (none,[])=some (none,[]++opens (fun x=>decide (x∈l)) (c.Sd.drop 0)):=this;rw [h3,bs];rfl
theorem Id (N:Nat)(hN:6500<N)(l:List Int)(hl:l.length<=5000)(c:Rk)(hS:c.Sg.length<=1000)(hc:c.Sd.length<=1000):uX N c l=some (dy N c l):=by
 obtain ⟨h1, -,h2⟩:=GE N V c hS hc;unfold uX dy;cases hw:pK N c
 ·obtain ⟨n,rfl⟩: ∃n,N=n+1:=⟨N - 1,by omega⟩;rw [qh.eq_2,h1,bs,hw];simp only [cf,bs];rfl
 have he:=h2 hw
 have key: ∀(m i:Nat) (s:List Int),c.Sd.length<m+i->i<=c.Sd.length->i%2=0->s.length<=i->qh N l c m s (i:Int)=some (s++opens (fun x=>decide (x∈l)) (c.Sd.drop i)):=by
  intro m
  induction m with
  |zero=>intro i s h h2;omega
  | succ m ih=>
   intro i s h h2 h3 h4;rw [qh.eq_2,h1,bs,hw,ct,bs];by_cases hi:i<c.Sd.length
   ·have hi1:i+1<c.Sd.length:=by omega
    have a1:au c.Sd ((i:Int)+1)=some c.Sd[i+1]:=by
     have:=aK hi1;simpa using this
    rw [cn V,ct,r64 (a:=(i:Int)+1) V V,a1,bs,aK hi,bs,Pr N hN l hl,bs];simp only [re,bs]
    have hlen:(s++(bif ba c.Sd[i+1]&&decide (c.Sd[i].N∈l) then [c.Sd[i+1].N] else [])).length<=i+2:=by
     cases ba c.Sd[i+1]&&decide (c.Sd[i].N∈l)<;>simp<;>omega
    have:=ih (i+2) _ V V V hlen;simp only [Int.natCast_add,Int.cast_ofNat_Int] at this;rw [List.drop_eq_getElem_cons hi,List.drop_eq_getElem_cons hi1,oH, <-RP, <-this];unfold sr;rw [r64 (a:=(i:Int)+2) V V,r64 (a:=(i:Int)+2) V V];cases decide (c.Sd[i].N∈l)
    ·simp only [cf,bs,Bool.and_false,List.append_nil]
    cases ba c.Sd[i+1]
    ·simp only [ct,cf,bs,Bool.and_true,List.append_nil]
    simp only [ct,bs,Bool.and_true];rw [rF (by simp;omega)]
   rw [cu V,cf,List.drop_eq_nil_of_le V];simp [opens,xX]
 have:=key N 0 [] V V rfl (by simp);simpa using this
theorem yi: ∀(b:Nat) {l:List Int},l.Nodup->(∀x∈l,1<=x/\x<=(b:Int))->l.length<=b
 |0,l,_,h=>by
  cases l with
  |nil=>exact Nat.le_refl _
  |cons x l=>have:=h x (by simp);omega
 | b+1,l,hn,h=>by
  have h1:=yi b (hn.erase ((b:Int)+1)) fun x hx=>by
   obtain ⟨h2,h3⟩:=hn.mem_erase_iff.1 hx;have:=h x h3;omega
  have h2:=List.length_erase (a:=(b:Int)+1) (l:=l);split at h2<;>omega
theorem Nx (kv:List (Int×Unit))(a:Int):(lk kv a).isSome=decide (a∈kv.map (·.1)):=by
 unfold lk;rw [Bool.eq_iff_iff];simp [List.find?_isSome,List.mem_map]
def W64 (m:Rp):Prop:= ∀c∈m.Se++m.Sc, ∀v∈c.Sg++c.Sd,in64 v.N
theorem W64.at_ {m:Rp}(h:W64 m)(a:Int): ∀v∈(bq m a).Sg++(bq m a).Sd,in64 v.N:=by
 unfold bq
 cases hc:iv m a with
 |none=>intro v hv;simp [C0] at hv
 |some c=>exact h c (rB hc)
structure Tr (m:Rp) (all:List Int) (met:List (Int×Unit)):Prop where
 nd:all.Nodup
 mem: ∀x,x∈met.map (·.1)↔x∈all
 has: ∀x∈all,aD m x=true
theorem Tr.len {m:Rp}{roots:List Ry}(hs:Small m roots){all:List Int}{met:List (Int×Unit)}(h:Tr m all met):all.length<=1200:=yi 1200 h.nd fun x hx=>⟨by have:=pq (h.has x hx);omega,by have:=wq hs (h.has x hx);omega⟩
theorem Tr.in64 {m:Rp}{roots:List Ry}(hs:Small m roots){all:List Int}{met:List (Int×Unit)}(h:Tr m all met){x:Int}(hx:x∈all):in64 x:=by
 have h1:=pq (h.has x hx);have h2:=wq hs (h.has x hx);unfold Go.Proofs.YtjmonlcchlkdhaaGreat.in64;omega
theorem Tr.add {m:Rp}{all:List Int}{met:List (Int×Unit)}(h:Tr m all met){x:Int}(hx:x∉all)(hh:aD m x=true):Tr m (all++ [x]) (xi met x ()):=⟨List.nodup_append.2 ⟨h.nd,by simp,fun a ha b hb e=>by rw [List.mem_singleton] at hb;subst hb;subst e;exact hx ha⟩,fun y=>by
 rw [KY,List.mem_append,List.mem_singleton,h.mem y];exact Or.comm,fun y hy=>by
 rcases List.mem_append.1 hy with hy|hy
 ·exact h.has y hy
 ·rw [List.mem_singleton] at hy;subst hy;exact hh⟩
def Q6 (m:Rp)(all:List Int)(k:Nat):Prop:= ∀(i:Nat) (a x:Int),i<k->all[i]? =some a->x∈cg (bq m a)->aD m x=true->x∈all
theorem Fq {m:Rp}{roots:List Ry}(hs:Small m roots)(hw:W64 m)(a:Int):(cg (bq m a)).length<=2000/\ ∀x∈cg (bq m a),in64 x:=by
 have h1:=hs.at_ a;have h2:=kk (bq m a);refine ⟨by omega,fun x hx=> ?_⟩;obtain ⟨v,h3,rfl⟩:=BV hx;exact hw.at_ a v h3
structure Gr where
 has:Int->Bool
 leads:Int->List Int
 opens:List Int->Int->List Int
def dm (has:Int->Bool):List Int->List Int->List Int
 |row,[]=>row
 |row,x::l=>dm has (bif has x&& !decide (x∈row) then row++ [x] else row) l
inductive Thr (g:Gr):List Int->Nat->List Int->Prop
 |done {row:List Int} {k:Nat}:row.length<=k->Thr g row k row
 |step {row:List Int} {k:Nat} {a:Int} {r:List Int}:row[k]? =some a->Thr g (dm g.has row (g.leads a)) (k+1) r->Thr g row k r
def nn (g:Gr):List Int->List Int->List Int
 |row,[]=>row
 |row,a::avs=>nn g (dm g.has row (g.opens row a)) avs
inductive Ord (g:Gr):List Int->List Int->Prop
 |done {row:List Int}:nn g row row=row->Ord g row row
 |step {row r1 r:List Int}:nn g row row≠row->Thr g (nn g row row) row.length r1->Ord g r1 r->Ord g row r
structure IsOrder (g:Gr) (roots:List Int) (b l:List Int):Prop where
 strong:Thr g (dm g.has [] roots) 0 b
 all:Ord g b l
theorem gT (has:Int->Bool): ∀(row l:List Int), ∃t,dm has row l=row++t/\(∀x∈t,has x=true/\x∈l)
 |row,[]=>⟨[],by simp [dm],by simp⟩
 | row,x::l=>by
  unfold dm
  cases h:has x&& !decide (x∈row) with
  |false=>
   obtain ⟨t,h1,h2⟩:=gT has row l;exact ⟨t,h1,fun y hy=>⟨(h2 y hy).1,by simp [(h2 y hy).2]⟩⟩
  |true=>
   obtain ⟨t,h1,h2⟩:=gT has (row++ [x]) l;refine ⟨x::t,by rw [cond_true,h1];simp,fun y hy=> ?_⟩;rw [R3] at h;rcases List.mem_cons.1 hy with e|hy
   ·subst e;exact ⟨h.1,by simp⟩
   exact ⟨(h2 y hy).1,by simp [(h2 y hy).2]⟩
theorem rc (has:Int->Bool): ∀(row l l':List Int),dm has row (l++l')=dm has (dm has row l) l'
 |_,[],_=>rfl
 |row,x::l,l'=>by
  show dm has _ (l++l')=_;rw [rc has _ l l'];rfl
theorem oJ {has:Int->Bool}: ∀{row:List Int} (l:List Int),row.Nodup->(dm has row l).Nodup
 |_,[],h=>h
 | row,x::l,h=>by
  unfold dm
  cases h2:has x&& !decide (x∈row) with
  |false=>exact oJ l h
  |true=>
   rw [R3] at h2
   have hx:x∉row:=by simpa using h2.2
   exact oJ l (List.nodup_append.2 ⟨h,by simp,fun a ha b hb e=>by rw [List.mem_singleton] at hb;subst hb;subst e;exact hx ha⟩)
theorem tc {has:Int->Bool}: ∀(row l:List Int) {x:Int},x∈l->has x=true->x∈dm has row l
 | row,y::l,x,h,hx=>by
  unfold dm;rcases List.mem_cons.1 h with e|h
  ·subst e;obtain ⟨t,h1, -⟩:=gT has (bif has x&& !decide (x∈row) then row++ [x] else row) l;rw [h1];refine RQ _ ?_;rw [hx,Bool.true_and];by_cases hm:x∈row<;>simp [hm]
  exact tc _ l h hx
theorem yq {has:Int->Bool}{row l:List Int}{x:Int}(h:x∈dm has row l):x∈row\/(has x=true/\x∈l):=by
 obtain ⟨t,h1,h2⟩:=gT has row l;rw [h1] at h;rcases List.mem_append.1 h with h|h
 ·exact .inl h
 exact .inr (h2 x h)
theorem sU (g:Gr): ∀(row avs:List Int), ∃t,nn g row avs=row++t
 |row,[]=>⟨[],by simp [nn]⟩
 |row,a::avs=>by
  obtain ⟨t,h1, -⟩:=gT g.has row (g.opens row a);obtain ⟨t2,h2⟩:=sU g (dm g.has row (g.opens row a)) avs;exact ⟨t++t2,by unfold nn;rw [h2,h1,RP]⟩
theorem zn (g:Gr): ∀(row avs bs:List Int),nn g row (avs++bs)=nn g (nn g row avs) bs
 |_,[],_=>rfl
 |row,a::avs,bs=>by
  show nn g _ (avs++bs)=_;rw [zn g _ avs bs];rfl
theorem z7 {g:Gr}: ∀{row:List Int} (avs:List Int),row.Nodup->(nn g row avs).Nodup
 |_,[],h=>h
 |_,_::avs,h=>z7 avs (oJ _ h)
theorem Dd {g:Gr}: ∀{row:List Int} (avs:List Int),(∀x∈row,g.has x=true)-> ∀x∈nn g row avs,g.has x=true
 |_,[],h=>h
 |_,_::avs,h=>Dd avs fun x hx=>(yq hx).elim (h x) (·.1)
theorem Thr.app {g:Gr}{row r:List Int}{k:Nat}(h:Thr g row k r): ∃t,r=row++t:=by
 induction h with
 |done _=>exact ⟨[],by simp⟩
 |step _ _ ih=>
  rename_i row _ a _ _ _
  obtain ⟨t,rfl⟩:=ih;obtain ⟨t2,h1, -⟩:=gT g.has row (g.leads a);exact ⟨t2++t,by rw [h1,RP]⟩
theorem Thr.nodup {g:Gr}{row r:List Int}{k:Nat}(h:Thr g row k r)(hn:row.Nodup):r.Nodup:=by
 induction h with
 |done _=>exact hn
 |step _ _ ih=>exact ih (oJ _ hn)
theorem Thr.has {g:Gr}{row r:List Int}{k:Nat}(h:Thr g row k r)(hn: ∀x∈row,g.has x=true): ∀x∈r,g.has x=true:=by
 induction h with
 |done _=>exact hn
 |step _ _ ih=>exact ih fun x hx=>(yq hx).elim (hn x) (·.1)
theorem Thr.det {g:Gr}{row r r':List Int}{k:Nat}(h:Thr g row k r)(h':Thr g row k r'):r=r':=by
 induction h with
 |done hk=>
  cases h' with
  |done _=>rfl
  |step ha _=>rw [List.getElem?_eq_none hk] at ha;cases ha
 |step ha _ ih=>
  cases h' with
  |done hk=>rw [List.getElem?_eq_none hk] at ha;cases ha
  |step ha' h2=>rw [ha] at ha';cases ha';exact ih h2
theorem Ord.det {g:Gr}{row r r':List Int}(h:Ord g row r)(h':Ord g row r'):r=r':=by
 induction h with
 |done hk=>
  cases h' with
  |done _=>rfl
  |step ha _ _=>exact absurd hk ha
 |step ha h1 _ ih=>
  cases h' with
  |done hk=>exact absurd hk ha
  |step _ h1' h2=>exact ih (h1.det h1'▸h2)
theorem IsOrder.det {g:Gr}{roots b l b' l':List Int}(h:IsOrder g roots b l)(h':IsOrder g roots b' l'):b=b'/\l=l':=by
 obtain ⟨h1,h2⟩:=h;obtain ⟨h3,h4⟩:=h';have e:=h1.det h3;subst e;exact ⟨J,h2.det h4⟩
theorem Ord.app {g:Gr}{row r:List Int}(h:Ord g row r): ∃t,r=row++t:=by
 induction h with
 |done _=>exact ⟨[],by simp⟩
 |step _ h1 _ ih=>
  rename_i row r1 _ _ _
  obtain ⟨t,rfl⟩:=ih;obtain ⟨t1,rfl⟩:=h1.app;obtain ⟨t2,h2⟩:=sU g row row;exact ⟨t2++t1++t,by rw [h2];simp [RP]⟩
theorem Ord.nodup {g:Gr}{row r:List Int}(h:Ord g row r)(hn:row.Nodup):r.Nodup:=by
 induction h with
 |done _=>exact hn
 |step _ h1 _ ih=>exact ih (h1.nodup (z7 _ hn))
theorem Ord.has {g:Gr}{row r:List Int}(h:Ord g row r)(hn: ∀x∈row,g.has x=true): ∀x∈r,g.has x=true:=by
 induction h with
 |done _=>exact hn
 |step _ h1 _ ih=>exact ih (h1.has (Dd _ hn))
theorem IsOrder.nodup {g:Gr}{roots b l:List Int}(h:IsOrder g roots b l):b.Nodup/\l.Nodup:=
 have hb:=h.strong.nodup (oJ _ List.nodup_nil)
 ⟨hb,h.all.nodup hb⟩
theorem IsOrder.has {g:Gr}{roots b l:List Int}(h:IsOrder g roots b l):(∀x∈b,g.has x=true)/\ ∀x∈l,g.has x=true:=
 have hb:=h.strong.has fun x hx=>(yq hx).elim (fun h=>by cases h) (·.1)
 ⟨hb,h.all.has hb⟩
theorem IsOrder.sub {g:Gr}{roots b l:List Int}(h:IsOrder g roots b l){x:Int}(hx:x∈b):x∈l:=by
 obtain ⟨t,e⟩:=h.all.app;rw [e];exact RQ _ hx
theorem IsOrder.roots {g:Gr}{roots b l:List Int}(h:IsOrder g roots b l){x:Int}(hx:x∈roots)(hh:g.has x=true):x∈b:=by
 obtain ⟨t,e⟩:=h.strong.app;rw [e];exact RQ _ (tc _ _ hx hh)
def CloG (g:Gr)(row:List Int)(k:Nat):Prop:= ∀(i:Nat) (a x:Int),i<k->row[i]? =some a->x∈g.leads a->g.has x=true->x∈row
theorem CloG.app {g:Gr}{row t:List Int}{k:Nat}(hk:k<=row.length)(h:CloG g row k):CloG g (row++t) k:=fun i a x hi ha hx hh=>by
 rw [List.getElem?_append_left V] at ha;exact RQ _ (h i a x hi ha hx hh)
theorem Thr.clo {g:Gr}{row r:List Int}{k:Nat}(h:Thr g row k r)(hk:k<=row.length)(hc:CloG g row k):CloG g r r.length:=by
 induction h with
 |done a1=>intro i a x hi ha hx hh;exact hc i a x V ha hx hh
 | step ha _ ih=>
  rename_i row k a _ _
  have hlt:=(List.getElem?_eq_some_iff.1 ha).1;obtain ⟨t,h1, -⟩:=gT g.has row (g.leads a)
  refine ih (by rw [h1,RZ];omega) fun i b x hi hb hx hh=> ?_
  by_cases e:i=k
  ·subst e;rw [h1,List.getElem?_append_left hlt,ha] at hb;cases hb;exact tc _ _ hx hh
  rw [h1] at hb⊢;exact (CloG.app hk hc (t:=t)) i b x V hb hx hh
theorem De {g:Gr}: ∀{row avs:List Int},nn g row avs=row-> ∀a∈avs, ∀x∈g.opens row a,g.has x=true->x∈row
 | row,b::avs,h,a,ha,x,hx,hh=>by
  have h1:dm g.has row (g.opens row b)=row:=by
   obtain ⟨t,e1, -⟩:=gT g.has row (g.opens row b);obtain ⟨t2,e2⟩:=sU g (dm g.has row (g.opens row b)) avs
   have h3:row++t++t2=row:=by rw [<-e1, <-e2];exact h
   have h4:=congrArg List.length h3;simp only [RZ] at h4;have h5:t=[]:=List.eq_nil_of_length_eq_zero V;rw [e1,h5,List.append_nil]
  rcases List.mem_cons.1 ha with e|ha
  ·subst e;have:=tc row _ hx hh;rwa [h1] at this
  refine De (avs:=avs) ?_ a ha x hx hh;unfold nn at h;rw [h1] at h;exact h
theorem Ord.closed {g:Gr}{row r:List Int}(h:Ord g row r)(hc:CloG g row row.length):CloG g r r.length/\ ∀a∈r, ∀x∈g.opens r a,g.has x=true->x∈r:=by
 induction h with
 |done hp=>exact ⟨hc,De hp⟩
 |step _ h1 _ ih=>
  rename_i row _ _ _ _
  obtain ⟨t,e⟩:=sU g row row;refine ih (h1.clo (by rw [e,RZ];omega) ?_);rw [e];exact hc.app (Nat.le_refl _)
theorem IsOrder.closed {g:Gr}{roots b l:List Int}(h:IsOrder g roots b l):(∀a∈l, ∀x∈g.leads a,g.has x=true->x∈l)/\ ∀a∈l, ∀x∈g.opens l a,g.has x=true->x∈l:=by
 obtain ⟨h1,h2⟩:=h.all.closed (h.strong.clo (Nat.zero_le _) fun i _ _ hi=>absurd hi V);refine ⟨fun a ha x hx hh=> ?_,h2⟩;obtain ⟨i,hi,e⟩:=List.getElem_of_mem ha;exact h1 i a x hi (by rw [List.getElem?_eq_getElem hi,e]) hx hh
structure ClosedS (g:Gr) (S:Int->Prop):Prop where
 leads: ∀a,S a-> ∀x∈g.leads a,g.has x=true->S x
 opens: ∀row:List Int,(∀x∈row,S x)-> ∀a,S a-> ∀x∈g.opens row a,g.has x=true->S x
def CJ (N:Nat)(m:Rp):Gr:=⟨aD m,fun a=>cg (bq m a),fun row a=>dy N (bq m a) row⟩
def bH (l:List Ry):List Int:=(l.filter ba).map (·.N)
theorem wA (l l':List Ry):bH (l++l')=bH l++bH l':=by unfold bH;simp
theorem kN {l:List Ry}{x:Int}:x∈bH l↔ ∃v∈l,ba v=true/\v.N=x:=by
 unfold bH;simp only [List.mem_map,List.mem_filter];constructor
 ·rintro ⟨v,⟨h1,h2⟩,h3⟩;exact ⟨v,h1,h2,h3⟩
 rintro ⟨v,h1,h2,h3⟩;exact ⟨v,⟨h1,h2⟩,h3⟩
theorem Ek (N:Nat){m:Rp}{roots:List Ry}(hN:6500<N)(hs:Small m roots)(d:Int)(l:List Int)(hl:l.length<=2000)(h64: ∀x∈l,in64 x){all:List Int}{met:List (Int×Unit)}(ht:Tr m all met):
  Sat (dW N ⟨m,all,met,d⟩ l) fun r=>r.m_=m/\r.SN=d/\Tr m r.SB r.Sw/\r.SB=dm (aD m) all l:=by
 unfold dW;refine cI (fun k i (s:List Int×List (Int×Unit))=>cR N l ⟨m,all,met,d⟩ k (i:Int) s.1 s.2) l.length (fun i s=>Tr m s.1 s.2/\s.1=dm (aD m) all (l.take i)) _ ?_ ?_ N 0 (all,met) V V ⟨ht,J⟩
 ·rintro k i ⟨al,mt⟩ hi ⟨h1,h2⟩ go;show Sat (cR N l ⟨m,all,met,d⟩ (k+1) i al mt) _;simp only at h1 h2;have a1:=h64 l[i] (R5 _)
  have hnext:dm (aD m) all (l.take (i+1))=(bif aD m l[i]&& !decide (l[i]∈al) then al++ [l[i]] else al):=by
   rw [aM hi,rc, <-h2];rfl
  rw [cR.eq_2,cn V,ct,aK hi,bs,Nx];unfold iM;rw [r64 (a:=(i:Int)+1) V V,r64 (a:=(i:Int)+1) V V];by_cases hm:l[i]∈al
  ·rw [RM ((h1.mem _).2 hm)];simp only [nt,cf,bs];exact go (al,mt) ⟨h1,by rw [hnext,RM hm];simp⟩
  rw [RN (fun h=>hm ((h1.mem _).1 h))];simp only [nf,ct,bs,td N m _ a1];cases hh:aD m l[i]
  ·simp only [cf];exact go (al,mt) ⟨h1,by rw [hnext,hh];rfl⟩
  simp only [ct];have hlen:=h1.len hs;rw [rF (by simp;omega)];exact go (al++ [l[i]],xi mt l[i] ()) ⟨h1.add hm hh,by rw [hnext,hh,RN hm];rfl⟩
 rintro k ⟨al,mt⟩ ⟨h1,h2⟩;show Sat (cR N l ⟨m,all,met,d⟩ (k+1) _ al mt) _;rw [cR.eq_2,cu V,cf];exact av ⟨J,J,h1,by simpa using h2⟩
theorem zS (N:Nat)(hN:6500<N){m:Rp}{roots:List Ry}(hs:Small m roots)(hw:W64 m){all:List Int}{met:List (Int×Unit)}(ht:Tr m all met)(k:Nat)(hk:k<=all.length):
  Sat (gg N ⟨m,all,met,(k:Int)⟩) fun r=>r.m_=m/\r.SN=(r.SB.length:Int)/\Tr m r.SB r.Sw/\Thr (CJ N m) all k r.SB:=by
 unfold gg;refine nU (fun f (s:List Int×List (Int×Unit)×Nat)=>fH N f m.Se m.Sc s.1 s.2.1 (s.2.2:Int)) (fun s=>1300 - s.2.2) (fun s=>Tr m s.1 s.2.1/\s.2.2<=s.1.length/\ ∀r,Thr (CJ N m) s.1 s.2.2 r->Thr (CJ N m) all k r) _ ?_ N (all,met,k) (by show 1300 - k<N;omega) ⟨ht,hk,fun _ h=>h⟩;rintro f ⟨al,mt,j⟩ ⟨h1,h3,h4⟩ go;show Sat (fH N (f+1) m.Se m.Sc al mt (j:Int)) _;simp only at h1 h3 h4;have hlen:=h1.len hs;rw [fH.eq_2];by_cases hj:j<al.length
 ·have hx:=R5 hj;have hat:=EO N hs al[j] (h1.in64 hs hx);have hsm:=hs.at_ al[j];obtain ⟨a1,a2⟩:=Fq hs hw al[j];rw [cn V,ct,aK hj,bs];have hat':kg N ⟨m.Se,m.Sc⟩ al[j]=some (bq m al[j]):=hat;rw [hat',bs,nb N V _ V V,bs];refine Sat.bind (Ek N hN hs (j:Int) _ a1 a2 h1) ?_;rintro ⟨m',al',mt',d'⟩ ⟨e1,e2,h5,h6⟩;simp only at e1 e2 h5 h6;subst e1 e2;have hlen':=h5.len hs
  dsimp only
  rw [r64 V V]
  have hge:al.length<=al'.length:=by
   obtain ⟨t,e, -⟩:=gT (aD m') al (cg (bq m' al[j]));rw [h6,e,RZ];omega
  have hgo:=go (al',mt',j+1) (by show 1300 - (j+1)<1300 - j;omega) ⟨h5,by show j+1<=al'.length;omega,fun r hr=>h4 r (.step (List.getElem?_eq_getElem hj) (by rw [h6] at hr;exact hr))⟩;simpa using hgo
 have:j=al.length:=by omega
 subst this;rw [cu V,cf];exact av ⟨J,J,h1,h4 _ (.done (Nat.le_refl _))⟩
theorem IS (N:Nat)(hN:6500<N){m:Rp}{roots:List Ry}(hs:Small m roots)(hw:W64 m)(hr: ∀v∈roots,in64 v.N):
  Sat (mD N m roots) fun r=>r.m_=m/\r.SN=(r.SB.length:Int)/\Tr m r.SB r.Sw/\Thr (CJ N m) (dm (aD m) [] (bH roots)) 0 r.SB:=by
 have hrl:=hs.roots;unfold mD;refine cI (fun k i (s:List Int×List (Int×Unit))=>iA N roots k (i:Int) m.Se m.Sc s.1 s.2 0) roots.length (fun i s=>Tr m s.1 s.2/\s.1=dm (aD m) [] (bH (roots.take i))) _ ?_ ?_ N 0 ([],[]) V V ⟨⟨by simp,by simp,by simp⟩,J⟩
 ·rintro k i ⟨al,mt⟩ hi ⟨h1,h2⟩ go;show Sat (iA N roots (k+1) (i:Int) m.Se m.Sc al mt 0) _;simp only at h1 h2;have a1:=hr roots[i] (R5 _)
  have ha:mL N roots[i]=some (roots[i].N,ba roots[i]):=by
   unfold mL;rw [re,bs]
  have hnext:dm (aD m) [] (bH (roots.take (i+1)))=dm (aD m) al (bH [roots[i]]):=by
   rw [aM hi,wA,rc, <-h2]
  rw [iA.eq_2,cn V,ct,aK hi,bs];unfold oE;rw [ha,bs];cases hb:ba roots[i]
  ·simp only [cf,bs];rw [r64 V V];refine go (al,mt) ⟨h1,?_⟩;rw [hnext];simp [bH,hb,dm]
  simp only [ct];obtain ⟨⟨m',al',mt',d'⟩,e0,e1,e2,h5,h6⟩:=Ek N hN hs 0 [roots[i].N] (by simp) (by intro x hx;rw [List.mem_singleton] at hx;subst hx;exact a1) h1;simp only at e1 e2 h5 h6;subst e1 e2;have e0':dW N ⟨⟨m'.Se,m'.Sc⟩,al,mt,0⟩ [roots[i].N]=some ⟨m',al',mt',0⟩:=e0;rw [e0',bs,bs]
  dsimp only
  rw [r64 V V];refine go (al',mt') ⟨h5,?_⟩;show al'=_;rw [hnext,h6];simp [bH,hb]
 rintro k ⟨al,mt⟩ ⟨h1,h2⟩;show Sat (iA N roots (k+1) _ m.Se m.Sc al mt 0) _;rw [iA.eq_2,cu V,cf];unfold qN;refine Sat.bind (zS N hN hs hw h1 0 (Nat.zero_le _)) ?_;rintro r ⟨e1,e2,h5,h6⟩;simp only [R2] at h2;exact av ⟨e1,e2,h5,by rw [<-h2];exact h6⟩
theorem Fb (N:Nat){m:Rp}{roots:List Ry}(hs:Small m roots)(hw:W64 m)(a:Int)(l:List Int):(dy N (bq m a) l).length<=2000/\ ∀x∈dy N (bq m a) l,in64 x:=by
 have h1:=hs.at_ a;have h2:=BF N (bq m a) l;refine ⟨by omega,fun x hx=> ?_⟩;obtain ⟨v,h3,rfl⟩:=Gu hx;exact hw.at_ a v h3
theorem Jm (N:Nat)(hN:6500<N){m:Rp}{roots:List Ry}(hs:Small m roots)(hw:W64 m){all:List Int}{met:List (Int×Unit)}(ht:Tr m all met)(d:Int):
  Sat (jy N ⟨m,all,met,d⟩) fun r=>r.2.m_=m/\r.2.SN=d/\Tr m r.2.SB r.2.Sw/\r.1=decide ((all.length:Int)<(r.2.SB.length:Int))/\r.2.SB=nn (CJ N m) all all:=by
 have hlen:=ht.len hs;unfold jy;refine cI (fun k i (s:List Int×List (Int×Unit))=>di N ⟨m,all,met,d⟩ k (i:Int) m.Se m.Sc s.1 s.2 d) all.length (fun i s=>Tr m s.1 s.2/\(∃t,s.1=all++t)/\s.1=nn (CJ N m) all (all.take i)) _ ?_ ?_ N 0 (all,met) V V ⟨ht,⟨[],by simp⟩,J⟩
 ·rintro k i ⟨al,mt⟩ hi ⟨h1,⟨t,h2⟩,h3⟩ go;show Sat (di N ⟨m,all,met,d⟩ (k+1) (i:Int) m.Se m.Sc al mt d) _;simp only at h1 h2 h3;have hlen1:=h1.len hs
  have htk:List.take all.length al=all:=by rw [h2,List.take_left'];rfl
  have hx:=R5 hi;have hsm:=hs.at_ all[i];have hat:kg N ⟨m.Se,m.Sc⟩ all[i]=some (bq m all[i]):=EO N hs all[i] (ht.in64 hs hx)
  have hnext:nn (CJ N m) all (all.take (i+1))=dm (aD m) al (dy N (bq m all[i]) al):=by
   rw [aM hi,zn, <-h3];rfl
  rw [di.eq_2];simp only [R2];rw [cn V,ct,htk,aK hi,bs,hat,bs];unfold ke;by_cases h8:(bq m all[i]).Sa=8
  ·rw [og h8,ct,BE N hN al V _ V V,bs];obtain ⟨a1,a2⟩:=Fb N hs hw all[i] al;obtain ⟨⟨m',al',mt',d'⟩,e0,e1,e2,h5,h6⟩:=Ek N hN hs d _ a1 a2 h1;simp only at e1 e2 h5 h6;subst e1 e2;have e0':dW N ⟨⟨m'.Se,m'.Sc⟩,al,mt,d'⟩ (dy N (bq m' all[i]) al)=some ⟨m',al',mt',d'⟩:=e0;rw [e0',bs]
   dsimp only
   rw [r64 V V];obtain ⟨t',e', -⟩:=gT (aD m') al (dy N (bq m' all[i]) al);exact go (al',mt') ⟨h5,⟨t++t',by show al'=_;rw [h6,e',h2,RP]⟩,by show al'=_;rw [hnext,h6]⟩
  rw [gu h8,cf,r64 V V];refine go (al,mt) ⟨h1,⟨t,h2⟩,?_⟩
  have h0:dy N (bq m all[i]) al=[]:=by
   unfold dy pK;rw [gu h8];rfl
  show al=_;rw [hnext,h0];rfl
 rintro k ⟨al,mt⟩ ⟨h1,⟨t,h2⟩,h3⟩;show Sat (di N ⟨m,all,met,d⟩ (k+1) _ m.Se m.Sc al mt d) _;rw [di.eq_2];simp only [R2] at h3⊢;rw [cu V,cf];exact av ⟨J,J,h1,J,h3⟩
theorem Ic (N:Nat)(hN:6500<N){m:Rp}{roots:List Ry}(hs:Small m roots)(hw:W64 m)(hr: ∀v∈roots,in64 v.N):
  ∃b all,IsOrder (CJ N m) (bH roots) b.SB all/\all.length<=1200/\b.SB.length<=1200/\mD N m roots=some b/\kG N m roots=some all:=by
 obtain ⟨⟨m',al0,mt0,d0⟩,e0,e1,e2,h1,h2⟩:=IS N hN hs hw hr;simp only at e1 e2 h1 h2;subst e1 e2;have hlen0:=h1.len hs
 have key:Sat (kG N m' roots) fun all=>Ord (CJ N m') al0 all/\all.length<=1200:=by
  unfold kG;rw [e0,bs];refine nU (fun f (s:List Int×List (Int×Unit))=>ky N f m'.Se m'.Sc s.1 s.2 (s.1.length:Int)) (fun s=>1300 - s.1.length) (fun s=>Tr m' s.1 s.2/\ ∀r,Ord (CJ N m') s.1 r->Ord (CJ N m') al0 r) _ ?_ N (al0,mt0) (by show 1300 - al0.length<N;omega) ⟨h1,fun _ h=>h⟩;rintro f ⟨al,mt⟩ ⟨h4,h5⟩ go;show Sat (ky N (f+1) m'.Se m'.Sc al mt (al.length:Int)) _;simp only at h4 h5;have hlen:=h4.len hs;rw [ky.eq_2];obtain ⟨⟨b,m2,al2,mt2,d2⟩,g0,g1,g2,g3,g5,g6⟩:=Jm N hN hs hw h4 (al.length:Int);simp only at g1 g2 g3 g5 g6;subst g1 g2;have hlen2:=g3.len hs;have g0':jy N ⟨⟨m2.Se,m2.Sc⟩,al,mt,(al.length:Int)⟩=some (b,⟨m2,al2,mt2,(al.length:Int)⟩):=g0;obtain ⟨t2,ht2⟩:=sU (CJ N m2) al al;rw [g0',bs]
  dsimp only
  rw [g5]
  refine dB (fun hlt=> ?_) fun hge=> ?_
  ·refine Sat.bind (zS N hN hs hw g3 al.length V) ?_;rintro ⟨m3,al3,mt3,d3⟩ ⟨k1,k2,k3,k4⟩;simp only at k1 k2 k3 k4;subst k1 k2;have hlen3:=k3.len hs;refine go (al3,mt3) ?_ ⟨k3,fun r h=>h5 r (.step ?_ (by rw [<-g6];exact k4) h)⟩
   ·show 1300 - al3.length<1300 - al.length;obtain ⟨t3,e3⟩:=k4.app
    have:al2.length<=al3.length:=by rw [e3,RZ];omega
    omega
   rw [<-g6];intro e;rw [e] at hlt;omega
  have e:al2=al:=by
   rw [ht2] at g6;have h0:t2=[]:=List.eq_nil_of_length_eq_zero (by rw [g6,RZ] at hge;omega);rw [g6,h0,List.append_nil]
  subst e;unfold pG;exact av ⟨h5 _ (.done g6.symm),by omega⟩
 obtain ⟨all,k1,k2,k3⟩:=key;exact ⟨⟨m',al0,mt0,(al0.length:Int)⟩,all,⟨h2,k2⟩,k3,hlen0,e0,k1⟩
theorem oz (l:List Int)(x:Int):x∈jc l↔x∈l:=by unfold jc;exact List.mem_mergeSort
theorem zd {l:List Int}(h:l.Nodup):(jc l).Pairwise (· < ·):=by
 have h1:(jc l).Pairwise fun a b=>decide (a<=b)=true:=List.pairwise_mergeSort (by intro a b c h1 h2;simp at*;omega) (by intro a b;simp;omega) l
 have h2:(jc l).Nodup:=(List.mergeSort_perm l _).nodup_iff.2 h;rw [List.nodup_iff_pairwise_ne] at h2;exact h1.imp₂ (fun a b h3 h4=>by simp at h3;omega) h2
theorem Bf {l s:List Int}(h:l.Nodup)(hs:s.Pairwise (· < ·))(he: ∀x,x∈l↔x∈s):jc l=s:=HK (zd h) hs fun x=>(oz l x).trans (he x)
theorem HV (N:Nat)(l:List Int)(h:l.length<=5000):oW N l=some (jc l):=by
 unfold oW;rw [rF V]
def QT (n:Int):Ry:=⟨7,n,⟨#[]⟩⟩
def PZ (l:List Ry):Rk:=⟨11,0,0,0,[],l⟩
def QX:Rp:=⟨[⟨11,0,0,0,[],[⟨7,3,⟨#[]⟩⟩,⟨7,2,⟨#[]⟩⟩]⟩,⟨11,0,0,0,[],[]⟩],[⟨11,0,0,0,[],[]⟩]⟩
def QV:Rp:=⟨[⟨8,0,0,0,[⟨1,0,⟨#[]⟩⟩],[⟨7,3,⟨#[]⟩⟩,⟨7,5,⟨#[]⟩⟩]⟩,⟨11,0,0,0,[],[]⟩,⟨11,0,0,0,[],[]⟩],[]⟩
theorem Lo {N:Nat}{m:Rp}{roots:List Ry}{l s:List Int}(h:kG N m roots=some l)(hl:l.length<=5000)(hs:jc l=s):lL N m roots=some s:=by
 unfold lL;rw [h,bs,HV N l hl,bs,hs]
structure Tq (m:Rp) (all:List Int):Prop where
 nd:all.Nodup
 has: ∀x∈all,aD m x=true
theorem Tq.len {m:Rp}{roots:List Ry}(hs:Small m roots){all:List Int}(h:Tq m all):all.length<=1200:=yi 1200 h.nd fun x hx=>⟨by have:=pq (h.has x hx);omega,by have:=wq hs (h.has x hx);omega⟩
theorem Tq.in64 {m:Rp}{roots:List Ry}(hs:Small m roots){all:List Int}(h:Tq m all){x:Int}(hx:x∈all):in64 x:=by
 have h1:=pq (h.has x hx);have h2:=wq hs (h.has x hx);unfold Go.Proofs.YtjmonlcchlkdhaaGreat.in64;omega
theorem Tq.lay {m:Rp}{all:List Int}(h:Tq m all)(l:List Int):Tq m (dm (aD m) all l):=⟨oJ l h.nd,fun x hx=>(yq hx).elim (h.has x) (·.1)⟩
theorem Bh (N:Nat){m:Rp}{roots:List Ry}(hN:6500<N)(hs:Small m roots)(l:List Int)(hl:l.length<=2000)(h64: ∀x∈l,in64 x){all:List Int}(ht:Tq m all):qr N m all l=some (dm (aD m) all l):=by
 apply Sat.eq;unfold qr;refine cI (fun k i (s:List Int)=>oF N l m k s (i:Int)) l.length (fun i s=>Tq m s/\s=dm (aD m) all (l.take i)) _ ?_ ?_ N 0 all V V ⟨ht,J⟩
 ·rintro k i s hi ⟨h0,h1⟩ go;show Sat (oF N l m (k+1) s (i:Int)) _;have a1:=h64 l[i] (R5 _);have hsl:=h0.len hs
  have hnext:dm (aD m) all (l.take (i+1))=(bif aD m l[i]&& !decide (l[i]∈s) then s++ [l[i]] else s):=by
   rw [aM hi,rc, <-h1];rfl
  have hT:Tq m (dm (aD m) all (l.take (i+1))):=ht.lay _;rw [oF.eq_2,cn V,ct];simp only [aK hi,bs,Hv N m _ a1,Pq N hN s V l[i]];unfold uW;cases hh:aD m l[i]
  ·simp only [cf,bs];rw [r64 V V];exact go s ⟨h0,by rw [hnext,hh];rfl⟩
  simp only [ct,bs];by_cases hm:l[i]∈s
  ·rw [RM hm];simp only [nt,cf];rw [r64 V V];exact go s ⟨h0,by rw [hnext,hh,RM hm];rfl⟩
  have e:dm (aD m) all (l.take (i+1))=s++ [l[i]]:=by rw [hnext,hh,RN hm];rfl
  rw [RN hm];simp only [nf,ct];rw [rF (by simp;omega),r64 V V];exact go (s++ [l[i]]) ⟨e▸hT,e.symm⟩
 rintro k s ⟨h0,h1⟩;show Sat (oF N l m (k+1) s _) _;rw [oF.eq_2,cu V,cf];exact av (by simpa using h1)
theorem H5 (N:Nat)(hN:6500<N)(l:List Ry)(hl:l.length<=2000):mN N l=some (bH l):=by
 apply Sat.eq;unfold mN;refine cI (fun k i (s:List Int)=>gG N l k s (i:Int)) l.length (fun i s=>s=bH (l.take i)) _ ?_ ?_ N 0 [] V V J
 ·rintro k i s hi h1 go;show Sat (gG N l (k+1) s (i:Int)) _
  have hsl:s.length<=2000:=by
   rw [h1];unfold bH;rw [R1];exact Nat.le_trans (List.length_filter_le _ _) (by rw [R0];omega)
  have hnext:bH (l.take (i+1))=s++bH [l[i]]:=by rw [aM hi,wA,h1]
  rw [gG.eq_2,cn V,ct];simp only [aK hi,bs,re];unfold oG;cases hb:ba l[i]
  ·simp only [cf];rw [r64 V V];exact go s (by rw [hnext];simp [bH,hb])
  simp only [ct];rw [rF (by simp;omega),r64 V V];exact go (s++ [l[i].N]) (by rw [hnext];simp [bH,hb])
 rintro k s h1;show Sat (gG N l (k+1) s _) _;rw [gG.eq_2,cu V,cf];exact av (by simpa using h1)
theorem xP (N:Nat)(hN:6500<N){m:Rp}{roots:List Ry}(hs:Small m roots)(hw:W64 m){all:List Int}(ht:Tq m all)(k:Nat)(hk:k<=all.length):
  Sat (kH N m all (k:Int)) fun r=>Tq m r/\Thr (CJ N m) all k r:=by
 unfold kH;refine nU (fun f (s:List Int×Nat)=>nI N m f s.1 (s.2:Int)) (fun s=>1300 - s.2) (fun s=>Tq m s.1/\s.2<=s.1.length/\ ∀r,Thr (CJ N m) s.1 s.2 r->Thr (CJ N m) all k r) _ ?_ N (all,k) (by show 1300 - k<N;omega) ⟨ht,hk,fun _ h=>h⟩;rintro f ⟨al,j⟩ ⟨h1,h3,h4⟩ go;show Sat (nI N m (f+1) al (j:Int)) _;simp only at h1 h3 h4;have hlen:=h1.len hs;rw [nI.eq_2];by_cases hj:j<al.length
 ·have hx:=R5 hj;have hsm:=hs.at_ al[j];obtain ⟨a1,a2⟩:=Fq hs hw al[j];rw [cn V,ct,aK hj,bs,KF N m _ (h1.in64 hs hx),bs,It N V _ V V,bs,Bh N hN hs _ a1 a2 h1,bs,r64 V V]
  have hge:al.length<=(dm (aD m) al (cg (bq m al[j]))).length:=by
   obtain ⟨t,e, -⟩:=gT (aD m) al (cg (bq m al[j]));rw [e,RZ];omega
  exact go (dm (aD m) al (cg (bq m al[j])),j+1) (by show 1300 - (j+1)<1300 - j;omega) ⟨h1.lay _,by show j+1<=(dm (aD m) al (cg (bq m al[j]))).length;omega,fun r hr=>h4 r (.step (List.getElem?_eq_getElem hj) hr)⟩
 have:j=al.length:=by omega
 subst this;rw [cu V,cf];exact av ⟨h1,h4 _ (.done (Nat.le_refl _))⟩
theorem Gi (N:Nat)(hN:6500<N){m:Rp}{roots:List Ry}(hs:Small m roots)(hw:W64 m)(hr: ∀v∈roots,in64 v.N):
  ∃b all,IsOrder (CJ N m) (bH roots) b all/\rY N m roots=some all/\((mN N roots).bind fun y5=>(qr N m ([]:List Int) y5).bind fun y8=>kH N m y8 0)=some b:=by
 have hrl:=hs.roots;have ha:=H5 N hN roots V
 have h64: ∀x∈bH roots,in64 x:=fun x hx=>by
  obtain ⟨v,h1, -,rfl⟩:=kN.1 hx;exact hr v h1
 have hal:(bH roots).length<=2000:=by
  unfold bH;rw [R1];exact Nat.le_trans (List.length_filter_le _ _) V
 have hT0:Tq m []:=⟨List.nodup_nil,by simp⟩;have hlay:=Bh N hN hs (bH roots) hal h64 hT0;obtain ⟨b,b0,b1,b2⟩:=xP N hN hs hw (hT0.lay (bH roots)) 0 (Nat.zero_le _);have b0':kH N m (dm (aD m) [] (bH roots)) 0=some b:=b0
 have key:Sat (rY N m roots) fun all=>Ord (CJ N m) b all:=by
  unfold rY;rw [ha,bs,hlay,bs,b0',bs];refine nU (fun f (s:List Int)=>i6 N m f s) (fun s=>1300 - s.length) (fun s=>Tq m s/\ ∀r,Ord (CJ N m) s r->Ord (CJ N m) b r) _ ?_ N b (by show 1300 - b.length<N;omega) ⟨b1,fun _ h=>h⟩;rintro f al ⟨h4,h5⟩ go;show Sat (i6 N m (f+1) al) _;have hlen:=h4.len hs;rw [i6.eq_2];refine cI (fun k i (s:List Int)=>mE N (i6 N m f) al m k s (i:Int)) al.length (fun i s=>Tq m s/\(∃t,s=al++t)/\s=nn (CJ N m) al (al.take i)) _ ?_ ?_ N 0 al V V ⟨h4,⟨[],by simp⟩,J⟩
  ·rintro k i s hi ⟨h0,⟨t,h1⟩,h2⟩ go2;show Sat (mE N (i6 N m f) al m (k+1) s (i:Int)) _;have hsl:=h0.len hs
   have hg:au s (i:Int)=some al[i]:=by
    rw [mH,h1,List.getElem?_append_left hi,List.getElem?_eq_getElem hi]
   have hx:=R5 hi;have hsm:=hs.at_ al[i];obtain ⟨a1,a2⟩:=Fb N hs hw al[i] s
   have hnext:nn (CJ N m) al (al.take (i+1))=dm (aD m) s (dy N (bq m al[i]) s):=by
    rw [aM hi,zn, <-h2];rfl
   rw [mE.eq_2,cn V,ct,hg,bs,KF N m _ (h4.in64 hs hx),bs,Id N hN s V _ V V,bs,Bh N hN hs _ a1 a2 h0,bs,r64 V V];obtain ⟨t',e', -⟩:=gT (aD m) s (dy N (bq m al[i]) s);exact go2 _ ⟨h0.lay _,⟨t++t',by rw [e',h1,RP]⟩,hnext.symm⟩
  rintro k s ⟨h0,⟨t,h1⟩,h2⟩;show Sat (mE N (i6 N m f) al m (k+1) s _) _;have hsl:=h0.len hs;simp only [R2] at h2;rw [mE.eq_2,cu V,cf];unfold wW
  refine dB (fun he=> ?_) fun hne=> ?_
  ·have h6:t=[]:=List.eq_nil_of_length_eq_zero (by rw [h1,RZ] at he;omega)
   have h7:s=al:=by rw [h1,h6,List.append_nil]
   exact av (by rw [h7] at h2⊢;exact h5 _ (.done h2.symm))
  have hle:al.length<=s.length:=by rw [h1,RZ];omega
  refine Sat.bind (xP N hN hs hw h0 al.length hle) fun r ⟨r1,r2⟩=> ?_
  obtain ⟨t3,e3⟩:=r2.app;have a6:=r1.len hs;refine go r ?_ ⟨r1,fun r' hr'=>h5 r' (.step ?_ (by rw [<-h2];exact r2) hr')⟩
  ·show 1300 - r.length<1300 - al.length
   have:s.length<=r.length:=by rw [e3,RZ];omega
   omega
  rw [<-h2];intro e;rw [e] at hne;omega
 obtain ⟨all,k1,k2⟩:=key;exact ⟨b,all,⟨b2,k2⟩,k1,by rw [ha,bs,hlay,bs];exact b0'⟩
theorem C3: ∀{s:List Int} {k:Nat} (h:k+1<s.length),((s.set (k+1) (s[k]'V)).set k s[k+1]).Perm s
 |a::b::r,0,_=>List.Perm.swap a b r
 |a::r,k+1,h=>by
  have ih:=C3 (s:=r) (k:=k) (by simpa using h);simp only [List.set_cons_succ,List.getElem_cons_succ];exact ih.cons a
def PG (s:List Int)(i k:Nat):Prop:= ∀a b:Nat,a<b->b<=i->b≠k->s.getD a 0<=s.getD b 0
theorem yw (s:List Int)(i j:Nat)(x:Int)(hi:i<s.length):(s.set i x).getD j 0=if j=i then x else s.getD j 0:=by
 by_cases e:j=i
 ·subst e;simp [List.getD,hi]
 rw [if_neg e];simp only [List.getD];rw [List.getElem?_set_ne (fun h=>e h.symm)]
theorem ws (s:List Int)(i:Nat)(hi:i<s.length):s.getD i 0=s[i]:=by simp [List.getD,hi]
theorem Gj (N:Nat)(hN:6500<N)(l:List Int)(hl:l.length<=2000)(hn:l.Nodup):tC N l=some (jc l):=by
 apply Sat.eq;unfold tC;rw [rF (by simp;omega),R4]
 have fin: ∀s:List Int,s.Perm l->PG s (l.length - 1) l.length->s=jc l:=fun s hp hi=>by
  have hlen:=hp.length_eq;have hnd:s.Nodup:=hp.nodup_iff.2 hn;refine (Bf hn (List.pairwise_iff_getElem.2 fun a b ha hb hab=> ?_) fun x=>(hp.mem_iff).symm).symm;have h1:=hi a b hab V V;rw [ws s a ha,ws s b hb] at h1;have h2:=List.pairwise_iff_getElem.1 (List.nodup_iff_pairwise_ne.1 hnd) a b ha hb hab;omega
 by_cases h0:l.length=0
 ·have e:l=[]:=List.eq_nil_of_length_eq_zero h0;subst e;obtain ⟨n,rfl⟩: ∃n,N=n+1:=⟨N - 1,by omega⟩;rw [gw.eq_2,cu (by simp),cf];exact av (by unfold jc;simp)
 refine cI (fun k i (s:List Int)=>gw N k s (i:Int)) l.length (fun i s=>s.Perm l/\PG s (i - 1) l.length) _ ?_ ?_ N 1 l V V ⟨List.Perm.refl _,fun a b h1 h2=>absurd h2 V⟩
 ·rintro f i s hi ⟨h1,h2⟩ go;show Sat (gw N (f+1) s (i:Int)) _;have hlen:=h1.length_eq;rw [gw.eq_2,hlen,cn V,ct]
  have hi0:i<=l.length:=by omega
  refine nU (fun k (st:List Int×Nat)=>nJ N (gw N f) (i:Int) k st.1 (st.2:Int)) (fun st=>st.2) (fun st=>st.1.Perm l/\st.2<=i/\PG st.1 i st.2) _ ?_ N (s,i) (by show i<N;omega) ⟨h1,Nat.le_refl _,fun a b q1 q2 q3=>h2 a b q1 (by show b<=i - 1;simp only at q3;omega) V⟩;rintro k ⟨t,j⟩ ⟨g1,g2,g3⟩ go2;simp only at g1 g2 g3;show Sat (nJ N (gw N f) (i:Int) (k+1) t (j:Int)) _;have hlt:=g1.length_eq
  have stop:(j=0\/t.getD (j - 1) 0<=t.getD j 0)->Sat (qQ N (gw N f) (i:Int) t) (· =jc l):=fun hst=>by
   unfold qQ;rw [r64 V V];refine go t ⟨g1,fun a b q1 q2 q3=> ?_⟩
   have q2':b<=i:=by omega
   by_cases e:b=j
   ·subst e;rcases hst with h|h
    ·omega
    by_cases e2:a=b - 1
    ·subst e2;exact h
    have:=g3 a (b - 1) V V V;omega
   exact g3 a b q1 q2' e
  rw [nJ.eq_2];by_cases hj:0<j
  ·have hp:au t ((j:Int) - 1)=some (t[j - 1]'V):=by
    have:=aK (xs:=t) (i:=j - 1) V;rw [show (((j - 1:Nat)):Int)=(j:Int) - 1 by omega] at this;exact this
   have hq:au t (j:Int)=some (t[j]'V):=aK V;rw [cn V,ct,r64 V V,hp,bs,hq,bs,bs];by_cases hc:t[j]'V<t[j - 1]'V
   ·rw [cn hc,ct,bs,r64 (a:=(j:Int) - 1) V V,bs,bs,r64 (a:=(j:Int) - 1) V V]
    have hs2:au (List.set t (j:Int).toNat (t[j - 1]'V)) ((j:Int) - 1)=some ((List.set t (j:Int).toNat (t[j - 1]'V))[j - 1]'(by simp;omega)):=by
     have:=aK (xs:=List.set t (j:Int).toNat (t[j - 1]'V)) (i:=j - 1) (by simp;omega);rw [show (((j - 1:Nat)):Int)=(j:Int) - 1 by omega] at this;exact this
    rw [hs2,bs,r64 (a:=(j:Int) - 1) V V,Int.toNat_natCast,show ((j:Int) - 1).toNat=j - 1 by omega,show (j:Int) - 1=((j - 1:Nat):Int) by omega];obtain ⟨q,rfl⟩: ∃q,j=q+1:=⟨j - 1,by omega⟩;simp only [Nat.add_sub_cancel] at*;refine go2 ((t.set (q+1) (t[q]'V)).set q (t[q+1]'V),q) (by show q<q+1;omega) ⟨(C3 V).trans g1,by show q<=i;omega,fun a b q1 q2 q3=> ?_⟩;have q3':b≠q:=q3;have hqa:=ws t q V;have hqb:=ws t (q+1) V;show ((t.set (q+1) (t[q]'V)).set q (t[q+1]'V)).getD a 0<=((t.set (q+1) (t[q]'V)).set q (t[q+1]'V)).getD b 0;rw [yw _ q _ _ (by simp;omega),yw _ q _ _ (by simp;omega),yw t (q+1) _ _ V,yw t (q+1) _ _ V,if_neg q3'];by_cases b1:b=q+1
    ·rw [if_pos b1];by_cases a1:a=q
     ·rw [if_pos a1];omega
     rw [if_neg a1,if_neg V, <-hqa];exact g3 a q V V V
    rw [if_neg b1];by_cases a1:a=q
    ·rw [if_pos a1, <-hqb];exact g3 (q+1) b V q2 b1
    rw [if_neg a1];by_cases a2:a=q+1
    ·rw [if_pos a2, <-hqa];exact g3 q b V q2 b1
    rw [if_neg a2];exact g3 a b q1 q2 b1
   rw [cu V,cf];refine stop (.inr ?_);rw [ws t (j - 1) V,ws t j V];omega
  rw [cu V,cf,bs,cf];exact stop (.inl V)
 rintro f s ⟨h1,h2⟩;show Sat (gw N (f+1) s _) _;rw [gw.eq_2,h1.length_eq,cu V,cf];unfold wV;exact av (fin s h1 h2)
def kU (c:Rk):List Int:=pick (fun i v=>mu c.Sa i&&ba v) 0 c.Sd
theorem rM (N:Nat)(hN:2000<N)(c:Rk)(hS:c.Sg.length<=1000)(hc:c.Sd.length<=1000):ja N c=some (kU c):=by
 unfold ja kU;rw [vL N hN false c hS hc,bs]
 have e1:(fun (_:Nat) (v:Ry)=>(true==false)&&ba v)=fun _ _=>false:=by funext i v;rfl
 have e2:(fun (i:Nat) (v:Ry)=>(kW c.Sa i==false)&&ba v)=fun i v=>mu c.Sa i&&ba v:=by funext i v;rw [zU];cases mu c.Sa i<;>rfl
 rw [e1,e2,Dc,R4]
theorem ni (c:Rk):(kU c).length<=c.Sd.length:=yc _ 0 c.Sd
theorem EV {c:Rk}{x:Int}(h:x∈kU c): ∃v∈c.Sg++c.Sd,v.N=x:=by
 obtain ⟨v,h1,h2⟩:=yb h;exact ⟨v,RR _ h1,h2⟩
def da (m:Rp)(l:List Int):Bool:=l.all (aD m)
def yA (N:Nat)(m:Rp)(c:Rk):Bool:=(d8 N c).getD false&&(da m (cg c)&&da m (kU c))
def Pc (N:Nat)(m:Rp)(roots:List Ry):Bool:=m.Se.all (yA N m)&&(m.Sc.all (yA N m)&&da m (bH roots))
theorem yX {m:Rp}{roots:List Ry}(hs:Small m roots)(hw:W64 m){c:Rk}(hc:c∈m.Se++m.Sc):((cg c).length<=1200/\ ∀x∈cg c,in64 x)/\(kU c).length<=1200/\ ∀x∈kU c,in64 x:=by
 have h1:=hs.cells c hc;have h2:=kk c;have h3:=ni c;refine ⟨⟨by omega,fun x hx=> ?_⟩,by omega,fun x hx=> ?_⟩
 ·obtain ⟨v,h4,rfl⟩:=BV hx;exact hw c hc v h4
 obtain ⟨v,h4,rfl⟩:=EV hx;exact hw c hc v h4
structure Bnd (B:Nat) (m:Rp) (roots:List Ry):Prop where
 young:m.Se.length<=B
 old:m.Sc.length<=B
 roots:roots.length<=B
 cells: ∀c∈m.Se++m.Sc,c.Sg.length<=B/\c.Sd.length<=B
def wt:List Rk->Nat
 | []=>0
 |c::l=>1+c.Sg.length+c.Sd.length+wt l
theorem AV: ∀a b:List Rk,wt (a++b)=wt a+wt b
 | [],b=>by simp [wt]
 |c::a,b=>by rw [List.cons_append,wt,wt,AV a b];omega
theorem KV {l:List Rk}{i:Nat}(h:i<l.length):wt (l.take (i+1))=wt (l.take i)+(1+l[i].Sg.length+l[i].Sd.length):=by
 rw [aM h,AV];simp [wt]
def W6 (m:Rp)(roots:List Ry):Prop:=roots.length+wt m.Se+wt m.Sc<=600
structure Wtd (m:Rp) (roots:List Ry):Prop where
 le:roots.length+wt m.Se+wt m.Sc<=2900
 cnt:m.Se.length+m.Sc.length<=600
def ib (p:Int->Bool):List Ry->List Ry
 |k::v::r=>(bif p k.N then [k,v] else [])++ib p r
 |_=> []
theorem Cy (p:Int->Bool): ∀l:List Ry,(ib p l).length<=l.length
 | []=>by simp [ib]
 | [_]=>by simp [ib]
 |k::v::r=>by
  have:=Cy p r;unfold ib;cases p k.N<;>simp<;>omega
theorem xC {p:Int->Bool}{x:Ry}: ∀{l:List Ry},x∈ib p l->x∈l
 | [],h=>by simp [ib] at h
 | [_],h=>by simp [ib] at h
 | k::v::r,h=>by
  unfold ib at h;rcases List.mem_append.1 h with h|h
  ·cases hp:p k.N with
   |false=>rw [hp] at h;cases h
   |true=>rw [hp] at h;simp at h;rcases h with h|h<;>simp [h]
  have:=xC h;simp [this]
def oa (N:Nat)(l:List Int)(c:Rk):Rk:=bif pK N c then ⟨c.Sa,c.Sk,c.Sj,c.Sn,c.Sg,ib (fun x=>decide (x∈l)) c.Sd⟩ else c
theorem Iu (N:Nat)(hN:6500<N)(l:List Int)(hl:l.length<=5000)(y:Rk)(k v:Ry)(s:List Ry)(hs:s.length<=5000):cQ (fun x st=>i4 N (fun x=>iy N x l) y x st) (k,v) (none,s)=some (true,(none,s++(bif decide (k.N∈l) then [k,v] else []))):=by
 unfold cQ i4 iy;simp only [bs,o9 N hN l hl];cases decide (k.N∈l)
 ·simp only [cf,List.append_nil];rfl
 simp only [ct];rw [rF (by simp;omega)];rfl
theorem Dt (N:Nat)(hN:6500<N)(l:List Int)(hl:l.length<=5000)(y c:Rk)(hc:c.Sd.length<=1000)(he:c.Sd.length%2=0): ∀(m i:Nat) (s:List Ry),c.Sd.length<m+i->i<=c.Sd.length->i%2=0->s.length<=i->d7 N (cQ (fun x st=>i4 N (fun x=>iy N x l) y x st)) c m (i:Int) (none,s)=some (none,s++ib (fun x=>decide (x∈l)) (c.Sd.drop i))
 |0,i,s,h,h2,_,_=>by omega
 | m+1,i,s,h,h2,h3,h4=>by
  rw [d7.eq_2,r64 (a:=(i:Int)+1) V V];by_cases hi:i<c.Sd.length
  ·have hi1:i+1<c.Sd.length:=by omega
   have a1:au c.Sd ((i:Int)+1)=some c.Sd[i+1]:=by
    have:=aK hi1;simpa using this
   rw [cn V,ct,aK hi,bs,r64 (a:=(i:Int)+1) V V,a1,bs,Iu N hN l hl y _ _ s V,bs];simp only [nt,cf];rw [r64 V V]
   have hlen:(s++(bif decide (c.Sd[i].N∈l) then [c.Sd[i],c.Sd[i+1]] else [])).length<=i+2:=by
    cases decide (c.Sd[i].N∈l)<;>simp<;>omega
   have:=Dt N hN l hl y c hc he m (i+2) _ V V V hlen;simp only [Int.natCast_add,Int.cast_ofNat_Int] at this;rw [this,List.drop_eq_getElem_cons hi,List.drop_eq_getElem_cons hi1,RP];rfl
  rw [cu V,cf,List.drop_eq_nil_of_le V];simp [ib]
theorem Cw (N:Nat)(hN:6500<N)(l:List Int)(hl:l.length<=5000)(c:Rk)(hS:c.Sg.length<=600)(hc:c.Sd.length<=600):lH N c l=some (bif pK N c then oa N l c else C0):=by
 obtain ⟨-,h1,h2⟩:=GE N V c V V;unfold lH uB iC oa;rw [h1,bs];cases hw:pK N c
 ·rfl
 have e:ll N c=some ():=rfl;have:=Dt N hN l hl c c V (h2 hw) N 0 [] V V rfl (by simp);simp only [nt,cf,ct,e,bs,oQ N c ⟨hS,hc⟩];have h3:d7 N (cQ (fun x st=>i4 N (fun x=>iy N x l) c x st)) c N 0 (none,[])=some (none,[]++ib (fun x=>decide (x∈l)) (c.Sd.drop 0)):=this;rw [h3,bs];rfl
theorem GU (N:Nat)(l:List Int)(c:Rk):(oa N l c).Sg.length=c.Sg.length/\(oa N l c).Sd.length<=c.Sd.length:=by
 unfold oa;cases pK N c
 ·exact ⟨J,Nat.le_refl _⟩
 exact ⟨J,Cy _ _⟩
theorem GT {N:Nat}{l:List Int}{c:Rk}{v:Ry}(h:v∈(oa N l c).Sg++(oa N l c).Sd):v∈c.Sg++c.Sd:=by
 unfold oa at h;cases hw:pK N c
 ·rw [hw] at h;exact h
 rw [hw] at h;rcases List.mem_append.1 h with h|h
 ·exact RQ _ h
 exact RR _ (xC h)
def Ca (N:Nat)(c:Rk):Bool:=decide (c.Sa=10)&&(d8 N c).getD false
def MR (N:Nat)(c:Rk):Rk:=bif Ca N c then ⟨c.Sa,c.Sk,c.Sj,c.Sn,c.Sg,c.Sd.take 1⟩ else c
def P0 (N:Nat)(m:Rp):Rp:=⟨m.Se.map (MR N),m.Sc.map (MR N)⟩
theorem tS {m:Rp}{roots:List Ry}(hs:Small m roots){x:Int}(h:aD m x=true):in64 x:=by
 have h2:=pq h;have h3:=wq hs h;unfold in64;omega
def kT:Ry:=⟨0,0,⟨#[]⟩⟩
def ed (l:List Int):List Ry->List Ry
 |t::h::k::s::r=>(bif decide (t.N∈l) then [t,h,(bif decide (k.Sa=7)&& !decide (k.N∈l) then kT else k),s] else [])++ed l r
 |_=> []
def lU (l:List Int)(cb:Ry):List Ry->List Ry
 |t::h::_::s::r=>(bif decide (t.N∈l) then [] else [cb,h,s])++lU l cb r
 |_=> []
theorem tM (l:List Int)(t h k s:Ry)(r:List Ry):ed l (t::h::k::s::r)=(bif decide (t.N∈l) then [t,h,(bif decide (k.Sa=7)&& !decide (k.N∈l) then kT else k),s] else [])++ed l r:=Eq.trans rfl rfl
theorem Gb (l:List Int)(cb t h k s:Ry)(r:List Ry):lU l cb (t::h::k::s::r)=(bif decide (t.N∈l) then [] else [cb,h,s])++lU l cb r:=Eq.trans rfl rfl
theorem vG (p:Int->Bool)(k v:Ry)(r:List Ry):ib p (k::v::r)=(bif p k.N then [k,v] else [])++ib p r:=Eq.trans rfl rfl
theorem JV (l:List Int)(cb:Ry): ∀xs:List Ry,(ed l xs).length+(lU l cb xs).length<=xs.length
 | []=>by simp [ed,lU]
 | [_]=>by simp [ed,lU]
 | [_,_]=>by simp [ed,lU]
 | [_,_,_]=>by simp [ed,lU]
 |t::h::k::s::r=>by
  have:=JV l cb r;unfold ed lU;cases decide (t.N∈l)<;>simp<;>omega
def vH (l:List Int)(c:Rk):Rk×List Ry:=(⟨c.Sa,c.Sk,c.Sj,c.Sn,c.Sg,c.Sd.take 1++ed l (c.Sd.drop 1)⟩,lU l (c.Sd.headD kT) (c.Sd.drop 1))
theorem four {l:List Ry}(h:4<=l.length): ∃t a k s r,l=t::a::k::s::r:=by
 match l,h with
 |t::a::k::s::r,_=>exact ⟨t,a,k,s,r,rfl⟩
theorem FE (N:Nat)(hN:6500<N)(l:List Int)(p:List (Int×Bool))(hp: ∀x,(lk p x).getD false=decide (x∈l))(c y:Rk)(cb:Ry)(hcb:c.Sd[0]? =some cb)(hc:c.Sd.length<=1000): ∀(m i:Nat) (o t:List Ry),c.Sd.length<m+i->i<=c.Sd.length->(c.Sd.length - i)%4=0->o.length<=i->t.length<=i->fP N (cQ (fun x st=>fo N c p y x st)) c m (i:Int) (none,(o,t))=some (none,(o++ed l (c.Sd.drop i),t++lU l cb (c.Sd.drop i)))
 |0,i,o,t,h,h2,_,_,_=>by omega
 | m +1,i,o,t,h,h2,h3,h4,h5=>by
  rw [fP.eq_2,r64 (a:=(i:Int)+4) V V];by_cases hi:i+4<=c.Sd.length
  ·obtain ⟨v1,v2,v3,v4,r,hd⟩:=four (l:=c.Sd.drop i) (by rw [List.length_drop];omega)
   have hd4:c.Sd.drop (i+4)=r:=by rw [<-List.drop_drop,hd];rfl
   have hx:(c.Sd.drop (i:Int).toNat).take (((i:Int)+4).toNat - (i:Int).toNat)=[v1,v2,v3,v4]:=by
    rw [Int.toNat_natCast,show ((i:Int)+4).toNat - i=4 by omega,hd];rfl
   have h0:au c.Sd 0=some cb:=by
    have:=mH c.Sd 0;rw [hcb] at this;exact this
   have e0:au [v1,v2,v3,v4] 0=some v1:=rfl;have e1:au [v1,v2,v3,v4] 1=some v2:=rfl;have e2:au [v1,v2,v3,v4] 2=some v3:=rfl;have e3:au [v1,v2,v3,v4] 3=some v4:=rfl;rw [JT V,ct,r64 V V,r64 V V,iq ⟨by omega,by omega,by omega,by omega⟩,hx]
   have hb:cQ (fun x st=>fo N c p y x st) ((i:Int),[v1,v2,v3,v4]) (none,(o,t))=some (true,(none,(o++(bif decide (v1.N∈l) then [v1,v2,(bif decide (v3.Sa=7)&& !decide (v3.N∈l) then kT else v3),v4] else []),t++(bif decide (v1.N∈l) then [] else [cb,v2,v4])))):=by
    unfold cQ fo;simp only [e0,e1,e2,e3,bs,hp,h0];unfold lS;simp only [e0,e1,e2,e3,bs];cases decide (v1.N∈l)
    ·simp only [nf,ct,cf,List.append_nil];rw [rF (by simp;omega)];rfl
    simp only [nt,ct,cf,List.append_nil];rw [rF (by simp;omega),rF (by simp;omega)];cases decide (v3.Sa=7)<;>cases decide (v3.N∈l)<;>rfl
   rw [hb,bs];simp only [nt,cf];rw [r64 V V];have:=FE N hN l p hp c y cb hcb hc m (i+4) (o++(bif decide (v1.N∈l) then [v1,v2,(bif decide (v3.Sa=7)&& !decide (v3.N∈l) then kT else v3),v4] else [])) (t++(bif decide (v1.N∈l) then [] else [cb,v2,v4])) V hi V (by cases decide (v1.N∈l)<;>simp<;>omega) (by cases decide (v1.N∈l)<;>simp<;>omega);rw [show (((i+4:Nat)):Int)=(i:Int)+4 by omega] at this;rw [this,hd4,hd,RP,RP];rfl
  rw [JU V,cf,List.drop_eq_nil_of_le V];simp [ed,lU]
theorem Lr (N:Nat)(hN:2000<N)(c:Rk)(hS:c.Sg.length<=1000)(hc:c.Sd.length<=1000):sa N c=some (Ca N c)/\(Ca N c=true->1<=c.Sd.length/\(c.Sd.length - 1)%4=0):=by
 obtain ⟨b,hb,a1⟩:=zh N hN c hS hc;unfold sa Ca;rw [uK N hN c hS hc,hb];refine ⟨by cases decide (c.Sa=10)<;>cases b<;>rfl,fun h=> ?_⟩;rw [R3,decide_eq_true_eq] at h;exact (a1 h.2).2 h.1
theorem xf (N:Nat)(hN:6500<N)(l:List Int)(hl:l.length<=5000)(c:Rk)(hS:c.Sg.length<=600)(hc:c.Sd.length<=600):jC N c l=some (bif Ca N c then vH l c else (C0,[])):=by
 obtain ⟨h1,h2⟩:=Lr N V c V V;unfold jC;rw [h1,bs];cases hw:Ca N c
 ·rfl
 obtain ⟨g1,g2⟩:=h2 hw;simp only [nt,cf,ct]
 have hcb:c.Sd[0]? =some (c.Sd.headD kT):=by
  cases hm:c.Sd with
  |nil=>rw [hm] at g1;simp at g1
  |cons a r=>rfl
 apply Sat.eq;refine cI (fun k i (s:List (Int×Bool))=>gK N l c k (i:Int) s) l.length (fun i s=> ∀x,(lk s x).getD false=decide (x∈l.take i)) _ ?_ ?_ N 0 [] V V (fun x=>by simp;rfl)
 ·intro k i s hi h3 go;show Sat (gK N l c (k+1) (i:Int) s) _;rw [gK.eq_2,cn V,ct,aK hi,bs,r64 V V]
  refine go _ fun x=> ?_
  rw [Fo,aM hi];by_cases e:l[i]=x
  ·rw [if_pos e,RM (by simp [e])];rfl
  rw [if_neg e,h3 x];by_cases hm:x∈l.take i
  ·rw [RM hm,RM (RQ _ hm)]
  rw [RN hm,RN (by simp only [List.mem_append,List.mem_singleton];exact fun h=>h.elim hm fun h=>e h.symm)]
 intro k s h3;show Sat (gK N l c (k+1) _ s) _;rw [R2] at h3;rw [gK.eq_2,cu V,cf];unfold oP sB cF oO mj
 have h0:au c.Sd 0=some (c.Sd.headD kT):=by
  have:=mH c.Sd 0;rw [hcb] at this;exact this
 rw [rF (by simp;omega),bs,h0,bs,bs,bs];have:=FE N hN l s h3 c ⟨c.Sa,c.Sk,c.Sj,c.Sn,[]++c.Sg,[c.Sd.headD kT]⟩ _ hcb V N 1 [c.Sd.headD kT] [] V g1 g2 (by simp) (by simp);have this':fP N (cQ (fun x st=>fo N c s ⟨c.Sa,c.Sk,c.Sj,c.Sn,[]++c.Sg,[c.Sd.headD kT]⟩ x st)) c N 1 (none,([c.Sd.headD kT],[]))=_:=this;rw [this',bs];refine av ?_
 have ht:c.Sd.take 1=[c.Sd.headD kT]:=by
  cases hm:c.Sd with
  |nil=>rw [hm] at g1;simp at g1
  |cons a r=>rfl
 unfold vH;rw [ht];rfl
def uo (a:Int):Bool:=decide (a.tmod 2=0)
def CU (a:Int):Bool:=decide (a.tmod 2=1)
def nK (live:List Int):List Int:=live.filter uo++live.filter CU
theorem wu {p:Int->Bool}: ∀{l:List Int} {i:Nat} (hi:i<l.length),p l[i]=true->(l.filter p)[((l.take i).filter p).length]? =some l[i]
 |x::l,0,hi,h=>by
  simp only [List.getElem_cons_zero] at h;simp [h]
 |x::l,i+1,hi,h=>by
  simp only [List.getElem_cons_succ] at h;have ih:=wu (l:=l) (i:=i) (by simpa using hi) h;rw [List.take_succ_cons]
  cases hx:p x with
  |true=>simp only [List.filter_cons,hx,if_true,List.length_cons,List.getElem?_cons_succ,List.getElem_cons_succ];exact ih
  |false=>simp only [List.filter_cons,hx,Bool.false_eq_true,if_false,List.getElem_cons_succ];exact ih
theorem FF {p:Int->Bool}{l:List Int}{i:Nat}(hi:i<l.length):((l.take (i+1)).filter p).length=((l.take i).filter p).length+(bif p l[i] then 1 else 0):=by
 rw [aM hi,List.filter_append,RZ];cases h:p l[i]<;>simp [h]
theorem BC (N:Nat){σ:Type}(φ:Int×Int->σ->Option (Option Exit×σ))(live:List Int)(hl:live.length<=2000)(hN:6500<N)(kb:Int->Int->Option Exit×σ->Option (Option Exit×σ))(b:Int)(p:Int->Bool)(hp: ∀a,p a=decide (a.tmod 2=b))(p6:Int)(h6:0<=p6/\p6<=2)(n0:Nat)(hn0:n0<=2000)
  (Inv:Nat->σ->Prop) (R:Option Exit×σ->Prop)
  (hstep: ∀i (hi:i<live.length) s,p live[i]=true->Inv (n0+((live.take i).filter p).length) s->Sat (φ (((n0+((live.take i).filter p).length:Nat):Int),live[i]) s) fun r=>r.1=none/\Inv (n0+((live.take i).filter p).length+1) r.2)
  (hk: ∀s,Inv (n0+(live.filter p).length) s->Sat (kb ((n0+(live.filter p).length:Nat):Int) (p6+1) (none,s)) R) (s:σ) (hs:Inv n0 s):Sat (cN N kb (cQ φ) b p6 live N (n0:Int) 0 (none,s)) R:=by
 have hfl: ∀i,((live.take i).filter p).length<=2000:=fun i=>Nat.le_trans (List.length_filter_le _ _) (by rw [R0];omega)
 refine cI (fun k i (st:Nat×σ)=>cN N kb (cQ φ) b p6 live k (st.1:Int) (i:Int) (none,st.2)) live.length (fun i st=>st.1=n0+((live.take i).filter p).length/\Inv st.1 st.2) _ ?_ ?_ N 0 (n0,s) V V ⟨by simp,hs⟩
 ·rintro k i ⟨n,st⟩ hi ⟨h1,h2⟩ go;simp only at h1 h2;have hb:=hfl i;show Sat (cN N kb (cQ φ) b p6 live (k+1) (n:Int) (i:Int) (none,st)) _;have hnx:=FF (p:=p) hi;rw [cN.eq_2,cn V,ct,aK hi,bs, <-hp];unfold kj;rw [r64 (a:=(i:Int)+1) V V];cases hq:p live[i]
  ·simp only [nf,ct];rw [hq] at hnx;have hg:=go (n,st) ⟨by show n=_;rw [hnx];exact h1,h2⟩
   first|rw [r64 (a:=(i:Int)+1) V V]|skip
   exact hg
  simp only [nt,cf];rw [hq] at hnx;obtain ⟨⟨e,s'⟩,g1,g2,g3⟩:=hstep i hi st hq (by rw [<-h1];exact h2);simp only at g2 g3;subst g2
  have hf:cQ φ ((n:Int),live[i]) (none,st)=some (true,(none,s')):=by
   unfold cQ;simp only;rw [h1,g1];rfl
  rw [hf,bs];simp only [nt,cf];rw [r64 (a:=(n:Int)+1) V V];have hg:=go (n+1,s') ⟨by show n+1=_;rw [hnx];show n+1=_+(_+1);omega,by show Inv (n+1) s';rw [h1];exact g3⟩
  first|rw [r64 (a:=(i:Int)+1) V V]|skip
  exact hg
 rintro k ⟨n,st⟩ ⟨h1,h2⟩;simp only [R2] at h1 h2;show Sat (cN N kb (cQ φ) b p6 live (k+1) (n:Int) _ (none,st)) _;rw [cN.eq_2,cu V,cf];unfold nQ;rw [r64 V V,h1];exact hk st (by rw [<-h1];exact h2)
theorem BD (N:Nat){σ:Type}(φ:Int×Int->σ->Option (Option Exit×σ))(live:List Int)(hl:live.length<=2000)(hN:6500<N)
  (Inv:Nat->σ->Prop) (hstep: ∀n a s,(nK live)[n]? =some a->Inv n s->Sat (φ ((n:Int),a) s) fun r=>r.1=none/\Inv (n+1) r.2) (s:σ) (hs:Inv 0 s):Sat (fi N live (cQ φ) (none,s)) fun r=>r.1=none/\Inv (nK live).length r.2:=by
 obtain ⟨k,rfl⟩: ∃k,N=k+3:=⟨N - 3,by omega⟩;have hev:(live.filter uo).length<=2000:=Nat.le_trans (List.length_filter_le _ _) hl;unfold fi;rw [eF.eq_2,show ((([0,1]:List Int).length:Int))=2 from rfl,cn V,ct,show au ([0,1]:List Int) 0=some 0 from rfl,bs];refine BC (k+3) φ live hl V _ 0 uo (fun _=>J) 0 V 0 V Inv _ (fun i hi st hp hi2=> ?_) (fun st hst=> ?_) s hs
 ·refine hstep _ _ _ ?_ hi2;unfold nK;rw [List.getElem?_append_left]
  ·rw [Nat.zero_add];exact wu hi hp
  have:=(List.getElem?_eq_some_iff.1 (wu hi hp)).1;omega
 rw [eF.eq_2,show ((([0,1]:List Int).length:Int))=2 from rfl,cn V,ct,show au ([0,1]:List Int) (0+1)=some 1 from rfl,bs];refine BC (k+3) φ live hl V _ 1 CU (fun _=>J) (0+1) V (0+(live.filter uo).length) V Inv _ (fun i hi st hp hi2=> ?_) (fun st hst=> ?_) st hst
 ·refine hstep _ _ _ ?_ hi2;unfold nK;rw [List.getElem?_append_right V,show 0+(live.filter uo).length+((live.take i).filter CU).length - (live.filter uo).length=((live.take i).filter CU).length by omega];exact wu hi hp
 rw [eF.eq_2,show ((([0,1]:List Int).length:Int))=2 from rfl,cu V,cf];refine av ⟨J,?_⟩;unfold nK;rw [RZ]
 have e:0+(live.filter uo).length+(live.filter CU).length=(live.filter uo).length+(live.filter CU).length:=by omega
 rw [<-e];exact hst
def Px (ha hb:Int->Bool)(A B:List Int)(v w:Ry):Bool:=
 bif !ba v|| !ba w then decide (v=w)
 else decide (v.Sa=w.Sa)&&(v.S.toList==w.S.toList)&&(bif !decide (v.N∈A)|| !decide (w.N∈B) then !decide (v.N∈A)&& !decide (w.N∈B)&&(ha v.N==hb w.N) else decide (A.idxOf v.N=B.idxOf w.N))
def Kw (ha hb:Int->Bool)(A B:List Int)(x y:List Ry):Bool:=decide (x.length=y.length)&&(x.zip y).all fun p=>Px ha hb A B p.1 p.2
def OJ (ha hb:Int->Bool)(A B:List Int)(c d:Rk):Bool:=decide (c.Sa=d.Sa)&&decide (c.Sk=d.Sk)&&decide (c.Sj=d.Sj)&&Kw ha hb A B c.Sg d.Sg&&Kw ha hb A B c.Sd d.Sd
def PB (N:Nat)(a:Rp)(x:List Ry)(A:List Int)(b:Rp)(y:List Ry)(B:List Int):Bool:=
 decide (A.length=B.length)&&Kw (aD a) (aD b) A B x y&&(A.zip B).all fun p=>OJ (aD a) (aD b) A B (oa N A (bq a p.1)) (oa N B (bq b p.2))
def QL (kv:List (Int×Int))(l:List Int):Prop:= ∀x,lk kv x=if x∈l then some (l.idxOf x:Int) else none
structure SideOk (m:Rp) (x:List Ry) (A:List Int):Prop where
 small:Small m x
 w64:W64 m
 x64: ∀v∈x,in64 v.N
 len:A.length<=1200
 nd:A.Nodup
 has: ∀a∈A,aD m a=true
theorem Iz {v w:Ry}(h:v.Sa=w.Sa):ba v=ba w:=by unfold ba;rw [h]
def Ot (p:Int->Bool):List Ry->List Bool
 |k::_::r=>p k.N::Ot p r
 |_=> []
def bT (c:Rk):List Int:=cg c++kU c
def pD (N:Nat)(c:Rk):Bool:=(d8 N c).getD false
theorem IU (c:Rk):(bT c).length<=c.Sg.length+2*c.Sd.length:=by
 have h1:=kk c;have h2:=ni c;unfold bT;rw [RZ];omega
theorem yx: ∀l:List Rk,(l.flatMap bT).length<=2*wt l
 | []=>by simp [wt]
 |c::l=>by
  have h1:=yx l;have h2:=IU c;rw [List.flatMap_cons,RZ,wt];omega
theorem Gz (N:Nat)(m:Rp)(l:List Int)(hl:l.length<N)(a1:l.length<=6000)(h64: ∀x∈l,in64 x):bB N l (fun x=>gI N x m)=some (!da m l):=by
 have key: ∀k i:Nat,l.length<k+i->i<=l.length->Sat (dt N (fun x=>gI N x m) l k (i:Int)) fun r=>decide (0<=r)=!(l.drop i).all (aD m):=by
  intro k
  induction k with
  |zero=>intro i h1 h2;omega
  | succ k ih=>
   intro i h1 h2;rw [dt.eq_2];by_cases hi:i<l.length
   ·have h3:=ih (i+1) V hi;rw [show (((i+1:Nat)):Int)=(i:Int)+1 by omega] at h3;rw [cn V,ct,aK hi,bs,List.drop_eq_getElem_cons hi,List.all_cons];unfold gI;rw [td N m _ (h64 _ (R5 _)),bs,bs,r64 V V];cases aD m l[i]
    ·exact av (by rw [RM V];rfl)
    exact h3
   rw [cu V,cf,List.drop_eq_nil_of_le V];exact av J
 obtain ⟨r,h1,h2⟩:=key N 0 V V;have h1':dt N (fun x=>gI N x m) l N 0=some r:=h1;unfold bB jR;rw [h1',bs,h2];unfold da;simp
def mn (N:Nat)(m:Rp)(roots:List Ry):Int:=
 bif (m.Se++m.Sc).all (pD N) then bif da m ((m.Se++m.Sc).flatMap bT++bH roots) then 0 else 50 else 51
theorem CA (N:Nat)(hN:6500<N){m:Rp}{roots:List Ry}(hs:Small m roots)(ht:Wtd m roots)(hw:W64 m)(hr: ∀v∈roots,in64 v.N):kL N m roots=some (mn N m roots):=by
 have hle:=ht.le;have h1:=hs.young;have h2:=hs.old;have h3:=hs.roots
 have a64: ∀(l:List Rk),(∀c∈l,c∈m.Se++m.Sc)-> ∀x∈l.flatMap bT,in64 x:=fun l hl x hx=>by
  obtain ⟨c,hc,hx⟩:=List.mem_flatMap.1 hx;obtain ⟨⟨-,g1⟩, -,g2⟩:=yX hs hw (hl c hc);exact (List.mem_append.1 hx).elim (g1 x) (g2 x)
 have r64': ∀x∈bH roots,in64 x:=fun x hx=>by
  obtain ⟨v,h1, -,rfl⟩:=kN.1 hx;exact hr v h1
 have hal: ∀k,(bH (roots.take k)).length<=roots.length:=fun k=>by
  unfold bH;rw [R1];exact Nat.le_trans (List.length_filter_le _ _) (by rw [R0];omega)
 -- the roots
 have hroots: ∀q:List Int,q.length+roots.length<=5800->(∀x∈q,in64 x)->nS N roots m q=some (bif da m (q++bH roots) then 0 else 50):=by
  intro q hq a1;apply Sat.eq;unfold nS;refine cI (fun k i (s:List Int)=>eV N roots m k s (i:Int)) roots.length (fun i s=>s=q++bH (roots.take i)) _ ?_ ?_ N 0 q V V (by simp [bH])
  ·rintro k i s hi h1 go;show Sat (eV N roots m (k+1) s (i:Int)) _
   have hnext:q++bH (roots.take (i+1))=s++bH [roots[i]]:=by rw [aM hi,wA,h1,RP]
   have hsl:s.length<=5800:=by have:=hal i;rw [h1,RZ];omega
   rw [eV.eq_2,cn V,ct,aK hi,bs,re,bs];unfold mP;cases hb:ba roots[i]
   ·rw [cf,r64 V V];exact go s (by rw [hnext];simp [bH,hb])
   rw [ct,rF (by simp;omega),r64 V V];exact go _ (by rw [hnext];simp [bH,hb])
  rintro k s h1;show Sat (eV N roots m (k+1) s _) _;rw [R2] at h1
  have hsl:s.length<=5800:=by have:=hal roots.length;rw [R2] at this;rw [h1,RZ];omega
  rw [eV.eq_2,cu V,cf];unfold pI;rw [Gz N m s V V (fun x hx=>by rw [h1] at hx;exact (List.mem_append.1 hx).elim (a1 x) (r64' x)),bs, <-h1];cases da m s<;>exact av rfl
 -- one row
 have row: ∀(kb:List Int->Int->Option Int) (p:Int) (l:List Rk) (q:List Int),in64 (p+1)->l.length<=600->wt l<=2900->(∀c∈l,c∈m.Se++m.Sc)->q.length<=6000->kC N kb m p l roots N q 0=bif l.all (pD N) then kb (q++l.flatMap bT) (p+1) else some 51:=by
  intro kb p l q hp hll hl a2 hq
  have key: ∀(k i:Nat),l.length<k+i->i<=l.length->kC N kb m p l roots k (q++(l.take i).flatMap bT) (i:Int)=bif (l.drop i).all (pD N) then kb (q++l.flatMap bT) (p+1) else some 51:=by
   intro k
   induction k with
   |zero=>intro i h1 h2;omega
   | succ k ih=>
    intro i h4 h5;have hfl:=yx (l.take i)
    have hwt:wt (l.take i)<=wt l:=by
     have:=AV (l.take i) (l.drop i);rw [List.take_append_drop] at this;omega
    by_cases hi:i<l.length
    ·have hm:=a2 l[i] (R5 _);have hc:=hs.cells _ hm;have hwi:=KV hi
     have hwt2:wt (l.take (i+1))<=wt l:=by
      have:=AV (l.take (i+1)) (l.drop (i+1));rw [List.take_append_drop] at this;omega
     obtain ⟨b,hb, -⟩:=zh N V l[i] V V
     have hrc:pD N l[i]=b:=by unfold pD;rw [hb];rfl
     have e1:=kk l[i];have e2:=ni l[i];have h6:=ih (i+1) V hi;rw [show (((i+1:Nat)):Int)=(i:Int)+1 by omega] at h6;rw [kC.eq_2,cn V,ct,aK hi,bs,uK N V _ V V,hb,bs,nb N V _ V V,bs,RZ,rF V,rM N V _ V V,bs,RZ,RZ,rF V,r64 V V]
     have hap:q++(l.take i).flatMap bT++cg l[i]++kU l[i]=q++(l.take (i+1)).flatMap bT:=by
      rw [aM hi,List.flatMap_append];simp [bT,RP]
     rw [hap,h6,List.drop_eq_getElem_cons hi,List.all_cons,hrc];cases b<;>rfl
    have e:i=l.length:=by omega
    subst e;rw [kC.eq_2,cu V,cf,List.drop_length,R2];unfold pJ;rw [iq hp];rfl
  have:=key N 0 V V;simpa using this
 have hwy:wt m.Se<=2900:=by omega
 have hwo:wt m.Sc<=2900:=by omega
 have hfy:=yx m.Se;have hfo:=yx m.Sc;obtain ⟨k,rfl⟩: ∃k,N=k+3:=⟨N - 3,by omega⟩;unfold kL mn;rw [lA.eq_2,show ((([m.Se,m.Sc]:List RS).length:Int))=2 from rfl,cn V,ct,show au ([m.Se,m.Sc]:List RS) 0=some m.Se from rfl,bs,row _ 0 m.Se [] (by unfold in64;omega) h1 hwy (fun c hc=>RQ _ hc) (by simp)];rw [lA.eq_2,show ((([m.Se,m.Sc]:List RS).length:Int))=2 from rfl,cn V,ct,show au ([m.Se,m.Sc]:List RS) (0+1)=some m.Sc from rfl,bs,R4,row _ (0+1) m.Sc (m.Se.flatMap bT) (by unfold in64;omega) h2 hwo (fun c hc=>RR _ hc) V]
 rw [lA.eq_2,show ((([m.Se,m.Sc]:List RS).length:Int))=2 from rfl,cu V,cf,hroots _ (by rw [RZ];omega) (fun x hx=>by
  rw [<-List.flatMap_append] at hx
  exact a64 _ (fun c hc=>hc) x hx),List.all_append,List.flatMap_append]
 cases m.Se.all (pD (k+3))<;>cases m.Sc.all (pD (k+3))<;>rfl
def qg (f:List Int)(a:Int):Int:=2*((f.idxOf a:Nat):Int)+2
def cO (ρ:Int->Int)(f:List Int)(v:Ry):Ry:=bif ba v&&decide (v.N∈f) then ⟨v.Sa,ρ v.N,v.S⟩ else v
def ki (ρ:Int->Int)(f:List Int)(c:Rk):Rk:=⟨c.Sa,c.Sk,c.Sj,c.Sn,c.Sg.map (cO ρ f),c.Sd.map (cO ρ f)⟩
def RhoM (kv:List (Int×Int))(f:List Int):Prop:= ∀x,lk kv x=if x∈f then some (qg f x) else none
theorem tG (N:Nat)(hN:6500<N)(l:List Ry)(hl:l.length<=6000)(kv:List (Int×Int))(f:List Int)(hk:RhoM kv f):dV N l kv=some (l.map (cO (qg f) f)):=by
 apply Sat.eq;unfold dV;refine cI (fun k i (s:List Ry)=>fL N l kv k s (i:Int)) l.length (fun i s=>s=(l.take i).map (cO (qg f) f)) _ ?_ ?_ N 0 [] V V J
 ·rintro k i s hi h1 go;show Sat (fL N l kv (k+1) s (i:Int)) _
  have hsl:s.length<=i:=by rw [h1,R1,R0];omega
  have hnext:(l.take (i+1)).map (cO (qg f) f)=s++ [cO (qg f) f l[i]]:=by rw [aM hi,List.map_append,h1];rfl
  rw [fL.eq_2,cn V,ct,aK hi,bs,hk l[i].N,re];unfold mO;by_cases hm:l[i].N∈f
  ·rw [if_pos hm];simp only [bs,Option.isSome_some,ct];cases hb:ba l[i]
   ·rw [cf,rF (by simp;omega),r64 V V];refine go _ ?_;rw [hnext];unfold cO;rw [hb];rfl
   rw [ct,rF (by simp;omega),r64 V V];refine go _ ?_;rw [hnext];unfold cO;rw [hb,RM hm];rfl
  rw [if_neg hm];simp only [bs,Option.isSome_none,cf];rw [rF (by simp;omega),r64 V V];refine go _ ?_;rw [hnext];unfold cO;rw [RN hm,Bool.and_false];rfl
 rintro k s h1;show Sat (fL N l kv (k+1) s _) _;rw [fL.eq_2,cu V,cf];exact av (by rw [h1,R2])
def kS (N:Nat)(l:List Int)(c:Rk):Rk:=bif decide (c.Sa=8) then oa N l c else bif decide (c.Sa=10) then (vH l c).1 else c
def gP (l:List Int)(c:Rk):List Ry:=bif decide (c.Sa=10) then (vH l c).2 else []
theorem qk (N:Nat)(l:List Int)(c:Rk):(kS N l c).Sg.length=c.Sg.length/\(kS N l c).Sd.length+(gP l c).length<=c.Sd.length:=by
 unfold kS gP;by_cases h8:c.Sa=8
 ·rw [RM h8,RN (p:=c.Sa=10) V];have:=GU N l c;simp only [cond_true,cond_false,List.length_nil];omega
 rw [RN h8];by_cases h10:c.Sa=10
 ·rw [RM h10];have:=JV l (c.Sd.headD kT) (c.Sd.drop 1);rw [List.length_drop] at this;unfold vH;refine ⟨J,?_⟩;show (c.Sd.take 1++ed l (c.Sd.drop 1)).length+(lU l (c.Sd.headD kT) (c.Sd.drop 1)).length<=c.Sd.length;rw [RZ,R0]
  cases hm:c.Sd with
  |nil=>rw [hm] at this;simp [ed,lU]
  |cons a r=>rw [hm] at this;simp only [List.length_cons] at this⊢;omega
 rw [RN h10];simp
theorem RhoM.nil:RhoM [] []:=fun x=>rfl
theorem RhoM.add {kv:List (Int×Int)}{i:Nat}{f:List Int}(hi:i<f.length)(h:RhoM kv (f.take i))(hn:f.Nodup):RhoM (xi kv f[i] (2*(i:Int)+2)) (f.take (i+1)):=by
 intro x
 have hlen:(f.take i).length=i:=by rw [R0];omega
 have hni:f[i]∉f.take i:=by
  intro hm;obtain ⟨j,hj,e⟩:=List.getElem_of_mem hm;rw [R0] at hj;rw [List.getElem_take] at e;exact List.pairwise_iff_getElem.1 (List.nodup_iff_pairwise_ne.1 hn) j i V hi V e
 rw [Fo,aM hi];unfold qg;rw [List.idxOf_append];by_cases e:f[i]=x
 ·rw [if_pos e, <-e,if_pos (RR _ (by simp)),if_neg hni];simp [hlen]
 rw [if_neg e,h x];by_cases hm:x∈f.take i
 ·rw [if_pos hm,if_pos (RQ _ hm),if_pos hm];rfl
 rw [if_neg hm,if_neg (by simp only [List.mem_append,List.mem_singleton];exact fun hh=>hh.elim hm fun hh=>e hh.symm)]
structure Coll where
 next:Rp
 now:List Ry
 gone:List Ry
def FT (N:Nat)(m:Rp)(roots:List Ry)(live f:List Int):Coll:=
 ⟨⟨[],f.map fun a=>ki (qg f) f (kS N live (bq m a))⟩,roots.map (cO (qg f) f),(f.flatMap fun a=>gP live (bq m a)).map (cO (qg f) f)⟩
structure Mild (g:Ry->Ry):Prop where
 z:g vZ=vZ
 kind: ∀v,(g v).Sa=v.Sa
 num: ∀v,v.Sa=3->g v=v
 may: ∀v,kB v=true->kB (g v)=true
section
variable {g:Ry->Ry} (h:Mild g)
include h
theorem Mild.at_ (l:List Ry)(i:Nat):pO (l.map g) i=g (pO l i):=by
 unfold pO;simp only [List.getD,List.getElem?_map]
 cases l[i]? with
 |none=>exact h.z.symm
 |some v=>rfl
theorem Mild.numB (v:Ry)(a b:Int):Go.Proofs.YtjmonlcchlkdhaaGreat.numB (g v) a b=Go.Proofs.YtjmonlcchlkdhaaGreat.numB v a b:=by
 unfold Go.Proofs.YtjmonlcchlkdhaaGreat.numB;by_cases h3:v.Sa=3
 ·rw [h.num v h3]
 rw [h.kind,RN h3];rfl
theorem Mild.noneB (v:Ry)(k:Int):Go.Proofs.YtjmonlcchlkdhaaGreat.noneB (g v) k=Go.Proofs.YtjmonlcchlkdhaaGreat.noneB v k:=by
 unfold Go.Proofs.YtjmonlcchlkdhaaGreat.noneB;rw [h.kind]
theorem Mild.ent2: ∀l:List Ry,pZ (l.map g)=pZ l
 | []=>rfl
 | [_]=>rfl
 |k::v::r=>by
  simp only [List.map_cons];simp only [nh];rw [h.kind,h.kind,Mild.ent2 r]
theorem Mild.ent4: ∀l:List Ry,lX (l.map g)=lX l
 | []=>rfl
 | [_]=>rfl
 | [_,_]=>rfl
 | [_,_,_]=>rfl
 |t::v::k::s::r=>by
  simp only [List.map_cons];simp only [ng];rw [h.kind,h.kind,h.noneB,h.numB,Mild.ent4 r]
theorem Mild.slots (k sh fl:Int)(l:List Ry):pA k sh fl (l.map g)=pA k sh fl l:=by
 unfold pA;simp only [R1,h.at_,h.kind,h.noneB]
theorem Mild.more (k:Int)(l:List Ry):qV k (l.map g)=qV k l:=by
 unfold qV;rw [<-List.map_drop,h.ent2,h.ent4];simp only [R1,h.at_,h.kind,h.noneB,h.numB]
theorem Mild.all {l:List Ry}(hl:l.all kB=true):(l.map g).all kB=true:=by
 rw [List.all_eq_true] at hl⊢;intro v hv;obtain ⟨w,hw,rfl⟩:=List.mem_map.1 hv;exact h.may w (hl w hw)
theorem Mild.right {c:Rk}(hc:bu c=true):bu ⟨c.Sa,c.Sk,c.Sj,c.Sn,c.Sg.map g,c.Sd.map g⟩=true:=by
 unfold bu at hc⊢;simp only [R3] at hc;obtain ⟨h1,h2,h3,h4,h5⟩:=hc;simp only [h.slots,h.more,h.all h2,h.all h3,h4,h5,Bool.and_true];simp only [R3];exact h1
end
theorem Ho {v:Ry}(hb:ba v=true):kB v=((v.S.toList==(⟨#[]⟩:ByteArray).toList)&&decide (1<=v.N)):=by
 have hk:v.Sa=7\/v.Sa=9:=by
  unfold ba at hb;rw [Bool.or_eq_true,decide_eq_true_eq,decide_eq_true_eq] at hb;exact hb
 unfold kB db;rcases hk with hk|hk<;>rw [hk]<;>cases (v.S.toList==(⟨#[]⟩:ByteArray).toList)<;>rfl
structure Ren (ρ:Int->Int) (f:List Int):Prop where
 inj: ∀a b,a∈f->b∈f->ρ a=ρ b->a=b
 pos: ∀a∈f,1<=ρ a
theorem JD {ρ:Int->Int}{f:List Int}(hρ:Ren ρ f):Mild (cO ρ f) where
 z:=rfl
 kind v:=by unfold cO;cases ba v&&decide (v.N∈f)<;>rfl
 num v h:=by
  have:ba v=false:=by unfold ba;rw [h];rfl
  unfold cO;rw [this];rfl
 may v h:=by
  cases hb:ba v&&decide (v.N∈f) with
  |false=>unfold cO;rw [hb];exact h
  |true=>
   have a1:=(R3 _ _▸hb:ba v=true/\decide (v.N∈f)=true);have a2:=a1.1
   have e:cO ρ f v=⟨v.Sa,ρ v.N,v.S⟩:=by unfold cO;rw [hb];rfl
   have a6:ba (⟨v.Sa,ρ v.N,v.S⟩:Ry)=true:=a2;rw [e,Ho a6];rw [Ho a2,R3] at h;rw [R3];exact ⟨h.1,RM (hρ.pos _ (of_decide_eq_true a1.2))⟩
theorem Il {ρ:Int->Int}{f:List Int}(hρ:Ren ρ f){c:Rk}(h:bu c=true):bu (ki ρ f c)=true:=(JD hρ).right h
theorem uJ {c:Rk}(h:bu c=true):c.Sg.all kB=true/\c.Sd.all kB=true/\qV c.Sa c.Sd=true:=by
 unfold bu at h;simp only [R3] at h;exact ⟨h.2.1,h.2.2.1,h.2.2.2.2⟩
theorem Bi {c:Rk}(h:bu c=true){m:List Ry}(h1:m.all kB=true)(h2:qV c.Sa m=true):bu ⟨c.Sa,c.Sk,c.Sj,c.Sn,c.Sg,m⟩=true:=by
 unfold bu at h⊢;simp only [R3] at h;obtain ⟨g1,g2,g3,g4,g5⟩:=h;simp only [g2,h1,g4,h2,Bool.and_true];simp only [R3];exact g1
theorem Co (p:Int->Bool): ∀{l:List Ry},pZ l=true->pZ (ib p l)=true
 | [],_=>rfl
 | [_],h=>by cases h
 |k::v::r,h=>by
  rw [nh] at h;rw [R3] at h;have ih:=Co p h.2;simp only [vG];cases p k.N
  ·exact ih
  show pZ (k::v::ib p r)=true;simp only [nh];rw [h.1,ih];rfl
theorem DG (lv:List Int): ∀{l:List Ry},lX l=true->lX (ed lv l)=true
 | [],_=>rfl
 | [_],h=>by cases h
 | [_,_],h=>by cases h
 | [_,_,_],h=>by cases h
 | t::v::k::s::r,h=>by
  rw [ng] at h;rw [R3,R3,R3,R3] at h;obtain ⟨⟨⟨h1,h2⟩,h3,h4⟩,h5⟩:=h;have ih:=DG lv h5;simp only [tM];cases decide (t.N∈lv)
  ·exact ih
  show lX (t::v::(bif decide (k.Sa=7)&& !decide (k.N∈lv) then kT else k)::s::ed lv r)=true;simp only [ng]
  have h6:noneB (bif decide (k.Sa=7)&& !decide (k.N∈lv) then kT else k) 7=true:=by
   cases decide (k.Sa=7)&& !decide (k.N∈lv)
   ·exact h3
   rfl
  rw [h1,h2,h6,h4,ih];rfl
theorem BX (lv:List Int){x:Ry}: ∀{l:List Ry},x∈ed lv l->x∈l\/x=kT
 | [],h=>by simp [ed] at h
 | [_],h=>by simp [ed] at h
 | [_,_],h=>by simp [ed] at h
 | [_,_,_],h=>by simp [ed] at h
 | t::v::k::s::r,h=>by
  simp only [tM] at h;rcases List.mem_append.1 h with h|h
  ·cases hd:decide (t.N∈lv) with
   |false=>rw [hd] at h;cases h
   |true=>
    rw [hd] at h
    cases hk:decide (k.Sa=7)&& !decide (k.N∈lv) with
    |false=>rw [hk] at h;simp at h;rcases h with h|h|h|h<;>subst h<;>simp
    |true=>rw [hk] at h;simp at h;rcases h with h|h|h|h<;>subst h<;>simp
  rcases BX lv h with h|h
  ·exact .inl (by simp [h])
  exact .inr h
theorem JK:kB kT=true:=by kernel_rfl
theorem IQ (N:Nat)(lv:List Int){c:Rk}(h:bu c=true):bu (kS N lv c)=true:=by
 obtain ⟨h1,h2,h3⟩:=uJ h;unfold kS;by_cases h8:c.Sa=8
 ·rw [og h8,cond_true];unfold oa;cases pK N c
  ·exact h
  refine Bi h (m:=ib (fun x=>decide (x∈lv)) c.Sd) ?_ ?_
  ·rw [List.all_eq_true] at h2⊢
   exact fun v hv=>h2 v (xC hv)
  rw [h8] at h3⊢;exact Co _ h3
 rw [gu h8,cond_false];by_cases h10:c.Sa=10
 ·rw [og h10,cond_true];rw [h10] at h3;have h3':(decide (1<=c.Sd.length)&&decide ((pO c.Sd 0).Sa=7)&&lX (c.Sd.drop 1))=true:=h3;simp only [R3,decide_eq_true_eq] at h3';obtain ⟨⟨g1,g2⟩,g3⟩:=h3';refine Bi h (m:=c.Sd.take 1++ed lv (c.Sd.drop 1)) ?_ ?_
  ·rw [List.all_eq_true] at h2⊢;intro v hv;rcases List.mem_append.1 hv with hv|hv
   ·exact h2 v (List.mem_of_mem_take hv)
   rcases BX lv hv with hv|rfl
   ·exact h2 v (List.mem_of_mem_drop hv)
   exact JK
  rw [h10];show (decide (1<=(c.Sd.take 1++ed lv (c.Sd.drop 1)).length)&&decide ((pO (c.Sd.take 1++ed lv (c.Sd.drop 1)) 0).Sa=7)&&lX ((c.Sd.take 1++ed lv (c.Sd.drop 1)).drop 1))=true
  obtain ⟨a,r,hr⟩: ∃a r,c.Sd=a::r:=by
   cases hm:c.Sd with
   |nil=>rw [hm] at g1;simp at g1
   |cons a r=>exact ⟨a,r,rfl⟩
  rw [hr] at g2 g3⊢;have e1:(a::r).take 1++ed lv ((a::r).drop 1)=a::ed lv r:=rfl;rw [e1];have g3':lX r=true:=g3;have g2':a.Sa=7:=g2;simp only [R3,decide_eq_true_eq];exact ⟨⟨by simp,g2'⟩,DG lv g3'⟩
 rw [gu h10,cond_false];exact h
end
section
open Go.RowKit
structure MapG (g g':Gr) (ρ:Int->Int) (S:Int->Prop):Prop where
 inj: ∀a b,S a->S b->ρ a=ρ b->a=b
 has: ∀a,S a->g.has a=true/\g'.has (ρ a)=true
 leads: ∀a,S a->g'.leads (ρ a)=(g.leads a).map ρ/\ ∀x∈g.leads a,S x
 opens: ∀row a,(∀x∈row,S x)->S a->g'.opens (row.map ρ) (ρ a)=(g.opens row a).map ρ/\ ∀x∈g.opens row a,S x
def bQ {α:Type}(g:α->Nat):List α->Nat
 | []=>0
 |a::l=>g a+bQ g l
theorem qD {α:Type}(g:α->Nat): ∀a b:List α,bQ g (a++b)=bQ g a+bQ g b
 | [],b=>by simp [bQ]
 |c::a,b=>by rw [List.cons_append,bQ,bQ,qD g a b];omega
theorem HT {α:Type}(g:α->Nat){a b:List α}(h:a.Perm b):bQ g a=bQ g b:=by
 induction h with
 |nil=>rfl
 |cons x _ ih=>rw [bQ,bQ,ih]
 |swap x y l=>rw [bQ,bQ,bQ,bQ];omega
 |trans _ _ h1 h2=>rw [h1,h2]
theorem pe (g:Int->Nat): ∀{l L:List Int},l.Nodup->(∀x∈l,x∈L)->bQ g l<=bQ g L
 | [],_,_,_=>Nat.zero_le _
 |a::l,L,hn,hs=>by
  obtain ⟨h1,h2⟩:=List.nodup_cons.1 hn;have hp:=List.perm_cons_erase (hs a (by simp));rw [HT g hp,bQ,bQ]
  have:=pe g (l:=l) (L:=L.erase a) h2 fun x hx=>(List.mem_erase_of_ne (fun e:x=a=>h1 (by rw [<-e];exact hx))).2 (hs x (by simp [hx]))
  omega
theorem nw {α β:Type}(g:β->Nat)(f:α->β): ∀l:List α,bQ g (l.map f)=bQ (fun x=>g (f x)) l
 | []=>rfl
 |x::l=>by rw [List.map_cons,bQ,bQ,nw g f l]
theorem vT {α:Type}{g h:α->Nat}: ∀{l:List α},(∀x∈l,g x<=h x)->bQ g l<=bQ h l
 | [],_=>Nat.le_refl _
 |x::l,hh=>by
  rw [bQ,bQ];have h1:=hh x (by simp)
  have h2:=vT (l:=l) fun y hy=>hh y (by simp [hy])
  omega
theorem vy {α β:Type}(f:α->List β): ∀l:List α,(l.flatMap f).length=bQ (fun x=>(f x).length) l
 | []=>rfl
 |x::l=>by rw [List.flatMap_cons,RZ,bQ,vy f l]
theorem Bb {α:Type}(g h:α->Nat): ∀l:List α,bQ (fun x=>g x+h x) l=bQ g l+bQ h l
 | []=>rfl
 |x::l=>by rw [bQ,bQ,bQ,Bb g h l];omega
def wC (c:Rk):Nat:=1+c.Sg.length+c.Sd.length
theorem ti: ∀l:List Rk,wt l=bQ wC l
 | []=>rfl
 |c::l=>by rw [wt,bQ,ti l];rfl
def zM (m:Rp):List Int:=(List.range m.Se.length).map (fun i:Nat=>2*(i:Int)+1)++(List.range m.Sc.length).map (fun i:Nat=>2*(i:Int)+2)
theorem qd (m:Rp)(i:Nat)(h:i<m.Se.length):bq m (2*(i:Int)+1)=m.Se[i]:=by
 unfold bq iv;rw [if_neg V,if_pos V,show ((2*(i:Int)+1 - 1) / 2).toNat=i by omega,List.getElem?_eq_getElem h];rfl
theorem ns (m:Rp)(i:Nat)(h:i<m.Sc.length):bq m (2*(i:Int)+2)=m.Sc[i]:=by
 unfold bq iv;rw [if_neg V,if_neg V,show ((2*(i:Int)+2 - 2) / 2).toNat=i by omega,List.getElem?_eq_getElem h];rfl
theorem tT (m:Rp)(i:Nat):aD m (2*(i:Int)+1)=decide (i<m.Se.length):=by
 unfold aD iv;rw [if_neg V,if_pos V,show ((2*(i:Int)+1 - 1) / 2).toNat=i by omega];by_cases h:i<m.Se.length
 ·rw [List.getElem?_eq_getElem h,RM h];rfl
 rw [List.getElem?_eq_none V,RN h];rfl
theorem oL (m:Rp)(i:Nat):aD m (2*(i:Int)+2)=decide (i<m.Sc.length):=by
 unfold aD iv;rw [if_neg V,if_neg V,show ((2*(i:Int)+2 - 2) / 2).toNat=i by omega];by_cases h:i<m.Sc.length
 ·rw [List.getElem?_eq_getElem h,RM h];rfl
 rw [List.getElem?_eq_none V,RN h];rfl
theorem CE (m:Rp):(zM m).map (bq m)=m.Se++m.Sc:=by
 unfold zM;rw [List.map_append,List.map_map,List.map_map]
 congr 1
 ·refine List.ext_getElem (by simp) fun i h1 h2=> ?_
  simp only [List.getElem_map,List.getElem_range,Function.comp];exact qd m i h2
 refine List.ext_getElem (by simp) fun i h1 h2=> ?_
 simp only [List.getElem_map,List.getElem_range,Function.comp];exact ns m i h2
theorem fj {m:Rp}{a:Int}(h:aD m a=true):(∃i:Nat,i<m.Se.length/\a=2*(i:Int)+1)\/ ∃i:Nat,i<m.Sc.length/\a=2*(i:Int)+2:=by
 rcases ub m a with ⟨h1,h2⟩|⟨k,h1, -⟩|⟨k,h1, -⟩
 ·unfold aD at h;rw [h2] at h;cases h
 ·subst h1;rw [tT] at h;exact .inl ⟨k,of_decide_eq_true h,J⟩
 subst h1;rw [oL] at h;exact .inr ⟨k,of_decide_eq_true h,J⟩
theorem ta {m:Rp}{a:Int}(h:aD m a=true):a∈zM m:=by
 unfold zM;rcases fj h with ⟨i,h1,rfl⟩|⟨i,h1,rfl⟩
 ·exact RQ _ (List.mem_map.2 ⟨i,List.mem_range.2 h1,J⟩)
 exact RR _ (List.mem_map.2 ⟨i,List.mem_range.2 h1,J⟩)
theorem I7 {m:Rp}{l:List Int}(hn:l.Nodup)(hh: ∀a∈l,aD m a=true):bQ (fun a=>wC (bq m a)) l<=wt m.Se+wt m.Sc:=by
 have h1:=pe (fun a=>wC (bq m a)) hn fun a ha=>ta (hh a ha)
 have h2:=nw wC (bq m) (zM m);rw [CE, <-ti,AV] at h2;omega
theorem eo {m:Rp}{a:Int}(h:aD m a=true):bq m a∈m.Se++m.Sc:=by
 unfold aD at h;unfold bq
 cases hc:iv m a with
 |none=>rw [hc] at h;cases h
 |some c=>exact rB hc
def QW:Rp:=⟨[⟨11,0,0,0,[],[⟨7,2,⟨#[]⟩⟩]⟩,⟨11,0,0,0,[],[]⟩],[⟨11,0,0,0,[],[]⟩,⟨11,0,0,0,[],[]⟩]⟩
def QY:Rp:=⟨[],[⟨10,0,0,0,[⟨1,0,⟨#[]⟩⟩],[⟨7,4,⟨#[]⟩⟩,⟨7,6,⟨#[]⟩⟩,⟨7,8,⟨#[]⟩⟩,⟨0,0,⟨#[]⟩⟩,⟨3,7,⟨#[]⟩⟩]⟩,⟨11,0,0,0,[],[]⟩,⟨11,0,0,0,[],[]⟩,⟨11,0,0,0,[],[]⟩]⟩
theorem E0 {a:Int}(h:0<a):a.tmod 2=0\/a.tmod 2=1:=by
 rw [pQ V];omega
theorem GA {live:List Int}(hp: ∀a∈live,0<a)(a:Int):a∈nK live↔a∈live:=by
 unfold nK uo CU;rw [List.mem_append,List.mem_filter,List.mem_filter,decide_eq_true_eq,decide_eq_true_eq];constructor
 ·rintro (h|h)<;>exact h.1
 intro h;rcases E0 (hp a h) with h2|h2
 ·exact .inl ⟨h,h2⟩
 exact .inr ⟨h,h2⟩
theorem BL: ∀{live:List Int},(∀a∈live,0<a)->(nK live).length=live.length
 | [],_=>rfl
 | a::l,hp=>by
  have ih:=BL (live:=l) fun b hb=>hp b (by simp [hb])
  unfold nK at ih⊢;rw [RZ] at ih⊢;rcases E0 (hp a (by simp)) with h|h
  ·have e1:uo a=true:=RM h;have e2:CU a=false:=RN V;simp only [List.filter_cons,e1,e2,if_true,Bool.false_eq_true,if_false,List.length_cons];omega
  have e1:uo a=false:=RN V;have e2:CU a=true:=RM h;simp only [List.filter_cons,e1,e2,if_true,Bool.false_eq_true,if_false,List.length_cons];omega
theorem Ii {live:List Int}(h:live.Pairwise (· < ·)):(nK live).Pairwise fun a b=> ¬(a.tmod 2=1/\b.tmod 2=0)/\(a.tmod 2=b.tmod 2->a<b):=by
 have hev: ∀a∈live.filter uo,a.tmod 2=0:=fun a ha=>of_decide_eq_true (List.mem_filter.1 ha).2
 have hod: ∀a∈live.filter CU,a.tmod 2=1:=fun a ha=>of_decide_eq_true (List.mem_filter.1 ha).2
 unfold nK;refine List.pairwise_append.2 ⟨(h.filter _).imp_of_mem fun {a b} ha hb hlt=>⟨fun hh=> ?_,fun _=>hlt⟩,(h.filter _).imp_of_mem fun {a b} ha hb hlt=>⟨fun hh=> ?_,fun _=>hlt⟩,fun a ha b hb=>⟨fun hh=> ?_,fun hh=> ?_⟩⟩
 ·have:=hev a ha;omega
 ·have:=hod b hb;omega
 ·have:=hev a ha;omega
 have:=hev a ha;have:=hod b hb;omega
theorem qm {α:Type}{p:α->Bool}{l:List α}(h:l.all p=true){x:α}(hx:x∈l):p x=true:=List.all_eq_true.1 h x hx
theorem DM {N:Nat}{m:Rp}{roots:List Ry}(h:mn N m roots=0):(∀c∈m.Se++m.Sc,pD N c=true)/\(∀c∈m.Se++m.Sc, ∀x∈bT c,aD m x=true)/\ ∀x∈bH roots,aD m x=true:=by
 unfold mn at h
 cases h1:(m.Se++m.Sc).all (pD N) with
 |false=>rw [h1] at h;cases h
 | true=>
  rw [h1] at h
  cases h2:da m ((m.Se++m.Sc).flatMap bT++bH roots) with
  |false=>rw [h2] at h;cases h
  |true=>
   unfold da at h2;refine ⟨fun c hc=>qm h1 hc,fun c hc x hx=>qm h2 (RQ _ (List.mem_flatMap.2 ⟨c,hc,hx⟩)),fun x hx=>qm h2 (RR _ hx)⟩
structure Live (N:Nat) (m:Rp) (roots:List Ry) (live f:List Int):Prop where
 ord: ∃b all,IsOrder (CJ N m) (bH roots) b all/\live=jc all/\f=nK live
 prog:lL N m roots=some live
 ref:Bv N m roots=some live
 mem: ∀a,a∈f↔a∈live
 len:f.length=live.length
 small:live.length<=1200
 nd:f.Nodup
 asc:live.Pairwise (· < ·)
 has: ∀a∈live,aD m a=true
theorem Ij {live:List Int}(h:live.Pairwise (· < ·)):(nK live).Nodup:=by
 rw [List.nodup_iff_pairwise_ne]
 refine (Ii h).imp fun {a b} hab e=> ?_
 have:=hab.2 (by rw [e]);omega
theorem Ln (N:Nat)(hN:6500<N){m:Rp}{roots:List Ry}(hs:Small m roots)(hw:W64 m)(hr: ∀v∈roots,in64 v.N): ∃live f,Live N m roots live f:=by
 obtain ⟨bg,all,ho,hlen, -, -,o0⟩:=Ic N hN hs hw hr;obtain ⟨b',all',ho',r0, -⟩:=Gi N hN hs hw hr;obtain ⟨-,e2⟩:=ho.det ho';subst e2;have hll:(jc all).length=all.length:=sJ all;have hmem:=oz all;have hasc:=zd ho.nodup.2
 have hhas: ∀a∈jc all,aD m a=true:=fun a ha=>ho.has.2 a ((hmem a).1 ha)
 have hpos: ∀a∈jc all,0<a:=fun a ha=>pq (hhas a ha)
 refine ⟨jc all,nK (jc all),⟨⟨_,all,ho,J,J⟩,Lo o0 V J,?_,GA hpos,BL hpos,by omega,Ij hasc,hasc,hhas⟩⟩;unfold Bv;rw [r0,bs,Gj N hN all V ho.nodup.2,bs]
theorem Live.fhas {N:Nat}{m:Rp}{roots:List Ry}{live f:List Int}(h:Live N m roots live f){a:Int}(ha:a∈f):aD m a=true:=h.has a ((h.mem a).1 ha)
theorem EZ {N:Nat}{m:Rp}{roots:List Ry}{live f:List Int}(h:Live N m roots live f):(f.flatMap fun a=>gP live (bq m a)).length+wt (f.map fun a=>ki (qg f) f (kS N live (bq m a)))<=wt m.Se+wt m.Sc:=by
 have h1:=I7 h.nd fun a ha=>h.fhas ha
 rw [vy,ti,nw, <-Bb];refine Nat.le_trans (vT fun a ha=> ?_) h1;have:=qk N live (bq m a);unfold wC ki;simp only [R1];omega
theorem za {N:Nat}{m:Rp}{roots:List Ry}{live f:List Int}(h:Live N m roots live f)(n:Nat):((f.take n).flatMap fun a=>gP live (bq m a)).length<=wt m.Se+wt m.Sc:=by
 have h1:=EZ h
 have h2:(f.flatMap fun a=>gP live (bq m a))=((f.take n).flatMap fun a=>gP live (bq m a))++((f.drop n).flatMap fun a=>gP live (bq m a)):=by rw [<-List.flatMap_append,List.take_append_drop]
 rw [h2,RZ] at h1;omega
def Kx (N:Nat)(m:Rp)(roots:List Ry)(live f:List Int):Rp×List Ry×List Ry×Int:=
 bif decide (mn N m roots=0) then ((FT N m roots live f).next,(FT N m roots live f).now,(FT N m roots live f).gone,0) else (⟨[],[]⟩,[],[],mn N m roots)
theorem EH (N:Nat)(hN:6500<N){m:Rp}{roots:List Ry}(hs:Small m roots)(ht:Wtd m roots)(hw:W64 m)(hr: ∀v∈roots,in64 v.N){live f:List Int}(hl:Live N m roots live f):mQ N m roots=some (Kx N m roots live f):=by
 apply Sat.eq;have hle:=ht.le;have hlen:=hl.small;have hfl:=hl.len;unfold mQ Kx;rw [CA N hN hs ht hw hr,bs];by_cases h0: ¬mn N m roots=0
 ·rw [gu h0];exact av J
 replace h0:mn N m roots=0:=by omega
 rw [og h0];simp only [nt,cf,ct];obtain ⟨c1,c2,c3⟩:=DM h0;obtain ⟨_,_,_,hlv,hff⟩:=hl.ord;rw [hl.prog,bs];unfold kK;rw [bs];refine Sat.bind (BD N (fun x st=>ld N roots m live x st) live V hN (fun n s=>RhoM s (f.take n)) ?_ [] ?_) ?_
 ·intro n a s ha h1;rw [<-hff] at ha;have hn:=(List.getElem?_eq_some_iff.1 ha).1;rw [List.getElem?_eq_getElem hn,Option.some.injEq] at ha;unfold ld;simp only;rw [r64 V V,r64 V V];refine av ⟨J,?_⟩;rw [<-ha];exact h1.add hn hl.nd
 ·simpa using RhoM.nil
 rintro ⟨e,kv⟩ ⟨g1,g2⟩;simp only at g1 g2;subst g1;rw [<-hff,R2] at g2;unfold qc;simp only [bs]
 have hG: ∀a∈f,(kS N live (bq m a)).Sg.length<=600/\(kS N live (bq m a)).Sd.length<=600:=fun a ha=>by
  have h1:=qk N live (bq m a);have h2:=hs.at_ a;omega
 refine Sat.bind (BD N (fun x st=>lc N roots m live (none,kv) x st) live V hN (fun n s=>s.1=(f.take n).map (fun a=>ki (qg f) f (kS N live (bq m a)))/\s.2=(f.take n).flatMap fun a=>gP live (bq m a)) ?_ ([],[]) ⟨by simp,by simp⟩) ?_
 ·rintro n a ⟨p,q⟩ ha ⟨h1,h2⟩;rw [<-hff] at ha;simp only at h1 h2;have hn:=(List.getElem?_eq_some_iff.1 ha).1;have ham:a∈f:=List.mem_of_getElem? ha;rw [List.getElem?_eq_getElem hn,Option.some.injEq] at ha
  have hpl:p.length<=2000:=by rw [h1,R1,R0];omega
  have hql:q.length<=2900:=by have:=za hl n;rw [h2];omega
  have hq2:=za hl (n+1);have hat:=EO N hs a (tS hs (hl.fhas ham));have hsm:=hs.at_ a;have hrt:=c1 _ (eo (hl.fhas ham));have hc:=hG a ham;rw [aM hn,ha,List.flatMap_append, <-h2,RZ] at hq2;simp only [List.flatMap_cons,List.flatMap_nil,List.append_nil] at hq2
  -- the last part
  have last: ∀q',q'=q++gP live (bq m a)->Sat (iT N roots m p live (none,kv) q' (kS N live (bq m a)).Sa (kS N live (bq m a)).Sk (kS N live (bq m a)).Sj (kS N live (bq m a)).Sn (kS N live (bq m a)).Sg (kS N live (bq m a)).Sd) fun r=>r.1=none/\r.2.1=(f.take (n+1)).map (fun a=>ki (qg f) f (kS N live (bq m a)))/\r.2.2=(f.take (n+1)).flatMap fun a=>gP live (bq m a):=by
   intro q' hq';unfold iT;rw [tG N hN _ V kv f g2,bs,tG N hN _ V kv f g2,bs,rF (by simp;omega)];refine av ⟨J,?_,?_⟩
   ·rw [aM hn,List.map_append, <-h1,ha];rfl
   rw [aM hn,List.flatMap_append, <-h2,ha,hq'];simp
  unfold lc;simp only;rw [hat,bs];unfold kS gP at last;unfold gP at hq2;by_cases h8:(bq m a).Sa=8
  ·have hwm:pK N (bq m a)=true:=by unfold pK;rw [RM h8];exact hrt
   rw [og h8,ct,Cw N hN live V _ hsm.1 hsm.2,bs,hwm,ct];rw [RM h8,RN (p:=(bq m a).Sa=10) V] at last;simp only [cond_true,cond_false,List.append_nil] at last;exact last q J
  by_cases h10:(bq m a).Sa=10
  ·have hwm:Ca N (bq m a)=true:=by unfold Ca;rw [RM h10];exact hrt
   rw [gu h8,cf,og h10,ct,xf N hN live V _ hsm.1 hsm.2,bs,hwm,ct];rw [RM h10] at hq2;rw [RN h8,RM h10] at last;simp only [cond_true,cond_false] at last hq2;rw [rF V];exact last _ J
  rw [gu h8,cf,gu h10,cf];rw [RN h8,RN h10] at last;simp only [cond_true,cond_false,List.append_nil] at last;exact last q J
 rintro ⟨e,p,q⟩ ⟨g1,g3,g4⟩;simp only at g1 g3 g4;subst g1;rw [<-hff,R2] at g3 g4;have hrl:=hs.roots
 have hql:q.length<=2900:=by have:=za hl f.length;rw [R2] at this;rw [g4];omega
 simp only;rw [tG N hN _ V kv f g2,bs,tG N hN _ V kv f g2,bs];refine av ?_;unfold FT;rw [g3,g4]
theorem sx {f:List Int}{a:Int}(h:a∈f):f.idxOf a<f.length:=List.idxOf_lt_length_iff.2 h
theorem o8 {f:List Int}{a:Int}(h:a∈f):f[f.idxOf a]'(sx h)=a:=List.getElem_idxOf (sx h)
theorem He {f:List Int}{a b:Int}(ha:a∈f)(hb:b∈f)(h:qg f a=qg f b):a=b:=by
 unfold qg at h
 have e:f.idxOf a=f.idxOf b:=by omega
 have h1:=o8 ha;have h2:=o8 hb;rw [<-h1, <-h2]
 congr 1
theorem Hd (f:List Int):Ren (qg f) f:=⟨fun _ _ h1 h2 h3=>He h1 h2 h3,fun a _=>by unfold qg;omega⟩
theorem AM (ρ:Int->Int)(f:List Int)(v:Ry):ba (cO ρ f v)=ba v:=Iz (by unfold cO;cases ba v&&decide (v.N∈f)<;>rfl)
theorem zp {ρ:Int->Int}{f:List Int}{v:Ry}(h1:ba v=true)(h2:v.N∈f):cO ρ f v=⟨v.Sa,ρ v.N,v.S⟩:=by
 unfold cO;rw [h1,RM h2];rfl
theorem Hm {ρ:Int->Int}{f:List Int}{v:Ry}(h1:ba v=false):cO ρ f v=v:=by
 unfold cO;rw [h1];rfl
theorem AL {F:Nat->Ry->Bool}: ∀{i:Nat} {l:List Ry} {j:Nat} {v:Ry},l[j]? =some v->F (i+j) v=true->v.N∈pick F i l
 |i,w::l,0,v,h,hF=>by
  simp only [List.getElem?_cons_zero,Option.some.injEq] at h;subst h;rw [nm];rw [Nat.add_zero] at hF;rw [hF];simp
 |i,w::l,j+1,v,h,hF=>by
  simp only [List.getElem?_cons_succ] at h;rw [nm];exact RR _ (AL (i:=i+1) h (by rw [show i+1+j=i+(j+1) by omega];exact hF))
 |i,[],j,v,h,_=>by simp at h
def iw (f:List Int)(l:List Ry):Prop:= ∀v∈l,ba v=true->v.N∈f
theorem E5 {f:List Int}{c:Rk}(h: ∀x∈cg c,x∈f):iw f c.Sg:=fun v hv hb=>by
 obtain ⟨j,hj,e⟩:=List.getElem_of_mem hv;refine h _ (RQ _ (AL (j:=j) (by rw [List.getElem?_eq_getElem hj,e]) hb))
theorem AN {f:List Int}{c:Rk}(h: ∀x∈cg c,x∈f){j:Nat}{v:Ry}(hj:c.Sd[j]? =some v)(hw:mu c.Sa j=false)(hb:ba v=true):v.N∈f:=
 h _ (RR _ (AL (j:=j) hj (by rw [Nat.zero_add,hw,hb];rfl)))
theorem F8 {k:Int}(h8:k≠8)(h10:k≠10)(i:Nat):mu k i=false:=by
 unfold mu;rw [gu h8,gu h10];rfl
theorem DL {lv f:List Int}(hlv: ∀x,x∈lv↔x∈f): ∀{l:List Ry},pZ l=true->(∀x∈opens (fun x=>decide (x∈lv)) l,x∈f)->iw f (ib (fun x=>decide (x∈lv)) l)
 | [],_,_=>fun v hv=>by simp [ib] at hv
 | [_],h,_=>by cases h
 | k::v::r,h,ho=>by
  rw [nh] at h;rw [R3] at h;rw [oH] at ho
  have ih:=DL hlv h.2 fun x hx=>ho x (RR _ hx)
  intro w hw hb;simp only [vG] at hw;rcases List.mem_append.1 hw with hw|hw
  ·cases hd:decide (k.N∈lv) with
   |false=>rw [hd] at hw;cases hw
   |true=>
    rw [hd] at hw;simp only [cond_true,List.mem_cons,List.not_mem_nil,or_false] at hw;rcases hw with rfl|rfl
    ·exact (hlv _).1 (of_decide_eq_true hd)
    exact ho _ (RQ _ (by rw [hb,hd];simp))
  exact ih w hw hb
theorem Hr {lv f:List Int}(hlv: ∀x,x∈lv↔x∈f): ∀{l:List Ry},lX l=true->(∀j v,l[4*j+1]? =some v->ba v=true->v.N∈f)->iw f (ed lv l)
 | [],_,_=>fun v hv=>by simp [ed] at hv
 | [_],h,_=>by cases h
 | [_,_],h,_=>by cases h
 | [_,_,_],h,_=>by cases h
 | t ::a::k::s::r,h,ho=>by
  rw [ng] at h;simp only [R3,decide_eq_true_eq] at h;obtain ⟨⟨⟨h1, -⟩,h3,h4⟩,h5⟩:=h
  have ih:=Hr hlv h5 fun j v hj hb=>ho (j+1) v (by rw [show 4*(j+1)+1=4*j+1+4 by omega];simpa using hj) hb
  intro w hw hb;simp only [tM] at hw;rcases List.mem_append.1 hw with hw|hw
  ·cases hd:decide (t.N∈lv) with
   |false=>rw [hd] at hw;cases hw
   | true=>
    rw [hd] at hw;simp only [cond_true,List.mem_cons,List.not_mem_nil,or_false] at hw;rcases hw with rfl|rfl|rfl|rfl
    ·exact (hlv _).1 (of_decide_eq_true hd)
    ·exact ho 0 w J hb
    ·cases hk:decide (k.Sa=7)&& !decide (k.N∈lv) with
     |true=>rw [hk] at hb;cases hb
     | false=>
      rw [hk] at hb;simp only [cond_false] at hb⊢
      have a1:k.Sa=7:=by
       unfold noneB at h3;rw [Bool.or_eq_true,decide_eq_true_eq,decide_eq_true_eq] at h3;rcases h3 with h3|h3
       ·unfold ba at hb;rw [h3] at hb;cases hb
       exact h3
      rw [RM a1,Bool.true_and] at hk;exact (hlv _).1 (by by_cases hm:k.N∈lv;exact hm;rw [RN hm] at hk;cases hk)
    have:w.Sa=3:=by
     unfold numB at h4;rw [R3,decide_eq_true_eq] at h4;exact h4.1
    unfold ba at hb;rw [this] at hb;cases hb
  exact ih w hw hb
structure CellOk (N:Nat) (lv f:List Int) (c:Rk):Prop where
 big:2000<N
 right:bu c=true
 slots:c.Sg.length<=600
 more:c.Sd.length<=600
 leads: ∀x∈cg c,x∈f
 opens: ∀x∈dy N c lv,x∈f
 mem: ∀x,x∈lv↔x∈f
theorem GF {N:Nat}(hN:2000<N){c:Rk}(h:bu c=true)(hS:c.Sg.length<=600)(hM:c.Sd.length<=600):pK N c=decide (c.Sa=8):=by
 unfold pK;rw [oD N hN c V V,h];cases decide (c.Sa=8)<;>rfl
theorem GG {N:Nat}(hN:2000<N){c:Rk}(h:bu c=true)(hS:c.Sg.length<=600)(hM:c.Sd.length<=600):Ca N c=decide (c.Sa=10):=by
 unfold Ca;rw [oD N hN c V V,h];cases decide (c.Sa=10)<;>rfl
theorem E9 {N:Nat}(hN:2000<N){c:Rk}(hS:c.Sg.length<=600)(hM:c.Sd.length<=600):pD N c=bu c:=by
 unfold pD;rw [oD N hN c V V];rfl
section
variable {N:Nat} {ρ:Int->Int} {lv f:List Int} {c:Rk}
theorem FV:(kS N lv c).Sa=c.Sa/\(kS N lv c).Sk=c.Sk/\(kS N lv c).Sj=c.Sj/\(kS N lv c).Sg=c.Sg:=by
 unfold kS oa;cases decide (c.Sa=8)<;>cases decide (c.Sa=10)<;>cases pK N c<;>exact ⟨rfl,rfl,rfl,rfl⟩
theorem CellOk.new (hρ:Ren ρ f)(h:CellOk N lv f c):bu (ki ρ f (kS N lv c))=true/\(ki ρ f (kS N lv c)).Sg.length<=600/\(ki ρ f (kS N lv c)).Sd.length<=600/\(ki ρ f (kS N lv c)).Sa=c.Sa:=by
 have h1:=qk N lv c;have h2:=h.slots;have h3:=h.more;exact ⟨Il hρ (IQ N lv h.right),by unfold ki;simp only [R1];omega,by unfold ki;simp only [R1];omega,FV.1⟩
theorem CellOk.ent2 (h:CellOk N lv f c)(h8:c.Sa=8):pZ c.Sd=true:=by
 have:=(uJ h.right).2.2;rw [h8] at this;exact this
theorem CellOk.ent4 (h:CellOk N lv f c)(h10:c.Sa=10):1<=c.Sd.length/\(pO c.Sd 0).Sa=7/\lX (c.Sd.drop 1)=true:=by
 have:=(uJ h.right).2.2;rw [h10] at this;have h3':(decide (1<=c.Sd.length)&&decide ((pO c.Sd 0).Sa=7)&&lX (c.Sd.drop 1))=true:=this;simp only [R3,decide_eq_true_eq] at h3';exact ⟨h3'.1.1,h3'.1.2,h3'.2⟩
theorem CellOk.wm (h:CellOk N lv f c):pK N c=decide (c.Sa=8):=GF h.big h.right h.slots h.more
theorem CellOk.fr (h:CellOk N lv f c):Ca N c=decide (c.Sa=10):=GG h.big h.right h.slots h.more
theorem CellOk.clC8 (h:CellOk N lv f c)(h8:c.Sa=8):kS N lv c=⟨c.Sa,c.Sk,c.Sj,c.Sn,c.Sg,ib (fun x=>decide (x∈lv)) c.Sd⟩:=by
 unfold kS oa;rw [h.wm,RM h8];rfl
theorem CellOk.clC10 (h10:c.Sa=10):kS N lv c=⟨c.Sa,c.Sk,c.Sj,c.Sn,c.Sg,c.Sd.take 1++ed lv (c.Sd.drop 1)⟩:=by
 unfold kS;rw [RN (p:=c.Sa=8) V,RM h10];rfl
theorem CellOk.clC0 (h8:c.Sa≠8)(h10:c.Sa≠10):kS N lv c=c:=by
 unfold kS;rw [RN h8,RN h10];rfl
theorem CellOk.inC (h:CellOk N lv f c):iw f (kS N lv c).Sg/\iw f (kS N lv c).Sd:=by
 refine ⟨by rw [FV.2.2.2];exact E5 h.leads,?_⟩;by_cases h8:c.Sa=8
 ·rw [h.clC8 h8];have ho:=h.opens;unfold dy at ho;rw [h.wm,RM h8,cond_true] at ho;exact DL h.mem (h.ent2 h8) ho
 by_cases h10:c.Sa=10
 ·rw [CellOk.clC10 h10];obtain ⟨q1,q2,q3⟩:=h.ent4 h10
  obtain ⟨a,r,hr⟩: ∃a r,c.Sd=a::r:=by
   cases hm:c.Sd with
   |nil=>rw [hm] at q1;simp at q1
   |cons a r=>exact ⟨a,r,rfl⟩
  rw [hr] at q3;have q3':lX r=true:=q3;intro v hv hb
  have hv':v=a\/v∈ed lv r:=by
   have:v∈a::ed lv r:=by rw [hr] at hv;exact hv
   exact List.mem_cons.1 this
  rcases hv' with rfl|hv'
  ·refine AN h.leads (j:=0) (by rw [hr];rfl) ?_ hb;unfold mu;rw [h10];rfl
  refine Hr h.mem q3' (fun j w hj hw=>AN h.leads (j:=4*j+2) (by rw [hr,show 4*j+2=(4*j+1)+1 by omega,List.getElem?_cons_succ];exact hj) ?_ hw) v hv' hb;unfold mu;rw [h10]
  have e1:(((4*j+2:Nat):Int) - 1).tmod 4=1:=by rw [Int.tmod_eq_emod_of_nonneg V];omega
  have e2:((1:Int)).tmod 2=1:=rfl;rw [e1,e2];cases decide ((0:Int)<((4*j+2:Nat):Int))<;>rfl
 rw [CellOk.clC0 h8 h10];intro v hv hb;obtain ⟨j,hj,e⟩:=List.getElem_of_mem hv;exact AN h.leads (j:=j) (by rw [List.getElem?_eq_getElem hj,e]) (F8 h8 h10 j) hb
end
end
section
open Go.RowKit
theorem AT {c:Rk}{v:Ry}(hv:v∈c.Sg++c.Sd)(hb:ba v=true):v.N∈bT c:=by
 unfold bT;rcases List.mem_append.1 hv with hv|hv
 ·exact RQ _ (E5 (f:=cg c) (fun x hx=>hx) v hv hb)
 obtain ⟨j,hj,e⟩:=List.getElem_of_mem hv
 cases hw:mu c.Sa j with
 |false=>exact RQ _ (AN (f:=cg c) (fun x hx=>hx) (by rw [List.getElem?_eq_getElem hj,e]) hw hb)
 |true=>exact RR _ (AL (j:=j) (by rw [List.getElem?_eq_getElem hj,e]) (by rw [Nat.zero_add,hw,hb];rfl))
theorem wi {p:Int->Bool}{x:Int}: ∀{l:List Ry},x∈opens p l-> ∃v∈l,ba v=true/\v.N=x
 | [],h=>by simp [opens] at h
 | [_],h=>by simp [opens] at h
 | k::v::l,h=>by
  rw [oH] at h;rcases List.mem_append.1 h with h|h
  ·cases hv:ba v&&p k.N with
   |false=>rw [hv] at h;cases h
   |true=>
    rw [hv] at h;rw [R3] at hv;exact ⟨v,by simp,hv.1,(List.mem_singleton.1 h).symm⟩
  obtain ⟨w,h1,h2⟩:=wi h;exact ⟨w,by simp [h1],h2⟩
structure CollCtx (N:Nat) (m:Rp) (roots:List Ry) (live f:List Int):Prop where
 big:6500<N
 small:Small m roots
 tot:Wtd m roots
 w64:W64 m
 r64: ∀v∈roots,in64 v.N
 lv:Live N m roots live f
 right: ∀c∈m.Se++m.Sc,bu c=true
 addr: ∀c∈m.Se++m.Sc, ∀x∈bT c,aD m x=true
 roots: ∀x∈bH roots,aD m x=true
theorem NH {N:Nat}(hN:6500<N){m:Rp}{roots:List Ry}(hs:Small m roots)(ht:Wtd m roots)(hw:W64 m)(hr: ∀v∈roots,in64 v.N){live f:List Int}(hl:Live N m roots live f)(h0:mn N m roots=0):CollCtx N m roots live f:=by
 obtain ⟨h1,h2,h3⟩:=DM h0;exact ⟨hN,hs,ht,hw,hr,hl,fun c hc=>by have:=hs.cells c hc;rw [<-E9 (N:=N) V this.1 this.2];exact h1 c hc,h2,h3⟩
section
variable {N:Nat} {m:Rp} {roots:List Ry} {live f:List Int} (h:CollCtx N m roots live f)
include h
theorem CollCtx.mem (x:Int):x∈live↔x∈f:=(h.lv.mem x).symm
theorem CollCtx.cell {a:Int}(ha:a∈f):CellOk N live f (bq m a):=by
 have hm:=eo (h.lv.fhas ha);obtain ⟨b,all,ho,hlv, -⟩:=h.lv.ord
 have hall: ∀x,x∈all↔x∈f:=fun x=>by rw [<-h.mem x,hlv];exact (oz all x).symm
 obtain ⟨q1,q2⟩:=ho.closed;have hs:=h.small.cells _ hm;have hN:=h.big;refine ⟨by omega,h.right _ hm,hs.1,hs.2,fun x hx=> ?_,fun x hx=> ?_,h.mem⟩
 ·exact (hall x).1 (q1 a ((hall a).2 ha) x hx (h.addr _ hm x (RQ _ hx)))
 have e:dy N (bq m a) live=dy N (bq m a) all:=by
  unfold dy;rw [Fd (q:=fun x=>decide (x∈all)) fun x=>gl (by rw [h.mem x];exact (hall x).symm)]
 rw [e] at hx;refine (hall x).1 (q2 a ((hall a).2 ha) x hx ?_);unfold dy at hx
 cases hw:pK N (bq m a) with
 |false=>rw [hw] at hx;cases hx
 |true=>
  rw [hw] at hx;obtain ⟨v,hv,hb,rfl⟩:=wi hx;exact h.addr _ hm _ (AT (RR _ hv) hb)
theorem CollCtx.root {x:Int}(hx:x∈bH roots):x∈f:=by
 obtain ⟨b,all,ho,hlv, -⟩:=h.lv.ord;rw [<-h.mem x,hlv,oz];exact ho.sub (ho.roots hx (h.roots x hx))
theorem CollCtx.rootIn:iw f roots:=fun v hv hb=>h.root (kN.2 ⟨v,hv,hb,rfl⟩)
end
def gh (N:Nat)(m:Rp)(live f:List Int):Rp:=⟨[],f.map fun a=>ki (qg f) f (kS N live (bq m a))⟩
def Qp (N:Nat)(m:Rp)(live f:List Int)(a:Int):Rk:=ki (qg f) f (kS N live (bq m a))
theorem Fh {N:Nat}{m:Rp}{live f:List Int}{a:Int}(ha:a∈f):aD (gh N m live f) (qg f a)=true:=by
 unfold qg;rw [oL];exact RM (by unfold gh;simp only [R1];exact sx ha)
theorem Lg {N:Nat}{m:Rp}{live f:List Int}{a:Int}(ha:a∈f):bq (gh N m live f) (qg f a)=ki (qg f) f (kS N live (bq m a)):=by
 have e:qg f a=2*((f.idxOf a:Nat):Int)+2:=rfl;rw [e,ns _ _ (by unfold gh;simp only [R1];exact sx ha)];unfold gh;simp only [List.getElem_map];rw [o8 ha]
theorem Do {f:List Int}{v:Ry}(hf:f.length<=100000)(hv:in64 v.N):in64 (cO (qg f) f v).N:=by
 unfold cO
 cases hb:ba v&&decide (v.N∈f) with
 |false=>exact hv
 |true=>
  rw [R3,decide_eq_true_eq] at hb;have:=sx hb.2;show in64 (qg f v.N);unfold qg in64;omega
theorem HG {N:Nat}{lv:List Int}{c:Rk}{v:Ry}(hv:v∈(kS N lv c).Sg++(kS N lv c).Sd):v∈c.Sg++c.Sd\/v=kT:=by
 unfold kS at hv
 cases h8:decide (c.Sa=8) with
 |true=>rw [h8] at hv;exact .inl (GT hv)
 | false=>
  rw [h8] at hv
  cases h10:decide (c.Sa=10) with
  |false=>rw [h10] at hv;exact .inl hv
  |true=>
   rw [h10] at hv;have hv':v∈c.Sg++(c.Sd.take 1++ed lv (c.Sd.drop 1)):=hv;rcases List.mem_append.1 hv' with hv'|hv'
   ·exact .inl (RQ _ hv')
   rcases List.mem_append.1 hv' with hv'|hv'
   ·exact .inl (RR _ (List.mem_of_mem_take hv'))
   rcases BX lv hv' with hv'|hv'
   ·exact .inl (RR _ (List.mem_of_mem_drop hv'))
   exact .inr hv'
section
variable {N:Nat} {m:Rp} {roots:List Ry} {live f:List Int} (h:CollCtx N m roots live f)
include h
theorem CollCtx.flen:f.length<=1200:=by rw [h.lv.len];exact h.lv.small
theorem CollCtx.flen6:f.length<=600:=by
 have h1:=pe (fun _=>1) h.lv.nd fun a ha=>ta (h.lv.fhas ha)
 have h2: ∀l:List Int,bQ (fun _=>1) l=l.length:=fun l=>by
  induction l with
  |nil=>rfl
  |cons x l ih=>rw [bQ,ih,List.length_cons];omega
 rw [h2,h2] at h1;have h3:=h.tot.cnt;unfold zM at h1;simp only [RZ,R1,List.length_range] at h1;omega
theorem CollCtx.nextW:W64 (gh N m live f):=fun c hc v hv=>by
 have hl:=h.flen
 have hc':c∈f.map fun a=>ki (qg f) f (kS N live (bq m a)):=hc
 obtain ⟨a,ha,rfl⟩:=List.mem_map.1 hc'
 have hv':v∈((kS N live (bq m a)).Sg++(kS N live (bq m a)).Sd).map (cO (qg f) f):=by rw [List.map_append];exact hv
 obtain ⟨w,hw,rfl⟩:=List.mem_map.1 hv';refine Do V ?_;rcases HG hw with hw|rfl
 ·exact h.w64.at_ a w hw
 show in64 0;unfold in64;omega
theorem CollCtx.nextS (l:List Ry)(hl:l.length<=600):Small (gh N m live f) l:=by
 refine ⟨Nat.zero_le _,?_,hl,fun c hc=> ?_⟩
 ·unfold gh;simp only [R1];exact h.flen6
 have hc':c∈f.map fun a=>ki (qg f) f (kS N live (bq m a)):=hc
 obtain ⟨a,ha,rfl⟩:=List.mem_map.1 hc';obtain ⟨-,g2,g3, -⟩:=(CellOk.new (Hd f) (h.cell ha));exact ⟨g2,g3⟩
end
theorem yd {F:Nat->Ry->Bool}{x:Int}(hB: ∀i v,F i v=true->ba v=true): ∀{i:Nat} {l:List Ry},x∈pick F i l-> ∃v∈l,ba v=true/\v.N=x
 |_,[],h=>by cases h
 | i,v::l,h=>by
  rw [nm] at h;rcases List.mem_append.1 h with h|h
  ·cases hf:F i v with
   |false=>rw [hf] at h;cases h
   |true=>rw [hf] at h;exact ⟨v,by simp,hB i v hf,(List.mem_singleton.1 h).symm⟩
  obtain ⟨w,g1,g2⟩:=yd hB h;exact ⟨w,by simp [g1],g2⟩
theorem te {c:Rk}{x:Int}(h:x∈bT c): ∃v∈c.Sg++c.Sd,ba v=true/\v.N=x:=by
 unfold bT cg kU at h;rcases List.mem_append.1 h with h|h
 ·rcases List.mem_append.1 h with h|h
  ·obtain ⟨v,g1,g2⟩:=yd (fun _ _ h=>h) h;exact ⟨v,RQ _ g1,g2⟩
  obtain ⟨v,g1,g2⟩:=yd (fun i v h=>((R3 _ _).mp h).2) h;exact ⟨v,RR _ g1,g2⟩
 obtain ⟨v,g1,g2⟩:=yd (fun i v h=>((R3 _ _).mp h).2) h;exact ⟨v,RR _ g1,g2⟩
section
variable {N:Nat} {m:Rp} {roots:List Ry} {live f:List Int} (h:CollCtx N m roots live f)
include h
theorem CollCtx.now64: ∀v∈roots.map (cO (qg f) f),in64 v.N:=fun v hv=>by
 have hl:=h.flen;obtain ⟨w,hw,rfl⟩:=List.mem_map.1 hv;exact Do V (h.r64 w hw)
theorem CollCtx.newHas {l:List Ry}(hl:iw f l){v:Ry}(hv:v∈l.map (cO (qg f) f))(hb:ba v=true):aD (gh N m live f) v.N=true:=by
 have _:=h;obtain ⟨w,hw,rfl⟩:=List.mem_map.1 hv;rw [AM] at hb;have:=hl w hw hb;rw [zp hb this];exact Fh this
theorem CollCtx.nextAddr {c:Rk}(hc:c∈f.map fun a=>ki (qg f) f (kS N live (bq m a))):bu c=true/\ ∀x∈bT c,aD (gh N m live f) x=true:=by
 obtain ⟨a,ha,rfl⟩:=List.mem_map.1 hc;refine ⟨(CellOk.new (Hd f) (h.cell ha)).1,fun x hx=> ?_⟩;obtain ⟨v,hv,hb,rfl⟩:=te hx;obtain ⟨i1,i2⟩:=(h.cell ha).inC;rcases List.mem_append.1 hv with hv|hv
 ·exact h.newHas i1 hv hb
 exact h.newHas i2 hv hb
end
end
section
open Go.RowKit
def bU (n:Nat):List Int:=(List.range n).map fun i:Nat=>2*(i:Int)+2
theorem IJ (n:Nat):(bU n).Pairwise (· < ·):=by
 unfold bU;rw [List.pairwise_map]
 exact List.pairwise_lt_range.imp fun h=>by omega
theorem Dx {n i:Nat}(h:i<(bU n).length):(bU n)[i]=2*(i:Int)+2:=by simp [bU]
def qT (g:Gr)(live:List Int):List Int->List Int->List Int
 |row,[]=>row
 |row,a::avs=>qT g live (dm g.has row (g.opens live a)) avs
inductive MOrd (g:Gr) (olds kept:List Int):List Int->List Int->Prop
 |done {row:List Int}:qT g (olds++row) row (kept++row)=row->MOrd g olds kept row row
 |step {row r1 r:List Int}:qT g (olds++row) row (kept++row)≠row->Thr g (qT g (olds++row) row (kept++row)) row.length r1->MOrd g olds kept r1 r->MOrd g olds kept row r
structure IsMinor (g:Gr) (olds kept start b l:List Int):Prop where
 strong:Thr g (dm g.has [] start) 0 b
 all:MOrd g olds kept b l
theorem sV (g:Gr)(live:List Int): ∀(row avs:List Int), ∃t,qT g live row avs=row++t
 |row,[]=>⟨[],by simp [qT]⟩
 |row,a::avs=>by
  obtain ⟨t,h1, -⟩:=gT g.has row (g.opens live a);obtain ⟨t2,h2⟩:=sV g live (dm g.has row (g.opens live a)) avs;exact ⟨t++t2,by unfold qT;rw [h2,h1,RP]⟩
theorem Df (g:Gr)(live:List Int): ∀(row avs bs:List Int),qT g live row (avs++bs)=qT g live (qT g live row avs) bs
 |_,[],_=>rfl
 |row,a::avs,bs=>by
  show qT g live _ (avs++bs)=_;rw [Df g live _ avs bs];rfl
theorem Dg {g:Gr}{live:List Int}: ∀{row avs:List Int},qT g live row avs=row-> ∀a∈avs, ∀x∈g.opens live a,g.has x=true->x∈row
 | row,b::avs,h,a,ha,x,hx,hh=>by
  have h1:dm g.has row (g.opens live b)=row:=by
   obtain ⟨t,e1, -⟩:=gT g.has row (g.opens live b);obtain ⟨t2,e2⟩:=sV g live (dm g.has row (g.opens live b)) avs
   have h3:row++t++t2=row:=by rw [<-e1, <-e2];exact h
   have h4:=congrArg List.length h3;simp only [RZ] at h4;have h5:t=[]:=List.eq_nil_of_length_eq_zero V;rw [e1,h5,List.append_nil]
  rcases List.mem_cons.1 ha with e|ha
  ·subst e;have:=tc row _ hx hh;rwa [h1] at this
  refine Dg (avs:=avs) ?_ a ha x hx hh;unfold qT at h;rw [h1] at h;exact h
theorem MOrd.app {g:Gr}{olds kept row r:List Int}(h:MOrd g olds kept row r): ∃t,r=row++t:=by
 induction h with
 |done _=>exact ⟨[],by simp⟩
 |step _ h1 _ ih=>
  rename_i row r1 _ _ _
  obtain ⟨t,rfl⟩:=ih;obtain ⟨t1,rfl⟩:=h1.app;obtain ⟨t2,h2⟩:=sV g (olds++row) row (kept++row);exact ⟨t2++t1++t,by rw [h2];simp [RP]⟩
theorem MOrd.closed {g:Gr}{olds kept row r:List Int}(h:MOrd g olds kept row r)(hc:CloG g row row.length):CloG g r r.length/\ ∀a∈kept++r, ∀x∈g.opens (olds++r) a,g.has x=true->x∈r:=by
 induction h with
 |done hp=>exact ⟨hc,Dg hp⟩
 |step _ h1 _ ih=>
  rename_i row _ _ _ _
  obtain ⟨t,e⟩:=sV g (olds++row) row (kept++row);refine ih (h1.clo (by rw [e,RZ];omega) ?_);rw [e];exact hc.app (Nat.le_refl _)
theorem IsMinor.start {g:Gr}{olds kept start b l:List Int}(h:IsMinor g olds kept start b l){x:Int}(hx:x∈start)(hh:g.has x=true):x∈l:=by
 obtain ⟨t,e⟩:=h.strong.app;obtain ⟨t2,e2⟩:=h.all.app;rw [e2,e];exact RQ _ (RQ _ (tc _ _ hx hh))
theorem IsMinor.closed {g:Gr}{olds kept start b l:List Int}(h:IsMinor g olds kept start b l):(∀a∈l, ∀x∈g.leads a,g.has x=true->x∈l)/\ ∀a∈kept++l, ∀x∈g.opens (olds++l) a,g.has x=true->x∈l:=by
 obtain ⟨h1,h2⟩:=h.all.closed (h.strong.clo (Nat.zero_le _) fun i _ _ hi=>absurd hi V);refine ⟨fun a ha x hx hh=> ?_,h2⟩;obtain ⟨i,hi,e⟩:=List.getElem_of_mem ha;exact h1 i a x hi (by rw [List.getElem?_eq_getElem hi,e]) hx hh
def yB (a:Int):Bool:=decide (0<a)&&decide (a.tmod 2=1)
def ID (N:Nat)(m:Rp):Gr:=⟨yB,fun a=>cg (bq m a),fun live a=>dy N (bq m a) live⟩
theorem qv (N:Nat)(a:Int):fw N a=some (yB a):=by
 unfold fw yB;cases decide (0<a)<;>cases decide (a.tmod 2=1)<;>rfl
theorem F7 (k:Nat):yB (2*(k:Int)+1)=true:=by
 unfold yB;rw [pQ V,RM V,RM V];rfl
theorem AI (k:Nat):yB (2*(k:Int)+2)=false:=by
 unfold yB;rw [pQ V,RN (p:=(2*(k:Int)+2)%2=1) V,Bool.and_false]
structure Mt (m:Rp) (met:List Int) (seen:List (Int×Bool)):Prop where
 nd:met.Nodup
 yng: ∀x∈met,yB x=true
 has: ∀x∈met,aD m x=true
 mem: ∀x,(lk seen x).getD false=decide (x∈met)
theorem Mt.len {m:Rp}{roots:List Ry}(hs:Small m roots){met:List Int}{seen:List (Int×Bool)}(h:Mt m met seen):met.length<=1200:=yi 1200 h.nd fun x hx=>⟨by have:=pq (h.has x hx);omega,by have:=wq hs (h.has x hx);omega⟩
theorem Mt.nil (m:Rp):Mt m [] []:=⟨List.nodup_nil,by simp,by simp,fun x=>by simp;rfl⟩
theorem Dp (N:Nat){m:Rp}{roots:List Ry}(hs:Small m roots)(kp:List Int){met:List Int}{seen:List (Int×Bool)}(nx:Int)(h:Mt m met seen)(a:Int)(ha:yB a=true->aD m a=true): ∃seen',bZ N ⟨m,kp,met,seen,nx⟩ a=some ⟨m,kp,dm yB met [a],seen',nx⟩/\Mt m (dm yB met [a]) seen':=by
 have hlen:=h.len hs;unfold bZ;rw [qv,bs]
 dsimp only
 rw [h.mem a];have hl:dm yB met [a]=bif yB a&& !decide (a∈met) then met++ [a] else met:=rfl;rw [hl]
 cases hy:yB a with
 |false=>exact ⟨seen,rfl,h⟩
 | true=>
  by_cases hm:a∈met
  ·rw [RM hm];exact ⟨seen,J,h⟩
  rw [RN hm];refine ⟨xi seen a true,?_,?_⟩
  ·simp only [ct,bs,nf];rw [rF (by simp;omega)];rfl
  refine ⟨List.nodup_append.2 ⟨h.nd,by simp,fun x hx y hy e=>by rw [List.mem_singleton] at hy;subst hy;subst e;exact hm hx⟩,fun x hx=> ?_,fun x hx=> ?_,fun x=> ?_⟩
  ·rcases List.mem_append.1 hx with hx|hx
   ·exact h.yng x hx
   rw [List.mem_singleton] at hx;subst hx;exact hy
  ·rcases List.mem_append.1 hx with hx|hx
   ·exact h.has x hx
   rw [List.mem_singleton] at hx;subst hx;exact ha hy
  rw [Fo];show _=decide (x∈met++ [a]);by_cases e:a=x
  ·rw [if_pos e,RM (by simp [e])];rfl
  rw [if_neg e,h.mem x];exact gl ⟨fun hx=>RQ _ hx,fun hx=>(List.mem_append.1 hx).elim id fun hx=>absurd (List.mem_singleton.1 hx).symm e⟩
theorem zr {ρ:Type}(N:Nat){m:Rp}{roots:List Ry}(hs:Small m roots)(l:List Int)(hl:l.length<N)(a1:l.length<=5000)(hh: ∀x∈l,yB x=true->aD m x=true)(L:Nat->Int->List Rk->List Rk->List Int->List Int->List (Int×Bool)->Int->Option ρ)(K:List Rk->List Rk->List Int->List Int->List (Int×Bool)->Int->Option ρ)
  (hrec: ∀k i Y O kp met seen nx,L (k+1) i Y O kp met seen nx=bif decide (i<(l.length:Int)) then ((au l i).bind fun x=>(bZ N (⟨(⟨Y,O⟩:Rp),kp,met,seen,nx⟩:RC) x).bind fun y=>bn (in64 (i+1)) (L k (i+1) y.m_.Se y.m_.Sc y.SM y.Sw y.SL y.Ss)) else K Y O kp met seen nx)
  (kp:List Int) {met:List Int} {seen:List (Int×Bool)} (nx:Int) (h:Mt m met seen) (R:ρ->Prop) (hk: ∀seen',Mt m (dm yB met l) seen'->Sat (K m.Se m.Sc kp (dm yB met l) seen' nx) R):Sat (L N 0 m.Se m.Sc kp met seen nx) R:=by
 refine cI (fun k i (s:List Int×List (Int×Bool))=>L k (i:Int) m.Se m.Sc kp s.1 s.2 nx) l.length (fun i s=>Mt m s.1 s.2/\s.1=dm yB met (l.take i)) R ?_ ?_ N 0 (met,seen) V V ⟨h,J⟩
 ·rintro k i ⟨mt,sn⟩ hi ⟨h1,h2⟩ go;simp only at h1 h2;show Sat (L (k+1) (i:Int) m.Se m.Sc kp mt sn nx) R;obtain ⟨sn',e1,e2⟩:=Dp N hs kp nx h1 l[i] (hh _ (R5 _));have e1':bZ N ⟨⟨m.Se,m.Sc⟩,kp,mt,sn,nx⟩ l[i]=some ⟨m,kp,dm yB mt [l[i]],sn',nx⟩:=e1;rw [hrec,cn V,ct,aK hi,bs,e1',bs,r64 V V];exact go (dm yB mt [l[i]],sn') ⟨e2,by show dm yB mt [l[i]]=_;rw [aM hi,rc, <-h2]⟩
 rintro k ⟨mt,sn⟩ ⟨h1,h2⟩;simp only [R2] at h1 h2;show Sat (L (k+1) _ m.Se m.Sc kp mt sn nx) R;rw [hrec,cu V,cf];subst h2;exact hk sn h1
theorem qY (N:Nat){m:Rp}{roots:List Ry}(hs:Small m roots)(kp met:List Int)(seen:List (Int×Bool))(nx:Int){a:Int}(ha:aD m a=true):bD N ⟨m,kp,met,seen,nx⟩ a=some (bq m a):=by
 have hy:=hs.young;have ho:=hs.old;unfold bD;rw [qv,bs];rcases fj ha with ⟨i,hi,rfl⟩|⟨i,hi,rfl⟩
 ·rw [F7,ct,wQ V,show (2*(i:Int)+1) / 2=i by omega,r64 V V,qd m i hi,aK hi,bs]
 rw [AI,cf,wQ V,show (2*(i:Int)+2) / 2=(i:Int)+1 by omega,r64 V V,r64 V V,show (i:Int)+1 - 1=i by omega,ns m i hi,aK hi,bs]
def Whole (m:Rp):Prop:= ∀a,aD m a=true-> ∀x∈bT (bq m a),aD m x=true
theorem Whole.leads {m:Rp}(h:Whole m){a:Int}(ha:aD m a=true): ∀x∈cg (bq m a),aD m x=true:=fun x hx=>h a ha x (RQ _ hx)
theorem Whole.opens {m:Rp}(h:Whole m){N:Nat}{live:List Int}{a:Int}(ha:aD m a=true): ∀x∈dy N (bq m a) live,aD m x=true:=fun x hx=>by
 unfold dy at hx
 cases hw:pK N (bq m a) with
 |false=>rw [hw] at hx;cases hx
 |true=>
  rw [hw] at hx;obtain ⟨v,hv,hb,rfl⟩:=wi hx;exact h a ha _ (AT (RR _ hv) hb)
theorem xb (N:Nat)(hN:6500<N){m:Rp}{roots:List Ry}(hs:Small m roots)(hw:Whole m)(kp:List Int){met:List Int}{seen:List (Int×Bool)}(h:Mt m met seen)(k:Nat)(hk:k<=met.length):
  Sat (eD N ⟨m,kp,met,seen,(k:Int)⟩) fun r=> ∃seen',r=⟨m,kp,r.Sw,seen',(r.Sw.length:Int)⟩/\Mt m r.Sw seen'/\Thr (ID N m) met k r.Sw:=by
 unfold eD;refine nU (fun f (s:List Int×List (Int×Bool)×Nat)=>bM N f m.Se m.Sc kp s.1 s.2.1 (s.2.2:Int)) (fun s=>1300 - s.2.2) (fun s=>Mt m s.1 s.2.1/\s.2.2<=s.1.length/\ ∀r,Thr (ID N m) s.1 s.2.2 r->Thr (ID N m) met k r) _ ?_ N (met,seen,k) (by show 1300 - k<N;omega) ⟨h,hk,fun _ h=>h⟩;rintro f ⟨mt,sn,j⟩ ⟨h1,h3,h4⟩ go;show Sat (bM N (f+1) m.Se m.Sc kp mt sn (j:Int)) _;simp only at h1 h3 h4;have hlen:=h1.len hs;rw [bM.eq_2];by_cases hj:j<mt.length
 ·have hh:=h1.has _ (R5 hj);have hsm:=hs.at_ mt[j];have e1:bD N ⟨⟨m.Se,m.Sc⟩,kp,mt,sn,(j:Int)⟩ mt[j]=some (bq m mt[j]):=qY N hs kp mt sn (j:Int) hh;have hll:=kk (bq m mt[j]);rw [cn V,ct,aK hj,bs,e1,bs,nb N V _ V V,bs]
  refine zr N hs (cg (bq m mt[j])) V V (fun x hx _=>hw.leads hh x hx) (fx N (bM N f) (cg (bq m mt[j]))) (fz N (bM N f)) (fun _ _ _ _ _ _ _ _=>by rw [fx.eq_2]) kp (j:Int) h1 _ fun sn' h5=> ?_
  unfold fz;rw [r64 V V]
  have hge:mt.length<=(dm yB mt (cg (bq m mt[j]))).length:=by
   obtain ⟨t,e, -⟩:=gT yB mt (cg (bq m mt[j]));rw [e,RZ];omega
  exact go (dm yB mt (cg (bq m mt[j])),sn',j+1) (by show 1300 - (j+1)<1300 - j;omega) ⟨h5,by show j+1<=(dm yB mt (cg (bq m mt[j]))).length;omega,fun r hr=>h4 r (.step (List.getElem?_eq_getElem hj) hr)⟩
 have:j=mt.length:=by omega
 subst this;rw [cu V,cf];exact av ⟨sn,J,h1,h4 _ (.done (Nat.le_refl _))⟩
theorem BN (N:Nat)(hN:6500<N){m:Rp}{roots:List Ry}(hs:Small m roots)(kp:List Int){met:List Int}{seen:List (Int×Bool)}(nx:Int)(h:Mt m met seen):eO N ⟨m,kp,met,seen,nx⟩=some (bU m.Sc.length++met):=by
 apply Sat.eq;have ho:=hs.old;have hlen:=h.len hs;unfold eO;refine cI (fun k i (s:List Int)=>d9 N ⟨m,kp,met,seen,nx⟩ k s (i:Int)) m.Sc.length (fun i s=>s=bU i) _ ?_ ?_ N 0 [] V V J
 ·rintro k i s hi rfl go;show Sat (d9 N ⟨m,kp,met,seen,nx⟩ (k+1) (bU i) (i:Int)) _
  have hev:(bU i).length=i:=by unfold bU;simp
  rw [d9.eq_2,cn (by show (i:Int)<(m.Sc.length:Int);omega),ct,r64 V V,r64 V V,rF (by simp;omega),r64 V V];refine go _ ?_;unfold bU;rw [List.range_succ,List.map_append];rfl
 rintro k s rfl;show Sat (d9 N ⟨m,kp,met,seen,nx⟩ (k+1) _ _) _
 have hev:(bU m.Sc.length).length=m.Sc.length:=by unfold bU;simp
 rw [d9.eq_2,cu (by show (m.Sc.length:Int)<=(m.Sc.length:Int);omega),cf];unfold lz
 dsimp only
 rw [rF V];exact av J
theorem Ak (N:Nat)(a b:List Int)(ha:a.length<=100000)(hb:b.length<=100000):kw N a b=some (a++b):=by
 unfold kw oA pC lJ nB;rw [r64 V V,cu (a:=0+(a.length:Int)) V,cf,r64 V V,cu (a:=0+(a.length:Int)+(b.length:Int)) V,cf,r64 V V,r64 V V,cf];by_cases h:0<a.length+b.length
 ·rw [cn V,ct,iq ⟨by omega,by omega⟩,bs,rF (by simp;omega),rF (by simp;omega)];rfl
 rw [cu V,cf,bs,rF (by simp;omega),rF (by simp;omega)];rfl
theorem GB (N:Nat)(hN:6500<N){m:Rp}{roots:List Ry}(hs:Small m roots)(hw:Whole m)(kp:List Int)(hk: ∀x∈kp,aD m x=true)(hkl:kp.length<=1200){met:List Int}{seen:List (Int×Bool)}(nx:Int)(h:Mt m met seen):
  Sat (gi N ⟨m,kp,met,seen,nx⟩) fun r=> ∃seen',r=(decide ((met.length:Int)<(r.2.Sw.length:Int)),⟨m,kp,r.2.Sw,seen',nx⟩)/\Mt m r.2.Sw seen'/\r.2.Sw=qT (ID N m) (bU m.Sc.length++met) met (kp++met):=by
 have hlen:=h.len hs;have ho:=hs.old
 have hev:(bU m.Sc.length).length=m.Sc.length:=by unfold bU;simp
 unfold gi;rw [BN N hN hs kp nx h,bs]
 dsimp only
 rw [Ak N kp met V V,bs]
 have hL:(bU m.Sc.length++met).length<=5000:=by rw [RZ];omega
 have hC:(kp++met).length<=2400:=by rw [RZ];omega
 generalize hlv:bU m.Sc.length++met=live at*
 have hcm: ∀x∈kp++met,aD m x=true:=fun x hx=>(List.mem_append.1 hx).elim (hk x) (h.has x)
 generalize hcc:kp++met=cs at*;refine cI (fun k i (s:List Int×List (Int×Bool))=>bN N ⟨m,kp,met,seen,nx⟩ cs live k (i:Int) m.Se m.Sc kp s.1 s.2 nx) cs.length (fun i s=>Mt m s.1 s.2/\s.1=qT (ID N m) live met (cs.take i)) _ ?_ ?_ N 0 (met,seen) V V ⟨h,J⟩
 ·rintro k i ⟨mt,sn⟩ hi ⟨h1,h2⟩ go;simp only at h1 h2;show Sat (bN N ⟨m,kp,met,seen,nx⟩ cs live (k+1) (i:Int) m.Se m.Sc kp mt sn nx) _;have hh:=hcm _ (R5 hi);have hsm:=hs.at_ cs[i];have e1:bD N ⟨⟨m.Se,m.Sc⟩,kp,mt,sn,nx⟩ cs[i]=some (bq m cs[i]):=qY N hs kp mt sn nx hh;have hol:=BF N (bq m cs[i]) live;rw [bN.eq_2,cn V,ct,aK hi,bs,e1,bs,BE N hN live V _ V V,bs]
  refine zr N hs (dy N (bq m cs[i]) live) V V (fun x hx _=>hw.opens hh x hx) (il N (bN N ⟨m,kp,met,seen,nx⟩ cs live k) ⟨m,kp,met,seen,nx⟩ cs (i:Int) (dy N (bq m cs[i]) live) live) (im N (bN N ⟨m,kp,met,seen,nx⟩ cs live k) ⟨m,kp,met,seen,nx⟩ cs (i:Int) live) (fun _ _ _ _ _ _ _ _=>by rw [il.eq_2]) kp nx h1 _ fun sn' h5=> ?_
  unfold im;rw [r64 V V];refine go (dm yB mt (dy N (bq m cs[i]) live),sn') ⟨h5,?_⟩;show dm yB mt (dy N (bq m cs[i]) live)=_;rw [aM hi,Df, <-h2];rfl
 rintro k ⟨mt,sn⟩ ⟨h1,h2⟩;simp only [R2] at h1 h2;show Sat (bN N ⟨m,kp,met,seen,nx⟩ cs live (k+1) _ m.Se m.Sc kp mt sn nx) _;rw [bN.eq_2,cu V,cf];unfold ly;exact av ⟨sn,J,h1,h2⟩
def Be (m:Rp)(roots:List Ry)(kept:List Int):List Int:=bH roots++kept.flatMap fun a=>cg (bq m a)
theorem BR (N:Nat)(v:Ry):kA N v=some (v.N,ba v):=by
 unfold kA;rw [re,bs]
theorem Ip (N:Nat)(hN:6500<N){m:Rp}{roots:List Ry}(hs:Small m roots)(hw:Whole m)(hr: ∀x∈bH roots,aD m x=true)(kept:List Int)(hk: ∀x∈kept,aD m x=true)(hkl:kept.length<=1200):
  Sat (nq N m roots kept) fun r=> ∃seen nx b,r=⟨m,kept,r.Sw,seen,nx⟩/\Mt m r.Sw seen/\IsMinor (ID N m) (bU m.Sc.length) kept (Be m roots kept) b r.Sw:=by
 have hrl:=hs.roots
 -- the passes
 have passes: ∀(b:List Int) (seen:List (Int×Bool)),Mt m b seen->Thr (ID N m) (dm yB [] (Be m roots kept)) 0 b->Sat (jz N N m.Se m.Sc kept b seen (b.length:Int)) fun r=> ∃seen nx b,r=⟨m,kept,r.Sw,seen,nx⟩/\Mt m r.Sw seen/\IsMinor (ID N m) (bU m.Sc.length) kept (Be m roots kept) b r.Sw:=by
  intro b seen h hb;have h0:=h.len hs;refine nU (fun f (s:List Int×List (Int×Bool))=>jz N f m.Se m.Sc kept s.1 s.2 (s.1.length:Int)) (fun s=>1300 - s.1.length) (fun s=>Mt m s.1 s.2/\ ∀r,MOrd (ID N m) (bU m.Sc.length) kept s.1 r->MOrd (ID N m) (bU m.Sc.length) kept b r) _ ?_ N (b,seen) (by show 1300 - b.length<N;omega) ⟨h,fun _ h=>h⟩;rintro f ⟨mt,sn⟩ ⟨h1,h2⟩ go;simp only at h1 h2;show Sat (jz N (f+1) m.Se m.Sc kept mt sn (mt.length:Int)) _;have hlen:=h1.len hs;obtain ⟨⟨p,x⟩,e0,sn',e1,h3,h4⟩:=GB N hN hs hw kept hk hkl (mt.length:Int) h1;simp only at e1 h3 h4;obtain ⟨e1,e2⟩:=Prod.mk.inj e1;obtain ⟨t,ht⟩:=sV (ID N m) (bU m.Sc.length++mt) mt (kept++mt);have hlen3:=h3.len hs;have e0':gi N ⟨⟨m.Se,m.Sc⟩,kept,mt,sn,(mt.length:Int)⟩=some (p,x):=e0;rw [jz.eq_2,e0',bs]
  dsimp only
  rw [e1];generalize hm':x.Sw=mt' at*;subst e2
  refine dB (fun hlt=> ?_) fun hge=> ?_
  ·refine Sat.bind (xb N hN hs hw kept h3 mt.length (by rw [h4,ht,RZ];omega)) ?_;rintro r ⟨sn3,e3,h5,h6⟩;have hlen5:=h5.len hs;rw [e3]
   dsimp only
   refine go (r.Sw,sn3) ?_ ⟨h5,fun r' hr'=>h2 r' (.step ?_ (by rw [<-h4];exact h6) hr')⟩
   ·obtain ⟨t3,e4⟩:=h6.app;show 1300 - r.Sw.length<1300 - mt.length
    have:mt'.length<=r.Sw.length:=by rw [e4,RZ];omega
    omega
   rw [<-h4];intro e;rw [e] at hlt;omega
  have e:mt'=mt:=by
   rw [ht] at h4;have h0:t=[]:=List.eq_nil_of_length_eq_zero (by rw [h4,RZ] at hge;omega);rw [h4,h0,List.append_nil]
  subst e;unfold sv;exact av ⟨sn',(mt'.length:Int),b,J,h3,⟨hb,h2 _ (.done h4.symm)⟩⟩
 -- the kept cells
 have keptL: ∀(row:List Int) (seen:List (Int×Bool)),Mt m row seen->row=dm yB [] (bH roots)->Sat (dU N kept N 0 m.Se m.Sc kept row seen 0) fun r=> ∃seen nx b,r=⟨m,kept,r.Sw,seen,nx⟩/\Mt m r.Sw seen/\IsMinor (ID N m) (bU m.Sc.length) kept (Be m roots kept) b r.Sw:=by
  intro row seen h hrow;refine cI (fun k i (s:List Int×List (Int×Bool))=>dU N kept k (i:Int) m.Se m.Sc kept s.1 s.2 0) kept.length (fun i s=>Mt m s.1 s.2/\s.1=dm yB [] (bH roots++(kept.take i).flatMap fun a=>cg (bq m a))) _ ?_ ?_ N 0 (row,seen) V V ⟨h,by simpa using hrow⟩
  ·rintro k i ⟨mt,sn⟩ hi ⟨h1,h2⟩ go;simp only at h1 h2;show Sat (dU N kept (k+1) (i:Int) m.Se m.Sc kept mt sn 0) _;have hh:=hk _ (R5 hi);have hsm:=hs.at_ kept[i];have e1:bD N ⟨⟨m.Se,m.Sc⟩,kept,mt,sn,0⟩ kept[i]=some (bq m kept[i]):=qY N hs kept mt sn 0 hh;have hll:=kk (bq m kept[i]);rw [dU.eq_2,cn V,ct,aK hi,bs,e1,bs,nb N V _ V V,bs]
   refine zr N hs (cg (bq m kept[i])) V V (fun x hx _=>hw.leads hh x hx) (o5 N (dU N kept k) kept (i:Int) (cg (bq m kept[i]))) (o6 N (dU N kept k) kept (i:Int)) (fun _ _ _ _ _ _ _ _=>by rw [o5.eq_2]) kept 0 h1 _ fun sn' h5=> ?_
   unfold o6;rw [r64 V V];refine go (dm yB mt (cg (bq m kept[i])),sn') ⟨h5,?_⟩;show dm yB mt (cg (bq m kept[i]))=_;rw [aM hi,List.flatMap_append, <-RP,rc, <-h2];simp
  rintro k ⟨mt,sn⟩ ⟨h1,h2⟩;simp only [R2] at h1 h2;show Sat (dU N kept (k+1) _ m.Se m.Sc kept mt sn 0) _;rw [dU.eq_2,cu V,cf];unfold sw;refine Sat.bind (xb N hN hs hw kept h1 0 (Nat.zero_le _)) ?_;rintro r ⟨sn3,e3,h5,h6⟩;rw [e3]
  dsimp only
  exact passes r.Sw sn3 h5 (by rw [h2] at h6;exact h6)
 -- the roots
 unfold nq;refine cI (fun k i (s:List Int×List (Int×Bool))=>gy N roots kept k (i:Int) m.Se m.Sc kept s.1 s.2 0) roots.length (fun i s=>Mt m s.1 s.2/\s.1=dm yB [] (bH (roots.take i))) _ ?_ ?_ N 0 ([],[]) V V ⟨Mt.nil m,J⟩
 ·rintro k i ⟨mt,sn⟩ hi ⟨h1,h2⟩ go;simp only at h1 h2;show Sat (gy N roots kept (k+1) (i:Int) m.Se m.Sc kept mt sn 0) _
  have hnext:dm yB [] (bH (roots.take (i+1)))=dm yB mt (bH [roots[i]]):=by
   rw [aM hi,wA,rc, <-h2]
  rw [gy.eq_2,cn V,ct,aK hi,bs,BR,bs]
  dsimp only
  unfold o7;cases hb:ba roots[i]
  ·rw [cf,r64 V V];refine go (mt,sn) ⟨h1,?_⟩;show mt=_;rw [hnext];simp [bH,hb,dm]
  rw [ct];have hroot:aD m roots[i].N=true:=hr _ (kN.2 ⟨_,R5 _,hb,rfl⟩)
  obtain ⟨sn',e1,e2⟩:=Dp N hs kept 0 h1 roots[i].N fun _=>hroot
  have e1':bZ N ⟨⟨m.Se,m.Sc⟩,kept,mt,sn,0⟩ roots[i].N=_:=e1;rw [e1',bs]
  dsimp only
  rw [r64 V V];refine go (dm yB mt [roots[i].N],sn') ⟨e2,?_⟩;show dm yB mt [roots[i].N]=_;rw [hnext];simp [bH,hb]
 rintro k ⟨mt,sn⟩ ⟨h1,h2⟩;simp only [R2] at h1 h2;show Sat (gy N roots kept (k+1) _ m.Se m.Sc kept mt sn 0) _;rw [gy.eq_2,cu V,cf];unfold tI;exact keptL mt sn h1 h2
def r7 (m:Rp)(kept:List Int):Bool:=(List.range m.Sc.length).all fun i=> !(bT (bq m (2*(i:Int)+2))).any yB||decide ((2*(i:Int)+2)∈kept)
def rf (m:Rp)(kept:List Int):Bool:=kept.all (fun a=> !yB a&&aD m a)&&decide (kept.Pairwise (· < ·))
def zc (N:Nat)(m:Rp):Bool:=(m.Se++m.Sc).all (yA N m)
def BP (N:Nat)(m:Rp)(roots:List Ry)(kept:List Int):Bool:=da m (bH roots)&&zc N m&&rf m kept&&r7 m kept
theorem Ae (N:Nat)(hN:2000<N)(c:Rk)(hS:c.Sg.length<=600)(hM:c.Sd.length<=600):iR N c=some (bT c):=by
 have h1:=kk c;have h2:=ni c;unfold iR;rw [nb N hN c V V,bs,rM N hN c V V,bs,rF V];rfl
theorem yR (N:Nat)(f:Int->Option Bool)(p:Int->Bool)(l:List Int)(hl:l.length<N)(a1:l.length<=5000)(hf: ∀x∈l,f x=some (p x)):bB N l f=some (l.any p):=by
 have key: ∀k i:Nat,l.length<k+i->i<=l.length->Sat (dt N f l k (i:Int)) fun r=>decide (0<=r)=(l.drop i).any p:=by
  intro k
  induction k with
  |zero=>intro i h1 h2;omega
  | succ k ih=>
   intro i h1 h2;rw [dt.eq_2];by_cases hi:i<l.length
   ·have h3:=ih (i+1) V hi;rw [show (((i+1:Nat)):Int)=(i:Int)+1 by omega] at h3;rw [cn V,ct,aK hi,bs,List.drop_eq_getElem_cons hi,List.any_cons,hf _ (R5 _),bs,r64 V V];cases p l[i]
    ·exact h3
    exact av (by rw [RM V];rfl)
   rw [cu V,cf,List.drop_eq_nil_of_le V];exact av J
 obtain ⟨r,h1,h2⟩:=key N 0 V V;have h1':dt N f l N 0=some r:=h1;unfold bB jR;rw [h1',bs,h2];rfl
theorem HL (N:Nat)(f:Ry->Option Bool)(p:Ry->Bool)(l:List Ry)(hl:l.length<N)(a1:l.length<=5000)(hf: ∀x∈l,f x=some (p x)):cx N l f=some (l.any p):=by
 have key: ∀k i:Nat,l.length<k+i->i<=l.length->Sat (dq N f l k (i:Int)) fun r=>decide (0<=r)=(l.drop i).any p:=by
  intro k
  induction k with
  |zero=>intro i h1 h2;omega
  | succ k ih=>
   intro i h1 h2;rw [dq.eq_2];by_cases hi:i<l.length
   ·have h3:=ih (i+1) V hi;rw [show (((i+1:Nat)):Int)=(i:Int)+1 by omega] at h3;rw [cn V,ct,aK hi,bs,List.drop_eq_getElem_cons hi,List.any_cons,hf _ (R5 _),bs,r64 V V];cases p l[i]
    ·exact h3
    exact av (by rw [RM V];rfl)
   rw [cu V,cf,List.drop_eq_nil_of_le V];exact av J
 obtain ⟨r,h1,h2⟩:=key N 0 V V;have h1':dq N f l N 0=some r:=h1;unfold cx i5;rw [h1',bs,h2];rfl
theorem AS {α:Type}(p:α->Bool): ∀l:List α,l.any (fun x=> !p x)=!l.all p
 | []=>rfl
 |x::l=>by rw [List.any_cons,List.all_cons,AS p l];cases p x<;>rfl
theorem yM (N:Nat)(a b:List Rk)(ha:a.length<=100000)(hb:b.length<=100000):fD N a b=some (a++b):=by
 unfold fD kP ln ig jU;rw [r64 V V,cu (a:=0+(a.length:Int)) V,cf,r64 V V,cu (a:=0+(a.length:Int)+(b.length:Int)) V,cf,r64 V V,r64 V V,cf];by_cases h:0<a.length+b.length
 ·rw [cn V,ct,iq ⟨by omega,by omega⟩,bs,rF (by simp;omega),rF (by simp;omega)];rfl
 rw [cu V,cf,bs,rF (by simp;omega),rF (by simp;omega)];rfl
theorem Ge (N:Nat)(hN:6500<N){m:Rp}{roots:List Ry}(hs:Small m roots)(hw:W64 m):o3 N m=some (zc N m):=by
 have h1:=hs.young;have h2:=hs.old;unfold o3 zc;rw [yM N _ _ V V,bs]
 have hl:(m.Se++m.Sc).length<=1200:=by rw [RZ];omega
 refine Fn (fun k i=>nL N (m.Se++m.Sc) m k i) (m.Se++m.Sc) _ (fun k i h=> ?_) (fun k=> ?_) N V
 ·have hm:(m.Se++m.Sc)[i]∈m.Se++m.Sc:=R5 _;have hc:=hs.cells _ hm;obtain ⟨⟨a1,a2⟩,a3,a4⟩:=yX hs hw hm;rw [nL.eq_2,cn V,ct,aK h,bs];generalize (m.Se++m.Sc)[i]=c at*;obtain ⟨b,hb, -⟩:=zh N V c V V
  rw [uK N V _ V V,hb,bs,Ae N V c hc.1 hc.2,bs,yR N _ (fun x=> !aD m x) (bT c) (by unfold bT;rw [RZ];omega) (by unfold bT;rw [RZ];omega) (fun x hx=>by
   unfold oI
   rw [td N m x ((List.mem_append.1 hx).elim (a2 x) (a4 x)),bs]),AS]
  unfold yA;rw [hb,r64 V V]
  have e:(bT c).all (aD m)=(da m (cg c)&&da m (kU c)):=by unfold bT da;rw [List.all_append]
  rw [e];cases b<;>cases da m (cg c)&&da m (kU c)<;>rfl
 rw [nL.eq_2,cu V,cf];rfl
theorem Jn (l:List Int):decide (l.Pairwise (· < ·))=(List.range l.length).all fun i=>decide (i=0)||decide (l.getD (i - 1) 0<l.getD i 0):=by
 rw [Bool.eq_iff_iff,decide_eq_true_eq,List.all_eq_true];constructor
 ·intro h i hi;rw [List.mem_range] at hi;by_cases h0:i=0
  ·rw [RM h0];rfl
  have:=List.pairwise_iff_getElem.1 h (i - 1) i V hi V;rw [RM (p:=l.getD (i - 1) 0<l.getD i 0) (by simpa [List.getD,hi,show i - 1<l.length by omega] using this),Bool.or_true]
 intro h
 refine List.pairwise_iff_getElem.2 fun i j hi hj hij=> ?_
 have step: ∀k,i+k+1<l.length->l[i]'hi<l.getD (i+k+1) 0:=by
  intro k
  induction k with
  |zero=>
   intro hk;have:=h (i+1) (List.mem_range.2 hk);rw [RN (p:=i+1=0) V,Bool.false_or,decide_eq_true_eq,Nat.add_sub_cancel] at this;simpa [List.getD,hi] using this
  |succ k ih=>
   intro hk;have h1:=ih V;have:=h (i+k+1+1) (List.mem_range.2 V);rw [RN (p:=i+k+1+1=0) V,Bool.false_or,decide_eq_true_eq,Nat.add_sub_cancel] at this;show l[i]'hi<l.getD (i+k+1+1) 0;omega
 have:=step (j - i - 1) V;rw [show i+(j - i - 1)+1=j by omega] at this;simpa [List.getD,hj] using this
theorem Dq (N:Nat)(hN:6500<N){m:Rp}{roots:List Ry}(hs:Small m roots)(hw:W64 m)(hr: ∀v∈roots,in64 v.N)(kept:List Int)(hk:kept.length<=5000)(a6: ∀x∈kept,in64 x):po N m roots kept=some (BP N m roots kept):=by
 have h3:=hs.roots;have ho:=hs.old
 -- the old cells
 have olds:kJ N kept m=some (r7 m kept):=by
  unfold kJ r7;have hlr:(List.range m.Sc.length).length=m.Sc.length:=List.length_range;refine Fn (fun k i=>o4 N m kept k i) (List.range m.Sc.length) _ (fun k i h=> ?_) (fun k=> ?_) N V
  ·rw [hlr] at h;have hm:m.Sc[i]∈m.Se++m.Sc:=RR _ (R5 _);have hc:=hs.cells _ hm;obtain ⟨⟨a1,a2⟩,a3,a4⟩:=yX hs hw hm;rw [o4.eq_2,cn V,ct,aK h,bs,Ae N V _ hc.1 hc.2,bs,yR N _ yB (bT m.Sc[i]) (by unfold bT;rw [RZ];omega) (by unfold bT;rw [RZ];omega) (fun x _=>qv N x),bs,r64 (a:=2*(i:Int)) V V,r64 (a:=2*(i:Int)+2) V V,o9 N hN kept hk,bs,r64 V V,List.getElem_range,ns m i h];cases (bT m.Sc[i]).any yB<;>cases decide ((2*(i:Int)+2)∈kept)<;>rfl
  rw [hlr,o4.eq_2,cu V,cf];rfl
 -- the kept addresses
 have hkept:mG N kept m N 0=bif rf m kept then kJ N kept m else some false:=by
  have hlr:(List.range kept.length).length=kept.length:=List.length_range;have:=wl (fun k i=>mG N kept m k i) (List.range kept.length) (fun i=>(!yB (kept.getD i 0)&&aD m (kept.getD i 0))&&(decide (i=0)||decide (kept.getD (i - 1) 0<kept.getD i 0))) (some false) (kJ N kept m) (fun k i h=> ?_) (fun k=> ?_) N V
  ·rw [this]
   have e:((List.range kept.length).all fun i=>(!yB (kept.getD i 0)&&aD m (kept.getD i 0))&&(decide (i=0)||decide (kept.getD (i - 1) 0<kept.getD i 0)))=rf m kept:=by
    unfold rf;rw [Jn]
    have e2:kept.all (fun a=> !yB a&&aD m a)=(List.range kept.length).all fun i=> !yB (kept.getD i 0)&&aD m (kept.getD i 0):=by
     rw [Bool.eq_iff_iff,List.all_eq_true,List.all_eq_true];constructor
     ·intro h i hi;rw [List.mem_range] at hi
      have:kept.getD i 0=kept[i]:=by simp [List.getD,hi]
      rw [this];exact h _ (R5 _)
     intro h x hx;obtain ⟨i,hi,rfl⟩:=List.getElem_of_mem hx;have:=h i (List.mem_range.2 hi)
     rwa [show kept.getD i 0=kept[i] by simp [List.getD,hi]] at this
    rw [e2]
    induction List.range kept.length with
    |nil=>rfl
    |cons a l ih=>rw [List.all_cons,List.all_cons,List.all_cons,ih];cases (!yB (kept.getD a 0)&&aD m (kept.getD a 0))<;>cases (decide (a=0)||decide (kept.getD (a - 1) 0<kept.getD a 0))<;>simp
   rw [e]
  ·rw [hlr] at h
   have hg:kept.getD i 0=kept[i]:=by simp [List.getD,h]
   rw [mG.eq_2,cn V,ct,aK h,bs,qv,bs,td N m _ (a6 _ (R5 _)),r64 (a:=(i:Int)+1) V V,List.getElem_range,hg];by_cases h0:i=0
   ·subst h0;rw [cu (a:=0) (b:=((0:Nat):Int)) V];cases yB kept[0]<;>cases aD m kept[0]<;>rfl
   have hp:au kept ((i:Int) - 1)=some (kept.getD (i - 1) 0):=by
    have:=aK (xs:=kept) (i:=i - 1) V;rw [show (((i - 1:Nat)):Int)=(i:Int) - 1 by omega] at this;rw [this];simp [List.getD,show i - 1<kept.length by omega]
   rw [cn (a:=0) (b:=(i:Int)) V,ct,r64 (a:=(i:Int) - 1) V V,hp,RN h0];simp only [bs];by_cases hlt:kept.getD (i - 1) 0<kept[i]
   ·rw [JU hlt,RM hlt];cases yB kept[i]<;>cases aD m kept[i]<;>rfl
   rw [JT V,RN hlt];cases yB kept[i]<;>cases aD m kept[i]<;>rfl
  rw [hlr,mG.eq_2,cu V,cf]
 have hroots:cx N roots (fun x=>nN N x m)=some (!da m (bH roots)):=by
  rw [HL N _ (fun v=> !(!ba v||aD m v.N)) roots V V (fun v hv=>by
   unfold nN;rw [BR,bs]
   dsimp only
   rw [td N m _ (hr v hv),bs]
   cases ba v<;>cases aD m v.N<;>rfl),AS]
  unfold da bH;rw [all_map,CD]
 unfold po BP;rw [hroots,bs,Ge N hN hs hw,bs,hkept,olds];cases da m (bH roots)<;>cases zc N m<;>cases rf m kept<;>rfl
def Pw (c:Rk):Rk:=⟨c.Sa,c.Sk,c.Sj,c.Sn,c.Sg.take 20,c.Sd.take 40⟩
def Oz (l:List Rk):List Rk:=(l.take 40).map Pw
def QF (m:Rp):Rp:=⟨Oz m.Se,Oz m.Sc⟩
structure Few20 (m:Rp) (roots:List Ry):Prop where
 young:m.Se.length<=40
 old:m.Sc.length<=40
 roots:roots.length<=40
 cells: ∀c∈m.Se++m.Sc,c.Sg.length<=20/\c.Sd.length<=40
def Cj (N:Nat)(m:Rp)(roots:List Ry):Bool:=da m (bH roots)&&zc N m
def lW (m:Rp)(i:Nat):Bool:=(bT (bq m (2*(i:Int)+2))).any yB
def jB (m:Rp):List Int:=((List.range m.Sc.length).filter (lW m)).map fun i:Nat=>2*(i:Int)+2
theorem qu {m:Rp}{x:Int}:x∈jB m↔ ∃i:Nat,i<m.Sc.length/\lW m i=true/\x=2*(i:Int)+2:=by
 unfold jB;simp only [List.mem_map,List.mem_filter,List.mem_range];constructor
 ·rintro ⟨i,⟨h1,h2⟩,rfl⟩;exact ⟨i,h1,h2,J⟩
 rintro ⟨i,h1,h2,rfl⟩;exact ⟨i,⟨h1,h2⟩,J⟩
theorem Iv {m:Rp}{x:Int}(h:x∈jB m):aD m x=true/\yB x=false:=by
 obtain ⟨i,h1, -,rfl⟩:=qu.1 h;exact ⟨by rw [oL];exact RM h1,AI i⟩
theorem Fu (m:Rp):rf m (jB m)=true:=by
 unfold rf;rw [R3,decide_eq_true_eq,List.all_eq_true];refine ⟨fun x hx=> ?_,?_⟩
 ·obtain ⟨h1,h2⟩:=Iv hx;rw [h1,h2];rfl
 unfold jB;refine List.Pairwise.map _ (fun a b (h:a<b)=> ?_) ((List.pairwise_lt_range).filter _);omega
theorem Hk (m:Rp):r7 m (jB m)=true:=by
 unfold r7;rw [List.all_eq_true];intro i hi;rw [List.mem_range] at hi;cases h:(bT (bq m (2*(i:Int)+2))).any yB
 ·rfl
 have:(2*(i:Int)+2)∈jB m:=qu.2 ⟨i,hi,h,rfl⟩;rw [RM this];rfl
theorem Io (N:Nat)(m:Rp)(roots:List Ry):BP N m roots (jB m)=Cj N m roots:=by
 unfold BP Cj;rw [Fu,Hk,Bool.and_true,Bool.and_true]
theorem fY {n:Nat}{x:Int}:x∈bU n↔ ∃i:Nat,i<n/\x=2*(i:Int)+2:=by
 unfold bU;simp only [List.mem_map,List.mem_range];constructor
 ·rintro ⟨i,h,rfl⟩;exact ⟨i,h,J⟩
 rintro ⟨i,h,rfl⟩;exact ⟨i,h,J⟩
def Pp (n:Nat):List Ry:=(List.range n).map fun i:Nat=>(⟨9,2*(i:Int)+2,⟨#[]⟩⟩:Ry)
theorem FA {m:Rp}{a:Int}(h:aD m a=true)(hy:yB a=false): ∃i:Nat,i<m.Sc.length/\a=2*(i:Int)+2:=by
 rcases fj h with ⟨i,hi,rfl⟩|h
 ·rw [F7] at hy;cases hy
 exact h
theorem Gt {N:Nat}{c:Rk}{l:List Int}{x:Int}(h:x∈dy N c l):x∈bT c:=by
 unfold dy at h
 cases hw:pK N c with
 |false=>rw [hw] at h;cases h
 |true=>
  rw [hw] at h;obtain ⟨v,hv,hb,rfl⟩:=wi h;exact AT (RR _ hv) hb
theorem yz {N:Nat}{m:Rp}{roots:List Ry}(h:Cj N m roots=true):Whole m/\(∀x∈bH roots,aD m x=true)/\ ∀c∈m.Se++m.Sc,yA N m c=true:=by
 unfold Cj at h;rw [R3] at h
 have h2: ∀c∈m.Se++m.Sc,yA N m c=true:=fun c hc=>qm h.2 hc
 refine ⟨fun a ha x hx=> ?_,fun x hx=>qm h.1 hx,h2⟩
 have h3:=h2 (bq m a) (by
  unfold aD at ha;unfold bq
  cases hc:iv m a with
  |none=>rw [hc] at ha;cases ha
  |some c=>exact rB hc)
 unfold yA at h3;rw [R3,R3] at h3;rcases List.mem_append.1 hx with hx|hx
 ·exact qm h3.2.1 hx
 exact qm h3.2.2 hx
def xQ (met to:List Int)(a:Int):Int:=if a∈met then to.getD (met.idxOf a) 0 else a
theorem G8 {α:Type}{g:α->α}{l:List α}{i:Nat}(h:i<l.length):au ((l.take i).map g++l.drop i) (i:Int)=some l[i]:=by
 have h1:i<((l.take i).map g++l.drop i).length:=by simp;omega
 rw [aK h1]
 congr 1
 rw [List.getElem_append_right (by simp;omega)];simp [Nat.min_eq_left (Nat.le_of_lt h)]
theorem G7 {α:Type}{g:α->α}{l:List α}{i:Nat}(h:i<l.length):((l.take i).map g++l.drop i).set i (g l[i])=(l.take (i+1)).map g++l.drop (i+1):=by
 rw [aM h,List.drop_eq_getElem_cons h,List.map_append];rw [List.set_append,if_neg (by simp;omega)];simp [Nat.min_eq_left (Nat.le_of_lt h)];rw [List.drop_eq_getElem_cons h];rfl
theorem xK {α:Type}{g:α->α}{l:List α}{i:Nat}(h:i<l.length)(he:g l[i]=l[i]):(l.take i).map g++l.drop i=(l.take (i+1)).map g++l.drop (i+1):=by
 rw [aM h,List.drop_eq_getElem_cons h,List.map_append];simp [he]
def NR (kv:List (Int×Int))(met to:List Int)(i:Nat):Prop:= ∀x,lk kv x=if x∈met.take i then some (xQ met to x) else none
theorem zo {l:List Int}(hn:l.Nodup){i:Nat}(h:i<l.length):l.idxOf l[i]=i:=by
 have hm:l[i]∈l:=R5 _;rcases Nat.lt_trichotomy (l.idxOf l[i]) i with h2|h2|h2
 ·exact absurd (o8 hm) (List.pairwise_iff_getElem.1 (List.nodup_iff_pairwise_ne.1 hn) _ _ (sx hm) h h2)
 ·exact h2
 exact absurd (o8 hm).symm (List.pairwise_iff_getElem.1 (List.nodup_iff_pairwise_ne.1 hn) _ _ h (sx hm) h2)
theorem BK {l:List Int}(hn:l.Nodup){i:Nat}(h:i<l.length):l[i]∉l.take i:=fun hm=>by
 obtain ⟨j,hj,e⟩:=List.getElem_of_mem hm;rw [R0] at hj;rw [List.getElem_take] at e;exact absurd e (List.pairwise_iff_getElem.1 (List.nodup_iff_pairwise_ne.1 hn) _ _ V h V)
theorem Al (N:Nat)(hN:6500<N)(c:Rk)(hS:c.Sg.length<=4000)(hM:c.Sd.length<=4000)(met to:List Int)(hn:met.Nodup)(hl:to.length=met.length)(hml:met.length<=1200):fB N c met to=some (ki (xQ met to) met c):=by
 apply Sat.eq
 have mv: ∀(kv:List (Int×Int)),NR kv met to met.length-> ∀v:Ry,(lk kv v.N).isSome=decide (v.N∈met)/\(v.N∈met->ba v=true->(⟨v.Sa,(lk kv v.N).getD 0,v.S⟩:Ry)=cO (xQ met to) met v):=fun kv hk v=>by
  rw [hk v.N,R2];by_cases h:v.N∈met
  ·rw [if_pos h,RM h];refine ⟨J,fun _ hb=> ?_⟩;rw [zp hb h];rfl
  rw [if_neg h,RN h];exact ⟨J,fun h2=>absurd h2 h⟩
 have keep: ∀v:Ry,(v.N∉met\/ba v=false)->cO (xQ met to) met v=v:=fun v h=>by
  unfold cO;rcases h with h|h
  ·rw [RN h,Bool.and_false];rfl
  rw [h];rfl
 have copy:eg N c=some c:=by
  unfold eg cF;rw [rF (by simp only [List.length_nil];omega),rF (by simp only [List.length_nil];omega)];rfl
 have body: ∀kv:List (Int×Int),NR kv met to met.length->Sat (pa N c kv) fun r=>r=ki (xQ met to) met c:=by
  intro kv hk;unfold pa;rw [copy,bs];refine cI (fun k i (s:List Ry)=>fT N c kv k s (i:Int)) c.Sg.length (fun i s=>s=(c.Sg.take i).map (cO (xQ met to) met)++c.Sg.drop i) _ ?_ ?_ N 0 c.Sg V V (by simp)
  ·rintro k i s hi rfl go;show Sat (fT N c kv (k+1) _ (i:Int)) _;obtain ⟨e1,e2⟩:=mv kv hk c.Sg[i];rw [fT.eq_2,cn V,ct,G8 hi,bs,e1,pN];simp only [bs];unfold od;rw [r64 V V,r64 V V];by_cases hm:c.Sg[i].N∈met
   ·rw [RM hm,ct,bs];cases hb:ba c.Sg[i]
    ·rw [cf];exact go _ (xK hi (keep _ (.inr hb)))
    rw [ct,e2 hm hb,Int.toNat_natCast];exact go _ (G7 hi)
   rw [RN hm,cf,bs,cf];exact go _ (xK hi (keep _ (.inl hm)))
  rintro k s rfl;show Sat (fT N c kv (k+1) _ _) _;rw [fT.eq_2,cu V,cf,R2,List.drop_length,List.append_nil];unfold rz;refine cI (fun k i (s:List Ry)=>fS N c kv _ k s (i:Int)) c.Sd.length (fun i s=>s=(c.Sd.take i).map (cO (xQ met to) met)++c.Sd.drop i) _ ?_ ?_ N 0 c.Sd V V (by simp)
  ·rintro k i s hi rfl go;show Sat (fS N c kv _ (k+1) _ (i:Int)) _;obtain ⟨e1,e2⟩:=mv kv hk c.Sd[i];rw [fS.eq_2,cn V,ct,G8 hi,bs,e1,pN];simp only [bs];unfold oc;rw [r64 V V,r64 V V];by_cases hm:c.Sd[i].N∈met
   ·rw [RM hm,ct,bs];cases hb:ba c.Sd[i]
    ·rw [cf];exact go _ (xK hi (keep _ (.inr hb)))
    rw [ct,e2 hm hb,Int.toNat_natCast];exact go _ (G7 hi)
   rw [RN hm,cf,bs,cf];exact go _ (xK hi (keep _ (.inl hm)))
  rintro k s rfl;show Sat (fS N c kv _ (k+1) _ _) _;rw [fS.eq_2,cu V,cf,R2,List.drop_length,List.append_nil];unfold ry rA;exact av J
 unfold fB;refine cI (fun k i (s:List (Int×Int))=>eI N met to c k s (i:Int)) met.length (fun i s=>NR s met to i) _ ?_ ?_ N 0 [] V V (fun x=>J)
 ·rintro k i s hi h1 go;show Sat (eI N met to c (k+1) _ (i:Int)) _
  have hno:lk s met[i]=none:=by rw [h1,if_neg (BK hn hi)]
  have hto:i<to.length:=by omega
  rw [eI.eq_2,cn V,ct,aK hi,bs,hno,Option.isSome_none,cf,cn V,ct,aK hto,bs];unfold lE;rw [r64 V V]
  refine go _ fun x=> ?_
  rw [Fo,Fo,h1 x,aM hi];by_cases e:met[i]=x
  ·subst e;rw [if_pos rfl,if_pos (RR _ (List.mem_singleton.2 rfl))];unfold xQ;rw [if_pos (R5 _),zo hn hi];simp [List.getD,hto]
  rw [if_neg e,if_neg e];by_cases hx:x∈met.take i
  ·rw [if_pos hx,if_pos (RQ _ hx)]
  rw [if_neg hx,if_neg fun h2=>(List.mem_append.1 h2).elim hx fun h2=>e (List.mem_singleton.1 h2).symm]
 rintro k s h1;show Sat (eI N met to c (k+1) _ _) _;rw [eI.eq_2,cu V,cf];exact body s h1
theorem Ac (N:Nat)(hN:6500<N)(l:List Ry)(a1:l.length<=4000)(met to:List Int)(hn:met.Nodup)(hl:to.length=met.length)(hml:met.length<=1200):i7 N l met to=some (l.map (cO (xQ met to) met)):=by
 unfold i7;rw [Al N hN _ (by simp) a1 met to hn hl hml,bs];rfl
def ft (m:Rp)(a:Int):Bool:=decide ((bq m a).Sn=0)
def qS (p:Int->Bool):List Int->Nat->Nat->List Int
 | [],_,_=> []
 |a::l,s,o=>bif p a then (2*(s:Int)+1)::qS p l (s+1) o else (2*(o:Int)+2)::qS p l s (o+1)
theorem Db (p:Int->Bool)(a:Int)(l:List Int)(s o:Nat):qS p (a::l) s o=bif p a then (2*(s:Int)+1)::qS p l (s+1) o else (2*(o:Int)+2)::qS p l s (o+1):=rfl
theorem xZ (p:Int->Bool): ∀(l:List Int) (s o:Nat),(qS p l s o).length=l.length
 | [],_,_=>rfl
 |a::l,s,o=>by unfold qS;cases p a<;>simp [xZ p l]
theorem ya (p:Int->Bool): ∀(l l':List Int) (s o:Nat),qS p (l++l') s o=qS p l s o++qS p l' (s+(l.filter p).length) (o+(l.filter fun a=> !p a).length)
 | [],_,_,_=>by simp [qS]
 | a::l,l',s,o=>by
  rw [List.cons_append,Db,Db];cases h:p a
  ·simp only [cond_false];rw [ya p l l'];simp only [List.filter_cons,h,Bool.not_false,if_true,Bool.false_eq_true,if_false,List.length_cons,List.cons_append];rw [Nat.add_right_comm o 1];rfl
  simp only [cond_true];rw [ya p l l'];simp only [List.filter_cons,h,Bool.not_true,if_true,Bool.false_eq_true,if_false,List.length_cons,List.cons_append];rw [Nat.add_right_comm s 1];rfl
theorem BA (p:Int->Bool){l:List Int}{i:Nat}(h:i<l.length)(s o:Nat):(qS p l s o).getD i 0=bif p l[i] then 2*((s+((l.take i).filter p).length:Nat):Int)+1 else 2*((o+((l.take i).filter fun a=> !p a).length:Nat):Int)+2:=by
 have e:l=l.take i++(l[i]::l.drop (i+1)):=by rw [<-List.drop_eq_getElem_cons h,List.take_append_drop]
 have e2:qS p l s o=qS p (l.take i) s o++qS p (l[i]::l.drop (i+1)) (s+((l.take i).filter p).length) (o+((l.take i).filter fun a=> !p a).length):=by
  rw [<-ya, <-e]
 rw [e2]
 have hl:(qS p (l.take i) s o).length=i:=by rw [xZ,R0];omega
 unfold List.getD;rw [List.getElem?_append_right V,hl,Nat.sub_self];unfold qS;cases p l[i]<;>rfl
theorem Ee (N:Nat)(hN:6500<N){m:Rp}{roots:List Ry}(hs:Small m roots)(kp:List Int){met:List Int}{seen:List (Int×Bool)}(nx:Int)(h:Mt m met seen):fb N ⟨m,kp,met,seen,nx⟩=some (qS (ft m) met 0 m.Sc.length):=by
 have hml:=h.len hs;have ho:=hs.old;apply Sat.eq;unfold fb;refine cI (fun k i (s:List Int×Nat×Nat)=>cj N ⟨m,kp,met,seen,nx⟩ k s.1 (s.2.1:Int) (s.2.2:Int) (i:Int)) met.length (fun i s=>s.1=qS (ft m) (met.take i) 0 m.Sc.length/\s.2.1=((met.take i).filter (ft m)).length/\s.2.2=m.Sc.length+((met.take i).filter fun a=> !ft m a).length) _ ?_ ?_ N 0 ([],0,m.Sc.length) (by show met.length<N+0;omega) V ⟨J,J,J⟩
 ·rintro k i ⟨s,a,b⟩ hi ⟨h1,h2,h3⟩ go;simp only at h1 h2 h3;have l1:((met.take i).filter (ft m)).length<=i:=Nat.le_trans (List.length_filter_le _ _) (by rw [R0];omega);have l2:((met.take i).filter fun a=> !ft m a).length<=i:=Nat.le_trans (List.length_filter_le _ _) (by rw [R0];omega)
  have hsl:s.length=i:=by rw [h1,xZ,R0];omega
  show Sat (cj N ⟨m,kp,met,seen,nx⟩ (k+1) s (a:Int) (b:Int) (i:Int)) _
  have hnext:qS (ft m) (met.take (i+1)) 0 m.Sc.length=s++ [bif ft m met[i] then 2*(a:Int)+1 else 2*(b:Int)+2]:=by
   rw [aM hi,ya, <-h1,Nat.zero_add, <-h2, <-h3];unfold qS;cases ft m met[i]<;>rfl
  have a1:((met.take (i+1)).filter (ft m)).length=a+(bif ft m met[i] then 1 else 0):=by
   rw [aM hi,List.filter_append,RZ, <-h2];cases hb:ft m met[i]<;>simp [hb]
  have a2:((met.take (i+1)).filter fun a=> !ft m a).length+m.Sc.length=b+(bif ft m met[i] then 0 else 1):=by
   rw [aM hi,List.filter_append,RZ,h3];cases hb:ft m met[i]<;>simp [hb]<;>omega
  have hcell:=qY N hs kp met seen nx (h.has _ (R5 hi));rw [cj.eq_2]
  dsimp only
  rw [cn V,ct,aK hi,bs,hcell,bs];unfold fW;have e:decide ((bq m met[i]).Sn=0)=ft m met[i]:=rfl;rw [e,r64 V V,r64 V V,rF (by simp;omega),r64 V V,r64 V V,r64 V V,r64 V V,rF (by simp;omega),r64 V V,r64 V V];cases hb:ft m met[i]
  ·rw [hb] at hnext a1 a2;rw [cf];exact go (s++ [2*(b:Int)+2],a,b+1) ⟨hnext.symm,a1.symm,by show b+1=_;simp only [cond_false] at a2;omega⟩
  rw [hb] at hnext a1 a2;rw [ct];exact go (s++ [2*(a:Int)+1],a+1,b) ⟨hnext.symm,a1.symm,by show b=_;simp only [cond_true] at a2;omega⟩
 rintro k ⟨s,a,b⟩ ⟨h1,h2,h3⟩;simp only [R2] at h1 h2 h3;show Sat (cj N ⟨m,kp,met,seen,nx⟩ (k+1) s (a:Int) (b:Int) _) _;rw [cj.eq_2]
 dsimp only
 rw [cu V,cf];exact av h1
end
end Go.Proofs.YtjmonlcchlkdhaaGreat