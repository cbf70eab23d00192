/- Merged texts: part 12. No conditions of their own. -/
import Derived.Test.YtmimkglhbmcokaaGreatG11
import Derived.IntWalk
namespace Go.Proofs.YtmimkglhbmcokaaGreat
section
open Go.RowKit
theorem K0 (N:Nat)(a b:Int):uq N a b=some (decide (a<b)):=by
 unfold uq sx;rw [bs,oJ rfl,Bool.not_true,cond_false,bs,cond_false,bs]
theorem Mr {a b:Int}(h0:0≤a)(h1:a<b)(h2:b≤100000):IntKind.i64.wrap ((IntKind.u64.wrap (a+b)).fdiv (2 ^ 1))=(a+b) / 2:=by
 rw [IntWalk.u64_in _ ⟨by omega,by omega⟩,Int.fdiv_eq_ediv_of_nonneg _ W,show (2:Int) ^ 1=2 from rfl,IntWalk.i64_in _ ⟨by omega,by omega⟩]
theorem GQ (N:Nat)(hN:5000<N)(l:List Int)(x:Int)(hl:l.length≤1000)(ha:l.Pairwise (· < ·)):Sat (iA N l x) fun r=>r.2=decide (x∈l):=by
 unfold iA;have hg:=List.pairwise_iff_getElem.1 ha;refine ou (fun m (s:Int×Int)=>dK N x l m s.1 s.2) (fun s=>(s.2 - s.1).toNat) (fun s=>0≤s.1∧s.1≤s.2∧s.2≤l.length∧(∀(j:Nat) (hj:j<l.length),(j:Int)<s.1→l[j]<x)∧(∀(j:Nat) (hj:j<l.length),s.2≤(j:Int)→x≤l[j])) _ ?_ N (0,(l.length:Int)) (by show ((l.length:Int) - 0).toNat<N;omega) ⟨by omega,by show (0:Int)≤l.length;omega,by show (l.length:Int)≤l.length;omega,fun j hj h=>by have:(j:Int)<0:=h;omega,fun j hj h=>by have:(l.length:Int)≤j:=h;omega⟩;rintro m ⟨a,b⟩ ⟨h0,h1,h2,h3,h4⟩ k
 dsimp only at h0 h1 h2 h3 h4
 show Sat (dK N x l (m+1) a b) _;rw [dK.eq_2]
 refine dW (fun hab=> ?_) fun hab=> ?_
 ·have hm:((a+b) / 2).toNat<l.length:=by omega
  rw [r64 W W,Mr h0 hab W,Gy W hm,bs,K0,bs]
  refine dW (fun hlt=> ?_) fun hlt=> ?_
  ·rw [r64 W W];refine k ((a+b) / 2+1,b) (by show (b - ((a+b) / 2+1)).toNat<(b - a).toNat;omega) ⟨by show 0≤(a+b) / 2+1;omega,by show (a+b) / 2+1≤b;omega,h2,fun j hj h=> ?_,h4⟩;have h:(j:Int)<(a+b) / 2+1:=h;rcases Nat.lt_or_ge j ((a+b) / 2).toNat with h5|h5
   ·have:=hg j _ hj hm h5;omega
   have e:j=((a+b) / 2).toNat:=by omega
   subst e;exact hlt
  refine k (a,(a+b) / 2) (by show ((a+b) / 2 - a).toNat<(b - a).toNat;omega) ⟨h0,by show a≤(a+b) / 2;omega,by show (a+b) / 2≤l.length;omega,h3,fun j hj h=> ?_⟩;have h:(a+b) / 2≤(j:Int):=h;rcases Nat.lt_or_ge ((a+b) / 2).toNat j with h5|h5
  ·have:=hg _ j hm hj h5;omega
  have e:j=((a+b) / 2).toNat:=by omega
  subst e;omega
 obtain rfl:a=b:=by omega
 unfold kh nN;by_cases hlt:a<l.length
 ·have ht:a.toNat<l.length:=by omega
  rw [cV hlt,cond_true,Gy h0 ht,bs];by_cases he:l[a.toNat]=x
  ·rw [oJ he,cond_true,bs,bs];exact aQ (Eq.symm (SN (he▸List.getElem_mem ht)))
  rw [gG he,cond_false,bs,bs,oJ rfl,Bool.not_true,cond_false,bs,bs,bs];refine aQ (Eq.symm (SO fun hx=> ?_));obtain ⟨j,hj,rfl⟩:=List.mem_iff_getElem.1 hx;rcases Nat.lt_trichotomy j a.toNat with h5|h5|h5
  ·have:=h3 j hj W;omega
  ·subst h5;exact he U
  have h6:=hg _ _ ht hj h5;have:=h4 a.toNat ht W;omega
 rw [cQ W,cond_false,bs];refine aQ (Eq.symm (SO fun hx=> ?_));obtain ⟨j,hj,rfl⟩:=List.mem_iff_getElem.1 hx;have:=h3 j hj W;omega
theorem Mj (m:SB)(l:List Int):se m l=(List.range m.Old.length).all fun i=> !lm m i||decide ((2*(i:Int)+2)∈l):=rfl
theorem KD (n:Nat)(p:Nat→Bool):(List.range n).all p=true↔ ∀i,i<n→p i=true:=by
 rw [List.all_eq_true];exact ⟨fun h i hi=>h i (List.mem_range.2 hi),fun h i hi=>h i (List.mem_range.1 hi)⟩
theorem Ew {N:Nat}(hN:5000<N){m:SB}{roots:List SG}(hs:Small m roots){l:List Int}(ha:l.Pairwise (· < ·))(hf: ∀x∈l, ∃i:Nat,i<m.Old.length∧x=2*(i:Int)+2)(hl:l.length≤1000):nS N m l=some (se m l):=by
 have ho:=hs.old
 have second:ia N m l N 0=some (se m l):=by
  rw [Mj]
  have key: ∀k i:Nat,m.Old.length<k+i→i≤m.Old.length→Sat (ia N m l k (i:Int)) fun b=>b=true↔ ∀j,i≤j→j<m.Old.length→(!lm m j||decide ((2*(j:Int)+2)∈l))=true:=by
   intro k
   induction k with
   |zero=>intro i h1 h2;omega
   | succ k ih=>
    intro i h1 h2;rw [ia.eq_2];by_cases hi:i<m.Old.length
    ·have h3:=ih (i+1) W hi;rw [show (((i+1:Nat)):Int)=(i:Int)+1 by omega] at h3;have hc:=hs.cells _ (SS m.Young (List.getElem_mem hi))
     have e:(cy m.Old[i]).any yB=lm m i:=by unfold lm;rw [pM m i hi]
     obtain ⟨r,e1,e2⟩:=GQ N hN l (2*(i:Int)+2) hl ha;rw [cV W,ct,bf hi,bs,r64 W W,r64 W W,e1,bs,e2,sK N hN _ hc.1 hc.2,e]
     have e3:((bif !decide (2*(i:Int)+2∈l) then (some (lm m i)).bind fun y32=>some y32 else some false):Option Bool)=some (!(!lm m i||decide (2*(i:Int)+2∈l))):=by
      cases decide (2*(i:Int)+2∈l)<;>cases lm m i<;>rfl
     rw [e3,bs]
     cases hb:!lm m i||decide (2*(i:Int)+2∈l) with
     |false=>
      rw [nf,ct];refine aQ ⟨fun h=>(by cases h),fun h=> ?_⟩;have:=h i (Nat.le_refl _) hi;rw [hb] at this;cases this
     |true=>
      rw [nt,cf,r64 W W]
      refine h3.mono fun b h=>h.trans ⟨fun h j h1 h2=> ?_,fun h j h1 h2=>h j W h2⟩
      rcases Nat.lt_or_ge i j with h4|h4
      ·exact h j W h2
      obtain rfl:j=i:=by omega
      exact hb
    rw [cQ W,cf];exact aQ ⟨fun _ j h1 h2=>by omega,fun _=>rfl⟩
  obtain ⟨b,e1,e2⟩:=key N 0 W W;have e1':ia N m l N 0=some b:=e1;rw [e1']
  congr 1
  rw [Bool.eq_iff_iff,e2,KD];exact ⟨fun h i hi=>h i (Nat.zero_le _) hi,fun h i _ hi=>h i hi⟩
 have hg:=List.pairwise_iff_getElem.1 ha;unfold nS
 have key: ∀k i:Nat,l.length<k+i→i≤l.length→mZ N l m k (i:Int)=some (se m l):=by
  intro k
  induction k with
  |zero=>intro i h1 h2;omega
  | succ k ih=>
   intro i h1 h2;rw [mZ.eq_2];by_cases hi:i<l.length
   ·have h3:=ih (i+1) W hi;rw [show (((i+1:Nat)):Int)=(i:Int)+1 by omega] at h3;obtain ⟨j,hj,ej⟩:=hf _ (List.getElem_mem hi)
    have ep:((bif decide (0<(i:Int)) then (bG (in64 ((i:Int) - 1)) ((aM l ((i:Int) - 1)).bind fun x16=>some (decide (l[i]≤x16)))) else (some false)).bind fun b14=>some b14)=some false:=by
     by_cases h0:0<i
     ·have e1:(i:Int) - 1=((i - 1:Nat):Int):=by omega
      have:=hg (i - 1) i W hi W;rw [cV W,ct,r64 W W,e1,bf W,bs,bs,SO W]
     rw [cQ W,cf,bs]
    unfold mf;rw [cV W,ct,bf hi,bs,ep,ej,cV W,ct,qi W,oJ W,bs,bs,nt,cf,r64 (by rw [Int.tdiv_eq_ediv_of_nonneg W];omega) (by rw [Int.tdiv_eq_ediv_of_nonneg W];omega),bs,Int.tdiv_eq_ediv_of_nonneg W,cQ W,cf,bs,cf,r64 W W];exact h3
   rw [cQ W,cf];exact second
 exact key N 0 W W
theorem El (m:SB): ∀l:List SG,l.any (fun v=>br v&& !aZ m v.N)=!dz m (bW l)
 | []=>rfl
 |v::l=>by
  have ih:=El m l;unfold dz bW at ih⊢;rw [List.any_cons,ih,List.filter_cons]
  cases hb:br v with
  |false=>rw [if_neg (by simp)];rfl
  |true=>rw [if_pos rfl,List.map_cons,List.all_cons];cases aZ m v.N<;>rfl
def Gv (g:SK):Int:=bif !dz g.m_ (bW (g.roots_++g.pending_)) then 50 else bif !((g.m_.Young++g.m_.Old).all fun c=>dz g.m_ (cy c)) then 50 else bif se g.m_ (f0 g.set_.at_) then 0 else 6
theorem KZ {N k:Nat}(hN:5000<N){g:SK}(h:HInv k g)(hk:k≤40){c:SD}(hc:c∈g.m_.Young++g.m_.Old):mo N g c=some (!dz g.m_ (cy c)):=by
 have hs:=(h.small hk).cells c hc;have h1:=km c;have h2:=nw c;unfold mo;rw [nr N W c W W,bs,rT N W c W W,bs,BM N _ _ W W,bs,Ai N _ (fun x=> !aZ g.m_ x) _ (by rw [List.length_append];omega) (by rw [List.length_append];omega) (fun x hx=> ?_),bs,CF]
 ·rfl
 obtain ⟨v,hv, -,rfl⟩:=tN (c:=c) hx;unfold mK;rw [wO h N (h.w64 c hc v hv),bs]
theorem BH {N k:Nat}(hN:5000<N){g:SK}(h:HInv k g)(hk:k≤40):jc N g=some (Gv g):=by
 have hs:=h.small hk;have hrl:=hs.roots;have hcnt:=h.cnt;have hrl':=hrl;rw [List.length_append] at hrl'
 have hj: ∀b,gF N g b=some (bif b then 50 else bif se g.m_ (f0 g.set_.at_) then 0 else 6):=fun b=>by
  unfold gF;rw [DT h N hk,bs,Ew hN hs (l:=f0 g.set_.at_) (Ay h.nd) (fun x hx=>h.keys x ((oM _ x).1 hx)) (by have:=h.kslen;omega),bs];cases b<;>cases se g.m_ (f0 g.set_.at_)<;>rfl
 have ha: ∀v∈g.roots_++g.pending_,ku N g v=some (br v&& !aZ g.m_ v.N):=fun v hv=>by
  unfold ku
  have e:((bif decide (v.Kind=7) then (some true) else (some (decide (v.Kind=9)))):Option Bool)=some (br v):=by
   unfold br;cases decide (v.Kind=7)<;>rfl
  rw [e,bs,wO h N (h.r64 v hv),bs];cases br v<;>rfl
 have hcells:dC N (g.m_.Young++g.m_.Old) g=some (!(g.m_.Young++g.m_.Old).all fun c=>dz g.m_ (cy c)):=by
  have key: ∀k i:Nat,(g.m_.Young++g.m_.Old).length<k+i→i≤(g.m_.Young++g.m_.Old).length→Sat (dc N (g.m_.Young++g.m_.Old) g k (i:Int)) fun r=>decide (0≤r)=!((g.m_.Young++g.m_.Old).drop i).all fun c=>dz g.m_ (cy c):=by
   intro k
   induction k with
   |zero=>intro i h1 h2;omega
   | succ k ih=>
    intro i h1 h2
    have hl:(g.m_.Young++g.m_.Old).length≤600:=by rw [List.length_append];omega
    rw [dc.eq_2];by_cases hi:i<(g.m_.Young++g.m_.Old).length
    ·have h3:=ih (i+1) W hi;rw [show (((i+1:Nat)):Int)=(i:Int)+1 by omega] at h3;rw [cV W,ct,bf hi,bs,List.drop_eq_getElem_cons hi,List.all_cons,KZ hN h hk (List.getElem_mem hi),bs,r64 W W];cases dz g.m_ (cy (g.m_.Young++g.m_.Old)[i])
     ·exact aQ (by rw [SN W];rfl)
     exact h3
    rw [cQ W,cf,List.drop_eq_nil_of_le W];exact aQ U
  obtain ⟨r,h1,h2⟩:=key N 0 (by rw [List.length_append];omega) W;have h1':dc N (g.m_.Young++g.m_.Old) g N 0=some r:=h1;unfold dC gr;rw [h1',bs,h2,List.drop_zero]
 unfold jc aW Gv;rw [bs,cf,sw N _ _ W W,bs,Kd N _ _ _ W W ha,bs,El,z8 N _ _ W W,bs,hcells,bs,hj,hj]
 cases dz g.m_ (bW (g.roots_++g.pending_))<;>cases (g.m_.Young++g.m_.Old).all fun c=>dz g.m_ (cy c)<;>rfl
theorem H6 {f:List Int}{a b:List SG}(h1:dh f a)(h2:dh f b):dh f (a++b):=fun v hv hb=>(List.mem_append.1 hv).elim (fun hv=>h1 v hv hb) fun hv=>h2 v hv hb
theorem FN {f:List Int}{a b:List SG}(h:dh f (a++b)):dh f a:=fun v hv hb=>h v (SR _ hv) hb
theorem bytes_inj {s t:ByteArray}(h:s.toList=t.toList):s=t:=by
 rw [ByteArray.toList_eq,ByteArray.toList_eq] at h;cases s;cases t;simp only [ByteArray.mk.injEq] at h⊢;exact Array.toList_inj.1 h
def nj (S:List Int)(c:SD):List SG:=bif decide (c.Kind=8) then cleanL (fun x=>decide (x∈S)) c.More else c.More
theorem wi {S A:List Int}(h: ∀x∈A,x∈S): ∀{l:List SG},jt l=true→cleanL (fun x=>decide (x∈A)) (cleanL (fun x=>decide (x∈S)) l)=cleanL (fun x=>decide (x∈A)) l
 | [],_=>rfl
 | [_],h=>by cases h
 | k::v::r,he=>by
  rw [ft] at he;rw [Bool.and_eq_true] at he;have ih:=wi h he.2;rw [eT,eT];by_cases h1:k.N∈S
  ·rw [SN h1,cond_true];show cleanL _ (k::v::cleanL (fun x=>decide (x∈S)) r)=_;rw [eT,ih]
  rw [SO h1,cond_false,List.nil_append,ih,SO (p:=k.N∈A) fun hh=>h1 (h _ hh)];rfl
theorem vJ {S row:List Int}(h: ∀x∈row,x∈S): ∀{l:List SG},jt l=true→opens (fun x=>decide (x∈row)) (cleanL (fun x=>decide (x∈S)) l)=opens (fun x=>decide (x∈row)) l
 | [],_=>rfl
 | [_],h=>by cases h
 | k::v::r,he=>by
  rw [ft] at he;rw [Bool.and_eq_true] at he;have ih:=vJ h he.2;rw [eT,fI];by_cases h1:k.N∈S
  ·rw [SN h1,cond_true];show opens _ (k::v::cleanL (fun x=>decide (x∈S)) r)=_;rw [fI,ih]
  rw [SO h1,cond_false,List.nil_append,ih,SO (p:=k.N∈row) fun hh=>h1 (h _ hh),Bool.and_false];rfl
theorem AL (l:List SG): ∀i:Nat,pick (fun _ v=>br v) i l=bW l:=by
 induction l with
 |nil=>intro i;rfl
 |cons v l ih=>
  intro i;rw [gm,ih];unfold bW;rw [List.filter_cons];cases br v
  ·rfl
  rfl
theorem KJ {k:Int}(h8:k≠8)(h10:k≠10)(l:List SG)(i:Nat):pick (fun i v=> !jV k i&&br v) i l=bW l:=by
 rw [←AL l i]
 congr 1
 funext j v;rw [CL h8 h10];rfl
theorem qF {c:SD}(h:c.Kind=8∨c.Kind=11):bD c=bW c.Slots++(bif decide (c.Kind=8) then [] else bW c.More):=by
 rcases h with h|h
 ·rw [Gm h,AL,SN h,cond_true,List.append_nil]
 unfold bD;rw [AL,KJ W W,SO W];rfl
structure IsoC (ρ:Int→Int) (S:List Int) (c d:SD):Prop where
 kind:d.Kind=c.Kind
 shape:d.Shape=c.Shape
 flags:d.Flags=c.Flags
 slots:d.Slots=c.Slots.map (bu ρ S)
 more:nj (S.map ρ) d=(nj S c).map (bu ρ S)
 inS:dh S c.Slots
 inM:dh S (nj S c)
structure TVal (m:SB) (R:List SG):Prop where
 right: ∀c∈m.Young++m.Old,cA c=true
 kind: ∀c∈m.Young++m.Old,c.Kind=8∨c.Kind=11
 addr: ∀c∈m.Young++m.Old, ∀x∈cy c,aZ m x=true
 size: ∀c∈m.Young++m.Old,c.Slots.length≤20∧c.More.length≤20
 roots: ∀v∈R,v=ld∨(v.Kind=9∧v.S=⟨#[]⟩∧aZ m v.N=true)
structure Iso (mA mB:SB) (RA RB:List SG) (S:List Int) (ρ:Int→Int):Prop where
 ren:Ren ρ S
 inA: ∀a∈S,aZ mA a=true
 inB: ∀a∈S,aZ mB (ρ a)=true
 cell: ∀a∈S,IsoC ρ S (be mA a) (be mB (ρ a))
 rootIn:dh S RA
 roots:RB=RA.map (bu ρ S)
theorem wq (N:Nat)(hN:2000<N){m:SB}{R:List SG}(h:TVal m R):dg N m=m:=by
 have hc: ∀c∈m.Young++m.Old,cg N c=c:=fun c hc=>by
  have h1:=h.size c hc;unfold cg;rw [ns hN (h.right c hc) W W,SO (by rcases h.kind c hc with h|h<;>omega)];rfl
 have hl: ∀l:List SD,(∀c∈l,c∈m.Young++m.Old)→l.map (cg N)=l:=fun l hl=>by
  have:l.map (cg N)=l.map id:=List.map_congr_left fun c hx=>hc c (hl c hx)
  rw [this,List.map_id]
 unfold dg;rw [hl _ fun c hc=>SR _ hc,hl _ fun c hc=>SS _ hc]
section
variable {m:SB} {R:List SG} (h:TVal m R)
include h
theorem TVal.at_ {a:Int}(ha:aZ m a=true):cA (be m a)=true∧((be m a).Kind=8∨(be m a).Kind=11)∧(∀x∈cy (be m a),aZ m x=true)∧(be m a).Slots.length≤20∧(be m a).More.length≤20:=
 ⟨h.right _ (pn ha),h.kind _ (pn ha),h.addr _ (pn ha),h.size _ (pn ha)⟩
theorem TVal.wm {N:Nat}(hN:2000<N){a:Int}(ha:aZ m a=true):ko N (be m a)=decide ((be m a).Kind=8):=by
 obtain ⟨h1, -, -,h4,h5⟩:=h.at_ ha;exact oW hN h1 W W
theorem TVal.ent {a:Int}(ha:aZ m a=true)(h8:(be m a).Kind=8):jt (be m a).More=true:=by
 have:=(pw (h.at_ ha).1).2.2;rw [h8] at this;exact this
theorem TVal.rootH {x:Int}(hx:x∈bW R):aZ m x=true:=by
 obtain ⟨v,hv,hb,rfl⟩:=eo.1 hx;rcases h.roots v hv with rfl|⟨-, -,h⟩
 ·cases hb
 exact h
theorem TVal.clean {N:Nat}(hN:2000<N)(S:List Int){a:Int}(ha:aZ m a=true):cM N S (be m a)=⟨(be m a).Kind,(be m a).Shape,(be m a).Flags,(be m a).Age,(be m a).Slots,nj S (be m a)⟩:=by
 unfold cM nj;rw [h.wm hN ha];cases decide ((be m a).Kind=8)<;>rfl
end
section
variable {mA mB:SB} {RA RB:List SG} {S:List Int} {ρ:Int→Int} (h:Iso mA mB RA RB S ρ) (vA:TVal mA RA) (vB:TVal mB RB)
include h vA vB
theorem Iso.visA {A:List Int}(hA: ∀x∈A,x∈S){a:Int}(ha:a∈S):nj (A.map ρ) (be mB (ρ a))=(nj A (be mA a)).map (bu ρ S)∧dh S (nj A (be mA a)):=by
 obtain ⟨k1, -, -, -,k2, -,k3⟩:=h.cell a ha;have a1:=h.inA a ha;have b1:=h.inB a ha
 have hAρ: ∀x∈A.map ρ,x∈S.map ρ:=fun x hx=>by
  obtain ⟨y,hy,rfl⟩:=List.mem_map.1 hx;exact List.mem_map.2 ⟨y,hA y hy,U⟩
 unfold nj at k2 k3⊢;rw [k1] at k2⊢;by_cases h8:(be mA a).Kind=8
 ·have eA:=vA.ent a1 h8;have eB:=vB.ent b1 (k1.trans h8);rw [SN h8] at k2 k3⊢;simp only [cond_true] at k2 k3⊢;refine ⟨?_,fun v hv hb=>k3 v ?_ hb⟩
  ·rw [←wi hAρ eB,k2,Bh h.ren hA (fun x=>Iff.rfl) eA]
  rw [←wi hA eA] at hv
  have sub: ∀{p:Int→Bool} {l:List SG} {v:SG},v∈cleanL p l→v∈l:=fun {p}=>by
   intro l
   induction l using cleanL.induct with
   | case1 k v r ih=>
    intro w hw;rw [eT] at hw;rcases List.mem_append.1 hw with hw|hw
    ·cases hp:p k.N with
     |false=>rw [hp] at hw;cases hw
     |true=>rw [hp] at hw;simp at hw;rcases hw with rfl|rfl<;>simp
    have:=ih hw;simp [this]
   |case2 l hl=>
    intro w hw
    match l,hl,hw with
    | [],_,hw=>cases hw
    | [_],_,hw=>cases hw
    |k::v::r,hl,_=>exact absurd rfl (hl k v r)
  exact sub hv
 rw [SO h8] at k2 k3⊢;exact ⟨k2,k3⟩
theorem Iso.graph (N:Nat)(hN:2000<N):MapG (Am N mA) (Am N mB) ρ (· ∈S):=by
 refine ⟨fun a b ha hb e=>h.ren.inj a b ha hb e,fun a ha=>⟨h.inA a ha,h.inB a ha⟩,fun a ha=> ?_,fun row a hr ha=> ?_⟩
 ·obtain ⟨k1, -, -,ks,k2,i1,i2⟩:=h.cell a ha;have kA:=(vA.at_ (h.inA a ha)).2.1;show bD (be mB (ρ a))=(bD (be mA a)).map ρ∧ ∀x∈bD (be mA a),x∈S;rw [qF kA,qF (by rw [k1];exact kA),k1,ks,qH i1];unfold nj at k2 i2;rw [k1] at k2
  have hi1: ∀x∈bW (be mA a).Slots,x∈S:=fun x hx=>by obtain ⟨v,hv,hb,rfl⟩:=eo.1 hx;exact i1 v hv hb
  by_cases h8:(be mA a).Kind=8
  ·rw [SN h8];simp only [cond_true,List.append_nil];exact ⟨trivial,hi1⟩
  rw [SO h8] at k2 i2⊢;simp only [cond_false] at k2 i2⊢;rw [k2,qH i2,List.map_append];refine ⟨U,fun x hx=> ?_⟩;rcases List.mem_append.1 hx with hx|hx
  ·exact hi1 x hx
  obtain ⟨v,hv,hb,rfl⟩:=eo.1 hx;exact i2 v hv hb
 obtain ⟨k1, -, -, -,k2, -,i2⟩:=h.cell a ha;have a1:=h.inA a ha;have b1:=h.inB a ha;show bS N (be mB (ρ a)) (row.map ρ)=(bS N (be mA a) row).map ρ∧ ∀x∈bS N (be mA a) row,x∈S;unfold bS;rw [vA.wm hN a1,vB.wm hN b1,k1];unfold nj at k2 i2;rw [k1] at k2;by_cases h8:(be mA a).Kind=8
 ·have eA:=vA.ent a1 h8;have eB:=vB.ent b1 (k1.trans h8);rw [SN h8] at k2 i2⊢;simp only [cond_true] at k2 i2⊢
  have hin: ∀x∈opens (fun x=>decide (x∈row)) (be mA a).More,x∈S:=fun x hx=>by
   rw [←vJ hr eA] at hx;obtain ⟨v,hv,hb,rfl⟩:=oS hx;exact i2 v hv hb
  refine ⟨?_,hin⟩;rw [←vJ (S:=S.map ρ) (row:=row.map ρ) (fun x hx=>by obtain ⟨y,hy,rfl⟩:=List.mem_map.1 hx;exact List.mem_map.2 ⟨y,hr y hy,rfl⟩) eB,k2];exact AN h.ren hr (fun x=>Iff.rfl) eA hin
 rw [SO h8];exact ⟨U,fun x hx=>by cases hx⟩
theorem Iso.alike {N:Nat}(hN:5000<N)(sA:Small mA RA)(sB:Small mB RB)(wA:W64 mA)(wB:W64 mB)(xA: ∀v∈RA,in64 v.N)(xB: ∀v∈RB,in64 v.N):dE N mA RA mB RB=some true:=by
 obtain ⟨LA,LB,s1,s2,oA,oB,p1⟩:=kW N hN sA sB wA wB xA xB;have bA:=wq N W vA;have bB:=wq N W vB;rw [bA] at oA p1;rw [bB] at oB p1;obtain ⟨b1,L1,i1, -, -, -,e1⟩:=iJ N hN sA wA xA;obtain ⟨b2,L2,i2, -, -, -,e2⟩:=iJ N hN sB wB xB;rw [e1] at oA;rw [e2] at oB;obtain rfl:=Option.some.inj oA;obtain rfl:=Option.some.inj oB
 obtain ⟨i3,hL1⟩:=(h.graph vA vB N W).isOrder i1 fun x hx=>by obtain ⟨v,hv,hb,rfl⟩:=eo.1 hx;exact h.rootIn v hv hb
 rw [h.roots,qH h.rootIn] at i2;obtain ⟨-,eL⟩:=i2.det i3;subst eL
 have key:lc N mA RA L1 mB RB (L1.map ρ)=true:=by
  unfold lc;rw [h.roots,SN (by simp),mx h.ren hL1 h.inA h.inB h.rootIn,pq,Bool.true_and,Bool.true_and,List.all_eq_true];intro a ha;have haS:=hL1 a ha;obtain ⟨k1,k2,k3,ks, -,i1, -⟩:=h.cell a haS;obtain ⟨q1,q2⟩:=h.visA vA vB hL1 haS;simp only;rw [vA.clean W L1 (h.inA a haS),vB.clean W (L1.map ρ) (h.inB a haS)];unfold rC;simp only;rw [k1,k2,k3,ks,q1,mx h.ren hL1 h.inA h.inB i1,mx h.ren hL1 h.inA h.inB q2];simp only [decide_true,Bool.and_self]
 rw [p1,key]
end
theorem OA {ha hb:Int→Bool}{A B:List Int}(hlen:A.length=B.length){v w:SG}(hv:br v=true→v.N∈A)(h:xo ha hb A B v w=true):w=bu (fun a=>B.getD (A.idxOf a) 0) A v:=by
 unfold xo at h
 cases h1:br v with
 |false=>
  rw [h1] at h;rw [Cs h1];exact (of_decide_eq_true h).symm
 | true=>
  rw [h1] at h;have hm:=hv h1;rw [kk h1 hm]
  cases h2:br w with
  |false=>
   rw [h2] at h;have:v=w:=of_decide_eq_true h;rw [this,h2] at h1;cases h1
  | true=>
   rw [h2] at h;simp only [Bool.not_true,Bool.or_self,cond_false,Bool.and_eq_true,decide_eq_true_eq,beq_iff_eq] at h;obtain ⟨⟨k1,k2⟩,k3⟩:=h;have k2:=bytes_inj k2;rw [SN hm] at k3;by_cases hw:w.N∈B
   ·rw [SN hw] at k3;have k3:A.idxOf v.N=B.idxOf w.N:=of_decide_eq_true k3
    have e:w.N=B.getD (A.idxOf v.N) 0:=by
     rw [k3,List.getD_eq_getElem?_getD,zF hw];rfl
    cases w;simp only at k1 k2 e⊢;rw [k1,k2,e]
   rw [SO hw] at k3;simp at k3
theorem D5 {ha hb:Int→Bool}{A B:List Int}(hlen:A.length=B.length){x y:List SG}(hx:dh A x)(h:oz ha hb A B x y=true):y=x.map (bu (fun a=>B.getD (A.idxOf a) 0) A):=by
 unfold oz at h;rw [Bool.and_eq_true,decide_eq_true_eq] at h;obtain ⟨h1,h2⟩:=h
 induction x generalizing y with
 |nil=>cases y with
  |nil=>rfl
  |cons _ _=>simp at h1
 | cons v x ih=>cases y with
  |nil=>simp at h1
  |cons w y=>
   rw [List.zip_cons_cons,List.all_cons,Bool.and_eq_true] at h2;rw [List.map_cons,OA hlen (w:=w) (hx v (by simp)) h2.1,ih (fun u hu hb=>hx u (by simp [hu]) hb) (by simpa using h1) h2.2]
theorem HW {N:Nat}{S:List Int}{c:SD}(h8:ko N c=true)(ho: ∀x∈bS N c S,x∈S):dh S (cleanL (fun x=>decide (x∈S)) c.More):=by
 unfold bS at ho;rw [h8,cond_true] at ho
 revert ho
 generalize c.More=l
 induction l using cleanL.induct with
 | case1 k v r ih=>
  intro ho w hw hb;rw [eT] at hw;rw [fI] at ho;rcases List.mem_append.1 hw with hw|hw
  ·by_cases hk:k.N∈S
   ·rw [SN hk,cond_true] at hw;simp at hw;rcases hw with rfl|rfl
    ·exact hk
    refine ho _ (SR _ ?_);rw [hb,SN hk];exact List.mem_singleton.2 U
   rw [SO hk] at hw;cases hw
  exact ih (fun x hx=>ho x (SS _ hx)) w hw hb
 |case2 l hl=>
  intro ho w hw hb
  match l,hl,hw with
  | [],_,hw=>cases hw
  | [_],_,hw=>cases hw
  |k::v::r,hl,_=>exact absurd rfl (hl k v r)
theorem FM {N:Nat}(hN:5000<N){mA mB:SB}{RA RB:List SG}(vA:TVal mA RA)(vB:TVal mB RB)(sA:Small mA RA)(sB:Small mB RB)(wA:W64 mA)(wB:W64 mB)(xA: ∀v∈RA,in64 v.N)(xB: ∀v∈RB,in64 v.N)(h:dE N mA RA mB RB=some true):
  ∃LA LB ρ,Iso mA mB RA RB LA ρ∧LB=LA.map ρ∧cw N mA RA=some LA∧cw N mB RB=some LB:=by
 obtain ⟨LA,LB,s1,s2,oA,oB,p1⟩:=kW N hN sA sB wA wB xA xB;have bA:=wq N W vA;have bB:=wq N W vB;rw [bA] at oA p1 s1;rw [bB] at oB p1 s2;obtain ⟨b1,L1,i1, -, -, -,e1⟩:=iJ N hN sA wA xA;rw [e1] at oA;obtain rfl:=Option.some.inj oA;rw [h] at p1;have hs:=(Option.some.inj p1).symm;unfold lc at hs;rw [Bool.and_eq_true,Bool.and_eq_true,decide_eq_true_eq] at hs;obtain ⟨⟨hlen,hroots⟩,hcells⟩:=hs;obtain ⟨c1,c2⟩:=i1.closed
 have hLB:LB=L1.map (fun a=>LB.getD (L1.idxOf a) 0):=by
  refine List.ext_getElem (by simp [hlen]) fun i g1 g2=> ?_
  rw [List.getElem_map]
  have hi:i<L1.length:=by simpa using g2
  have e:L1.idxOf L1[i]=i:=by
   have hm:L1[i]∈L1:=List.getElem_mem _;rcases Nat.lt_trichotomy (L1.idxOf L1[i]) i with h2|h2|h2
   ·exact absurd (lr hm) (List.pairwise_iff_getElem.1 (List.nodup_iff_pairwise_ne.1 s1.nd) _ _ (oX hm) hi h2)
   ·exact h2
   exact absurd (lr hm).symm (List.pairwise_iff_getElem.1 (List.nodup_iff_pairwise_ne.1 s1.nd) _ _ hi (oX hm) h2)
  rw [e,List.getD_eq_getElem?_getD,List.getElem?_eq_getElem g1];rfl
 have get: ∀a∈L1,L1.idxOf a<LB.length∧LB.getD (L1.idxOf a) 0=LB[L1.idxOf a]?.getD 0:=fun a ha=>⟨by rw [←hlen];exact oX ha,List.getD_eq_getElem?_getD ..⟩
 have mem: ∀a∈L1,LB.getD (L1.idxOf a) 0∈LB:=fun a ha=>by
  obtain ⟨g1,g2⟩:=get a ha;rw [g2,List.getElem?_eq_getElem g1];exact List.getElem_mem _
 have inS: ∀a∈L1,dh L1 (be mA a).Slots:=fun a ha v hv hb=>by
  have hh:=i1.has.2 a ha;have k:=(vA.at_ hh).2.1
  have hx:v.N∈bD (be mA a):=by rw [qF k];exact SR _ (eo.2 ⟨v,hv,hb,U⟩)
  exact c1 a ha _ hx ((vA.at_ hh).2.2.1 _ (SR _ hx))
 have inM: ∀a∈L1,dh L1 (nj L1 (be mA a)):=fun a ha v hv hb=>by
  have hh:=i1.has.2 a ha;have k:=(vA.at_ hh).2.1;unfold nj at hv;by_cases h8:(be mA a).Kind=8
  ·rw [SN h8,cond_true] at hv;have wm:=vA.wm (N:=N) W hh;rw [SN h8] at wm;refine HW wm (fun x hx=>c2 a ha x hx ?_) v hv hb;unfold bS at hx;rw [wm,cond_true] at hx;obtain ⟨u,hu,hub,rfl⟩:=oS hx;exact (vA.at_ hh).2.2.1 _ (qx (SS _ hu) hub)
  rw [SO h8,cond_false] at hv
  have hx:v.N∈bD (be mA a):=by
   rw [qF k,SO h8];exact SS _ (eo.2 ⟨v,hv,hb,U⟩)
  exact c1 a ha _ hx ((vA.at_ hh).2.2.1 _ (SR _ hx))
 have rootIn:dh L1 RA:=fun v hv hb=>by
  have hx:v.N∈bW RA:=eo.2 ⟨v,hv,hb,rfl⟩;exact i1.sub (i1.roots hx (vA.rootH hx))
 refine ⟨L1,LB,fun a=>LB.getD (L1.idxOf a) 0,⟨⟨fun a b ha hb e=> ?_,fun a ha=> ?_⟩,i1.has.2,fun a ha=>s2.has _ (mem a ha),fun a ha=> ?_,rootIn,D5 hlen rootIn hroots⟩,hLB,e1,oB⟩
 ·obtain ⟨g1,g2⟩:=get a ha;obtain ⟨g3,g4⟩:=get b hb;have e:LB.getD (L1.idxOf a) 0=LB.getD (L1.idxOf b) 0:=e;rw [g2,g4,List.getElem?_eq_getElem g1,List.getElem?_eq_getElem g3] at e;have e:LB[L1.idxOf a]=LB[L1.idxOf b]:=e
  have ei:L1.idxOf a=L1.idxOf b:=by
   rcases Nat.lt_trichotomy (L1.idxOf a) (L1.idxOf b) with h2|h2|h2
   ·exact absurd e (List.pairwise_iff_getElem.1 (List.nodup_iff_pairwise_ne.1 s2.nd) _ _ g1 g3 h2)
   ·exact h2
   exact absurd e.symm (List.pairwise_iff_getElem.1 (List.nodup_iff_pairwise_ne.1 s2.nd) _ _ g3 g1 h2)
  rw [←lr ha, ←lr hb];simp only [ei]
 ·rcases gp (s2.has _ (mem a ha)) with ⟨i, -,e⟩|⟨i, -,e⟩
  ·show 1≤LB.getD (L1.idxOf a) 0;omega
  show 1≤LB.getD (L1.idxOf a) 0;omega
 obtain ⟨g1,g2⟩:=get a ha
 have hz:(L1.zip LB)[L1.idxOf a]? =some (a,LB.getD (L1.idxOf a) 0):=by
  rw [List.getElem?_zip_eq_some];exact ⟨zF ha,by rw [g2,List.getElem?_eq_getElem g1];rfl⟩
 have hc:=po hcells (List.mem_of_getElem? hz);simp only at hc;rw [vA.clean W L1 (i1.has.2 a ha),vB.clean W LB (s2.has _ (mem a ha))] at hc;unfold rC at hc;simp only [Bool.and_eq_true,decide_eq_true_eq] at hc;obtain ⟨⟨⟨⟨k1,k2⟩,k3⟩,k4⟩,k5⟩:=hc;refine ⟨k1.symm,k2.symm,k3.symm,D5 hlen (inS a ha) k4,?_,inS a ha,inM a ha⟩;rw [←hLB];exact D5 hlen (inM a ha) k5
end
section
open Go.RowKit
structure TInv (k:Nat) (g:SK):Prop where
 inv:HInv k g
 val:TVal g.m_ g.roots_
 pend:g.pending_=[]
 set:f0 g.set_.at_=lS g.m_
def bR (l:List SG)(i:Int):SG:=bif decide ((l.length:Int)=0)||decide (i<0) then vZ else l.getD (i.tmod l.length).toNat vZ
theorem Jg {i:Int}{n:Nat}(h:0≤i)(hn:0<n):0≤i.tmod n∧i.tmod n<n:=by
 rw [Int.tmod_eq_emod_of_nonneg h];exact ⟨Int.emod_nonneg _ W,Int.emod_lt_of_pos _ W⟩
theorem Jk {g:SK}{i:Int}(h:0≤i)(hn:0<g.roots_.length):th g (i.tmod g.roots_.length)=true:=by
 obtain ⟨h1,h2⟩:=Jg h hn;unfold th;rw [SN h1,SN h2];rfl
theorem CS (N:Nat){g:SK}(hl:g.roots_.length≤600)(i:Int):gB N g i=some (bR g.roots_ i):=by
 unfold gB bR;rw [si N g hl,bs];by_cases h0:(g.roots_.length:Int)=0
 ·rw [SN h0];rfl
 rw [SO h0,cf,bs,Bool.false_or];by_cases h1:i<0
 ·rw [SN h1];rfl
 rw [SO h1,cf,cf,kD h0,KB,bs,Jk W W,ct]
theorem AD {l:List SG}{i:Int}:bR l i=vZ∨bR l i∈l:=by
 unfold bR
 cases h:decide ((l.length:Int)=0)||decide (i<0) with
 |true=>exact .inl rfl
 |false=>
  rw [Bool.or_eq_false_iff,decide_eq_false_iff_not,decide_eq_false_iff_not] at h;obtain ⟨h1,h2⟩:=Jg (i:=i) (n:=l.length) W W;refine .inr ?_;rw [cond_false,List.getD_eq_getElem?_getD,List.getElem?_eq_getElem W];exact List.getElem_mem _
def Rt (m:SB)(v:SG):Prop:=v=ld∨(v.Kind=9∧v.S=⟨#[]⟩∧aZ m v.N=true)
theorem Gw {m:SB}{a:Int}(h:aZ m a=true):1≤a:=by
 rcases gp h with ⟨i, -,rfl⟩|⟨i, -,rfl⟩<;>omega
theorem Rt.may {m:SB}{v:SG}(h:Rt m v):mW v=true:=by
 rcases h with rfl|⟨h1,h2,h3⟩
 ·kernel_rfl
 have hb:br v=true:=by unfold br;rw [h1];rfl
 have:=Gw h3;rw [Cu hb,h2,SN this,beq_self_eq_true];rfl
theorem Rt.addr {m:SB}{v:SG}(h:Rt m v)(hb:br v=true):aZ m v.N=true:=by
 rcases h with rfl|⟨-, -,h3⟩
 ·cases hb
 exact h3
theorem Rt.nohole {m:SB}{v:SG}(h:Rt m v):v.Kind≠8:=by
 rcases h with rfl|⟨h1, -, -⟩
 ·show (0:Int)≠8;omega
 omega
def Ag (a b:SG):SD:=⟨11,0,0,0,[],[a,b]⟩
def tW (a b:SG):SD:=⟨8,0,1,0,[⟨1,0,⟨#[]⟩⟩],[⟨7,a.N,⟨#[]⟩⟩,b]⟩
def iZ (c:SD)(b:SG):SD:=⟨c.Kind,c.Shape,c.Flags,c.Age,c.Slots,c.More++ [b]⟩
theorem Lr {a b:SG}(ha:mW a=true)(hb:mW b=true):cA (Ag a b)=true:=by
 show ((true&&([]:List SG).all mW)&&_)=true;unfold Ag;simp only [List.all_nil,List.all_cons,ha,hb,Bool.and_true,Bool.true_and];rfl
theorem Ie {a b:SG}(ha:1≤a.N)(hb:mW b=true)(h8:b.Kind≠8):cA (tW a b)=true:=by
 have h1:mW ⟨7,a.N,⟨#[]⟩⟩=true:=by
  rw [Cu (v:=⟨7,a.N,⟨#[]⟩⟩) rfl,SN ha,beq_self_eq_true];rfl
 have h2:mW ⟨1,0,⟨#[]⟩⟩=true:=by kernel_rfl
 have h3:qm 8 [⟨7,a.N,⟨#[]⟩⟩,b]=true:=by
  show jt [⟨7,a.N,⟨#[]⟩⟩,b]=true;rw [ft,SO h8];rfl
 unfold tW cA;simp only [List.all_nil,List.all_cons,h1,h2,hb,h3,Bool.and_true];rfl
theorem IG {c:SD}(h:cA c=true)(h11:c.Kind=11){b:SG}(hb:mW b=true):cA (iZ c b)=true:=by
 have h1:=pw h;refine xW h ?_ ?_
 ·rw [List.all_append,h1.2.1,List.all_cons,hb];rfl
 rw [h11];rfl
def o6 (g:SK)(c:SD):SK:=⟨⟨g.m_.Young++ [c],g.m_.Old⟩,g.roots_++ [⟨9,2*(g.m_.Young.length:Int)+1,⟨#[]⟩⟩],g.pending_,g.set_⟩
def qo (g:SK)(a:SG):Bool:=aZ g.m_ a.N&&decide (a.Kind=9)&&decide ((be g.m_ a.N).Kind=11)&&decide (((be g.m_ a.N).More.length:Int)<6)
def kx (g:SK)(x:Sy):SK:=
 bif decide (x.Kind=1) then bif qo g (bR g.roots_ x.I) then pB g (bR g.roots_ x.I).N (iZ (be g.m_ (bR g.roots_ x.I).N) (bR g.roots_ x.J)) else g
 else bif decide (x.Kind=2) then bif decide (0<(g.roots_.length:Int))&&decide (0≤x.I) then ⟨g.m_,g.roots_.set (x.I.tmod g.roots_.length).toNat vZ,g.pending_,g.set_⟩ else g
 else bif decide (x.Kind=3) then bif decide ((bR g.roots_ x.I).Kind=9) then o6 g (tW (bR g.roots_ x.I) (bR g.roots_ x.J)) else g
 else o6 g (Ag (bR g.roots_ x.I) (bR g.roots_ x.J))
theorem KH (N:Nat){g:SK}(hl:g.roots_.length≤1000)(v:SG):ig N g v=some ((g.roots_.length:Int),⟨g.m_,g.roots_++ [v],g.pending_,g.set_⟩):=by
 have e:((g.roots_++ [v]).length:Int) - 1=(g.roots_.length:Int):=by simp
 unfold ig aW;rw [bs,cf,rF (by simp only [List.length_cons,List.length_nil];omega),e,r64 W W]
theorem Ek {m:SB}(c:SD):(∀x,aZ m x=true→aZ ⟨m.Young++ [c],m.Old⟩ x=true∧be ⟨m.Young++ [c],m.Old⟩ x=be m x)∧aZ ⟨m.Young++ [c],m.Old⟩ (2*(m.Young.length:Int)+1)=true∧be ⟨m.Young++ [c],m.Old⟩ (2*(m.Young.length:Int)+1)=c∧aZ m (2*(m.Young.length:Int)+1)=false:=by
 refine ⟨fun x hx=> ?_,?_,?_,?_⟩
 ·rcases gp hx with ⟨i,hi,rfl⟩|⟨i,hi,rfl⟩
  ·have h2:i<(m.Young++ [c]).length:=by simp;omega
   exact ⟨by rw [yg];exact SN h2,by rw [uP ⟨m.Young++ [c],m.Old⟩ i h2,uP m i hi];exact List.getElem_append_left hi⟩
  exact ⟨by rw [qb];exact SN hi,by rw [pM ⟨m.Young++ [c],m.Old⟩ i hi,pM m i hi]⟩
 ·rw [yg];exact SN (by simp)
 ·rw [uP ⟨m.Young++ [c],m.Old⟩ m.Young.length (by simp)];simp
 rw [yg];exact SO W
theorem IK {m m':SB}(h1:m'.Old.length=m.Old.length)(h2: ∀i,i<m.Old.length→lm m' i=lm m i):lS m'=lS m:=by
 unfold lS;rw [h1]
 congr 1
 exact List.filter_congr fun i hi=>h2 i (List.mem_range.1 hi)
theorem FL {N k:Nat}(hN:5000<N){g:SK}(h:TInv k g)(hk:k<40){c:SD}(hr:cA c=true)(hkd:c.Kind=8∨c.Kind=11)(h0:c.Age=0)(hS:c.Slots.length≤20)(hM:c.More.length≤2)(h64: ∀v∈c.Slots++c.More,in64 v.N)(ha: ∀x∈cy c,aZ g.m_ x=true):
  ((ii N g c).bind fun y67=>(ig N y67.2.2 (⟨9,y67.1,⟨#[]⟩⟩:SG)).bind fun y74=>some y74.2)=some (o6 g c)∧TInv (k+1) (o6 g c):=by
 have hc:=h.inv.cnt;have hsum:=h.inv.sum;have hrl:=(h.inv.small W).roots;rw [List.length_append] at hrl hsum;obtain ⟨e1, -⟩:=Oj hN h.inv hk (c:=c) ⟨hS,by omega⟩ h64
 have ec:(⟨c.Kind,c.Shape,c.Flags,0,c.Slots,c.More⟩:SD)=c:=by rw [←h0]
 rw [hr,ct,ec] at e1;obtain ⟨a1,a2,a3,a4⟩:=Ek (m:=g.m_) c
 have rtH: ∀v,Rt g.m_ v→Rt ⟨g.m_.Young++ [c],g.m_.Old⟩ v:=fun v hv=>hv.imp id fun ⟨q1,q2,q3⟩=>⟨q1,q2,(a1 _ q3).1⟩
 have hmem: ∀d∈(g.m_.Young++ [c])++g.m_.Old,d∈g.m_.Young++g.m_.Old∨d=c:=fun d hd=>by
  simp only [List.mem_append,List.mem_cons,List.not_mem_nil,or_false] at hd⊢;rcases hd with (hd|hd)|hd
  ·exact .inl (.inl hd)
  ·exact .inr hd
  exact .inl (.inr hd)
 refine ⟨by rw [e1,bs,KH N (by show g.roots_.length≤1000;omega),bs];rfl,⟨?_,fun d hd=> ?_,?_,fun d hd=> ?_,fun v hv=> ?_,h.inv.nd,h.inv.keys⟩,⟨fun d hd=> ?_,fun d hd=> ?_,fun d hd x hx=> ?_,fun d hd=> ?_,fun v hv=> ?_⟩,h.pend,?_⟩
 ·show (g.m_.Young++ [c]).length+g.m_.Old.length≤k+1;simp;omega
 ·rcases hmem d hd with hd|rfl
  ·exact h.inv.cells d hd
  exact ⟨hS,by omega⟩
 ·show 4*((g.roots_++ [_])++g.pending_).length+3*(mS (g.m_.Young++ [c])+mS g.m_.Old)≤60*(k+1)
  have e:mS (g.m_.Young++ [c])=mS g.m_.Young+c.More.length:=by unfold mS;rw [pu];simp [cL]
  rw [e];simp only [List.length_append,List.length_cons,List.length_nil];omega
 ·rcases hmem d hd with hd|rfl
  ·exact h.inv.w64 d hd
  exact h64
 ·have hv':v∈(g.roots_++ [_])++g.pending_:=hv;simp only [List.mem_append,List.mem_cons,List.not_mem_nil,or_false] at hv';rcases hv' with (hv'|rfl)|hv'
  ·exact h.inv.r64 v (SR _ hv')
  ·show in64 (2*(g.m_.Young.length:Int)+1);unfold in64;omega
  exact h.inv.r64 v (SS _ hv')
 ·rcases hmem d hd with hd|rfl
  ·exact h.val.right d hd
  exact hr
 ·rcases hmem d hd with hd|rfl
  ·exact h.val.kind d hd
  exact hkd
 ·rcases hmem d hd with hd|rfl
  ·exact (a1 _ (h.val.addr d hd x hx)).1
  exact (a1 _ (ha x hx)).1
 ·rcases hmem d hd with hd|rfl
  ·exact h.val.size d hd
  exact ⟨hS,by omega⟩
 ·have hv':v∈g.roots_++ [_]:=hv;simp only [List.mem_append,List.mem_cons,List.not_mem_nil,or_false] at hv';rcases hv' with hv'|rfl
  ·exact rtH v (h.val.roots v hv')
  exact .inr ⟨U,U,a2⟩
 show f0 g.set_.at_=lS ⟨g.m_.Young++ [c],g.m_.Old⟩;rw [h.set];refine (IK (m:=g.m_) (m':=⟨g.m_.Young++ [c],g.m_.Old⟩) U fun i hi=> ?_).symm;unfold lm;rw [(a1 (2*(i:Int)+2) (by rw [qb];exact SN hi)).2]
def yG (m:SB)(a:Int)(c:SD):SB:=bif decide (a%2=1) then ⟨m.Young.set (a / 2).toNat c,m.Old⟩ else ⟨m.Young,m.Old.set (a / 2 - 1).toNat c⟩
theorem GS {m:SB}{a:Int}(c:SD)(h:aZ m a=true):(∀x,aZ (yG m a c) x=aZ m x)∧(∀x,aZ m x=true→be (yG m a c) x=if x=a then c else be m x)∧(yG m a c).Young.length=m.Young.length∧(yG m a c).Old.length=m.Old.length∧(∀d∈(yG m a c).Young++(yG m a c).Old,d∈m.Young++m.Old∨d=c)∧mS (yG m a c).Young+mS (yG m a c).Old≤mS m.Young+mS m.Old+c.More.length:=by
 have hhas: ∀m':SB,m'.Young.length=m.Young.length→m'.Old.length=m.Old.length→ ∀x,aZ m' x=aZ m x:=fun m' h1 h2 x=>by
  rw [Bool.eq_iff_iff];constructor
  ·intro hx;rcases gp hx with ⟨i,hi,rfl⟩|⟨i,hi,rfl⟩
   ·rw [yg];exact SN W
   rw [qb];exact SN W
  intro hx;rcases gp hx with ⟨i,hi,rfl⟩|⟨i,hi,rfl⟩
  ·rw [yg];exact SN W
  rw [qb];exact SN W
 rcases gp h with ⟨j,hj,rfl⟩|⟨j,hj,rfl⟩
 ·have e:yG m (2*(j:Int)+1) c=⟨m.Young.set j c,m.Old⟩:=by
   unfold yG;rw [SN W,cond_true,show ((2*(j:Int)+1) / 2).toNat=j by omega]
  rw [e];refine ⟨hhas _ (List.length_set ..) U,fun x hx=> ?_,List.length_set ..,U,fun d hd=> ?_,?_⟩
  ·rcases gp hx with ⟨i,hi,rfl⟩|⟨i,hi,rfl⟩
   ·rw [uP ⟨m.Young.set j c,m.Old⟩ i (by simpa using hi),uP m i hi];simp only [List.getElem_set];by_cases hij:j=i
    ·rw [if_pos hij,if_pos W]
    rw [if_neg hij,if_neg W]
   rw [pM ⟨m.Young.set j c,m.Old⟩ i hi,pM m i hi,if_neg W]
  ·rcases List.mem_append.1 hd with hd|hd
   ·rcases List.mem_or_eq_of_mem_set hd with hd|hd
    ·exact .inl (SR _ hd)
    exact .inr hd
   exact .inl (SS _ hd)
  have:=uZ (fun c:SD=>c.More.length) c m.Young j;unfold mS;simp only at this⊢;omega
 have e:yG m (2*(j:Int)+2) c=⟨m.Young,m.Old.set j c⟩:=by
  unfold yG;rw [SO W,cond_false,show ((2*(j:Int)+2) / 2 - 1).toNat=j by omega]
 rw [e];refine ⟨hhas _ U (List.length_set ..),fun x hx=> ?_,U,List.length_set ..,fun d hd=> ?_,?_⟩
 ·rcases gp hx with ⟨i,hi,rfl⟩|⟨i,hi,rfl⟩
  ·rw [uP ⟨m.Young,m.Old.set j c⟩ i hi,uP m i hi,if_neg W]
  rw [pM ⟨m.Young,m.Old.set j c⟩ i (by simpa using hi),pM m i hi];simp only [List.getElem_set];by_cases hij:j=i
  ·rw [if_pos hij,if_pos W]
  rw [if_neg hij,if_neg W]
 ·rcases List.mem_append.1 hd with hd|hd
  ·exact .inl (SR _ hd)
  rcases List.mem_or_eq_of_mem_set hd with hd|hd
  ·exact .inl (SS _ hd)
  exact .inr hd
 have:=uZ (fun c:SD=>c.More.length) c m.Old j;unfold mS;simp only at this⊢;omega
theorem ze (g:SK)(a:Int)(c:SD):(pB g a c).m_=yG g.m_ a (xi c (be g.m_ a).Age)∧(pB g a c).roots_=g.roots_∧(pB g a c).pending_=g.pending_∧(pB g a c).set_.at_=bif decide (a%2=1) then g.set_.at_ else zn g.set_.at_ a c:=by
 unfold pB yG;cases decide (a%2=1)<;>exact ⟨rfl,rfl,rfl,rfl⟩
theorem LY {k:Nat}{g:SK}(h:TInv k g){a:Int}(ha:aZ g.m_ a=true)(c:SD)(nd:((pB g a c).set_.at_.map Prod.fst).Nodup):f0 (pB g a c).set_.at_=lS (pB g a c).m_:=by
 obtain ⟨f1, -, -,f4⟩:=ze g a c;obtain ⟨s1,s2,s3,s4, -, -⟩:=GS (xi c (be g.m_ a).Age) ha;have e:f0 (pB g a c).set_.at_=jr ((pB g a c).set_.at_.map Prod.fst):=rfl;rw [e]
 refine CY nd (zC _) fun x=> ?_
 have hkv: ∀x,x∈g.set_.at_.map Prod.fst↔x∈lS g.m_:=fun x=>by rw [←h.set];exact (oM _ x).symm
 have hold: ∀i,i<g.m_.Old.length→lm (pB g a c).m_ i=if 2*(i:Int)+2=a then (cy c).any yB else lm g.m_ i:=fun i hi=>by
  unfold lm;rw [f1,s2 _ (by rw [qb];exact SN hi)];split<;>rfl
 rw [qG,f1,s4,f4, ←f1];rcases gp ha with ⟨j,hj,rfl⟩|⟨j,hj,rfl⟩
 ·rw [SN W,cond_true,hkv,qG];refine ⟨fun ⟨i,h1,h2,h3⟩=>⟨i,h1,by rw [hold i h1,if_neg W];exact h2,h3⟩,fun ⟨i,h1,h2,h3⟩=>⟨i,h1,by rw [hold i h1,if_neg W] at h2;exact h2,h3⟩⟩
 rw [SO W,cond_false,Fe h.inv.nd,hkv,qG];constructor
 ·rintro (⟨h1,⟨i,q1,q2,rfl⟩|rfl⟩|⟨h1,⟨i,q1,q2,rfl⟩,hne⟩)
  ·refine ⟨i,q1,?_,U⟩;rw [hold i q1];split
   ·exact h1
   exact q2
  ·exact ⟨j,hj,by rw [hold j hj,if_pos rfl];exact h1,rfl⟩
  exact ⟨i,q1,by rw [hold i q1,if_neg hne];exact q2,rfl⟩
 rintro ⟨i,q1,q2,rfl⟩;rw [hold i q1] at q2;by_cases hij:2*(i:Int)+2=2*(j:Int)+2
 ·rw [if_pos hij] at q2;exact .inl ⟨q2,.inr hij⟩
 rw [if_neg hij] at q2
 cases hb:(cy c).any yB with
 |true=>exact .inl ⟨rfl,.inl ⟨i,q1,q2,rfl⟩⟩
 |false=>exact .inr ⟨rfl,⟨i,q1,q2,rfl⟩,hij⟩
theorem Iu {c:SD}(h:cA c=true){a:Int}(h0:0≤a)(h1:a≤1):cA (xi c a)=true:=by
 unfold cA at h⊢;simp only [Bool.and_eq_true,Bool.not_eq_true',decide_eq_false_iff_not] at h⊢;obtain ⟨⟨⟨⟨⟨⟨⟨p1,p2⟩,p3⟩,p4⟩,p5⟩, -⟩, -⟩,h⟩:=h;exact ⟨⟨⟨⟨⟨⟨⟨p1,p2⟩,p3⟩,p4⟩,p5⟩,by show¬a<0;omega⟩,by show¬1<a;omega⟩,h⟩
theorem KC {c:SD}(h:cA c=true):0≤c.Age∧c.Age≤1:=by
 unfold cA at h;simp only [Bool.and_eq_true,Bool.not_eq_true',decide_eq_false_iff_not] at h;omega
theorem ME {N k:Nat}(hN:5000<N){g:SK}(h:TInv k g)(hk:k<40){a b:SG}(ha:Rt g.m_ a)(hb:Rt g.m_ b)(hb64:in64 b.N)(hg:qo g a=true):
  iK N g a.N (iZ (be g.m_ a.N) b)=some (0,pB g a.N (iZ (be g.m_ a.N) b))∧TInv (k+1) (pB g a.N (iZ (be g.m_ a.N) b)):=by
 unfold qo at hg;simp only [Bool.and_eq_true,decide_eq_true_eq] at hg;obtain ⟨⟨⟨g1,g2⟩,g3⟩,g4⟩:=hg;obtain ⟨v1,v2,v3,v4,v5⟩:=h.val.at_ g1;have r1:cA (iZ (be g.m_ a.N) b)=true:=IG v1 g3 hb.may
 have hw: ∀v∈(iZ (be g.m_ a.N) b).Slots++(iZ (be g.m_ a.N) b).More,in64 v.N:=fun v hv=>by
  have hv':v∈(be g.m_ a.N).Slots++((be g.m_ a.N).More++ [b]):=hv;simp only [List.mem_append,List.mem_cons,List.not_mem_nil,or_false] at hv';rcases hv' with hv'|hv'|rfl
  ·exact h.inv.w64.at_ a.N v (SR _ hv')
  ·exact h.inv.w64.at_ a.N v (SS _ hv')
  exact hb64
 have hsz:(iZ (be g.m_ a.N) b).Slots.length≤20∧(iZ (be g.m_ a.N) b).More.length≤20:=⟨v4,by show ((be g.m_ a.N).More++ [b]).length≤20;simp;omega⟩;have ha64:in64 a.N:=wN (h.inv.small W) g1;obtain ⟨e1,e2⟩:=PO hN h.inv hk ha64 hsz hw;rw [g1,r1,nt,cf,cf] at e1 e2;obtain ⟨f1,f2,f3,f4⟩:=ze g a.N (iZ (be g.m_ a.N) b);obtain ⟨s1,s2,s3,s4,s5,s6⟩:=GS (xi (iZ (be g.m_ a.N) b) (be g.m_ a.N).Age) g1;have hage:=KC v1;refine ⟨e1,e2,?_,by rw [f3];exact h.pend,LY h g1 _ e2.nd⟩;rw [f1,f2];refine ⟨fun d hd=> ?_,fun d hd=> ?_,fun d hd x hx=> ?_,fun d hd=> ?_,fun v hv=> ?_⟩
 ·rcases s5 d hd with hd|rfl
  ·exact h.val.right d hd
  exact Iu r1 hage.1 hage.2
 ·rcases s5 d hd with hd|rfl
  ·exact h.val.kind d hd
  exact .inr g3
 ·rw [s1];rcases s5 d hd with hd|rfl
  ·exact h.val.addr d hd x hx
  have hx':x∈cy (iZ (be g.m_ a.N) b):=hx;obtain ⟨v,hv,hvb,rfl⟩:=tN hx';have hv':v∈(be g.m_ a.N).Slots++((be g.m_ a.N).More++ [b]):=hv;simp only [List.mem_append,List.mem_cons,List.not_mem_nil,or_false] at hv';rcases hv' with hv'|hv'|rfl
  ·exact v3 _ (qx (SR _ hv') hvb)
  ·exact v3 _ (qx (SS _ hv') hvb)
  exact hb.addr hvb
 ·rcases s5 d hd with hd|rfl
  ·exact h.val.size d hd
  exact hsz
 rcases h.val.roots v hv with h1|⟨q1,q2,q3⟩
 ·exact .inl h1
 exact .inr ⟨q1,q2,by rw [s1];exact q3⟩
theorem Pz {k:Nat}{g:SK}(h:TInv k g)(i:Int):Rt g.m_ (bR g.roots_ i)∧in64 (bR g.roots_ i).N:=by
 rcases AD (l:=g.roots_) (i:=i) with e|hm
 ·rw [e];exact ⟨.inl U,by show in64 0;unfold in64;omega⟩
 exact ⟨h.val.roots _ hm,h.inv.r64 _ (SR _ hm)⟩
theorem TInv.up {k:Nat}{g:SK}(h:TInv k g):TInv (k+1) g:=⟨h.inv.up,h.val,h.pend,h.set⟩
theorem H5 {m:SB}{c:SD}(h: ∀v∈c.Slots++c.More,br v=true→aZ m v.N=true): ∀x∈cy c,aZ m x=true:=fun x hx=>by
 obtain ⟨v,hv,hb,rfl⟩:=tN hx;exact h v hv hb
theorem nI {N k:Nat}(hN:5000<N){g:SK}(h:TInv k g)(hk:k<40)(x:Sy):cE N g x=some (kx g x)∧TInv (k+1) (kx g x):=by
 have hrl:=(h.inv.small W).roots;rw [List.length_append] at hrl;obtain ⟨ra,ra64⟩:=Pz h x.I;obtain ⟨rb,rb64⟩:=Pz h x.J;unfold cE kx;rw [CS N W,bs,CS N W,bs]
 cases decide (x.Kind=1) with
 | true=>
  rw [ct,ct,MD h.inv ra64,bs]
  have e:(((bif (bif aZ g.m_ (bR g.roots_ x.I).N then (be g.m_ (bR g.roots_ x.I).N,true) else ((⟨0,0,0,0,[],[]⟩:SD),false)).2 then (some (decide ((bR g.roots_ x.I).Kind=9))) else (some false)).bind fun b20=>(bif b20 then (some (decide ((bif aZ g.m_ (bR g.roots_ x.I).N then (be g.m_ (bR g.roots_ x.I).N,true) else ((⟨0,0,0,0,[],[]⟩:SD),false)).1.Kind=11))) else (some false)).bind fun b21=>(bif b21 then (some (decide (((bif aZ g.m_ (bR g.roots_ x.I).N then (be g.m_ (bR g.roots_ x.I).N,true) else ((⟨0,0,0,0,[],[]⟩:SD),false)).1.More.length:Int)<6))) else (some false))):Option Bool)=some (qo g (bR g.roots_ x.I)):=by
   unfold qo;cases aZ g.m_ (bR g.roots_ x.I).N<;>cases decide ((bR g.roots_ x.I).Kind=9)
   ·rfl
   ·rfl
   ·rfl
   simp only [cond_true,bs,Bool.true_and];cases decide ((be g.m_ (bR g.roots_ x.I).N).Kind=11)<;>rfl
  have e2: ∀(F:Bool→Option SK),(((bif (bif aZ g.m_ (bR g.roots_ x.I).N then (be g.m_ (bR g.roots_ x.I).N,true) else ((⟨0,0,0,0,[],[]⟩:SD),false)).2 then (some (decide ((bR g.roots_ x.I).Kind=9))) else (some false)).bind fun b20=>(bif b20 then (some (decide ((bif aZ g.m_ (bR g.roots_ x.I).N then (be g.m_ (bR g.roots_ x.I).N,true) else ((⟨0,0,0,0,[],[]⟩:SD),false)).1.Kind=11))) else (some false)).bind fun b21=>(bif b21 then (some (decide (((bif aZ g.m_ (bR g.roots_ x.I).N then (be g.m_ (bR g.roots_ x.I).N,true) else ((⟨0,0,0,0,[],[]⟩:SD),false)).1.More.length:Int)<6))) else (some false)).bind F):Option SK)=F (qo g (bR g.roots_ x.I)):=fun F=>by
   rw [←bs (f:=F) (x:=qo g (bR g.roots_ x.I)), ←e,Option.bind_assoc]
   congr 1
   funext b20;rw [Option.bind_assoc]
  rw [e2]
  cases hg:qo g (bR g.roots_ x.I) with
  |false=>rw [cf];exact ⟨U,h.up⟩
  |true=>
   obtain ⟨q1,q2⟩:=ME hN h hk ra rb rb64 hg;have hg':=hg;unfold qo at hg';simp only [Bool.and_eq_true,decide_eq_true_eq] at hg';have v5:=(h.val.at_ hg'.1.1.1).2.2.2.2;rw [hg'.1.1.1];simp only [cond_true];rw [rF (by simp;omega),rF (by simp;omega)];unfold jI;refine ⟨?_,q2⟩;have q1':iK N g (bR g.roots_ x.I).N (⟨(be g.m_ (bR g.roots_ x.I).N).Kind,(be g.m_ (bR g.roots_ x.I).N).Shape,(be g.m_ (bR g.roots_ x.I).N).Flags,(be g.m_ (bR g.roots_ x.I).N).Age,(be g.m_ (bR g.roots_ x.I).N).Slots,(([]:List SG)++(be g.m_ (bR g.roots_ x.I).N).More)++([bR g.roots_ x.J]:List SG)⟩:SD)=some (0,pB g (bR g.roots_ x.I).N (iZ (be g.m_ (bR g.roots_ x.I).N) (bR g.roots_ x.J))):=q1;rw [q1',bs]
 |false=>
 rw [cf,cf]
 cases decide (x.Kind=2) with
 | true=>
  rw [ct,ct,si N g W,bs];by_cases h0:(0:Int)<(g.roots_.length:Int)
  ·rw [SN h0,ct,bs,Bool.true_and];by_cases h1:(0:Int)≤x.I
   ·have hz:in64 (⟨0,0,⟨#[]⟩⟩:SG).N:=by show in64 0;unfold in64;omega
    obtain ⟨e1,e2⟩:=C0 (N:=N) (i:=x.I.tmod g.roots_.length) h.inv hz;rw [Jk h1 W,ct] at e1 e2;rw [SN h1,ct,ct,kD W,e1,bs];refine ⟨U,e2,⟨h.val.right,h.val.kind,h.val.addr,h.val.size,fun v hv=> ?_⟩,h.pend,h.set⟩;rcases List.mem_or_eq_of_mem_set hv with hv|rfl
    ·exact h.val.roots v hv
    exact .inl U
   rw [SO h1,cf,cf];exact ⟨U,h.up⟩
  rw [SO h0,cf,bs,cf,Bool.false_and,cf];exact ⟨U,h.up⟩
 |false=>
 rw [cf,cf]
 cases decide (x.Kind=3) with
 | true=>
  rw [ct,ct];by_cases h9:(bR g.roots_ x.I).Kind=9
  ·rw [SN h9,ct,ct]
   have hB:br (bR g.roots_ x.I)=true:=by unfold br;rw [h9];rfl
   have hH:=ra.addr hB;refine FL hN h hk (c:=tW (bR g.roots_ x.I) (bR g.roots_ x.J)) (Ie (Gw hH) rb.may rb.nohole) (.inl U) U (by show 1≤20;omega) (by show 2≤2;omega) (fun v hv=> ?_) (H5 fun v hv hb=> ?_)
   ·simp only [tW,List.mem_append,List.mem_cons,List.not_mem_nil,or_false] at hv;rcases hv with rfl|rfl|rfl
    ·show in64 0;unfold in64;omega
    ·exact ra64
    exact rb64
   simp only [tW,List.mem_append,List.mem_cons,List.not_mem_nil,or_false] at hv;rcases hv with rfl|rfl|rfl
   ·cases hb
   ·exact hH
   exact rb.addr hb
  rw [SO h9,cf,cf];exact ⟨U,h.up⟩
 | false=>
  rw [cf,cf];refine FL hN h hk (c:=Ag (bR g.roots_ x.I) (bR g.roots_ x.J)) (Lr ra.may rb.may) (.inr U) U (by show 0≤20;omega) (by show 2≤2;omega) (fun v hv=> ?_) (H5 fun v hv hb=> ?_)
  ·simp only [Ag,List.mem_append,List.mem_cons,List.not_mem_nil,or_false,false_or] at hv;rcases hv with rfl|rfl
   ·exact ra64
   exact rb64
  simp only [Ag,List.mem_append,List.mem_cons,List.not_mem_nil,or_false,false_or] at hv;rcases hv with rfl|rfl
  ·exact ra.addr hb
  exact rb.addr hb
theorem G4 {lv:List Int}{c:SD}(h:c.Kind=8∨c.Kind=11):gz lv c=[]:=by
 unfold gz;rw [SO W];rfl
theorem LS {m m':SB}{ρ:Int→Int}{f:List Int}{v:SG}(h:Rt m v)(hf:br v=true→v.N∈f)(hh: ∀a∈f,aZ m' (ρ a)=true):Rt m' (bu ρ f v):=by
 rcases h with rfl|⟨h1,h2, -⟩
 ·exact .inl U
 have hb:br v=true:=by unfold br;rw [h1];rfl
 rw [kk hb (hf hb)];exact .inr ⟨h1,h2,hh _ (hf hb)⟩
theorem Kn {N:Nat}(hN:5000<N){k:Nat}{g:SK}(h:TInv k g):mM N g.m_ (g.roots_++g.pending_)=0:=by
 unfold mM
 have e1:(g.m_.Young++g.m_.Old).all (pR N)=true:=by
  rw [List.all_eq_true];intro c hc;have:=h.val.size c hc;rw [Hd W W W];exact h.val.right c hc
 have e2:dz g.m_ ((g.m_.Young++g.m_.Old).flatMap cy++bW (g.roots_++g.pending_))=true:=by
  unfold dz;rw [List.all_eq_true];intro x hx;rcases List.mem_append.1 hx with hx|hx
  ·obtain ⟨c,hc,hx⟩:=List.mem_flatMap.1 hx;exact h.val.addr c hc x hx
  rw [h.pend,List.append_nil] at hx;exact h.val.rootH hx
 rw [e1,e2];rfl
theorem NX {N:Nat}(hN:5000<N){k:Nat}{g:SK}(h:TInv k g):DJ N g.m_ (g.roots_++g.pending_) (f0 g.set_.at_)=true:=by
 rw [h.set,KX,h.pend,List.append_nil];unfold DY Ax dz;rw [Bool.and_eq_true,List.all_eq_true,List.all_eq_true];refine ⟨fun x hx=>h.val.rootH hx,fun c hc=> ?_⟩;have:=h.val.size c hc;have ha:=h.val.addr c hc;unfold zN;rw [oO N W c W W,h.val.right c hc];show (true&&_)=true;rw [Bool.true_and,Bool.and_eq_true];unfold dz;rw [List.all_eq_true,List.all_eq_true];exact ⟨fun x hx=>ha x (SR _ hx),fun x hx=>ha x (SS _ hx)⟩
theorem LR {m:SB}{kv:List (Int×Bool)}(h:kv.map Prod.fst=lS m):f0 kv=lS m:=by
 have e:f0 kv=jr (kv.map Prod.fst):=rfl;rw [e,h]
 exact CY ((zC m).imp fun hab e=>by omega) (zC m) fun x=>Iff.rfl
theorem Oh {N k:Nat}(hN:5000<N){g:SK}(h:TInv k g)(hk:k≤40): ∃g',fq N g=some (0,g')∧TInv k g'∧dE N g.m_ g.roots_ g'.m_ g'.roots_=some true:=by
 have hcnt:=h.inv.cnt;have hrl:=(h.inv.small hk).roots;rw [List.length_append] at hrl;rcases P1 hN h.inv hk with ⟨hm, -⟩|⟨met,kv,c,k2,e,h'⟩
 ·rw [NX hN h] at hm;cases hm
 have ef:bu (dx g.m_ met) met=bu (dx g.m_ met) (fT g.m_ met):=funext fun v=>(vN v).symm
 have hin:dh (fT g.m_ met) g.roots_:=FN c.rootIn
 have hg:rj g.m_ met=[]:=by
  unfold rj;rw [List.flatMap_eq_nil_iff]
  exact fun a ha=>G4 (h.val.at_ (c.f1has ha)).2.1
 have hp:g.pending_.map (bu (dx g.m_ met) met)++(rj g.m_ met).map (bu (dx g.m_ met) met)=[]:=by rw [hg,h.pend];rfl
 rw [hp] at e h';refine ⟨_,e,⟨h',⟨fun d hd=>(c.midAddr hd).1,fun d hd=> ?_,fun d hd=>(c.midAddr hd).2,h'.cells,fun v hv=> ?_⟩,U,LR k2⟩,?_⟩
 ·obtain ⟨a,ha,rfl⟩:=c.midMem hd;show (ju N (fT g.m_ met) (be g.m_ a)).Kind=8∨(ju N (fT g.m_ met) (be g.m_ a)).Kind=11;rw [Ab.1];exact (h.val.at_ (c.f1has ha)).2.1
 ·obtain ⟨w,hw,rfl⟩:=List.mem_map.1 hv;rw [ef]
  exact LS (h.val.roots w hw) (hin w hw) fun a ha=>(c.at_ ha).1
 show dE N g.m_ g.roots_ (jK N g.m_ met) (g.roots_.map (bu (dx g.m_ met) met))=some true;rw [ef];exact (c.alikeR W hin W fun v hv=>h.inv.r64 v (SR _ hv))
theorem zt {N k:Nat}(hN:5000<N){g:SK}(h:TInv k g)(hk:k≤40): ∃g' live f,cT N g=some (0,g')∧TInv k g'∧dE N g.m_ g.roots_ g'.m_ g'.roots_=some true∧CollCtx N g.m_ (g.roots_++g.pending_) live f∧g'.m_=dP N g.m_ live f∧g'.roots_=g.roots_.map (bu (mc f) f):=by
 have hrl:=(h.inv.small hk).roots;rw [List.length_append] at hrl;rcases P2 hN h.inv hk with ⟨hm, -⟩|⟨live,f,kv,c,k2,e,h'⟩
 ·exact absurd (Kn hN h) hm
 have hin:dh f g.roots_:=FN c.rootIn
 have hg:sm g.m_ live f=[]:=by
  unfold sm;rw [List.flatMap_eq_nil_iff]
  exact fun a ha=>G4 (h.val.at_ (c.lv.fhas ha)).2.1
 have hp:g.pending_.map (bu (mc f) f)++(sm g.m_ live f).map (bu (mc f) f)=[]:=by rw [hg,h.pend];rfl
 rw [hp] at e h';refine ⟨_,live,f,e,⟨h',⟨fun d hd=>(c.nextAddr hd).1,fun d hd=> ?_,fun d hd=>(c.nextAddr hd).2,h'.cells,fun v hv=> ?_⟩,U,LR k2⟩,?_,c,U,U⟩
 ·have hd':d∈f.map fun a=>gl (mc f) f (ju N live (be g.m_ a)):=hd
  obtain ⟨a,ha,rfl⟩:=List.mem_map.1 hd';show (ju N live (be g.m_ a)).Kind=8∨(ju N live (be g.m_ a)).Kind=11;rw [Ab.1];exact (h.val.at_ (c.lv.fhas ha)).2.1
 ·obtain ⟨w,hw,rfl⟩:=List.mem_map.1 hv
  exact LS (h.val.roots w hw) (hin w hw) fun a ha=>vM ha
 exact (c.alikeR hin W fun v hv=>h.inv.r64 v (SR _ hv))
theorem TInv.sides {k:Nat}{g:SK}(h:TInv k g)(hk:k≤40):Small g.m_ g.roots_∧W64 g.m_∧ ∀v∈g.roots_,in64 v.N:=by
 have hs:=h.inv.small hk;rw [h.pend,List.append_nil] at hs;exact ⟨hs,h.inv.w64,fun v hv=>h.inv.r64 v (SR _ hv)⟩
def Al (N:Nat)(g g':SK):Prop:=dE N g.m_ g.roots_ g'.m_ g'.roots_=some true
theorem Al.symm {N k:Nat}(hN:5000<N)(hk:k≤40){a b:SK}(ha:TInv k a)(hb:TInv k b)(h:Al N a b):Al N b a:=by
 obtain ⟨a1,a2,a3⟩:=ha.sides hk;obtain ⟨b1,b2,b3⟩:=hb.sides hk;obtain ⟨A1,B1, -, -,u1,v1,r1⟩:=kW N hN a1 b1 a2 b2 a3 b3;obtain ⟨A2,B2, -, -,u2,v2,r2⟩:=kW N hN b1 a1 b2 a2 b3 a3;rw [u1] at v2;rw [v1] at u2;obtain rfl:=Option.some.inj u2;obtain rfl:=Option.some.inj v2;unfold Al at h⊢;rw [r2,H4, ←r1];exact h
theorem Al.trans {N k:Nat}(hN:5000<N)(hk:k≤40){a b c:SK}(ha:TInv k a)(hb:TInv k b)(hc:TInv k c)(h1:Al N a b)(h2:Al N b c):Al N a c:=by
 obtain ⟨a1,a2,a3⟩:=ha.sides hk;obtain ⟨b1,b2,b3⟩:=hb.sides hk;obtain ⟨c1,c2,c3⟩:=hc.sides hk;obtain ⟨A1,B1, -, -,u1,v1,r1⟩:=kW N hN a1 b1 a2 b2 a3 b3;obtain ⟨A2,B2, -, -,u2,v2,r2⟩:=kW N hN b1 c1 b2 c2 b3 c3;obtain ⟨A3,B3, -, -,u3,v3,r3⟩:=kW N hN a1 c1 a2 c2 a3 c3;rw [u1] at u3;obtain rfl:=Option.some.inj u3;rw [v1] at u2;obtain rfl:=Option.some.inj u2;rw [v2] at v3;obtain rfl:=Option.some.inj v3;unfold Al at h1 h2⊢;rw [r1] at h1;rw [r2] at h2;rw [r3,GV (Option.some.inj h1) (Option.some.inj h2)]
theorem EX {f:SG→SG}(hf:f vZ=vZ)(l:List SG)(i:Int):bR (l.map f) i=f (bR l i):=by
 unfold bR;rw [List.length_map]
 cases h:decide ((l.length:Int)=0)||decide (i<0) with
 |true=>exact hf.symm
 |false=>
  rw [cond_false,cond_false,List.getD_eq_getElem?_getD,List.getD_eq_getElem?_getD,List.getElem?_map]
  cases l[(i.tmod l.length).toNat]? with
  |none=>exact hf.symm
  |some v=>rfl
section
variable {a b:SK} {S:List Int} {ρ:Int→Int} (h:Iso a.m_ b.m_ a.roots_ b.roots_ S ρ) (vA:TVal a.m_ a.roots_) (vB:TVal b.m_ b.roots_)
include h vA vB
theorem Iso.alloc {c d:SD}(hkind:c.Kind=8∨c.Kind=11)(e1:d.Kind=c.Kind)(e2:d.Shape=c.Shape)(e3:d.Flags=c.Flags)(e4:d.Slots=c.Slots.map (bu ρ S))(e5:d.More=c.More.map (bu ρ S))(i1:dh S c.Slots)(i2:dh S c.More)(he:c.Kind=8→jt c.More=true∧jt d.More=true):
  ∃S' ρ',Iso (o6 a c).m_ (o6 b d).m_ (o6 a c).roots_ (o6 b d).roots_ S' ρ':=by
 obtain ⟨p1,p2,p3,p4⟩:=Ek (m:=a.m_) c;obtain ⟨q1,q2,q3,q4⟩:=Ek (m:=b.m_) d;generalize hnA:2*(a.m_.Young.length:Int)+1=nA at*;generalize hnB:2*(b.m_.Young.length:Int)+1=nB at*
 have hnS:nA∉S:=fun hm=>by rw [h.inA nA hm] at p4;cases p4
 have hnB': ∀x∈S,ρ x≠nB:=fun x hx e=>by have:=h.inB x hx;rw [e,q4] at this;cases this
 let ρ':Int→Int:=fun x=>if x=nA then nB else ρ x
 have r1:ρ' nA=nB:=if_pos rfl
 have r2: ∀x∈S,ρ' x=ρ x:=fun x hx=>if_neg fun e=>hnS (by rw [←e];exact hx)
 have mv: ∀v:SG,(br v=true→v.N∈S)→bu ρ' (S++ [nA]) v=bu ρ S v:=fun v hv=>by
  cases hb:br v with
  |false=>rw [Cs hb,Cs hb]
  |true=>rw [kk hb (SR _ (hv hb)),kk hb (hv hb),r2 _ (hv hb)]
 have mvs: ∀l:List SG,dh S l→l.map (bu ρ' (S++ [nA]))=l.map (bu ρ S):=fun l hl=>List.map_congr_left fun v hv=>mv v (hl v hv)
 have up: ∀l:List SG,dh S l→dh (S++ [nA]) l:=fun l hl v hv hb=>SR _ (hl v hv hb)
 have eS:(S++ [nA]).map ρ'=S.map ρ++ [nB]:=by
  rw [List.map_append,List.map_cons,List.map_nil,r1]
  congr 1
  exact List.map_congr_left r2
 -- entries of old cells do not name the new cell
 have old: ∀(m:SB) (T:List Int) (n:Int) (x:Int),(∀y∈cy (be m x),y≠n)→((be m x).Kind=8→jt (be m x).More=true)→nj (T++ [n]) (be m x)=nj T (be m x):=fun m T n x hne hent=>by
  unfold nj;by_cases h8:(be m x).Kind=8
  ·rw [SN h8,cond_true,cond_true]
   have hk: ∀l:List SG,jt l=true→(∀v∈l,br v=true→v.N≠n)→cleanL (fun y=>decide (y∈T++ [n])) l=cleanL (fun y=>decide (y∈T)) l:=fun l=>by
    induction l using cleanL.induct with
    |case1 k v r ih=>
     intro he hn;rw [ft] at he;simp only [Bool.and_eq_true,decide_eq_true_eq] at he
     have hkb:br k=true:=by unfold br;rw [he.1.1];rfl
     have hkn:k.N≠n:=hn k (by simp) hkb;rw [eT,eT,ih he.2 fun w hw hb=>hn w (by simp [hw]) hb,eR (p:=k.N∈T++ [n]) (q:=k.N∈T) (by simp [hkn])]
    |case2 l hl=>
     intro _ _
     match l,hl with
     | [],_=>rfl
     | [_],_=>rfl
     |k::v::r,hl=>exact absurd rfl (hl k v r)
   exact hk _ (hent h8) fun v hv hb=>hne _ (qx (SS _ hv) hb)
  rw [SO h8,cond_false,cond_false]
 have visN: ∀(T:List Int) (e:SD),(e.Kind=8→jt e.More=true)→dh T e.More→nj T e=e.More:=fun T e he hT=>by
  unfold nj;by_cases h8:e.Kind=8
  ·rw [SN h8,cond_true];exact yl (he h8) hT
  rw [SO h8];rfl
 refine ⟨S++ [nA],ρ',⟨fun x y hx hy e=> ?_,fun x hx=> ?_⟩,fun x hx=> ?_,fun x hx=> ?_,fun x hx=> ?_,?_,?_⟩
 ·simp only [List.mem_append,List.mem_cons,List.not_mem_nil,or_false] at hx hy;rcases hx with hx|rfl<;>rcases hy with hy|rfl
  ·rw [r2 x hx,r2 y hy] at e;exact h.ren.inj x y hx hy e
  ·rw [r2 x hx,r1] at e;exact absurd e (hnB' x hx)
  ·rw [r2 y hy,r1] at e;exact absurd e.symm (hnB' y hy)
  rfl
 ·simp only [List.mem_append,List.mem_cons,List.not_mem_nil,or_false] at hx;rcases hx with hx|rfl
  ·rw [r2 x hx];exact h.ren.pos x hx
  rw [r1];omega
 ·simp only [List.mem_append,List.mem_cons,List.not_mem_nil,or_false] at hx;rcases hx with hx|rfl
  ·exact (p1 x (h.inA x hx)).1
  exact p2
 ·simp only [List.mem_append,List.mem_cons,List.not_mem_nil,or_false] at hx;rcases hx with hx|rfl
  ·rw [r2 x hx];exact (q1 _ (h.inB x hx)).1
  rw [r1];exact q2
 ·simp only [List.mem_append,List.mem_cons,List.not_mem_nil,or_false] at hx;rw [show (o6 a c).m_=⟨a.m_.Young++ [c],a.m_.Old⟩ from rfl,show (o6 b d).m_=⟨b.m_.Young++ [d],b.m_.Old⟩ from rfl];rcases hx with hx|rfl
  ·rw [r2 x hx,(p1 x (h.inA x hx)).2,(q1 _ (h.inB x hx)).2];obtain ⟨k1,k2,k3,k4,k5,k6,k7⟩:=h.cell x hx;have oA:nj (S++ [nA]) (be a.m_ x)=nj S (be a.m_ x):=old a.m_ S nA x (fun y hy e=>by have:=(vA.at_ (h.inA x hx)).2.2.1 y hy;rw [e,p4] at this;cases this) (vA.ent (h.inA x hx));have oB:nj (S.map ρ++ [nB]) (be b.m_ (ρ x))=nj (S.map ρ) (be b.m_ (ρ x)):=old b.m_ (S.map ρ) nB (ρ x) (fun y hy e=>by have:=(vB.at_ (h.inB x hx)).2.2.1 y hy;rw [e,q4] at this;cases this) (vB.ent (h.inB x hx));refine ⟨k1,k2,k3,by rw [mvs _ k6];exact k4,?_,up _ k6,by rw [oA];exact up _ k7⟩;rw [eS,oA,oB,mvs _ k7];exact k5
  rw [r1,p3,q3];have v1:nj (S++ [x]) c=c.More:=visN _ c (fun h8=>(he h8).1) (up _ i2)
  have i2':dh (S.map ρ++ [nB]) d.More:=fun v hv hb=>by
   rw [e5] at hv;obtain ⟨w,hw,rfl⟩:=List.mem_map.1 hv;rw [sf] at hb;have:=i2 w hw hb;rw [kk hb this];exact SR _ (List.mem_map.2 ⟨_,this,U⟩)
  have v2:nj (S.map ρ++ [nB]) d=d.More:=visN _ d (fun h8=>(he (e1▸h8)).2) i2';refine ⟨e1,e2,e3,by rw [mvs _ i1];exact e4,?_,up _ i1,by rw [v1];exact up _ i2⟩;rw [eS,v1,v2,mvs _ i2];exact e5
 ·have hr:(o6 a c).roots_=a.roots_++ [⟨9,nA,⟨#[]⟩⟩]:=by rw [←hnA];rfl
  rw [hr]
  refine H6 (up _ h.rootIn) fun v hv hb=> ?_
  rw [List.mem_singleton.1 hv];simp
 have hr:(o6 a c).roots_=a.roots_++ [⟨9,nA,⟨#[]⟩⟩]:=by rw [←hnA];rfl
 have hr':(o6 b d).roots_=b.roots_++ [⟨9,nB,⟨#[]⟩⟩]:=by rw [←hnB];rfl
 rw [hr,hr',List.map_append,mvs _ h.rootIn, ←h.roots,List.map_cons,List.map_nil,kk (v:=⟨9,nA,⟨#[]⟩⟩) rfl (by simp),r1]
theorem Iso.grow {x y:SG}(hx:Rt a.m_ x)(hxb:br x=true→x.N∈S)(hyb:br y=true→y.N∈S)(hg:qo a x=true):
  Iso (pB a x.N (iZ (be a.m_ x.N) y)).m_ (pB b (bu ρ S x).N (iZ (be b.m_ (bu ρ S x).N) (bu ρ S y))).m_ (pB a x.N (iZ (be a.m_ x.N) y)).roots_ (pB b (bu ρ S x).N (iZ (be b.m_ (bu ρ S x).N) (bu ρ S y))).roots_ S ρ:=by
 have _:=vA;have _:=vB
 unfold qo at hg;simp only [Bool.and_eq_true,decide_eq_true_eq] at hg;obtain ⟨⟨⟨g1,g2⟩,g3⟩, -⟩:=hg
 have hb:br x=true:=by unfold br;rw [g2];rfl
 have hS:=hxb hb;rw [kk hb hS];show Iso (pB a x.N (iZ (be a.m_ x.N) y)).m_ (pB b (ρ x.N) (iZ (be b.m_ (ρ x.N)) (bu ρ S y))).m_ _ (pB b (ρ x.N) (iZ (be b.m_ (ρ x.N)) (bu ρ S y))).roots_ S ρ;obtain ⟨f1,f2, -, -⟩:=ze a x.N (iZ (be a.m_ x.N) y);obtain ⟨f1',f2', -, -⟩:=ze b (ρ x.N) (iZ (be b.m_ (ρ x.N)) (bu ρ S y));rw [f1,f2,f1',f2'];obtain ⟨s1,s2, -, -, -, -⟩:=GS (xi (iZ (be a.m_ x.N) y) (be a.m_ x.N).Age) g1;obtain ⟨t1,t2, -, -, -, -⟩:=GS (xi (iZ (be b.m_ (ρ x.N)) (bu ρ S y)) (be b.m_ (ρ x.N)).Age) (h.inB _ hS);refine ⟨h.ren,fun z hz=>by rw [s1];exact h.inA z hz,fun z hz=>by rw [t1];exact h.inB z hz,fun z hz=> ?_,h.rootIn,h.roots⟩;rw [s2 z (h.inA z hz),t2 _ (h.inB z hz)];by_cases e:z=x.N
 ·rw [if_pos e,if_pos (by rw [e])];obtain ⟨k1,k2,k3,k4,k5,k6,k7⟩:=h.cell x.N hS;unfold nj at k5 k7;rw [k1,SO W] at k5;rw [SO W] at k7;simp only [cond_false] at k5 k7
  have n1:nj S (xi (iZ (be a.m_ x.N) y) (be a.m_ x.N).Age)=(be a.m_ x.N).More++ [y]:=by
   unfold nj;rw [show decide ((xi (iZ (be a.m_ x.N) y) (be a.m_ x.N).Age).Kind=8)=false from SO (by show (be a.m_ x.N).Kind≠8;omega)];rfl
  have n2:nj (S.map ρ) (xi (iZ (be b.m_ (ρ x.N)) (bu ρ S y)) (be b.m_ (ρ x.N)).Age)=(be b.m_ (ρ x.N)).More++ [bu ρ S y]:=by
   unfold nj;rw [show decide ((xi (iZ (be b.m_ (ρ x.N)) (bu ρ S y)) (be b.m_ (ρ x.N)).Age).Kind=8)=false from SO (by show (be b.m_ (ρ x.N)).Kind≠8;omega)];rfl
  refine ⟨k1,k2,k3,k4,by rw [n1,n2,k5,List.map_append];rfl,k6,?_⟩;rw [n1]
  exact H6 k7 fun v hv hb=>by rw [List.mem_singleton.1 hv] at hb⊢;exact hyb hb
 rw [if_neg e,if_neg fun e'=>e (h.ren.inj z x.N hz hS e')];exact h.cell z hz
theorem Iso.follow (x:Sy): ∃S' ρ',Iso (kx a x).m_ (kx b x).m_ (kx a x).roots_ (kx b x).roots_ S' ρ':=by
 have hz:bu ρ S vZ=vZ:=rfl
 have eI:bR b.roots_ x.I=bu ρ S (bR a.roots_ x.I):=by rw [h.roots,EX hz]
 have eJ:bR b.roots_ x.J=bu ρ S (bR a.roots_ x.J):=by rw [h.roots,EX hz]
 have el:b.roots_.length=a.roots_.length:=by rw [h.roots,List.length_map]
 have inR: ∀i,br (bR a.roots_ i)=true→(bR a.roots_ i).N∈S:=fun i hb=>by
  rcases AD (l:=a.roots_) (i:=i) with e|hm
  ·rw [e] at hb;cases hb
  exact h.rootIn _ hm hb
 have rtR: ∀i,Rt a.m_ (bR a.roots_ i):=fun i=>by
  rcases AD (l:=a.roots_) (i:=i) with e|hm
  ·rw [e];exact .inl U
  exact vA.roots _ hm
 have kd: ∀v:SG,(bu ρ S v).Kind=v.Kind:=fun v=>(Hu h.ren).kind v
 unfold kx;rw [eI,eJ]
 cases decide (x.Kind=1) with
 | true=>
  rw [ct,ct]
  have hg:qo b (bu ρ S (bR a.roots_ x.I))=qo a (bR a.roots_ x.I):=by
   by_cases h9:(bR a.roots_ x.I).Kind=9
   ·have hb:br (bR a.roots_ x.I)=true:=by unfold br;rw [h9];rfl
    have hS:=inR _ hb;obtain ⟨k1, -, -, -,k5, -, -⟩:=h.cell _ hS;rw [kk hb hS];unfold qo;simp only;rw [h.inA _ hS,h.inB _ hS,k1];by_cases h11:(be a.m_ (bR a.roots_ x.I).N).Kind=11
    ·unfold nj at k5;rw [k1,SO W] at k5;simp only [cond_false] at k5;rw [k5,List.length_map]
    rw [SO h11,Bool.and_false,Bool.false_and,Bool.false_and]
   unfold qo;rw [kd,SO h9];simp only [Bool.and_false,Bool.false_and]
  rw [hg]
  cases hg':qo a (bR a.roots_ x.I) with
  |false=>exact ⟨S,ρ,h⟩
  |true=>exact ⟨S,ρ,h.grow vA vB (rtR x.I) (inR x.I) (inR x.J) hg'⟩
 |false=>
 rw [cf,cf]
 cases decide (x.Kind=2) with
 | true=>
  rw [ct,ct,el]
  cases decide (0<(a.roots_.length:Int))&&decide (0≤x.I) with
  |false=>exact ⟨S,ρ,h⟩
  | true=>
   refine ⟨S,ρ,h.ren,h.inA,h.inB,h.cell,fun v hv hb=> ?_,?_⟩
   ·rcases List.mem_or_eq_of_mem_set hv with hv|rfl
    ·exact h.rootIn v hv hb
    cases hb
   show b.roots_.set _ vZ=(a.roots_.set _ vZ).map _;rw [List.map_set, ←h.roots,hz]
 |false=>
 rw [cf,cf]
 cases decide (x.Kind=3) with
 | true=>
  rw [ct,ct,kd];by_cases h9:(bR a.roots_ x.I).Kind=9
  ·rw [SN h9,ct,ct]
   have hb:br (bR a.roots_ x.I)=true:=by unfold br;rw [h9];rfl
   have hS:=inR _ hb
   have e2: ∀v w:SG,w.Kind≠8→jt [⟨7,v.N,⟨#[]⟩⟩,w]=true:=fun v w hw=>by rw [ft,SO hw];rfl
   have hnh:=(rtR x.J).nohole
   refine h.alloc vA vB (c:=tW (bR a.roots_ x.I) (bR a.roots_ x.J)) (d:=tW (bu ρ S (bR a.roots_ x.I)) (bu ρ S (bR a.roots_ x.J))) (.inl U) U U U U ?_ (fun v hv hb=> ?_) (fun v hv hb=> ?_) fun _=>⟨e2 _ _ hnh,e2 _ _ (by rw [kd];exact hnh)⟩
   ·show [(⟨7,(bu ρ S (bR a.roots_ x.I)).N,⟨#[]⟩⟩:SG),bu ρ S (bR a.roots_ x.J)]=[bu ρ S ⟨7,(bR a.roots_ x.I).N,⟨#[]⟩⟩,bu ρ S (bR a.roots_ x.J)];rw [kk hb hS,kk (v:=⟨7,(bR a.roots_ x.I).N,⟨#[]⟩⟩) rfl hS]
   ·rw [List.mem_singleton.1 hv] at hb;cases hb
   simp only [tW,List.mem_cons,List.not_mem_nil,or_false] at hv;rcases hv with rfl|rfl
   ·exact hS
   exact inR _ hb
  rw [SO h9,cf,cf];exact ⟨S,ρ,h⟩
 |false=>
  rw [cf,cf]
  refine h.alloc vA vB (c:=Ag (bR a.roots_ x.I) (bR a.roots_ x.J)) (d:=Ag (bu ρ S (bR a.roots_ x.I)) (bu ρ S (bR a.roots_ x.J))) (.inr U) U U U U U (fun v hv _=>by cases hv) (fun v hv hb=> ?_) fun h8=>absurd h8 (by show (11:Int)≠8;omega)
  simp only [Ag,List.mem_cons,List.not_mem_nil,or_false] at hv;rcases hv with rfl|rfl
  ·exact inR _ hb
  exact inR _ hb
end
theorem Lc {N k:Nat}(hN:5000<N)(hk:k<40){a b:SK}(ha:TInv k a)(hb:TInv k b)(h:Al N a b)(x:Sy):Al N (kx a x) (kx b x):=by
 obtain ⟨a1,a2,a3⟩:=ha.sides W;obtain ⟨b1,b2,b3⟩:=hb.sides W;obtain ⟨LA,LB,ρ,i, -, -, -⟩:=FM hN ha.val hb.val a1 b1 a2 b2 a3 b3 h;obtain ⟨S',ρ',i'⟩:=i.follow ha.val hb.val x;have ha':=(nI hN ha hk x).2;have hb':=(nI hN hb hk x).2;obtain ⟨c1,c2,c3⟩:=ha'.sides W;obtain ⟨d1,d2,d3⟩:=hb'.sides W;exact i'.alike ha'.val hb'.val hN c1 d1 c2 d2 c3 d3
theorem MX {N k:Nat}(hN:5000<N){g:SK}(h:TInv k g)(hk:k≤40)(l:List Int)(i:Nat): ∃g',fh N g l (i:Int)=some (0,g')∧TInv k g'∧Al N g g':=by
 have same:Al N g g:=by
  obtain ⟨a1,a2,a3⟩:=h.sides hk;obtain ⟨A1,B1, -, -,u1,v1,r1⟩:=kW N hN a1 a1 a2 a2 a3 a3;rw [u1] at v1;obtain rfl:=Option.some.inj v1
  have i:Iso g.m_ g.m_ g.roots_ g.roots_ A1 id:=by
   have bA:=wq N W h.val;obtain ⟨b1,L1,i1, -, -, -,e1⟩:=iJ N hN a1 a2 a3;rw [bA,e1] at u1;obtain rfl:=Option.some.inj u1
   have hid: ∀v,bu id L1 v=v:=fun v=>by
    unfold bu;cases br v&&decide (v.N∈L1)<;>rfl
   have hids: ∀l:List SG,l.map (bu id L1)=l:=fun l=>by
    have:bu id L1=id:=funext hid;rw [this,List.map_id]
   obtain ⟨c1,c2⟩:=i1.closed;refine ⟨⟨fun _ _ _ _ e=>e,fun x hx=>Gw (i1.has.2 x hx)⟩,i1.has.2,i1.has.2,fun x hx=> ?_,fun v hv hb=>i1.sub (i1.roots (eo.2 ⟨v,hv,hb,U⟩) (h.val.rootH (eo.2 ⟨v,hv,hb,U⟩))),(hids _).symm⟩;have hh:=i1.has.2 x hx;have k:=(h.val.at_ hh).2.1;refine ⟨U,U,U,(hids _).symm,by rw [hids,List.map_id];rfl,fun v hv hb=> ?_,fun v hv hb=> ?_⟩
   ·have hx':v.N∈bD (be g.m_ x):=by rw [qF k];exact SR _ (eo.2 ⟨v,hv,hb,U⟩)
    exact c1 x hx _ hx' ((h.val.at_ hh).2.2.1 _ (SR _ hx'))
   unfold nj at hv;by_cases h8:(be g.m_ x).Kind=8
   ·rw [SN h8,cond_true] at hv;have wm:=h.val.wm (N:=N) W hh;rw [SN h8] at wm;refine HW wm (fun y hy=>c2 x hx y hy ?_) v hv hb;unfold bS at hy;rw [wm,cond_true] at hy;obtain ⟨u,hu,hub,rfl⟩:=oS hy;exact (h.val.at_ hh).2.2.1 _ (qx (SS _ hu) hub)
   rw [SO h8,cond_false] at hv
   have hx':v.N∈bD (be g.m_ x):=by
    rw [qF k,SO h8];exact SS _ (eo.2 ⟨v,hv,hb,U⟩)
   exact c1 x hx _ hx' ((h.val.at_ hh).2.2.1 _ (SR _ hx'))
  exact i.alike h.val h.val hN a1 a1 a2 a2 a3 a3
 unfold fh;by_cases hi:i<l.length
 ·rw [cV W,ct,bf hi,bs,bs,ct,bs,bs]
  cases decide (l[i]=1) with
  |true=>
   obtain ⟨g',e,h1,h2⟩:=Oh hN h hk;rw [ct,e,bs];exact ⟨g',U,h1,h2⟩
  | false=>
   rw [cf]
   cases decide (l[i]=2) with
   |true=>
    obtain ⟨g', -, -,e,h1,h2, -⟩:=zt hN h hk;rw [ct,e,bs];exact ⟨g',U,h1,h2⟩
   |false=>rw [cf];exact ⟨g,U,h,same⟩
 rw [cQ W,cf,bs,cf,cf,bs,cf];exact ⟨g,U,h,same⟩
theorem LL {k:Nat}{g:SK}(h:TInv k g):Gv g=0:=by
 have e1:dz g.m_ (bW (g.roots_++g.pending_))=true:=List.all_eq_true.2 fun x hx=>by
  rw [h.pend,List.append_nil] at hx;exact h.val.rootH hx
 have e2:((g.m_.Young++g.m_.Old).all fun c=>dz g.m_ (cy c))=true:=List.all_eq_true.2 fun c hc=>List.all_eq_true.2 (h.val.addr c hc)
 unfold Gv;rw [e1,e2,h.set,Jq];rfl
theorem zz (N:Nat){k:Nat}{g:SK}(h:HInv k g)(hk:k≤40):ez N g=some ((g.m_.Young.length:Int)+(g.m_.Old.length:Int)):=by
 have:=h.cnt;unfold ez aW;rw [bs,cf,r64 W W]
theorem zy {N:Nat}(hN:5000<N){g:SK}{k:Nat}(h:TInv k g)(hk:k≤40){live f:List Int}(c:CollCtx N g.m_ (g.roots_++g.pending_) live f){L:List Int}(hL:cw N g.m_ g.roots_=some L):(dP N g.m_ live f).Old.length=L.length:=by
 obtain ⟨a1,a2,a3⟩:=h.sides hk;obtain ⟨b1,L1,i1, -, -, -,e1⟩:=iJ N hN a1 a2 a3;rw [e1] at hL;obtain rfl:=ao hL;obtain ⟨b,all,ho,hlv, -⟩:=c.lv.ord;rw [h.pend,List.append_nil] at ho;obtain ⟨-,e⟩:=ho.det i1;have hl:=c.lv.len;rw [hlv,qC,e] at hl;unfold dP;simp only [List.length_map];exact hl
theorem new_t:TInv 0 ⟨⟨[],[]⟩,[],[],⟨[]⟩⟩:=by
 refine ⟨Of,⟨fun c hc=> ?_,fun c hc=> ?_,fun c hc=> ?_,fun c hc=> ?_,fun v hv=> ?_⟩,U,by kernel_rfl⟩
 ·cases hc
 ·cases hc
 ·cases hc
 ·cases hc
 cases hv
def Q0:SK:=kx ⟨⟨[],[]⟩,[],[],⟨[]⟩⟩ ⟨0,0,0⟩
def QJ:SK:=kx Q0 ⟨0,0,0⟩
def hT3:SK:=kx QJ ⟨2,0,0⟩
theorem Ix {N:Nat}(hN:5000<N){k:Nat}{g:SK}(h:TInv k g)(hk:k≤40)(h0:bW g.roots_=[]):cw N g.m_ g.roots_=some []:=by
 obtain ⟨a1,a2,a3⟩:=h.sides hk;obtain ⟨b1,L1,i1, -, -, -,e1⟩:=iJ N hN a1 a2 a3;rw [h0] at i1;obtain ⟨-,e⟩:=i1.det ⟨Thr.done (by exact Nat.le_refl _),Ord.done rfl⟩;rw [e1,e];rfl
set_option maxRecDepth 100000 in
theorem NE:er 6000=some true:=by
 have hN:5000<6000:=by decide
 obtain ⟨e1,t1⟩:=nI hN new_t W ⟨0,0,0⟩;have t1:TInv 1 Q0:=t1;obtain ⟨e2,t2⟩:=nI hN t1 W ⟨0,0,0⟩;have t2:TInv 2 QJ:=t2;obtain ⟨-,t3⟩:=nI hN t2 W ⟨2,0,0⟩;have t3:TInv 3 hT3:=t3
 have l2:ez 6000 QJ=some 2:=by kernel_rfl
 have s3:dS 6000 QJ 0 ⟨0,0,⟨#[]⟩⟩=some (true,hT3):=by kernel_rfl
 have o3:cw 6000 hT3.m_ hT3.roots_=some [3,1]:=by kernel_rfl
 have r3:hT3.roots_=[vZ,⟨9,3,⟨#[]⟩⟩]:=by kernel_rfl
 obtain ⟨g,live,f,m1,t4, -,c4,n4,q4⟩:=zt hN t3 W;have ll4:=zy hN t3 W c4 o3;rw [r3] at q4;have q4:g.roots_=[vZ,bu (mc f) f ⟨9,3,⟨#[]⟩⟩]:=q4
 have hz:in64 (⟨0,0,⟨#[]⟩⟩:SG).N:=by show in64 0;unfold in64;omega
 obtain ⟨s5, -⟩:=C0 (N:=6000) (i:=1) (v:=⟨0,0,⟨#[]⟩⟩) t4.inv hz
 have b5:th g 1=true:=by unfold th;rw [q4];rfl
 rw [b5,ct] at s5
 have r5:g.roots_.set (1:Int).toNat ⟨0,0,⟨#[]⟩⟩=[vZ,vZ]:=by rw [q4];rfl
 rw [r5] at s5;obtain ⟨-,t5⟩:=nI hN t4 W ⟨2,1,0⟩
 have f5:kx g ⟨2,1,0⟩=⟨g.m_,[vZ,vZ],g.pending_,g.set_⟩:=by
  unfold kx;rw [q4];rfl
 rw [f5] at t5;obtain ⟨g6,live6,f6,m6,t6, -,c6,n6, -⟩:=zt hN t5 W;have ll6:=zy hN t5 W c6 (Ix hN t5 W rfl);have e1:cE 6000 ⟨⟨[],[]⟩,[],[],⟨[]⟩⟩ ⟨0,0,0⟩=some Q0:=e1;have e2:cE 6000 Q0 ⟨0,0,0⟩=some QJ:=e2;have y4:(dP 6000 hT3.m_ live f).Young.length=0:=rfl;have y6:(dP 6000 g.m_ live6 f6).Young.length=0:=rfl;have ll6:(dP 6000 g.m_ live6 f6).Old.length=0:=ll6;unfold er oY qt;rw [bs,bs,e1,bs,e2,bs,l2,bs,SN (p:=(2:Int)=2) rfl,nt,cf,s3,bs,nt,cf,m1,bs,SN (p:=(0:Int)=0) rfl,nt,cf,zz 6000 t4.inv W,bs,n4,y4,ll4]
 have d2:decide (((0:Nat):Int)+(([3,1]:List Int).length:Int)=2)=true:=by decide
 rw [d2,ct,s5,bs,ct,m6,bs,SN (p:=(0:Int)=0) rfl,ct,zz 6000 t6.inv W,bs,n6,y6,ll6];rfl
theorem Kx {k:Nat}(hk:k≤40){a b:SK}(ha:TInv k a)(hb:TInv k b)(h:Al 6000 a b):dY 6000 a.m_.Young a.m_.Old a.roots_ a.pending_ b.m_.Young b.m_.Old b.roots_ b.pending_ a.set_.at_ b.set_.at_=some true:=by
 have hN:5000<6000:=by decide
 obtain ⟨a1,a2,a3⟩:=ha.sides hk;obtain ⟨b1,b2,b3⟩:=hb.sides hk;have ea:(⟨(⟨a.m_.Young,a.m_.Old⟩:SB),a.roots_,a.pending_,(⟨a.set_.at_⟩:SH)⟩:SK)=a:=rfl;have eb:(⟨(⟨b.m_.Young,b.m_.Old⟩:SB),b.roots_,b.pending_,(⟨b.set_.at_⟩:SH)⟩:SK)=b:=rfl;have h19:dE 6000 a.m_ a.roots_ b.m_ b.roots_=some true:=h;obtain ⟨LA,LB,ρ, -,eL,oA,oB⟩:=FM hN ha.val hb.val a1 b1 a2 b2 a3 b3 h;obtain ⟨ga,la,fa,m1,t1, -,c1,n1, -⟩:=zt hN ha hk;obtain ⟨gb,lb,fb,m2,t2, -,c2,n2, -⟩:=zt hN hb hk;have l1:=zy hN ha hk c1 oA;have l2:=zy hN hb hk c2 oB
 have q:decide ((ga.m_.Young.length:Int)+(ga.m_.Old.length:Int)=(gb.m_.Young.length:Int)+(gb.m_.Old.length:Int))=true:=by
  rw [n1,n2];have y1:(dP 6000 a.m_ la fa).Young.length=0:=rfl;have y2:(dP 6000 b.m_ lb fb).Young.length=0:=rfl;rw [y1,y2,l1,l2,eL,List.length_map];exact SN U
 have ra:=a1.roots;have rb:=b1.roots;unfold dY;rw [ea,eb,BH hN ha.inv hk,LL ha,bs,SN (p:=(0:Int)=0) rfl,nt,cf,BH hN hb.inv hk,LL hb,bs,bs,SN (p:=(0:Int)=0) rfl,nt,cf,Fm hN a1,bs,si 6000 a W,bs,Fm hN b1,bs,si 6000 b W,bs,h19,bs,nt,cf,m1,bs,SN (p:=(0:Int)=0) rfl,ct,m2,bs,SN (p:=(0:Int)=0) rfl,ct,zz 6000 t1.inv hk,bs,zz 6000 t2.inv hk,bs,bs,q,ct,NE];rfl
theorem PT:Al 6000 ⟨⟨[],[]⟩,[],[],⟨[]⟩⟩ ⟨⟨[],[]⟩,[],[],⟨[]⟩⟩:=by
 obtain ⟨a1,a2,a3⟩:=new_t.sides W;have i:Iso ⟨[],[]⟩ ⟨[],[]⟩ [] [] [] id:=⟨⟨fun _ _ h=>(by cases h),fun _ h=>(by cases h)⟩,fun _ h=>(by cases h),fun _ h=>(by cases h),fun _ h=>(by cases h),fun _ h=>(by cases h),rfl⟩;exact i.alike new_t.val new_t.val (by decide) a1 a1 a2 a2 a3 a3
theorem Kw (l:List Sy)(a b:List Int):gJ 6000 l a b=some true:=by
 have hN:5000<6000:=by decide
 unfold gJ oY qt;rw [bs,bs,bs];by_cases hl: ¬l.length≤40
 ·rw [cV W,ct,NE];rfl
 rw [cQ W,cf];apply Sat.eq;refine cR (fun k i (s:SK×SK)=>cF 6000 l a b k (i:Int) s.1.m_.Young s.1.m_.Old s.1.roots_ s.1.pending_ s.2.m_.Young s.2.m_.Old s.2.roots_ s.2.pending_ s.1.set_.at_ s.2.set_.at_) l.length (fun i s=>TInv i s.1∧TInv i s.2∧Al 6000 s.1 s.2) _ ?_ ?_ 6000 0 (⟨⟨[],[]⟩,[],[],⟨[]⟩⟩,⟨⟨[],[]⟩,[],[],⟨[]⟩⟩) W W ⟨new_t,new_t,PT⟩
 ·rintro k i ⟨g,g2⟩ hi ⟨h1,h2,h3⟩ go;show Sat (cF 6000 l a b (k+1) (i:Int) g.m_.Young g.m_.Old g.roots_ g.pending_ g2.m_.Young g2.m_.Old g2.roots_ g2.pending_ g.set_.at_ g2.set_.at_) _;simp only at h1 h2 h3;obtain ⟨e1,t1⟩:=nI hN h1 W l[i];obtain ⟨e2,t2⟩:=nI hN h2 W l[i];have al:=Lc hN W h1 h2 h3 l[i];obtain ⟨c1,e3,t3,al3⟩:=MX hN t1 W a i;obtain ⟨c2,e4,t4,al4⟩:=MX hN t2 W b i;have eg:(⟨(⟨g.m_.Young,g.m_.Old⟩:SB),g.roots_,g.pending_,(⟨g.set_.at_⟩:SH)⟩:SK)=g:=rfl;have eg2:(⟨(⟨g2.m_.Young,g2.m_.Old⟩:SB),g2.roots_,g2.pending_,(⟨g2.set_.at_⟩:SH)⟩:SK)=g2:=rfl;rw [cF.eq_2,cV W,ct,bf hi,bs,eg,eg2,e1,bs,bs,e2,bs,e3,bs,SN (p:=(0:Int)=0) rfl,nt,cf,e4,bs,SN (p:=(0:Int)=0) rfl,nt,cf,r64 W W];exact go (c1,c2) ⟨t3,t4,(al3.symm hN W t1 t3).trans hN W t3 t1 t4 (al.trans hN W t1 t2 t4 al4)⟩
 rintro k ⟨g,g2⟩ ⟨h1,h2,h3⟩;show Sat (cF 6000 l a b (k+1) (l.length:Int) g.m_.Young g.m_.Old g.roots_ g.pending_ g2.m_.Young g2.m_.Old g2.roots_ g2.pending_ g.set_.at_ g2.set_.at_) _;rw [cF.eq_2,cQ W,cf,Kx W h1 h2 h3];exact aQ U
end
end Go.Proofs.YtmimkglhbmcokaaGreat