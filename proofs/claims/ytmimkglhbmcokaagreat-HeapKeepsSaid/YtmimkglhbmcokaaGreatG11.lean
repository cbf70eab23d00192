/- Merged texts: part 11. No conditions of their own. -/
import Derived.Test.YtmimkglhbmcokaaGreatG10
import Derived.Test.YtmimkglhbmcokaaGreatG9
import Derived.IntWalk
namespace Go.Proofs.YtmimkglhbmcokaaGreat
section
open Go.RowKit
theorem Bk {c:Ra}{v:Q5}(hv:v∈c.Slots++c.More)(hb:bM v=true):v.N∈cO c:=by
 unfold cO;rcases List.mem_append.1 hv with hv|hv
 ·exact Rp _ (FW (f:=bL c) (fun x hx=>hx) v hv hb)
 obtain ⟨j,hj,e⟩:=List.getElem_of_mem hv
 cases hw:i7 c.Kind j with
 |false=>exact Rp _ (vC (f:=bL c) (fun x hx=>hx) (by rw [List.getElem?_eq_getElem hj,e]) hw hb)
 |true=>exact Rq _ (AZ (j:=j) (by rw [List.getElem?_eq_getElem hj,e]) (by rw [Nat.zero_add,hw,hb];rfl))
theorem vy {p:Int→Bool}{x:Int}: ∀{l:List Q5},x∈opens p l→ ∃v∈l,bM v=true∧v.N=x
 | [],h=>by simp [opens] at h
 | [_],h=>by simp [opens] at h
 | k::v::l,h=>by
  rw [iL] at h;rcases List.mem_append.1 h with h|h
  ·cases hv:bM v&&p k.N with
   |false=>rw [hv] at h;cases h
   |true=>
    rw [hv] at h;rw [Bool.and_eq_true] at hv;exact ⟨v,by simp,hv.1,(List.mem_singleton.1 h).symm⟩
  obtain ⟨w,h1,h2⟩:=vy h;exact ⟨w,by simp [h1],h2⟩
structure CollCtx (N:Nat) (m:Rg) (roots:List Q5) (live f:List Int):Prop where
 big:5000<N
 small:Small m roots
 tot:Wtd m roots
 w64:W64 m
 r64: ∀v∈roots,in64 v.N
 lv:Live N m roots live f
 right: ∀c∈m.Young++m.Old,dz c=true
 addr: ∀c∈m.Young++m.Old, ∀x∈cO c,br m x=true
 roots: ∀x∈ce roots,br m x=true
theorem O4 {N:Nat}(hN:5000<N){m:Rg}{roots:List Q5}(hs:Small m roots)(ht:Wtd m roots)(hw:W64 m)(hr: ∀v∈roots,in64 v.N){live f:List Int}(hl:Live N m roots live f)(h0:np N m roots=0):CollCtx N m roots live f:=by
 obtain ⟨h1,h2,h3⟩:=Et h0;exact ⟨hN,hs,ht,hw,hr,hl,fun c hc=>by have:=hs.cells c hc;rw [←KD (N:=N) Y this.1 this.2];exact h1 c hc,h2,h3⟩
section
variable {N:Nat} {m:Rg} {roots:List Q5} {live f:List Int} (h:CollCtx N m roots live f)
include h
theorem CollCtx.mem (x:Int):x∈live↔x∈f:=(h.lv.mem x).symm
theorem CollCtx.cell {a:Int}(ha:a∈f):CellOk N live f (bU m a):=by
 have hm:=vS (h.lv.fhas ha);obtain ⟨b,all,ho,hlv, -⟩:=h.lv.ord
 have hall: ∀x,x∈all↔x∈f:=fun x=>by rw [←h.mem x,hlv];exact (pq all x).symm
 obtain ⟨q1,q2⟩:=ho.closed;have hs:=h.small.cells _ hm;have hN:=h.big;refine ⟨by omega,h.right _ hm,hs.1,hs.2,fun x hx=> ?_,fun x hx=> ?_,h.mem⟩
 ·exact (hall x).1 (q1 a ((hall a).2 ha) x hx (h.addr _ hm x (Rp _ hx)))
 have e:ca N (bU m a) live=ca N (bU m a) all:=by
  unfold ca;rw [F9 (q:=fun x=>decide (x∈all)) fun x=>eQ (by rw [h.mem x];exact (hall x).symm)]
 rw [e] at hx;refine (hall x).1 (q2 a ((hall a).2 ha) x hx ?_);unfold ca at hx
 cases hw:km N (bU m a) with
 |false=>rw [hw] at hx;cases hx
 |true=>
  rw [hw] at hx;obtain ⟨v,hv,hb,rfl⟩:=vy hx;exact h.addr _ hm _ (Bk (Rq _ hv) hb)
theorem CollCtx.root {x:Int}(hx:x∈ce roots):x∈f:=by
 obtain ⟨b,all,ho,hlv, -⟩:=h.lv.ord;rw [←h.mem x,hlv,pq];exact ho.sub (ho.roots hx (h.roots x hx))
theorem CollCtx.rootIn:fo f roots:=fun v hv hb=>h.root (lA.2 ⟨v,hv,hb,rfl⟩)
end
def eB (N:Nat)(m:Rg)(live f:List Int):Rg:=⟨[],f.map fun a=>f0 (lg f) f (jp N live (bU m a))⟩
def Qv (N:Nat)(m:Rg)(live f:List Int)(a:Int):Ra:=f0 (lg f) f (jp N live (bU m a))
theorem yf {N:Nat}{m:Rg}{live f:List Int}{a:Int}(ha:a∈f):br (eB N m live f) (lg f a)=true:=by
 unfold lg;rw [wZ];exact Rk (by unfold eB;simp only [List.length_map];exact rN ha)
theorem MT {N:Nat}{m:Rg}{live f:List Int}{a:Int}(ha:a∈f):bU (eB N m live f) (lg f a)=f0 (lg f) f (jp N live (bU m a)):=by
 have e:lg f a=2*((f.idxOf a:Nat):Int)+2:=rfl;rw [e,uZ _ _ (by unfold eB;simp only [List.length_map];exact rN ha)];unfold eB;simp only [List.getElem_map];rw [oe ha]
theorem vB {f:List Int}{v:Q5}(hf:f.length≤100000)(hv:in64 v.N):in64 (bR (lg f) f v).N:=by
 unfold bR
 cases hb:bM v&&decide (v.N∈f) with
 |false=>exact hv
 |true=>
  rw [Bool.and_eq_true,decide_eq_true_eq] at hb;have:=rN hb.2;show in64 (lg f v.N);unfold lg in64;omega
theorem Iu {N:Nat}{lv:List Int}{c:Ra}{v:Q5}(hv:v∈(jp N lv c).Slots++(jp N lv c).More):v∈c.Slots++c.More∨v=lB:=by
 unfold jp at hv
 cases h8:decide (c.Kind=8) with
 |true=>rw [h8] at hv;exact .inl (xb hv)
 | false=>
  rw [h8] at hv
  cases h10:decide (c.Kind=10) with
  |false=>rw [h10] at hv;exact .inl hv
  |true=>
   rw [h10] at hv;have hv':v∈c.Slots++(c.More.take 1++ex lv (c.More.drop 1)):=hv;rcases List.mem_append.1 hv' with hv'|hv'
   ·exact .inl (Rp _ hv')
   rcases List.mem_append.1 hv' with hv'|hv'
   ·exact .inl (Rq _ (List.mem_of_mem_take hv'))
   rcases CG lv hv' with hv'|hv'
   ·exact .inl (Rq _ (List.mem_of_mem_drop hv'))
   exact .inr hv'
theorem Bx {lv:List Int}{cb v:Q5}: ∀{l:List Q5},v∈ig lv cb l→v=cb∨v∈l
 | [],h=>by simp [ig] at h
 | [_],h=>by simp [ig] at h
 | [_,_],h=>by simp [ig] at h
 | [_,_,_],h=>by simp [ig] at h
 | t::a::k::s::r,h=>by
  simp only [wL] at h;rcases List.mem_append.1 h with h|h
  ·cases hd:decide (t.N∈lv) with
   |true=>rw [hd] at h;cases h
   |false=>rw [hd] at h;simp at h;rcases h with h|h|h<;>subst h<;>simp
  rcases Bx h with h|h
  ·exact .inl h
  exact .inr (by simp [h])
section
variable {N:Nat} {m:Rg} {roots:List Q5} {live f:List Int} (h:CollCtx N m roots live f)
include h
theorem CollCtx.flen:f.length≤1200:=by rw [h.lv.len];exact h.lv.small
theorem CollCtx.flen6:f.length≤600:=by
 have h1:=ot (fun _=>1) h.lv.nd fun a ha=>sj (h.lv.fhas ha)
 have h2: ∀l:List Int,cE (fun _=>1) l=l.length:=fun l=>by
  induction l with
  |nil=>rfl
  |cons x l ih=>rw [cE,ih,List.length_cons];omega
 rw [h2,h2] at h1;have h3:=h.tot.cnt;unfold yT at h1;simp only [List.length_append,List.length_map,List.length_range] at h1;omega
theorem CollCtx.nextW:W64 (eB N m live f):=fun c hc v hv=>by
 have hl:=h.flen
 have hc':c∈f.map fun a=>f0 (lg f) f (jp N live (bU m a)):=hc
 obtain ⟨a,ha,rfl⟩:=List.mem_map.1 hc'
 have hv':v∈((jp N live (bU m a)).Slots++(jp N live (bU m a)).More).map (bR (lg f) f):=by rw [List.map_append];exact hv
 obtain ⟨w,hw,rfl⟩:=List.mem_map.1 hv';refine vB Y ?_;rcases Iu hw with hw|rfl
 ·exact h.w64.at_ a w hw
 show in64 0;unfold in64;omega
theorem CollCtx.nextS (l:List Q5)(hl:l.length≤600):Small (eB N m live f) l:=by
 refine ⟨Nat.zero_le _,?_,hl,fun c hc=> ?_⟩
 ·unfold eB;simp only [List.length_map];exact h.flen6
 have hc':c∈f.map fun a=>f0 (lg f) f (jp N live (bU m a)):=hc
 obtain ⟨a,ha,rfl⟩:=List.mem_map.1 hc';obtain ⟨-,g2,g3, -⟩:=(CellOk.new (qO f) (h.cell ha));exact ⟨g2,g3⟩
end
theorem zP {ρ:Int→Int}{f:List Int}: ∀{l:List Q5},fo f l→ce (l.map (bR ρ f))=(ce l).map ρ
 | [],_=>rfl
 | v::l,h=>by
  have ih:=zP (ρ:=ρ) (l:=l) fun w hw=>h w (by simp [hw])
  unfold ce at ih⊢;rw [List.map_cons,List.filter_cons,List.filter_cons,sU]
  cases hb:bM v with
  |false=>exact ih
  |true=>
   simp only [if_true,List.map_cons,ih];rw [sT hb (h v (by simp) hb)]
theorem qG {α β:Type}(g:α→β)(p:α×β→Bool): ∀l:List α,(l.zip (l.map g)).all p=l.all fun a=>p (a,g a)
 | []=>rfl
 |a::l=>by rw [List.map_cons,List.zip_cons_cons,List.all_cons,List.all_cons,qG g p l]
theorem Lx {ρ:Int→Int}{f A:List Int}{ha hb:Int→Bool}(hρ:Ren ρ f)(hA: ∀x∈A,x∈f)(h1: ∀x∈f,ha x=true)(h2: ∀x∈f,hb (ρ x)=true){v:Q5}(hv:bM v=true→v.N∈f):J8 ha hb A (A.map ρ) v (bR ρ f v)=true:=by
 cases hh:bM v with
 |false=>
  rw [MV hh];unfold J8;rw [hh];exact Rk U
 |true=>
  have hf:=hv hh;rw [sT hh hf];unfold J8;have hh2:bM (⟨v.Kind,ρ v.N,v.S⟩:Q5)=true:=hh;rw [hh,hh2];simp only [Bool.not_true,Bool.or_self,cond_false];rw [Rk (p:=True) trivial,beq_self_eq_true,eQ (ES hρ hA hf),h1 _ hf,h2 _ hf];by_cases hm:v.N∈A
  ·rw [Rk hm,D4 hρ hf hA,Rk (p:=A.idxOf v.N=A.idxOf v.N) rfl];rfl
  rw [Rl hm];rfl
theorem pw {ρ:Int→Int}{f A:List Int}{ha hb:Int→Bool}(hρ:Ren ρ f)(hA: ∀x∈A,x∈f)(h1: ∀x∈f,ha x=true)(h2: ∀x∈f,hb (ρ x)=true){l:List Q5}(hl:fo f l):wG ha hb A (A.map ρ) l (l.map (bR ρ f))=true:=by
 unfold wG;rw [qG,Rk (by simp),Bool.true_and,List.all_eq_true]
 exact fun v hv=>Lx hρ hA h1 h2 (hl v hv)
theorem yb {F:Nat→Q5→Bool}{x:Int}(hB: ∀i v,F i v=true→bM v=true): ∀{i:Nat} {l:List Q5},x∈pick F i l→ ∃v∈l,bM v=true∧v.N=x
 |_,[],h=>by cases h
 | i,v::l,h=>by
  rw [gy] at h;rcases List.mem_append.1 h with h|h
  ·cases hf:F i v with
   |false=>rw [hf] at h;cases h
   |true=>rw [hf] at h;exact ⟨v,by simp,hB i v hf,(List.mem_singleton.1 h).symm⟩
  obtain ⟨w,g1,g2⟩:=yb hB h;exact ⟨w,by simp [g1],g2⟩
theorem zQ {c:Ra}{x:Int}(h:x∈cO c): ∃v∈c.Slots++c.More,bM v=true∧v.N=x:=by
 unfold cO bL kq at h;rcases List.mem_append.1 h with h|h
 ·rcases List.mem_append.1 h with h|h
  ·obtain ⟨v,g1,g2⟩:=yb (fun _ _ h=>h) h;exact ⟨v,Rp _ g1,g2⟩
  obtain ⟨v,g1,g2⟩:=yb (fun i v h=>((Bool.and_eq_true _ _).mp h).2) h;exact ⟨v,Rq _ g1,g2⟩
 obtain ⟨v,g1,g2⟩:=yb (fun i v h=>((Bool.and_eq_true _ _).mp h).2) h;exact ⟨v,Rq _ g1,g2⟩
section
variable {N:Nat} {m:Rg} {roots:List Q5} {live f:List Int} (h:CollCtx N m roots live f)
include h
theorem CollCtx.atB {a:Int}(ha:a∈f):bU (dc N m) a=ck N (bU m a):=sC N m a (h.lv.fhas ha)
theorem CollCtx.atNB {a:Int}(ha:a∈f):bU (dc N (eB N m live f)) (lg f a)=ck N (f0 (lg f) f (jp N live (bU m a))):=by
 have _:=h;rw [sC N _ _ (yf ha),MT ha]
theorem CollCtx.graph:MapG (An N (dc N m)) (An N (dc N (eB N m live f))) (lg f) (· ∈f):=by
 refine ⟨fun a b ha hb e=>H8 ha hb e,fun a ha=>⟨?_,?_⟩,fun a ha=> ?_,fun row a hr ha=> ?_⟩
 ·show br (dc N m) a=true;rw [mH];exact h.lv.fhas ha
 ·show br (dc N (eB N m live f)) (lg f a)=true;rw [mH];exact yf ha
 ·show bL (bU (dc N (eB N m live f)) (lg f a))=(bL (bU (dc N m) a)).map (lg f)∧ ∀x∈bL (bU (dc N m) a),x∈f;rw [h.atNB ha,h.atB ha];exact CellOk.leadsG (qO f) (h.cell ha)
 show ca N (bU (dc N (eB N m live f)) (lg f a)) (row.map (lg f))=(ca N (bU (dc N m) a) row).map (lg f)∧ ∀x∈ca N (bU (dc N m) a) row,x∈f;rw [h.atNB ha,h.atB ha];exact CellOk.opensG (qO f) (h.cell ha) hr
theorem CollCtx.now64: ∀v∈roots.map (bR (lg f) f),in64 v.N:=fun v hv=>by
 have hl:=h.flen;obtain ⟨w,hw,rfl⟩:=List.mem_map.1 hv;exact vB Y (h.r64 w hw)
theorem CollCtx.alikeR {R:List Q5}(hR:fo f R)(hl:R.length≤600)(r64: ∀v∈R,in64 v.N):fB N m R (eB N m live f) (R.map (bR (lg f) f))=some true:=by
 have hN:=h.big;have hfl:=h.flen;have hs:Small m R:=⟨h.small.young,h.small.old,hl,h.small.cells⟩
 have now64: ∀v∈R.map (bR (lg f) f),in64 v.N:=fun v hv=>by
  obtain ⟨w,hw,rfl⟩:=List.mem_map.1 hv;exact vB Y (r64 w hw)
 have hsN:=h.nextS (R.map (bR (lg f) f)) (by rw [List.length_map];exact hl);obtain ⟨LA,LB,sA,sB,oA,oB,p2⟩:=Ez N hN hs hsN h.w64 h.nextW r64 now64;obtain ⟨b1,L1,i1, -, -, -,e1⟩:=pv N hN (hs.bare N) (h.w64.bare N) r64;obtain ⟨b2,L2,i2, -, -, -,e2⟩:=pv N hN (hsN.bare N) (h.nextW.bare N) now64;rw [e1] at oA;rw [e2] at oB;obtain rfl:=Option.some.inj oA;obtain rfl:=Option.some.inj oB
 obtain ⟨i3,hL1⟩:=h.graph.isOrder i1 fun x hx=>by obtain ⟨v,hv,hb,rfl⟩:=lA.1 hx;exact hR v hv hb
 rw [zP hR] at i2;obtain ⟨-,eL⟩:=i2.det i3;subst eL
 have hA1: ∀x∈f,br (dc N m) x=true:=fun x hx=>by rw [mH];exact h.lv.fhas hx
 have hA2: ∀x∈f,br (dc N (eB N m live f)) (lg f x)=true:=fun x hx=>by rw [mH];exact yf hx
 have key:va N (dc N m) R L1 (dc N (eB N m live f)) (R.map (bR (lg f) f)) (L1.map (lg f))=true:=by
  unfold va;rw [Rk (by simp),pw (qO f) hL1 hA1 hA2 hR,qG,Bool.true_and,Bool.true_and,List.all_eq_true];intro a ha;have haf:=hL1 a ha;simp only;rw [h.atB haf,h.atNB haf,CellOk.cleanG (qO f) (h.cell haf) hL1];obtain ⟨d1,d2⟩:=(h.cell haf).inD hL1;generalize cV N L1 (ck N (bU m a))=hD at*;unfold GF f0;rw [pw (qO f) hL1 hA1 hA2 d1,pw (qO f) hL1 hA1 hA2 d2,Rk (p:=hD.Kind=hD.Kind) rfl,Rk (p:=hD.Shape=hD.Shape) rfl,Rk (p:=hD.Flags=hD.Flags) rfl];rfl
 rw [p2,key]
theorem CollCtx.newHas {l:List Q5}(hl:fo f l){v:Q5}(hv:v∈l.map (bR (lg f) f))(hb:bM v=true):br (eB N m live f) v.N=true:=by
 have _:=h;obtain ⟨w,hw,rfl⟩:=List.mem_map.1 hv;rw [sU] at hb;have:=hl w hw hb;rw [sT hb this];exact yf this
theorem CollCtx.nextAddr {c:Ra}(hc:c∈f.map fun a=>f0 (lg f) f (jp N live (bU m a))):dz c=true∧ ∀x∈cO c,br (eB N m live f) x=true:=by
 obtain ⟨a,ha,rfl⟩:=List.mem_map.1 hc;refine ⟨(CellOk.new (qO f) (h.cell ha)).1,fun x hx=> ?_⟩;obtain ⟨v,hv,hb,rfl⟩:=zQ hx;obtain ⟨i1,i2⟩:=(h.cell ha).inC;rcases List.mem_append.1 hv with hv|hv
 ·exact h.newHas i1 hv hb
 exact h.newHas i2 hv hb
end
end
section
open Go.RowKit
theorem H4 {lv f:List Int}{cb:Q5}(hcb:bM cb=true→cb.N∈f): ∀{l:List Q5},kD l=true→(∀j v,l[4*j+1]? =some v→bM v=true→v.N∈f)→fo f (ig lv cb l)
 | [],_,_=>fun v hv=>by simp [ig] at hv
 | [_],h,_=>by cases h
 | [_,_],h,_=>by cases h
 | [_,_,_],h,_=>by cases h
 | t ::a::k::s::r,h,ho=>by
  rw [lc] at h;simp only [Bool.and_eq_true,decide_eq_true_eq] at h;obtain ⟨⟨⟨h1, -⟩,h3,h4⟩,h5⟩:=h
  have ih:=H4 (lv:=lv) hcb h5 fun j v hj hb=>ho (j+1) v (by rw [show 4*(j+1)+1=4*j+1+4 by omega];simpa using hj) hb
  intro w hw hb;simp only [wL] at hw;rcases List.mem_append.1 hw with hw|hw
  ·cases hd:decide (t.N∈lv) with
   |true=>rw [hd] at hw;cases hw
   | false=>
    rw [hd] at hw;simp only [cond_false,List.mem_cons,List.not_mem_nil,or_false] at hw;rcases hw with rfl|rfl|rfl
    ·exact hcb hb
    ·exact ho 0 w U hb
    have:w.Kind=3:=by
     unfold numB at h4;rw [Bool.and_eq_true,decide_eq_true_eq] at h4;exact h4.1
    unfold bM at hb;rw [this] at hb;cases hb
  exact ih w hw hb
theorem CellOk.toldIn {N:Nat}{lv f:List Int}{c:Ra}(h:CellOk N lv f c):fo f (ga lv c):=by
 unfold ga;by_cases h10:c.Kind=10
 ·rw [Rk h10];obtain ⟨q1,q2,q3⟩:=h.ent4 h10
  obtain ⟨a,r,hr⟩: ∃a r,c.More=a::r:=by
   cases hm:c.More with
   |nil=>rw [hm] at q1;simp at q1
   |cons a r=>exact ⟨a,r,rfl⟩
  rw [hr] at q3;have q3':kD r=true:=q3;unfold tg;rw [hr]
  refine H4 (fun hb=>vC h.leads (j:=0) (v:=a) (by rw [hr];rfl) (by unfold i7;rw [h10];rfl) hb) q3' fun j w hj hw=>vC h.leads (j:=4*j+2) (by rw [hr,show 4*j+2=(4*j+1)+1 by omega,List.getElem?_cons_succ];exact hj) ?_ hw
  unfold i7;rw [h10]
  have e1:(((4*j+2:Nat):Int) - 1).tmod 4=1:=by rw [Int.tmod_eq_emod_of_nonneg Y];omega
  have e2:((1:Int)).tmod 2=1:=rfl;rw [e1,e2];cases decide ((0:Int)<((4*j+2:Nat):Int))<;>rfl
 rw [Rl h10];intro v hv;cases hv
def cu (n:Nat):List Int:=(List.range n).map fun i:Nat=>2*(i:Int)+2
theorem J4 (n:Nat):(cu n).Pairwise (· < ·):=by
 unfold cu;rw [List.pairwise_map]
 exact List.pairwise_lt_range.imp fun h=>by omega
theorem D7 {n i:Nat}(h:i<(cu n).length):(cu n)[i]=2*(i:Int)+2:=by simp [cu]
def pW (g:Gr)(live:List Int):List Int→List Int→List Int
 |row,[]=>row
 |row,a::avs=>pW g live (dn g.has row (g.opens live a)) avs
inductive MOrd (g:Gr) (olds kept:List Int):List Int→List Int→Prop
 |done {row:List Int}:pW g (olds++row) row (kept++row)=row→MOrd g olds kept row row
 |step {row r1 r:List Int}:pW g (olds++row) row (kept++row)≠row→Thr g (pW g (olds++row) row (kept++row)) row.length r1→MOrd g olds kept r1 r→MOrd g olds kept row r
structure IsMinor (g:Gr) (olds kept start b l:List Int):Prop where
 strong:Thr g (dn g.has [] start) 0 b
 all:MOrd g olds kept b l
theorem se (g:Gr)(live:List Int): ∀(row avs:List Int), ∃t,pW g live row avs=row++t
 |row,[]=>⟨[],by simp [pW]⟩
 |row,a::avs=>by
  obtain ⟨t,h1, -⟩:=gN g.has row (g.opens live a);obtain ⟨t2,h2⟩:=se g live (dn g.has row (g.opens live a)) avs;exact ⟨t++t2,by unfold pW;rw [h2,h1,Rn]⟩
theorem DR (g:Gr)(live:List Int): ∀(row avs bs:List Int),pW g live row (avs++bs)=pW g live (pW g live row avs) bs
 |_,[],_=>rfl
 |row,a::avs,bs=>by
  show pW g live _ (avs++bs)=_;rw [DR g live _ avs bs];rfl
theorem DS {g:Gr}{live:List Int}: ∀{row avs:List Int},pW g live row avs=row→ ∀a∈avs, ∀x∈g.opens live a,g.has x=true→x∈row
 | row,b::avs,h,a,ha,x,hx,hh=>by
  have h1:dn g.has row (g.opens live b)=row:=by
   obtain ⟨t,e1, -⟩:=gN g.has row (g.opens live b);obtain ⟨t2,e2⟩:=se g live (dn g.has row (g.opens live b)) avs
   have h3:row++t++t2=row:=by rw [←e1, ←e2];exact h
   have h4:=congrArg List.length h3;simp only [List.length_append] at h4;have h5:t=[]:=List.eq_nil_of_length_eq_zero Y;rw [e1,h5,List.append_nil]
  rcases List.mem_cons.1 ha with e|ha
  ·subst e;have:=so row _ hx hh;rwa [h1] at this
  refine DS (avs:=avs) ?_ a ha x hx hh;unfold pW at h;rw [h1] at h;exact h
theorem MOrd.app {g:Gr}{olds kept row r:List Int}(h:MOrd g olds kept row r): ∃t,r=row++t:=by
 induction h with
 |done _=>exact ⟨[],by simp⟩
 |step _ h1 _ ih=>
  rename_i row r1 _ _ _
  obtain ⟨t,rfl⟩:=ih;obtain ⟨t1,rfl⟩:=h1.app;obtain ⟨t2,h2⟩:=se g (olds++row) row (kept++row);exact ⟨t2++t1++t,by rw [h2];simp [Rn]⟩
theorem MOrd.closed {g:Gr}{olds kept row r:List Int}(h:MOrd g olds kept row r)(hc:CloG g row row.length):CloG g r r.length∧ ∀a∈kept++r, ∀x∈g.opens (olds++r) a,g.has x=true→x∈r:=by
 induction h with
 |done hp=>exact ⟨hc,DS hp⟩
 |step _ h1 _ ih=>
  rename_i row _ _ _ _
  obtain ⟨t,e⟩:=se g (olds++row) row (kept++row);refine ih (h1.clo (by rw [e,List.length_append];omega) ?_);rw [e];exact hc.app (Nat.le_refl _)
theorem IsMinor.start {g:Gr}{olds kept start b l:List Int}(h:IsMinor g olds kept start b l){x:Int}(hx:x∈start)(hh:g.has x=true):x∈l:=by
 obtain ⟨t,e⟩:=h.strong.app;obtain ⟨t2,e2⟩:=h.all.app;rw [e2,e];exact Rp _ (Rp _ (so _ _ hx hh))
theorem IsMinor.closed {g:Gr}{olds kept start b l:List Int}(h:IsMinor g olds kept start b l):(∀a∈l, ∀x∈g.leads a,g.has x=true→x∈l)∧ ∀a∈kept++l, ∀x∈g.opens (olds++l) a,g.has x=true→x∈l:=by
 obtain ⟨h1,h2⟩:=h.all.closed (h.strong.clo (Nat.zero_le _) fun i _ _ hi=>absurd hi Y);refine ⟨fun a ha x hx hh=> ?_,h2⟩;obtain ⟨i,hi,e⟩:=List.getElem_of_mem ha;exact h1 i a x hi (by rw [List.getElem?_eq_getElem hi,e]) hx hh
def yB (a:Int):Bool:=decide (0<a)&&decide (a.tmod 2=1)
def J0 (N:Nat)(m:Rg):Gr:=⟨yB,fun a=>bL (bU m a),fun live a=>ca N (bU m a) live⟩
theorem px (N:Nat)(a:Int):ft N a=some (yB a):=by
 unfold ft yB;cases decide (0<a)<;>cases decide (a.tmod 2=1)<;>rfl
theorem GZ (k:Nat):yB (2*(k:Int)+1)=true:=by
 unfold yB;rw [o6 Y,Rk Y,Rk Y];rfl
theorem AW (k:Nat):yB (2*(k:Int)+2)=false:=by
 unfold yB;rw [o6 Y,Rl (p:=(2*(k:Int)+2)%2=1) Y,Bool.and_false]
structure Mt (m:Rg) (met:List Int) (seen:List (Int×Bool)):Prop where
 nd:met.Nodup
 yng: ∀x∈met,yB x=true
 has: ∀x∈met,br m x=true
 mem: ∀x,(lk seen x).getD false=decide (x∈met)
theorem Mt.len {m:Rg}{roots:List Q5}(hs:Small m roots){met:List Int}{seen:List (Int×Bool)}(h:Mt m met seen):met.length≤1200:=ye 1200 h.nd fun x hx=>⟨by have:=qj (h.has x hx);omega,by have:=vH hs (h.has x hx);omega⟩
theorem Mt.nil (m:Rg):Mt m [] []:=⟨List.nodup_nil,by simp,by simp,fun x=>by simp;rfl⟩
theorem DZ (N:Nat){m:Rg}{roots:List Q5}(hs:Small m roots)(kp:List Int){met:List Int}{seen:List (Int×Bool)}(nx:Int)(h:Mt m met seen)(a:Int)(ha:yB a=true→br m a=true): ∃seen',cC N ⟨m,kp,met,seen,nx⟩ a=some ⟨m,kp,dn yB met [a],seen',nx⟩∧Mt m (dn yB met [a]) seen':=by
 have hlen:=h.len hs;unfold cC;rw [px,bs]
 dsimp only
 rw [h.mem a];have hl:dn yB met [a]=bif yB a&& !decide (a∈met) then met++ [a] else met:=rfl;rw [hl]
 cases hy:yB a with
 |false=>exact ⟨seen,rfl,h⟩
 | true=>
  by_cases hm:a∈met
  ·rw [Rk hm];exact ⟨seen,U,h⟩
  rw [Rl hm];refine ⟨tW seen a true,?_,?_⟩
  ·simp only [ct,bs,nf];rw [rF (by simp;omega)];rfl
  refine ⟨List.nodup_append.2 ⟨h.nd,by simp,fun x hx y hy e=>by rw [List.mem_singleton] at hy;subst hy;subst e;exact hm hx⟩,fun x hx=> ?_,fun x hx=> ?_,fun x=> ?_⟩
  ·rcases List.mem_append.1 hx with hx|hx
   ·exact h.yng x hx
   rw [List.mem_singleton] at hx;subst hx;exact hy
  ·rcases List.mem_append.1 hx with hx|hx
   ·exact h.has x hx
   rw [List.mem_singleton] at hx;subst hx;exact ha hy
  rw [Gj];show _=decide (x∈met++ [a]);by_cases e:a=x
  ·rw [if_pos e,Rk (by simp [e])];rfl
  rw [if_neg e,h.mem x];exact eQ ⟨fun hx=>Rp _ hx,fun hx=>(List.mem_append.1 hx).elim id fun hx=>absurd (List.mem_singleton.1 hx).symm e⟩
theorem zr {ρ:Type}(N:Nat){m:Rg}{roots:List Q5}(hs:Small m roots)(l:List Int)(hl:l.length<N)(hl2:l.length≤5000)(hh: ∀x∈l,yB x=true→br m x=true)(L:Nat→Int→List Ra→List Ra→List Int→List Int→List (Int×Bool)→Int→Option ρ)(K:List Ra→List Ra→List Int→List Int→List (Int×Bool)→Int→Option ρ)
  (hrec: ∀k i f7 f8 kp met seen nx,L (k+1) i f7 f8 kp met seen nx=bif decide (i<(l.length:Int)) then ((aM l i).bind fun x=>(cC N (⟨(⟨f7,f8⟩:Rg),kp,met,seen,nx⟩:Q6) x).bind fun y=>bD (in64 (i+1)) (L k (i+1) y.m_.Young y.m_.Old y.kept_ y.met_ y.seen_ y.next_)) else K f7 f8 kp met seen nx)
  (kp:List Int) {met:List Int} {seen:List (Int×Bool)} (nx:Int) (h:Mt m met seen) (R:ρ→Prop) (hk: ∀seen',Mt m (dn yB met l) seen'→Sat (K m.Young m.Old kp (dn yB met l) seen' nx) R):Sat (L N 0 m.Young m.Old kp met seen nx) R:=by
 refine cI (fun k i (s:List Int×List (Int×Bool))=>L k (i:Int) m.Young m.Old kp s.1 s.2 nx) l.length (fun i s=>Mt m s.1 s.2∧s.1=dn yB met (l.take i)) R ?_ ?_ N 0 (met,seen) Y Y ⟨h,U⟩
 ·rintro k i ⟨mt,sn⟩ hi ⟨h1,h2⟩ go;simp only at h1 h2;show Sat (L (k+1) (i:Int) m.Young m.Old kp mt sn nx) R;obtain ⟨sn',e1,e2⟩:=DZ N hs kp nx h1 l[i] (hh _ (List.getElem_mem _));have e1':cC N ⟨⟨m.Young,m.Old⟩,kp,mt,sn,nx⟩ l[i]=some ⟨m,kp,dn yB mt [l[i]],sn',nx⟩:=e1;rw [hrec,cF Y,ct,bf hi,bs,e1',bs,r64 Y Y];exact go (dn yB mt [l[i]],sn') ⟨e2,by show dn yB mt [l[i]]=_;rw [bh hi,qe, ←h2]⟩
 rintro k ⟨mt,sn⟩ ⟨h1,h2⟩;simp only [List.take_length] at h1 h2;show Sat (L (k+1) _ m.Young m.Old kp mt sn nx) R;rw [hrec,cD Y,cf];subst h2;exact hk sn h1
theorem qc (N:Nat){m:Rg}{roots:List Q5}(hs:Small m roots)(kp met:List Int)(seen:List (Int×Bool))(nx:Int){a:Int}(ha:br m a=true):bY N ⟨m,kp,met,seen,nx⟩ a=some (bU m a):=by
 have hy:=hs.young;have ho:=hs.old;unfold bY;rw [px,bs];rcases sx ha with ⟨i,hi,rfl⟩|⟨i,hi,rfl⟩
 ·rw [GZ,ct,wn Y,show (2*(i:Int)+1) / 2=i by omega,r64 Y Y,GR m i hi,bf hi,bs]
 rw [AW,cf,wn Y,show (2*(i:Int)+2) / 2=(i:Int)+1 by omega,r64 Y Y,r64 Y Y,show (i:Int)+1 - 1=i by omega,uZ m i hi,bf hi,bs]
def Whole (m:Rg):Prop:= ∀a,br m a=true→ ∀x∈cO (bU m a),br m x=true
theorem Whole.leads {m:Rg}(h:Whole m){a:Int}(ha:br m a=true): ∀x∈bL (bU m a),br m x=true:=fun x hx=>h a ha x (Rp _ hx)
theorem Whole.opens {m:Rg}(h:Whole m){N:Nat}{live:List Int}{a:Int}(ha:br m a=true): ∀x∈ca N (bU m a) live,br m x=true:=fun x hx=>by
 unfold ca at hx
 cases hw:km N (bU m a) with
 |false=>rw [hw] at hx;cases hx
 |true=>
  rw [hw] at hx;obtain ⟨v,hv,hb,rfl⟩:=vy hx;exact h a ha _ (Bk (Rq _ hv) hb)
theorem wA (N:Nat)(hN:5000<N){m:Rg}{roots:List Q5}(hs:Small m roots)(hw:Whole m)(kp:List Int){met:List Int}{seen:List (Int×Bool)}(h:Mt m met seen)(k:Nat)(hk:k≤met.length):
  Sat (eN N ⟨m,kp,met,seen,(k:Int)⟩) fun r=> ∃seen',r=⟨m,kp,r.met_,seen',(r.met_.length:Int)⟩∧Mt m r.met_ seen'∧Thr (J0 N m) met k r.met_:=by
 unfold eN;refine ni (fun f (s:List Int×List (Int×Bool)×Nat)=>cj N f m.Young m.Old kp s.1 s.2.1 (s.2.2:Int)) (fun s=>1300 - s.2.2) (fun s=>Mt m s.1 s.2.1∧s.2.2≤s.1.length∧ ∀r,Thr (J0 N m) s.1 s.2.2 r→Thr (J0 N m) met k r) _ ?_ N (met,seen,k) (by show 1300 - k<N;omega) ⟨h,hk,fun _ h=>h⟩;rintro f ⟨mt,sn,j⟩ ⟨h1,h3,h4⟩ go;show Sat (cj N (f+1) m.Young m.Old kp mt sn (j:Int)) _;simp only at h1 h3 h4;have hlen:=h1.len hs;rw [cj.eq_2];by_cases hj:j<mt.length
 ·have hh:=h1.has _ (List.getElem_mem hj);have hsm:=hs.at_ mt[j];have e1:bY N ⟨⟨m.Young,m.Old⟩,kp,mt,sn,(j:Int)⟩ mt[j]=some (bU m mt[j]):=qc N hs kp mt sn (j:Int) hh;have hll:=jE (bU m mt[j]);rw [cF Y,ct,bf hj,bs,e1,bs,ms N Y _ Y Y,bs]
  refine zr N hs (bL (bU m mt[j])) Y Y (fun x hx _=>hw.leads hh x hx) (fu N (cj N f) (bL (bU m mt[j]))) (fv N (cj N f)) (fun _ _ _ _ _ _ _ _=>by rw [fu.eq_2]) kp (j:Int) h1 _ fun sn' h5=> ?_
  unfold fv;rw [r64 Y Y]
  have hge:mt.length≤(dn yB mt (bL (bU m mt[j]))).length:=by
   obtain ⟨t,e, -⟩:=gN yB mt (bL (bU m mt[j]));rw [e,List.length_append];omega
  exact go (dn yB mt (bL (bU m mt[j])),sn',j+1) (by show 1300 - (j+1)<1300 - j;omega) ⟨h5,by show j+1≤(dn yB mt (bL (bU m mt[j]))).length;omega,fun r hr=>h4 r (.step (List.getElem?_eq_getElem hj) hr)⟩
 have:j=mt.length:=by omega
 subst this;rw [cD Y,cf];exact aR ⟨sn,U,h1,h4 _ (.done (Nat.le_refl _))⟩
theorem Cw (N:Nat)(hN:5000<N){m:Rg}{roots:List Q5}(hs:Small m roots)(kp:List Int){met:List Int}{seen:List (Int×Bool)}(nx:Int)(h:Mt m met seen):eZ N ⟨m,kp,met,seen,nx⟩=some (cu m.Old.length++met):=by
 apply Sat.eq;have ho:=hs.old;have hlen:=h.len hs;unfold eZ;refine cI (fun k i (s:List Int)=>eu N ⟨m,kp,met,seen,nx⟩ k s (i:Int)) m.Old.length (fun i s=>s=cu i) _ ?_ ?_ N 0 [] Y Y U
 ·rintro k i s hi rfl go;show Sat (eu N ⟨m,kp,met,seen,nx⟩ (k+1) (cu i) (i:Int)) _
  have hev:(cu i).length=i:=by unfold cu;simp
  rw [eu.eq_2,cF (by show (i:Int)<(m.Old.length:Int);omega),ct,r64 Y Y,r64 Y Y,rF (by simp;omega),r64 Y Y];refine go _ ?_;unfold cu;rw [List.range_succ,List.map_append];rfl
 rintro k s rfl;show Sat (eu N ⟨m,kp,met,seen,nx⟩ (k+1) _ _) _
 have hev:(cu m.Old.length).length=m.Old.length:=by unfold cu;simp
 rw [eu.eq_2,cD (by show (m.Old.length:Int)≤(m.Old.length:Int);omega),cf];unfold kU
 dsimp only
 rw [rF Y];exact aR U
theorem Au (N:Nat)(a b:List Int)(ha:a.length≤100000)(hb:b.length≤100000):jN N a b=some (a++b):=by
 unfold jN nI oQ li mN;rw [r64 Y Y,cD (a:=0+(a.length:Int)) Y,cf,r64 Y Y,cD (a:=0+(a.length:Int)+(b.length:Int)) Y,cf,r64 Y Y,r64 Y Y,cf];by_cases h:0<a.length+b.length
 ·rw [cF Y,ct,kw ⟨by omega,by omega⟩,bs,rF (by simp;omega),rF (by simp;omega)];rfl
 rw [cD Y,cf,bs,rF (by simp;omega),rF (by simp;omega)];rfl
theorem Hv (N:Nat)(hN:5000<N){m:Rg}{roots:List Q5}(hs:Small m roots)(hw:Whole m)(kp:List Int)(hk: ∀x∈kp,br m x=true)(hkl:kp.length≤1200){met:List Int}{seen:List (Int×Bool)}(nx:Int)(h:Mt m met seen):
  Sat (gc N ⟨m,kp,met,seen,nx⟩) fun r=> ∃seen',r=(decide ((met.length:Int)<(r.2.met_.length:Int)),⟨m,kp,r.2.met_,seen',nx⟩)∧Mt m r.2.met_ seen'∧r.2.met_=pW (J0 N m) (cu m.Old.length++met) met (kp++met):=by
 have hlen:=h.len hs;have ho:=hs.old
 have hev:(cu m.Old.length).length=m.Old.length:=by unfold cu;simp
 unfold gc;rw [Cw N hN hs kp nx h,bs]
 dsimp only
 rw [Au N kp met Y Y,bs]
 have hL:(cu m.Old.length++met).length≤5000:=by rw [List.length_append];omega
 have hC:(kp++met).length≤2400:=by rw [List.length_append];omega
 generalize hlv:cu m.Old.length++met=live at*
 have hcm: ∀x∈kp++met,br m x=true:=fun x hx=>(List.mem_append.1 hx).elim (hk x) (h.has x)
 generalize hcc:kp++met=cs at*;refine cI (fun k i (s:List Int×List (Int×Bool))=>cm N ⟨m,kp,met,seen,nx⟩ cs live k (i:Int) m.Young m.Old kp s.1 s.2 nx) cs.length (fun i s=>Mt m s.1 s.2∧s.1=pW (J0 N m) live met (cs.take i)) _ ?_ ?_ N 0 (met,seen) Y Y ⟨h,U⟩
 ·rintro k i ⟨mt,sn⟩ hi ⟨h1,h2⟩ go;simp only at h1 h2;show Sat (cm N ⟨m,kp,met,seen,nx⟩ cs live (k+1) (i:Int) m.Young m.Old kp mt sn nx) _;have hh:=hcm _ (List.getElem_mem hi);have hsm:=hs.at_ cs[i];have e1:bY N ⟨⟨m.Young,m.Old⟩,kp,mt,sn,nx⟩ cs[i]=some (bU m cs[i]):=qc N hs kp mt sn nx hh;have hol:=Cn N (bU m cs[i]) live;rw [cm.eq_2,cF Y,ct,bf hi,bs,e1,bs,Cl N hN live Y _ Y Y,bs]
  refine zr N hs (ca N (bU m cs[i]) live) Y Y (fun x hx _=>hw.opens hh x hx) (gW N (cm N ⟨m,kp,met,seen,nx⟩ cs live k) ⟨m,kp,met,seen,nx⟩ cs (i:Int) (ca N (bU m cs[i]) live) live) (gX N (cm N ⟨m,kp,met,seen,nx⟩ cs live k) ⟨m,kp,met,seen,nx⟩ cs (i:Int) live) (fun _ _ _ _ _ _ _ _=>by rw [gW.eq_2]) kp nx h1 _ fun sn' h5=> ?_
  unfold gX;rw [r64 Y Y];refine go (dn yB mt (ca N (bU m cs[i]) live),sn') ⟨h5,?_⟩;show dn yB mt (ca N (bU m cs[i]) live)=_;rw [bh hi,DR, ←h2];rfl
 rintro k ⟨mt,sn⟩ ⟨h1,h2⟩;simp only [List.take_length] at h1 h2;show Sat (cm N ⟨m,kp,met,seen,nx⟩ cs live (k+1) _ m.Young m.Old kp mt sn nx) _;rw [cm.eq_2,cD Y,cf];unfold kT;exact aR ⟨sn,U,h1,h2⟩
def BB (m:Rg)(roots:List Q5)(kept:List Int):List Int:=ce roots++kept.flatMap fun a=>bL (bU m a)
theorem CC (N:Nat)(v:Q5):jQ N v=some (v.N,bM v):=by
 unfold jQ;rw [oE,bs]
theorem JN (N:Nat)(hN:5000<N){m:Rg}{roots:List Q5}(hs:Small m roots)(hw:Whole m)(hr: ∀x∈ce roots,br m x=true)(kept:List Int)(hk: ∀x∈kept,br m x=true)(hkl:kept.length≤1200):
  Sat (kV N m roots kept) fun r=> ∃seen nx b,r=⟨m,kept,r.met_,seen,nx⟩∧Mt m r.met_ seen∧IsMinor (J0 N m) (cu m.Old.length) kept (BB m roots kept) b r.met_:=by
 have hrl:=hs.roots
 -- the passes
 have passes: ∀(b:List Int) (seen:List (Int×Bool)),Mt m b seen→Thr (J0 N m) (dn yB [] (BB m roots kept)) 0 b→Sat (jd N N m.Young m.Old kept b seen (b.length:Int)) fun r=> ∃seen nx b,r=⟨m,kept,r.met_,seen,nx⟩∧Mt m r.met_ seen∧IsMinor (J0 N m) (cu m.Old.length) kept (BB m roots kept) b r.met_:=by
  intro b seen h hb;have h0:=h.len hs;refine ni (fun f (s:List Int×List (Int×Bool))=>jd N f m.Young m.Old kept s.1 s.2 (s.1.length:Int)) (fun s=>1300 - s.1.length) (fun s=>Mt m s.1 s.2∧ ∀r,MOrd (J0 N m) (cu m.Old.length) kept s.1 r→MOrd (J0 N m) (cu m.Old.length) kept b r) _ ?_ N (b,seen) (by show 1300 - b.length<N;omega) ⟨h,fun _ h=>h⟩;rintro f ⟨mt,sn⟩ ⟨h1,h2⟩ go;simp only at h1 h2;show Sat (jd N (f+1) m.Young m.Old kept mt sn (mt.length:Int)) _;have hlen:=h1.len hs;obtain ⟨⟨p,x⟩,e0,sn',e1,h3,h4⟩:=Hv N hN hs hw kept hk hkl (mt.length:Int) h1;simp only at e1 h3 h4;obtain ⟨e1,e2⟩:=Prod.mk.inj e1;obtain ⟨t,ht⟩:=se (J0 N m) (cu m.Old.length++mt) mt (kept++mt);have hlen3:=h3.len hs;have e0':gc N ⟨⟨m.Young,m.Old⟩,kept,mt,sn,(mt.length:Int)⟩=some (p,x):=e0;rw [jd.eq_2,e0',bs]
  dsimp only
  rw [e1];generalize hm':x.met_=mt' at*;subst e2
  refine dR (fun hlt=> ?_) fun hge=> ?_
  ·refine Sat.bind (wA N hN hs hw kept h3 mt.length (by rw [h4,ht,List.length_append];omega)) ?_;rintro r ⟨sn3,e3,h5,h6⟩;have hlen5:=h5.len hs;rw [e3]
   dsimp only
   refine go (r.met_,sn3) ?_ ⟨h5,fun r' hr'=>h2 r' (.step ?_ (by rw [←h4];exact h6) hr')⟩
   ·obtain ⟨t3,e4⟩:=h6.app;show 1300 - r.met_.length<1300 - mt.length
    have:mt'.length≤r.met_.length:=by rw [e4,List.length_append];omega
    omega
   rw [←h4];intro e;rw [e] at hlt;omega
  have e:mt'=mt:=by
   rw [ht] at h4;have h0:t=[]:=List.eq_nil_of_length_eq_zero (by rw [h4,List.length_append] at hge;omega);rw [h4,h0,List.append_nil]
  subst e;unfold rL;exact aR ⟨sn',(mt'.length:Int),b,U,h3,⟨hb,h2 _ (.done h4.symm)⟩⟩
 -- the kept cells
 have keptL: ∀(row:List Int) (seen:List (Int×Bool)),Mt m row seen→row=dn yB [] (ce roots)→Sat (eb N kept N 0 m.Young m.Old kept row seen 0) fun r=> ∃seen nx b,r=⟨m,kept,r.met_,seen,nx⟩∧Mt m r.met_ seen∧IsMinor (J0 N m) (cu m.Old.length) kept (BB m roots kept) b r.met_:=by
  intro row seen h hrow;refine cI (fun k i (s:List Int×List (Int×Bool))=>eb N kept k (i:Int) m.Young m.Old kept s.1 s.2 0) kept.length (fun i s=>Mt m s.1 s.2∧s.1=dn yB [] (ce roots++(kept.take i).flatMap fun a=>bL (bU m a))) _ ?_ ?_ N 0 (row,seen) Y Y ⟨h,by simpa using hrow⟩
  ·rintro k i ⟨mt,sn⟩ hi ⟨h1,h2⟩ go;simp only at h1 h2;show Sat (eb N kept (k+1) (i:Int) m.Young m.Old kept mt sn 0) _;have hh:=hk _ (List.getElem_mem hi);have hsm:=hs.at_ kept[i];have e1:bY N ⟨⟨m.Young,m.Old⟩,kept,mt,sn,0⟩ kept[i]=some (bU m kept[i]):=qc N hs kept mt sn 0 hh;have hll:=jE (bU m kept[i]);rw [eb.eq_2,cF Y,ct,bf hi,bs,e1,bs,ms N Y _ Y Y,bs]
   refine zr N hs (bL (bU m kept[i])) Y Y (fun x hx _=>hw.leads hh x hx) (ob N (eb N kept k) kept (i:Int) (bL (bU m kept[i]))) (oc N (eb N kept k) kept (i:Int)) (fun _ _ _ _ _ _ _ _=>by rw [ob.eq_2]) kept 0 h1 _ fun sn' h5=> ?_
   unfold oc;rw [r64 Y Y];refine go (dn yB mt (bL (bU m kept[i])),sn') ⟨h5,?_⟩;show dn yB mt (bL (bU m kept[i]))=_;rw [bh hi,List.flatMap_append, ←Rn,qe, ←h2];simp
  rintro k ⟨mt,sn⟩ ⟨h1,h2⟩;simp only [List.take_length] at h1 h2;show Sat (eb N kept (k+1) _ m.Young m.Old kept mt sn 0) _;rw [eb.eq_2,cD Y,cf];unfold rM;refine Sat.bind (wA N hN hs hw kept h1 0 (Nat.zero_le _)) ?_;rintro r ⟨sn3,e3,h5,h6⟩;rw [e3]
  dsimp only
  exact passes r.met_ sn3 h5 (by rw [h2] at h6;exact h6)
 -- the roots
 unfold kV;refine cI (fun k i (s:List Int×List (Int×Bool))=>gq N roots kept k (i:Int) m.Young m.Old kept s.1 s.2 0) roots.length (fun i s=>Mt m s.1 s.2∧s.1=dn yB [] (ce (roots.take i))) _ ?_ ?_ N 0 ([],[]) Y Y ⟨Mt.nil m,U⟩
 ·rintro k i ⟨mt,sn⟩ hi ⟨h1,h2⟩ go;simp only at h1 h2;show Sat (gq N roots kept (k+1) (i:Int) m.Young m.Old kept mt sn 0) _
  have hnext:dn yB [] (ce (roots.take (i+1)))=dn yB mt (ce [roots[i]]):=by
   rw [bh hi,vT,qe, ←h2]
  rw [gq.eq_2,cF Y,ct,bf hi,bs,CC,bs]
  dsimp only
  unfold od;cases hb:bM roots[i]
  ·rw [cf,r64 Y Y];refine go (mt,sn) ⟨h1,?_⟩;show mt=_;rw [hnext];simp [ce,hb,dn]
  rw [ct];have hroot:br m roots[i].N=true:=hr _ (lA.2 ⟨_,List.getElem_mem _,hb,rfl⟩)
  obtain ⟨sn',e1,e2⟩:=DZ N hs kept 0 h1 roots[i].N fun _=>hroot
  have e1':cC N ⟨⟨m.Young,m.Old⟩,kept,mt,sn,0⟩ roots[i].N=_:=e1;rw [e1',bs]
  dsimp only
  rw [r64 Y Y];refine go (dn yB mt [roots[i].N],sn') ⟨e2,?_⟩;show dn yB mt [roots[i].N]=_;rw [hnext];simp [ce,hb]
 rintro k ⟨mt,sn⟩ ⟨h1,h2⟩;simp only [List.take_length] at h1 h2;show Sat (gq N roots kept (k+1) _ m.Young m.Old kept mt sn 0) _;rw [gq.eq_2,cD Y,cf];unfold sW;exact keptL mt sn h1 h2
def qY (m:Rg)(kept:List Int):Bool:=(List.range m.Old.length).all fun i=> !(cO (bU m (2*(i:Int)+2))).any yB||decide ((2*(i:Int)+2)∈kept)
def qf (m:Rg)(kept:List Int):Bool:=kept.all (fun a=> !yB a&&br m a)&&decide (kept.Pairwise (· < ·))
def BC (N:Nat)(m:Rg):Bool:=(m.Young++m.Old).all (Ap N m)
def Gi (N:Nat)(m:Rg)(roots:List Q5)(kept:List Int):Bool:=d9 m (ce roots)&&BC N m&&qf m kept&&qY m kept
theorem Ai (N:Nat)(hN:2000<N)(c:Ra)(hS:c.Slots.length≤600)(hM:c.More.length≤600):iw N c=some (cO c):=by
 have h1:=jE c;have h2:=mA c;unfold iw;rw [ms N hN c Y Y,bs,qH N hN c Y Y,bs,rF Y];rfl
theorem yQ (N:Nat)(f:Int→Option Bool)(p:Int→Bool)(l:List Int)(hl:l.length<N)(hl2:l.length≤5000)(hf: ∀x∈l,f x=some (p x)):bJ N l f=some (l.any p):=by
 have key: ∀k i:Nat,l.length<k+i→i≤l.length→Sat (dJ N f l k (i:Int)) fun r=>decide (0≤r)=(l.drop i).any p:=by
  intro k
  induction k with
  |zero=>intro i h1 h2;omega
  | succ k ih=>
   intro i h1 h2;rw [dJ.eq_2];by_cases hi:i<l.length
   ·have h3:=ih (i+1) Y hi;rw [show (((i+1:Nat)):Int)=(i:Int)+1 by omega] at h3;rw [cF Y,ct,bf hi,bs,List.drop_eq_getElem_cons hi,List.any_cons,hf _ (List.getElem_mem _),bs,r64 Y Y];cases p l[i]
    ·exact h3
    exact aR (by rw [Rk Y];rfl)
   rw [cD Y,cf,List.drop_eq_nil_of_le Y];exact aR U
 obtain ⟨r,h1,h2⟩:=key N 0 Y Y;have h1':dJ N f l N 0=some r:=h1;unfold bJ ju;rw [h1',bs,h2];rfl
theorem I7 (N:Nat)(f:Q5→Option Bool)(p:Q5→Bool)(l:List Q5)(hl:l.length<N)(hl2:l.length≤5000)(hf: ∀x∈l,f x=some (p x)):cN N l f=some (l.any p):=by
 have key: ∀k i:Nat,l.length<k+i→i≤l.length→Sat (dI N f l k (i:Int)) fun r=>decide (0≤r)=(l.drop i).any p:=by
  intro k
  induction k with
  |zero=>intro i h1 h2;omega
  | succ k ih=>
   intro i h1 h2;rw [dI.eq_2];by_cases hi:i<l.length
   ·have h3:=ih (i+1) Y hi;rw [show (((i+1:Nat)):Int)=(i:Int)+1 by omega] at h3;rw [cF Y,ct,bf hi,bs,List.drop_eq_getElem_cons hi,List.any_cons,hf _ (List.getElem_mem _),bs,r64 Y Y];cases p l[i]
    ·exact h3
    exact aR (by rw [Rk Y];rfl)
   rw [cD Y,cf,List.drop_eq_nil_of_le Y];exact aR U
 obtain ⟨r,h1,h2⟩:=key N 0 Y Y;have h1':dI N f l N 0=some r:=h1;unfold cN iJ;rw [h1',bs,h2];rfl
theorem Bj {α:Type}(p:α→Bool): ∀l:List α,l.any (fun x=> !p x)=!l.all p
 | []=>rfl
 |x::l=>by rw [List.any_cons,List.all_cons,Bj p l];cases p x<;>rfl
theorem yH (N:Nat)(a b:List Ra)(ha:a.length≤100000)(hb:b.length≤100000):fz N a b=some (a++b):=by
 unfold fz kk kG gU jx;rw [r64 Y Y,cD (a:=0+(a.length:Int)) Y,cf,r64 Y Y,cD (a:=0+(a.length:Int)+(b.length:Int)) Y,cf,r64 Y Y,r64 Y Y,cf];by_cases h:0<a.length+b.length
 ·rw [cF Y,ct,kw ⟨by omega,by omega⟩,bs,rF (by simp;omega),rF (by simp;omega)];rfl
 rw [cD Y,cf,bs,rF (by simp;omega),rF (by simp;omega)];rfl
theorem G5 (N:Nat)(hN:5000<N){m:Rg}{roots:List Q5}(hs:Small m roots)(hw:W64 m):nZ N m=some (BC N m):=by
 have h1:=hs.young;have h2:=hs.old;unfold nZ BC;rw [yH N _ _ Y Y,bs]
 have hl:(m.Young++m.Old).length≤1200:=by rw [List.length_append];omega
 refine uM (fun k i=>mW N (m.Young++m.Old) m k i) (m.Young++m.Old) _ (fun k i h=> ?_) (fun k=> ?_) N Y
 ·have hm:(m.Young++m.Old)[i]∈m.Young++m.Old:=List.getElem_mem _;have hc:=hs.cells _ hm;obtain ⟨⟨a1,a2⟩,a3,a4⟩:=yW hs hw hm;rw [mW.eq_2,cF Y,ct,bf h,bs];generalize (m.Young++m.Old)[i]=c at*;obtain ⟨b,hb, -⟩:=rZ N Y c Y Y
  rw [ue N Y _ Y Y,hb,bs,Ai N Y c hc.1 hc.2,bs,yQ N _ (fun x=> !br m x) (cO c) (by unfold cO;rw [List.length_append];omega) (by unfold cO;rw [List.length_append];omega) (fun x hx=>by
   unfold nN
   rw [sw N m x ((List.mem_append.1 hx).elim (a2 x) (a4 x)),bs]),Bj]
  unfold Ap;rw [hb,r64 Y Y]
  have e:(cO c).all (br m)=(d9 m (bL c)&&d9 m (kq c)):=by unfold cO d9;rw [List.all_append]
  rw [e];cases b<;>cases d9 m (bL c)&&d9 m (kq c)<;>rfl
 rw [mW.eq_2,cD Y,cf];rfl
theorem KM (l:List Int):decide (l.Pairwise (· < ·))=(List.range l.length).all fun i=>decide (i=0)||decide (l.getD (i - 1) 0<l.getD i 0):=by
 rw [Bool.eq_iff_iff,decide_eq_true_eq,List.all_eq_true];constructor
 ·intro h i hi;rw [List.mem_range] at hi;by_cases h0:i=0
  ·rw [Rk h0];rfl
  have:=List.pairwise_iff_getElem.1 h (i - 1) i Y hi Y;rw [Rk (p:=l.getD (i - 1) 0<l.getD i 0) (by simpa [List.getD,hi,show i - 1<l.length by omega] using this),Bool.or_true]
 intro h
 refine List.pairwise_iff_getElem.2 fun i j hi hj hij=> ?_
 have step: ∀k,i+k+1<l.length→l[i]'hi<l.getD (i+k+1) 0:=by
  intro k
  induction k with
  |zero=>
   intro hk;have:=h (i+1) (List.mem_range.2 hk);rw [Rl (p:=i+1=0) Y,Bool.false_or,decide_eq_true_eq,Nat.add_sub_cancel] at this;simpa [List.getD,hi] using this
  |succ k ih=>
   intro hk;have h1:=ih Y;have:=h (i+k+1+1) (List.mem_range.2 Y);rw [Rl (p:=i+k+1+1=0) Y,Bool.false_or,decide_eq_true_eq,Nat.add_sub_cancel] at this;show l[i]'hi<l.getD (i+k+1+1) 0;omega
 have:=step (j - i - 1) Y;rw [show i+(j - i - 1)+1=j by omega] at this;simpa [List.getD,hj] using this
theorem D0 (N:Nat)(hN:5000<N){m:Rg}{roots:List Q5}(hs:Small m roots)(hw:W64 m)(hr: ∀v∈roots,in64 v.N)(kept:List Int)(hk:kept.length≤5000)(k64: ∀x∈kept,in64 x):mG N m roots kept=some (Gi N m roots kept):=by
 have h3:=hs.roots;have ho:=hs.old
 -- the old cells
 have olds:kd N kept m=some (qY m kept):=by
  unfold kd qY;have hlr:(List.range m.Old.length).length=m.Old.length:=List.length_range;refine uM (fun k i=>oa N m kept k i) (List.range m.Old.length) _ (fun k i h=> ?_) (fun k=> ?_) N Y
  ·rw [hlr] at h;have hm:m.Old[i]∈m.Young++m.Old:=Rq _ (List.getElem_mem _);have hc:=hs.cells _ hm;obtain ⟨⟨a1,a2⟩,a3,a4⟩:=yW hs hw hm;rw [oa.eq_2,cF Y,ct,bf h,bs,Ai N Y _ hc.1 hc.2,bs,yQ N _ yB (cO m.Old[i]) (by unfold cO;rw [List.length_append];omega) (by unfold cO;rw [List.length_append];omega) (fun x _=>px N x),bs,r64 (a:=2*(i:Int)) Y Y,r64 (a:=2*(i:Int)+2) Y Y,og N hN kept hk,bs,r64 Y Y,List.getElem_range,uZ m i h];cases (cO m.Old[i]).any yB<;>cases decide ((2*(i:Int)+2)∈kept)<;>rfl
  rw [hlr,oa.eq_2,cD Y,cf];rfl
 -- the kept addresses
 have hkept:lW N kept m N 0=bif qf m kept then kd N kept m else some false:=by
  have hlr:(List.range kept.length).length=kept.length:=List.length_range;have:=vD (fun k i=>lW N kept m k i) (List.range kept.length) (fun i=>(!yB (kept.getD i 0)&&br m (kept.getD i 0))&&(decide (i=0)||decide (kept.getD (i - 1) 0<kept.getD i 0))) (some false) (kd N kept m) (fun k i h=> ?_) (fun k=> ?_) N Y
  ·rw [this]
   have e:((List.range kept.length).all fun i=>(!yB (kept.getD i 0)&&br m (kept.getD i 0))&&(decide (i=0)||decide (kept.getD (i - 1) 0<kept.getD i 0)))=qf m kept:=by
    unfold qf;rw [KM]
    have e2:kept.all (fun a=> !yB a&&br m a)=(List.range kept.length).all fun i=> !yB (kept.getD i 0)&&br m (kept.getD i 0):=by
     rw [Bool.eq_iff_iff,List.all_eq_true,List.all_eq_true];constructor
     ·intro h i hi;rw [List.mem_range] at hi
      have:kept.getD i 0=kept[i]:=by simp [List.getD,hi]
      rw [this];exact h _ (List.getElem_mem _)
     intro h x hx;obtain ⟨i,hi,rfl⟩:=List.getElem_of_mem hx;have:=h i (List.mem_range.2 hi)
     rwa [show kept.getD i 0=kept[i] by simp [List.getD,hi]] at this
    rw [e2]
    induction List.range kept.length with
    |nil=>rfl
    |cons a l ih=>rw [List.all_cons,List.all_cons,List.all_cons,ih];cases (!yB (kept.getD a 0)&&br m (kept.getD a 0))<;>cases (decide (a=0)||decide (kept.getD (a - 1) 0<kept.getD a 0))<;>simp
   rw [e]
  ·rw [hlr] at h
   have hg:kept.getD i 0=kept[i]:=by simp [List.getD,h]
   rw [lW.eq_2,cF Y,ct,bf h,bs,px,bs,sw N m _ (k64 _ (List.getElem_mem _)),r64 (a:=(i:Int)+1) Y Y,List.getElem_range,hg];by_cases h0:i=0
   ·subst h0;rw [cD (a:=0) (b:=((0:Nat):Int)) Y];cases yB kept[0]<;>cases br m kept[0]<;>rfl
   have hp:aM kept ((i:Int) - 1)=some (kept.getD (i - 1) 0):=by
    have:=bf (xs:=kept) (i:=i - 1) Y;rw [show (((i - 1:Nat)):Int)=(i:Int) - 1 by omega] at this;rw [this];simp [List.getD,show i - 1<kept.length by omega]
   rw [cF (a:=0) (b:=(i:Int)) Y,ct,r64 (a:=(i:Int) - 1) Y Y,hp,Rl h0];simp only [bs];by_cases hlt:kept.getD (i - 1) 0<kept[i]
   ·rw [Lb hlt,Rk hlt];cases yB kept[i]<;>cases br m kept[i]<;>rfl
   rw [La Y,Rl hlt];cases yB kept[i]<;>cases br m kept[i]<;>rfl
  rw [hlr,lW.eq_2,cD Y,cf]
 have hroots:cN N roots (fun x=>mZ N x m)=some (!d9 m (ce roots)):=by
  rw [I7 N _ (fun v=> !(!bM v||br m v.N)) roots Y Y (fun v hv=>by
   unfold mZ;rw [CC,bs]
   dsimp only
   rw [sw N m _ (hr v hv),bs]
   cases bM v<;>cases br m v.N<;>rfl),Bj]
  unfold d9 ce;rw [all_map,C8]
 unfold mG Gi;rw [hroots,bs,G5 N hN hs hw,bs,hkept,olds];cases d9 m (ce roots)<;>cases BC N m<;>cases qf m kept<;>rfl
def Qa (c:Ra):Ra:=⟨c.Kind,c.Shape,c.Flags,c.Age,c.Slots.take 20,c.More.take 40⟩
def PH (l:List Ra):List Ra:=(l.take 40).map Qa
def Qw (m:Rg):Rg:=⟨PH m.Young,PH m.Old⟩
structure Few20 (m:Rg) (roots:List Q5):Prop where
 young:m.Young.length≤40
 old:m.Old.length≤40
 roots:roots.length≤40
 cells: ∀c∈m.Young++m.Old,c.Slots.length≤20∧c.More.length≤40
def Ip (N:Nat)(m:Rg)(roots:List Q5):Bool:=d9 m (ce roots)&&BC N m
def nF (m:Rg)(i:Nat):Bool:=(cO (bU m (2*(i:Int)+2))).any yB
def oF (m:Rg):List Int:=((List.range m.Old.length).filter (nF m)).map fun i:Nat=>2*(i:Int)+2
theorem zz {m:Rg}{x:Int}:x∈oF m↔ ∃i:Nat,i<m.Old.length∧nF m i=true∧x=2*(i:Int)+2:=by
 unfold oF;simp only [List.mem_map,List.mem_filter,List.mem_range];constructor
 ·rintro ⟨i,⟨h1,h2⟩,rfl⟩;exact ⟨i,h1,h2,U⟩
 rintro ⟨i,h1,h2,rfl⟩;exact ⟨i,⟨h1,h2⟩,U⟩
theorem JT {m:Rg}{x:Int}(h:x∈oF m):br m x=true∧yB x=false:=by
 obtain ⟨i,h1, -,rfl⟩:=zz.1 h;exact ⟨by rw [wZ];exact Rk h1,AW i⟩
theorem Ld (m:Rg):qf m (oF m)=true:=by
 unfold qf;rw [Bool.and_eq_true,decide_eq_true_eq,List.all_eq_true];refine ⟨fun x hx=> ?_,?_⟩
 ·obtain ⟨h1,h2⟩:=JT hx;rw [h1,h2];rfl
 unfold oF;refine List.Pairwise.map _ (fun a b (h:a<b)=> ?_) ((List.pairwise_lt_range).filter _);omega
theorem MQ (m:Rg):qY m (oF m)=true:=by
 unfold qY;rw [List.all_eq_true];intro i hi;rw [List.mem_range] at hi;cases h:(cO (bU m (2*(i:Int)+2))).any yB
 ·rfl
 have:(2*(i:Int)+2)∈oF m:=zz.2 ⟨i,hi,h,rfl⟩;rw [Rk this];rfl
theorem fU {n:Nat}{x:Int}:x∈cu n↔ ∃i:Nat,i<n∧x=2*(i:Int)+2:=by
 unfold cu;simp only [List.mem_map,List.mem_range];constructor
 ·rintro ⟨i,h,rfl⟩;exact ⟨i,h,U⟩
 rintro ⟨i,h,rfl⟩;exact ⟨i,h,U⟩
def P6 (n:Nat):List Q5:=(List.range n).map fun i:Nat=>(⟨9,2*(i:Int)+2,⟨#[]⟩⟩:Q5)
theorem Gq {m:Rg}{a:Int}(h:br m a=true)(hy:yB a=false): ∃i:Nat,i<m.Old.length∧a=2*(i:Int)+2:=by
 rcases sx h with ⟨i,hi,rfl⟩|h
 ·rw [GZ] at hy;cases hy
 exact h
theorem Ho {N:Nat}{c:Ra}{l:List Int}{x:Int}(h:x∈ca N c l):x∈cO c:=by
 unfold ca at h
 cases hw:km N c with
 |false=>rw [hw] at h;cases h
 |true=>
  rw [hw] at h;obtain ⟨v,hv,hb,rfl⟩:=vy h;exact Bk (Rq _ hv) hb
theorem yv {N:Nat}{m:Rg}{roots:List Q5}(h:Ip N m roots=true):Whole m∧(∀x∈ce roots,br m x=true)∧ ∀c∈m.Young++m.Old,Ap N m c=true:=by
 unfold Ip at h;rw [Bool.and_eq_true] at h
 have h2: ∀c∈m.Young++m.Old,Ap N m c=true:=fun c hc=>oo h.2 hc
 refine ⟨fun a ha x hx=> ?_,fun x hx=>oo h.1 hx,h2⟩
 have h3:=h2 (bU m a) (by
  unfold br at ha;unfold bU
  cases hc:fk m a with
  |none=>rw [hc] at ha;cases ha
  |some c=>exact qw hc)
 unfold Ap at h3;rw [Bool.and_eq_true,Bool.and_eq_true] at h3;rcases List.mem_append.1 hx with hx|hx
 ·exact oo h3.2.1 hx
 exact oo h3.2.2 hx
def xz (met to:List Int)(a:Int):Int:=if a∈met then to.getD (met.idxOf a) 0 else a
theorem HZ {α:Type}{g:α→α}{l:List α}{i:Nat}(h:i<l.length):aM ((l.take i).map g++l.drop i) (i:Int)=some l[i]:=by
 have h1:i<((l.take i).map g++l.drop i).length:=by simp;omega
 rw [bf h1]
 congr 1
 rw [List.getElem_append_right (by simp;omega)];simp [Nat.min_eq_left (Nat.le_of_lt h)]
theorem HY {α:Type}{g:α→α}{l:List α}{i:Nat}(h:i<l.length):((l.take i).map g++l.drop i).set i (g l[i])=(l.take (i+1)).map g++l.drop (i+1):=by
 rw [bh h,List.drop_eq_getElem_cons h,List.map_append];rw [List.set_append,if_neg (by simp;omega)];simp [Nat.min_eq_left (Nat.le_of_lt h)];rw [List.drop_eq_getElem_cons h];rfl
theorem xr {α:Type}{g:α→α}{l:List α}{i:Nat}(h:i<l.length)(he:g l[i]=l[i]):(l.take i).map g++l.drop i=(l.take (i+1)).map g++l.drop (i+1):=by
 rw [bh h,List.drop_eq_getElem_cons h,List.map_append];simp [he]
def Pq (kv:List (Int×Int))(met to:List Int)(i:Nat):Prop:= ∀x,lk kv x=if x∈met.take i then some (xz met to x) else none
theorem zp {l:List Int}(hn:l.Nodup){i:Nat}(h:i<l.length):l.idxOf l[i]=i:=by
 have hm:l[i]∈l:=List.getElem_mem _;rcases Nat.lt_trichotomy (l.idxOf l[i]) i with h2|h2|h2
 ·exact absurd (oe hm) (List.pairwise_iff_getElem.1 (List.nodup_iff_pairwise_ne.1 hn) _ _ (rN hm) h h2)
 ·exact h2
 exact absurd (oe hm).symm (List.pairwise_iff_getElem.1 (List.nodup_iff_pairwise_ne.1 hn) _ _ h (rN hm) h2)
theorem Cs {l:List Int}(hn:l.Nodup){i:Nat}(h:i<l.length):l[i]∉l.take i:=fun hm=>by
 obtain ⟨j,hj,e⟩:=List.getElem_of_mem hm;rw [List.length_take] at hj;rw [List.getElem_take] at e;exact absurd e (List.pairwise_iff_getElem.1 (List.nodup_iff_pairwise_ne.1 hn) _ _ Y h Y)
theorem Ax (N:Nat)(hN:5000<N)(c:Ra)(hS:c.Slots.length≤4000)(hM:c.More.length≤4000)(met to:List Int)(hn:met.Nodup)(hl:to.length=met.length)(hml:met.length≤1200):fx N c met to=some (f0 (xz met to) met c):=by
 apply Sat.eq
 have mv: ∀(kv:List (Int×Int)),Pq kv met to met.length→ ∀v:Q5,(lk kv v.N).isSome=decide (v.N∈met)∧(v.N∈met→bM v=true→(⟨v.Kind,(lk kv v.N).getD 0,v.S⟩:Q5)=bR (xz met to) met v):=fun kv hk v=>by
  rw [hk v.N,List.take_length];by_cases h:v.N∈met
  ·rw [if_pos h,Rk h];refine ⟨U,fun _ hb=> ?_⟩;rw [sT hb h];rfl
  rw [if_neg h,Rl h];exact ⟨U,fun h2=>absurd h2 h⟩
 have keep: ∀v:Q5,(v.N∉met∨bM v=false)→bR (xz met to) met v=v:=fun v h=>by
  unfold bR;rcases h with h|h
  ·rw [Rl h,Bool.and_false];rfl
  rw [h];rfl
 have copy:dZ N c=some c:=by
  unfold dZ cU;rw [rF (by simp only [List.length_nil];omega),rF (by simp only [List.length_nil];omega)];rfl
 have body: ∀kv:List (Int×Int),Pq kv met to met.length→Sat (om N c kv) fun r=>r=f0 (xz met to) met c:=by
  intro kv hk;unfold om;rw [copy,bs];refine cI (fun k i (s:List Q5)=>fO N c kv k s (i:Int)) c.Slots.length (fun i s=>s=(c.Slots.take i).map (bR (xz met to) met)++c.Slots.drop i) _ ?_ ?_ N 0 c.Slots Y Y (by simp)
  ·rintro k i s hi rfl go;show Sat (fO N c kv (k+1) _ (i:Int)) _;obtain ⟨e1,e2⟩:=mv kv hk c.Slots[i];rw [fO.eq_2,cF Y,ct,HZ hi,bs,e1,oZ];simp only [bs];unfold nu;rw [r64 Y Y,r64 Y Y];by_cases hm:c.Slots[i].N∈met
   ·rw [Rk hm,ct,bs];cases hb:bM c.Slots[i]
    ·rw [cf];exact go _ (xr hi (keep _ (.inr hb)))
    rw [ct,e2 hm hb,Int.toNat_natCast];exact go _ (HY hi)
   rw [Rl hm,cf,bs,cf];exact go _ (xr hi (keep _ (.inl hm)))
  rintro k s rfl;show Sat (fO N c kv (k+1) _ _) _;rw [fO.eq_2,cD Y,cf,List.take_length,List.drop_length,List.append_nil];unfold qu;refine cI (fun k i (s:List Q5)=>fN N c kv _ k s (i:Int)) c.More.length (fun i s=>s=(c.More.take i).map (bR (xz met to) met)++c.More.drop i) _ ?_ ?_ N 0 c.More Y Y (by simp)
  ·rintro k i s hi rfl go;show Sat (fN N c kv _ (k+1) _ (i:Int)) _;obtain ⟨e1,e2⟩:=mv kv hk c.More[i];rw [fN.eq_2,cF Y,ct,HZ hi,bs,e1,oZ];simp only [bs];unfold ns;rw [r64 Y Y,r64 Y Y];by_cases hm:c.More[i].N∈met
   ·rw [Rk hm,ct,bs];cases hb:bM c.More[i]
    ·rw [cf];exact go _ (xr hi (keep _ (.inr hb)))
    rw [ct,e2 hm hb,Int.toNat_natCast];exact go _ (HY hi)
   rw [Rl hm,cf,bs,cf];exact go _ (xr hi (keep _ (.inl hm)))
  rintro k s rfl;show Sat (fN N c kv _ (k+1) _ _) _;rw [fN.eq_2,cD Y,cf,List.take_length,List.drop_length,List.append_nil];unfold qt qv;exact aR U
 unfold fx;refine cI (fun k i (s:List (Int×Int))=>eS N met to c k s (i:Int)) met.length (fun i s=>Pq s met to i) _ ?_ ?_ N 0 [] Y Y (fun x=>U)
 ·rintro k i s hi h1 go;show Sat (eS N met to c (k+1) _ (i:Int)) _
  have hno:lk s met[i]=none:=by rw [h1,if_neg (Cs hn hi)]
  have hto:i<to.length:=by omega
  rw [eS.eq_2,cF Y,ct,bf hi,bs,hno,Option.isSome_none,cf,cF Y,ct,bf hto,bs];unfold lf;rw [r64 Y Y]
  refine go _ fun x=> ?_
  rw [Gj,Gj,h1 x,bh hi];by_cases e:met[i]=x
  ·subst e;rw [if_pos rfl,if_pos (Rq _ (List.mem_singleton.2 rfl))];unfold xz;rw [if_pos (List.getElem_mem _),zp hn hi];simp [List.getD,hto]
  rw [if_neg e,if_neg e];by_cases hx:x∈met.take i
  ·rw [if_pos hx,if_pos (Rp _ hx)]
  rw [if_neg hx,if_neg fun h2=>(List.mem_append.1 h2).elim hx fun h2=>e (List.mem_singleton.1 h2).symm]
 rintro k s h1;show Sat (eS N met to c (k+1) _ _) _;rw [eS.eq_2,cD Y,cf];exact body s h1
theorem Ag (N:Nat)(hN:5000<N)(l:List Q5)(hl2:l.length≤4000)(met to:List Int)(hn:met.Nodup)(hl:to.length=met.length)(hml:met.length≤1200):iM N l met to=some (l.map (bR (xz met to) met)):=by
 unfold iM;rw [Ax N hN _ (by simp) hl2 met to hn hl hml,bs];rfl
def fm (m:Rg)(a:Int):Bool:=decide ((bU m a).Age=0)
def pU (p:Int→Bool):List Int→Nat→Nat→List Int
 | [],_,_=> []
 |a::l,s,o=>bif p a then (2*(s:Int)+1)::pU p l (s+1) o else (2*(o:Int)+2)::pU p l s (o+1)
theorem DN (p:Int→Bool)(a:Int)(l:List Int)(s o:Nat):pU p (a::l) s o=bif p a then (2*(s:Int)+1)::pU p l (s+1) o else (2*(o:Int)+2)::pU p l s (o+1):=rfl
theorem xW (p:Int→Bool): ∀(l:List Int) (s o:Nat),(pU p l s o).length=l.length
 | [],_,_=>rfl
 |a::l,s,o=>by unfold pU;cases p a<;>simp [xW p l]
theorem xX (p:Int→Bool): ∀(l l':List Int) (s o:Nat),pU p (l++l') s o=pU p l s o++pU p l' (s+(l.filter p).length) (o+(l.filter fun a=> !p a).length)
 | [],_,_,_=>by simp [pU]
 | a::l,l',s,o=>by
  rw [List.cons_append,DN,DN];cases h:p a
  ·simp only [cond_false];rw [xX p l l'];simp only [List.filter_cons,h,Bool.not_false,if_true,Bool.false_eq_true,if_false,List.length_cons,List.cons_append];rw [Nat.add_right_comm o 1];rfl
  simp only [cond_true];rw [xX p l l'];simp only [List.filter_cons,h,Bool.not_true,if_true,Bool.false_eq_true,if_false,List.length_cons,List.cons_append];rw [Nat.add_right_comm s 1];rfl
theorem Ch (p:Int→Bool){l:List Int}{i:Nat}(h:i<l.length)(s o:Nat):(pU p l s o).getD i 0=bif p l[i] then 2*((s+((l.take i).filter p).length:Nat):Int)+1 else 2*((o+((l.take i).filter fun a=> !p a).length:Nat):Int)+2:=by
 have e:l=l.take i++(l[i]::l.drop (i+1)):=by rw [←List.drop_eq_getElem_cons h,List.take_append_drop]
 have e2:pU p l s o=pU p (l.take i) s o++pU p (l[i]::l.drop (i+1)) (s+((l.take i).filter p).length) (o+((l.take i).filter fun a=> !p a).length):=by
  rw [←xX, ←e]
 rw [e2]
 have hl:(pU p (l.take i) s o).length=i:=by rw [xW,List.length_take];omega
 unfold List.getD;rw [List.getElem?_append_right Y,hl,Nat.sub_self];unfold pU;cases p l[i]<;>rfl
theorem E7 (N:Nat)(hN:5000<N){m:Rg}{roots:List Q5}(hs:Small m roots)(kp:List Int){met:List Int}{seen:List (Int×Bool)}(nx:Int)(h:Mt m met seen):fg N ⟨m,kp,met,seen,nx⟩=some (pU (fm m) met 0 m.Old.length):=by
 have hml:=h.len hs;have ho:=hs.old;apply Sat.eq;unfold fg;refine cI (fun k i (s:List Int×Nat×Nat)=>cG N ⟨m,kp,met,seen,nx⟩ k s.1 (s.2.1:Int) (s.2.2:Int) (i:Int)) met.length (fun i s=>s.1=pU (fm m) (met.take i) 0 m.Old.length∧s.2.1=((met.take i).filter (fm m)).length∧s.2.2=m.Old.length+((met.take i).filter fun a=> !fm m a).length) _ ?_ ?_ N 0 ([],0,m.Old.length) (by show met.length<N+0;omega) Y ⟨U,U,U⟩
 ·rintro k i ⟨s,a,b⟩ hi ⟨h1,h2,h3⟩ go;simp only at h1 h2 h3;have l1:((met.take i).filter (fm m)).length≤i:=Nat.le_trans (List.length_filter_le _ _) (by rw [List.length_take];omega);have l2:((met.take i).filter fun a=> !fm m a).length≤i:=Nat.le_trans (List.length_filter_le _ _) (by rw [List.length_take];omega)
  have hsl:s.length=i:=by rw [h1,xW,List.length_take];omega
  show Sat (cG N ⟨m,kp,met,seen,nx⟩ (k+1) s (a:Int) (b:Int) (i:Int)) _
  have hnext:pU (fm m) (met.take (i+1)) 0 m.Old.length=s++ [bif fm m met[i] then 2*(a:Int)+1 else 2*(b:Int)+2]:=by
   rw [bh hi,xX, ←h1,Nat.zero_add, ←h2, ←h3];unfold pU;cases fm m met[i]<;>rfl
  have hf1:((met.take (i+1)).filter (fm m)).length=a+(bif fm m met[i] then 1 else 0):=by
   rw [bh hi,List.filter_append,List.length_append, ←h2];cases hb:fm m met[i]<;>simp [hb]
  have hf2:((met.take (i+1)).filter fun a=> !fm m a).length+m.Old.length=b+(bif fm m met[i] then 0 else 1):=by
   rw [bh hi,List.filter_append,List.length_append,h3];cases hb:fm m met[i]<;>simp [hb]<;>omega
  have hcell:=qc N hs kp met seen nx (h.has _ (List.getElem_mem hi));rw [cG.eq_2]
  dsimp only
  rw [cF Y,ct,bf hi,bs,hcell,bs];unfold fS;have e:decide ((bU m met[i]).Age=0)=fm m met[i]:=rfl;rw [e,r64 Y Y,r64 Y Y,rF (by simp;omega),r64 Y Y,r64 Y Y,r64 Y Y,r64 Y Y,rF (by simp;omega),r64 Y Y,r64 Y Y];cases hb:fm m met[i]
  ·rw [hb] at hnext hf1 hf2;rw [cf];exact go (s++ [2*(b:Int)+2],a,b+1) ⟨hnext.symm,hf1.symm,by show b+1=_;simp only [cond_false] at hf2;omega⟩
  rw [hb] at hnext hf1 hf2;rw [ct];exact go (s++ [2*(a:Int)+1],a+1,b) ⟨hnext.symm,hf1.symm,by show b=_;simp only [cond_true] at hf2;omega⟩
 rintro k ⟨s,a,b⟩ ⟨h1,h2,h3⟩;simp only [List.take_length] at h1 h2 h3;show Sat (cG N ⟨m,kp,met,seen,nx⟩ (k+1) s (a:Int) (b:Int) _) _;rw [cG.eq_2]
 dsimp only
 rw [cD Y,cf];exact aR h1
theorem C1 {lv:List Int}: ∀{l:List Q5},nG l=true→fo lv l→cM (fun x=>decide (x∈lv)) l=l
 | [],_,_=>rfl
 | [_],h,_=>by cases h
 |k::v::r,h,ha=>by
  rw [jJ] at h;simp only [Bool.and_eq_true,decide_eq_true_eq] at h;have hk:k.N∈lv:=ha k (by simp) (by unfold bM;rw [h.1.1];rfl);rw [oJ,Rk hk,cond_true,C1 h.2 fun w hw=>ha w (by simp [hw])];rfl
theorem Gm {lv:List Int}(cb:Q5): ∀{l:List Q5},kD l=true→fo lv l→ex lv l=l∧ig lv cb l=[]
 | [],_,_=>⟨rfl,rfl⟩
 | [_],h,_=>by cases h
 | [_,_],h,_=>by cases h
 | [_,_,_],h,_=>by cases h
 | t::a::k::s::r,h,ha=>by
  rw [lc] at h;simp only [Bool.and_eq_true,decide_eq_true_eq] at h;obtain ⟨⟨⟨h1, -⟩,h3,h4⟩,h5⟩:=h
  obtain ⟨i1,i2⟩:=Gm cb h5 fun w hw=>ha w (by simp [hw])
  have ht:t.N∈lv:=ha t (by simp) (by unfold bM;rw [h1];rfl)
  have hk:(decide (k.Kind=7)&& !decide (k.N∈lv))=false:=by
   by_cases hk7:k.Kind=7
   ·rw [Rk (ha k (by simp) (by unfold bM;rw [hk7];rfl)),Bool.not_true,Bool.and_false]
   rw [Rl hk7,Bool.false_and]
  rw [sX,wL,i1,i2,Rk ht,hk];exact ⟨U,U⟩
theorem CellOk.id {N:Nat}{lv f:List Int}{c:Ra}(h:CellOk N lv f c)(ha: ∀x∈cO c,x∈lv):jp N lv c=c∧ga lv c=[]:=by
 have hin:fo lv c.More:=fun v hv hb=>ha _ (Bk (Rq _ hv) hb)
 by_cases h8:c.Kind=8
 ·rw [h.clC8 h8,C1 (h.ent2 h8) hin];exact ⟨U,by unfold ga;rw [Rl Y];rfl⟩
 by_cases h10:c.Kind=10
 ·obtain ⟨-, -,h4⟩:=h.ent4 h10
  obtain ⟨i1,i2⟩:=Gm (lv:=lv) (c.More.headD lB) h4 fun v hv=>hin v (List.mem_of_mem_drop hv)
  rw [CellOk.clC10 h10,i1,List.take_append_drop];refine ⟨U,?_⟩;unfold ga tg;rw [Rk h10];exact i2
 exact ⟨CellOk.clC0 h8 h10,by unfold ga;rw [Rl h10];rfl⟩
theorem Ah (N:Nat)(hN:5000<N){lv f:List Int}{c:Ra}(h:CellOk N lv f c)(hl:lv.length≤5000)(gone:List Q5)(hg:gone.length≤10000):iN N c lv gone=some (jp N lv c,gone++ga lv c):=by
 have hlen:=(oh N lv c).2;have hm:=h.more;unfold iN;by_cases h8:c.Kind=8
 ·rw [Rk h8,ct,CX N hN lv hl c h.slots h.more,h.wm,bs];unfold jp ga;rw [Rk h8,Rl (p:=c.Kind=10) Y,cond_true,cond_true,cond_false,List.append_nil]
 rw [Rl h8,cf];by_cases h10:c.Kind=10
 ·have e1:jp N lv c=(tg lv c).1:=by unfold jp;rw [Rl h8,Rk h10];rfl
  have e2:ga lv c=(tg lv c).2:=by unfold ga;rw [Rk h10];rfl
  rw [Rk h10,ct,wF N hN lv hl c h.slots h.more,h.fr,Rk h10,cond_true,bs, ←e1, ←e2,rF Y]
 rw [Rl h10,cf,CellOk.clC0 h8 h10];unfold ga;rw [Rl h10,cond_false,List.append_nil]
structure MinCtx (N:Nat) (m:Rg) (roots:List Q5) (kept met:List Int):Prop where
 big:5000<N
 small:Small m roots
 w64:W64 m
 r64: ∀v∈roots,in64 v.N
 tot:cE (fun a=>(bU m a).More.length) (yT m)≤3600
 klen:kept.length≤1200
 may:Gi N m roots kept=true
 prog: ∃seen nx,kV N m roots kept=some ⟨m,kept,met,seen,nx⟩∧Mt m met seen
 isM: ∃b,IsMinor (J0 N m) (cu m.Old.length) kept (BB m roots kept) b met
theorem zt {N:Nat}{m:Rg}{roots:List Q5}{kept:List Int}(h:Gi N m roots kept=true):Ip N m roots=true∧qf m kept=true∧qY m kept=true:=by
 unfold Gi at h;unfold Ip;simp only [Bool.and_eq_true] at h⊢;exact ⟨h.1.1,h.1.2,h.2⟩
theorem CI {m:Rg}{kept:List Int}(h:qf m kept=true){a:Int}(ha:a∈kept):br m a=true∧yB a=false:=by
 unfold qf at h;rw [Bool.and_eq_true] at h;have:=oo h.1 ha;rw [Bool.and_eq_true] at this;exact ⟨this.2,by cases hy:yB a;rfl;rw [hy] at this;cases this.1⟩
theorem MX {N:Nat}(hN:5000<N){m:Rg}{roots:List Q5}(hs:Small m roots)(hw:W64 m)(hr: ∀v∈roots,in64 v.N)(ht:cE (fun a=>(bU m a).More.length) (yT m)≤3600){kept:List Int}(hk:kept.length≤1200)(hm:Gi N m roots kept=true): ∃met,MinCtx N m roots kept met:=by
 obtain ⟨h1,h2, -⟩:=zt hm;obtain ⟨g1,g2, -⟩:=yv h1;obtain ⟨r,e,seen,nx,b,e2,h3,h4⟩:=JN N hN hs g1 g2 kept (fun x hx=>(CI h2 hx).1) hk;exact ⟨r.met_,hN,hs,hw,hr,ht,hk,hm,⟨seen,nx,by rw [e, ←e2],h3⟩,⟨b,h4⟩⟩
def fJ (m:Rg)(met:List Int):List Int:=cu m.Old.length++met
def Df (m:Rg)(met:List Int):List Int:=pU (fm m) met 0 m.Old.length
def dl (m:Rg)(met:List Int):Int→Int:=xz met (Df m met)
def nC (N:Nat)(m:Rg)(met:List Int)(a:Int):Ra:=f0 (dl m met) met (jp N (fJ m met) (bU m a))
def nY (N:Nat)(m:Rg)(met:List Int)(a:Int):Ra:=⟨(nC N m met a).Kind,(nC N m met a).Shape,(nC N m met a).Flags,1,(nC N m met a).Slots,(nC N m met a).More⟩
def iO (N:Nat)(m:Rg)(met:List Int):Rg:=⟨(met.filter (fm m)).map (nY N m met),(cu m.Old.length).map (nC N m met)++(met.filter fun a=> !fm m a).map (nY N m met)⟩
def qb (m:Rg)(met:List Int):List Q5:=(fJ m met).flatMap fun a=>ga (fJ m met) (bU m a)
section
variable {N:Nat} {m:Rg} {roots:List Q5} {kept met:List Int} (h:MinCtx N m roots kept met)
include h
theorem MinCtx.whole:Whole m:=(yv (zt h.may).1).1
theorem MinCtx.rootsH: ∀x∈ce roots,br m x=true:=(yv (zt h.may).1).2.1
theorem MinCtx.mt:met.Nodup∧(∀x∈met,yB x=true)∧ ∀x∈met,br m x=true:=by
 obtain ⟨_,_, -,h2⟩:=h.prog;exact ⟨h2.nd,h2.yng,h2.has⟩
theorem MinCtx.mlen:met.length≤1200:=by
 obtain ⟨_,_, -,h2⟩:=h.prog;exact h2.len h.small
theorem MinCtx.f1has {a:Int}(ha:a∈fJ m met):br m a=true:=by
 unfold fJ at ha;rcases List.mem_append.1 ha with ha|ha
 ·obtain ⟨i,hi,rfl⟩:=fU.1 ha;rw [wZ];exact Rk hi
 exact h.mt.2.2 a ha
theorem MinCtx.keptOf {a:Int}(ha:a∈cu m.Old.length){x:Int}(hx:x∈cO (bU m a))(hy:yB x=true):a∈kept:=by
 obtain ⟨i,hi,rfl⟩:=fU.1 ha;have h3:=(zt h.may).2.2;unfold qY at h3;have:=oo h3 (List.mem_range.2 hi);rw [List.any_eq_true.2 ⟨x,hx,hy⟩] at this;simpa using this
theorem MinCtx.inF {a:Int}(ha:a∈fJ m met){x:Int}(hx:br m x=true)(hyx:yB x=true→x∈met):x∈fJ m met:=by
 have _:=h;have _:=ha;unfold fJ
 cases hy:yB x with
 |true=>exact Rq _ (hyx hy)
 |false=>
  obtain ⟨i,hi,rfl⟩:=Gq hx hy;exact Rp _ (fU.2 ⟨i,hi,U⟩)
theorem MinCtx.cell {a:Int}(ha:a∈fJ m met):CellOk N (fJ m met) (fJ m met) (bU m a):=by
 have hN:=h.big;have hh:=h.f1has ha;have hm:=vS hh;have hs:=h.small.cells _ hm;obtain ⟨b,hM⟩:=h.isM;obtain ⟨q1,q2⟩:=hM.closed;have hf:=(yv (zt h.may).1).2.2 _ hm;refine ⟨by omega,?_,hs.1,hs.2,fun x hx=> ?_,fun x hx=> ?_,fun x=>Iff.rfl⟩
 ·unfold Ap at hf;rw [pL N Y _ Y Y,Bool.and_eq_true] at hf;exact hf.1
 ·refine h.inF ha (h.whole.leads hh x hx) fun hy=> ?_
  unfold fJ at ha;rcases List.mem_append.1 ha with ha|ha
  ·exact hM.start (Rq _ (List.mem_flatMap.2 ⟨a,h.keptOf ha (Rp _ hx) hy,hx⟩)) hy
  exact q1 a ha x hx hy
 refine h.inF ha (h.whole.opens hh x hx) fun hy=> ?_
 refine q2 a ?_ x hx hy;unfold fJ at ha;rcases List.mem_append.1 ha with ha|ha
 ·exact Rp _ (h.keptOf ha (Ho hx) hy)
 exact Rq _ ha
theorem MinCtx.old {a:Int}(ha:a∈cu m.Old.length)(hk:a∉kept):jp N (fJ m met) (bU m a)=bU m a∧ga (fJ m met) (bU m a)=[]:=by
 have hf:a∈fJ m met:=Rp _ ha
 refine (h.cell hf).id fun x hx=>h.inF hf (h.whole a (h.f1has hf) x hx) fun hy=>absurd (h.keptOf ha hx hy) hk
theorem MinCtx.nd:(fJ m met).Nodup:=by
 unfold fJ;refine List.nodup_append.2 ⟨?_,h.mt.1,fun a ha b hb e=> ?_⟩
 ·exact (J4 _).imp fun hab e=>by omega
 subst e;obtain ⟨i, -,rfl⟩:=fU.1 ha;have:=h.mt.2.1 _ hb;rw [AW] at this;cases this
theorem MinCtx.goneLen: ∀l:List Int,l.Nodup→(∀a∈l,a∈fJ m met)→(l.flatMap fun a=>ga (fJ m met) (bU m a)).length≤3600:=by
 intro l hn hl
 have h1:=ot (fun a=>(bU m a).More.length) hn fun a ha=>sj (h.f1has (hl a ha))
 have h2: ∀l:List Int,(l.flatMap fun a=>ga (fJ m met) (bU m a)).length≤cE (fun a=>(bU m a).More.length) l:=fun l=>by
  induction l with
  |nil=>simp [cE]
  |cons a l ih=>
   have:=(oh N (fJ m met) (bU m a)).2;rw [List.flatMap_cons,List.length_append,cE];omega
 have:=h2 l;have:=h.tot;omega
end
end
section
open Go.RowKit
theorem DA {α β:Type}(f:α→List β){l:List α}{i:Nat}(h:i<l.length):(l.take (i+1)).flatMap f=(l.take i).flatMap f++f l[i]:=by
 rw [bh h,List.flatMap_append,List.flatMap_cons,List.flatMap_nil,List.append_nil]
theorem Kx {α β:Type}(f:α→β){l:List α}{i:Nat}(h:i<l.length):(l.take (i+1)).map f=(l.take i).map f++ [f l[i]]:=by
 rw [bh h,List.map_append];rfl
theorem zV {α:Type}(p:α→Bool){l:List α}{i:Nat}(h:i<l.length):(l.take (i+1)).filter p=(l.take i).filter p++(bif p l[i] then [l[i]] else []):=by
 rw [bh h,List.filter_append];cases hp:p l[i]<;>simp [hp]
section
variable {N:Nat} {m:Rg} {roots:List Q5} {kept met:List Int} (h:MinCtx N m roots kept met)
include h
theorem MinCtx.f1len:(fJ m met).length≤1800:=by
 have h1:=h.mlen;have h2:=h.small.old;unfold fJ cu;rw [List.length_append,List.length_map,List.length_range];omega
theorem K2:f3 N m roots kept=some (iO N m met,roots.map (bR (dl m met) met),(qb m met).map (bR (dl m met) met),0):=by
 have hN:=h.big;have hs:=h.small;have hml:=h.mlen;have ho:=hs.old;have hrl:=hs.roots;have hfl:=h.f1len;obtain ⟨hnd,hyng,hhas⟩:=h.mt;obtain ⟨seen,nx,hp,hmt⟩:=h.prog;have hto:(Df m met).length=met.length:=xW _ _ _ _
 have hev:(cu m.Old.length).length=m.Old.length:=by unfold cu;simp
 obtain ⟨hfine,hkok, -⟩:=zt h.may
 have k64: ∀x∈kept,in64 x:=fun x hx=>yp hs (CI hkok hx).1
 have hkl:=h.klen;have hgl: ∀l:List Int,l.Nodup→(∀a∈l,a∈fJ m met)→(l.flatMap fun a=>ga (fJ m met) (bU m a)).length≤3600:=h.goneLen
 have tk: ∀i,((cu m.Old.length).take i).flatMap (fun a=>ga (fJ m met) (bU m a))=((cu m.Old.length).take i).flatMap fun a=>ga (fJ m met) (bU m a):=fun i=>rfl
 have g1: ∀i,(((cu m.Old.length).take i).flatMap fun a=>ga (fJ m met) (bU m a)).length≤3600:=fun i=>hgl _ (List.Nodup.sublist (List.take_sublist _ _) (List.nodup_append.1 h.nd).1) fun a ha=>Rp _ (List.mem_of_mem_take ha)
 have g2: ∀i,((cu m.Old.length++met.take i).flatMap fun a=>ga (fJ m met) (bU m a)).length≤3600:=fun i=>hgl _ (List.Nodup.sublist (List.Sublist.append (List.Sublist.refl _) (List.take_sublist i met)) h.nd) fun a ha=>(List.mem_append.1 ha).elim (fun h=>Rp _ h) fun h=>Rq _ (List.mem_of_mem_take h)
 have moved: ∀a∈fJ m met, ∀d:Ra,d.Slots.length≤600→d.More.length≤600→fx N d met (Df m met)=some (f0 (dl m met) met d):=fun a _ d h1 h2=>Ax N hN d Y Y met (Df m met) hnd hto hml
 -- the young cells
 have young: ∀f8:List Ra,f8.length≤600→Sat (dT N ⟨m,kept,met,seen,nx⟩ roots (Df m met) (fJ m met) N ((cu m.Old.length).flatMap fun a=>ga (fJ m met) (bU m a)) 0 [] f8) fun r=>r=(⟨(met.filter (fm m)).map (nY N m met),f8++(met.filter fun a=> !fm m a).map (nY N m met)⟩,roots.map (bR (dl m met) met),(qb m met).map (bR (dl m met) met),0):=by
  intro f8 hO;refine cI (fun k i (s:List Q5×List Ra×List Ra)=>dT N ⟨m,kept,met,seen,nx⟩ roots (Df m met) (fJ m met) k s.1 (i:Int) s.2.1 s.2.2) met.length (fun i s=>s.1=(cu m.Old.length++met.take i).flatMap (fun a=>ga (fJ m met) (bU m a))∧s.2.1=((met.take i).filter (fm m)).map (nY N m met)∧s.2.2=f8++((met.take i).filter fun a=> !fm m a).map (nY N m met)) _ ?_ ?_ N 0 (_,[],f8) Y Y ⟨by rw [List.take_zero,List.append_nil];rfl,rfl,by simp⟩
  ·rintro k i ⟨g,f7,Q⟩ hi ⟨h1,h2,h3⟩ go;simp only at h1 h2 h3;show Sat (dT N ⟨m,kept,met,seen,nx⟩ roots (Df m met) (fJ m met) (k+1) g (i:Int) f7 Q) _;have hgm:met[i]∈met:=List.getElem_mem hi;have hgf:met[i]∈fJ m met:=Rq _ hgm;have hc:=h.cell hgf;have hcl:=oh N (fJ m met) (bU m met[i]);have hc1:=hc.slots;have hc2:=hc.more
   have hgt:g.length≤3600:=by rw [h1];exact g2 i
   have hYl:f7.length≤i:=by rw [h2,List.length_map];exact Nat.le_trans (List.length_filter_le _ _) (by rw [List.length_take];omega)
   have hQl:Q.length≤600+i:=by
    rw [h3,List.length_append,List.length_map];have:=List.length_filter_le (fun a=> !fm m a) (met.take i);rw [List.length_take] at this;omega
   have hti:i<(Df m met).length:=by omega
   have htv:(Df m met)[i]=bif fm m met[i] then 2*((0+((met.take i).filter (fm m)).length:Nat):Int)+1 else 2*((m.Old.length+((met.take i).filter fun a=> !fm m a).length:Nat):Int)+2:=by
    have:=Ch (fm m) hi 0 m.Old.length;unfold List.getD at this;have e:(pU (fm m) met 0 m.Old.length)[i]? =some (Df m met)[i]:=List.getElem?_eq_getElem hti;rw [e] at this;exact this
   have hyt:yB (Df m met)[i]=fm m met[i]:=by
    rw [htv];cases fm m met[i]
    ·exact AW _
    exact GZ _
   rw [dT.eq_2]
   dsimp only
   rw [cF Y,ct,bf hi,bs,qc N hs kept met seen nx (h.f1has hgf),bs,Ah N hN hc Y g Y,bs]
   dsimp only
   rw [moved _ hgf _ Y Y,bs,bf hti,bs,px,bs,hyt];unfold ky;rw [r64 Y Y,r64 Y Y,rF (by simp;omega),rF (by simp;omega)]
   have hg':g++ga (fJ m met) (bU m met[i])=(cu m.Old.length++met.take (i+1)).flatMap fun a=>ga (fJ m met) (bU m a):=by
    rw [h1,List.flatMap_append,List.flatMap_append,DA _ hi,Rn]
   have hf1:=zV (fm m) hi;have hf2:=zV (fun a=> !fm m a) hi;cases hb:fm m met[i]
   ·rw [hb] at hf1;simp only [hb,Bool.not_false,cond_true,cond_false,List.append_nil] at hf1 hf2;rw [cf];exact go (_,f7,_) ⟨hg',by show f7=_;rw [hf1];exact h2,by show Q++ [nY N m met met[i]]=_;rw [hf2,List.map_append,h3,Rn];rfl⟩
   rw [hb] at hf1;simp only [hb,Bool.not_true,cond_true,cond_false,List.append_nil] at hf1 hf2;rw [ct];exact go (_,_,Q) ⟨hg',by show f7++ [nY N m met met[i]]=_;rw [hf1,List.map_append,h2];rfl,by show Q=_;rw [hf2];exact h3⟩
  rintro k ⟨g,f7,Q⟩ ⟨h1,h2,h3⟩;simp only [List.take_length] at h1 h2 h3;show Sat (dT N ⟨m,kept,met,seen,nx⟩ roots (Df m met) (fJ m met) (k+1) g _ f7 Q) _
  have hgt:g.length≤3600:=by rw [h1];have:=g2 met.length;rwa [List.take_length] at this
  rw [dT.eq_2]
  dsimp only
  rw [cD Y,cf];unfold na
  dsimp only
  rw [Ag N hN roots Y met (Df m met) hnd hto hml,bs,Ag N hN g Y met (Df m met) hnd hto hml,bs,h2,h3];refine aR ?_;rw [h1];rfl
 apply Sat.eq;unfold f3;rw [D0 N hN hs h.w64 h.r64 kept Y k64,h.may,bs,nt,cf,hp,bs,E7 N hN hs kept nx hmt,bs,Cw N hN hs kept nx hmt,bs];refine cI (fun k i (s:List Q5×List Ra)=>eO N m roots kept (Df m met) ⟨m,kept,met,seen,nx⟩ k s.1 (fJ m met) (i:Int) s.2) m.Old.length (fun i s=>s.1=((cu m.Old.length).take i).flatMap (fun a=>ga (fJ m met) (bU m a))∧s.2=((cu m.Old.length).take i).map (nC N m met)) _ ?_ ?_ N 0 ([],[]) Y Y ⟨U,U⟩
 ·rintro k i ⟨g,f8⟩ hi ⟨h1,h2⟩ go;simp only at h1 h2;show Sat (eO N m roots kept (Df m met) ⟨m,kept,met,seen,nx⟩ (k+1) g (fJ m met) (i:Int) f8) _
  have hie:i<(cu m.Old.length).length:=by omega
  have hei:(cu m.Old.length)[i]=2*(i:Int)+2:=D7 hie;have hae:(2*(i:Int)+2)∈cu m.Old.length:=fU.2 ⟨i,hi,rfl⟩;have haf:(2*(i:Int)+2)∈fJ m met:=Rp _ hae;have hc:=h.cell haf;have hcl:=oh N (fJ m met) (bU m (2*(i:Int)+2));have hc1:=hc.slots;have hc2:=hc.more
  have hgt:g.length≤3600:=by rw [h1];exact g1 i
  have hOl:f8.length≤i:=by rw [h2,List.length_map,List.length_take];omega
  have hold:=h.old hae
  have n1:((cu m.Old.length).take (i+1)).flatMap (fun a=>ga (fJ m met) (bU m a))=g++ga (fJ m met) (bU m (2*(i:Int)+2)):=by rw [DA _ hie,hei,h1]
  have n2:((cu m.Old.length).take (i+1)).map (nC N m met)=f8++ [nC N m met (2*(i:Int)+2)]:=by rw [Kx _ hie,hei,h2]
  rw [uZ m i hi] at hc hcl hc1 hc2 hold n1
  have hnc:nC N m met (2*(i:Int)+2)=f0 (dl m met) met (jp N (fJ m met) m.Old[i]):=by unfold nC;rw [uZ m i hi]
  have body: ∀(kb:List Q5→List Int→Int→List Ra→Option (Rg×List Q5×List Q5×Int)) (g':List Q5) (d:Ra),d.Slots.length≤600→d.More.length≤600→iy N kb m (i:Int) roots kept (Df m met) (fJ m met) f8 ⟨m,kept,met,seen,nx⟩ g' d.Kind d.Shape d.Flags d.Age d.Slots d.More=kb g' (fJ m met) ((i:Int)+1) (f8++ [f0 (dl m met) met d]):=by
   intro kb g' d d1 d2;have:=moved _ haf d d1 d2;unfold iy
   dsimp only
   have e:fx N ⟨d.Kind,d.Shape,d.Flags,d.Age,d.Slots,d.More⟩ met (Df m met)=some (f0 (dl m met) met d):=this;rw [e,bs,rF (by simp;omega),r64 Y Y]
  rw [eO.eq_2,cF Y,ct,bf hi,bs,r64 Y Y,r64 Y Y,og N hN kept Y,bs];by_cases hk:(2*(i:Int)+2)∈kept
  ·rw [Rk hk,ct,Ah N hN hc Y g Y,bs]
   dsimp only
   rw [body _ _ _ Y Y];exact go (_,_) ⟨n1.symm,by rw [n2,hnc]⟩
  obtain ⟨o1,o2⟩:=hold hk;rw [Rl hk,cf,body _ _ _ Y Y];exact go (g,_) ⟨by rw [n1,o2,List.append_nil],by rw [n2,hnc,o1]⟩
 rintro k ⟨g,f8⟩ ⟨h1,h2⟩;have etl:(cu m.Old.length).take m.Old.length=cu m.Old.length:=List.take_of_length_le Y;simp only [etl] at h1 h2;show Sat (eO N m roots kept (Df m met) ⟨m,kept,met,seen,nx⟩ (k+1) g (fJ m met) _ f8) _;rw [eO.eq_2,cD Y,cf];unfold nb;rw [h1]
 have hOl:f8.length≤600:=by rw [h2,List.length_map];omega
 have:=young f8 hOl;rw [h2] at this⊢;exact this
end
end
section
open Go.RowKit
theorem Ik: ∀{A B:List Int} {x:Int},x∉A→(A++x::B).idxOf x=A.length
 | [],B,x,_=>by simp
 |a::A,B,x,h=>by
  have h1:a≠x:=fun e=>h (by simp [e])
  rw [List.cons_append,List.idxOf_cons,Ik fun hx=>h (by simp [hx])];have:(a==x)=false:=beq_eq_false_iff_ne.2 h1;rw [this];rfl
theorem Gw {l:List Int}(hn:l.Nodup)(p:Int→Bool){i:Nat}(h:i<l.length)(hp:p l[i]=true):(l.filter p).idxOf l[i]=((l.take i).filter p).length:=by
 have e:l.filter p=(l.take i).filter p++l[i]::(l.drop (i+1)).filter p:=by
  have e1:l=l.take i++(l[i]::l.drop (i+1)):=by rw [←List.drop_eq_getElem_cons h,List.take_append_drop]
  have e2:l.filter p=(l.take i).filter p++(l[i]::l.drop (i+1)).filter p:=by rw [←List.filter_append, ←e1]
  rw [e2,List.filter_cons,hp,if_pos rfl]
 rw [e]
 exact Ik fun hm=>Cs hn h (List.mem_filter.1 hm).1
def kI (c:Ra)(g:Int):Ra:=⟨c.Kind,c.Shape,c.Flags,g,c.Slots,c.More⟩
theorem EQ {c:Ra}(h:dz c=true):dz (kI c 1)=true:=by
 unfold dz at h⊢;unfold kI;simp only [Bool.and_eq_true] at h⊢;obtain ⟨⟨⟨⟨⟨⟨⟨h1,h2⟩,h3⟩,h4⟩,h5⟩, -⟩, -⟩,h8⟩:=h;exact ⟨⟨⟨⟨⟨⟨⟨h1,h2⟩,h3⟩,h4⟩,h5⟩,U⟩,U⟩,h8⟩
structure VCell (N:Nat) (c:Ra):Prop where
 big:2000<N
 right:dz c=true
 slots:c.Slots.length≤600
 more:c.More.length≤600
theorem C6 {N:Nat}{c:Ra}{g:Int}(h:VCell N c)(h2:VCell N (kI c g)):ck N (kI c g)=kI (ck N c) g:=by
 unfold ck;rw [nP h.big h.right h.slots h.more,nP h2.big h2.right h2.slots h2.more];show (bif decide (c.Kind=10) then _ else _)=_;cases decide (c.Kind=10)<;>rfl
theorem Ku {N:Nat}{c:Ra}{g:Int}(h:VCell N c)(h2:VCell N (kI c g)):km N (ck N (kI c g))=km N (ck N c):=by
 have k: ∀c:Ra,(ck N c).Kind=c.Kind:=fun c=>by unfold ck;cases qE N c<;>rfl
 have k2: ∀c:Ra,VCell N c→c.Kind=8→ck N c=c:=fun c h h8=>by
  unfold ck;rw [nP h.big h.right h.slots h.more,Rl Y];rfl
 by_cases h8:c.Kind=8
 ·rw [k2 c h h8,k2 _ h2 h8,qg h.big h.right h.slots h.more,qg h2.big h2.right h2.slots h2.more];rfl
 unfold km;rw [k,k];have e:(kI c g).Kind=c.Kind:=rfl;rw [e,Rl h8,Bool.false_and,Bool.false_and]
theorem JD {N:Nat}{c:Ra}{g:Int}(h:VCell N c)(h2:VCell N (kI c g))(row:List Int):ca N (ck N (kI c g)) row=ca N (ck N c) row:=by
 unfold ca;rw [Ku h h2,C6 h h2];rfl
theorem Ka {N:Nat}{c:Ra}{g:Int}(h:VCell N c)(h2:VCell N (kI c g))(A:List Int):cV N A (ck N (kI c g))=kI (cV N A (ck N c)) g:=by
 unfold cV;rw [Ku h h2,C6 h h2];cases km N (ck N c)<;>rfl
theorem Md (m:Rg){i:Nat}{c:Ra}(h:m.Old[i]? =some c):br m (2*(i:Int)+2)=true∧bU m (2*(i:Int)+2)=c:=by
 obtain ⟨h1,h2⟩:=List.getElem?_eq_some_iff.1 h;exact ⟨by rw [wZ];exact Rk h1,by rw [uZ m i h1];exact h2⟩
theorem Pk (m:Rg){i:Nat}{c:Ra}(h:m.Young[i]? =some c):br m (2*(i:Int)+1)=true∧bU m (2*(i:Int)+1)=c:=by
 obtain ⟨h1,h2⟩:=List.getElem?_eq_some_iff.1 h;exact ⟨by rw [Lh];exact Rk h1,by rw [GR m i h1];exact h2⟩
theorem Gp {f:List Int}{a:Int}(h:a∈f):f[f.idxOf a]? =some a:=List.getElem?_eq_some_iff.2 ⟨rN h,oe h⟩
section
variable {N:Nat} {m:Rg} {roots:List Q5} {kept met:List Int} (h:MinCtx N m roots kept met)
include h
theorem MinCtx.rhoE {a:Int}(ha:a∈cu m.Old.length):dl m met a=a:=by
 have hn:a∉met:=fun hm=>(List.nodup_append.1 h.nd).2.2 a ha a hm rfl
 unfold dl xz;rw [if_neg hn]
theorem MinCtx.rhoY {a:Int}(ha:a∈met)(hp:fm m a=true):dl m met a=2*(((met.filter (fm m)).idxOf a:Nat):Int)+1:=by
 obtain ⟨i,hi,rfl⟩:=List.getElem_of_mem ha;unfold dl xz Df;rw [if_pos ha,zp h.mt.1 hi,Ch _ hi,hp,Gw h.mt.1 _ hi hp,cond_true,Nat.zero_add]
theorem MinCtx.rhoO {a:Int}(ha:a∈met)(hp:fm m a=false):dl m met a=2*((m.Old.length+(met.filter fun a=> !fm m a).idxOf a:Nat):Int)+2:=by
 obtain ⟨i,hi,rfl⟩:=List.getElem_of_mem ha;unfold dl xz Df;rw [if_pos ha,zp h.mt.1 hi,Ch _ hi,hp,Gw h.mt.1 (fun a=> !fm m a) hi (by rw [hp];rfl),cond_false]
theorem MinCtx.cases {a:Int}(ha:a∈fJ m met):(a∈cu m.Old.length∧dl m met a=a)∨(a∈met∧fm m a=true∧a∈met.filter (fm m))∨(a∈met∧fm m a=false∧a∈met.filter fun a=> !fm m a):=by
 unfold fJ at ha;rcases List.mem_append.1 ha with ha|ha
 ·exact .inl ⟨ha,h.rhoE ha⟩
 cases hp:fm m a with
 |true=>exact .inr (.inl ⟨ha,rfl,List.mem_filter.2 ⟨ha,hp⟩⟩)
 |false=>exact .inr (.inr ⟨ha,rfl,List.mem_filter.2 ⟨ha,by rw [hp];rfl⟩⟩)
theorem MinCtx.ren:Ren (dl m met) (fJ m met):=by
 refine ⟨fun a b ha hb e=> ?_,fun a ha=> ?_⟩
 ·rcases h.cases ha with ⟨a1,a2⟩|⟨a1,a2,a3⟩|⟨a1,a2,a3⟩<;>rcases h.cases hb with ⟨b1,b2⟩|⟨b1,b2,b3⟩|⟨b1,b2,b3⟩
  ·rw [a2,b2] at e;exact e
  ·obtain ⟨i, -,rfl⟩:=fU.1 a1;rw [a2,h.rhoY b1 b2] at e;omega
  ·obtain ⟨i,hi,rfl⟩:=fU.1 a1;rw [a2,h.rhoO b1 b2] at e;omega
  ·obtain ⟨i, -,rfl⟩:=fU.1 b1;rw [b2,h.rhoY a1 a2] at e;omega
  ·rw [h.rhoY a1 a2,h.rhoY b1 b2] at e
   have e2:(met.filter (fm m)).idxOf a=(met.filter (fm m)).idxOf b:=by omega
   rw [←oe a3, ←oe b3];simp only [e2]
  ·rw [h.rhoY a1 a2,h.rhoO b1 b2] at e;omega
  ·obtain ⟨i,hi,rfl⟩:=fU.1 b1;rw [b2,h.rhoO a1 a2] at e;omega
  ·rw [h.rhoO a1 a2,h.rhoY b1 b2] at e;omega
  rw [h.rhoO a1 a2,h.rhoO b1 b2] at e
  have e2:(met.filter fun a=> !fm m a).idxOf a=(met.filter fun a=> !fm m a).idxOf b:=by omega
  rw [←oe a3, ←oe b3];simp only [e2]
 rcases h.cases ha with ⟨a1,a2⟩|⟨a1,a2,a3⟩|⟨a1,a2,a3⟩
 ·obtain ⟨i, -,rfl⟩:=fU.1 a1;omega
 ·rw [h.rhoY a1 a2];omega
 rw [h.rhoO a1 a2];omega
end
def Kj (N:Nat)(m:Rg)(met:List Int)(a:Int):Int:=if a∈met then 1 else (nC N m met a).Age
def nv (N:Nat)(m:Rg)(met:List Int)(a:Int):Ra:=kI (nC N m met a) (Kj N m met a)
theorem uC {m:Rg}{met:List Int}(v:Q5):bR (dl m met) (fJ m met) v=bR (dl m met) met v:=by
 unfold bR fJ;cases hb:bM v
 ·rfl
 rw [Bool.true_and,Bool.true_and];by_cases h:v.N∈met
 ·rw [Rk h,Rk (Rq _ h)]
 rw [Rl h]
 have e:dl m met v.N=v.N:=by unfold dl xz;rw [if_neg h]
 rw [e];cases decide (v.N∈cu m.Old.length++met)<;>rfl
theorem Cu {m:Rg}{met:List Int}(c:Ra):f0 (dl m met) met c=f0 (dl m met) (fJ m met) c:=by
 unfold f0;rw [List.map_congr_left fun v _=>(uC v).symm,List.map_congr_left (l:=c.More) fun v _=>(uC v).symm]
section
variable {N:Nat} {m:Rg} {roots:List Q5} {kept met:List Int} (h:MinCtx N m roots kept met)
include h
theorem MinCtx.cellE {a:Int}(ha:a∈cu m.Old.length):nv N m met a=nC N m met a:=by
 have hn:a∉met:=fun hm=>(List.nodup_append.1 h.nd).2.2 a ha a hm rfl
 unfold nv Kj;rw [if_neg hn];rfl
theorem GM {a:Int}(ha:a∈met):nv N m met a=nY N m met a:=by
 have _:=h;unfold nv Kj;rw [if_pos ha];rfl
theorem MinCtx.at_ {a:Int}(ha:a∈fJ m met):br (iO N m met) (dl m met a)=true∧bU (iO N m met) (dl m met a)=nv N m met a:=by
 have hev:(cu m.Old.length).length=m.Old.length:=by unfold cu;simp
 have hml:((cu m.Old.length).map (nC N m met)).length=m.Old.length:=by rw [List.length_map];exact hev
 rcases h.cases ha with ⟨a1,a2⟩|⟨a1,a2,a3⟩|⟨a1,a2,a3⟩
 ·rw [a2,h.cellE a1];obtain ⟨i,hi,rfl⟩:=fU.1 a1;refine Md _ ?_;show ((cu m.Old.length).map (nC N m met)++(met.filter fun a=> !fm m a).map (nY N m met))[i]? =_;rw [List.getElem?_append_left Y,List.getElem?_map,List.getElem?_eq_getElem (by omega:i<(cu m.Old.length).length),D7];rfl
 ·rw [h.rhoY a1 a2,GM h a1];refine Pk _ ?_;show ((met.filter (fm m)).map (nY N m met))[_]? =_;rw [List.getElem?_map,Gp a3];rfl
 rw [h.rhoO a1 a2,GM h a1];refine Md _ ?_;show ((cu m.Old.length).map (nC N m met)++(met.filter fun a=> !fm m a).map (nY N m met))[_]? =_;rw [List.getElem?_append_right Y,hml,Nat.add_sub_cancel_left,List.getElem?_map,Gp a3];rfl
theorem MinCtx.okN {a:Int}(ha:a∈fJ m met):VCell N (nC N m met a)∧VCell N (nv N m met a):=by
 have hN:=h.big;obtain ⟨g1,g2,g3, -⟩:=CellOk.new h.ren (h.cell ha);have e:nC N m met a=f0 (dl m met) (fJ m met) (jp N (fJ m met) (bU m a)):=Cu _;rw [←e] at g1 g2 g3;refine ⟨⟨by omega,g1,g2,g3⟩,by omega,?_,g2,g3⟩;unfold nv Kj;by_cases hm:a∈met
 ·rw [if_pos hm];exact EQ g1
 rw [if_neg hm];exact g1
theorem MinCtx.graph:MapG (An N (dc N m)) (An N (dc N (iO N m met))) (dl m met) (· ∈fJ m met):=by
 have eC: ∀a,nC N m met a=f0 (dl m met) (fJ m met) (jp N (fJ m met) (bU m a)):=fun a=>Cu _
 have hB: ∀a∈fJ m met,bU (dc N m) a=ck N (bU m a):=fun a ha=>sC N m a (h.f1has ha)
 have hNB: ∀a∈fJ m met,bU (dc N (iO N m met)) (dl m met a)=ck N (nv N m met a):=fun a ha=>by
  rw [sC N _ _ (h.at_ ha).1,(h.at_ ha).2]
 refine ⟨fun a b ha hb e=>h.ren.inj a b ha hb e,fun a ha=>⟨?_,?_⟩,fun a ha=> ?_,fun row a hr ha=> ?_⟩
 ·show br (dc N m) a=true;rw [mH];exact h.f1has ha
 ·show br (dc N (iO N m met)) (dl m met a)=true;rw [mH];exact (h.at_ ha).1
 ·show bL (bU (dc N (iO N m met)) (dl m met a))=(bL (bU (dc N m) a)).map (dl m met)∧ ∀x∈bL (bU (dc N m) a),x∈fJ m met;obtain ⟨o1,o2⟩:=h.okN ha;rw [hNB a ha,hB a ha];have e:ck N (nv N m met a)=kI (ck N (nC N m met a)) (Kj N m met a):=C6 o1 o2;rw [e];show bL (ck N (nC N m met a))=_∧_;rw [eC a];exact CellOk.leadsG h.ren (h.cell ha)
 show ca N (bU (dc N (iO N m met)) (dl m met a)) (row.map (dl m met))=(ca N (bU (dc N m) a) row).map (dl m met)∧ ∀x∈ca N (bU (dc N m) a) row,x∈fJ m met;obtain ⟨o1,o2⟩:=h.okN ha;have e:ca N (ck N (nv N m met a)) (row.map (dl m met))=ca N (ck N (nC N m met a)) (row.map (dl m met)):=JD o1 o2 _;rw [hNB a ha,hB a ha,e,eC a];exact CellOk.opensG h.ren (h.cell ha) hr
end
end
section
open Go.RowKit
theorem DC {α:Type}(g:α→Nat)(p:α→Bool): ∀l:List α,cE g (l.filter p)+cE g (l.filter fun a=> !p a)=cE g l
 | []=>rfl
 |a::l=>by
  have ih:=DC g p l;rw [List.filter_cons,List.filter_cons];cases h:p a
  ·simp only [Bool.false_eq_true,if_false,Bool.not_false,if_true,cE];omega
  simp only [Bool.false_eq_true,if_false,Bool.not_true,if_true,cE];omega
theorem pD {α:Type}{g h:α→Nat}: ∀{l:List α},(∀x∈l,g x=h x)→cE g l=cE h l
 | [],_=>rfl
 |a::l,hh=>by rw [cE,cE,hh a (by simp),pD fun x hx=>hh x (by simp [hx])]
theorem t7 {α:Type}: ∀l:List α,cE (fun _=>1) l=l.length
 | []=>rfl
 |a::l=>by rw [cE,t7 l,List.length_cons];omega
section
variable {N:Nat} {m:Rg} {roots:List Q5} {kept met:List Int} (h:MinCtx N m roots kept met)
include h
theorem MinCtx.midSum (g:Ra→Nat):cE g (iO N m met).Young+cE g (iO N m met).Old=cE (fun a=>g (nv N m met a)) (fJ m met):=by
 have e1:cE (fun a=>g (nv N m met a)) (cu m.Old.length)=cE (fun a=>g (nC N m met a)) (cu m.Old.length):=pD fun a ha=>by rw [h.cellE ha]
 have e2:cE (fun a=>g (nv N m met a)) met=cE (fun a=>g (nY N m met a)) met:=pD fun a ha=>by rw [GM h ha]
 have e3:=DC (fun a=>g (nY N m met a)) (fm m) met;unfold iO fJ;simp only;rw [pE,pE,lO,lO,lO,e1,e2];omega
theorem MinCtx.midLe (g:Ra→Nat)(hg: ∀a∈fJ m met,g (nv N m met a)≤g (bU m a)):cE g (iO N m met).Young+cE g (iO N m met).Old≤cE g m.Young+cE g m.Old:=by
 have h1:=ot (fun a=>g (bU m a)) h.nd fun a ha=>sj (h.f1has ha)
 have h2:=lO g (bU m) (yT m);rw [yR,pE] at h2;rw [h.midSum];have h3:=xv hg;omega
theorem MinCtx.cellLe {a:Int}(ha:a∈fJ m met):(nv N m met a).Slots.length=(bU m a).Slots.length∧(nv N m met a).More.length≤(bU m a).More.length:=by
 have _:=h;have:=oh N (fJ m met) (bU m a);show ((jp N (fJ m met) (bU m a)).Slots.map _).length=_∧((jp N (fJ m met) (bU m a)).More.map _).length≤_;rw [List.length_map,List.length_map];omega
theorem MinCtx.midCnt:(iO N m met).Young.length+(iO N m met).Old.length≤m.Young.length+m.Old.length:=by
 have:=h.midLe (fun _=>1) fun a _=>Nat.le_refl _
 rw [t7,t7,t7,t7] at this;exact this
theorem MinCtx.midMem {c:Ra}(hc:c∈(iO N m met).Young++(iO N m met).Old): ∃a∈fJ m met,c=nv N m met a:=by
 unfold iO at hc;simp only [List.mem_append,List.mem_map,List.mem_filter] at hc;rcases hc with ⟨a,⟨h1, -⟩,rfl⟩|⟨a,h1,rfl⟩|⟨a,⟨h1, -⟩,rfl⟩
 ·exact ⟨a,Rq _ h1,(GM h h1).symm⟩
 ·exact ⟨a,Rp _ h1,(h.cellE h1).symm⟩
 exact ⟨a,Rq _ h1,(GM h h1).symm⟩
theorem MinCtx.root {x:Int}(hx:x∈ce roots):x∈fJ m met:=by
 have hh:=h.rootsH x hx;obtain ⟨b,hM⟩:=h.isM;unfold fJ
 cases hy:yB x with
 |true=>exact Rq _ (hM.start (Rp _ hx) hy)
 |false=>
  obtain ⟨i,hi,rfl⟩:=Gq hh hy;exact Rp _ (fU.2 ⟨i,hi,U⟩)
theorem MinCtx.rootIn:fo (fJ m met) roots:=fun v hv hb=>h.root (lA.2 ⟨v,hv,hb,rfl⟩)
theorem MinCtx.nowE:roots.map (bR (dl m met) met)=roots.map (bR (dl m met) (fJ m met)):=by
 have _:=h
 exact List.map_congr_left fun v _=>(uC v).symm
theorem MinCtx.rho64 {a:Int}(ha:a∈fJ m met):in64 (dl m met a):=by
 have h1:=h.mlen;have h2:=h.small.old
 have h3: ∀p:Int→Bool,(met.filter p).length≤1200:=fun p=>Nat.le_trans (List.length_filter_le _ _) h1
 unfold in64;rcases h.cases ha with ⟨a1,a2⟩|⟨a1,a2,a3⟩|⟨a1,a2,a3⟩
 ·obtain ⟨i,hi,rfl⟩:=fU.1 a1;rw [a2];omega
 ·have:=rN a3;have:=h3 (fm m);rw [h.rhoY a1 a2];omega
 have:=rN a3
 have:=h3 fun a=> !fm m a
 rw [h.rhoO a1 a2];omega
theorem MinCtx.mov64 {v:Q5}(hv:in64 v.N):in64 (bR (dl m met) (fJ m met) v).N:=by
 unfold bR
 cases hb:bM v&&decide (v.N∈fJ m met) with
 |false=>exact hv
 |true=>
  rw [Bool.and_eq_true,decide_eq_true_eq] at hb;exact h.rho64 hb.2
theorem MinCtx.now64: ∀v∈roots.map (bR (dl m met) (fJ m met)),in64 v.N:=fun v hv=>by
 obtain ⟨w,hw,rfl⟩:=List.mem_map.1 hv;exact h.mov64 (h.r64 w hw)
theorem MinCtx.nCE (a:Int):nC N m met a=f0 (dl m met) (fJ m met) (jp N (fJ m met) (bU m a)):=by
 have _:=h;exact Cu _
theorem MinCtx.midW:W64 (iO N m met):=fun c hc v hv=>by
 obtain ⟨a,ha,rfl⟩:=h.midMem hc;have hv':v∈(nC N m met a).Slots++(nC N m met a).More:=hv;rw [h.nCE] at hv'
 have hv2:v∈((jp N (fJ m met) (bU m a)).Slots++(jp N (fJ m met) (bU m a)).More).map (bR (dl m met) (fJ m met)):=by rw [List.map_append];exact hv'
 obtain ⟨w,hw,rfl⟩:=List.mem_map.1 hv2;refine h.mov64 ?_;rcases Iu hw with hw|rfl
 ·exact h.w64.at_ a w hw
 show in64 0;unfold in64;omega
theorem MinCtx.midS (hcnt:m.Young.length+m.Old.length≤600)(l:List Q5)(hl:l.length≤600):Small (iO N m met) l:=by
 have:=h.midCnt;refine ⟨by omega,by omega,hl,fun c hc=> ?_⟩;obtain ⟨a,ha,rfl⟩:=h.midMem hc;exact ⟨(h.okN ha).2.slots,(h.okN ha).2.more⟩
theorem MinCtx.newHas {l:List Q5}(hl:fo (fJ m met) l){v:Q5}(hv:v∈l.map (bR (dl m met) (fJ m met)))(hb:bM v=true):br (iO N m met) v.N=true:=by
 obtain ⟨w,hw,rfl⟩:=List.mem_map.1 hv;rw [sU] at hb;have:=hl w hw hb;rw [sT hb this];exact (h.at_ this).1
theorem MinCtx.midAddr {c:Ra}(hc:c∈(iO N m met).Young++(iO N m met).Old):dz c=true∧ ∀x∈cO c,br (iO N m met) x=true:=by
 obtain ⟨a,ha,rfl⟩:=h.midMem hc;refine ⟨(h.okN ha).2.right,fun x hx=> ?_⟩;have hx':x∈cO (nC N m met a):=hx;obtain ⟨v,hv,hb,rfl⟩:=zQ hx';rw [h.nCE] at hv;obtain ⟨i1,i2⟩:=(h.cell ha).inC;rcases List.mem_append.1 hv with hv|hv
 ·exact h.newHas i1 hv hb
 exact h.newHas i2 hv hb
theorem MinCtx.alikeR (hcnt:m.Young.length+m.Old.length≤600){R:List Q5}(hR:fo (fJ m met) R)(hl:R.length≤600)(r64: ∀v∈R,in64 v.N):fB N m R (iO N m met) (R.map (bR (dl m met) (fJ m met)))=some true:=by
 have hN:=h.big;have hs:Small m R:=⟨h.small.young,h.small.old,hl,h.small.cells⟩
 have now64: ∀v∈R.map (bR (dl m met) (fJ m met)),in64 v.N:=fun v hv=>by
  obtain ⟨w,hw,rfl⟩:=List.mem_map.1 hv;exact h.mov64 (r64 w hw)
 have hsN:=h.midS hcnt (R.map (bR (dl m met) (fJ m met))) (by rw [List.length_map];exact hl);obtain ⟨LA,LB,sA,sB,oA,oB,p2⟩:=Ez N hN hs hsN h.w64 h.midW r64 now64;obtain ⟨b1,L1,i1, -, -, -,e1⟩:=pv N hN (hs.bare N) (h.w64.bare N) r64;obtain ⟨b2,L2,i2, -, -, -,e2⟩:=pv N hN (hsN.bare N) (h.midW.bare N) now64;rw [e1] at oA;rw [e2] at oB;obtain rfl:=Option.some.inj oA;obtain rfl:=Option.some.inj oB
 obtain ⟨i3,hL1⟩:=h.graph.isOrder i1 fun x hx=>by obtain ⟨v,hv,hb,rfl⟩:=lA.1 hx;exact hR v hv hb
 rw [zP hR] at i2;obtain ⟨-,eL⟩:=i2.det i3;subst eL
 have hA1: ∀x∈fJ m met,br (dc N m) x=true:=fun x hx=>by rw [mH];exact h.f1has hx
 have hA2: ∀x∈fJ m met,br (dc N (iO N m met)) (dl m met x)=true:=fun x hx=>by rw [mH];exact (h.at_ hx).1
 have key:va N (dc N m) R L1 (dc N (iO N m met)) (R.map (bR (dl m met) (fJ m met))) (L1.map (dl m met))=true:=by
  unfold va;rw [Rk (by simp),pw h.ren hL1 hA1 hA2 hR,qG,Bool.true_and,Bool.true_and,List.all_eq_true];intro a ha;have haf:=hL1 a ha;obtain ⟨o1,o2⟩:=h.okN haf;simp only;have ec:cV N (L1.map (dl m met)) (ck N (nv N m met a))=kI (cV N (L1.map (dl m met)) (ck N (nC N m met a))) (Kj N m met a):=Ka o1 o2 _;rw [sC N m a (h.f1has haf),sC N _ _ (h.at_ haf).1,(h.at_ haf).2,ec,h.nCE,CellOk.cleanG h.ren (h.cell haf) hL1];obtain ⟨d1,d2⟩:=(h.cell haf).inD hL1;generalize cV N L1 (ck N (bU m a))=hD at*;unfold GF f0 kI;simp only;rw [pw h.ren hL1 hA1 hA2 d1,pw h.ren hL1 hA1 hA2 d2];simp only [decide_true,Bool.and_self]
 rw [p2,key]
end
end
section
open Go.RowKit
theorem rC (N:Nat)(hN:5000<N)(c:Ra)(hS:c.Slots.length≤600)(hM:c.More.length≤600):kK N c=some ((cO c).any yB):=by
 have h1:=jE c;have h2:=mA c
 have hy: ∀x,kJ N x=some (yB x):=fun x=>by
  unfold kJ yB;cases decide (0<x)<;>cases decide (x.tmod 2=1)<;>rfl
 unfold kK cO;rw [ms N Y c Y Y,qH N Y c Y Y,bs,bs,yQ N _ yB (bL c) Y Y (fun x _=>hy x),yQ N _ yB (kq c) Y Y (fun x _=>hy x),bs,bs,List.any_append];cases (bL c).any yB<;>cases (kq c).any yB<;>rfl
theorem J6 {L:List (Int×Bool)}{a:Int}(h:a∉L.map (·.1)):zJ L a=L:=by
 unfold zJ;rcases HE a L with ⟨i,c, -,h2⟩|⟨h1, -⟩
 ·exact absurd (List.mem_map.2 ⟨_,List.mem_of_getElem? h2,U⟩) h
 rw [h1]
theorem BM (N:Nat)(hN:5000<N){m:Rg}{roots:List Q5}(hs:Small m roots): ∃kv,df N ⟨[]⟩ m=some ⟨kv⟩∧kv.map Prod.fst=oF m:=by
 have ho:=hs.old
 have key:Sat (df N ⟨[]⟩ m) fun r=>r.at_.map Prod.fst=oF m:=by
  unfold df mq;rw [bs];refine cI (fun k i (s:List (Int×Bool))=>eY N m k (i:Int) s) m.Old.length (fun i s=>s.map Prod.fst=((List.range i).filter (nF m)).map (fun i:Nat=>2*(i:Int)+2)) _ ?_ ?_ N 0 [] Y Y U
  ·rintro k i s hi h1 go;show Sat (eY N m (k+1) (i:Int) s) _;have hc:=hs.cells _ (Rq m.Young (List.getElem_mem hi))
   have hnext:((List.range (i+1)).filter (nF m)).map (fun i:Nat=>2*(i:Int)+2)=((List.range i).filter (nF m)).map (fun i:Nat=>2*(i:Int)+2)++(bif nF m i then [2*(i:Int)+2] else []):=by
    rw [List.range_succ,List.filter_append,List.map_append];cases h:nF m i<;>simp [h]
   have hno:(2*(i:Int)+2)∉s.map Prod.fst:=by
    rw [h1];intro hm;obtain ⟨j,hj,e⟩:=List.mem_map.1 hm;have:=List.mem_range.1 (List.mem_filter.1 hj).1;omega
   have e:(cO m.Old[i]).any yB=nF m i:=by unfold nF;rw [uZ m i hi]
   rw [eY.eq_2,cF Y,ct,bf hi,bs,r64 Y Y,r64 Y Y];unfold dS iS lj;rw [rC N hN _ hc.1 hc.2,e,cF Y,ct,o6 Y,nn Y];simp only [bs,nt,cf];cases h:nF m i
   ·simp only [nf,ct,bs];rw [J6 hno,r64 Y Y];exact go s (by rw [hnext,h,h1,cf,List.append_nil])
   simp only [nt,cf,bs];rw [r64 Y Y];refine go (tW s (2*(i:Int)+2) true) ?_;have:=xt s (2*(i:Int)+2) true;rw [if_neg hno] at this;rw [hnext,h,ct, ←h1];exact this
  rintro k s h1;show Sat (eY N m (k+1) _ s) _;rw [eY.eq_2,cD Y,cf];exact aR h1
 obtain ⟨r,e,h⟩:=key;exact ⟨r.at_,e,h⟩
theorem CH (m:Rg):(oF m).Pairwise (· < ·):=by
 have:=Ld m;unfold qf at this;rw [Bool.and_eq_true,decide_eq_true_eq] at this;exact this.2
def rc (m:Rg)(live f:List Int):List Q5:=f.flatMap fun a=>ga live (bU m a)
section
variable {N:Nat} {m:Rg} {roots:List Q5} {live f:List Int} (h:CollCtx N m roots live f)
include h
theorem CollCtx.goneIn:fo f (rc m live f):=fun v hv hb=>by
 obtain ⟨a,ha,hv⟩:=List.mem_flatMap.1 hv;exact (h.cell ha).toldIn v hv hb
theorem CollCtx.gone64: ∀v∈(rc m live f).map (bR (lg f) f),in64 v.N:=fun v hv=>by
 have hl:=h.flen;obtain ⟨w,hw,rfl⟩:=List.mem_map.1 hv;refine vB Y ?_;obtain ⟨a,ha,hw⟩:=List.mem_flatMap.1 hw;unfold ga at hw
 cases h10:decide ((bU m a).Kind=10) with
 |false=>rw [h10] at hw;cases hw
 | true=>
  rw [h10] at hw;rcases Bx hw with rfl|hw
  ·cases hm:(bU m a).More with
   |nil=>show in64 0;unfold in64;omega
   |cons x r=>exact h.w64.at_ a x (Rq _ (by rw [hm];simp))
  exact h.w64.at_ a w (Rq _ (List.mem_of_mem_drop hw))
end
end
section
open Go.RowKit
theorem uJ {α β γ:Type}(o:Option α)(f:α→Option β)(g:β→γ):(o.bind f).map g=o.bind fun x=>(f x).map g:=by cases o<;>rfl
theorem K5 {β γ:Type}(c:Prop)[Decidable c](o:Option β)(g:β→γ):(bD c o).map g=bD c (o.map g):=by unfold bD;split<;>rfl
theorem Fd {β γ:Type}(b:Bool)(x y:Option β)(g:β→γ):(bif b then x else y).map g=bif b then x.map g else y.map g:=by cases b<;>rfl
def Qg:(Rg×(List Q5)×(List Q5)×Int) ⊕ (Rg×(List Q5)×(List Q5))→Rg×(List Q5)×(List Q5)×Int
 | .inl x=>x
 | .inr x=>(x.1,x.2.1,x.2.2,0)
theorem OT (N:Nat)(m:Rg)(roots:List Q5):mg N m roots=(dp N m roots).map Qg:=by
 have e20:iY=kA:=rfl;have e27:iX=kz:=rfl;unfold mg dp;rw [e20,e27,uJ]
 congr 1;funext y7
 rw [Fd];cases !decide (y7=0)
 ·simp only [cond_false,uJ]
  congr 1;funext y13;congr 1;funext y18;congr 1;funext y22
  unfold nH;split
  ·simp only [uJ]
   congr 1;funext y25;congr 1;funext y30
   split
   ·simp only [uJ];rfl
   ·rfl
   ·rfl
   rfl
  ·rfl
  ·rfl
  rfl
 rfl
def PX:(Rg×(List Q5)×(List Q5)) ⊕ (Rg×(List Q5)×(List Q5))→Rg×(List Q5)×(List Q5)×Int
 | .inl x=>(x.1,x.2.1,x.2.2,1)
 | .inr x=>(x.1,x.2.1,x.2.2,0)
theorem KZ (N:Nat)(a0:Rg)(y13:Q6)(a1:List Q5)(y20 p26:List Int): ∀(k:Nat) (p72:List Q5) (p73:Int) (p74 p75:List Ra),dT N y13 a1 y20 p26 k p72 p73 p74 p75=(fa N y13 a1 y20 p26 a0 k p72 p73 p74 p75).map PX:=by
 intro k
 induction k with
 |zero=>intros;rfl
 |succ k ih=>
  intro p72 p73 p74 p75;rw [dT.eq_2,fa.eq_2];unfold ky iT na lH;simp only [Fd,uJ,K5,ih];rfl
theorem K0 (N:Nat)(a0:Rg)(a1:List Q5)(a2 y20:List Int)(y13:Q6): ∀(k:Nat) (p29:List Q5) (p30:List Int) (p31:Int) (p32:List Ra),eO N a0 a1 a2 y20 y13 k p29 p30 p31 p32=(fb N a0 a1 a2 y20 y13 k p29 p30 p31 p32).map PX:=by
 intro k
 induction k with
 |zero=>intros;rfl
 |succ k ih=>
  intro p29 p30 p31 p32;rw [eO.eq_2,fb.eq_2];unfold iy iU nb lI;simp only [Fd,uJ,K5,ih,KZ N a0]
theorem OQ (N:Nat)(m:Rg)(roots:List Q5)(kept:List Int):f3 N m roots kept=(dU N m roots kept).map PX:=by
 unfold f3 dU;rw [uJ]
 congr 1;funext y7
 rw [Fd];cases !y7
 ·simp only [cond_false,uJ,K0]
 rfl
def mS (l:List Ra):Nat:=cE (fun c=>c.More.length) l
theorem pp {α:Type}(n:Nat): ∀l:List α,cE (fun _=>n) l=n*l.length
 | []=>by simp [cE]
 |a::l=>by rw [cE,pp n l,List.length_cons,Nat.mul_succ];omega
theorem Bz {α:Type}(g:α→Nat)(x:α): ∀(l:List α) (i:Nat),cE g (l.set i x)≤cE g l+g x
 | [],_=>by simp [cE]
 |a::l,0=>by simp only [List.set_cons_zero,cE];omega
 |a::l,i+1=>by have:=Bz g x l i;simp only [List.set_cons_succ,cE];omega
structure HInv (k:Nat) (g:Re):Prop where
 cnt:g.m_.Young.length+g.m_.Old.length≤k
 cells: ∀c∈g.m_.Young++g.m_.Old,c.Slots.length≤20∧c.More.length≤20
 sum:4*(g.roots_++g.pending_).length+3*(mS g.m_.Young+mS g.m_.Old)≤60*k
 w64:W64 g.m_
 r64: ∀v∈g.roots_++g.pending_,in64 v.N
 nd:(g.set_.at_.map Prod.fst).Nodup
 keys: ∀x∈g.set_.at_.map Prod.fst, ∃i:Nat,i<g.m_.Old.length∧x=2*(i:Int)+2
section
variable {k:Nat} {g:Re} (h:HInv k g)
include h
theorem HInv.up:HInv (k+1) g:=⟨by have:=h.cnt;omega,h.cells,by have:=h.sum;omega,h.w64,h.r64,h.nd,h.keys⟩
theorem HInv.small (hk:k≤40):Small g.m_ (g.roots_++g.pending_):=by
 have h1:=h.cnt;have h2:=h.sum;exact ⟨by omega,by omega,by omega,fun c hc=>by have:=h.cells c hc;omega⟩
theorem HInv.wtd (hk:k≤40):Wtd g.m_ (g.roots_++g.pending_):=by
 have h1:=h.cnt;have h2:=h.sum
 have hw: ∀l:List Ra,(∀c∈l,c∈g.m_.Young++g.m_.Old)→wt l≤41*l.length:=fun l hl=>by
  rw [EE, ←pp]
  exact xv fun c hc=>by have:=h.cells c (hl c hc);unfold wC;omega
 have h3:=hw g.m_.Young fun c hc=>Rp _ hc
 have h4:=hw g.m_.Old fun c hc=>Rq _ hc
 exact ⟨by omega,by omega⟩
theorem HInv.tot (hk:k≤40):cE (fun a=>(bU g.m_ a).More.length) (yT g.m_)≤3600:=by
 have h2:=lO (fun c:Ra=>c.More.length) (bU g.m_) (yT g.m_);rw [yR,pE] at h2;have h3:=h.sum;unfold mS at h3;omega
theorem HInv.withM {f7 f8:List Ra}{kv:List (Int×Bool)}{d:Ra}(hd:d.Slots.length≤20∧d.More.length≤20)(hd64: ∀v∈d.Slots++d.More,in64 v.N)(hY:f7.length+f8.length≤k+1)(hc: ∀c∈f7++f8,c∈g.m_.Young++g.m_.Old∨c=d)(hs:mS f7+mS f8≤mS g.m_.Young+mS g.m_.Old+d.More.length)(nd:(kv.map Prod.fst).Nodup)(keys: ∀x∈kv.map Prod.fst, ∃i:Nat,i<f8.length∧x=2*(i:Int)+2):HInv (k+1) ⟨⟨f7,f8⟩,g.roots_,g.pending_,⟨kv⟩⟩:=by
 have h3:=h.sum;refine ⟨hY,fun c hm=> ?_,?_,fun c hm=> ?_,h.r64,nd,keys⟩
 ·rcases hc c hm with hm|rfl
  ·exact h.cells c hm
  exact hd
 ·show 4*(g.roots_++g.pending_).length+3*(mS f7+mS f8)≤_;omega
 rcases hc c hm with hm|rfl
 ·exact h.w64 c hm
 exact hd64
theorem HInv.withR {r p:List Q5}(h1:4*(r++p).length≤4*(g.roots_++g.pending_).length+60)(h2: ∀v∈r++p,in64 v.N):HInv (k+1) ⟨g.m_,r,p,g.set_⟩:=by
 have h3:=h.sum;refine ⟨by have:=h.cnt;show g.m_.Young.length+g.m_.Old.length≤k+1;omega,h.cells,?_,h.w64,h2,h.nd,h.keys⟩;show 4*(r++p).length+3*(mS g.m_.Young+mS g.m_.Old)≤_;omega
theorem vG (N:Nat){a:Int}(ha:in64 a):f4 N g a=some (br g.m_ a):=by
 have _:=h;unfold f4 aT;rw [bs,nf,ct,sw N _ _ ha];rfl
end
theorem Ar {N:Nat}(hN:5000<N){c:Ra}(h1:c.Slots.length≤1000∧c.More.length≤1000):dH N c=some (dz c):=by
 rw [ue N Y c h1.1 h1.2,pL N Y c h1.1 h1.2]
theorem Ig {N k:Nat}(hN:5000<N){g:Re}(h:HInv k g)(hk:k<40){c:Ra}(h1:c.Slots.length≤20∧c.More.length≤20)(h2: ∀v∈c.Slots++c.More,in64 v.N):
  gC N g c=some (bif dz c then (2*(g.m_.Young.length:Int)+1,0,⟨⟨g.m_.Young++ [⟨c.Kind,c.Shape,c.Flags,0,c.Slots,c.More⟩],g.m_.Old⟩,g.roots_,g.pending_,g.set_⟩) else (0,51,g))∧HInv (k+1) (bif dz c then ⟨⟨g.m_.Young++ [⟨c.Kind,c.Shape,c.Flags,0,c.Slots,c.More⟩],g.m_.Old⟩,g.roots_,g.pending_,g.set_⟩ else g):=by
 have hc:=h.cnt;unfold gC aT;rw [bs,cf,Ar hN Y,bs]
 cases dz c with
 |false=>exact ⟨rfl,h.up⟩
 | true=>
  have e:((g.m_.Young++ [(⟨c.Kind,c.Shape,c.Flags,0,c.Slots,c.More⟩:Ra)]).length:Int)=(g.m_.Young.length:Int)+1:=by simp
  rw [nt,cf,mI N c Y,bs,rF (by simp only [List.length_cons,List.length_nil];omega),e,r64 Y Y,r64 Y Y,ct,ct];refine ⟨?_,h.withM (d:=⟨c.Kind,c.Shape,c.Flags,0,c.Slots,c.More⟩) h1 h2 ?_ ?_ ?_ h.nd h.keys⟩
  ·rw [show 2*((g.m_.Young.length:Int)+1) - 1=2*(g.m_.Young.length:Int)+1 by omega]
  ·simp only [List.length_append,List.length_cons,List.length_nil];omega
  ·intro d hd;simp only [List.mem_append,List.mem_cons,List.not_mem_nil,or_false] at hd⊢;rcases hd with (hd|hd)|hd
   ·exact .inl (.inl hd)
   ·exact .inr hd
   exact .inl (.inr hd)
  unfold mS;rw [pE];simp only [cE];omega
def Jy (c:Ra)(a:Int):Ra:=⟨c.Kind,c.Shape,c.Flags,a,c.Slots,c.More⟩
def Af (kv:List (Int×Bool))(a:Int)(c:Ra):List (Int×Bool):=bif (cO c).any yB then tW kv a true else zJ kv a
theorem JG {N:Nat}(hN:5000<N){c:Ra}(h1:c.Slots.length≤600∧c.More.length≤600)(kv:List (Int×Bool))(i:Nat): ∃b,dS N ⟨kv⟩ (2*(i:Int)+2) c=some (b,⟨Af kv (2*(i:Int)+2) c⟩):=by
 unfold dS iS lj Af;rw [cF Y,ct,o6 Y,nn Y,rC N hN c h1.1 h1.2];simp only [bs,nt,cf];cases (cO c).any yB
 ·exact ⟨false,U⟩
 exact ⟨true,U⟩
theorem KV {kv:List (Int×Bool)}(h:(kv.map Prod.fst).Nodup)(a:Int)(c:Ra):((Af kv a c).map Prod.fst).Nodup:=by
 unfold Af;cases (cO c).any yB
 ·exact (Eo h a).2.1
 show ((tW kv a true).map (·.1)).Nodup;rw [xt];split
 ·exact h
 rename_i hn
 exact List.nodup_append.2 ⟨h,by simp,fun x hx y hy=>by rintro rfl;exact hn (by rw [List.mem_singleton.1 hy] at hx;exact hx)⟩
theorem JH {kv:List (Int×Bool)}(h:(kv.map Prod.fst).Nodup)(a:Int)(c:Ra)(x:Int):x∈(Af kv a c).map Prod.fst↔((cO c).any yB=true∧(x∈kv.map Prod.fst∨x=a))∨((cO c).any yB=false∧x∈kv.map Prod.fst∧x≠a):=by
 unfold Af;cases (cO c).any yB
 ·simp only [Bool.false_eq_true,false_and,false_or,true_and];exact (Eo h a).1 x
 simp only [Bool.true_eq_false,false_and,or_false,true_and];show x∈(tW kv a true).map (·.1)↔(x∈kv.map (·.1)∨x=a);rw [xt];split
 ·rename_i hn
  exact ⟨.inl,fun hx=>hx.elim id fun e=>e▸hn⟩
 rw [List.mem_append,List.mem_singleton]
def MI (g:Re)(a:Int)(c:Ra):Re:=
 bif decide (a%2=1) then ⟨⟨g.m_.Young.set (a / 2).toNat (Jy c (bU g.m_ a).Age),g.m_.Old⟩,g.roots_,g.pending_,g.set_⟩
 else ⟨⟨g.m_.Young,g.m_.Old.set (a / 2 - 1).toNat (Jy c (bU g.m_ a).Age)⟩,g.roots_,g.pending_,⟨Af g.set_.at_ a c⟩⟩
theorem KI {N k:Nat}(hN:5000<N){g:Re}(h:HInv k g)(hk:k<40){a:Int}(ha:in64 a){c:Ra}(h1:c.Slots.length≤20∧c.More.length≤20)(h2: ∀v∈c.Slots++c.More,in64 v.N):
  mh N g a c=some (bif !br g.m_ a then (50,g) else bif !dz c then (51,g) else (0,MI g a c))∧HInv (k+1) (bif !br g.m_ a then g else bif !dz c then g else MI g a c):=by
 have hc:=h.cnt;unfold mh aT;rw [bs,cf,vG h N ha,bs,Ar hN Y,bs]
 cases hh:br g.m_ a with
 |false=>exact ⟨rfl,h.up⟩
 | true=>
  cases dz c with
  |false=>exact ⟨rfl,h.up⟩
  | true=>
   rw [nt,cf,cf,cf,cf];unfold iB;rcases sx hh with ⟨i,hi,rfl⟩|⟨i,hi,rfl⟩
   ·have e1:(2*(i:Int)+1).tmod 2=1:=by rw [o6 Y];omega
    have e2:(2*(i:Int)+1).tdiv 2=i:=by rw [Int.tdiv_eq_ediv_of_nonneg Y];omega
    have e3:(2*(i:Int)+1) / 2=i:=by omega
    have e4:(2*(i:Int)+1)%2=1:=by omega
    unfold MI;rw [e1,e2,e3,e4,Rk (p:=(1:Int)=1) rfl,Rl (p:=(1:Int)=0) Y,ct,ct,r64 Y Y,bf hi,bs,bs]
    dsimp only [EL]
    rw [bf hi,bs,mI N c Y,bs,cf,GR g.m_ i hi];unfold kC;refine ⟨by rw [List.set_set];rfl,h.withM (d:=Jy c g.m_.Young[i].Age) h1 h2 ?_ ?_ ?_ h.nd h.keys⟩
    ·rw [List.length_set];omega
    ·intro d hd;rcases List.mem_append.1 hd with hd|hd
     ·rcases List.mem_or_eq_of_mem_set hd with hd|hd
      ·exact .inl (Rp _ hd)
      exact .inr hd
     exact .inl (Rq _ hd)
    have:=Bz (fun c:Ra=>c.More.length) (Jy c g.m_.Young[i].Age) g.m_.Young (i:Int).toNat;unfold mS;omega
   have e1:(2*(i:Int)+2).tmod 2=0:=by rw [o6 Y];omega
   have e2:(2*(i:Int)+2).tdiv 2=(i:Int)+1:=by rw [Int.tdiv_eq_ediv_of_nonneg Y];omega
   have e3:(2*(i:Int)+2) / 2 - 1=i:=by omega
   have e4:(2*(i:Int)+2)%2=0:=by omega
   have e5:(i:Int)+1 - 1=i:=by omega
   obtain ⟨b,hb⟩:=JG hN (c:=c) Y g.set_.at_ i;have hb':dS N g.set_ (2*(i:Int)+2) c=some (b,⟨Af g.set_.at_ (2*(i:Int)+2) c⟩):=hb;unfold MI;rw [hb',e1,e2,e3,e4,e5,Rl (p:=(0:Int)=1) Y,Rk (p:=(0:Int)=0) rfl,cf,cf,r64 Y Y,r64 Y Y,bf hi,bs,bs]
   dsimp only [EL]
   rw [bf hi,bs,mI N c Y,bs,ct,bs,uZ g.m_ i hi];unfold kB;refine ⟨by rw [List.set_set];rfl,h.withM (d:=Jy c g.m_.Old[i].Age) h1 h2 ?_ ?_ ?_ (KV h.nd _ _) ?_⟩
   ·rw [List.length_set];omega
   ·intro d hd;rcases List.mem_append.1 hd with hd|hd
    ·exact .inl (Rp _ hd)
    rcases List.mem_or_eq_of_mem_set hd with hd|hd
    ·exact .inl (Rq _ hd)
    exact .inr hd
   ·have:=Bz (fun c:Ra=>c.More.length) (Jy c g.m_.Old[i].Age) g.m_.Old (i:Int).toNat;unfold mS;omega
   intro x hx;rw [List.length_set];rcases (JH h.nd _ _ x).1 hx with ⟨-,hx|rfl⟩|⟨-,hx, -⟩
   ·exact h.keys x hx
   ·exact ⟨i,hi,U⟩
   exact h.keys x hx
theorem Ib {N k:Nat}{g:Re}(h:HInv k g)(hk:k<40){v:Q5}(hv:in64 v.N):
  jf N g v=some ((g.roots_.length:Int),⟨g.m_,g.roots_++ [v],g.pending_,g.set_⟩)∧HInv (k+1) ⟨g.m_,g.roots_++ [v],g.pending_,g.set_⟩:=by
 have hs:=(h.small Y).roots;rw [List.length_append] at hs
 have e:((g.roots_++ [v]).length:Int) - 1=(g.roots_.length:Int):=by simp
 unfold jf aT;rw [bs,cf,rF (by simp only [List.length_cons,List.length_nil];omega),e,r64 Y Y];refine ⟨U,h.withR ?_ fun w hw=> ?_⟩
 ·simp only [List.length_append,List.length_cons,List.length_nil];omega
 simp only [List.mem_append,List.mem_cons,List.not_mem_nil,or_false] at hw;rcases hw with (hw|rfl)|hw
 ·exact h.r64 w (Rp _ hw)
 ·exact hv
 exact h.r64 w (Rq _ hw)
def ws (g:Re)(i:Int):Bool:=decide (0≤i)&&decide (i<(g.roots_.length:Int))
theorem DH {g:Re}{i:Int}(h:ws g i=true): ∃j:Nat,i=j∧j<g.roots_.length:=by
 unfold ws at h;rw [Bool.and_eq_true,decide_eq_true_eq,decide_eq_true_eq] at h;exact ⟨i.toNat,by omega,by omega⟩
theorem Jt (N:Nat)(g:Re)(i:Int):gB N g i=some (bif ws g i then g.roots_.getD i.toNat vZ else vZ):=by
 unfold gB aT
 cases hb:ws g i with
 |true=>
  obtain ⟨j,rfl,hj⟩:=DH hb;rw [bs,cf,bs,Rl (p:=(j:Int)<0) Y,cf,bs,Rl (p:=(g.roots_.length:Int)≤(j:Int)) Y,cf,bf hj,bs,ct,Int.toNat_natCast,List.getD_eq_getElem?_getD,List.getElem?_eq_getElem hj];rfl
 |false=>
  unfold ws at hb;rw [bs,cf,bs,cf];by_cases h1:i<0
  ·rw [cF h1,ct,bs];rfl
  rw [Rl h1,cf,bs];rw [Rk (p:=(0:Int)≤i) Y,Bool.true_and,decide_eq_false_iff_not] at hb;rw [Rk (p:=(g.roots_.length:Int)≤i) Y];rfl
theorem BE {N k:Nat}{g:Re}(h:HInv k g){i:Int}{v:Q5}(hv:in64 v.N):
  iZ N g i v=some (bif ws g i then (true,⟨g.m_,g.roots_.set i.toNat v,g.pending_,g.set_⟩) else (false,g))∧HInv (k+1) (bif ws g i then ⟨g.m_,g.roots_.set i.toNat v,g.pending_,g.set_⟩ else g):=by
 unfold iZ aT
 cases hb:ws g i with
 | true=>
  obtain ⟨j,rfl,hj⟩:=DH hb;rw [bs,cf,bs,Rl (p:=(j:Int)<0) Y,cf,bs,Rl (p:=(g.roots_.length:Int)≤(j:Int)) Y,cf,bf hj,bs,ct,ct];refine ⟨U,h.withR ?_ fun w hw=> ?_⟩
  ·simp only [List.length_append,List.length_set];omega
  rcases List.mem_append.1 hw with hw|hw
  ·rcases List.mem_or_eq_of_mem_set hw with hw|rfl
   ·exact h.r64 w (Rp _ hw)
   exact hv
  exact h.r64 w (Rq _ hw)
 |false=>
  refine ⟨?_,h.up⟩;unfold ws at hb;rw [bs,cf,bs,cf];by_cases h1:i<0
  ·rw [cF h1,ct,bs];rfl
  rw [Rl h1,cf,bs];rw [Rk (p:=(0:Int)≤i) Y,Bool.true_and,decide_eq_false_iff_not] at hb;rw [Rk (p:=(g.roots_.length:Int)≤i) Y];rfl
theorem Nc {N k:Nat}{g:Re}(h:HInv k g)(i:Int): ∃r,jT N g i=some r∧HInv (k+1) r:=by
 unfold jT aT;rw [bs,nf,ct,bs];by_cases h1:max i 0<(g.roots_.length:Int)
 ·rw [cF h1,ct,kw ⟨by omega,by omega⟩];refine ⟨_,U,h.withR ?_ fun w hw=> ?_⟩
  ·simp only [List.length_append,List.length_take];omega
  rcases List.mem_append.1 hw with hw|hw
  ·exact h.r64 w (Rp _ (List.mem_of_mem_take hw))
  exact h.r64 w (Rq _ hw)
 rw [Rl h1,cf];exact ⟨_,U,h.up⟩
theorem MK {N k:Nat}{g:Re}(h:HInv k g): ∃r,lL N g=some r∧HInv (k+1) r.2:=by
 refine ⟨(g.pending_,⟨g.m_,g.roots_,[],g.set_⟩),U,h.withR ?_ fun w hw=> ?_⟩
 ·simp only [List.length_append,List.length_nil];omega
 rw [List.append_nil] at hw;exact h.r64 w (Rp _ hw)
theorem Lg {N k:Nat}{g:Re}(h:HInv k g){a:Int}(ha:in64 a):la N g a=some (bif br g.m_ a then (bU g.m_ a,true) else (⟨0,0,0,0,[],[]⟩,false)):=by
 unfold la;rw [vG h N ha,bs]
 cases hh:br g.m_ a with
 |false=>rfl
 | true=>
  have hc:=h.cells _ (vS hh);have hi64:in64 a:=ha;unfold iB;rcases sx hh with ⟨i,hi,rfl⟩|⟨i,hi,rfl⟩
  ·have e1:(2*(i:Int)+1).tmod 2=1:=by rw [o6 Y];omega
   have e2:(2*(i:Int)+1).tdiv 2=i:=by rw [Int.tdiv_eq_ediv_of_nonneg Y];omega
   rw [GR g.m_ i hi] at hc⊢;unfold in64 at hi64;rw [nt,cf,e1,e2,Rk (p:=(1:Int)=1) rfl,ct,r64 Y Y,bf hi,bs,bs]
   dsimp only [EL]
   rw [bf hi,bs,mI N _ Y,bs];rfl
  have e1:(2*(i:Int)+2).tmod 2=0:=by rw [o6 Y];omega
  have e2:(2*(i:Int)+2).tdiv 2=(i:Int)+1:=by rw [Int.tdiv_eq_ediv_of_nonneg Y];omega
  have e5:(i:Int)+1 - 1=i:=by omega
  rw [uZ g.m_ i hi] at hc⊢;unfold in64 at hi64;rw [nt,cf,e1,e2,e5,Rl (p:=(0:Int)=1) Y,cf,r64 Y Y,r64 Y Y,bf hi,bs,bs]
  dsimp only [EL]
  rw [bf hi,bs,mI N _ Y,bs];rfl
end
section
open Go.RowKit
theorem Ii (l:List Int)(cb:Q5): ∀xs:List Q5,4*(ig l cb xs).length+3*(ex l xs).length≤3*xs.length
 | []=>by simp [ex,ig]
 | [_]=>by simp [ex,ig]
 | [_,_]=>by simp [ex,ig]
 | [_,_,_]=>by simp [ex,ig]
 |t::h::k::s::r=>by
  have:=Ii l cb r;unfold ex ig;cases decide (t.N∈l)<;>simp<;>omega
theorem Lz (N:Nat)(l:List Int)(c:Ra):4*(ga l c).length+3*(jp N l c).More.length≤3*c.More.length:=by
 have h1:=(oh N l c).2;by_cases h10:c.Kind=10
 ·have:=Ii l (c.More.headD lB) (c.More.drop 1);unfold jp ga;rw [Rk h10,Rl (p:=c.Kind=8) Y];show 4*(ig l (c.More.headD lB) (c.More.drop 1)).length+3*(c.More.take 1++ex l (c.More.drop 1)).length≤_;rw [List.length_append,List.length_take];rw [List.length_drop] at this;omega
 have e:ga l c=[]:=by unfold ga;rw [Rl h10];rfl
 rw [e] at h1⊢;simp only [List.length_nil] at h1⊢;omega
theorem xu {α:Type}(n:Nat)(g:α→Nat): ∀l:List α,cE (fun x=>n*g x) l=n*cE g l
 | []=>by simp [cE]
 |a::l=>by simp only [cE];rw [xu n g l,Nat.mul_add]
theorem OU (m:Rg):cE (fun a=>(bU m a).More.length) (yT m)=mS m.Young+mS m.Old:=by
 have h3:=lO (fun c:Ra=>c.More.length) (bU m) (yT m);rw [yR,pE] at h3;exact h3.symm
theorem Ou {N:Nat}{m:Rg}{lv f:List Int}(hn:f.Nodup)(hf: ∀a∈f,br m a=true):4*(f.flatMap fun a=>ga lv (bU m a)).length+3*cE (fun a=>(jp N lv (bU m a)).More.length) f≤3*(mS m.Young+mS m.Old):=by
 rw [uQ]
 have h1:cE (fun a=>4*(ga lv (bU m a)).length+3*(jp N lv (bU m a)).More.length) f≤cE (fun a=>3*(bU m a).More.length) f:=xv fun a _=>Lz N lv (bU m a)
 rw [BA,xu,xu,xu] at h1
 have h2:=ot (fun a=>(bU m a).More.length) hn fun a ha=>sj (hf a ha)
 rw [OU] at h2;omega
theorem OI {m:Rg}(hw:W64 m){lv:List Int}{a:Int}{v:Q5}(h:v∈ga lv (bU m a)):in64 v.N:=by
 unfold ga at h
 cases h10:decide ((bU m a).Kind=10) with
 |false=>rw [h10] at h;cases h
 | true=>
  rw [h10] at h;rcases Bx h with rfl|h
  ·cases hm:(bU m a).More with
   |nil=>show in64 0;unfold in64;omega
   |cons x r=>exact hw.at_ a x (Rq _ (by rw [hm];simp))
  exact hw.at_ a v (Rq _ (List.mem_of_mem_drop h))
theorem rk (N:Nat)(a b:List Q5)(ha:a.length≤100000)(hb:b.length≤100000):cz N a b=some (a++b):=by
 unfold cz jw kj gg jb;rw [r64 Y Y,cD (a:=0+(a.length:Int)) Y,cf,r64 Y Y,cD (a:=0+(a.length:Int)+(b.length:Int)) Y,cf,r64 Y Y,r64 Y Y,cf];by_cases h:0<a.length+b.length
 ·rw [cF Y,ct,kw ⟨by omega,by omega⟩,bs,rF (by simp;omega),rF (by simp;omega)];rfl
 rw [cD Y,cf,bs,rF (by simp;omega),rF (by simp;omega)];rfl
theorem CW (N:Nat)(a:List Q5)(ha:a.length≤100000):cU N a=some a:=by
 unfold cU;rw [rF (by simp;omega)];rfl
theorem Aj (N:Nat)(g:Re)(h:g.roots_.length≤600):iC N g=some g.roots_:=by
 unfold iC aT;rw [bs,cf,CW N _ Y,bs]
theorem At (N:Nat)(l:List Ra)(hl:l.length<N)(h1:l.length≤600)(hc: ∀c∈l,c.Slots.length≤600∧c.More.length≤600):jS N l=some l:=by
 apply Sat.eq;unfold jS;refine cI (fun k i (s:List Ra)=>gA N l k s (i:Int)) l.length (fun i s=>s=l.take i) _ ?_ ?_ N 0 [] Y Y (by simp)
 ·rintro k i s hi rfl go;show Sat (gA N l (k+1) _ (i:Int)) _;rw [gA.eq_2,cF Y,ct,bf hi,bs,mI N _ (hc _ (List.getElem_mem hi)),bs,rF (by simp;omega),r64 Y Y];exact go _ (bh hi).symm
 rintro k s rfl;show Sat (gA N l (k+1) _ (l.length:Int)) _;rw [gA.eq_2,cD Y,cf,List.take_length];exact aR U
theorem D5 {N:Nat}(hN:5000<N){g:Re}{roots:List Q5}(h:Small g.m_ roots):gQ N g=some (g.m_,g):=by
 have h1:=h.young;have h2:=h.old;unfold gQ aT;rw [bs,cf,At N _ Y h1 (fun c hc=>h.cells c (Rp _ hc)),bs,At N _ Y h2 (fun c hc=>h.cells c (Rq _ hc)),bs]
section
variable {k:Nat} {g:Re} (h:HInv k g)
include h
theorem HInv.klen:g.set_.at_.length≤g.m_.Old.length:=by
 have h1:=ot (fun _=>1) h.nd (L:=cu g.m_.Old.length) fun x hx=>fU.2 (h.keys x hx)
 rw [pp,pp,List.length_map] at h1;unfold cu at h1;simp only [List.length_map,List.length_range] at h1;omega
theorem HInv.keysH {x:Int}(hx:x∈gP g.set_.at_):br g.m_ x=true:=by
 obtain ⟨i,hi,rfl⟩:=h.keys x ((pq _ x).1 hx);rw [wZ,Rk hi]
theorem HInv.kslen:(gP g.set_.at_).length≤g.m_.Old.length:=by
 have h1:=h.klen;have e:(gP g.set_.at_).length=(g.set_.at_.map Prod.fst).length:=rU _;rw [e,List.length_map];omega
theorem CK (N:Nat)(hk:k≤40):ij N g.set_=some (gP g.set_.at_):=by
 have h1:=h.klen;have h2:=(h.small hk).old;unfold ij uH oP;rw [bs,kw ⟨fun x hx=>yp (h.small hk) (by obtain ⟨i,hi,rfl⟩:=h.keys x hx;rw [wZ,Rk hi]),h.nd,by show cc g.set_.at_.length;unfold cc;omega⟩,bs]
end
theorem Gl {m:Rg}{kv:List (Int×Bool)}(h:kv.map Prod.fst=oF m):(kv.map Prod.fst).Nodup∧ ∀x∈kv.map Prod.fst, ∃i:Nat,i<m.Old.length∧x=2*(i:Int)+2:=by
 rw [h];refine ⟨(CH m).imp fun hab e=>by omega,fun x hx=> ?_⟩;obtain ⟨i,hi, -,e⟩:=zz.1 hx;exact ⟨i,hi,e⟩
theorem Ie {N:Nat}(f:Q5→Q5)(r p gone:List Q5){R:Type}(F:List Q5→List Q5→Option R)(h1:r.length+p.length≤600)(h2:gone.length≤600):
  bD ((0:Int)≤(r.length:Int)∧0≤(r.length:Int).toNat∧(r.length:Int).toNat≤((r++p).map f).length) (bD ((0:Int)≤(r.length:Int)∧(r.length:Int).toNat≤((r++p).map f).length∧((r++p).map f).length≤((r++p).map f).length) ((cU N ((((r++p).map f).drop 0).take ((r.length:Int).toNat - 0))).bind fun y43=>(cz N ((((r++p).map f).drop ((r.length:Int).toNat)).take (((r++p).map f).length - (r.length:Int).toNat)) gone).bind fun y46=>F y43 y46))=F (r.map f) (p.map f++gone):=by
 have e1:(((r++p).map f).drop 0).take ((r.length:Int).toNat - 0)=r.map f:=by
  rw [List.drop_zero,Nat.sub_zero,Int.toNat_natCast,List.map_append,List.take_left' (by simp)]
 have e2:(((r++p).map f).drop ((r.length:Int).toNat)).take (((r++p).map f).length - (r.length:Int).toNat)=p.map f:=by
  rw [Int.toNat_natCast,List.map_append,List.drop_left' (by simp)];exact List.take_of_length_le (by simp)
 have hl:((r++p).map f).length=r.length+p.length:=by simp
 rw [kw ⟨by omega,by omega,by omega⟩,kw ⟨by omega,by omega,by omega⟩,e1,e2,CW N _ (by simp;omega),bs,rk N _ _ (by simp;omega) Y,bs]
section
variable {N:Nat} {m:Rg} {roots:List Q5} {kept met:List Int} (h:MinCtx N m roots kept met)
include h
theorem MinCtx.mid4:4*(qb m met).length+3*(mS (iO N m met).Young+mS (iO N m met).Old)≤3*(mS m.Young+mS m.Old):=by
 have h1:=Ou (N:=N) (lv:=fJ m met) h.nd fun a ha=>h.f1has ha
 have h2:=h.midSum fun c=>c.More.length
 have h3:cE (fun a=>(nv N m met a).More.length) (fJ m met)=cE (fun a=>(jp N (fJ m met) (bU m a)).More.length) (fJ m met):=pD fun a _=>by
  show ((jp N (fJ m met) (bU m a)).More.map _).length=_;rw [List.length_map]
 unfold mS qb at*;omega
theorem MinCtx.gone64: ∀v∈(qb m met).map (bR (dl m met) met),in64 v.N:=fun v hv=>by
 obtain ⟨w,hw,rfl⟩:=List.mem_map.1 hv;rw [←uC];obtain ⟨a, -,hw⟩:=List.mem_flatMap.1 hw;exact h.mov64 (OI h.w64 hw)
end
section
variable {N:Nat} {m:Rg} {roots:List Q5} {live f:List Int} (h:CollCtx N m roots live f)
include h
theorem CollCtx.next4:4*(rc m live f).length+3*(mS (eB N m live f).Young+mS (eB N m live f).Old)≤3*(mS m.Young+mS m.Old):=by
 have h1:=Ou (N:=N) (lv:=live) h.lv.nd fun a ha=>h.lv.fhas ha
 have h3:mS (eB N m live f).Old=cE (fun a=>(jp N live (bU m a)).More.length) f:=by
  show cE (fun c:Ra=>c.More.length) (f.map fun a=>f0 (lg f) f (jp N live (bU m a)))=_;rw [lO]
  exact pD fun a _=>by show ((jp N live (bU m a)).More.map _).length=_;rw [List.length_map]
 have h4:mS (eB N m live f).Young=0:=rfl;unfold rc at*;omega
theorem CollCtx.nextCnt:(eB N m live f).Old.length≤m.Young.length+m.Old.length:=by
 have h1:=ot (fun _=>1) h.lv.nd fun a ha=>sj (h.lv.fhas ha)
 rw [pp,pp] at h1;unfold yT at h1;unfold eB;simp only [List.length_append,List.length_map,List.length_range] at h1⊢;omega
theorem CollCtx.nextCell {c:Ra}(hc:c∈(eB N m live f).Young++(eB N m live f).Old): ∃a∈f,c.Slots.length=(bU m a).Slots.length∧c.More.length≤(bU m a).More.length:=by
 have _:=h
 have hc':c∈f.map fun a=>f0 (lg f) f (jp N live (bU m a)):=hc
 obtain ⟨a,ha,rfl⟩:=List.mem_map.1 hc';have:=oh N live (bU m a);refine ⟨a,ha,?_,?_⟩
 ·show ((jp N live (bU m a)).Slots.map _).length=_;rw [List.length_map];exact this.1
 show ((jp N live (bU m a)).More.map _).length≤_;rw [List.length_map];omega
end
theorem Le {N k:Nat}(hN:5000<N){g:Re}(h:HInv k g)(hk:k≤40):
  (Gi N g.m_ (g.roots_++g.pending_) (gP g.set_.at_)=false∧dq N g=some (1,g))∨
  ∃met kv,MinCtx N g.m_ (g.roots_++g.pending_) (gP g.set_.at_) met∧kv.map Prod.fst=oF (iO N g.m_ met)∧
   dq N g=some (0,⟨iO N g.m_ met,g.roots_.map (bR (dl g.m_ met) met),g.pending_.map (bR (dl g.m_ met) met)++(qb g.m_ met).map (bR (dl g.m_ met) met),⟨kv⟩⟩)∧
   HInv k ⟨iO N g.m_ met,g.roots_.map (bR (dl g.m_ met) met),g.pending_.map (bR (dl g.m_ met) met)++(qb g.m_ met).map (bR (dl g.m_ met) met),⟨kv⟩⟩:=by
 have hs:=h.small hk;have hkl:=h.kslen;have ho:=hs.old;have hrl:=hs.roots;have hsum:=h.sum;have hcnt:=h.cnt;rw [List.length_append] at hrl hsum;have hm:=OQ N g.m_ (g.roots_++g.pending_) (gP g.set_.at_)
 have head:dq N g=((dU N g.m_ (g.roots_++g.pending_) (gP g.set_.at_)).bind fun y13=>EL y13 (fun y13_0=>some (.inl (y13_0.1,y13_0.2.1,y13_0.2.2))) (fun y13_1=>some (.inr (y13_1.1,y13_1.2.1,y13_1.2.2)))).bind fun y26=>(EL y26 (fun y26_0:Rg×(List Q5)×(List Q5)=>fG N g y26_0.1.Young y26_0.1.Old y26_0.2.1 y26_0.2.2) (fun y26_1:Rg×(List Q5)×(List Q5)=>dV N g y26_1.1.Young y26_1.1.Old y26_1.2.1 y26_1.2.2)).bind fun y9=>some (y9.1,y9.2):=by
  unfold dq gh kX aT;rw [bs,cf,rk N _ _ Y Y,bs,CK h N hk,bs,Option.bind_assoc]
 cases hmay:Gi N g.m_ (g.roots_++g.pending_) (gP g.set_.at_) with
 | false=>
  have e1:f3 N g.m_ (g.roots_++g.pending_) (gP g.set_.at_)=some (⟨[],[]⟩,[],[],1):=by
   unfold f3;rw [D0 N hN hs h.w64 h.r64 _ Y (fun x hx=>yp hs (h.keysH hx)),hmay,bs,nf,ct]
  rw [e1] at hm;refine .inl ⟨U,?_⟩;rw [head]
  cases hc:dU N g.m_ (g.roots_++g.pending_) (gP g.set_.at_) with
  |none=>rw [hc] at hm;cases hm
  | some y=>
   rw [hc] at hm
   cases y with
   |inl y=>rfl
   |inr y=>
    have:=Option.some.inj hm;have:=congrArg (fun z:Rg×(List Q5)×(List Q5)×Int=>z.2.2.2) this;exact absurd this (by show¬(1:Int)=0;omega)
 | true=>
  obtain ⟨met,c⟩:=MX hN hs h.w64 h.r64 (h.tot hk) (kept:=gP g.set_.at_) Y hmay;have h4:=c.mid4;have hmc:=c.midCnt;obtain ⟨kv,k1,k2⟩:=BM N hN (m:=iO N g.m_ met) (c.midS Y [] (by simp));have hg:((qb g.m_ met).map (bR (dl g.m_ met) met)).length=(qb g.m_ met).length:=List.length_map _;refine .inr ⟨met,kv,c,k2,?_,?_⟩
  ·rw [K2 c] at hm;rw [head]
   have ek:dU N g.m_ (g.roots_++g.pending_) (gP g.set_.at_)=some (.inr (iO N g.m_ met,(g.roots_++g.pending_).map (bR (dl g.m_ met) met),(qb g.m_ met).map (bR (dl g.m_ met) met))):=by
    cases hc:dU N g.m_ (g.roots_++g.pending_) (gP g.set_.at_) with
    |none=>rw [hc] at hm;cases hm
    | some y=>
     rw [hc] at hm;have e:=Option.some.inj hm
     cases y with
     |inl y=>
      have:=congrArg (fun z:Rg×(List Q5)×(List Q5)×Int=>z.2.2.2) e;exact absurd this (by show¬(0:Int)=1;omega)
     |inr y=>
      obtain ⟨y1,y2,y3⟩:=y;have e':=e;simp only [PX,Prod.mk.injEq,and_true] at e';obtain ⟨rfl,rfl,rfl⟩:=e';rfl
   rw [ek,bs]
   dsimp only [EL]
   rw [bs]
   dsimp only
   unfold dV fF;rw [Ie (N:=N) (bR (dl g.m_ met) met) g.roots_ g.pending_ _ _ Y Y];have k1':df N g.set_ (⟨(iO N g.m_ met).Young,(iO N g.m_ met).Old⟩:Rg)=some ⟨kv⟩:=k1;rw [k1',bs,bs]
  obtain ⟨n1,n2⟩:=Gl k2;refine ⟨by show (iO N g.m_ met).Young.length+(iO N g.m_ met).Old.length≤k;omega,fun d hd=> ?_,?_,c.midW,fun v hv=> ?_,n1,n2⟩
  ·obtain ⟨a,ha,rfl⟩:=c.midMem hd;have h1:=c.cellLe ha;have h2:=h.cells _ (vS (c.f1has ha));omega
  ·show 4*(g.roots_.map (bR (dl g.m_ met) met)++(g.pending_.map (bR (dl g.m_ met) met)++(qb g.m_ met).map (bR (dl g.m_ met) met))).length+3*(mS (iO N g.m_ met).Young+mS (iO N g.m_ met).Old)≤60*k;simp only [List.length_append,List.length_map];omega
  have hv':v∈(g.roots_++g.pending_).map (bR (dl g.m_ met) met)∨v∈(qb g.m_ met).map (bR (dl g.m_ met) met):=by
   rw [←List.mem_append,List.map_append,Rn];exact hv
  rcases hv' with hv'|hv'
  ·rw [c.nowE] at hv';exact c.now64 v hv'
  exact c.gone64 v hv'
theorem Hx {N:Nat}{m:Rg}{R:List Q5}(h0:ke N m R=some 0){y:Rg×List Q5×List Q5×Int}(h:dp N m R=some (.inl y)):False:=by
 unfold dp at h;rw [h0,bs,Rk (p:=(0:Int)=0) rfl,nt,cf] at h;obtain ⟨y13, -,h⟩:=aa h;obtain ⟨y18, -,h⟩:=aa h;obtain ⟨y22, -,h⟩:=aa h;unfold nH at h;split at h
 ·obtain ⟨y25, -,h⟩:=aa h;obtain ⟨y30, -,h⟩:=aa h;split at h
  ·obtain ⟨y65, -,h⟩:=aa h;obtain ⟨y67, -,h⟩:=aa h;cases h
  ·cases h
  ·cases h
  cases h
 ·cases h
 ·cases h
 cases h
theorem Lf {N k:Nat}(hN:5000<N){g:Re}(h:HInv k g)(hk:k≤40):
  (np N g.m_ (g.roots_++g.pending_)≠0∧dY N g=some (np N g.m_ (g.roots_++g.pending_),g))∨
  ∃live f kv,CollCtx N g.m_ (g.roots_++g.pending_) live f∧kv.map Prod.fst=oF (eB N g.m_ live f)∧
   dY N g=some (0,⟨eB N g.m_ live f,g.roots_.map (bR (lg f) f),g.pending_.map (bR (lg f) f)++(rc g.m_ live f).map (bR (lg f) f),⟨kv⟩⟩)∧
   HInv k ⟨eB N g.m_ live f,g.roots_.map (bR (lg f) f),g.pending_.map (bR (lg f) f)++(rc g.m_ live f).map (bR (lg f) f),⟨kv⟩⟩:=by
 have hs:=h.small hk;have hrl:=hs.roots;have hsum:=h.sum;have hcnt:=h.cnt;rw [List.length_append] at hrl hsum;obtain ⟨live,f,hl⟩:=MY N hN hs h.w64 h.r64;have hp:=Fq N hN hs (h.wtd hk) h.w64 h.r64 hl;have hm:=OT N g.m_ (g.roots_++g.pending_);rw [hp] at hm;unfold Ly at hm
 have head:dY N g=((dp N g.m_ (g.roots_++g.pending_)).bind fun y11=>EL y11 (fun y11_0=>some (.inl (y11_0.1,y11_0.2.1,y11_0.2.2.1,y11_0.2.2.2))) (fun y11_1=>some (.inr (y11_1.1,y11_1.2.1,y11_1.2.2)))).bind fun y27=>(EL y27 (fun y27_0:Rg×(List Q5)×(List Q5)×Int=>dX N g y27_0.1.Young y27_0.1.Old y27_0.2.1 y27_0.2.2.1 y27_0.2.2.2) (fun y27_1:Rg×(List Q5)×(List Q5)=>dW N g y27_1.1.Young y27_1.1.Old y27_1.2.1 y27_1.2.2)).bind fun y9=>some (y9.1,y9.2):=by
  unfold dY gi kY aT;rw [bs,cf,rk N _ _ Y Y,bs,Option.bind_assoc]
 by_cases h0: ¬np N g.m_ (g.roots_++g.pending_)=0
 ·rw [fK h0,cond_false] at hm;refine .inl ⟨h0,?_⟩;rw [head]
  cases hc:dp N g.m_ (g.roots_++g.pending_) with
  |none=>rw [hc] at hm;cases hm
  | some y=>
   rw [hc] at hm;have e:=congrArg (fun z:Rg×(List Q5)×(List Q5)×Int=>z.2.2.2) (Option.some.inj hm)
   cases y with
   |inl y=>
    obtain ⟨y1,y2,y3,y4⟩:=y;have e':np N g.m_ (g.roots_++g.pending_)=y4:=e;rw [bs]
    dsimp only [EL]
    rw [bs]
    dsimp only
    unfold dX;rw [←e',fK h0,nf,ct,bs]
   |inr y=>exact absurd e h0
 replace h0:np N g.m_ (g.roots_++g.pending_)=0:=by omega
 rw [nn h0,cond_true] at hm;have c:=O4 hN hs (h.wtd hk) h.w64 h.r64 hl h0;have h4:=c.next4;have hnc:=c.nextCnt;have h0n:(eB N g.m_ live f).Young.length=0:=rfl;obtain ⟨kv,k1,k2⟩:=BM N hN (m:=eB N g.m_ live f) (c.nextS [] (by simp));have k1':df N g.set_ (⟨(eB N g.m_ live f).Young,(eB N g.m_ live f).Old⟩:Rg)=some ⟨kv⟩:=k1;have hg:((rc g.m_ live f).map (bR (lg f) f)).length=(rc g.m_ live f).length:=List.length_map _;refine .inr ⟨live,f,kv,c,k2,?_,?_⟩
 ·rw [head]
  cases hc:dp N g.m_ (g.roots_++g.pending_) with
  |none=>rw [hc] at hm;cases hm
  | some y=>
   rw [hc] at hm;have e:=Option.some.inj hm
   cases y with
   |inl y=>exact (Hx (by rw [C2 N hN hs (h.wtd hk) h.w64 h.r64,h0]) hc).elim
   |inr y=>
    obtain ⟨y1,y2,y3⟩:=y;simp only [Qg,Prod.mk.injEq,and_true] at e;obtain ⟨rfl,rfl,rfl⟩:=e;rw [bs]
    dsimp only [EL]
    rw [bs]
    dsimp only
    unfold dW fH;unfold GG
    dsimp only
    rw [Ie (N:=N) (bR (lg f) f) g.roots_ g.pending_ _ _ Y (by unfold rc at hg;rw [hg];unfold rc at h4;omega)];have k2':df N g.set_ (⟨[],f.map fun a=>f0 (lg f) f (jp N live (bU g.m_ a))⟩:Rg)=some ⟨kv⟩:=k1;rw [k2',bs,bs];rfl
 obtain ⟨n1,n2⟩:=Gl k2;refine ⟨by show (eB N g.m_ live f).Young.length+(eB N g.m_ live f).Old.length≤k;omega,fun d hd=> ?_,?_,c.nextW,fun v hv=> ?_,n1,n2⟩
 ·obtain ⟨a,ha,h1,h1'⟩:=c.nextCell hd;have h2:=h.cells _ (vS (c.lv.fhas ha));omega
 ·show 4*(g.roots_.map (bR (lg f) f)++(g.pending_.map (bR (lg f) f)++(rc g.m_ live f).map (bR (lg f) f))).length+3*(mS (eB N g.m_ live f).Young+mS (eB N g.m_ live f).Old)≤60*k;simp only [List.length_append,List.length_map];omega
 have hv':v∈(g.roots_++g.pending_).map (bR (lg f) f)∨v∈(rc g.m_ live f).map (bR (lg f) f):=by
  rw [←List.mem_append,List.map_append,Rn];exact hv
 rcases hv' with hv'|hv'
 ·exact c.now64 v hv'
 exact c.gone64 v hv'
end
section
open Go.RowKit
def P5 (x:Rf):Prop:=in64 x.N∧in64 x.V.N∧ ∀v∈x.C.Slots++x.C.More,in64 v.N
def Pw (x:Rf):Bool:=decide (x.C.Slots.length≤20)&&decide (x.C.More.length≤20)
theorem MN {l:List Rf}(h:OE (fun z=>EG z) l): ∀x∈l,P5 x:=fun x hx=>by
 obtain ⟨-,h1,⟨-, -, -, -,s,t⟩,h3⟩:=h.2 x hx;refine ⟨h1,h3.2.1,fun v hv=> ?_⟩;rcases List.mem_append.1 hv with hv|hv
 ·exact (s.2 v hv).2.1
 exact (t.2 v hv).2.1
theorem PO {N k:Nat}(hN:5000<N){g:Re}(h:HInv k g)(hk:k<40){x:Rf}(hx:P5 x)(hs:Pw x=true): ∃t g',xo N g x=some (t,g')∧HInv (k+1) g':=by
 obtain ⟨w1,w2,w3⟩:=hx;unfold Pw at hs;rw [Bool.and_eq_true,decide_eq_true_eq,decide_eq_true_eq] at hs;unfold xo fV
 cases decide (x.Kind=0) with
 |true=>
  rw [ct,(Ig hN h hk hs w3).1,bs];have:=(Ig hN h hk hs w3).2
  revert this
  cases dz x.C<;>exact fun this=>⟨_,_,rfl,this⟩
 |false=>
 rw [cf]
 cases decide (x.Kind=1) with
 |true=>
  rw [ct,(KI hN h hk w1 hs w3).1,bs];have:=(KI hN h hk w1 hs w3).2
  revert this
  cases br g.m_ x.N<;>cases dz x.C<;>exact fun this=>⟨_,_,rfl,this⟩
 |false=>
 rw [cf]
 cases decide (x.Kind=2) with
 |true=>
  rw [ct,(Ib h hk w2).1,bs];exact ⟨_,_,U,(Ib (N:=N) h hk w2).2⟩
 |false=>
 rw [cf]
 cases decide (x.Kind=3) with
 |true=>
  rw [ct,(BE (i:=x.N) h w2).1,bs];have:=(BE (N:=N) (i:=x.N) h w2).2
  revert this
  cases ws g x.N<;>exact fun this=>⟨_,_,rfl,this⟩
 |false=>
 rw [cf]
 cases decide (x.Kind=4) with
 |true=>
  obtain ⟨r,e,h'⟩:=Nc (N:=N) h x.N;rw [ct,e,bs];exact ⟨_,_,U,h'⟩
 |false=>
 rw [cf]
 cases decide (x.Kind=5) with
 |true=>
  rcases Le hN h Y with ⟨-,e⟩|⟨met,kv, -, -,e,h'⟩
  ·rw [ct,e,bs];exact ⟨_,_,U,h.up⟩
  rw [ct,e,bs];exact ⟨_,_,U,h'.up⟩
 |false=>
 rw [cf]
 cases decide (x.Kind=6) with
 |true=>
  rcases Lf hN h Y with ⟨-,e⟩|⟨live,f,kv, -, -,e,h'⟩
  ·rw [ct,e,bs];exact ⟨_,_,U,h.up⟩
  rw [ct,e,bs];exact ⟨_,_,U,h'.up⟩
 |false=>
 rw [cf]
 cases decide (x.Kind=7) with
 |true=>
  obtain ⟨r,e,h'⟩:=MK (N:=N) h;rw [ct,e,bs];exact ⟨_,_,U,h'⟩
 |false=>
 rw [cf]
 cases decide (x.Kind=8) with
 |true=>
  rw [ct,Lg h w1,bs];exact ⟨_,_,U,h.up⟩
 |false=>
  rw [cf,Jt,bs];exact ⟨_,_,U,h.up⟩
theorem G6 (N:Nat)(hN:5000<N)(l:List Rf):qJ N l=some (decide (l.length≤40)&&l.all Pw):=by
 unfold qJ;by_cases h:l.length≤40
 ·rw [cD Y,cf,Rk h,Bool.true_and];refine uM (fun k i=>lh N l k i) l Pw (fun m i hi=> ?_) (fun m=> ?_) N Y
  ·show lh N l (m+1) (i:Int)=_;rw [lh.eq_2,cF Y,ct,bf hi,bs,bs];unfold Pw;by_cases h1:l[i].C.Slots.length≤20
   ·rw [cD Y,cf,bs,Rk h1,Bool.true_and];by_cases h2:l[i].C.More.length≤20
    ·rw [cD Y,cf,Rk h2,ct,r64 Y Y]
    rw [cF Y,ct,Rl h2,cf]
   rw [cF Y,ct,bs,ct,Rl h1];rfl
  show lh N l (m+1) (l.length:Int)=_;rw [lh.eq_2,cD Y,cf];rfl
 rw [cF Y,ct,Rl h];rfl
theorem MU:HInv 0 ⟨⟨[],[]⟩,[],[],⟨[]⟩⟩:=by
 refine ⟨Nat.le_refl _,fun c hc=> ?_,?_,fun c hc=> ?_,fun v hv=> ?_,by simp,fun x hx=> ?_⟩
 ·cases hc
 ·exact Nat.le_refl _
 ·cases hc
 ·cases hv
 cases hx
set_option maxRecDepth 100000 in
theorem yP:mB 6000=some true:=by kernel_rfl
theorem JP (N:Nat)(a b:Int):tf N a b=some (decide (a<b)):=by
 unfold tf rl;rw [bs,nn rfl,Bool.not_true,cond_false,bs,cond_false,bs]
theorem K1 {a b:Int}(h0:0≤a)(h1:a<b)(h2:b≤100000):IntKind.i64.wrap ((IntKind.u64.wrap (a+b)).fdiv (2 ^ 1))=(a+b) / 2:=by
 rw [IntWalk.u64_in _ ⟨by omega,by omega⟩,Int.fdiv_eq_ediv_of_nonneg _ Y,show (2:Int) ^ 1=2 from rfl,IntWalk.i64_in _ ⟨by omega,by omega⟩]
theorem FG (N:Nat)(hN:5000<N)(l:List Int)(x:Int)(hl:l.length≤1000)(ha:l.Pairwise (· < ·)):Sat (gV N l x) fun r=>r.2=decide (x∈l):=by
 unfold gV;have hg:=List.pairwise_iff_getElem.1 ha;refine ni (fun m (s:Int×Int)=>dG N x l m s.1 s.2) (fun s=>(s.2 - s.1).toNat) (fun s=>0≤s.1∧s.1≤s.2∧s.2≤l.length∧(∀(j:Nat) (hj:j<l.length),(j:Int)<s.1→l[j]<x)∧(∀(j:Nat) (hj:j<l.length),s.2≤(j:Int)→x≤l[j])) _ ?_ N (0,(l.length:Int)) (by show ((l.length:Int) - 0).toNat<N;omega) ⟨by omega,by show (0:Int)≤l.length;omega,by show (l.length:Int)≤l.length;omega,fun j hj h=>by have:(j:Int)<0:=h;omega,fun j hj h=>by have:(l.length:Int)≤j:=h;omega⟩;rintro m ⟨a,b⟩ ⟨h0,h1,h2,h3,h4⟩ k
 dsimp only at h0 h1 h2 h3 h4
 show Sat (dG N x l (m+1) a b) _;rw [dG.eq_2]
 refine dR (fun hab=> ?_) fun hab=> ?_
 ·have hm:((a+b) / 2).toNat<l.length:=by omega
  rw [r64 Y Y,K1 h0 hab Y,Fj Y hm,bs,JP,bs]
  refine dR (fun hlt=> ?_) fun hlt=> ?_
  ·rw [r64 Y Y];refine k ((a+b) / 2+1,b) (by show (b - ((a+b) / 2+1)).toNat<(b - a).toNat;omega) ⟨by show 0≤(a+b) / 2+1;omega,by show (a+b) / 2+1≤b;omega,h2,fun j hj h=> ?_,h4⟩;have h:(j:Int)<(a+b) / 2+1:=h;rcases Nat.lt_or_ge j ((a+b) / 2).toNat with h5|h5
   ·have:=hg j _ hj hm h5;omega
   have e:j=((a+b) / 2).toNat:=by omega
   subst e;exact hlt
  refine k (a,(a+b) / 2) (by show ((a+b) / 2 - a).toNat<(b - a).toNat;omega) ⟨h0,by show a≤(a+b) / 2;omega,by show (a+b) / 2≤l.length;omega,h3,fun j hj h=> ?_⟩;have h:(a+b) / 2≤(j:Int):=h;rcases Nat.lt_or_ge ((a+b) / 2).toNat j with h5|h5
  ·have:=hg _ j hm hj h5;omega
  have e:j=((a+b) / 2).toNat:=by omega
  subst e;omega
 obtain rfl:a=b:=by omega
 unfold jz mL;by_cases hlt:a<l.length
 ·have ht:a.toNat<l.length:=by omega
  rw [cF hlt,cond_true,Fj h0 ht,bs];by_cases he:l[a.toNat]=x
  ·rw [nn he,cond_true,bs,bs];exact aR (Eq.symm (Rk (he▸List.getElem_mem ht)))
  rw [fK he,cond_false,bs,bs,nn rfl,Bool.not_true,cond_false,bs,bs,bs];refine aR (Eq.symm (Rl fun hx=> ?_));obtain ⟨j,hj,rfl⟩:=List.mem_iff_getElem.1 hx;rcases Nat.lt_trichotomy j a.toNat with h5|h5|h5
  ·have:=h3 j hj Y;omega
  ·subst h5;exact he U
  have h6:=hg _ _ ht hj h5;have:=h4 a.toNat ht Y;omega
 rw [cD Y,cond_false,bs];refine aR (Eq.symm (Rl fun hx=> ?_));obtain ⟨j,hj,rfl⟩:=List.mem_iff_getElem.1 hx;have:=h3 j hj Y;omega
theorem KT (m:Rg)(l:List Int):qY m l=(List.range m.Old.length).all fun i=> !nF m i||decide ((2*(i:Int)+2)∈l):=rfl
theorem Ju (n:Nat)(p:Nat→Bool):(List.range n).all p=true↔ ∀i,i<n→p i=true:=by
 rw [List.all_eq_true];exact ⟨fun h i hi=>h i (List.mem_range.2 hi),fun h i hi=>h i (List.mem_range.1 hi)⟩
theorem Dh {N:Nat}(hN:5000<N){m:Rg}{roots:List Q5}(hs:Small m roots){l:List Int}(ha:l.Pairwise (· < ·))(hf: ∀x∈l, ∃i:Nat,i<m.Old.length∧x=2*(i:Int)+2)(hl:l.length≤1000):mP N m l=some (qY m l):=by
 have ho:=hs.old
 have second:gw N m l N 0=some (qY m l):=by
  rw [KT]
  have key: ∀k i:Nat,m.Old.length<k+i→i≤m.Old.length→Sat (gw N m l k (i:Int)) fun b=>b=true↔ ∀j,i≤j→j<m.Old.length→(!nF m j||decide ((2*(j:Int)+2)∈l))=true:=by
   intro k
   induction k with
   |zero=>intro i h1 h2;omega
   | succ k ih=>
    intro i h1 h2;rw [gw.eq_2];by_cases hi:i<m.Old.length
    ·have h3:=ih (i+1) Y hi;rw [show (((i+1:Nat)):Int)=(i:Int)+1 by omega] at h3;have hc:=hs.cells _ (Rq m.Young (List.getElem_mem hi))
     have e:(cO m.Old[i]).any yB=nF m i:=by unfold nF;rw [uZ m i hi]
     obtain ⟨r,e1,e2⟩:=FG N hN l (2*(i:Int)+2) hl ha;rw [cF Y,ct,bf hi,bs,r64 Y Y,r64 Y Y,e1,bs,e2,rC N hN _ hc.1 hc.2,e]
     have e3:((bif !decide (2*(i:Int)+2∈l) then (some (nF m i)).bind fun y32=>some y32 else some false):Option Bool)=some (!(!nF m i||decide (2*(i:Int)+2∈l))):=by
      cases decide (2*(i:Int)+2∈l)<;>cases nF m i<;>rfl
     rw [e3,bs]
     cases hb:!nF m i||decide (2*(i:Int)+2∈l) with
     |false=>
      rw [nf,ct];refine aR ⟨fun h=>(by cases h),fun h=> ?_⟩;have:=h i (Nat.le_refl _) hi;rw [hb] at this;cases this
     |true=>
      rw [nt,cf,r64 Y Y]
      refine h3.mono fun b h=>h.trans ⟨fun h j h1 h2=> ?_,fun h j h1 h2=>h j Y h2⟩
      rcases Nat.lt_or_ge i j with h4|h4
      ·exact h j Y h2
      obtain rfl:j=i:=by omega
      exact hb
    rw [cD Y,cf];exact aR ⟨fun _ j h1 h2=>by omega,fun _=>rfl⟩
  obtain ⟨b,e1,e2⟩:=key N 0 Y Y;have e1':gw N m l N 0=some b:=e1;rw [e1']
  congr 1
  rw [Bool.eq_iff_iff,e2,Ju];exact ⟨fun h i hi=>h i (Nat.zero_le _) hi,fun h i _ hi=>h i hi⟩
 have hg:=List.pairwise_iff_getElem.1 ha;unfold mP
 have key: ∀k i:Nat,l.length<k+i→i≤l.length→mc N l m k (i:Int)=some (qY m l):=by
  intro k
  induction k with
  |zero=>intro i h1 h2;omega
  | succ k ih=>
   intro i h1 h2;rw [mc.eq_2];by_cases hi:i<l.length
   ·have h3:=ih (i+1) Y hi;rw [show (((i+1:Nat)):Int)=(i:Int)+1 by omega] at h3;obtain ⟨j,hj,ej⟩:=hf _ (List.getElem_mem hi)
    have ep:((bif decide (0<(i:Int)) then (bD (in64 ((i:Int) - 1)) ((aM l ((i:Int) - 1)).bind fun x16=>some (decide (l[i]≤x16)))) else (some false)).bind fun b14=>some b14)=some false:=by
     by_cases h0:0<i
     ·have e1:(i:Int) - 1=((i - 1:Nat):Int):=by omega
      have:=hg (i - 1) i Y hi Y;rw [cF Y,ct,r64 Y Y,e1,bf Y,bs,bs,Rl Y]
     rw [cD Y,cf,bs]
    unfold lj;rw [cF Y,ct,bf hi,bs,ep,ej,cF Y,ct,o6 Y,nn Y,bs,bs,nt,cf,r64 (by rw [Int.tdiv_eq_ediv_of_nonneg Y];omega) (by rw [Int.tdiv_eq_ediv_of_nonneg Y];omega),bs,Int.tdiv_eq_ediv_of_nonneg Y,cD Y,cf,bs,cf,r64 Y Y];exact h3
   rw [cD Y,cf];exact second
 exact key N 0 Y Y
theorem C7 (m:Rg): ∀l:List Q5,l.any (fun v=>bM v&& !br m v.N)=!d9 m (ce l)
 | []=>rfl
 |v::l=>by
  have ih:=C7 m l;unfold d9 ce at ih⊢;rw [List.any_cons,ih,List.filter_cons]
  cases hb:bM v with
  |false=>rw [if_neg (by simp)];rfl
  |true=>rw [if_pos rfl,List.map_cons,List.all_cons];cases br m v.N<;>rfl
def sZ (g:Re):Int:=bif !d9 g.m_ (ce (g.roots_++g.pending_)) then 50 else bif !((g.m_.Young++g.m_.Old).all fun c=>d9 g.m_ (cO c)) then 50 else bif qY g.m_ (gP g.set_.at_) then 0 else 6
theorem JO {N k:Nat}(hN:5000<N){g:Re}(h:HInv k g)(hk:k≤40){c:Ra}(hc:c∈g.m_.Young++g.m_.Old):lu N g c=some (!d9 g.m_ (cO c)):=by
 have hs:=(h.small hk).cells c hc;have h1:=jE c;have h2:=mA c;unfold lu;rw [ms N Y c Y Y,bs,qH N Y c Y Y,bs,Au N _ _ Y Y,bs,yQ N _ (fun x=> !br g.m_ x) _ (by rw [List.length_append];omega) (by rw [List.length_append];omega) (fun x hx=> ?_),bs,Bj]
 ·rfl
 obtain ⟨v,hv, -,rfl⟩:=zQ (c:=c) hx;unfold lJ;rw [vG h N (h.w64 c hc v hv),bs]
theorem Am {N k:Nat}(hN:5000<N){g:Re}(h:HInv k g)(hk:k≤40):fT N g=some (sZ g):=by
 have hs:=h.small hk;have hrl:=hs.roots;have hcnt:=h.cnt;have hrl':=hrl;rw [List.length_append] at hrl'
 have hj: ∀b,ge N g b=some (bif b then 50 else bif qY g.m_ (gP g.set_.at_) then 0 else 6):=fun b=>by
  unfold ge;rw [CK h N hk,bs,Dh hN hs (l:=gP g.set_.at_) (zb h.nd) (fun x hx=>h.keys x ((pq _ x).1 hx)) (by have:=h.kslen;omega),bs];cases b<;>cases qY g.m_ (gP g.set_.at_)<;>rfl
 have ha: ∀v∈g.roots_++g.pending_,jH N g v=some (bM v&& !br g.m_ v.N):=fun v hv=>by
  unfold jH
  have e:((bif decide (v.Kind=7) then (some true) else (some (decide (v.Kind=9)))):Option Bool)=some (bM v):=by
   unfold bM;cases decide (v.Kind=7)<;>rfl
  rw [e,bs,vG h N (h.r64 v hv),bs];cases bM v<;>rfl
 have hcells:dx N (g.m_.Young++g.m_.Old) g=some (!(g.m_.Young++g.m_.Old).all fun c=>d9 g.m_ (cO c)):=by
  have key: ∀k i:Nat,(g.m_.Young++g.m_.Old).length<k+i→i≤(g.m_.Young++g.m_.Old).length→Sat (cT N (g.m_.Young++g.m_.Old) g k (i:Int)) fun r=>decide (0≤r)=!((g.m_.Young++g.m_.Old).drop i).all fun c=>d9 g.m_ (cO c):=by
   intro k
   induction k with
   |zero=>intro i h1 h2;omega
   | succ k ih=>
    intro i h1 h2
    have hl:(g.m_.Young++g.m_.Old).length≤600:=by rw [List.length_append];omega
    rw [cT.eq_2];by_cases hi:i<(g.m_.Young++g.m_.Old).length
    ·have h3:=ih (i+1) Y hi;rw [show (((i+1:Nat)):Int)=(i:Int)+1 by omega] at h3;rw [cF Y,ct,bf hi,bs,List.drop_eq_getElem_cons hi,List.all_cons,JO hN h hk (List.getElem_mem hi),bs,r64 Y Y];cases d9 g.m_ (cO (g.m_.Young++g.m_.Old)[i])
     ·exact aR (by rw [Rk Y];rfl)
     exact h3
    rw [cD Y,cf,List.drop_eq_nil_of_le Y];exact aR U
  obtain ⟨r,h1,h2⟩:=key N 0 (by rw [List.length_append];omega) Y;have h1':cT N (g.m_.Young++g.m_.Old) g N 0=some r:=h1;unfold dx fW;rw [h1',bs,h2,List.drop_zero]
 unfold fT aT sZ;rw [bs,cf,rk N _ _ Y Y,bs,I7 N _ _ _ Y Y ha,bs,C7,yH N _ _ Y Y,bs,hcells,bs,hj,hj]
 cases d9 g.m_ (ce (g.roots_++g.pending_))<;>cases (g.m_.Young++g.m_.Old).all fun c=>d9 g.m_ (cO c)<;>rfl
theorem Al {g:Re}(h1: ∀x∈ce (g.roots_++g.pending_),br g.m_ x=true)(h2: ∀c∈g.m_.Young++g.m_.Old, ∀x∈cO c,br g.m_ x=true)(h3:g.set_.at_.map Prod.fst=oF g.m_):sZ g=0:=by
 have e1:d9 g.m_ (ce (g.roots_++g.pending_))=true:=List.all_eq_true.2 h1
 have e2:((g.m_.Young++g.m_.Old).all fun c=>d9 g.m_ (cO c))=true:=List.all_eq_true.2 fun c hc=>List.all_eq_true.2 (h2 c hc)
 have e3:gP g.set_.at_=oF g.m_:=by
  have e:gP g.set_.at_=i9 (g.set_.at_.map Prod.fst):=rfl;rw [e,h3]
  exact FV ((CH g.m_).imp fun hab e=>by omega) (CH g.m_) fun x=>Iff.rfl
 unfold sZ;rw [e1,e2,e3,MQ];rfl
theorem MinCtx.goneIn {N:Nat}{m:Rg}{roots:List Q5}{kept met:List Int}(h:MinCtx N m roots kept met):fo (fJ m met) (qb m met):=fun v hv hb=>by
 obtain ⟨a,ha,hv⟩:=List.mem_flatMap.1 hv;exact (h.cell ha).toldIn v hv hb
theorem GS {f:List Int}{a b:List Q5}(h1:fo f a)(h2:fo f b):fo f (a++b):=fun v hv hb=>(List.mem_append.1 hv).elim (fun hv=>h1 v hv hb) fun hv=>h2 v hv hb
theorem EA {f:List Int}{a b:List Q5}(h:fo f (a++b)):fo f a:=fun v hv hb=>h v (Rp _ hv) hb
theorem Hw {N k:Nat}{g:Re}(h:HInv k g)(hk:k≤40){met:List Int}(c:MinCtx N g.m_ (g.roots_++g.pending_) (gP g.set_.at_) met){kv:List (Int×Bool)}(k2:kv.map Prod.fst=oF (iO N g.m_ met)):
  sZ ⟨iO N g.m_ met,g.roots_.map (bR (dl g.m_ met) met),g.pending_.map (bR (dl g.m_ met) met)++(qb g.m_ met).map (bR (dl g.m_ met) met),⟨kv⟩⟩=0∧
  fB N g.m_ g.roots_ (iO N g.m_ met) (g.roots_.map (bR (dl g.m_ met) met))=some true:=by
 have hrl:=(h.small hk).roots;rw [List.length_append] at hrl;have hcnt:=h.cnt
 have ef:bR (dl g.m_ met) met=bR (dl g.m_ met) (fJ g.m_ met):=funext fun v=>(uC v).symm
 rw [ef];refine ⟨Al (fun x hx=> ?_) (fun d hd=>(c.midAddr hd).2) k2,(c.alikeR Y (EA c.rootIn) Y fun v hv=>h.r64 v (Rp _ hv))⟩
 have hx':x∈ce ((g.roots_++g.pending_++qb g.m_ met).map (bR (dl g.m_ met) (fJ g.m_ met))):=by
  rw [List.map_append,List.map_append,Rn];exact hx
 obtain ⟨v,hv,hb,rfl⟩:=lA.1 hx';exact c.newHas (GS c.rootIn c.goneIn) hv hb
theorem Hy {N k:Nat}{g:Re}(h:HInv k g)(hk:k≤40){live f:List Int}(c:CollCtx N g.m_ (g.roots_++g.pending_) live f){kv:List (Int×Bool)}(k2:kv.map Prod.fst=oF (eB N g.m_ live f)):
  sZ ⟨eB N g.m_ live f,g.roots_.map (bR (lg f) f),g.pending_.map (bR (lg f) f)++(rc g.m_ live f).map (bR (lg f) f),⟨kv⟩⟩=0∧
  fB N g.m_ g.roots_ (eB N g.m_ live f) (g.roots_.map (bR (lg f) f))=some true:=by
 have hrl:=(h.small hk).roots;rw [List.length_append] at hrl;refine ⟨Al (fun x hx=> ?_) (fun d hd=>(c.nextAddr hd).2) k2,(c.alikeR (EA c.rootIn) Y fun v hv=>h.r64 v (Rp _ hv))⟩
 have hx':x∈ce ((g.roots_++g.pending_++rc g.m_ live f).map (bR (lg f) f)):=by
  rw [List.map_append,List.map_append,Rn];exact hx
 obtain ⟨v,hv,hb,rfl⟩:=lA.1 hx';exact c.newHas (GS c.rootIn c.goneIn) hv hb
theorem JW {k:Nat}{g:Re}(h:HInv k g)(hk:k≤40)(full:Bool):kr 6000 full g.m_.Young g.m_.Old g.roots_ g.pending_ g.set_.at_=some true:=by
 have hN:5000<6000:=by decide
 have hs:=h.small hk;have hrl:=hs.roots;rw [List.length_append] at hrl;have eg:(⟨(⟨g.m_.Young,g.m_.Old⟩:Rg),g.roots_,g.pending_,(⟨g.set_.at_⟩:Rh)⟩:Re)=g:=rfl;unfold kr;rw [eg,Am hN h hk,bs];by_cases h0: ¬sZ g=0
 ·rw [fK h0,nf,ct,yP,bs]
 replace h0:sZ g=0:=by omega
 have fin: ∀g':Re,HInv k g'→sZ g'=0→fB 6000 g.m_ g.roots_ g'.m_ g'.roots_=some true→eF 6000 g.roots_ (g.m_,g) 0 g'.m_.Young g'.m_.Old g'.roots_ g'.pending_ g'.set_.at_=some true:=fun g' h' c0 al=>by
  have hrl':=(h'.small hk).roots;rw [List.length_append] at hrl';have eg':(⟨(⟨g'.m_.Young,g'.m_.Old⟩:Rg),g'.roots_,g'.pending_,(⟨g'.set_.at_⟩:Rh)⟩:Re)=g':=rfl;unfold eF;rw [eg',Rk (p:=(0:Int)=0) rfl,nt,cf,Am hN h' hk,c0,bs,Rk (p:=(0:Int)=0) rfl,ct,D5 hN (h'.small hk),bs,Aj 6000 g' Y,bs,al,bs,ct,yP];rfl
 rw [nn h0,nt,cf,D5 hN hs,bs,Aj 6000 g Y,bs]
 dsimp only
 cases full with
 | true=>
  rw [ct];rcases Lf hN h hk with ⟨h1,e⟩|⟨live,f,kv,c,k2,e,h'⟩
  ·rw [e,bs];unfold eF;rw [fK h1,nf,ct,yP,bs]
  rw [e,bs];obtain ⟨q1,q2⟩:=Hy h hk c k2;exact fin _ h' q1 q2
 | false=>
  rw [cf];rcases Le hN h hk with ⟨-,e⟩|⟨met,kv,c,k2,e,h'⟩
  ·rw [e,bs];unfold eF;rw [fK (a:=(1:Int)) (b:=0) Y,nf,ct,yP,bs]
  rw [e,bs];obtain ⟨q1,q2⟩:=Hw h hk c k2;exact fin _ h' q1 q2
theorem JV {l:List Rf}(full:Bool)(hw: ∀x∈l,P5 x):ma 6000 l full=some true:=by
 unfold ma sY sJ;rw [bs,bs,G6 6000 (by decide),bs]
 cases hs:decide (l.length≤40)&&l.all Pw with
 |false=>rw [nf,ct,yP];rfl
 | true=>
  rw [Bool.and_eq_true,decide_eq_true_eq] at hs;rw [nt,cf];apply Sat.eq;refine cI (fun k i (s:Re)=>fR 6000 full l k (i:Int) s.m_.Young s.m_.Old s.roots_ s.pending_ s.set_.at_) l.length (fun i s=>HInv i s) _ ?_ ?_ 6000 0 ⟨⟨[],[]⟩,[],[],⟨[]⟩⟩ Y Y MU
  ·rintro k i s hi h go;show Sat (fR 6000 full l (k+1) (i:Int) s.m_.Young s.m_.Old s.roots_ s.pending_ s.set_.at_) _;obtain ⟨t,g',e,h'⟩:=PO (N:=6000) (by decide) h Y (hw _ (List.getElem_mem hi)) (oo hs.2 (List.getElem_mem hi));have eg:(⟨(⟨s.m_.Young,s.m_.Old⟩:Rg),s.roots_,s.pending_,(⟨s.set_.at_⟩:Rh)⟩:Re)=s:=rfl;rw [fR.eq_2,cF Y,ct,bf hi,bs,eg,e,bs,r64 Y Y];exact go g' h'
  rintro k s h;show Sat (fR 6000 full l (k+1) (l.length:Int) s.m_.Young s.m_.Old s.roots_ s.pending_ s.set_.at_) _;rw [fR.eq_2,cD Y,cf,JW h hs.1 full];exact aR U
theorem JU (l:List Rf)(full:Bool)(hl:OE (fun z=>EG z) l):ma 6000 l full=some true:=JV full (MN hl)
end
end Go.Proofs.YtmimkglhbmcokaaGreat