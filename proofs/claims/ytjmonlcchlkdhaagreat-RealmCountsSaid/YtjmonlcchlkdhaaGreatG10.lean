/- Merged texts: part 10. No conditions of their own. -/
import Derived.Test.YtjmonlcchlkdhaaGreatG9
import Derived.Test.YtjmonlcchlkdhaaGreatG8
import Derived.IntWalk
import Derived.KernelRfl
namespace Go.Proofs.YtjmonlcchlkdhaaGreat
section
open Go.RowKit
theorem Cr {c:TB}{v:Ty}(hv:v∈c.Uo++c.Um)(hb:bm v=true):v.N∈bZ c:=by
 unfold bZ;rcases List.mem_append.1 hv with hv|hv
 ·exact TT _ (Gj (f:=co c) (fun x hx=>hx) v hv hb)
 obtain ⟨j,hj,e⟩:=List.getElem_of_mem hv
 cases hw:nl c.Ui j with
 |false=>exact TT _ (Cl (f:=co c) (fun x hx=>hx) (by rw [List.getElem?_eq_getElem hj,e]) hw hb)
 |true=>exact TU _ (Cj (j:=j) (by rw [List.getElem?_eq_getElem hj,e]) (by rw [Nat.zero_add,hw,hb];rfl))
theorem xx {p:Int->Bool}{x:Int}: ∀{l:List Ty},x∈opens p l-> ∃v∈l,bm v=true/\v.N=x
 | [],h=>by simp [opens] at h
 | [_],h=>by simp [opens] at h
 | k::v::l,h=>by
  rw [pm] at h;rcases List.mem_append.1 h with h|h
  ·cases hv:bm v&&p k.N with
   |false=>rw [hv] at h;cases h
   |true=>
    rw [hv] at h;rw [Uf] at hv;exact ⟨v,by simp,hv.1,(List.mem_singleton.1 h).symm⟩
  obtain ⟨w,h1,h2⟩:=xx h;exact ⟨w,by simp [h1],h2⟩
structure CollCtx (N:Nat) (m:TM) (roots:List Ty) (live f:List Int):Prop where
 big:6500<N
 small:Small m roots
 tot:Wtd m roots
 w64:W64 m
 r64: ∀v∈roots,in64 v.N
 lv:Live N m roots live f
 right: ∀c∈m.Uj++m.Ul,bx c=true
 addr: ∀c∈m.Uj++m.Ul, ∀x∈bZ c,aJ m x=true
 roots: ∀x∈bN roots,aJ m x=true
theorem Pr {N:Nat}(hN:6500<N){m:TM}{roots:List Ty}(hs:Small m roots)(ht:Wtd m roots)(hw:W64 m)(hr: ∀v∈roots,in64 v.N){live f:List Int}(hl:Live N m roots live f)(h0:nj N m roots=0):CollCtx N m roots live f:=by
 obtain ⟨h1,h2,h3⟩:=E1 h0;exact ⟨hN,hs,ht,hw,hr,hl,fun c hc=>by have:=hs.cells c hc;rw [<-Gl (N:=N) V this.1 this.2];exact h1 c hc,h2,h3⟩
section
variable {N:Nat} {m:TM} {roots:List Ty} {live f:List Int} (h:CollCtx N m roots live f)
include h
theorem CollCtx.mem (x:Int):x∈live↔x∈f:=(h.lv.mem x).symm
theorem CollCtx.cell {a:Int}(ha:a∈f):CellOk N live f (bw m a):=by
 have hm:=eJ (h.lv.fhas ha);obtain ⟨b,all,ho,hlv, -⟩:=h.lv.ord
 have hall: ∀x,x∈all↔x∈f:=fun x=>by rw [<-h.mem x,hlv];exact (pe all x).symm
 obtain ⟨q1,q2⟩:=ho.closed;have hs:=h.small.cells _ hm;have hN:=h.big;refine ⟨by omega,h.right _ hm,hs.1,hs.2,fun x hx=> ?_,fun x hx=> ?_,h.mem⟩
 ·exact (hall x).1 (q1 a ((hall a).2 ha) x hx (h.addr _ hm x (TT _ hx)))
 have e:dK N (bw m a) live=dK N (bw m a) all:=by
  unfold dK;rw [Gs (q:=fun x=>decide (x∈all)) fun x=>ic (by rw [h.mem x];exact (hall x).symm)]
 rw [e] at hx;refine (hall x).1 (q2 a ((hall a).2 ha) x hx ?_);unfold dK at hx
 cases hw:qx N (bw m a) with
 |false=>rw [hw] at hx;cases hx
 |true=>
  rw [hw] at hx;obtain ⟨v,hv,hb,rfl⟩:=xx hx;exact h.addr _ hm _ (Cr (TU _ hv) hb)
theorem CollCtx.root {x:Int}(hx:x∈bN roots):x∈f:=by
 obtain ⟨b,all,ho,hlv, -⟩:=h.lv.ord;rw [<-h.mem x,hlv,pe];exact ho.sub (ho.roots hx (h.roots x hx))
theorem CollCtx.rootIn:i5 f roots:=fun v hv hb=>h.root (lw.2 ⟨v,hv,hb,rfl⟩)
end
def gZ (N:Nat)(m:TM)(live f:List Int):TM:=⟨[],f.map fun a=>kS (qX f) f (lC N live (bw m a))⟩
def Sf (N:Nat)(m:TM)(live f:List Int)(a:Int):TB:=kS (qX f) f (lC N live (bw m a))
theorem Gw {N:Nat}{m:TM}{live f:List Int}{a:Int}(ha:a∈f):aJ (gZ N m live f) (qX f a)=true:=by
 unfold qX;rw [pq];exact TP (by unfold gZ;simp only [Ud];exact tG ha)
theorem Nj {N:Nat}{m:TM}{live f:List Int}{a:Int}(ha:a∈f):bw (gZ N m live f) (qX f a)=kS (qX f) f (lC N live (bw m a)):=by
 have e:qX f a=2*((f.idxOf a:Nat):Int)+2:=rfl;rw [e,oh _ _ (by unfold gZ;simp only [Ud];exact tG ha)];unfold gZ;simp only [List.getElem_map];rw [pM ha]
theorem EE {f:List Int}{v:Ty}(hf:f.length<=100000)(hv:in64 v.N):in64 (cW (qX f) f v).N:=by
 unfold cW
 cases hb:bm v&&decide (v.N∈f) with
 |false=>exact hv
 |true=>
  rw [Uf,decide_eq_true_eq] at hb;have:=tG hb.2;show in64 (qX f v.N);unfold qX in64;omega
theorem Ja {N:Nat}{lv:List Int}{c:TB}{v:Ty}(hv:v∈(lC N lv c).Uo++(lC N lv c).Um):v∈c.Uo++c.Um\/v=lE:=by
 unfold lC at hv
 cases h8:decide (c.Ui=8) with
 |true=>rw [h8] at hv;exact .inl (H8 hv)
 | false=>
  rw [h8] at hv
  cases h10:decide (c.Ui=10) with
  |false=>rw [h10] at hv;exact .inl hv
  |true=>
   rw [h10] at hv;have hv':v∈c.Uo++(c.Um.take 1++eE lv (c.Um.drop 1)):=hv;rcases List.mem_append.1 hv' with hv'|hv'
   ·exact .inl (TT _ hv')
   rcases List.mem_append.1 hv' with hv'|hv'
   ·exact .inl (TU _ (List.mem_of_mem_take hv'))
   rcases Dq lv hv' with hv'|hv'
   ·exact .inl (TU _ (List.mem_of_mem_drop hv'))
   exact .inr hv'
section
variable {N:Nat} {m:TM} {roots:List Ty} {live f:List Int} (h:CollCtx N m roots live f)
include h
theorem CollCtx.flen:f.length<=1200:=by rw [h.lv.len];exact h.lv.small
theorem CollCtx.flen6:f.length<=600:=by
 have h1:=pR (fun _=>1) h.lv.nd fun a ha=>uk (h.lv.fhas ha)
 have h2: ∀l:List Int,bW (fun _=>1) l=l.length:=fun l=>by
  induction l with
  |nil=>rfl
  |cons x l ih=>rw [bW,ih,List.length_cons];omega
 rw [h2,h2] at h1;have h3:=h.tot.cnt;unfold Bq at h1;simp only [Ub,Ud,List.length_range] at h1;omega
theorem CollCtx.nextW:W64 (gZ N m live f):=fun c hc v hv=>by
 have hl:=h.flen
 have hc':c∈f.map fun a=>kS (qX f) f (lC N live (bw m a)):=hc
 obtain ⟨a,ha,rfl⟩:=List.mem_map.1 hc'
 have hv':v∈((lC N live (bw m a)).Uo++(lC N live (bw m a)).Um).map (cW (qX f) f):=by rw [List.map_append];exact hv
 obtain ⟨w,hw,rfl⟩:=List.mem_map.1 hv';refine EE V ?_;rcases Ja hw with hw|rfl
 ·exact h.w64.at_ a w hw
 show in64 0;unfold in64;omega
theorem CollCtx.nextS (l:List Ty)(hl:l.length<=600):Small (gZ N m live f) l:=by
 refine ⟨Nat.zero_le _,?_,hl,fun c hc=> ?_⟩
 ·unfold gZ;simp only [Ud];exact h.flen6
 have hc':c∈f.map fun a=>kS (qX f) f (lC N live (bw m a)):=hc
 obtain ⟨a,ha,rfl⟩:=List.mem_map.1 hc';obtain ⟨-,g2,g3, -⟩:=(CellOk.new (Iv f) (h.cell ha));exact ⟨g2,g3⟩
end
theorem zF {F:Nat->Ty->Bool}{x:Int}(hB: ∀i v,F i v=true->bm v=true): ∀{i:Nat} {l:List Ty},x∈pick F i l-> ∃v∈l,bm v=true/\v.N=x
 |_,[],h=>by cases h
 | i,v::l,h=>by
  rw [oc] at h;rcases List.mem_append.1 h with h|h
  ·cases hf:F i v with
   |false=>rw [hf] at h;cases h
   |true=>rw [hf] at h;exact ⟨v,by simp,hB i v hf,(List.mem_singleton.1 h).symm⟩
  obtain ⟨w,g1,g2⟩:=zF hB h;exact ⟨w,by simp [g1],g2⟩
theorem ut {c:TB}{x:Int}(h:x∈bZ c): ∃v∈c.Uo++c.Um,bm v=true/\v.N=x:=by
 unfold bZ co lF at h;rcases List.mem_append.1 h with h|h
 ·rcases List.mem_append.1 h with h|h
  ·obtain ⟨v,g1,g2⟩:=zF (fun _ _ h=>h) h;exact ⟨v,TT _ g1,g2⟩
  obtain ⟨v,g1,g2⟩:=zF (fun i v h=>((Uf _ _).mp h).2) h;exact ⟨v,TU _ g1,g2⟩
 obtain ⟨v,g1,g2⟩:=zF (fun i v h=>((Uf _ _).mp h).2) h;exact ⟨v,TU _ g1,g2⟩
section
variable {N:Nat} {m:TM} {roots:List Ty} {live f:List Int} (h:CollCtx N m roots live f)
include h
theorem CollCtx.now64: ∀v∈roots.map (cW (qX f) f),in64 v.N:=fun v hv=>by
 have hl:=h.flen;obtain ⟨w,hw,rfl⟩:=List.mem_map.1 hv;exact EE V (h.r64 w hw)
theorem CollCtx.newHas {l:List Ty}(hl:i5 f l){v:Ty}(hv:v∈l.map (cW (qX f) f))(hb:bm v=true):aJ (gZ N m live f) v.N=true:=by
 have _:=h;obtain ⟨w,hw,rfl⟩:=List.mem_map.1 hv;rw [Ck] at hb;have:=hl w hw hb;rw [AV hb this];exact Gw this
theorem CollCtx.nextAddr {c:TB}(hc:c∈f.map fun a=>kS (qX f) f (lC N live (bw m a))):bx c=true/\ ∀x∈bZ c,aJ (gZ N m live f) x=true:=by
 obtain ⟨a,ha,rfl⟩:=List.mem_map.1 hc;refine ⟨(CellOk.new (Iv f) (h.cell ha)).1,fun x hx=> ?_⟩;obtain ⟨v,hv,hb,rfl⟩:=ut hx;obtain ⟨i1,i2⟩:=(h.cell ha).inC;rcases List.mem_append.1 hv with hv|hv
 ·exact h.newHas i1 hv hb
 exact h.newHas i2 hv hb
end
end
section
open Go.RowKit
def ca (n:Nat):List Int:=(List.range n).map fun i:Nat=>2*(i:Int)+2
theorem Kg (n:Nat):(ca n).Pairwise (· < ·):=by
 unfold ca;rw [List.pairwise_map]
 exact List.pairwise_lt_range.imp fun h=>by omega
theorem EO {n i:Nat}(h:i<(ca n).length):(ca n)[i]=2*(i:Int)+2:=by simp [ca]
def rW (g:Gr)(live:List Int):List Int->List Int->List Int
 |row,[]=>row
 |row,a::avs=>rW g live (dB g.has row (g.opens live a)) avs
inductive MOrd (g:Gr) (olds kept:List Int):List Int->List Int->Prop
 |done {row:List Int}:rW g (olds++row) row (kept++row)=row->MOrd g olds kept row row
 |step {row r1 r:List Int}:rW g (olds++row) row (kept++row)≠row->Thr g (rW g (olds++row) row (kept++row)) row.length r1->MOrd g olds kept r1 r->MOrd g olds kept row r
structure IsMinor (g:Gr) (olds kept start b l:List Int):Prop where
 strong:Thr g (dB g.has [] start) 0 b
 all:MOrd g olds kept b l
theorem uh (g:Gr)(live:List Int): ∀(row avs:List Int), ∃t,rW g live row avs=row++t
 |row,[]=>⟨[],by simp [rW]⟩
 |row,a::avs=>by
  obtain ⟨t,h1, -⟩:=iL g.has row (g.opens live a);obtain ⟨t2,h2⟩:=uh g live (dB g.has row (g.opens live a)) avs;exact ⟨t++t2,by unfold rW;rw [h2,h1,TS]⟩
theorem Et (g:Gr)(live:List Int): ∀(row avs bs:List Int),rW g live row (avs++bs)=rW g live (rW g live row avs) bs
 |_,[],_=>rfl
 |row,a::avs,bs=>by
  show rW g live _ (avs++bs)=_;rw [Et g live _ avs bs];rfl
theorem Eu {g:Gr}{live:List Int}: ∀{row avs:List Int},rW g live row avs=row-> ∀a∈avs, ∀x∈g.opens live a,g.has x=true->x∈row
 | row,b::avs,h,a,ha,x,hx,hh=>by
  have h1:dB g.has row (g.opens live b)=row:=by
   obtain ⟨t,e1, -⟩:=iL g.has row (g.opens live b);obtain ⟨t2,e2⟩:=uh g live (dB g.has row (g.opens live b)) avs
   have h3:row++t++t2=row:=by rw [<-e1, <-e2];exact h
   have h4:=congrArg List.length h3;simp only [Ub] at h4;have h5:t=[]:=List.eq_nil_of_length_eq_zero V;rw [e1,h5,List.append_nil]
  rcases List.mem_cons.1 ha with e|ha
  ·subst e;have:=um row _ hx hh;rwa [h1] at this
  refine Eu (avs:=avs) ?_ a ha x hx hh;unfold rW at h;rw [h1] at h;exact h
theorem MOrd.app {g:Gr}{olds kept row r:List Int}(h:MOrd g olds kept row r): ∃t,r=row++t:=by
 induction h with
 |done _=>exact ⟨[],by simp⟩
 |step _ h1 _ ih=>
  rename_i row r1 _ _ _
  obtain ⟨t,rfl⟩:=ih;obtain ⟨t1,rfl⟩:=h1.app;obtain ⟨t2,h2⟩:=uh g (olds++row) row (kept++row);exact ⟨t2++t1++t,by rw [h2];simp [TS]⟩
theorem MOrd.closed {g:Gr}{olds kept row r:List Int}(h:MOrd g olds kept row r)(hc:CloG g row row.length):CloG g r r.length/\ ∀a∈kept++r, ∀x∈g.opens (olds++r) a,g.has x=true->x∈r:=by
 induction h with
 |done hp=>exact ⟨hc,Eu hp⟩
 |step _ h1 _ ih=>
  rename_i row _ _ _ _
  obtain ⟨t,e⟩:=uh g (olds++row) row (kept++row);refine ih (h1.clo (by rw [e,Ub];omega) ?_);rw [e];exact hc.app (Nat.le_refl _)
theorem IsMinor.start {g:Gr}{olds kept start b l:List Int}(h:IsMinor g olds kept start b l){x:Int}(hx:x∈start)(hh:g.has x=true):x∈l:=by
 obtain ⟨t,e⟩:=h.strong.app;obtain ⟨t2,e2⟩:=h.all.app;rw [e2,e];exact TT _ (TT _ (um _ _ hx hh))
theorem IsMinor.closed {g:Gr}{olds kept start b l:List Int}(h:IsMinor g olds kept start b l):(∀a∈l, ∀x∈g.leads a,g.has x=true->x∈l)/\ ∀a∈kept++l, ∀x∈g.opens (olds++l) a,g.has x=true->x∈l:=by
 obtain ⟨h1,h2⟩:=h.all.closed (h.strong.clo (Nat.zero_le _) fun i _ _ hi=>absurd hi V);refine ⟨fun a ha x hx hh=> ?_,h2⟩;obtain ⟨i,hi,e⟩:=List.getElem_of_mem ha;exact h1 i a x hi (by rw [List.getElem?_eq_getElem hi,e]) hx hh
def yB (a:Int):Bool:=decide (0<a)&&decide (a.tmod 2=1)
def J9 (N:Nat)(m:TM):Gr:=⟨yB,fun a=>co (bw m a),fun live a=>dK N (bw m a) live⟩
theorem ru (N:Nat)(a:Int):fU N a=some (yB a):=by
 unfold fU yB;cases decide (0<a)<;>cases decide (a.tmod 2=1)<;>rfl
theorem Hl (k:Nat):yB (2*(k:Int)+1)=true:=by
 unfold yB;rw [qE V,TP V,TP V];rfl
theorem Ch (k:Nat):yB (2*(k:Int)+2)=false:=by
 unfold yB;rw [qE V,TQ (p:=(2*(k:Int)+2)%2=1) V,Bool.and_false]
structure Mt (m:TM) (met:List Int) (seen:List (Int×Bool)):Prop where
 nd:met.Nodup
 yng: ∀x∈met,yB x=true
 has: ∀x∈met,aJ m x=true
 mem: ∀x,(lk seen x).getD false=decide (x∈met)
theorem Mt.len {m:TM}{roots:List Ty}(hs:Small m roots){met:List Int}{seen:List (Int×Bool)}(h:Mt m met seen):met.length<=1200:=zL 1200 h.nd fun x hx=>⟨by have:=qb (h.has x hx);omega,by have:=xF hs (h.has x hx);omega⟩
theorem Mt.nil (m:TM):Mt m [] []:=⟨List.nodup_nil,by simp,by simp,fun x=>by simp;rfl⟩
theorem EG (N:Nat){m:TM}{roots:List Ty}(hs:Small m roots)(kp:List Int){met:List Int}{seen:List (Int×Bool)}(nx:Int)(h:Mt m met seen)(a:Int)(ha:yB a=true->aJ m a=true): ∃seen',cg N ⟨m,kp,met,seen,nx⟩ a=some ⟨m,kp,dB yB met [a],seen',nx⟩/\Mt m (dB yB met [a]) seen':=by
 have hlen:=h.len hs;unfold cg;rw [ru,bs]
 dsimp only
 rw [h.mem a];have hl:dB yB met [a]=bif yB a&& !decide (a∈met) then met++ [a] else met:=rfl;rw [hl]
 cases hy:yB a with
 |false=>exact ⟨seen,rfl,h⟩
 | true=>
  by_cases hm:a∈met
  ·rw [TP hm];exact ⟨seen,J,h⟩
  rw [TQ hm];refine ⟨yy seen a true,?_,?_⟩
  ·simp only [ct,bs,nf];rw [rF (by simp;omega)];rfl
  refine ⟨List.nodup_append.2 ⟨h.nd,by simp,fun x hx y hy e=>by rw [List.mem_singleton] at hy;subst hy;subst e;exact hm hx⟩,fun x hx=> ?_,fun x hx=> ?_,fun x=> ?_⟩
  ·rcases List.mem_append.1 hx with hx|hx
   ·exact h.yng x hx
   rw [List.mem_singleton] at hx;subst hx;exact hy
  ·rcases List.mem_append.1 hx with hx|hx
   ·exact h.has x hx
   rw [List.mem_singleton] at hx;subst hx;exact ha hy
  rw [GD];show _=decide (x∈met++ [a]);by_cases e:a=x
  ·rw [if_pos e,TP (by simp [e])];rfl
  rw [if_neg e,h.mem x];exact ic ⟨fun hx=>TT _ hx,fun hx=>(List.mem_append.1 hx).elim id fun hx=>absurd (List.mem_singleton.1 hx).symm e⟩
theorem AX {ρ:Type}(N:Nat){m:TM}{roots:List Ty}(hs:Small m roots)(l:List Int)(hl:l.length<N)(a1:l.length<=5000)(hh: ∀x∈l,yB x=true->aJ m x=true)(L:Nat->Int->List TB->List TB->List Int->List Int->List (Int×Bool)->Int->Option ρ)(K:List TB->List TB->List Int->List Int->List (Int×Bool)->Int->Option ρ)
  (hrec: ∀k i hE O kp met seen nx,L (k+1) i hE O kp met seen nx=bif decide (i<(l.length:Int)) then ((aw l i).bind fun x=>(cg N (⟨(⟨hE,O⟩:TM),kp,met,seen,nx⟩:Tv) x).bind fun y=>be (in64 (i+1)) (L k (i+1) y.m_.Uj y.m_.Ul y.Vb y.UM y.Va y.UB)) else K hE O kp met seen nx)
  (kp:List Int) {met:List Int} {seen:List (Int×Bool)} (nx:Int) (h:Mt m met seen) (R:ρ->Prop) (hk: ∀seen',Mt m (dB yB met l) seen'->Sat (K m.Uj m.Ul kp (dB yB met l) seen' nx) R):Sat (L N 0 m.Uj m.Ul kp met seen nx) R:=by
 refine cN (fun k i (s:List Int×List (Int×Bool))=>L k (i:Int) m.Uj m.Ul kp s.1 s.2 nx) l.length (fun i s=>Mt m s.1 s.2/\s.1=dB yB met (l.take i)) R ?_ ?_ N 0 (met,seen) V V ⟨h,J⟩
 ·rintro k i ⟨mt,sn⟩ hi ⟨h1,h2⟩ go;simp only at h1 h2;show Sat (L (k+1) (i:Int) m.Uj m.Ul kp mt sn nx) R;obtain ⟨sn',e1,e2⟩:=EG N hs kp nx h1 l[i] (hh _ (Uh _));have e1':cg N ⟨⟨m.Uj,m.Ul⟩,kp,mt,sn,nx⟩ l[i]=some ⟨m,kp,dB yB mt [l[i]],sn',nx⟩:=e1;rw [hrec,cu V,ct,aL hi,bs,e1',bs,r64 V V];exact go (dB yB mt [l[i]],sn') ⟨e2,by show dB yB mt [l[i]]=_;rw [aW hi,sa, <-h2]⟩
 rintro k ⟨mt,sn⟩ ⟨h1,h2⟩;simp only [Ue] at h1 h2;show Sat (L (k+1) _ m.Uj m.Ul kp mt sn nx) R;rw [hrec,cn V,cf];subst h2;exact hk sn h1
theorem r8 (N:Nat){m:TM}{roots:List Ty}(hs:Small m roots)(kp met:List Int)(seen:List (Int×Bool))(nx:Int){a:Int}(ha:aJ m a=true):bI N ⟨m,kp,met,seen,nx⟩ a=some (bw m a):=by
 have hy:=hs.young;have ho:=hs.old;unfold bI;rw [ru,bs];rcases fM ha with ⟨i,hi,rfl⟩|⟨i,hi,rfl⟩
 ·rw [Hl,ct,yf V,show (2*(i:Int)+1) / 2=i by omega,r64 V V,qQ m i hi,aL hi,bs]
 rw [Ch,cf,yf V,show (2*(i:Int)+2) / 2=(i:Int)+1 by omega,r64 V V,r64 V V,show (i:Int)+1 - 1=i by omega,oh m i hi,aL hi,bs]
def Whole (m:TM):Prop:= ∀a,aJ m a=true-> ∀x∈bZ (bw m a),aJ m x=true
theorem Whole.leads {m:TM}(h:Whole m){a:Int}(ha:aJ m a=true): ∀x∈co (bw m a),aJ m x=true:=fun x hx=>h a ha x (TT _ hx)
theorem Whole.opens {m:TM}(h:Whole m){N:Nat}{live:List Int}{a:Int}(ha:aJ m a=true): ∀x∈dK N (bw m a) live,aJ m x=true:=fun x hx=>by
 unfold dK at hx
 cases hw:qx N (bw m a) with
 |false=>rw [hw] at hx;cases hx
 |true=>
  rw [hw] at hx;obtain ⟨v,hv,hb,rfl⟩:=xx hx;exact h a ha _ (Cr (TU _ hv) hb)
theorem yq (N:Nat)(hN:6500<N){m:TM}{roots:List Ty}(hs:Small m roots)(hw:Whole m)(kp:List Int){met:List Int}{seen:List (Int×Bool)}(h:Mt m met seen)(k:Nat)(hk:k<=met.length):
  Sat (eV N ⟨m,kp,met,seen,(k:Int)⟩) fun r=> ∃seen',r=⟨m,kp,r.UM,seen',(r.UM.length:Int)⟩/\Mt m r.UM seen'/\Thr (J9 N m) met k r.UM:=by
 unfold eV;refine oT (fun f (s:List Int×List (Int×Bool)×Nat)=>bO N f m.Uj m.Ul kp s.1 s.2.1 (s.2.2:Int)) (fun s=>1300 - s.2.2) (fun s=>Mt m s.1 s.2.1/\s.2.2<=s.1.length/\ ∀r,Thr (J9 N m) s.1 s.2.2 r->Thr (J9 N m) met k r) _ ?_ N (met,seen,k) (by show 1300 - k<N;omega) ⟨h,hk,fun _ h=>h⟩;rintro f ⟨mt,sn,j⟩ ⟨h1,h3,h4⟩ go;show Sat (bO N (f+1) m.Uj m.Ul kp mt sn (j:Int)) _;simp only at h1 h3 h4;have hlen:=h1.len hs;rw [bO.eq_2];by_cases hj:j<mt.length
 ·have hh:=h1.has _ (Uh hj);have hsm:=hs.at_ mt[j];have e1:bI N ⟨⟨m.Uj,m.Ul⟩,kp,mt,sn,(j:Int)⟩ mt[j]=some (bw m mt[j]):=r8 N hs kp mt sn (j:Int) hh;have hll:=kU (bw m mt[j]);rw [cu V,ct,aL hj,bs,e1,bs,nT N V _ V V,bs]
  refine AX N hs (co (bw m mt[j])) V V (fun x hx _=>hw.leads hh x hx) (fV N (bO N f) (co (bw m mt[j]))) (fW N (bO N f)) (fun _ _ _ _ _ _ _ _=>by rw [fV.eq_2]) kp (j:Int) h1 _ fun sn' h5=> ?_
  unfold fW;rw [r64 V V]
  have hge:mt.length<=(dB yB mt (co (bw m mt[j]))).length:=by
   obtain ⟨t,e, -⟩:=iL yB mt (co (bw m mt[j]));rw [e,Ub];omega
  exact go (dB yB mt (co (bw m mt[j])),sn',j+1) (by show 1300 - (j+1)<1300 - j;omega) ⟨h5,by show j+1<=(dB yB mt (co (bw m mt[j]))).length;omega,fun r hr=>h4 r (.step (List.getElem?_eq_getElem hj) hr)⟩
 have:j=mt.length:=by omega
 subst this;rw [cn V,cf];exact ax ⟨sn,J,h1,h4 _ (.done (Nat.le_refl _))⟩
theorem Dg (N:Nat)(hN:6500<N){m:TM}{roots:List Ty}(hs:Small m roots)(kp:List Int){met:List Int}{seen:List (Int×Bool)}(nx:Int)(h:Mt m met seen):ft N ⟨m,kp,met,seen,nx⟩=some (ca m.Ul.length++met):=by
 apply Sat.eq;have ho:=hs.old;have hlen:=h.len hs;unfold ft;refine cN (fun k i (s:List Int)=>eD N ⟨m,kp,met,seen,nx⟩ k s (i:Int)) m.Ul.length (fun i s=>s=ca i) _ ?_ ?_ N 0 [] V V J
 ·rintro k i s hi rfl go;show Sat (eD N ⟨m,kp,met,seen,nx⟩ (k+1) (ca i) (i:Int)) _
  have hev:(ca i).length=i:=by unfold ca;simp
  rw [eD.eq_2,cu (by show (i:Int)<(m.Ul.length:Int);omega),ct,r64 V V,r64 V V,rF (by simp;omega),r64 V V];refine go _ ?_;unfold ca;rw [List.range_succ,List.map_append];rfl
 rintro k s rfl;show Sat (eD N ⟨m,kp,met,seen,nx⟩ (k+1) _ _) _
 have hev:(ca m.Ul.length).length=m.Ul.length:=by unfold ca;simp
 rw [eD.eq_2,cn (by show (m.Ul.length:Int)<=(m.Ul.length:Int);omega),cf];unfold mq
 dsimp only
 rw [rF V];exact ax J
theorem BN (N:Nat)(a b:List Int)(ha:a.length<=100000)(hb:b.length<=100000):kZ N a b=some (a++b):=by
 unfold kZ pf qo mF ox;rw [r64 V V,cn (a:=0+(a.length:Int)) V,cf,r64 V V,cn (a:=0+(a.length:Int)+(b.length:Int)) V,cf,r64 V V,r64 V V,cf];by_cases h:0<a.length+b.length
 ·rw [cu V,ct,dE ⟨by omega,by omega⟩,bs,rF (by simp;omega),rF (by simp;omega)];rfl
 rw [cn V,cf,bs,rF (by simp;omega),rF (by simp;omega)];rfl
theorem HR (N:Nat)(hN:6500<N){m:TM}{roots:List Ty}(hs:Small m roots)(hw:Whole m)(kp:List Int)(hk: ∀x∈kp,aJ m x=true)(hkl:kp.length<=1200){met:List Int}{seen:List (Int×Bool)}(nx:Int)(h:Mt m met seen):
  Sat (ia N ⟨m,kp,met,seen,nx⟩) fun r=> ∃seen',r=(decide ((met.length:Int)<(r.2.UM.length:Int)),⟨m,kp,r.2.UM,seen',nx⟩)/\Mt m r.2.UM seen'/\r.2.UM=rW (J9 N m) (ca m.Ul.length++met) met (kp++met):=by
 have hlen:=h.len hs;have ho:=hs.old
 have hev:(ca m.Ul.length).length=m.Ul.length:=by unfold ca;simp
 unfold ia;rw [Dg N hN hs kp nx h,bs]
 dsimp only
 rw [BN N kp met V V,bs]
 have hL:(ca m.Ul.length++met).length<=5000:=by rw [Ub];omega
 have hC:(kp++met).length<=2400:=by rw [Ub];omega
 generalize hlv:ca m.Ul.length++met=live at*
 have hcm: ∀x∈kp++met,aJ m x=true:=fun x hx=>(List.mem_append.1 hx).elim (hk x) (h.has x)
 generalize hcc:kp++met=cs at*;refine cN (fun k i (s:List Int×List (Int×Bool))=>bP N ⟨m,kp,met,seen,nx⟩ cs live k (i:Int) m.Uj m.Ul kp s.1 s.2 nx) cs.length (fun i s=>Mt m s.1 s.2/\s.1=rW (J9 N m) live met (cs.take i)) _ ?_ ?_ N 0 (met,seen) V V ⟨h,J⟩
 ·rintro k i ⟨mt,sn⟩ hi ⟨h1,h2⟩ go;simp only at h1 h2;show Sat (bP N ⟨m,kp,met,seen,nx⟩ cs live (k+1) (i:Int) m.Uj m.Ul kp mt sn nx) _;have hh:=hcm _ (Uh hi);have hsm:=hs.at_ cs[i];have e1:bI N ⟨⟨m.Uj,m.Ul⟩,kp,mt,sn,nx⟩ cs[i]=some (bw m cs[i]):=r8 N hs kp mt sn nx hh;have hol:=C8 N (bw m cs[i]) live;rw [bP.eq_2,cu V,ct,aL hi,bs,e1,bs,C7 N hN live V _ V V,bs]
  refine AX N hs (dK N (bw m cs[i]) live) V V (fun x hx _=>hw.opens hh x hx) (iT N (bP N ⟨m,kp,met,seen,nx⟩ cs live k) ⟨m,kp,met,seen,nx⟩ cs (i:Int) (dK N (bw m cs[i]) live) live) (iU N (bP N ⟨m,kp,met,seen,nx⟩ cs live k) ⟨m,kp,met,seen,nx⟩ cs (i:Int) live) (fun _ _ _ _ _ _ _ _=>by rw [iT.eq_2]) kp nx h1 _ fun sn' h5=> ?_
  unfold iU;rw [r64 V V];refine go (dB yB mt (dK N (bw m cs[i]) live),sn') ⟨h5,?_⟩;show dB yB mt (dK N (bw m cs[i]) live)=_;rw [aW hi,Et, <-h2];rfl
 rintro k ⟨mt,sn⟩ ⟨h1,h2⟩;simp only [Ue] at h1 h2;show Sat (bP N ⟨m,kp,met,seen,nx⟩ cs live (k+1) _ m.Uj m.Ul kp mt sn nx) _;rw [bP.eq_2,cn V,cf];unfold ml;exact ax ⟨sn,J,h1,h2⟩
def CD (m:TM)(roots:List Ty)(kept:List Int):List Int:=bN roots++kept.flatMap fun a=>co (bw m a)
theorem Dk (N:Nat)(v:Ty):ld N v=some (v.N,bm v):=by
 unfold ld;rw [sb,bs]
theorem JT (N:Nat)(hN:6500<N){m:TM}{roots:List Ty}(hs:Small m roots)(hw:Whole m)(hr: ∀x∈bN roots,aJ m x=true)(kept:List Int)(hk: ∀x∈kept,aJ m x=true)(hkl:kept.length<=1200):
  Sat (og N m roots kept) fun r=> ∃seen nx b,r=⟨m,kept,r.UM,seen,nx⟩/\Mt m r.UM seen/\IsMinor (J9 N m) (ca m.Ul.length) kept (CD m roots kept) b r.UM:=by
 have hrl:=hs.roots
 -- the passes
 have passes: ∀(b:List Int) (seen:List (Int×Bool)),Mt m b seen->Thr (J9 N m) (dB yB [] (CD m roots kept)) 0 b->Sat (kk N N m.Uj m.Ul kept b seen (b.length:Int)) fun r=> ∃seen nx b,r=⟨m,kept,r.UM,seen,nx⟩/\Mt m r.UM seen/\IsMinor (J9 N m) (ca m.Ul.length) kept (CD m roots kept) b r.UM:=by
  intro b seen h hb;have h0:=h.len hs;refine oT (fun f (s:List Int×List (Int×Bool))=>kk N f m.Uj m.Ul kept s.1 s.2 (s.1.length:Int)) (fun s=>1300 - s.1.length) (fun s=>Mt m s.1 s.2/\ ∀r,MOrd (J9 N m) (ca m.Ul.length) kept s.1 r->MOrd (J9 N m) (ca m.Ul.length) kept b r) _ ?_ N (b,seen) (by show 1300 - b.length<N;omega) ⟨h,fun _ h=>h⟩;rintro f ⟨mt,sn⟩ ⟨h1,h2⟩ go;simp only at h1 h2;show Sat (kk N (f+1) m.Uj m.Ul kept mt sn (mt.length:Int)) _;have hlen:=h1.len hs;obtain ⟨⟨p,x⟩,e0,sn',e1,h3,h4⟩:=HR N hN hs hw kept hk hkl (mt.length:Int) h1;simp only at e1 h3 h4;obtain ⟨e1,e2⟩:=Prod.mk.inj e1;obtain ⟨t,ht⟩:=uh (J9 N m) (ca m.Ul.length++mt) mt (kept++mt);have hlen3:=h3.len hs;have e0':ia N ⟨⟨m.Uj,m.Ul⟩,kept,mt,sn,(mt.length:Int)⟩=some (p,x):=e0;rw [kk.eq_2,e0',bs]
  dsimp only
  rw [e1];generalize hm':x.UM=mt' at*;subst e2
  refine dO (fun hlt=> ?_) fun hge=> ?_
  ·refine Sat.bind (yq N hN hs hw kept h3 mt.length (by rw [h4,ht,Ub];omega)) ?_;rintro r ⟨sn3,e3,h5,h6⟩;have hlen5:=h5.len hs;rw [e3]
   dsimp only
   refine go (r.UM,sn3) ?_ ⟨h5,fun r' hr'=>h2 r' (.step ?_ (by rw [<-h4];exact h6) hr')⟩
   ·obtain ⟨t3,e4⟩:=h6.app;show 1300 - r.UM.length<1300 - mt.length
    have:mt'.length<=r.UM.length:=by rw [e4,Ub];omega
    omega
   rw [<-h4];intro e;rw [e] at hlt;omega
  have e:mt'=mt:=by
   rw [ht] at h4;have h0:t=[]:=List.eq_nil_of_length_eq_zero (by rw [h4,Ub] at hge;omega);rw [h4,h0,List.append_nil]
  subst e;unfold tC;exact ax ⟨sn',(mt'.length:Int),b,J,h3,⟨hb,h2 _ (.done h4.symm)⟩⟩
 -- the kept cells
 have keptL: ∀(row:List Int) (seen:List (Int×Bool)),Mt m row seen->row=dB yB [] (bN roots)->Sat (eo N kept N 0 m.Uj m.Ul kept row seen 0) fun r=> ∃seen nx b,r=⟨m,kept,r.UM,seen,nx⟩/\Mt m r.UM seen/\IsMinor (J9 N m) (ca m.Ul.length) kept (CD m roots kept) b r.UM:=by
  intro row seen h hrow;refine cN (fun k i (s:List Int×List (Int×Bool))=>eo N kept k (i:Int) m.Uj m.Ul kept s.1 s.2 0) kept.length (fun i s=>Mt m s.1 s.2/\s.1=dB yB [] (bN roots++(kept.take i).flatMap fun a=>co (bw m a))) _ ?_ ?_ N 0 (row,seen) V V ⟨h,by simpa using hrow⟩
  ·rintro k i ⟨mt,sn⟩ hi ⟨h1,h2⟩ go;simp only at h1 h2;show Sat (eo N kept (k+1) (i:Int) m.Uj m.Ul kept mt sn 0) _;have hh:=hk _ (Uh hi);have hsm:=hs.at_ kept[i];have e1:bI N ⟨⟨m.Uj,m.Ul⟩,kept,mt,sn,0⟩ kept[i]=some (bw m kept[i]):=r8 N hs kept mt sn 0 hh;have hll:=kU (bw m kept[i]);rw [eo.eq_2,cu V,ct,aL hi,bs,e1,bs,nT N V _ V V,bs]
   refine AX N hs (co (bw m kept[i])) V V (fun x hx _=>hw.leads hh x hx) (pJ N (eo N kept k) kept (i:Int) (co (bw m kept[i]))) (pK N (eo N kept k) kept (i:Int)) (fun _ _ _ _ _ _ _ _=>by rw [pJ.eq_2]) kept 0 h1 _ fun sn' h5=> ?_
   unfold pK;rw [r64 V V];refine go (dB yB mt (co (bw m kept[i])),sn') ⟨h5,?_⟩;show dB yB mt (co (bw m kept[i]))=_;rw [aW hi,List.flatMap_append, <-TS,sa, <-h2];simp
  rintro k ⟨mt,sn⟩ ⟨h1,h2⟩;simp only [Ue] at h1 h2;show Sat (eo N kept (k+1) _ m.Uj m.Ul kept mt sn 0) _;rw [eo.eq_2,cn V,cf];unfold tD;refine Sat.bind (yq N hN hs hw kept h1 0 (Nat.zero_le _)) ?_;rintro r ⟨sn3,e3,h5,h6⟩;rw [e3]
  dsimp only
  exact passes r.UM sn3 h5 (by rw [h2] at h6;exact h6)
 -- the roots
 unfold og;refine cN (fun k i (s:List Int×List (Int×Bool))=>iv N roots kept k (i:Int) m.Uj m.Ul kept s.1 s.2 0) roots.length (fun i s=>Mt m s.1 s.2/\s.1=dB yB [] (bN (roots.take i))) _ ?_ ?_ N 0 ([],[]) V V ⟨Mt.nil m,J⟩
 ·rintro k i ⟨mt,sn⟩ hi ⟨h1,h2⟩ go;simp only at h1 h2;show Sat (iv N roots kept (k+1) (i:Int) m.Uj m.Ul kept mt sn 0) _
  have hnext:dB yB [] (bN (roots.take (i+1)))=dB yB mt (bN [roots[i]]):=by
   rw [aW hi,xQ,sa, <-h2]
  rw [iv.eq_2,cu V,ct,aL hi,bs,Dk,bs]
  dsimp only
  unfold pL;cases hb:bm roots[i]
  ·rw [cf,r64 V V];refine go (mt,sn) ⟨h1,?_⟩;show mt=_;rw [hnext];simp [bN,hb,dB]
  rw [ct];have hroot:aJ m roots[i].N=true:=hr _ (lw.2 ⟨_,Uh _,hb,rfl⟩)
  obtain ⟨sn',e1,e2⟩:=EG N hs kept 0 h1 roots[i].N fun _=>hroot
  have e1':cg N ⟨⟨m.Uj,m.Ul⟩,kept,mt,sn,0⟩ roots[i].N=_:=e1;rw [e1',bs]
  dsimp only
  rw [r64 V V];refine go (dB yB mt [roots[i].N],sn') ⟨e2,?_⟩;show dB yB mt [roots[i].N]=_;rw [hnext];simp [bN,hb]
 rintro k ⟨mt,sn⟩ ⟨h1,h2⟩;simp only [Ue] at h1 h2;show Sat (iv N roots kept (k+1) _ m.Uj m.Ul kept mt sn 0) _;rw [iv.eq_2,cn V,cf];unfold uQ;exact keptL mt sn h1 h2
def tb (m:TM)(kept:List Int):Bool:=(List.range m.Ul.length).all fun i=> !(bZ (bw m (2*(i:Int)+2))).any yB||decide ((2*(i:Int)+2)∈kept)
def sc (m:TM)(kept:List Int):Bool:=kept.all (fun a=> !yB a&&aJ m a)&&decide (kept.Pairwise (· < ·))
def AH (N:Nat)(m:TM):Bool:=(m.Uj++m.Ul).all (Ae N m)
def Di (N:Nat)(m:TM)(roots:List Ty)(kept:List Int):Bool:=dn m (bN roots)&&AH N m&&sc m kept&&tb m kept
theorem BH (N:Nat)(hN:2000<N)(c:TB)(hS:c.Uo.length<=600)(hM:c.Um.length<=600):ju N c=some (bZ c):=by
 have h1:=kU c;have h2:=nZ c;unfold ju;rw [nT N hN c V V,bs,sL N hN c V V,bs,rF V];rfl
theorem AA (N:Nat)(f:Int->Option Bool)(p:Int->Bool)(l:List Int)(hl:l.length<N)(a1:l.length<=5000)(hf: ∀x∈l,f x=some (p x)):bF N l f=some (l.any p):=by
 have key: ∀k i:Nat,l.length<k+i->i<=l.length->Sat (dG N f l k (i:Int)) fun r=>decide (0<=r)=(l.drop i).any p:=by
  intro k
  induction k with
  |zero=>intro i h1 h2;omega
  | succ k ih=>
   intro i h1 h2;rw [dG.eq_2];by_cases hi:i<l.length
   ·have h3:=ih (i+1) V hi;rw [show (((i+1:Nat)):Int)=(i:Int)+1 by omega] at h3;rw [cu V,ct,aL hi,bs,List.drop_eq_getElem_cons hi,List.any_cons,hf _ (Uh _),bs,r64 V V];cases p l[i]
    ·exact h3
    exact ax (by rw [TP V];rfl)
   rw [cn V,cf,List.drop_eq_nil_of_le V];exact ax J
 obtain ⟨r,h1,h2⟩:=key N 0 V V;have h1':dG N f l N 0=some r:=h1;unfold bF kE;rw [h1',bs,h2];rfl
theorem Jf (N:Nat)(f:Ty->Option Bool)(p:Ty->Bool)(l:List Ty)(hl:l.length<N)(a1:l.length<=5000)(hf: ∀x∈l,f x=some (p x)):cz N l f=some (l.any p):=by
 have key: ∀k i:Nat,l.length<k+i->i<=l.length->Sat (dD N f l k (i:Int)) fun r=>decide (0<=r)=(l.drop i).any p:=by
  intro k
  induction k with
  |zero=>intro i h1 h2;omega
  | succ k ih=>
   intro i h1 h2;rw [dD.eq_2];by_cases hi:i<l.length
   ·have h3:=ih (i+1) V hi;rw [show (((i+1:Nat)):Int)=(i:Int)+1 by omega] at h3;rw [cu V,ct,aL hi,bs,List.drop_eq_getElem_cons hi,List.any_cons,hf _ (Uh _),bs,r64 V V];cases p l[i]
    ·exact h3
    exact ax (by rw [TP V];rfl)
   rw [cn V,cf,List.drop_eq_nil_of_le V];exact ax J
 obtain ⟨r,h1,h2⟩:=key N 0 V V;have h1':dD N f l N 0=some r:=h1;unfold cz jC;rw [h1',bs,h2];rfl
theorem Cq {α:Type}(p:α->Bool): ∀l:List α,l.any (fun x=> !p x)=!l.all p
 | []=>rfl
 |x::l=>by rw [List.any_cons,List.all_cons,Cq p l];cases p x<;>rfl
theorem Aq (N:Nat)(a b:List TB)(ha:a.length<=100000)(hb:b.length<=100000):ga N a b=some (a++b):=by
 unfold ga ly ma iQ kH;rw [r64 V V,cn (a:=0+(a.length:Int)) V,cf,r64 V V,cn (a:=0+(a.length:Int)+(b.length:Int)) V,cf,r64 V V,r64 V V,cf];by_cases h:0<a.length+b.length
 ·rw [cu V,ct,dE ⟨by omega,by omega⟩,bs,rF (by simp;omega),rF (by simp;omega)];rfl
 rw [cn V,cf,bs,rF (by simp;omega),rF (by simp;omega)];rfl
theorem Hu (N:Nat)(hN:6500<N){m:TM}{roots:List Ty}(hs:Small m roots)(hw:W64 m):pH N m=some (AH N m):=by
 have h1:=hs.young;have h2:=hs.old;unfold pH AH;rw [Aq N _ _ V V,bs]
 have hl:(m.Uj++m.Ul).length<=1200:=by rw [Ub];omega
 refine GC (fun k i=>oJ N (m.Uj++m.Ul) m k i) (m.Uj++m.Ul) _ (fun k i h=> ?_) (fun k=> ?_) N V
 ·have hm:(m.Uj++m.Ul)[i]∈m.Uj++m.Ul:=Uh _;have hc:=hs.cells _ hm;obtain ⟨⟨a1,a2⟩,a3,a4⟩:=AC hs hw hm;rw [oJ.eq_2,cu V,ct,aL h,bs];generalize (m.Uj++m.Ul)[i]=c at*;obtain ⟨b,hb, -⟩:=AN N V c V V
  rw [wj N V _ V V,hb,bs,BH N V c hc.1 hc.2,bs,AA N _ (fun x=> !aJ m x) (bZ c) (by unfold bZ;rw [Ub];omega) (by unfold bZ;rw [Ub];omega) (fun x hx=>by
   unfold pn
   rw [uo N m x ((List.mem_append.1 hx).elim (a2 x) (a4 x)),bs]),Cq]
  unfold Ae;rw [hb,r64 V V]
  have e:(bZ c).all (aJ m)=(dn m (co c)&&dn m (lF c)):=by unfold bZ dn;rw [List.all_append]
  rw [e];cases b<;>cases dn m (co c)&&dn m (lF c)<;>rfl
 rw [oJ.eq_2,cn V,cf];rfl
theorem KU (l:List Int):decide (l.Pairwise (· < ·))=(List.range l.length).all fun i=>decide (i=0)||decide (l.getD (i - 1) 0<l.getD i 0):=by
 rw [Bool.eq_iff_iff,decide_eq_true_eq,List.all_eq_true];constructor
 ·intro h i hi;rw [List.mem_range] at hi;by_cases h0:i=0
  ·rw [TP h0];rfl
  have:=List.pairwise_iff_getElem.1 h (i - 1) i V hi V;rw [TP (p:=l.getD (i - 1) 0<l.getD i 0) (by simpa [List.getD,hi,show i - 1<l.length by omega] using this),Bool.or_true]
 intro h
 refine List.pairwise_iff_getElem.2 fun i j hi hj hij=> ?_
 have step: ∀k,i+k+1<l.length->l[i]'hi<l.getD (i+k+1) 0:=by
  intro k
  induction k with
  |zero=>
   intro hk;have:=h (i+1) (List.mem_range.2 hk);rw [TQ (p:=i+1=0) V,Bool.false_or,decide_eq_true_eq,Nat.add_sub_cancel] at this;simpa [List.getD,hi] using this
  |succ k ih=>
   intro hk;have h1:=ih V;have:=h (i+k+1+1) (List.mem_range.2 V);rw [TQ (p:=i+k+1+1=0) V,Bool.false_or,decide_eq_true_eq,Nat.add_sub_cancel] at this;show l[i]'hi<l.getD (i+k+1+1) 0;omega
 have:=step (j - i - 1) V;rw [show i+(j - i - 1)+1=j by omega] at this;simpa [List.getD,hj] using this
theorem EH (N:Nat)(hN:6500<N){m:TM}{roots:List Ty}(hs:Small m roots)(hw:W64 m)(hr: ∀v∈roots,in64 v.N)(kept:List Int)(hk:kept.length<=5000)(a6: ∀x∈kept,in64 x):pZ N m roots kept=some (Di N m roots kept):=by
 have h3:=hs.roots;have ho:=hs.old
 -- the old cells
 have olds:lq N kept m=some (tb m kept):=by
  unfold lq tb;have hlr:(List.range m.Ul.length).length=m.Ul.length:=List.length_range;refine GC (fun k i=>pI N m kept k i) (List.range m.Ul.length) _ (fun k i h=> ?_) (fun k=> ?_) N V
  ·rw [hlr] at h;have hm:m.Ul[i]∈m.Uj++m.Ul:=TU _ (Uh _);have hc:=hs.cells _ hm;obtain ⟨⟨a1,a2⟩,a3,a4⟩:=AC hs hw hm;rw [pI.eq_2,cu V,ct,aL h,bs,BH N V _ hc.1 hc.2,bs,AA N _ yB (bZ m.Ul[i]) (by unfold bZ;rw [Ub];omega) (by unfold bZ;rw [Ub];omega) (fun x _=>ru N x),bs,r64 (a:=2*(i:Int)) V V,r64 (a:=2*(i:Int)+2) V V,pN N hN kept hk,bs,r64 V V,List.getElem_range,oh m i h];cases (bZ m.Ul[i]).any yB<;>cases decide ((2*(i:Int)+2)∈kept)<;>rfl
  rw [hlr,pI.eq_2,cn V,cf];rfl
 -- the kept addresses
 have hkept:nu N kept m N 0=bif sc m kept then lq N kept m else some false:=by
  have hlr:(List.range kept.length).length=kept.length:=List.length_range;have:=xB (fun k i=>nu N kept m k i) (List.range kept.length) (fun i=>(!yB (kept.getD i 0)&&aJ m (kept.getD i 0))&&(decide (i=0)||decide (kept.getD (i - 1) 0<kept.getD i 0))) (some false) (lq N kept m) (fun k i h=> ?_) (fun k=> ?_) N V
  ·rw [this]
   have e:((List.range kept.length).all fun i=>(!yB (kept.getD i 0)&&aJ m (kept.getD i 0))&&(decide (i=0)||decide (kept.getD (i - 1) 0<kept.getD i 0)))=sc m kept:=by
    unfold sc;rw [KU]
    have e2:kept.all (fun a=> !yB a&&aJ m a)=(List.range kept.length).all fun i=> !yB (kept.getD i 0)&&aJ m (kept.getD i 0):=by
     rw [Bool.eq_iff_iff,List.all_eq_true,List.all_eq_true];constructor
     ·intro h i hi;rw [List.mem_range] at hi
      have:kept.getD i 0=kept[i]:=by simp [List.getD,hi]
      rw [this];exact h _ (Uh _)
     intro h x hx;obtain ⟨i,hi,rfl⟩:=List.getElem_of_mem hx;have:=h i (List.mem_range.2 hi)
     rwa [show kept.getD i 0=kept[i] by simp [List.getD,hi]] at this
    rw [e2]
    induction List.range kept.length with
    |nil=>rfl
    |cons a l ih=>rw [List.all_cons,List.all_cons,List.all_cons,ih];cases (!yB (kept.getD a 0)&&aJ m (kept.getD a 0))<;>cases (decide (a=0)||decide (kept.getD (a - 1) 0<kept.getD a 0))<;>simp
   rw [e]
  ·rw [hlr] at h
   have hg:kept.getD i 0=kept[i]:=by simp [List.getD,h]
   rw [nu.eq_2,cu V,ct,aL h,bs,ru,bs,uo N m _ (a6 _ (Uh _)),r64 (a:=(i:Int)+1) V V,List.getElem_range,hg];by_cases h0:i=0
   ·subst h0;rw [cn (a:=0) (b:=((0:Nat):Int)) V];cases yB kept[0]<;>cases aJ m kept[0]<;>rfl
   have hp:aw kept ((i:Int) - 1)=some (kept.getD (i - 1) 0):=by
    have:=aL (xs:=kept) (i:=i - 1) V;rw [show (((i - 1:Nat)):Int)=(i:Int) - 1 by omega] at this;rw [this];simp [List.getD,show i - 1<kept.length by omega]
   rw [cu (a:=0) (b:=(i:Int)) V,ct,r64 (a:=(i:Int) - 1) V V,hp,TQ h0];simp only [bs];by_cases hlt:kept.getD (i - 1) 0<kept[i]
   ·rw [Lv hlt,TP hlt];cases yB kept[i]<;>cases aJ m kept[i]<;>rfl
   rw [Lu V,TQ hlt];cases yB kept[i]<;>cases aJ m kept[i]<;>rfl
  rw [hlr,nu.eq_2,cn V,cf]
 have hroots:cz N roots (fun x=>oL N x m)=some (!dn m (bN roots)):=by
  rw [Jf N _ (fun v=> !(!bm v||aJ m v.N)) roots V V (fun v hv=>by
   unfold oL;rw [Dk,bs]
   dsimp only
   rw [uo N m _ (hr v hv),bs]
   cases bm v<;>cases aJ m v.N<;>rfl),Cq]
  unfold dn bN;rw [all_map,DV]
 unfold pZ Di;rw [hroots,bs,Hu N hN hs hw,bs,hkept,olds];cases dn m (bN roots)<;>cases AH N m<;>cases sc m kept<;>rfl
def Rg (c:TB):TB:=⟨c.Ui,c.Uw,c.Uv,c.Ux,c.Uo.take 20,c.Um.take 40⟩
def Qe (l:List TB):List TB:=(l.take 40).map Rg
def Sy (m:TM):TM:=⟨Qe m.Uj,Qe m.Ul⟩
structure Few20 (m:TM) (roots:List Ty):Prop where
 young:m.Uj.length<=40
 old:m.Ul.length<=40
 roots:roots.length<=40
 cells: ∀c∈m.Uj++m.Ul,c.Uo.length<=20/\c.Um.length<=40
def DD (N:Nat)(m:TM)(roots:List Ty):Bool:=dn m (bN roots)&&AH N m
def mV (m:TM)(i:Nat):Bool:=(bZ (bw m (2*(i:Int)+2))).any yB
def ko (m:TM):List Int:=((List.range m.Ul.length).filter (mV m)).map fun i:Nat=>2*(i:Int)+2
theorem rq {m:TM}{x:Int}:x∈ko m↔ ∃i:Nat,i<m.Ul.length/\mV m i=true/\x=2*(i:Int)+2:=by
 unfold ko;simp only [List.mem_map,List.mem_filter,List.mem_range];constructor
 ·rintro ⟨i,⟨h1,h2⟩,rfl⟩;exact ⟨i,h1,h2,J⟩
 rintro ⟨i,h1,h2,rfl⟩;exact ⟨i,⟨h1,h2⟩,J⟩
theorem J0 {m:TM}{x:Int}(h:x∈ko m):aJ m x=true/\yB x=false:=by
 obtain ⟨i,h1, -,rfl⟩:=rq.1 h;exact ⟨by rw [pq];exact TP h1,Ch i⟩
theorem GH (m:TM):sc m (ko m)=true:=by
 unfold sc;rw [Uf,decide_eq_true_eq,List.all_eq_true];refine ⟨fun x hx=> ?_,?_⟩
 ·obtain ⟨h1,h2⟩:=J0 hx;rw [h1,h2];rfl
 unfold ko;refine List.Pairwise.map _ (fun a b (h:a<b)=> ?_) ((List.pairwise_lt_range).filter _);omega
theorem IF (m:TM):tb m (ko m)=true:=by
 unfold tb;rw [List.all_eq_true];intro i hi;rw [List.mem_range] at hi;cases h:(bZ (bw m (2*(i:Int)+2))).any yB
 ·rfl
 have:(2*(i:Int)+2)∈ko m:=rq.2 ⟨i,hi,h,rfl⟩;rw [TP this];rfl
theorem JS (N:Nat)(m:TM)(roots:List Ty):Di N m roots (ko m)=DD N m roots:=by
 unfold Di DD;rw [GH,IF,Bool.and_true,Bool.and_true]
theorem gC {n:Nat}{x:Int}:x∈ca n↔ ∃i:Nat,i<n/\x=2*(i:Int)+2:=by
 unfold ca;simp only [List.mem_map,List.mem_range];constructor
 ·rintro ⟨i,h,rfl⟩;exact ⟨i,h,J⟩
 rintro ⟨i,h,rfl⟩;exact ⟨i,h,J⟩
def Q9 (n:Nat):List Ty:=(List.range n).map fun i:Nat=>(⟨9,2*(i:Int)+2,⟨#[]⟩⟩:Ty)
theorem GM {m:TM}{a:Int}(h:aJ m a=true)(hy:yB a=false): ∃i:Nat,i<m.Ul.length/\a=2*(i:Int)+2:=by
 rcases fM h with ⟨i,hi,rfl⟩|h
 ·rw [Hl] at hy;cases hy
 exact h
theorem HJ {N:Nat}{c:TB}{l:List Int}{x:Int}(h:x∈dK N c l):x∈bZ c:=by
 unfold dK at h
 cases hw:qx N c with
 |false=>rw [hw] at h;cases h
 |true=>
  rw [hw] at h;obtain ⟨v,hv,hb,rfl⟩:=xx h;exact Cr (TU _ hv) hb
theorem Ad {N:Nat}{m:TM}{roots:List Ty}(h:DD N m roots=true):Whole m/\(∀x∈bN roots,aJ m x=true)/\ ∀c∈m.Uj++m.Ul,Ae N m c=true:=by
 unfold DD at h;rw [Uf] at h
 have h2: ∀c∈m.Uj++m.Ul,Ae N m c=true:=fun c hc=>rj h.2 hc
 refine ⟨fun a ha x hx=> ?_,fun x hx=>rj h.1 hx,h2⟩
 have h3:=h2 (bw m a) (by
  unfold aJ at ha;unfold bw
  cases hc:i3 m a with
  |none=>rw [hc] at ha;cases ha
  |some c=>exact sD hc)
 unfold Ae at h3;rw [Uf,Uf] at h3;rcases List.mem_append.1 hx with hx|hx
 ·exact rj h3.2.1 hx
 exact rj h3.2.2 hx
def zo (met to:List Int)(a:Int):Int:=if a∈met then to.getD (met.idxOf a) 0 else a
theorem Io {α:Type}{g:α->α}{l:List α}{i:Nat}(h:i<l.length):aw ((l.take i).map g++l.drop i) (i:Int)=some l[i]:=by
 have h1:i<((l.take i).map g++l.drop i).length:=by simp;omega
 rw [aL h1]
 congr 1
 rw [List.getElem_append_right (by simp;omega)];simp [Nat.min_eq_left (Nat.le_of_lt h)]
theorem Im {α:Type}{g:α->α}{l:List α}{i:Nat}(h:i<l.length):((l.take i).map g++l.drop i).set i (g l[i])=(l.take (i+1)).map g++l.drop (i+1):=by
 rw [aW h,List.drop_eq_getElem_cons h,List.map_append];rw [List.set_append,if_neg (by simp;omega)];simp [Nat.min_eq_left (Nat.le_of_lt h)];rw [List.drop_eq_getElem_cons h];rfl
theorem zj {α:Type}{g:α->α}{l:List α}{i:Nat}(h:i<l.length)(he:g l[i]=l[i]):(l.take i).map g++l.drop i=(l.take (i+1)).map g++l.drop (i+1):=by
 rw [aW h,List.drop_eq_getElem_cons h,List.map_append];simp [he]
def PC (kv:List (Int×Int))(met to:List Int)(i:Nat):Prop:= ∀x,lk kv x=if x∈met.take i then some (zo met to x) else none
theorem AU {l:List Int}(hn:l.Nodup){i:Nat}(h:i<l.length):l.idxOf l[i]=i:=by
 have hm:l[i]∈l:=Uh _;rcases Nat.lt_trichotomy (l.idxOf l[i]) i with h2|h2|h2
 ·exact absurd (pM hm) (List.pairwise_iff_getElem.1 (List.nodup_iff_pairwise_ne.1 hn) _ _ (tG hm) h h2)
 ·exact h2
 exact absurd (pM hm).symm (List.pairwise_iff_getElem.1 (List.nodup_iff_pairwise_ne.1 hn) _ _ h (tG hm) h2)
theorem Dd {l:List Int}(hn:l.Nodup){i:Nat}(h:i<l.length):l[i]∉l.take i:=fun hm=>by
 obtain ⟨j,hj,e⟩:=List.getElem_of_mem hm;rw [Uc] at hj;rw [List.getElem_take] at e;exact absurd e (List.pairwise_iff_getElem.1 (List.nodup_iff_pairwise_ne.1 hn) _ _ V h V)
theorem BO (N:Nat)(hN:6500<N)(c:TB)(hS:c.Uo.length<=4000)(hM:c.Um.length<=4000)(met to:List Int)(hn:met.Nodup)(hl:to.length=met.length)(hml:met.length<=1200):fZ N c met to=some (kS (zo met to) met c):=by
 apply Sat.eq
 have mv: ∀(kv:List (Int×Int)),PC kv met to met.length-> ∀v:Ty,(lk kv v.N).isSome=decide (v.N∈met)/\(v.N∈met->bm v=true->(⟨v.Ui,(lk kv v.N).getD 0,v.S⟩:Ty)=cW (zo met to) met v):=fun kv hk v=>by
  rw [hk v.N,Ue];by_cases h:v.N∈met
  ·rw [if_pos h,TP h];refine ⟨J,fun _ hb=> ?_⟩;rw [AV hb h];rfl
  rw [if_neg h,TQ h];exact ⟨J,fun h2=>absurd h2 h⟩
 have keep: ∀v:Ty,(v.N∉met\/bm v=false)->cW (zo met to) met v=v:=fun v h=>by
  unfold cW;rcases h with h|h
  ·rw [TQ h,Bool.and_false];rfl
  rw [h];rfl
 have copy:eG N c=some c:=by
  unfold eG cI;rw [rF (by simp only [List.length_nil];omega),rF (by simp only [List.length_nil];omega)];rfl
 have body: ∀kv:List (Int×Int),PC kv met to met.length->Sat (pO N c kv) fun r=>r=kS (zo met to) met c:=by
  intro kv hk;unfold pO;rw [copy,bs];refine cN (fun k i (s:List Ty)=>gv N c kv k s (i:Int)) c.Uo.length (fun i s=>s=(c.Uo.take i).map (cW (zo met to) met)++c.Uo.drop i) _ ?_ ?_ N 0 c.Uo V V (by simp)
  ·rintro k i s hi rfl go;show Sat (gv N c kv (k+1) _ (i:Int)) _;obtain ⟨e1,e2⟩:=mv kv hk c.Uo[i];rw [gv.eq_2,cu V,ct,Io hi,bs,e1,qA];simp only [bs];unfold o4;rw [r64 V V,r64 V V];by_cases hm:c.Uo[i].N∈met
   ·rw [TP hm,ct,bs];cases hb:bm c.Uo[i]
    ·rw [cf];exact go _ (zj hi (keep _ (.inr hb)))
    rw [ct,e2 hm hb,Int.toNat_natCast];exact go _ (Im hi)
   rw [TQ hm,cf,bs,cf];exact go _ (zj hi (keep _ (.inl hm)))
  rintro k s rfl;show Sat (gv N c kv (k+1) _ _) _;rw [gv.eq_2,cn V,cf,Ue,List.drop_length,List.append_nil];unfold sB;refine cN (fun k i (s:List Ty)=>gu N c kv _ k s (i:Int)) c.Um.length (fun i s=>s=(c.Um.take i).map (cW (zo met to) met)++c.Um.drop i) _ ?_ ?_ N 0 c.Um V V (by simp)
  ·rintro k i s hi rfl go;show Sat (gu N c kv _ (k+1) _ (i:Int)) _;obtain ⟨e1,e2⟩:=mv kv hk c.Um[i];rw [gu.eq_2,cu V,ct,Io hi,bs,e1,qA];simp only [bs];unfold o3;rw [r64 V V,r64 V V];by_cases hm:c.Um[i].N∈met
   ·rw [TP hm,ct,bs];cases hb:bm c.Um[i]
    ·rw [cf];exact go _ (zj hi (keep _ (.inr hb)))
    rw [ct,e2 hm hb,Int.toNat_natCast];exact go _ (Im hi)
   rw [TQ hm,cf,bs,cf];exact go _ (zj hi (keep _ (.inl hm)))
  rintro k s rfl;show Sat (gu N c kv _ (k+1) _ _) _;rw [gu.eq_2,cn V,cf,Ue,List.drop_length,List.append_nil];unfold sx sC;exact ax J
 unfold fZ;refine cN (fun k i (s:List (Int×Int))=>fb N met to c k s (i:Int)) met.length (fun i s=>PC s met to i) _ ?_ ?_ N 0 [] V V (fun x=>J)
 ·rintro k i s hi h1 go;show Sat (fb N met to c (k+1) _ (i:Int)) _
  have hno:lk s met[i]=none:=by rw [h1,if_neg (Dd hn hi)]
  have hto:i<to.length:=by omega
  rw [fb.eq_2,cu V,ct,aL hi,bs,hno,Option.isSome_none,cf,cu V,ct,aL hto,bs];unfold mC;rw [r64 V V]
  refine go _ fun x=> ?_
  rw [GD,GD,h1 x,aW hi];by_cases e:met[i]=x
  ·subst e;rw [if_pos rfl,if_pos (TU _ (List.mem_singleton.2 rfl))];unfold zo;rw [if_pos (Uh _),AU hn hi];simp [List.getD,hto]
  rw [if_neg e,if_neg e];by_cases hx:x∈met.take i
  ·rw [if_pos hx,if_pos (TT _ hx)]
  rw [if_neg hx,if_neg fun h2=>(List.mem_append.1 h2).elim hx fun h2=>e (List.mem_singleton.1 h2).symm]
 rintro k s h1;show Sat (fb N met to c (k+1) _ _) _;rw [fb.eq_2,cn V,cf];exact body s h1
theorem BF (N:Nat)(hN:6500<N)(l:List Ty)(a1:l.length<=4000)(met to:List Int)(hn:met.Nodup)(hl:to.length=met.length)(hml:met.length<=1200):jF N l met to=some (l.map (cW (zo met to) met)):=by
 unfold jF;rw [BO N hN _ (by simp) a1 met to hn hl hml,bs];rfl
def fQ (m:TM)(a:Int):Bool:=decide ((bw m a).Ux=0)
def rV (p:Int->Bool):List Int->Nat->Nat->List Int
 | [],_,_=> []
 |a::l,s,o=>bif p a then (2*(s:Int)+1)::rV p l (s+1) o else (2*(o:Int)+2)::rV p l s (o+1)
theorem Eo (p:Int->Bool)(a:Int)(l:List Int)(s o:Nat):rV p (a::l) s o=bif p a then (2*(s:Int)+1)::rV p l (s+1) o else (2*(o:Int)+2)::rV p l s (o+1):=rfl
theorem zz (p:Int->Bool): ∀(l:List Int) (s o:Nat),(rV p l s o).length=l.length
 | [],_,_=>rfl
 |a::l,s,o=>by unfold rV;cases p a<;>simp [zz p l]
theorem zA (p:Int->Bool): ∀(l l':List Int) (s o:Nat),rV p (l++l') s o=rV p l s o++rV p l' (s+(l.filter p).length) (o+(l.filter fun a=> !p a).length)
 | [],_,_,_=>by simp [rV]
 | a::l,l',s,o=>by
  rw [List.cons_append,Eo,Eo];cases h:p a
  ·simp only [cond_false];rw [zA p l l'];simp only [List.filter_cons,h,Bool.not_false,if_true,Bool.false_eq_true,if_false,List.length_cons,List.cons_append];rw [Nat.add_right_comm o 1];rfl
  simp only [cond_true];rw [zA p l l'];simp only [List.filter_cons,h,Bool.not_true,if_true,Bool.false_eq_true,if_false,List.length_cons,List.cons_append];rw [Nat.add_right_comm s 1];rfl
theorem C3 (p:Int->Bool){l:List Int}{i:Nat}(h:i<l.length)(s o:Nat):(rV p l s o).getD i 0=bif p l[i] then 2*((s+((l.take i).filter p).length:Nat):Int)+1 else 2*((o+((l.take i).filter fun a=> !p a).length:Nat):Int)+2:=by
 have e:l=l.take i++(l[i]::l.drop (i+1)):=by rw [<-List.drop_eq_getElem_cons h,List.take_append_drop]
 have e2:rV p l s o=rV p (l.take i) s o++rV p (l[i]::l.drop (i+1)) (s+((l.take i).filter p).length) (o+((l.take i).filter fun a=> !p a).length):=by
  rw [<-zA, <-e]
 rw [e2]
 have hl:(rV p (l.take i) s o).length=i:=by rw [zz,Uc];omega
 unfold List.getD;rw [List.getElem?_append_right V,hl,Nat.sub_self];unfold rV;cases p l[i]<;>rfl
theorem Fw (N:Nat)(hN:6500<N){m:TM}{roots:List Ty}(hs:Small m roots)(kp:List Int){met:List Int}{seen:List (Int×Bool)}(nx:Int)(h:Mt m met seen):fF N ⟨m,kp,met,seen,nx⟩=some (rV (fQ m) met 0 m.Ul.length):=by
 have hml:=h.len hs;have ho:=hs.old;apply Sat.eq;unfold fF;refine cN (fun k i (s:List Int×Nat×Nat)=>cq N ⟨m,kp,met,seen,nx⟩ k s.1 (s.2.1:Int) (s.2.2:Int) (i:Int)) met.length (fun i s=>s.1=rV (fQ m) (met.take i) 0 m.Ul.length/\s.2.1=((met.take i).filter (fQ m)).length/\s.2.2=m.Ul.length+((met.take i).filter fun a=> !fQ m a).length) _ ?_ ?_ N 0 ([],0,m.Ul.length) (by show met.length<N+0;omega) V ⟨J,J,J⟩
 ·rintro k i ⟨s,a,b⟩ hi ⟨h1,h2,h3⟩ go;simp only at h1 h2 h3;have l1:((met.take i).filter (fQ m)).length<=i:=Nat.le_trans (List.length_filter_le _ _) (by rw [Uc];omega);have l2:((met.take i).filter fun a=> !fQ m a).length<=i:=Nat.le_trans (List.length_filter_le _ _) (by rw [Uc];omega)
  have hsl:s.length=i:=by rw [h1,zz,Uc];omega
  show Sat (cq N ⟨m,kp,met,seen,nx⟩ (k+1) s (a:Int) (b:Int) (i:Int)) _
  have hnext:rV (fQ m) (met.take (i+1)) 0 m.Ul.length=s++ [bif fQ m met[i] then 2*(a:Int)+1 else 2*(b:Int)+2]:=by
   rw [aW hi,zA, <-h1,Nat.zero_add, <-h2, <-h3];unfold rV;cases fQ m met[i]<;>rfl
  have a1:((met.take (i+1)).filter (fQ m)).length=a+(bif fQ m met[i] then 1 else 0):=by
   rw [aW hi,List.filter_append,Ub, <-h2];cases hb:fQ m met[i]<;>simp [hb]
  have a2:((met.take (i+1)).filter fun a=> !fQ m a).length+m.Ul.length=b+(bif fQ m met[i] then 0 else 1):=by
   rw [aW hi,List.filter_append,Ub,h3];cases hb:fQ m met[i]<;>simp [hb]<;>omega
  have hcell:=r8 N hs kp met seen nx (h.has _ (Uh hi));rw [cq.eq_2]
  dsimp only
  rw [cu V,ct,aL hi,bs,hcell,bs];unfold gy;have e:decide ((bw m met[i]).Ux=0)=fQ m met[i]:=rfl;rw [e,r64 V V,r64 V V,rF (by simp;omega),r64 V V,r64 V V,r64 V V,r64 V V,rF (by simp;omega),r64 V V,r64 V V];cases hb:fQ m met[i]
  ·rw [hb] at hnext a1 a2;rw [cf];exact go (s++ [2*(b:Int)+2],a,b+1) ⟨hnext.symm,a1.symm,by show b+1=_;simp only [cond_false] at a2;omega⟩
  rw [hb] at hnext a1 a2;rw [ct];exact go (s++ [2*(a:Int)+1],a+1,b) ⟨hnext.symm,a1.symm,by show b=_;simp only [cond_true] at a2;omega⟩
 rintro k ⟨s,a,b⟩ ⟨h1,h2,h3⟩;simp only [Ue] at h1 h2 h3;show Sat (cq N ⟨m,kp,met,seen,nx⟩ (k+1) s (a:Int) (b:Int) _) _;rw [cq.eq_2]
 dsimp only
 rw [cn V,cf];exact ax h1
theorem DS {lv:List Int}: ∀{l:List Ty},qO l=true->i5 lv l->iN (fun x=>decide (x∈lv)) l=l
 | [],_,_=>rfl
 | [_],h,_=>by cases h
 |k::v::r,h,ha=>by
  rw [nW] at h;simp only [Uf,decide_eq_true_eq] at h;have hk:k.N∈lv:=ha k (by simp) (by unfold bm;rw [h.1.1];rfl);rw [xb,TP hk,cond_true,DS h.2 fun w hw=>ha w (by simp [hw])];rfl
theorem GG {lv:List Int}(cb:Ty): ∀{l:List Ty},mW l=true->i5 lv l->eE lv l=l/\mT lv cb l=[]
 | [],_,_=>⟨rfl,rfl⟩
 | [_],h,_=>by cases h
 | [_,_],h,_=>by cases h
 | [_,_,_],h,_=>by cases h
 | t::a::k::s::r,h,ha=>by
  rw [nV] at h;simp only [Uf,decide_eq_true_eq] at h;obtain ⟨⟨⟨h1, -⟩,h3,h4⟩,h5⟩:=h
  obtain ⟨i1,i2⟩:=GG cb h5 fun w hw=>ha w (by simp [hw])
  have ht:t.N∈lv:=ha t (by simp) (by unfold bm;rw [h1];rfl)
  have hk:(decide (k.Ui=7)&& !decide (k.N∈lv))=false:=by
   by_cases a1:k.Ui=7
   ·rw [TP (ha k (by simp) (by unfold bm;rw [a1];rfl)),Bool.not_true,Bool.and_false]
   rw [TQ a1,Bool.false_and]
  rw [uU,Hq,i1,i2,TP ht,hk];exact ⟨J,J⟩
theorem CellOk.id {N:Nat}{lv f:List Int}{c:TB}(h:CellOk N lv f c)(ha: ∀x∈bZ c,x∈lv):lC N lv c=c/\iI lv c=[]:=by
 have hin:i5 lv c.Um:=fun v hv hb=>ha _ (Cr (TU _ hv) hb)
 by_cases h8:c.Ui=8
 ·rw [h.clC8 h8,DS (h.ent2 h8) hin];exact ⟨J,by unfold iI;rw [TQ V];rfl⟩
 by_cases h10:c.Ui=10
 ·obtain ⟨-, -,h4⟩:=h.ent4 h10
  obtain ⟨i1,i2⟩:=GG (lv:=lv) (c.Um.headD lE) h4 fun v hv=>hin v (List.mem_of_mem_drop hv)
  rw [CellOk.clC10 h10,i1,List.take_append_drop];refine ⟨J,?_⟩;unfold iI xc;rw [TP h10];exact i2
 exact ⟨CellOk.clC0 h8 h10,by unfold iI;rw [TQ h10];rfl⟩
theorem BG (N:Nat)(hN:6500<N){lv f:List Int}{c:TB}(h:CellOk N lv f c)(hl:lv.length<=5000)(gone:List Ty)(hg:gone.length<=10000):jG N c lv gone=some (lC N lv c,gone++iI lv c):=by
 have hlen:=(ri N lv c).2;have hm:=h.more;unfold jG;by_cases h8:c.Ui=8
 ·rw [TP h8,ct,DQ N hN lv hl c h.slots h.more,h.wm,bs];unfold lC iI;rw [TP h8,TQ (p:=c.Ui=10) V,cond_true,cond_true,cond_false,List.append_nil]
 rw [TQ h8,cf];by_cases h10:c.Ui=10
 ·have e1:lC N lv c=(xc lv c).1:=by unfold lC;rw [TQ h8,TP h10];rfl
  have e2:iI lv c=(xc lv c).2:=by unfold iI;rw [TP h10];rfl
  rw [TP h10,ct,yu N hN lv hl c h.slots h.more,h.fr,TP h10,cond_true,bs, <-e1, <-e2,rF V]
 rw [TQ h10,cf,CellOk.clC0 h8 h10];unfold iI;rw [TQ h10,cond_false,List.append_nil]
structure MinCtx (N:Nat) (m:TM) (roots:List Ty) (kept met:List Int):Prop where
 big:6500<N
 small:Small m roots
 w64:W64 m
 r64: ∀v∈roots,in64 v.N
 tot:bW (fun a=>(bw m a).Um.length) (Bq m)<=3600
 klen:kept.length<=1200
 may:Di N m roots kept=true
 prog: ∃seen nx,og N m roots kept=some ⟨m,kept,met,seen,nx⟩/\Mt m met seen
 isM: ∃b,IsMinor (J9 N m) (ca m.Ul.length) kept (CD m roots kept) b met
theorem AY {N:Nat}{m:TM}{roots:List Ty}{kept:List Int}(h:Di N m roots kept=true):DD N m roots=true/\sc m kept=true/\tb m kept=true:=by
 unfold Di at h;unfold DD;simp only [Uf] at h⊢;exact ⟨h.1.1,h.1.2,h.2⟩
theorem Dr {m:TM}{kept:List Int}(h:sc m kept=true){a:Int}(ha:a∈kept):aJ m a=true/\yB a=false:=by
 unfold sc at h;rw [Uf] at h;have:=rj h.1 ha;rw [Uf] at this;exact ⟨this.2,by cases hy:yB a;rfl;rw [hy] at this;cases this.1⟩
theorem Nm {N:Nat}(hN:6500<N){m:TM}{roots:List Ty}(hs:Small m roots)(hw:W64 m)(hr: ∀v∈roots,in64 v.N)(ht:bW (fun a=>(bw m a).Um.length) (Bq m)<=3600){kept:List Int}(hk:kept.length<=1200)(hm:Di N m roots kept=true): ∃met,MinCtx N m roots kept met:=by
 obtain ⟨h1,h2, -⟩:=AY hm;obtain ⟨g1,g2, -⟩:=Ad h1;obtain ⟨r,e,seen,nx,b,e2,h3,h4⟩:=JT N hN hs g1 g2 kept (fun x hx=>(Dr h2 hx).1) hk;exact ⟨r.UM,hN,hs,hw,hr,ht,hk,hm,⟨seen,nx,by rw [e, <-e2],h3⟩,⟨b,h4⟩⟩
def iM (m:TM)(met:List Int):List Int:=ca m.Ul.length++met
def D2 (m:TM)(met:List Int):List Int:=rV (fQ m) met 0 m.Ul.length
def iX (m:TM)(met:List Int):Int->Int:=zo met (D2 m met)
def nC (N:Nat)(m:TM)(met:List Int)(a:Int):TB:=kS (iX m met) met (lC N (iM m met) (bw m a))
def nY (N:Nat)(m:TM)(met:List Int)(a:Int):TB:=⟨(nC N m met a).Ui,(nC N m met a).Uw,(nC N m met a).Uv,1,(nC N m met a).Uo,(nC N m met a).Um⟩
def nS (N:Nat)(m:TM)(met:List Int):TM:=⟨(met.filter (fQ m)).map (nY N m met),(ca m.Ul.length).map (nC N m met)++(met.filter fun a=> !fQ m a).map (nY N m met)⟩
def wN (m:TM)(met:List Int):List Ty:=(iM m met).flatMap fun a=>iI (iM m met) (bw m a)
section
variable {N:Nat} {m:TM} {roots:List Ty} {kept met:List Int} (h:MinCtx N m roots kept met)
include h
theorem MinCtx.whole:Whole m:=(Ad (AY h.may).1).1
theorem MinCtx.rootsH: ∀x∈bN roots,aJ m x=true:=(Ad (AY h.may).1).2.1
theorem MinCtx.mt:met.Nodup/\(∀x∈met,yB x=true)/\ ∀x∈met,aJ m x=true:=by
 obtain ⟨_,_, -,h2⟩:=h.prog;exact ⟨h2.nd,h2.yng,h2.has⟩
theorem MinCtx.mlen:met.length<=1200:=by
 obtain ⟨_,_, -,h2⟩:=h.prog;exact h2.len h.small
theorem MinCtx.f1has {a:Int}(ha:a∈iM m met):aJ m a=true:=by
 unfold iM at ha;rcases List.mem_append.1 ha with ha|ha
 ·obtain ⟨i,hi,rfl⟩:=gC.1 ha;rw [pq];exact TP hi
 exact h.mt.2.2 a ha
theorem MinCtx.keptOf {a:Int}(ha:a∈ca m.Ul.length){x:Int}(hx:x∈bZ (bw m a))(hy:yB x=true):a∈kept:=by
 obtain ⟨i,hi,rfl⟩:=gC.1 ha;have h3:=(AY h.may).2.2;unfold tb at h3;have:=rj h3 (List.mem_range.2 hi);rw [List.any_eq_true.2 ⟨x,hx,hy⟩] at this;simpa using this
theorem MinCtx.inF {a:Int}(ha:a∈iM m met){x:Int}(hx:aJ m x=true)(hyx:yB x=true->x∈met):x∈iM m met:=by
 have _:=h;have _:=ha;unfold iM
 cases hy:yB x with
 |true=>exact TU _ (hyx hy)
 |false=>
  obtain ⟨i,hi,rfl⟩:=GM hx hy;exact TT _ (gC.2 ⟨i,hi,J⟩)
theorem MinCtx.cell {a:Int}(ha:a∈iM m met):CellOk N (iM m met) (iM m met) (bw m a):=by
 have hN:=h.big;have hh:=h.f1has ha;have hm:=eJ hh;have hs:=h.small.cells _ hm;obtain ⟨b,hM⟩:=h.isM;obtain ⟨q1,q2⟩:=hM.closed;have hf:=(Ad (AY h.may).1).2.2 _ hm;refine ⟨by omega,?_,hs.1,hs.2,fun x hx=> ?_,fun x hx=> ?_,fun x=>Iff.rfl⟩
 ·unfold Ae at hf;rw [ph N V _ V V,Uf] at hf;exact hf.1
 ·refine h.inF ha (h.whole.leads hh x hx) fun hy=> ?_
  unfold iM at ha;rcases List.mem_append.1 ha with ha|ha
  ·exact hM.start (TU _ (List.mem_flatMap.2 ⟨a,h.keptOf ha (TT _ hx) hy,hx⟩)) hy
  exact q1 a ha x hx hy
 refine h.inF ha (h.whole.opens hh x hx) fun hy=> ?_
 refine q2 a ?_ x hx hy;unfold iM at ha;rcases List.mem_append.1 ha with ha|ha
 ·exact TT _ (h.keptOf ha (HJ hx) hy)
 exact TU _ ha
theorem MinCtx.old {a:Int}(ha:a∈ca m.Ul.length)(hk:a∉kept):lC N (iM m met) (bw m a)=bw m a/\iI (iM m met) (bw m a)=[]:=by
 have hf:a∈iM m met:=TT _ ha
 refine (h.cell hf).id fun x hx=>h.inF hf (h.whole a (h.f1has hf) x hx) fun hy=>absurd (h.keptOf ha hx hy) hk
theorem MinCtx.nd:(iM m met).Nodup:=by
 unfold iM;refine List.nodup_append.2 ⟨?_,h.mt.1,fun a ha b hb e=> ?_⟩
 ·exact (Kg _).imp fun hab e=>by omega
 subst e;obtain ⟨i, -,rfl⟩:=gC.1 ha;have:=h.mt.2.1 _ hb;rw [Ch] at this;cases this
theorem MinCtx.goneLen: ∀l:List Int,l.Nodup->(∀a∈l,a∈iM m met)->(l.flatMap fun a=>iI (iM m met) (bw m a)).length<=3600:=by
 intro l hn hl
 have h1:=pR (fun a=>(bw m a).Um.length) hn fun a ha=>uk (h.f1has (hl a ha))
 have h2: ∀l:List Int,(l.flatMap fun a=>iI (iM m met) (bw m a)).length<=bW (fun a=>(bw m a).Um.length) l:=fun l=>by
  induction l with
  |nil=>simp [bW]
  |cons a l ih=>
   have:=(ri N (iM m met) (bw m a)).2;rw [List.flatMap_cons,Ub,bW];omega
 have:=h2 l;have:=h.tot;omega
end
end
section
open Go.RowKit
theorem Eh {α β:Type}(f:α->List β){l:List α}{i:Nat}(h:i<l.length):(l.take (i+1)).flatMap f=(l.take i).flatMap f++f l[i]:=by
 rw [aW h,List.flatMap_append,List.flatMap_cons,List.flatMap_nil,List.append_nil]
theorem KD {α β:Type}(f:α->β){l:List α}{i:Nat}(h:i<l.length):(l.take (i+1)).map f=(l.take i).map f++ [f l[i]]:=by
 rw [aW h,List.map_append];rfl
theorem Bw {α:Type}(p:α->Bool){l:List α}{i:Nat}(h:i<l.length):(l.take (i+1)).filter p=(l.take i).filter p++(bif p l[i] then [l[i]] else []):=by
 rw [aW h,List.filter_append];cases hp:p l[i]<;>simp [hp]
section
variable {N:Nat} {m:TM} {roots:List Ty} {kept met:List Int} (h:MinCtx N m roots kept met)
include h
theorem MinCtx.f1len:(iM m met).length<=1800:=by
 have h1:=h.mlen;have h2:=h.small.old;unfold iM ca;rw [Ub,Ud,List.length_range];omega
theorem Lj:jc N m roots kept=some (nS N m met,roots.map (cW (iX m met) met),(wN m met).map (cW (iX m met) met),0):=by
 have hN:=h.big;have hs:=h.small;have hml:=h.mlen;have ho:=hs.old;have hrl:=hs.roots;have hfl:=h.f1len;obtain ⟨hnd,hyng,hhas⟩:=h.mt;obtain ⟨seen,nx,hp,hmt⟩:=h.prog;have hto:(D2 m met).length=met.length:=zz _ _ _ _
 have hev:(ca m.Ul.length).length=m.Ul.length:=by unfold ca;simp
 obtain ⟨hfine,hkok, -⟩:=AY h.may
 have a6: ∀x∈kept,in64 x:=fun x hx=>uW hs (Dr hkok hx).1
 have hkl:=h.klen;have hgl: ∀l:List Int,l.Nodup->(∀a∈l,a∈iM m met)->(l.flatMap fun a=>iI (iM m met) (bw m a)).length<=3600:=h.goneLen
 have tk: ∀i,((ca m.Ul.length).take i).flatMap (fun a=>iI (iM m met) (bw m a))=((ca m.Ul.length).take i).flatMap fun a=>iI (iM m met) (bw m a):=fun i=>rfl
 have g1: ∀i,(((ca m.Ul.length).take i).flatMap fun a=>iI (iM m met) (bw m a)).length<=3600:=fun i=>hgl _ (List.Nodup.sublist (List.take_sublist _ _) (List.nodup_append.1 h.nd).1) fun a ha=>TT _ (List.mem_of_mem_take ha)
 have g2: ∀i,((ca m.Ul.length++met.take i).flatMap fun a=>iI (iM m met) (bw m a)).length<=3600:=fun i=>hgl _ (List.Nodup.sublist (List.Sublist.append (List.Sublist.refl _) (List.take_sublist i met)) h.nd) fun a ha=>(List.mem_append.1 ha).elim (fun h=>TT _ h) fun h=>TU _ (List.mem_of_mem_take h)
 have moved: ∀a∈iM m met, ∀d:TB,d.Uo.length<=600->d.Um.length<=600->fZ N d met (D2 m met)=some (kS (iX m met) met d):=fun a _ d h1 h2=>BO N hN d V V met (D2 m met) hnd hto hml
 -- the young cells
 have young: ∀O:List TB,O.length<=600->Sat (dV N ⟨m,kept,met,seen,nx⟩ roots (D2 m met) (iM m met) N ((ca m.Ul.length).flatMap fun a=>iI (iM m met) (bw m a)) 0 [] O) fun r=>r=(⟨(met.filter (fQ m)).map (nY N m met),O++(met.filter fun a=> !fQ m a).map (nY N m met)⟩,roots.map (cW (iX m met) met),(wN m met).map (cW (iX m met) met),0):=by
  intro O hO;refine cN (fun k i (s:List Ty×List TB×List TB)=>dV N ⟨m,kept,met,seen,nx⟩ roots (D2 m met) (iM m met) k s.1 (i:Int) s.2.1 s.2.2) met.length (fun i s=>s.1=(ca m.Ul.length++met.take i).flatMap (fun a=>iI (iM m met) (bw m a))/\s.2.1=((met.take i).filter (fQ m)).map (nY N m met)/\s.2.2=O++((met.take i).filter fun a=> !fQ m a).map (nY N m met)) _ ?_ ?_ N 0 (_,[],O) V V ⟨by rw [List.take_zero,List.append_nil];rfl,rfl,by simp⟩
  ·rintro k i ⟨g,hE,Q⟩ hi ⟨h1,h2,h3⟩ go;simp only at h1 h2 h3;show Sat (dV N ⟨m,kept,met,seen,nx⟩ roots (D2 m met) (iM m met) (k+1) g (i:Int) hE Q) _;have hgm:met[i]∈met:=Uh hi;have hgf:met[i]∈iM m met:=TU _ hgm;have hc:=h.cell hgf;have hcl:=ri N (iM m met) (bw m met[i]);have hc1:=hc.slots;have hc2:=hc.more
   have hgt:g.length<=3600:=by rw [h1];exact g2 i
   have hYl:hE.length<=i:=by rw [h2,Ud];exact Nat.le_trans (List.length_filter_le _ _) (by rw [Uc];omega)
   have hQl:Q.length<=600+i:=by
    rw [h3,Ub,Ud];have:=List.length_filter_le (fun a=> !fQ m a) (met.take i);rw [Uc] at this;omega
   have hti:i<(D2 m met).length:=by omega
   have htv:(D2 m met)[i]=bif fQ m met[i] then 2*((0+((met.take i).filter (fQ m)).length:Nat):Int)+1 else 2*((m.Ul.length+((met.take i).filter fun a=> !fQ m a).length:Nat):Int)+2:=by
    have:=C3 (fQ m) hi 0 m.Ul.length;unfold List.getD at this;have e:(rV (fQ m) met 0 m.Ul.length)[i]? =some (D2 m met)[i]:=List.getElem?_eq_getElem hti;rw [e] at this;exact this
   have hyt:yB (D2 m met)[i]=fQ m met[i]:=by
    rw [htv];cases fQ m met[i]
    ·exact Ch _
    exact Hl _
   rw [dV.eq_2]
   dsimp only
   rw [cu V,ct,aL hi,bs,r8 N hs kept met seen nx (h.f1has hgf),bs,BG N hN hc V g V,bs]
   dsimp only
   rw [moved _ hgf _ V V,bs,aL hti,bs,ru,bs,hyt];unfold lO;rw [r64 V V,r64 V V,rF (by simp;omega),rF (by simp;omega)]
   have hg':g++iI (iM m met) (bw m met[i])=(ca m.Ul.length++met.take (i+1)).flatMap fun a=>iI (iM m met) (bw m a):=by
    rw [h1,List.flatMap_append,List.flatMap_append,Eh _ hi,TS]
   have a1:=Bw (fQ m) hi;have a2:=Bw (fun a=> !fQ m a) hi;cases hb:fQ m met[i]
   ·rw [hb] at a1;simp only [hb,Bool.not_false,cond_true,cond_false,List.append_nil] at a1 a2;rw [cf];exact go (_,hE,_) ⟨hg',by show hE=_;rw [a1];exact h2,by show Q++ [nY N m met met[i]]=_;rw [a2,List.map_append,h3,TS];rfl⟩
   rw [hb] at a1;simp only [hb,Bool.not_true,cond_true,cond_false,List.append_nil] at a1 a2;rw [ct];exact go (_,_,Q) ⟨hg',by show hE++ [nY N m met met[i]]=_;rw [a1,List.map_append,h2];rfl,by show Q=_;rw [a2];exact h3⟩
  rintro k ⟨g,hE,Q⟩ ⟨h1,h2,h3⟩;simp only [Ue] at h1 h2 h3;show Sat (dV N ⟨m,kept,met,seen,nx⟩ roots (D2 m met) (iM m met) (k+1) g _ hE Q) _
  have hgt:g.length<=3600:=by rw [h1];have:=g2 met.length;rwa [Ue] at this
  rw [dV.eq_2]
  dsimp only
  rw [cn V,cf];unfold oM
  dsimp only
  rw [BF N hN roots V met (D2 m met) hnd hto hml,bs,BF N hN g V met (D2 m met) hnd hto hml,bs,h2,h3];refine ax ?_;rw [h1];rfl
 apply Sat.eq;unfold jc;rw [EH N hN hs h.w64 h.r64 kept V a6,h.may,bs,nt,cf,hp,bs,Fw N hN hs kept nx hmt,bs,Dg N hN hs kept nx hmt,bs];refine cN (fun k i (s:List Ty×List TB)=>eW N m roots kept (D2 m met) ⟨m,kept,met,seen,nx⟩ k s.1 (iM m met) (i:Int) s.2) m.Ul.length (fun i s=>s.1=((ca m.Ul.length).take i).flatMap (fun a=>iI (iM m met) (bw m a))/\s.2=((ca m.Ul.length).take i).map (nC N m met)) _ ?_ ?_ N 0 ([],[]) V V ⟨J,J⟩
 ·rintro k i ⟨g,O⟩ hi ⟨h1,h2⟩ go;simp only at h1 h2;show Sat (eW N m roots kept (D2 m met) ⟨m,kept,met,seen,nx⟩ (k+1) g (iM m met) (i:Int) O) _
  have hie:i<(ca m.Ul.length).length:=by omega
  have hei:(ca m.Ul.length)[i]=2*(i:Int)+2:=EO hie;have hae:(2*(i:Int)+2)∈ca m.Ul.length:=gC.2 ⟨i,hi,rfl⟩;have haf:(2*(i:Int)+2)∈iM m met:=TT _ hae;have hc:=h.cell haf;have hcl:=ri N (iM m met) (bw m (2*(i:Int)+2));have hc1:=hc.slots;have hc2:=hc.more
  have hgt:g.length<=3600:=by rw [h1];exact g1 i
  have hOl:O.length<=i:=by rw [h2,Ud,Uc];omega
  have hold:=h.old hae
  have n1:((ca m.Ul.length).take (i+1)).flatMap (fun a=>iI (iM m met) (bw m a))=g++iI (iM m met) (bw m (2*(i:Int)+2)):=by rw [Eh _ hie,hei,h1]
  have n2:((ca m.Ul.length).take (i+1)).map (nC N m met)=O++ [nC N m met (2*(i:Int)+2)]:=by rw [KD _ hie,hei,h2]
  rw [oh m i hi] at hc hcl hc1 hc2 hold n1
  have hnc:nC N m met (2*(i:Int)+2)=kS (iX m met) met (lC N (iM m met) m.Ul[i]):=by unfold nC;rw [oh m i hi]
  have body: ∀(kb:List Ty->List Int->Int->List TB->Option (TM×List Ty×List Ty×Int)) (g':List Ty) (d:TB),d.Uo.length<=600->d.Um.length<=600->jv N kb m (i:Int) roots kept (D2 m met) (iM m met) O ⟨m,kept,met,seen,nx⟩ g' d.Ui d.Uw d.Uv d.Ux d.Uo d.Um=kb g' (iM m met) ((i:Int)+1) (O++ [kS (iX m met) met d]):=by
   intro kb g' d d1 d2;have:=moved _ haf d d1 d2;unfold jv
   dsimp only
   have e:fZ N ⟨d.Ui,d.Uw,d.Uv,d.Ux,d.Uo,d.Um⟩ met (D2 m met)=some (kS (iX m met) met d):=this;rw [e,bs,rF (by simp;omega),r64 V V]
  rw [eW.eq_2,cu V,ct,aL hi,bs,r64 V V,r64 V V,pN N hN kept V,bs];by_cases hk:(2*(i:Int)+2)∈kept
  ·rw [TP hk,ct,BG N hN hc V g V,bs]
   dsimp only
   rw [body _ _ _ V V];exact go (_,_) ⟨n1.symm,by rw [n2,hnc]⟩
  obtain ⟨o1,o2⟩:=hold hk;rw [TQ hk,cf,body _ _ _ V V];exact go (g,_) ⟨by rw [n1,o2,List.append_nil],by rw [n2,hnc,o1]⟩
 rintro k ⟨g,O⟩ ⟨h1,h2⟩;have etl:(ca m.Ul.length).take m.Ul.length=ca m.Ul.length:=List.take_of_length_le V;simp only [etl] at h1 h2;show Sat (eW N m roots kept (D2 m met) ⟨m,kept,met,seen,nx⟩ (k+1) g (iM m met) _ O) _;rw [eW.eq_2,cn V,cf];unfold oN;rw [h1]
 have hOl:O.length<=600:=by rw [h2,Ud];omega
 have:=young O hOl;rw [h2] at this⊢;exact this
end
end
section
open Go.RowKit
theorem IN: ∀{A B:List Int} {x:Int},x∉A->(A++x::B).idxOf x=A.length
 | [],B,x,_=>by simp
 |a::A,B,x,h=>by
  have h1:a≠x:=fun e=>h (by simp [e])
  rw [List.cons_append,List.idxOf_cons,IN fun hx=>h (by simp [hx])];have:(a==x)=false:=beq_eq_false_iff_ne.2 h1;rw [this];rfl
theorem GR {l:List Int}(hn:l.Nodup)(p:Int->Bool){i:Nat}(h:i<l.length)(hp:p l[i]=true):(l.filter p).idxOf l[i]=((l.take i).filter p).length:=by
 have e:l.filter p=(l.take i).filter p++l[i]::(l.drop (i+1)).filter p:=by
  have e1:l=l.take i++(l[i]::l.drop (i+1)):=by rw [<-List.drop_eq_getElem_cons h,List.take_append_drop]
  have e2:l.filter p=(l.take i).filter p++(l[i]::l.drop (i+1)).filter p:=by rw [<-List.filter_append, <-e1]
  rw [e2,List.filter_cons,hp,if_pos rfl]
 rw [e]
 exact IN fun hm=>Dd hn h (List.mem_filter.1 hm).1
def yD (c:TB)(g:Int):TB:=⟨c.Ui,c.Uw,c.Uv,g,c.Uo,c.Um⟩
theorem Fm {c:TB}(h:bx c=true):bx (yD c 1)=true:=by
 unfold bx at h⊢;unfold yD;simp only [Uf] at h⊢;obtain ⟨⟨⟨⟨⟨⟨⟨h1,h2⟩,h3⟩,h4⟩,h5⟩, -⟩, -⟩,h8⟩:=h;exact ⟨⟨⟨⟨⟨⟨⟨h1,h2⟩,h3⟩,h4⟩,h5⟩,J⟩,J⟩,h8⟩
structure VCell (N:Nat) (c:TB):Prop where
 big:2000<N
 right:bx c=true
 slots:c.Uo.length<=600
 more:c.Um.length<=600
theorem Mx (m:TM){i:Nat}{c:TB}(h:m.Ul[i]? =some c):aJ m (2*(i:Int)+2)=true/\bw m (2*(i:Int)+2)=c:=by
 obtain ⟨h1,h2⟩:=List.getElem?_eq_some_iff.1 h;exact ⟨by rw [pq];exact TP h1,by rw [oh m i h1];exact h2⟩
theorem Pv (m:TM){i:Nat}{c:TB}(h:m.Uj[i]? =some c):aJ m (2*(i:Int)+1)=true/\bw m (2*(i:Int)+1)=c:=by
 obtain ⟨h1,h2⟩:=List.getElem?_eq_some_iff.1 h;exact ⟨by rw [uX];exact TP h1,by rw [qQ m i h1];exact h2⟩
theorem GJ {f:List Int}{a:Int}(h:a∈f):f[f.idxOf a]? =some a:=List.getElem?_eq_some_iff.2 ⟨tG h,pM h⟩
section
variable {N:Nat} {m:TM} {roots:List Ty} {kept met:List Int} (h:MinCtx N m roots kept met)
include h
theorem MinCtx.rhoE {a:Int}(ha:a∈ca m.Ul.length):iX m met a=a:=by
 have hn:a∉met:=fun hm=>(List.nodup_append.1 h.nd).2.2 a ha a hm rfl
 unfold iX zo;rw [if_neg hn]
theorem MinCtx.rhoY {a:Int}(ha:a∈met)(hp:fQ m a=true):iX m met a=2*(((met.filter (fQ m)).idxOf a:Nat):Int)+1:=by
 obtain ⟨i,hi,rfl⟩:=List.getElem_of_mem ha;unfold iX zo D2;rw [if_pos ha,AU h.mt.1 hi,C3 _ hi,hp,GR h.mt.1 _ hi hp,cond_true,Nat.zero_add]
theorem MinCtx.rhoO {a:Int}(ha:a∈met)(hp:fQ m a=false):iX m met a=2*((m.Ul.length+(met.filter fun a=> !fQ m a).idxOf a:Nat):Int)+2:=by
 obtain ⟨i,hi,rfl⟩:=List.getElem_of_mem ha;unfold iX zo D2;rw [if_pos ha,AU h.mt.1 hi,C3 _ hi,hp,GR h.mt.1 (fun a=> !fQ m a) hi (by rw [hp];rfl),cond_false]
theorem MinCtx.cases {a:Int}(ha:a∈iM m met):(a∈ca m.Ul.length/\iX m met a=a)\/(a∈met/\fQ m a=true/\a∈met.filter (fQ m))\/(a∈met/\fQ m a=false/\a∈met.filter fun a=> !fQ m a):=by
 unfold iM at ha;rcases List.mem_append.1 ha with ha|ha
 ·exact .inl ⟨ha,h.rhoE ha⟩
 cases hp:fQ m a with
 |true=>exact .inr (.inl ⟨ha,rfl,List.mem_filter.2 ⟨ha,hp⟩⟩)
 |false=>exact .inr (.inr ⟨ha,rfl,List.mem_filter.2 ⟨ha,by rw [hp];rfl⟩⟩)
theorem MinCtx.ren:Ren (iX m met) (iM m met):=by
 refine ⟨fun a b ha hb e=> ?_,fun a ha=> ?_⟩
 ·rcases h.cases ha with ⟨a1,a2⟩|⟨a1,a2,a3⟩|⟨a1,a2,a3⟩<;>rcases h.cases hb with ⟨b1,b2⟩|⟨b1,b2,b3⟩|⟨b1,b2,b3⟩
  ·rw [a2,b2] at e;exact e
  ·obtain ⟨i, -,rfl⟩:=gC.1 a1;rw [a2,h.rhoY b1 b2] at e;omega
  ·obtain ⟨i,hi,rfl⟩:=gC.1 a1;rw [a2,h.rhoO b1 b2] at e;omega
  ·obtain ⟨i, -,rfl⟩:=gC.1 b1;rw [b2,h.rhoY a1 a2] at e;omega
  ·rw [h.rhoY a1 a2,h.rhoY b1 b2] at e
   have e2:(met.filter (fQ m)).idxOf a=(met.filter (fQ m)).idxOf b:=by omega
   rw [<-pM a3, <-pM b3];simp only [e2]
  ·rw [h.rhoY a1 a2,h.rhoO b1 b2] at e;omega
  ·obtain ⟨i,hi,rfl⟩:=gC.1 b1;rw [b2,h.rhoO a1 a2] at e;omega
  ·rw [h.rhoO a1 a2,h.rhoY b1 b2] at e;omega
  rw [h.rhoO a1 a2,h.rhoO b1 b2] at e
  have e2:(met.filter fun a=> !fQ m a).idxOf a=(met.filter fun a=> !fQ m a).idxOf b:=by omega
  rw [<-pM a3, <-pM b3];simp only [e2]
 rcases h.cases ha with ⟨a1,a2⟩|⟨a1,a2,a3⟩|⟨a1,a2,a3⟩
 ·obtain ⟨i, -,rfl⟩:=gC.1 a1;omega
 ·rw [h.rhoY a1 a2];omega
 rw [h.rhoO a1 a2];omega
end
def Ov (N:Nat)(m:TM)(met:List Int)(a:Int):Int:=if a∈met then 1 else (nC N m met a).Ux
def qf (N:Nat)(m:TM)(met:List Int)(a:Int):TB:=yD (nC N m met a) (Ov N m met a)
theorem Df {m:TM}{met:List Int}(v:Ty):cW (iX m met) (iM m met) v=cW (iX m met) met v:=by
 unfold cW iM;cases hb:bm v
 ·rfl
 rw [Bool.true_and,Bool.true_and];by_cases h:v.N∈met
 ·rw [TP h,TP (TU _ h)]
 rw [TQ h]
 have e:iX m met v.N=v.N:=by unfold iX zo;rw [if_neg h]
 rw [e];cases decide (v.N∈ca m.Ul.length++met)<;>rfl
theorem Gy {m:TM}{met:List Int}(c:TB):kS (iX m met) met c=kS (iX m met) (iM m met) c:=by
 unfold kS;rw [List.map_congr_left fun v _=>(Df v).symm,List.map_congr_left (l:=c.Um) fun v _=>(Df v).symm]
section
variable {N:Nat} {m:TM} {roots:List Ty} {kept met:List Int} (h:MinCtx N m roots kept met)
include h
theorem MinCtx.cellE {a:Int}(ha:a∈ca m.Ul.length):qf N m met a=nC N m met a:=by
 have hn:a∉met:=fun hm=>(List.nodup_append.1 h.nd).2.2 a ha a hm rfl
 unfold qf Ov;rw [if_neg hn];rfl
theorem Hc {a:Int}(ha:a∈met):qf N m met a=nY N m met a:=by
 have _:=h;unfold qf Ov;rw [if_pos ha];rfl
theorem MinCtx.at_ {a:Int}(ha:a∈iM m met):aJ (nS N m met) (iX m met a)=true/\bw (nS N m met) (iX m met a)=qf N m met a:=by
 have hev:(ca m.Ul.length).length=m.Ul.length:=by unfold ca;simp
 have hml:((ca m.Ul.length).map (nC N m met)).length=m.Ul.length:=by rw [Ud];exact hev
 rcases h.cases ha with ⟨a1,a2⟩|⟨a1,a2,a3⟩|⟨a1,a2,a3⟩
 ·rw [a2,h.cellE a1];obtain ⟨i,hi,rfl⟩:=gC.1 a1;refine Mx _ ?_;show ((ca m.Ul.length).map (nC N m met)++(met.filter fun a=> !fQ m a).map (nY N m met))[i]? =_;rw [List.getElem?_append_left V,List.getElem?_map,List.getElem?_eq_getElem (by omega:i<(ca m.Ul.length).length),EO];rfl
 ·rw [h.rhoY a1 a2,Hc h a1];refine Pv _ ?_;show ((met.filter (fQ m)).map (nY N m met))[_]? =_;rw [List.getElem?_map,GJ a3];rfl
 rw [h.rhoO a1 a2,Hc h a1];refine Mx _ ?_;show ((ca m.Ul.length).map (nC N m met)++(met.filter fun a=> !fQ m a).map (nY N m met))[_]? =_;rw [List.getElem?_append_right V,hml,Nat.add_sub_cancel_left,List.getElem?_map,GJ a3];rfl
theorem MinCtx.okN {a:Int}(ha:a∈iM m met):VCell N (nC N m met a)/\VCell N (qf N m met a):=by
 have hN:=h.big;obtain ⟨g1,g2,g3, -⟩:=CellOk.new h.ren (h.cell ha);have e:nC N m met a=kS (iX m met) (iM m met) (lC N (iM m met) (bw m a)):=Gy _;rw [<-e] at g1 g2 g3;refine ⟨⟨by omega,g1,g2,g3⟩,by omega,?_,g2,g3⟩;unfold qf Ov;by_cases hm:a∈met
 ·rw [if_pos hm];exact Fm g1
 rw [if_neg hm];exact g1
end
end
section
open Go.RowKit
theorem Ej {α:Type}(g:α->Nat)(p:α->Bool): ∀l:List α,bW g (l.filter p)+bW g (l.filter fun a=> !p a)=bW g l
 | []=>rfl
 |a::l=>by
  have ih:=Ej g p l;rw [List.filter_cons,List.filter_cons];cases h:p a
  ·simp only [Bool.false_eq_true,if_false,Bool.not_false,if_true,bW];omega
  simp only [Bool.false_eq_true,if_false,Bool.not_true,if_true,bW];omega
theorem rB {α:Type}{g h:α->Nat}: ∀{l:List α},(∀x∈l,g x=h x)->bW g l=bW h l
 | [],_=>rfl
 |a::l,hh=>by rw [bW,bW,hh a (by simp),rB fun x hx=>hh x (by simp [hx])]
theorem vX {α:Type}: ∀l:List α,bW (fun _=>1) l=l.length
 | []=>rfl
 |a::l=>by rw [bW,vX l,List.length_cons];omega
section
variable {N:Nat} {m:TM} {roots:List Ty} {kept met:List Int} (h:MinCtx N m roots kept met)
include h
theorem MinCtx.midSum (g:TB->Nat):bW g (nS N m met).Uj+bW g (nS N m met).Ul=bW (fun a=>g (qf N m met a)) (iM m met):=by
 have e1:bW (fun a=>g (qf N m met a)) (ca m.Ul.length)=bW (fun a=>g (nC N m met a)) (ca m.Ul.length):=rB fun a ha=>by rw [h.cellE ha]
 have e2:bW (fun a=>g (qf N m met a)) met=bW (fun a=>g (nY N m met a)) met:=rB fun a ha=>by rw [Hc h ha]
 have e3:=Ej (fun a=>g (nY N m met a)) (fQ m) met;unfold nS iM;simp only;rw [rD,rD,oq,oq,oq,e1,e2];omega
theorem MinCtx.midLe (g:TB->Nat)(hg: ∀a∈iM m met,g (qf N m met a)<=g (bw m a)):bW g (nS N m met).Uj+bW g (nS N m met).Ul<=bW g m.Uj+bW g m.Ul:=by
 have h1:=pR (fun a=>g (bw m a)) h.nd fun a ha=>uk (h.f1has ha)
 have h2:=oq g (bw m) (Bq m);rw [DW,rD] at h2;rw [h.midSum];have h3:=xo hg;omega
theorem MinCtx.cellLe {a:Int}(ha:a∈iM m met):(qf N m met a).Uo.length=(bw m a).Uo.length/\(qf N m met a).Um.length<=(bw m a).Um.length:=by
 have _:=h;have:=ri N (iM m met) (bw m a);show ((lC N (iM m met) (bw m a)).Uo.map _).length=_/\((lC N (iM m met) (bw m a)).Um.map _).length<=_;rw [Ud,Ud];omega
theorem MinCtx.midCnt:(nS N m met).Uj.length+(nS N m met).Ul.length<=m.Uj.length+m.Ul.length:=by
 have:=h.midLe (fun _=>1) fun a _=>Nat.le_refl _
 rw [vX,vX,vX,vX] at this;exact this
theorem MinCtx.midWt:wt (nS N m met).Uj+wt (nS N m met).Ul<=wt m.Uj+wt m.Ul:=by
 have:=h.midLe wC fun a ha=>by
  have:=h.cellLe ha;unfold wC;omega
 rw [<-uy, <-uy, <-uy, <-uy] at this;exact this
theorem MinCtx.midMem {c:TB}(hc:c∈(nS N m met).Uj++(nS N m met).Ul): ∃a∈iM m met,c=qf N m met a:=by
 unfold nS at hc;simp only [List.mem_append,List.mem_map,List.mem_filter] at hc;rcases hc with ⟨a,⟨h1, -⟩,rfl⟩|⟨a,h1,rfl⟩|⟨a,⟨h1, -⟩,rfl⟩
 ·exact ⟨a,TU _ h1,(Hc h h1).symm⟩
 ·exact ⟨a,TT _ h1,(h.cellE h1).symm⟩
 exact ⟨a,TU _ h1,(Hc h h1).symm⟩
theorem MinCtx.root {x:Int}(hx:x∈bN roots):x∈iM m met:=by
 have hh:=h.rootsH x hx;obtain ⟨b,hM⟩:=h.isM;unfold iM
 cases hy:yB x with
 |true=>exact TU _ (hM.start (TT _ hx) hy)
 |false=>
  obtain ⟨i,hi,rfl⟩:=GM hh hy;exact TT _ (gC.2 ⟨i,hi,J⟩)
theorem MinCtx.rootIn:i5 (iM m met) roots:=fun v hv hb=>h.root (lw.2 ⟨v,hv,hb,rfl⟩)
theorem MinCtx.rho64 {a:Int}(ha:a∈iM m met):in64 (iX m met a):=by
 have h1:=h.mlen;have h2:=h.small.old
 have h3: ∀p:Int->Bool,(met.filter p).length<=1200:=fun p=>Nat.le_trans (List.length_filter_le _ _) h1
 unfold in64;rcases h.cases ha with ⟨a1,a2⟩|⟨a1,a2,a3⟩|⟨a1,a2,a3⟩
 ·obtain ⟨i,hi,rfl⟩:=gC.1 a1;rw [a2];omega
 ·have:=tG a3;have:=h3 (fQ m);rw [h.rhoY a1 a2];omega
 have:=tG a3
 have:=h3 fun a=> !fQ m a
 rw [h.rhoO a1 a2];omega
theorem MinCtx.mov64 {v:Ty}(hv:in64 v.N):in64 (cW (iX m met) (iM m met) v).N:=by
 unfold cW
 cases hb:bm v&&decide (v.N∈iM m met) with
 |false=>exact hv
 |true=>
  rw [Uf,decide_eq_true_eq] at hb;exact h.rho64 hb.2
theorem MinCtx.now64: ∀v∈roots.map (cW (iX m met) (iM m met)),in64 v.N:=fun v hv=>by
 obtain ⟨w,hw,rfl⟩:=List.mem_map.1 hv;exact h.mov64 (h.r64 w hw)
theorem MinCtx.nCE (a:Int):nC N m met a=kS (iX m met) (iM m met) (lC N (iM m met) (bw m a)):=by
 have _:=h;exact Gy _
theorem MinCtx.midW:W64 (nS N m met):=fun c hc v hv=>by
 obtain ⟨a,ha,rfl⟩:=h.midMem hc;have hv':v∈(nC N m met a).Uo++(nC N m met a).Um:=hv;rw [h.nCE] at hv'
 have hv2:v∈((lC N (iM m met) (bw m a)).Uo++(lC N (iM m met) (bw m a)).Um).map (cW (iX m met) (iM m met)):=by rw [List.map_append];exact hv'
 obtain ⟨w,hw,rfl⟩:=List.mem_map.1 hv2;refine h.mov64 ?_;rcases Ja hw with hw|rfl
 ·exact h.w64.at_ a w hw
 show in64 0;unfold in64;omega
theorem MinCtx.midS (hcnt:m.Uj.length+m.Ul.length<=600)(l:List Ty)(hl:l.length<=600):Small (nS N m met) l:=by
 have:=h.midCnt;refine ⟨by omega,by omega,hl,fun c hc=> ?_⟩;obtain ⟨a,ha,rfl⟩:=h.midMem hc;exact ⟨(h.okN ha).2.slots,(h.okN ha).2.more⟩
theorem MinCtx.newHas {l:List Ty}(hl:i5 (iM m met) l){v:Ty}(hv:v∈l.map (cW (iX m met) (iM m met)))(hb:bm v=true):aJ (nS N m met) v.N=true:=by
 obtain ⟨w,hw,rfl⟩:=List.mem_map.1 hv;rw [Ck] at hb;have:=hl w hw hb;rw [AV hb this];exact (h.at_ this).1
theorem MinCtx.midAddr {c:TB}(hc:c∈(nS N m met).Uj++(nS N m met).Ul):bx c=true/\ ∀x∈bZ c,aJ (nS N m met) x=true:=by
 obtain ⟨a,ha,rfl⟩:=h.midMem hc;refine ⟨(h.okN ha).2.right,fun x hx=> ?_⟩;have hx':x∈bZ (nC N m met a):=hx;obtain ⟨v,hv,hb,rfl⟩:=ut hx';rw [h.nCE] at hv;obtain ⟨i1,i2⟩:=(h.cell ha).inC;rcases List.mem_append.1 hv with hv|hv
 ·exact h.newHas i1 hv hb
 exact h.newHas i2 hv hb
end
end
section
open Go.RowKit
theorem tu (N:Nat)(hN:6500<N)(c:TB)(hS:c.Uo.length<=600)(hM:c.Um.length<=600):mg N c=some ((bZ c).any yB):=by
 have h1:=kU c;have h2:=nZ c
 have hy: ∀x,mf N x=some (yB x):=fun x=>by
  unfold mf yB;cases decide (0<x)<;>cases decide (x.tmod 2=1)<;>rfl
 unfold mg bZ;rw [nT N V c V V,sL N V c V V,bs,bs,AA N _ yB (co c) V V (fun x _=>hy x),AA N _ yB (lF c) V V (fun x _=>hy x),bs,bs,List.any_append];cases (co c).any yB<;>cases (lF c).any yB<;>rfl
theorem Kl {L:List (Int×Bool)}{a:Int}(h:a∉L.map (·.1)):Bm L a=L:=by
 unfold Bm;rcases H0 a L with ⟨i,c, -,h2⟩|⟨h1, -⟩
 ·exact absurd (List.mem_map.2 ⟨_,List.mem_of_getElem? h2,J⟩) h
 rw [h1]
theorem CN (N:Nat)(hN:6500<N){m:TM}{roots:List Ty}(hs:Small m roots): ∃kv,cP N ⟨[]⟩ m=some ⟨kv⟩/\kv.map Prod.fst=ko m:=by
 have ho:=hs.old
 have key:Sat (cP N ⟨[]⟩ m) fun r=>r.at_.map Prod.fst=ko m:=by
  unfold cP nQ;rw [bs];refine cN (fun k i (s:List (Int×Bool))=>fd N m k (i:Int) s) m.Ul.length (fun i s=>s.map Prod.fst=((List.range i).filter (mV m)).map (fun i:Nat=>2*(i:Int)+2)) _ ?_ ?_ N 0 [] V V J
  ·rintro k i s hi h1 go;show Sat (fd N m (k+1) (i:Int) s) _;have hc:=hs.cells _ (TU m.Uj (Uh hi))
   have hnext:((List.range (i+1)).filter (mV m)).map (fun i:Nat=>2*(i:Int)+2)=((List.range i).filter (mV m)).map (fun i:Nat=>2*(i:Int)+2)++(bif mV m i then [2*(i:Int)+2] else []):=by
    rw [List.range_succ,List.filter_append,List.map_append];cases h:mV m i<;>simp [h]
   have hno:(2*(i:Int)+2)∉s.map Prod.fst:=by
    rw [h1];intro hm;obtain ⟨j,hj,e⟩:=List.mem_map.1 hm;have:=List.mem_range.1 (List.mem_filter.1 hj).1;omega
   have e:(bZ m.Ul[i]).any yB=mV m i:=by unfold mV;rw [oh m i hi]
   rw [fd.eq_2,cu V,ct,aL hi,bs,r64 V V,r64 V V];unfold dP jR mG;rw [tu N hN _ hc.1 hc.2,e,cu V,ct,qE V,o5 V];simp only [bs,nt,cf];cases h:mV m i
   ·simp only [nf,ct,bs];rw [Kl hno,r64 V V];exact go s (by rw [hnext,h,h1,cf,List.append_nil])
   simp only [nt,cf,bs];rw [r64 V V];refine go (yy s (2*(i:Int)+2) true) ?_;have:=zk s (2*(i:Int)+2) true;rw [if_neg hno] at this;rw [hnext,h,ct, <-h1];exact this
  rintro k s h1;show Sat (fd N m (k+1) _ s) _;rw [fd.eq_2,cn V,cf];exact ax h1
 obtain ⟨r,e,h⟩:=key;exact ⟨r.at_,e,h⟩
theorem zZ (m:TM):(ko m).Pairwise (· < ·):=by
 have:=GH m;unfold sc at this;rw [Uf,decide_eq_true_eq] at this;exact this.2
def vE (m:TM)(live f:List Int):List Ty:=f.flatMap fun a=>iI live (bw m a)
section
variable {N:Nat} {m:TM} {roots:List Ty} {live f:List Int} (h:CollCtx N m roots live f)
include h
theorem CollCtx.nextTot:(roots.map (cW (qX f) f)++(vE m live f).map (cW (qX f) f)).length+wt (gZ N m live f).Uj+wt (gZ N m live f).Ul<=roots.length+wt m.Uj+wt m.Ul:=by
 have h1:=Ge h.lv;have e0:(gZ N m live f).Uj=[]:=rfl
 have e1:(gZ N m live f).Ul=f.map fun a=>kS (qX f) f (lC N live (bw m a)):=rfl
 rw [e0,e1,Ub,Ud,Ud];unfold vE;have e2:wt []=0:=rfl;omega
end
end
section
open Go.RowKit
theorem wP {α β γ:Type}(o:Option α)(f:α->Option β)(g:β->γ):(o.bind f).map g=o.bind fun x=>(f x).map g:=by cases o<;>rfl
theorem Lm {β γ:Type}(c:Prop)[Decidable c](o:Option β)(g:β->γ):(be c o).map g=be c (o.map g):=by unfold be;split<;>rfl
theorem FB {β γ:Type}(b:Bool)(x y:Option β)(g:β->γ):(bif b then x else y).map g=bif b then x.map g else y.map g:=by cases b<;>rfl
def Ry:(TM×TN×TN×Int) ⊕ (TM×TN×TN)->TM×TN×TN×Int
 | .inl x=>x
 | .inr x=>(x.1,x.2.1,x.2.2,0)
theorem Pe (N:Nat)(m:TM)(roots:List Ty):nJ N m roots=(dl N m roots).map Ry:=by
 have a1:ke=lQ:=rfl;have a2:kc=lP:=rfl;unfold nJ dl;rw [a1,a2,wP]
 congr 1;funext y7
 rw [FB];cases !decide (y7=0)
 ·simp only [cond_false,wP]
  congr 1;funext a6;congr 1;funext a7;congr 1;funext a8
  unfold qP;split
  ·simp only [wP]
   congr 1;funext b0;congr 1;funext b1
   split
   ·simp only [wP];rfl
   ·rfl
   ·rfl
   rfl
  ·rfl
  ·rfl
  rfl
 rfl
def Qu:(TM×TN×TN) ⊕ (TM×TN×TN)->TM×TN×TN×Int
 | .inl x=>(x.1,x.2.1,x.2.2,1)
 | .inr x=>(x.1,x.2.1,x.2.2,0)
theorem Lf (N:Nat)(a0:TM)(b0:Tv)(a1:List Ty)(b1 b2:List Int): ∀(k:Nat) (a2:List Ty) (a6:Int) (a7 a8:List TB),dV N b0 a1 b1 b2 k a2 a6 a7 a8=(fu N b0 a1 b1 b2 a0 k a2 a6 a7 a8).map Qu:=by
 intro k
 induction k with
 |zero=>intros;rfl
 |succ k ih=>
  intro a2 a6 a7 a8;rw [dV.eq_2,fu.eq_2];unfold lO jW oM nb;simp only [FB,wP,Lm,ih];rfl
theorem Lg (N:Nat)(a0:TM)(a1:List Ty)(a2 b1:List Int)(b2:Tv): ∀(k:Nat) (a6:List Ty) (a7:List Int) (a8:Int) (b0:List TB),eW N a0 a1 a2 b1 b2 k a6 a7 a8 b0=(fv N a0 a1 a2 b1 b2 k a6 a7 a8 b0).map Qu:=by
 intro k
 induction k with
 |zero=>intros;rfl
 |succ k ih=>
  intro a6 a7 a8 b0;rw [eW.eq_2,fv.eq_2];unfold jv jX oN nc;simp only [FB,wP,Lm,ih,Lf N a0]
theorem Pa (N:Nat)(m:TM)(roots:List Ty)(kept:List Int):jc N m roots kept=(dW N m roots kept).map Qu:=by
 unfold jc dW;rw [wP]
 congr 1;funext y7
 rw [FB];cases !y7
 ·simp only [cond_false,wP,Lg]
 rfl
def mS (l:List TB):Nat:=bW (fun c=>c.Um.length) l
theorem pc {α:Type}(n:Nat): ∀l:List α,bW (fun _=>n) l=n*l.length
 | []=>by simp [bW]
 |a::l=>by rw [bW,pc n l,List.length_cons,Nat.mul_succ];omega
theorem CB {α:Type}(g:α->Nat)(x:α): ∀(l:List α) (i:Nat),bW g (l.set i x)<=bW g l+g x
 | [],_=>by simp [bW]
 |a::l,0=>by simp only [List.set_cons_zero,bW];omega
 |a::l,i+1=>by have:=CB g x l i;simp only [List.set_cons_succ,bW];omega
structure HInv (k:Nat) (g:TI):Prop where
 cnt:g.m_.Uj.length+g.m_.Ul.length<=k
 cells: ∀c∈g.m_.Uj++g.m_.Ul,c.Uo.length<=20/\c.Um.length<=20
 sum:4*(g.Ur++g.Uz).length+3*(mS g.m_.Uj+mS g.m_.Ul)<=60*k
 w64:W64 g.m_
 r64: ∀v∈g.Ur++g.Uz,in64 v.N
 nd:(g.Uy.at_.map Prod.fst).Nodup
 keys: ∀x∈g.Uy.at_.map Prod.fst, ∃i:Nat,i<g.m_.Ul.length/\x=2*(i:Int)+2
section
variable {k:Nat} {g:TI} (h:HInv k g)
include h
end
structure HB (g:TI):Prop where
 small:Small g.m_ (g.Ur++g.Uz)
 wtd:Wtd g.m_ (g.Ur++g.Uz)
 tot:bW (fun a=>(bw g.m_ a).Um.length) (Bq g.m_)<=3600
 four:4*(g.Ur++g.Uz).length+3*(mS g.m_.Uj+mS g.m_.Ul)<=9000
 w64:W64 g.m_
 r64: ∀v∈g.Ur++g.Uz,in64 v.N
 nd:(g.Uy.at_.map Prod.fst).Nodup
 keys: ∀x∈g.Uy.at_.map Prod.fst, ∃i:Nat,i<g.m_.Ul.length/\x=2*(i:Int)+2
theorem IP (N:Nat)(g:TI){a:Int}(ha:in64 a):gL N g a=some (aJ g.m_ a):=by
 unfold gL aK;rw [bs,nf,ct,uo N _ _ ha];rfl
theorem BM {N:Nat}(hN:6500<N){c:TB}(h1:c.Uo.length<=1000/\c.Um.length<=1000):fY N c=some (bx c):=by
 rw [wj N V c h1.1 h1.2,ph N V c h1.1 h1.2]
def yK (c:TB)(a:Int):TB:=⟨c.Ui,c.Uw,c.Uv,a,c.Uo,c.Um⟩
def zK (kv:List (Int×Bool))(a:Int)(c:TB):List (Int×Bool):=bif (bZ c).any yB then yy kv a true else Bm kv a
theorem JM {N:Nat}(hN:6500<N){c:TB}(h1:c.Uo.length<=600/\c.Um.length<=600)(kv:List (Int×Bool))(i:Nat): ∃b,dP N ⟨kv⟩ (2*(i:Int)+2) c=some (b,⟨zK kv (2*(i:Int)+2) c⟩):=by
 unfold dP jR mG zK;rw [cu V,ct,qE V,o5 V,tu N hN c h1.1 h1.2];simp only [bs,nt,cf];cases (bZ c).any yB
 ·exact ⟨false,J⟩
 exact ⟨true,J⟩
theorem K8 {kv:List (Int×Bool)}(h:(kv.map Prod.fst).Nodup)(a:Int)(c:TB):((zK kv a c).map Prod.fst).Nodup:=by
 unfold zK;cases (bZ c).any yB
 ·exact (EY h a).2.1
 show ((yy kv a true).map (·.1)).Nodup;rw [zk];split
 ·exact h
 rename_i hn
 exact List.nodup_append.2 ⟨h,by simp,fun x hx y hy=>by rintro rfl;exact hn (by rw [List.mem_singleton.1 hy] at hx;exact hx)⟩
theorem ED {kv:List (Int×Bool)}(h:(kv.map Prod.fst).Nodup)(a:Int)(c:TB)(x:Int):x∈(zK kv a c).map Prod.fst↔((bZ c).any yB=true/\(x∈kv.map Prod.fst\/x=a))\/((bZ c).any yB=false/\x∈kv.map Prod.fst/\x≠a):=by
 unfold zK;cases (bZ c).any yB
 ·simp only [Bool.false_eq_true,false_and,false_or,true_and];exact (EY h a).1 x
 simp only [Bool.true_eq_false,false_and,or_false,true_and];show x∈(yy kv a true).map (·.1)↔(x∈kv.map (·.1)\/x=a);rw [zk];split
 ·rename_i hn
  exact ⟨.inl,fun hx=>hx.elim id fun e=>e▸hn⟩
 rw [List.mem_append,List.mem_singleton]
def lc (g:TI)(a:Int)(c:TB):TI:=
 bif decide (a%2=1) then ⟨⟨g.m_.Uj.set (a / 2).toNat (yK c (bw g.m_ a).Ux),g.m_.Ul⟩,g.Ur,g.Uz,g.Uy⟩
 else ⟨⟨g.m_.Uj,g.m_.Ul.set (a / 2 - 1).toNat (yK c (bw g.m_ a).Ux)⟩,g.Ur,g.Uz,⟨zK g.Uy.at_ a c⟩⟩
def En (g:TI)(i:Int):Bool:=decide (0<=i)&&decide (i<(g.Ur.length:Int))
theorem Jy {g:TI}{i:Int}(h:En g i=true): ∃j:Nat,i=j/\j<g.Ur.length:=by
 unfold En at h;rw [Uf,decide_eq_true_eq,decide_eq_true_eq] at h;exact ⟨i.toNat,by omega,by omega⟩
theorem Jx (N:Nat)(g:TI)(i:Int):bi N g i=some (bif En g i then g.Ur.getD i.toNat vZ else vZ):=by
 unfold bi aK
 cases hb:En g i with
 |true=>
  obtain ⟨j,rfl,hj⟩:=Jy hb;rw [bs,cf,bs,TQ (p:=(j:Int)<0) V,cf,bs,TQ (p:=(g.Ur.length:Int)<=(j:Int)) V,cf,aL hj,bs,ct,Int.toNat_natCast,List.getD_eq_getElem?_getD,List.getElem?_eq_getElem hj];rfl
 |false=>
  unfold En at hb;rw [bs,cf,bs,cf];by_cases h1:i<0
  ·rw [cu h1,ct,bs];rfl
  rw [TQ h1,cf,bs];rw [TP (p:=(0:Int)<=i) V,Bool.true_and,decide_eq_false_iff_not] at hb;rw [TP (p:=(g.Ur.length:Int)<=i) V];rfl
end
section
open Go.RowKit
theorem IL (l:List Int)(cb:Ty): ∀xs:List Ty,4*(mT l cb xs).length+3*(eE l xs).length<=3*xs.length
 | []=>by simp [eE,mT]
 | [_]=>by simp [eE,mT]
 | [_,_]=>by simp [eE,mT]
 | [_,_,_]=>by simp [eE,mT]
 |t::h::k::s::r=>by
  have:=IL l cb r;unfold eE mT;cases decide (t.N∈l)<;>simp<;>omega
theorem Mk (N:Nat)(l:List Int)(c:TB):4*(iI l c).length+3*(lC N l c).Um.length<=3*c.Um.length:=by
 have h1:=(ri N l c).2;by_cases h10:c.Ui=10
 ·have:=IL l (c.Um.headD lE) (c.Um.drop 1);unfold lC iI;rw [TP h10,TQ (p:=c.Ui=8) V];show 4*(mT l (c.Um.headD lE) (c.Um.drop 1)).length+3*(c.Um.take 1++eE l (c.Um.drop 1)).length<=_;rw [Ub,Uc];rw [List.length_drop] at this;omega
 have e:iI l c=[]:=by unfold iI;rw [TQ h10];rfl
 rw [e] at h1⊢;simp only [List.length_nil] at h1⊢;omega
theorem zl {α:Type}(n:Nat)(g:α->Nat): ∀l:List α,bW (fun x=>n*g x) l=n*bW g l
 | []=>by simp [bW]
 |a::l=>by simp only [bW];rw [zl n g l,Nat.mul_add]
theorem Dl (m:TM):bW (fun a=>(bw m a).Um.length) (Bq m)=mS m.Uj+mS m.Ul:=by
 have h3:=oq (fun c:TB=>c.Um.length) (bw m) (Bq m);rw [DW,rD] at h3;exact h3.symm
theorem OB {N:Nat}{m:TM}{lv f:List Int}(hn:f.Nodup)(hf: ∀a∈f,aJ m a=true):4*(f.flatMap fun a=>iI lv (bw m a)).length+3*bW (fun a=>(lC N lv (bw m a)).Um.length) f<=3*(mS m.Uj+mS m.Ul):=by
 rw [wW]
 have h1:bW (fun a=>4*(iI lv (bw m a)).length+3*(lC N lv (bw m a)).Um.length) f<=bW (fun a=>3*(bw m a).Um.length) f:=xo fun a _=>Mk N lv (bw m a)
 rw [CC,zl,zl,zl] at h1
 have h2:=pR (fun a=>(bw m a).Um.length) hn fun a ha=>uk (hf a ha)
 rw [Dl] at h2;omega
theorem th (N:Nat)(a b:List Ty)(ha:a.length<=100000)(hb:b.length<=100000):cc N a b=some (a++b):=by
 unfold cc kG lx ig kf;rw [r64 V V,cn (a:=0+(a.length:Int)) V,cf,r64 V V,cn (a:=0+(a.length:Int)+(b.length:Int)) V,cf,r64 V V,r64 V V,cf];by_cases h:0<a.length+b.length
 ·rw [cu V,ct,dE ⟨by omega,by omega⟩,bs,rF (by simp;omega),rF (by simp;omega)];rfl
 rw [cn V,cf,bs,rF (by simp;omega),rF (by simp;omega)];rfl
theorem DP (N:Nat)(a:List Ty)(ha:a.length<=100000):cI N a=some a:=by
 unfold cI;rw [rF (by simp;omega)];rfl
theorem GK (N:Nat)(g:TI)(h:g.Ur.length<=600):lR N g=some g.Ur:=by
 unfold lR aK;rw [bs,cf,DP N _ V,bs]
section
variable {g:TI} (h:HB g)
include h
theorem HB.klen:g.Uy.at_.length<=g.m_.Ul.length:=by
 have h1:=pR (fun _=>1) h.nd (L:=ca g.m_.Ul.length) fun x hx=>gC.2 (h.keys x hx)
 rw [pc,pc,Ud] at h1;unfold ca at h1;simp only [Ud,List.length_range] at h1;omega
theorem HB.keysH {x:Int}(hx:x∈fG g.Uy.at_):aJ g.m_ x=true:=by
 obtain ⟨i,hi,rfl⟩:=h.keys x ((pe _ x).1 hx);rw [pq,TP hi]
theorem HB.kslen:(fG g.Uy.at_).length<=g.m_.Ul.length:=by
 have h1:=h.klen;have e:(fG g.Uy.at_).length=(g.Uy.at_.map Prod.fst).length:=tS _;rw [e,Ud];omega
theorem Dv (N:Nat):jh N g.Uy=some (fG g.Uy.at_):=by
 have h1:=h.klen;have h2:=h.small.old;unfold jh wO qn;rw [bs,dE ⟨fun x hx=>uW h.small (by obtain ⟨i,hi,rfl⟩:=h.keys x hx;rw [pq,TP hi]),h.nd,by show bJ g.Uy.at_.length;unfold bJ;omega⟩,bs]
end
theorem GF {m:TM}{kv:List (Int×Bool)}(h:kv.map Prod.fst=ko m):(kv.map Prod.fst).Nodup/\ ∀x∈kv.map Prod.fst, ∃i:Nat,i<m.Ul.length/\x=2*(i:Int)+2:=by
 rw [h];refine ⟨(zZ m).imp fun hab e=>by omega,fun x hx=> ?_⟩;obtain ⟨i,hi, -,e⟩:=rq.1 hx;exact ⟨i,hi,e⟩
theorem IG {N:Nat}(f:Ty->Ty)(r p gone:List Ty){R:Type}(F:List Ty->List Ty->Option R)(h1:r.length+p.length<=600)(h2:gone.length<=3000):
  be ((0:Int)<=(r.length:Int)/\0<=(r.length:Int).toNat/\(r.length:Int).toNat<=((r++p).map f).length) (be ((0:Int)<=(r.length:Int)/\(r.length:Int).toNat<=((r++p).map f).length/\((r++p).map f).length<=((r++p).map f).length) ((cI N ((((r++p).map f).drop 0).take ((r.length:Int).toNat - 0))).bind fun a1=>(cc N ((((r++p).map f).drop ((r.length:Int).toNat)).take (((r++p).map f).length - (r.length:Int).toNat)) gone).bind fun a2=>F a1 a2))=F (r.map f) (p.map f++gone):=by
 have e1:(((r++p).map f).drop 0).take ((r.length:Int).toNat - 0)=r.map f:=by
  rw [List.drop_zero,Nat.sub_zero,Int.toNat_natCast,List.map_append,List.take_left' (by simp)]
 have e2:(((r++p).map f).drop ((r.length:Int).toNat)).take (((r++p).map f).length - (r.length:Int).toNat)=p.map f:=by
  rw [Int.toNat_natCast,List.map_append,List.drop_left' (by simp)];exact List.take_of_length_le (by simp)
 have hl:((r++p).map f).length=r.length+p.length:=by simp
 rw [dE ⟨by omega,by omega,by omega⟩,dE ⟨by omega,by omega,by omega⟩,e1,e2,DP N _ (by simp;omega),bs,th N _ _ (by simp;omega) V,bs]
section
variable {N:Nat} {m:TM} {roots:List Ty} {kept met:List Int} (h:MinCtx N m roots kept met)
include h
theorem MinCtx.mid4:4*(wN m met).length+3*(mS (nS N m met).Uj+mS (nS N m met).Ul)<=3*(mS m.Uj+mS m.Ul):=by
 have h1:=OB (N:=N) (lv:=iM m met) h.nd fun a ha=>h.f1has ha
 have h2:=h.midSum fun c=>c.Um.length
 have h3:bW (fun a=>(qf N m met a).Um.length) (iM m met)=bW (fun a=>(lC N (iM m met) (bw m a)).Um.length) (iM m met):=rB fun a _=>by
  show ((lC N (iM m met) (bw m a)).Um.map _).length=_;rw [Ud]
 unfold mS wN at*;omega
end
section
variable {N:Nat} {m:TM} {roots:List Ty} {live f:List Int} (h:CollCtx N m roots live f)
include h
theorem CollCtx.next4:4*(vE m live f).length+3*(mS (gZ N m live f).Uj+mS (gZ N m live f).Ul)<=3*(mS m.Uj+mS m.Ul):=by
 have h1:=OB (N:=N) (lv:=live) h.lv.nd fun a ha=>h.lv.fhas ha
 have h3:mS (gZ N m live f).Ul=bW (fun a=>(lC N live (bw m a)).Um.length) f:=by
  show bW (fun c:TB=>c.Um.length) (f.map fun a=>kS (qX f) f (lC N live (bw m a)))=_;rw [oq]
  exact rB fun a _=>by show ((lC N live (bw m a)).Um.map _).length=_;rw [Ud]
 have h4:mS (gZ N m live f).Uj=0:=rfl;unfold vE at*;omega
theorem CollCtx.nextCnt:(gZ N m live f).Ul.length<=m.Uj.length+m.Ul.length:=by
 have h1:=pR (fun _=>1) h.lv.nd fun a ha=>uk (h.lv.fhas ha)
 rw [pc,pc] at h1;unfold Bq at h1;unfold gZ;simp only [Ub,Ud,List.length_range] at h1⊢;omega
end
theorem Nv {N:Nat}(hN:6500<N){g:TI}(h:HB g):
  (Di N g.m_ (g.Ur++g.Uz) (fG g.Uy.at_)=false/\d7 N g=some (1,g))\/
  ∃met kv,MinCtx N g.m_ (g.Ur++g.Uz) (fG g.Uy.at_) met/\kv.map Prod.fst=ko (nS N g.m_ met)/\
   d7 N g=some (0,⟨nS N g.m_ met,g.Ur.map (cW (iX g.m_ met) met),g.Uz.map (cW (iX g.m_ met) met)++(wN g.m_ met).map (cW (iX g.m_ met) met),⟨kv⟩⟩):=by
 have hs:=h.small;have hkl:=h.kslen;have ho:=hs.old;have hrl:=hs.roots;have hsum:=h.four;have hcnt:=h.wtd.cnt;rw [Ub] at hrl hsum;have hm:=Pa N g.m_ (g.Ur++g.Uz) (fG g.Uy.at_)
 have head:d7 N g=((dW N g.m_ (g.Ur++g.Uz) (fG g.Uy.at_)).bind fun a1=>CF a1 (fun y13_0=>some (.inl (y13_0.1,y13_0.2.1,y13_0.2.2))) (fun y13_1=>some (.inr (y13_1.1,y13_1.2.1,y13_1.2.2)))).bind fun a2=>(CF a2 (fun y26_0:TM×TN×TN=>gn N g y26_0.1.Uj y26_0.1.Ul y26_0.2.1 y26_0.2.2) (fun y26_1:TM×TN×TN=>dX N g y26_1.1.Uj y26_1.1.Ul y26_1.2.1 y26_1.2.2)).bind fun y9=>some (y9.1,y9.2):=by
  unfold d7 il mu aK;rw [bs,cf,th N _ _ V V,bs,Dv h N,bs,Option.bind_assoc]
 cases hmay:Di N g.m_ (g.Ur++g.Uz) (fG g.Uy.at_) with
 | false=>
  have e1:jc N g.m_ (g.Ur++g.Uz) (fG g.Uy.at_)=some (⟨[],[]⟩,[],[],1):=by
   unfold jc;rw [EH N hN hs h.w64 h.r64 _ V (fun x hx=>uW hs (h.keysH hx)),hmay,bs,nf,ct]
  rw [e1] at hm;refine .inl ⟨J,?_⟩;rw [head]
  cases hc:dW N g.m_ (g.Ur++g.Uz) (fG g.Uy.at_) with
  |none=>rw [hc] at hm;cases hm
  | some y=>
   rw [hc] at hm
   cases y with
   |inl y=>rfl
   |inr y=>
    have:=Option.some.inj hm;have:=congrArg (fun z:TM×TN×TN×Int=>z.2.2.2) this;exact absurd this (by show¬(1:Int)=0;omega)
 | true=>
  obtain ⟨met,c⟩:=Nm hN hs h.w64 h.r64 h.tot (kept:=fG g.Uy.at_) V hmay;have h4:=c.mid4;have hmc:=c.midCnt;obtain ⟨kv,k1,k2⟩:=CN N hN (m:=nS N g.m_ met) (c.midS V [] (by simp));have hg:((wN g.m_ met).map (cW (iX g.m_ met) met)).length=(wN g.m_ met).length:=Ud _;refine .inr ⟨met,kv,c,k2,?_⟩;rw [Lj c] at hm;rw [head]
  have ek:dW N g.m_ (g.Ur++g.Uz) (fG g.Uy.at_)=some (.inr (nS N g.m_ met,(g.Ur++g.Uz).map (cW (iX g.m_ met) met),(wN g.m_ met).map (cW (iX g.m_ met) met))):=by
   cases hc:dW N g.m_ (g.Ur++g.Uz) (fG g.Uy.at_) with
   |none=>rw [hc] at hm;cases hm
   | some y=>
    rw [hc] at hm;have e:=Option.some.inj hm
    cases y with
    |inl y=>
     have:=congrArg (fun z:TM×TN×TN×Int=>z.2.2.2) e;exact absurd this (by show¬(0:Int)=1;omega)
    |inr y=>
     obtain ⟨y1,y2,y3⟩:=y;have e':=e;simp only [Qu,Prod.mk.injEq,and_true] at e';obtain ⟨rfl,rfl,rfl⟩:=e';rfl
  rw [ek,bs]
  dsimp only [CF]
  rw [bs]
  dsimp only
  unfold dX gm;rw [IG (N:=N) (cW (iX g.m_ met) met) g.Ur g.Uz _ _ V V];have k1':cP N g.Uy (⟨(nS N g.m_ met).Uj,(nS N g.m_ met).Ul⟩:TM)=some ⟨kv⟩:=k1;rw [k1',bs,bs]
theorem HS {N:Nat}{m:TM}{R:List Ty}(h0:ls N m R=some 0){y:TM×List Ty×List Ty×Int}(h:dl N m R=some (.inl y)):False:=by
 unfold dl at h;rw [h0,bs,TP (p:=(0:Int)=0) rfl,nt,cf] at h;obtain ⟨a1, -,h⟩:=aa h;obtain ⟨a2, -,h⟩:=aa h;obtain ⟨a6, -,h⟩:=aa h;unfold qP at h;split at h
 ·obtain ⟨a7, -,h⟩:=aa h;obtain ⟨a8, -,h⟩:=aa h;split at h
  ·obtain ⟨b0, -,h⟩:=aa h;obtain ⟨b1, -,h⟩:=aa h;cases h
  ·cases h
  ·cases h
  cases h
 ·cases h
 ·cases h
 cases h
theorem Nw {N:Nat}(hN:6500<N){g:TI}(h:HB g):
  (nj N g.m_ (g.Ur++g.Uz)≠0/\d8 N g=some (nj N g.m_ (g.Ur++g.Uz),g))\/
  ∃live f kv,CollCtx N g.m_ (g.Ur++g.Uz) live f/\kv.map Prod.fst=ko (gZ N g.m_ live f)/\
   d8 N g=some (0,⟨gZ N g.m_ live f,g.Ur.map (cW (qX f) f),g.Uz.map (cW (qX f) f)++(vE g.m_ live f).map (cW (qX f) f),⟨kv⟩⟩):=by
 have hs:=h.small;have hrl:=hs.roots;have hsum:=h.four;have hcnt:=h.wtd.cnt;rw [Ub] at hrl hsum;obtain ⟨live,f,hl⟩:=Nr N hN hs h.w64 h.r64;have hp:=FX N hN hs h.wtd h.w64 h.r64 hl;have hm:=Pe N g.m_ (g.Ur++g.Uz);rw [hp] at hm;unfold Mj at hm
 have head:d8 N g=((dl N g.m_ (g.Ur++g.Uz)).bind fun a1=>CF a1 (fun y11_0=>some (.inl (y11_0.1,y11_0.2.1,y11_0.2.2.1,y11_0.2.2.2))) (fun y11_1=>some (.inr (y11_1.1,y11_1.2.1,y11_1.2.2)))).bind fun a2=>(CF a2 (fun y27_0:TM×TN×TN×Int=>d5 N g y27_0.1.Uj y27_0.1.Ul y27_0.2.1 y27_0.2.2.1 y27_0.2.2.2) (fun y27_1:TM×TN×TN=>dZ N g y27_1.1.Uj y27_1.1.Ul y27_1.2.1 y27_1.2.2)).bind fun y9=>some (y9.1,y9.2):=by
  unfold d8 im mw aK;rw [bs,cf,th N _ _ V V,bs,Option.bind_assoc]
 by_cases h0: ¬nj N g.m_ (g.Ur++g.Uz)=0
 ·rw [io h0,cond_false] at hm;refine .inl ⟨h0,?_⟩;rw [head]
  cases hc:dl N g.m_ (g.Ur++g.Uz) with
  |none=>rw [hc] at hm;cases hm
  | some y=>
   rw [hc] at hm;have e:=congrArg (fun z:TM×TN×TN×Int=>z.2.2.2) (Option.some.inj hm)
   cases y with
   |inl y=>
    obtain ⟨y1,y2,y3,y4⟩:=y;have e':nj N g.m_ (g.Ur++g.Uz)=y4:=e;rw [bs]
    dsimp only [CF]
    rw [bs]
    dsimp only
    unfold d5;rw [<-e',io h0,nf,ct,bs]
   |inr y=>exact absurd e h0
 replace h0:nj N g.m_ (g.Ur++g.Uz)=0:=by omega
 rw [o5 h0,cond_true] at hm;have c:=Pr hN hs h.wtd h.w64 h.r64 hl h0;have h4:=c.next4;have hnc:=c.nextCnt;have h0n:(gZ N g.m_ live f).Uj.length=0:=rfl;obtain ⟨kv,k1,k2⟩:=CN N hN (m:=gZ N g.m_ live f) (c.nextS [] (by simp));have k1':cP N g.Uy (⟨(gZ N g.m_ live f).Uj,(gZ N g.m_ live f).Ul⟩:TM)=some ⟨kv⟩:=k1;have hg:((vE g.m_ live f).map (cW (qX f) f)).length=(vE g.m_ live f).length:=Ud _;refine .inr ⟨live,f,kv,c,k2,?_⟩;rw [head]
 cases hc:dl N g.m_ (g.Ur++g.Uz) with
 |none=>rw [hc] at hm;cases hm
 | some y=>
  rw [hc] at hm;have e:=Option.some.inj hm
  cases y with
  |inl y=>exact (HS (by rw [DT N hN hs h.wtd h.w64 h.r64,h0]) hc).elim
  |inr y=>
   obtain ⟨y1,y2,y3⟩:=y;simp only [Ry,Prod.mk.injEq,and_true] at e;obtain ⟨rfl,rfl,rfl⟩:=e;rw [bs]
   dsimp only [CF]
   rw [bs]
   dsimp only
   unfold dZ gp;unfold G6
   dsimp only
   rw [IG (N:=N) (cW (qX f) f) g.Ur g.Uz _ _ V (by unfold vE at hg;rw [hg];unfold vE at h4;omega)];have k2':cP N g.Uy (⟨[],f.map fun a=>kS (qX f) f (lC N live (bw g.m_ a))⟩:TM)=some ⟨kv⟩:=k1;rw [k2',bs,bs];rfl
end
section
open Go.RowKit
theorem JW (N:Nat)(a b:Int):vh N a b=some (decide (a<b)):=by
 unfold vh ti;rw [bs,o5 rfl,Bool.not_true,cond_false,bs,cond_false,bs]
theorem Li {a b:Int}(h0:0<=a)(h1:a<b)(h2:b<=100000):IntKind.i64.wrap ((IntKind.u64.wrap (a+b)).fdiv (2 ^ 1))=(a+b) / 2:=by
 rw [IntWalk.u64_in _ ⟨by omega,by omega⟩,Int.fdiv_eq_ediv_of_nonneg _ V,show (2:Int) ^ 1=2 from rfl,IntWalk.i64_in _ ⟨by omega,by omega⟩]
theorem F0 (N:Nat)(hN:6500<N)(l:List Int)(x:Int)(hl:l.length<=1000)(ha:l.Pairwise (· < ·)):Sat (iR N l x) fun r=>r.2=decide (x∈l):=by
 unfold iR;have hg:=List.pairwise_iff_getElem.1 ha;refine oT (fun m (s:Int×Int)=>dA N x l m s.1 s.2) (fun s=>(s.2 - s.1).toNat) (fun s=>0<=s.1/\s.1<=s.2/\s.2<=l.length/\(∀(j:Nat) (hj:j<l.length),(j:Int)<s.1->l[j]<x)/\(∀(j:Nat) (hj:j<l.length),s.2<=(j:Int)->x<=l[j])) _ ?_ N (0,(l.length:Int)) (by show ((l.length:Int) - 0).toNat<N;omega) ⟨by omega,by show (0:Int)<=l.length;omega,by show (l.length:Int)<=l.length;omega,fun j hj h=>by have:(j:Int)<0:=h;omega,fun j hj h=>by have:(l.length:Int)<=j:=h;omega⟩;rintro m ⟨a,b⟩ ⟨h0,h1,h2,h3,h4⟩ k
 dsimp only at h0 h1 h2 h3 h4
 show Sat (dA N x l (m+1) a b) _;rw [dA.eq_2]
 refine dO (fun hab=> ?_) fun hab=> ?_
 ·have hm:((a+b) / 2).toNat<l.length:=by omega
  rw [r64 V V,Li h0 hab V,FM V hm,bs,JW,bs]
  refine dO (fun hlt=> ?_) fun hlt=> ?_
  ·rw [r64 V V];refine k ((a+b) / 2+1,b) (by show (b - ((a+b) / 2+1)).toNat<(b - a).toNat;omega) ⟨by show 0<=(a+b) / 2+1;omega,by show (a+b) / 2+1<=b;omega,h2,fun j hj h=> ?_,h4⟩;have h:(j:Int)<(a+b) / 2+1:=h;rcases Nat.lt_or_ge j ((a+b) / 2).toNat with h5|h5
   ·have:=hg j _ hj hm h5;omega
   have e:j=((a+b) / 2).toNat:=by omega
   subst e;exact hlt
  refine k (a,(a+b) / 2) (by show ((a+b) / 2 - a).toNat<(b - a).toNat;omega) ⟨h0,by show a<=(a+b) / 2;omega,by show (a+b) / 2<=l.length;omega,h3,fun j hj h=> ?_⟩;have h:(a+b) / 2<=(j:Int):=h;rcases Nat.lt_or_ge ((a+b) / 2).toNat j with h5|h5
  ·have:=hg _ j hm hj h5;omega
  have e:j=((a+b) / 2).toNat:=by omega
  subst e;omega
 obtain rfl:a=b:=by omega
 unfold kJ ot;by_cases hlt:a<l.length
 ·have ht:a.toNat<l.length:=by omega
  rw [cu hlt,cond_true,FM h0 ht,bs];by_cases he:l[a.toNat]=x
  ·rw [o5 he,cond_true,bs,bs];exact ax (Eq.symm (TP (he▸Uh ht)))
  rw [io he,cond_false,bs,bs,o5 rfl,Bool.not_true,cond_false,bs,bs,bs];refine ax (Eq.symm (TQ fun hx=> ?_));obtain ⟨j,hj,rfl⟩:=List.mem_iff_getElem.1 hx;rcases Nat.lt_trichotomy j a.toNat with h5|h5|h5
  ·have:=h3 j hj V;omega
  ·subst h5;exact he J
  have h6:=hg _ _ ht hj h5;have:=h4 a.toNat ht V;omega
 rw [cn V,cond_false,bs];refine ax (Eq.symm (TQ fun hx=> ?_));obtain ⟨j,hj,rfl⟩:=List.mem_iff_getElem.1 hx;have:=h3 j hj V;omega
theorem K6 (m:TM)(l:List Int):tb m l=(List.range m.Ul.length).all fun i=> !mV m i||decide ((2*(i:Int)+2)∈l):=rfl
theorem JA (n:Nat)(p:Nat->Bool):(List.range n).all p=true↔ ∀i,i<n->p i=true:=by
 rw [List.all_eq_true];exact ⟨fun h i hi=>h i (List.mem_range.2 hi),fun h i hi=>h i (List.mem_range.1 hi)⟩
theorem D4 {N:Nat}(hN:6500<N){m:TM}{roots:List Ty}(hs:Small m roots){l:List Int}(ha:l.Pairwise (· < ·))(hf: ∀x∈l, ∃i:Nat,i<m.Ul.length/\x=2*(i:Int)+2)(hl:l.length<=1000):oz N m l=some (tb m l):=by
 have ho:=hs.old
 have second:iA N m l N 0=some (tb m l):=by
  rw [K6]
  have key: ∀k i:Nat,m.Ul.length<k+i->i<=m.Ul.length->Sat (iA N m l k (i:Int)) fun b=>b=true↔ ∀j,i<=j->j<m.Ul.length->(!mV m j||decide ((2*(j:Int)+2)∈l))=true:=by
   intro k
   induction k with
   |zero=>intro i h1 h2;omega
   | succ k ih=>
    intro i h1 h2;rw [iA.eq_2];by_cases hi:i<m.Ul.length
    ·have h3:=ih (i+1) V hi;rw [show (((i+1:Nat)):Int)=(i:Int)+1 by omega] at h3;have hc:=hs.cells _ (TU m.Uj (Uh hi))
     have e:(bZ m.Ul[i]).any yB=mV m i:=by unfold mV;rw [oh m i hi]
     obtain ⟨r,e1,e2⟩:=F0 N hN l (2*(i:Int)+2) hl ha;rw [cu V,ct,aL hi,bs,r64 V V,r64 V V,e1,bs,e2,tu N hN _ hc.1 hc.2,e]
     have e3:((bif !decide (2*(i:Int)+2∈l) then (some (mV m i)).bind fun a1=>some a1 else some false):Option Bool)=some (!(!mV m i||decide (2*(i:Int)+2∈l))):=by
      cases decide (2*(i:Int)+2∈l)<;>cases mV m i<;>rfl
     rw [e3,bs]
     cases hb:!mV m i||decide (2*(i:Int)+2∈l) with
     |false=>
      rw [nf,ct];refine ax ⟨fun h=>(by cases h),fun h=> ?_⟩;have:=h i (Nat.le_refl _) hi;rw [hb] at this;cases this
     |true=>
      rw [nt,cf,r64 V V]
      refine h3.mono fun b h=>h.trans ⟨fun h j h1 h2=> ?_,fun h j h1 h2=>h j V h2⟩
      rcases Nat.lt_or_ge i j with h4|h4
      ·exact h j V h2
      obtain rfl:j=i:=by omega
      exact hb
    rw [cn V,cf];exact ax ⟨fun _ j h1 h2=>by omega,fun _=>rfl⟩
  obtain ⟨b,e1,e2⟩:=key N 0 V V;have e1':iA N m l N 0=some b:=e1;rw [e1']
  congr 1
  rw [Bool.eq_iff_iff,e2,JA];exact ⟨fun h i hi=>h i (Nat.zero_le _) hi,fun h i _ hi=>h i hi⟩
 have hg:=List.pairwise_iff_getElem.1 ha;unfold oz
 have key: ∀k i:Nat,l.length<k+i->i<=l.length->nE N l m k (i:Int)=some (tb m l):=by
  intro k
  induction k with
  |zero=>intro i h1 h2;omega
  | succ k ih=>
   intro i h1 h2;rw [nE.eq_2];by_cases hi:i<l.length
   ·have h3:=ih (i+1) V hi;rw [show (((i+1:Nat)):Int)=(i:Int)+1 by omega] at h3;obtain ⟨j,hj,ej⟩:=hf _ (Uh hi)
    have ep:((bif decide (0<(i:Int)) then (be (in64 ((i:Int) - 1)) ((aw l ((i:Int) - 1)).bind fun a2=>some (decide (l[i]<=a2)))) else (some false)).bind fun a6=>some a6)=some false:=by
     by_cases h0:0<i
     ·have e1:(i:Int) - 1=((i - 1:Nat):Int):=by omega
      have:=hg (i - 1) i V hi V;rw [cu V,ct,r64 V V,e1,aL V,bs,bs,TQ V]
     rw [cn V,cf,bs]
    unfold mG;rw [cu V,ct,aL hi,bs,ep,ej,cu V,ct,qE V,o5 V,bs,bs,nt,cf,r64 (by rw [Int.tdiv_eq_ediv_of_nonneg V];omega) (by rw [Int.tdiv_eq_ediv_of_nonneg V];omega),bs,Int.tdiv_eq_ediv_of_nonneg V,cn V,cf,bs,cf,r64 V V];exact h3
   rw [cn V,cf];exact second
 exact key N 0 V V
theorem DU (m:TM): ∀l:List Ty,l.any (fun v=>bm v&& !aJ m v.N)=!dn m (bN l)
 | []=>rfl
 |v::l=>by
  have ih:=DU m l;unfold dn bN at ih⊢;rw [List.any_cons,ih,List.filter_cons]
  cases hb:bm v with
  |false=>rw [if_neg (by simp)];rfl
  |true=>rw [if_pos rfl,List.map_cons,List.all_cons];cases aJ m v.N<;>rfl
def FK (g:TI):Int:=bif !dn g.m_ (bN (g.Ur++g.Uz)) then 50 else bif !((g.m_.Uj++g.m_.Ul).all fun c=>dn g.m_ (bZ c)) then 50 else bif tb g.m_ (fG g.Uy.at_) then 0 else 6
theorem JV {N:Nat}(hN:6500<N){g:TI}(h:HB g){c:TB}(hc:c∈g.m_.Uj++g.m_.Ul):mO N g c=some (!dn g.m_ (bZ c)):=by
 have hs:=h.small.cells c hc;have h1:=kU c;have h2:=nZ c;unfold mO;rw [nT N V c V V,bs,sL N V c V V,bs,BN N _ _ V V,bs,AA N _ (fun x=> !aJ g.m_ x) _ (by rw [Ub];omega) (by rw [Ub];omega) (fun x hx=> ?_),bs,Cq]
 ·rfl
 obtain ⟨v,hv, -,rfl⟩:=ut (c:=c) hx;unfold ng;rw [IP N g (h.w64 c hc v hv),bs]
theorem Nx {N:Nat}(hN:6500<N){g:TI}(h:HB g):d9 N g=some (FK g):=by
 have hs:=h.small;have hrl:=hs.roots;have hcnt:=h.wtd.cnt;have hrl':=hrl;rw [Ub] at hrl'
 have hj: ∀b,ib N g b=some (bif b then 50 else bif tb g.m_ (fG g.Uy.at_) then 0 else 6):=fun b=>by
  unfold ib;rw [Dv h N,bs,D4 hN hs (l:=fG g.Uy.at_) (AI h.nd) (fun x hx=>h.keys x ((pe _ x).1 hx)) (by have:=h.kslen;omega),bs];cases b<;>cases tb g.m_ (fG g.Uy.at_)<;>rfl
 have ha: ∀v∈g.Ur++g.Uz,kW N g v=some (bm v&& !aJ g.m_ v.N):=fun v hv=>by
  unfold kW
  have e:((bif decide (v.Ui=7) then (some true) else (some (decide (v.Ui=9)))):Option Bool)=some (bm v):=by
   unfold bm;cases decide (v.Ui=7)<;>rfl
  rw [e,bs,IP N g (h.r64 v hv),bs];cases bm v<;>rfl
 have hcells:dr N (g.m_.Uj++g.m_.Ul) g=some (!(g.m_.Uj++g.m_.Ul).all fun c=>dn g.m_ (bZ c)):=by
  have key: ∀k i:Nat,(g.m_.Uj++g.m_.Ul).length<k+i->i<=(g.m_.Uj++g.m_.Ul).length->Sat (cH N (g.m_.Uj++g.m_.Ul) g k (i:Int)) fun r=>decide (0<=r)=!((g.m_.Uj++g.m_.Ul).drop i).all fun c=>dn g.m_ (bZ c):=by
   intro k
   induction k with
   |zero=>intro i h1 h2;omega
   | succ k ih=>
    intro i h1 h2
    have hl:(g.m_.Uj++g.m_.Ul).length<=600:=by rw [Ub];omega
    rw [cH.eq_2];by_cases hi:i<(g.m_.Uj++g.m_.Ul).length
    ·have h3:=ih (i+1) V hi;rw [show (((i+1:Nat)):Int)=(i:Int)+1 by omega] at h3;rw [cu V,ct,aL hi,bs,List.drop_eq_getElem_cons hi,List.all_cons,JV hN h (Uh hi),bs,r64 V V];cases dn g.m_ (bZ (g.m_.Uj++g.m_.Ul)[i])
     ·exact ax (by rw [TP V];rfl)
     exact h3
    rw [cn V,cf,List.drop_eq_nil_of_le V];exact ax J
  obtain ⟨r,h1,h2⟩:=key N 0 (by rw [Ub];omega) V;have h1':cH N (g.m_.Uj++g.m_.Ul) g N 0=some r:=h1;unfold dr gG;rw [h1',bs,h2,List.drop_zero]
 unfold d9 aK FK;rw [bs,cf,th N _ _ V V,bs,Jf N _ _ _ V V ha,bs,DU,Aq N _ _ V V,bs,hcells,bs,hj,hj]
 cases dn g.m_ (bN (g.Ur++g.Uz))<;>cases (g.m_.Uj++g.m_.Ul).all fun c=>dn g.m_ (bZ c)<;>rfl
theorem E6 {f:List Int}{a b:List Ty}(h:i5 f (a++b)):i5 f a:=fun v hv hb=>h v (TT _ hv) hb
theorem Is {lv:List Int}{c:TB}(h:c.Ui≠10):iI lv c=[]:=by
 unfold iI;rw [TQ h];rfl
theorem FY {N:Nat}{lv:List Int}{c:TB}(h8:c.Ui≠8)(h10:c.Ui≠10):lC N lv c=c:=by
 unfold lC;rw [TQ h8,TQ h10];rfl
theorem PS {m:TM}{kv:List (Int×Bool)}(h:kv.map Prod.fst=ko m):fG kv=ko m:=by
 have e:fG kv=jK (kv.map Prod.fst):=rfl;rw [e,h]
 exact CE ((zZ m).imp fun hab e=>by omega) (zZ m) fun x=>Iff.rfl
structure Pl (g:TI):Prop where
 hb:HB g
 pend:g.Uz=[]
 cells: ∀c∈g.m_.Uj++g.m_.Ul,bx c=true/\(∀x∈bZ c,aJ g.m_ x=true)/\c.Ui≠8/\c.Ui≠10
 roots: ∀x∈bN g.Ur,aJ g.m_ x=true
 set:fG g.Uy.at_=ko g.m_
structure Mv (g g':TI) (ρ:Int->Int) (f:List Int):Prop where
 roots:g'.Ur=g.Ur.map (cW ρ f)
 pend:g'.Uz=[]
 at_: ∀a∈f,aJ g'.m_ (ρ a)=true/\ ∃age,bw g'.m_ (ρ a)=yD (kS ρ f (bw g.m_ a)) age
 rin:i5 f g.Ur
 has: ∀a∈f,aJ g.m_ a=true
 cells: ∀c∈g'.m_.Uj++g'.m_.Ul,(∃a∈f, ∃age,c=yD (kS ρ f (bw g.m_ a)) age)/\bx c=true/\ ∀x∈bZ c,aJ g'.m_ x=true
 cnt:g'.m_.Uj.length+g'.m_.Ul.length<=g.m_.Uj.length+g.m_.Ul.length
 sum:mS g'.m_.Uj+mS g'.m_.Ul<=mS g.m_.Uj+mS g.m_.Ul
 wts:wt g'.m_.Uj+wt g'.m_.Ul<=wt g.m_.Uj+wt g.m_.Ul
 w64:W64 g'.m_
 r64: ∀v∈g'.Ur,in64 v.N
 set:g'.Uy.at_.map Prod.fst=ko g'.m_
 inj: ∀a∈f, ∀b∈f,ρ a=ρ b->a=b
 cin: ∀a∈f,i5 f (bw g.m_ a).Uo/\i5 f (bw g.m_ a).Um
theorem Pl.check {N:Nat}(hN:6500<N){g:TI}(h:Pl g):nj N g.m_ (g.Ur++g.Uz)=0:=by
 unfold nj
 have e1:(g.m_.Uj++g.m_.Ul).all (qp N)=true:=by
  rw [List.all_eq_true];intro c hc;have:=h.hb.small.cells c hc;rw [Gl V V V];exact (h.cells c hc).1
 have e2:dn g.m_ ((g.m_.Uj++g.m_.Ul).flatMap bZ++bN (g.Ur++g.Uz))=true:=by
  unfold dn;rw [List.all_eq_true];intro x hx;rcases List.mem_append.1 hx with hx|hx
  ·obtain ⟨c,hc,hx⟩:=List.mem_flatMap.1 hx;exact (h.cells c hc).2.1 x hx
  rw [h.pend,List.append_nil] at hx;exact h.roots x hx
 rw [e1,e2];rfl
theorem Pl.may {N:Nat}(hN:6500<N){g:TI}(h:Pl g):Di N g.m_ (g.Ur++g.Uz) (fG g.Uy.at_)=true:=by
 rw [h.set,JS,h.pend,List.append_nil];unfold DD AH dn;rw [Uf,List.all_eq_true,List.all_eq_true];refine ⟨fun x hx=>h.roots x hx,fun c hc=> ?_⟩;have:=h.hb.small.cells c hc;have ha:=(h.cells c hc).2.1;unfold Ae;rw [ph N V c V V,(h.cells c hc).1];show (true&&_)=true;rw [Bool.true_and,Uf];unfold dn;rw [List.all_eq_true,List.all_eq_true];exact ⟨fun x hx=>ha x (TT _ hx),fun x hx=>ha x (TU _ hx)⟩
theorem FJ {g:TI}(h1: ∀x∈bN (g.Ur++g.Uz),aJ g.m_ x=true)(h2: ∀c∈g.m_.Uj++g.m_.Ul, ∀x∈bZ c,aJ g.m_ x=true)(h3:fG g.Uy.at_=ko g.m_):FK g=0:=by
 have e1:dn g.m_ (bN (g.Ur++g.Uz))=true:=List.all_eq_true.2 h1
 have e2:((g.m_.Uj++g.m_.Ul).all fun c=>dn g.m_ (bZ c))=true:=List.all_eq_true.2 fun c hc=>List.all_eq_true.2 (h2 c hc)
 unfold FK;rw [e1,e2,h3,IF];rfl
theorem Pl.ok {g:TI}(h:Pl g){N:Nat}(hN:6500<N):d9 N g=some 0:=by
 rw [Nx hN h.hb,FJ (fun x hx=> ?_) (fun c hc=>(h.cells c hc).2.1) h.set];rw [h.pend,List.append_nil] at hx;exact h.roots x hx
theorem Lh {N:Nat}(hN:6500<N){g:TI}(h:Pl g): ∃g' ρ f,d7 N g=some (0,g')/\Mv g g' ρ f:=by
 have hcnt:=h.hb.wtd.cnt;rcases Nv hN h.hb with ⟨hm, -⟩|⟨met,kv,c,k2,e⟩
 ·rw [h.may hN] at hm;cases hm
 have ef:cW (iX g.m_ met) met=cW (iX g.m_ met) (iM g.m_ met):=funext fun v=>(Df v).symm
 have hin:i5 (iM g.m_ met) g.Ur:=E6 c.rootIn
 have hk: ∀a∈iM g.m_ met,(bw g.m_ a).Ui≠8/\(bw g.m_ a).Ui≠10:=fun a ha=>(h.cells _ (eJ (c.f1has ha))).2.2
 have hg:wN g.m_ met=[]:=by
  unfold wN;rw [List.flatMap_eq_nil_iff]
  exact fun a ha=>Is (hk a ha).2
 have hp:g.Uz.map (cW (iX g.m_ met) met)++(wN g.m_ met).map (cW (iX g.m_ met) met)=[]:=by rw [hg,h.pend];rfl
 rw [hp] at e
 have hc: ∀a∈iM g.m_ met, ∃age,qf N g.m_ met a=yD (kS (iX g.m_ met) (iM g.m_ met) (bw g.m_ a)) age:=fun a ha=>⟨_,by
  unfold qf
  rw [c.nCE a,FY (hk a ha).1 (hk a ha).2]⟩
 have h4:=c.mid4;rw [hg,List.length_nil] at h4;refine ⟨_,iX g.m_ met,iM g.m_ met,e,⟨by rw [<-ef],rfl,fun a ha=> ?_,hin,fun a ha=>c.f1has ha,fun d hd=> ?_,c.midCnt,by show mS (nS N g.m_ met).Uj+mS (nS N g.m_ met).Ul<=_;omega,c.midWt,c.midW,fun v hv=> ?_,k2,fun a ha b hb=>c.ren.inj a b ha hb,fun a ha=> ?_⟩⟩
 ·obtain ⟨h1,h2⟩:=c.at_ ha;obtain ⟨age,h3⟩:=hc a ha;exact ⟨h1,age,h2.trans h3⟩
 ·obtain ⟨a,ha,rfl⟩:=c.midMem hd;obtain ⟨h1,h2⟩:=c.midAddr hd;exact ⟨⟨a,ha,hc a ha⟩,h1,h2⟩
 ·have hv':v∈g.Ur.map (cW (iX g.m_ met) met):=hv;rw [ef] at hv';exact c.now64 v (by rw [List.map_append];exact TT _ hv')
 have:=(c.cell ha).inC;rw [FY (hk a ha).1 (hk a ha).2] at this;exact this
theorem Lo {N:Nat}(hN:6500<N){g:TI}(h:Pl g): ∃g' ρ f,d8 N g=some (0,g')/\Mv g g' ρ f:=by
 rcases Nw hN h.hb with ⟨hm, -⟩|⟨live,f,kv,c,k2,e⟩
 ·exact absurd (h.check hN) hm
 have hin:i5 f g.Ur:=E6 c.rootIn
 have hk: ∀a∈f,(bw g.m_ a).Ui≠8/\(bw g.m_ a).Ui≠10:=fun a ha=>(h.cells _ (eJ (c.lv.fhas ha))).2.2
 have hg:vE g.m_ live f=[]:=by
  unfold vE;rw [List.flatMap_eq_nil_iff]
  exact fun a ha=>Is (hk a ha).2
 have hp:g.Uz.map (cW (qX f) f)++(vE g.m_ live f).map (cW (qX f) f)=[]:=by rw [hg,h.pend];rfl
 rw [hp] at e;have h4:=c.next4;have ht:=c.nextTot;have hnc:=c.nextCnt;rw [hg,List.length_nil] at h4;rw [hg,List.map_nil,List.append_nil,Ud] at ht;have h0n:(gZ N g.m_ live f).Uj.length=0:=rfl
 have hc: ∀a∈f,kS (qX f) f (lC N live (bw g.m_ a))=yD (kS (qX f) f (bw g.m_ a)) (bw g.m_ a).Ux:=fun a ha=>by
  rw [FY (hk a ha).1 (hk a ha).2];rfl
 refine ⟨_,qX f,f,e,⟨J,J,fun a ha=> ?_,hin,fun a ha=>c.lv.fhas ha,fun d hd=> ?_,by show (gZ N g.m_ live f).Uj.length+(gZ N g.m_ live f).Ul.length<=_;omega,by show mS (gZ N g.m_ live f).Uj+mS (gZ N g.m_ live f).Ul<=_;omega,by show wt (gZ N g.m_ live f).Uj+wt (gZ N g.m_ live f).Ul<=_;omega,c.nextW,fun v hv=> ?_,k2,fun _ ha _ hb=>Iw ha hb,fun a ha=> ?_⟩⟩
 ·exact ⟨Gw ha,_,(Nj ha).trans (hc a ha)⟩
 ·have hd':d∈f.map fun a=>kS (qX f) f (lC N live (bw g.m_ a)):=hd
  obtain ⟨h1,h2⟩:=c.nextAddr hd';obtain ⟨a,ha,rfl⟩:=List.mem_map.1 hd';exact ⟨⟨a,ha,_,hc a ha⟩,h1,h2⟩
 ·exact c.now64 v (by rw [List.map_append];exact TT _ hv)
 have:=(c.cell ha).inC;rw [FY (hk a ha).1 (hk a ha).2] at this;exact this
theorem Mv.pl {g g':TI}{ρ:Int->Int}{f:List Int}(m:Mv g g' ρ f)(h:Pl g):Pl g':=by
 obtain ⟨n1,n2⟩:=GF m.set;have hs:=h.hb.small;have hw:=h.hb.wtd
 have hl:g'.Ur.length=g.Ur.length:=by rw [m.roots,Ud]
 have hrl:=hs.roots;have hle:=hw.le;have hf:=h.hb.four;have ht:=h.hb.tot;have hwc:=hw.cnt;have hc:=m.cnt;have hwt:=m.wts;have hsum:=m.sum;rw [Dl] at ht;rw [h.pend,List.append_nil] at hrl hle hf
 have hsz: ∀c∈g'.m_.Uj++g'.m_.Ul,c.Uo.length<=600/\c.Um.length<=600:=fun c hc=>by
  obtain ⟨⟨a,ha,age,rfl⟩, -⟩:=m.cells c hc;have:=hs.cells _ (eJ (m.has a ha));show ((bw g.m_ a).Uo.map _).length<=600/\((bw g.m_ a).Um.map _).length<=600;rw [Ud,Ud];exact this
 refine ⟨⟨⟨by omega,by omega,?_,hsz⟩,⟨?_,by omega⟩,?_,?_,m.w64,?_,n1,n2⟩,m.pend,fun c hc=> ?_,fun x hx=> ?_,PS m.set⟩
 ·rw [m.pend,List.append_nil];omega
 ·rw [m.pend,List.append_nil];omega
 ·rw [Dl];omega
 ·rw [m.pend,List.append_nil];omega
 ·rw [m.pend,List.append_nil];exact m.r64
 ·obtain ⟨⟨a,ha,age,rfl⟩,h1,h2⟩:=m.cells c hc;exact ⟨h1,h2,(h.cells _ (eJ (m.has a ha))).2.2⟩
 obtain ⟨v,hv,hb,rfl⟩:=lw.1 hx;rw [m.roots] at hv;obtain ⟨w,hw,rfl⟩:=List.mem_map.1 hv;rw [Ck] at hb;rw [AV hb (m.rin w hw hb)];exact (m.at_ _ (m.rin w hw hb)).1
def OR (S:List Int)(c:TB):List Ty:=bif decide (c.Ui=8) then iN (fun x=>decide (x∈S)) c.Um else c.Um
structure IsoC (ρ:Int->Int) (S:List Int) (c d:TB):Prop where
 kind:d.Ui=c.Ui
 shape:d.Uw=c.Uw
 flags:d.Uv=c.Uv
 slots:d.Uo=c.Uo.map (cW ρ S)
 more:OR (S.map ρ) d=(OR S c).map (cW ρ S)
 inS:i5 S c.Uo
 inM:i5 S (OR S c)
structure TVal (m:TM) (R:List Ty):Prop where
 right: ∀c∈m.Uj++m.Ul,bx c=true
 kind: ∀c∈m.Uj++m.Ul,c.Ui=8\/c.Ui=11
 addr: ∀c∈m.Uj++m.Ul, ∀x∈bZ c,aJ m x=true
 size: ∀c∈m.Uj++m.Ul,c.Uo.length<=20/\c.Um.length<=20
 roots: ∀v∈R,v=lE\/(v.Ui=9/\v.S=⟨#[]⟩/\aJ m v.N=true)
structure Iso (mA mB:TM) (RA RB:List Ty) (S:List Int) (ρ:Int->Int):Prop where
 ren:Ren ρ S
 inA: ∀a∈S,aJ mA a=true
 inB: ∀a∈S,aJ mB (ρ a)=true
 cell: ∀a∈S,IsoC ρ S (bw mA a) (bw mB (ρ a))
 rootIn:i5 S RA
 roots:RB=RA.map (cW ρ S)
section
variable {m:TM} {R:List Ty} (h:TVal m R)
include h
end
section
variable {mA mB:TM} {RA RB:List Ty} {S:List Int} {ρ:Int->Int} (h:Iso mA mB RA RB S ρ) (vA:TVal mA RA) (vB:TVal mB RB)
include h vA vB
end
end
section
open Go.RowKit
structure TInv (k:Nat) (g:TI):Prop where
 inv:HInv k g
 val:TVal g.m_ g.Ur
 pend:g.Uz=[]
 set:fG g.Uy.at_=ko g.m_
def RE (l:List Ty)(i:Int):Ty:=bif decide ((l.length:Int)=0)||decide (i<0) then vZ else l.getD (i.tmod l.length).toNat vZ
def Rt (m:TM)(v:Ty):Prop:=v=lE\/(v.Ui=9/\v.S=⟨#[]⟩/\aJ m v.N=true)
def RN (a b:Ty):TB:=⟨11,0,0,0,[],[a,b]⟩
def QM (a b:Ty):TB:=⟨8,0,1,0,[⟨1,0,⟨#[]⟩⟩],[⟨7,a.N,⟨#[]⟩⟩,b]⟩
def RG (c:TB)(b:Ty):TB:=⟨c.Ui,c.Uw,c.Uv,c.Ux,c.Uo,c.Um++ [b]⟩
def Rk (g:TI)(c:TB):TI:=⟨⟨g.m_.Uj++ [c],g.m_.Ul⟩,g.Ur++ [⟨9,2*(g.m_.Uj.length:Int)+1,⟨#[]⟩⟩],g.Uz,g.Uy⟩
def RI (g:TI)(a:Ty):Bool:=aJ g.m_ a.N&&decide (a.Ui=9)&&decide ((bw g.m_ a.N).Ui=11)&&decide (((bw g.m_ a.N).Um.length:Int)<6)
theorem Hg {m:TM}(c:TB):(∀x,aJ m x=true->aJ ⟨m.Uj++ [c],m.Ul⟩ x=true/\bw ⟨m.Uj++ [c],m.Ul⟩ x=bw m x)/\aJ ⟨m.Uj++ [c],m.Ul⟩ (2*(m.Uj.length:Int)+1)=true/\bw ⟨m.Uj++ [c],m.Ul⟩ (2*(m.Uj.length:Int)+1)=c/\aJ m (2*(m.Uj.length:Int)+1)=false:=by
 refine ⟨fun x hx=> ?_,?_,?_,?_⟩
 ·rcases fM hx with ⟨i,hi,rfl⟩|⟨i,hi,rfl⟩
  ·have h2:i<(m.Uj++ [c]).length:=by simp;omega
   exact ⟨by rw [uX];exact TP h2,by rw [qQ ⟨m.Uj++ [c],m.Ul⟩ i h2,qQ m i hi];exact List.getElem_append_left hi⟩
  exact ⟨by rw [pq];exact TP hi,by rw [oh ⟨m.Uj++ [c],m.Ul⟩ i hi,oh m i hi]⟩
 ·rw [uX];exact TP (by simp)
 ·rw [qQ ⟨m.Uj++ [c],m.Ul⟩ m.Uj.length (by simp)];simp
 rw [uX];exact TQ V
def tY (m:TM)(a:Int)(c:TB):TM:=bif decide (a%2=1) then ⟨m.Uj.set (a / 2).toNat c,m.Ul⟩ else ⟨m.Uj,m.Ul.set (a / 2 - 1).toNat c⟩
theorem F2 {m:TM}{a:Int}(c:TB)(h:aJ m a=true):(∀x,aJ (tY m a c) x=aJ m x)/\(∀x,aJ m x=true->bw (tY m a c) x=if x=a then c else bw m x)/\(tY m a c).Uj.length=m.Uj.length/\(tY m a c).Ul.length=m.Ul.length/\(∀d∈(tY m a c).Uj++(tY m a c).Ul,d∈m.Uj++m.Ul\/d=c)/\mS (tY m a c).Uj+mS (tY m a c).Ul<=mS m.Uj+mS m.Ul+c.Um.length:=by
 have hhas: ∀m':TM,m'.Uj.length=m.Uj.length->m'.Ul.length=m.Ul.length-> ∀x,aJ m' x=aJ m x:=fun m' h1 h2 x=>by
  rw [Bool.eq_iff_iff];constructor
  ·intro hx;rcases fM hx with ⟨i,hi,rfl⟩|⟨i,hi,rfl⟩
   ·rw [uX];exact TP V
   rw [pq];exact TP V
  intro hx;rcases fM hx with ⟨i,hi,rfl⟩|⟨i,hi,rfl⟩
  ·rw [uX];exact TP V
  rw [pq];exact TP V
 rcases fM h with ⟨j,hj,rfl⟩|⟨j,hj,rfl⟩
 ·have e:tY m (2*(j:Int)+1) c=⟨m.Uj.set j c,m.Ul⟩:=by
   unfold tY;rw [TP V,cond_true,show ((2*(j:Int)+1) / 2).toNat=j by omega]
  rw [e];refine ⟨hhas _ (List.length_set ..) J,fun x hx=> ?_,List.length_set ..,J,fun d hd=> ?_,?_⟩
  ·rcases fM hx with ⟨i,hi,rfl⟩|⟨i,hi,rfl⟩
   ·rw [qQ ⟨m.Uj.set j c,m.Ul⟩ i (by simpa using hi),qQ m i hi];simp only [List.getElem_set];by_cases hij:j=i
    ·rw [if_pos hij,if_pos V]
    rw [if_neg hij,if_neg V]
   rw [oh ⟨m.Uj.set j c,m.Ul⟩ i hi,oh m i hi,if_neg V]
  ·rcases List.mem_append.1 hd with hd|hd
   ·rcases List.mem_or_eq_of_mem_set hd with hd|hd
    ·exact .inl (TT _ hd)
    exact .inr hd
   exact .inl (TU _ hd)
  have:=CB (fun c:TB=>c.Um.length) c m.Uj j;unfold mS;simp only at this⊢;omega
 have e:tY m (2*(j:Int)+2) c=⟨m.Uj,m.Ul.set j c⟩:=by
  unfold tY;rw [TQ V,cond_false,show ((2*(j:Int)+2) / 2 - 1).toNat=j by omega]
 rw [e];refine ⟨hhas _ J (List.length_set ..),fun x hx=> ?_,J,List.length_set ..,fun d hd=> ?_,?_⟩
 ·rcases fM hx with ⟨i,hi,rfl⟩|⟨i,hi,rfl⟩
  ·rw [qQ ⟨m.Uj,m.Ul.set j c⟩ i hi,qQ m i hi,if_neg V]
  rw [oh ⟨m.Uj,m.Ul.set j c⟩ i (by simpa using hi),oh m i hi];simp only [List.getElem_set];by_cases hij:j=i
  ·rw [if_pos hij,if_pos V]
  rw [if_neg hij,if_neg V]
 ·rcases List.mem_append.1 hd with hd|hd
  ·exact .inl (TT _ hd)
  rcases List.mem_or_eq_of_mem_set hd with hd|hd
  ·exact .inl (TU _ hd)
  exact .inr hd
 have:=CB (fun c:TB=>c.Um.length) c m.Ul j;unfold mS;simp only at this⊢;omega
theorem rU (g:TI)(a:Int)(c:TB):(lc g a c).m_=tY g.m_ a (yK c (bw g.m_ a).Ux)/\(lc g a c).Ur=g.Ur/\(lc g a c).Uz=g.Uz/\(lc g a c).Uy.at_=bif decide (a%2=1) then g.Uy.at_ else zK g.Uy.at_ a c:=by
 unfold lc tY;cases decide (a%2=1)<;>exact ⟨rfl,rfl,rfl,rfl⟩
theorem HF {c:TB}(h:bx c=true){a:Int}(h0:0<=a)(h1:a<=1):bx (yK c a)=true:=by
 unfold bx at h⊢;simp only [Uf,Bool.not_eq_true',decide_eq_false_iff_not] at h⊢;obtain ⟨⟨⟨⟨⟨⟨⟨p1,p2⟩,p3⟩,p4⟩,p5⟩, -⟩, -⟩,h⟩:=h;exact ⟨⟨⟨⟨⟨⟨⟨p1,p2⟩,p3⟩,p4⟩,p5⟩,by show¬a<0;omega⟩,by show¬1<a;omega⟩,h⟩
theorem xq {c:TB}(h:bx c=true):0<=c.Ux/\c.Ux<=1:=by
 unfold bx at h;simp only [Uf,Bool.not_eq_true',decide_eq_false_iff_not] at h;omega
structure Bd (n:Nat) (g:TI):Prop where
 cnt:g.m_.Uj.length+g.m_.Ul.length<=20+n
 rts:g.Ur.length<=20+n
 cells: ∀c∈g.m_.Uj++g.m_.Ul,c.Uo.length<=2/\c.Um.length<=60
 sum:mS g.m_.Uj+mS g.m_.Ul<=42*n
theorem IQ {n:Nat}(hn:n<=60){g:TI}(s:Bd n g)(hp:g.Uz=[])(w64:W64 g.m_)(r64: ∀v∈g.Ur,in64 v.N)(n1:(g.Uy.at_.map Prod.fst).Nodup)(n2: ∀x∈g.Uy.at_.map Prod.fst, ∃i:Nat,i<g.m_.Ul.length/\x=2*(i:Int)+2):HB g:=by
 have h1:=s.cnt;have h2:=s.rts;have h0:=s.sum
 have hw: ∀l:List TB,(∀c∈l,c∈g.m_.Uj++g.m_.Ul)->wt l<=3*l.length+mS l:=fun l=>by
  rw [uy];unfold mS
  induction l with
  |nil=>intro _;simp [bW]
  |cons c l ih=>
   intro hl
   have h3:=ih fun d hd=>hl d (List.mem_cons_of_mem _ hd)
   have h4:=(s.cells c (hl c (List.mem_cons_self ..))).1;rw [bW,bW,List.length_cons];unfold wC at h3⊢;omega
 have h3:=hw g.m_.Uj fun c hc=>TT _ hc
 have h4:=hw g.m_.Ul fun c hc=>TU _ hc
 have hl:(g.Ur++g.Uz).length=g.Ur.length:=by rw [hp,List.append_nil]
 exact ⟨⟨by omega,by omega,by omega,fun c hc=>by have:=s.cells c hc;omega⟩,⟨by omega,by omega⟩,by rw [Dl];omega,by omega,w64,by rw [hp,List.append_nil];exact r64,n1,n2⟩
theorem Mv.bd {g g':TI}{ρ:Int->Int}{f:List Int}(m:Mv g g' ρ f){n:Nat}(h:Bd n g):Bd n g':=by
 refine ⟨Nat.le_trans m.cnt h.cnt,by rw [m.roots,Ud];exact h.rts,fun c hc=> ?_,Nat.le_trans m.sum h.sum⟩;obtain ⟨⟨a,ha,age,rfl⟩, -⟩:=m.cells c hc;have:=h.cells _ (eJ (m.has a ha));show ((bw g.m_ a).Uo.map _).length<=2/\((bw g.m_ a).Um.map _).length<=60;rw [Ud,Ud];exact this
theorem PW {N:Nat}(hN:6500<N){g:TI}(hs:Small g.m_ (g.Ur++g.Uz)){a:Int}(hh:aJ g.m_ a=true){c:TB}(h1:c.Uo.length<=600/\c.Um.length<=600):
  nK N g a c=some (bif !bx c then (51,g) else (0,lc g a c)):=by
 have hy:=hs.young;have ho:=hs.old;unfold nK aK;rw [bs,cf,IP N g (uW hs hh),bs,BM hN V,bs,hh]
 cases bx c with
 |false=>rfl
 | true=>
  rw [nt,cf,cf];unfold jx;rcases fM hh with ⟨i,hi,rfl⟩|⟨i,hi,rfl⟩
  ·have e1:(2*(i:Int)+1).tmod 2=1:=by rw [qE V];omega
   have e2:(2*(i:Int)+1).tdiv 2=i:=by rw [Int.tdiv_eq_ediv_of_nonneg V];omega
   have e3:(2*(i:Int)+1) / 2=i:=by omega
   have e4:(2*(i:Int)+1)%2=1:=by omega
   unfold lc;rw [e1,e2,e3,e4,TP (p:=(1:Int)=1) rfl,TQ (p:=(1:Int)=0) V,ct,ct,r64 V V,aL hi,bs,bs]
   dsimp only [CF]
   rw [aL hi,bs,px N c V,bs,cf,qQ g.m_ i hi];unfold lT;rw [List.set_set];rfl
  have e1:(2*(i:Int)+2).tmod 2=0:=by rw [qE V];omega
  have e2:(2*(i:Int)+2).tdiv 2=(i:Int)+1:=by rw [Int.tdiv_eq_ediv_of_nonneg V];omega
  have e3:(2*(i:Int)+2) / 2 - 1=i:=by omega
  have e4:(2*(i:Int)+2)%2=0:=by omega
  have e5:(i:Int)+1 - 1=i:=by omega
  obtain ⟨b,hb⟩:=JM hN (c:=c) V g.Uy.at_ i;have hb':dP N g.Uy (2*(i:Int)+2) c=some (b,⟨zK g.Uy.at_ (2*(i:Int)+2) c⟩):=hb;unfold lc;rw [hb',e1,e2,e3,e4,e5,TQ (p:=(0:Int)=1) V,TP (p:=(0:Int)=0) rfl,cf,cf,r64 V V,r64 V V,aL hi,bs,bs]
  dsimp only [CF]
  rw [aL hi,bs,px N c V,bs,ct,bs,oh g.m_ i hi];unfold lS;rw [List.set_set];rfl
theorem JF {g:TI}(hs:fG g.Uy.at_=ko g.m_)(hnd:(g.Uy.at_.map Prod.fst).Nodup){a:Int}(ha:aJ g.m_ a=true)(c:TB)(nd:((lc g a c).Uy.at_.map Prod.fst).Nodup):fG (lc g a c).Uy.at_=ko (lc g a c).m_:=by
 obtain ⟨f1, -, -,f4⟩:=rU g a c;obtain ⟨s1,s2,s3,s4, -, -⟩:=F2 (yK c (bw g.m_ a).Ux) ha;have e:fG (lc g a c).Uy.at_=jK ((lc g a c).Uy.at_.map Prod.fst):=rfl;rw [e]
 refine CE nd (zZ _) fun x=> ?_
 have hkv: ∀x,x∈g.Uy.at_.map Prod.fst↔x∈ko g.m_:=fun x=>by rw [<-hs];exact (pe _ x).symm
 have hold: ∀i,i<g.m_.Ul.length->mV (lc g a c).m_ i=if 2*(i:Int)+2=a then (bZ c).any yB else mV g.m_ i:=fun i hi=>by
  unfold mV;rw [f1,s2 _ (by rw [pq];exact TP hi)];split<;>rfl
 rw [rq,f1,s4,f4, <-f1];rcases fM ha with ⟨j,hj,rfl⟩|⟨j,hj,rfl⟩
 ·rw [TP V,cond_true,hkv,rq];refine ⟨fun ⟨i,h1,h2,h3⟩=>⟨i,h1,by rw [hold i h1,if_neg V];exact h2,h3⟩,fun ⟨i,h1,h2,h3⟩=>⟨i,h1,by rw [hold i h1,if_neg V] at h2;exact h2,h3⟩⟩
 rw [TQ V,cond_false,ED hnd,hkv,rq];constructor
 ·rintro (⟨h1,⟨i,q1,q2,rfl⟩|rfl⟩|⟨h1,⟨i,q1,q2,rfl⟩,hne⟩)
  ·refine ⟨i,q1,?_,J⟩;rw [hold i q1];split
   ·exact h1
   exact q2
  ·exact ⟨j,hj,by rw [hold j hj,if_pos rfl];exact h1,rfl⟩
  exact ⟨i,q1,by rw [hold i q1,if_neg hne];exact q2,rfl⟩
 rintro ⟨i,q1,q2,rfl⟩;rw [hold i q1] at q2;by_cases hij:2*(i:Int)+2=2*(j:Int)+2
 ·rw [if_pos hij] at q2;exact .inl ⟨q2,.inr hij⟩
 rw [if_neg hij] at q2
 cases hb:(bZ c).any yB with
 |true=>exact .inl ⟨rfl,.inl ⟨i,q1,q2,rfl⟩⟩
 |false=>exact .inr ⟨rfl,⟨i,q1,q2,rfl⟩,hij⟩
theorem Pl.put {n:Nat}(hn:n<=60){g:TI}(h:Pl g){a:Int}(ha:aJ g.m_ a=true){c:TB}(hr:bx c=true)(hk:c.Ui≠8/\c.Ui≠10)(hc: ∀v∈c.Uo++c.Um,in64 v.N/\(bm v=true->aJ g.m_ v.N=true))(b:Bd n (lc g a c)):
  Pl (lc g a c)/\(∀x,aJ (lc g a c).m_ x=aJ g.m_ x)/\(∀x,aJ g.m_ x=true->bw (lc g a c).m_ x=if x=a then yK c (bw g.m_ a).Ux else bw g.m_ x):=by
 obtain ⟨f1,f2,f3,f4⟩:=rU g a c;obtain ⟨s1,s2,s3,s4,s5, -⟩:=F2 (yK c (bw g.m_ a).Ux) ha;have hage:=xq (h.cells _ (eJ ha)).1;have hr':bx (yK c (bw g.m_ a).Ux)=true:=HF hr hage.1 hage.2
 have hhas: ∀x,aJ (lc g a c).m_ x=aJ g.m_ x:=fun x=>by rw [f1];exact s1 x
 have hmem: ∀d∈(lc g a c).m_.Uj++(lc g a c).m_.Ul,d∈g.m_.Uj++g.m_.Ul\/d=yK c (bw g.m_ a).Ux:=fun d hd=>by rw [f1] at hd;exact s5 d hd
 have nd:((lc g a c).Uy.at_.map Prod.fst).Nodup:=by
  rw [f4];cases decide (a%2=1)
  ·exact K8 h.hb.nd _ _
  exact h.hb.nd
 have keys: ∀x∈(lc g a c).Uy.at_.map Prod.fst, ∃i:Nat,i<(lc g a c).m_.Ul.length/\x=2*(i:Int)+2:=fun x hx=>by
  rw [f1,s4];rw [f4] at hx
  cases hd:decide (a%2=1) with
  |true=>rw [hd] at hx;exact h.hb.keys x hx
  | false=>
   rw [hd] at hx;rcases (ED h.hb.nd _ _ x).1 hx with ⟨-,hx|rfl⟩|⟨-,hx, -⟩
   ·exact h.hb.keys x hx
   ·rcases fM ha with ⟨j,hj,rfl⟩|⟨j,hj,rfl⟩
    ·rw [TP V] at hd;cases hd
    exact ⟨j,hj,J⟩
   exact h.hb.keys x hx
 have hp:(lc g a c).Uz=[]:=f3.trans h.pend
 have w64:W64 (lc g a c).m_:=fun d hd=>by
  rcases hmem d hd with hd|rfl
  ·exact h.hb.w64 d hd
  exact fun v hv=>(hc v hv).1
 refine ⟨⟨IQ hn b hp w64 (fun v hv=> ?_) nd keys,hp,fun d hd=> ?_,fun x hx=> ?_,JF h.set h.hb.nd ha c nd⟩,hhas,fun x hx=>by rw [f1];exact s2 x hx⟩
 ·rw [f2] at hv;exact h.hb.r64 v (TT _ hv)
 ·rcases hmem d hd with hd|rfl
  ·exact ⟨(h.cells d hd).1,fun x hx=>(hhas x).trans ((h.cells d hd).2.1 x hx),(h.cells d hd).2.2⟩
  refine ⟨hr',fun x hx=> ?_,hk⟩;obtain ⟨v,hv,hb,rfl⟩:=ut hx;exact (hhas _).trans ((hc v hv).2 hb)
 rw [f2] at hx;exact (hhas x).trans (h.roots x hx)
def kj (x:Int):Ty:=⟨3,x,⟨#[]⟩⟩
def JobAt (m:TM)(q k:Int)(v:Ty)(l:List Int):Prop:= ∃a ag,v=⟨9,a,⟨#[]⟩⟩/\aJ m a=true/\a≠q/\a≠k/\bw m a=⟨11,0,0,ag,[],l.map kj⟩
structure QK (g:TI) (jobs:List TO) (q k qa ka:Int) (Q K:List Ty):Prop where
 r18:g.Ur[18]? =some ⟨9,q,⟨#[]⟩⟩
 r19:g.Ur[19]? =some ⟨9,k,⟨#[]⟩⟩
 ne:q≠k
 hq:aJ g.m_ q=true
 hk:aJ g.m_ k=true
 aq:bw g.m_ q=⟨11,0,0,qa,[],Q⟩
 ak:bw g.m_ k=⟨11,0,0,ka,[],K⟩
 kv: ∀v∈K,bm v=false
 ql:Q.length=jobs.length
 job: ∀(i:Nat) (v:Ty) (l:List Int),Q[i]? =some v->jobs[i]? =some l->JobAt g.m_ q k v l
structure WH (n:Nat) (jobs:List TO) (g:TI):Prop where
 le:n<=60
 bd:Bd n g
 pl:Pl g
 rl:20<=g.Ur.length
 intr: ∀j:Nat,j<18-> ∃a,g.Ur[j]? =some (⟨7,a,⟨#[]⟩⟩:Ty)/\aJ g.m_ a=true
 vals: ∀(j:Nat) (v:Ty),20<=j->g.Ur[j]? =some v->bm v=false
 box: ∃q k qa ka Q K,K.length<=n/\QK g jobs q k qa ka Q K
 jl:jobs.length<=n
theorem J4 {a:Int}:bm (⟨9,a,⟨#[]⟩⟩:Ty)=true:=rfl
theorem Nq (ρ:Int->Int)(f:List Int)(l:List Int):(l.map kj).map (cW ρ f)=l.map kj:=by
 rw [List.map_map]
 exact List.map_congr_left fun x _=>II J
theorem Mv.root {g g':TI}{ρ:Int->Int}{f:List Int}(m:Mv g g' ρ f){j:Nat}{a kd:Int}(h:g.Ur[j]? =some ⟨kd,a,⟨#[]⟩⟩)(hb:kd=7\/kd=9):a∈f/\g'.Ur[j]? =some ⟨kd,ρ a,⟨#[]⟩⟩:=by
 have hh:bm (⟨kd,a,⟨#[]⟩⟩:Ty)=true:=by rcases hb with rfl|rfl<;>rfl
 have hf:a∈f:=m.rin _ (List.mem_of_getElem? h) hh;refine ⟨hf,?_⟩;rw [m.roots,List.getElem?_map,h];show some (cW ρ f ⟨kd,a,⟨#[]⟩⟩)=_;rw [AV hh hf]
theorem WH.mv {n:Nat}{jobs:List TO}{g g':TI}(h:WH n jobs g){ρ:Int->Int}{f:List Int}(m:Mv g g' ρ f):WH n jobs g':=by
 refine ⟨h.le,m.bd h.bd,m.pl h.pl,by rw [m.roots,Ud];exact h.rl,fun j hj=> ?_,fun j v hj hv=> ?_,?_,h.jl⟩
 ·obtain ⟨a,h1,h2⟩:=h.intr j hj;obtain ⟨hf,h3⟩:=m.root h1 (.inl rfl);exact ⟨ρ a,h3,(m.at_ a hf).1⟩
 ·rw [m.roots,List.getElem?_map] at hv
  cases hr:g.Ur[j]? with
  |none=>rw [hr] at hv;cases hv
  |some w=>
   rw [hr] at hv;cases hv;rw [Ck];exact h.vals j w hj hr
 obtain ⟨q,k,qa,ka,Q,K,kl,b⟩:=h.box;obtain ⟨fq,r1⟩:=m.root b.r18 (.inr rfl);obtain ⟨fk,r2⟩:=m.root b.r19 (.inr rfl);obtain ⟨hq,qa',aq⟩:=m.at_ q fq;obtain ⟨hk,ka',ak⟩:=m.at_ k fk
 have hK:K.map (cW ρ f)=K:=by
  have:K.map (cW ρ f)=K.map id:=List.map_congr_left fun v hv=>II (b.kv v hv)
  rw [this,List.map_id]
 refine ⟨ρ q,ρ k,qa',ka',Q.map (cW ρ f),K,kl,r1,r2,fun e=>b.ne (m.inj q fq k fk e),hq,hk,?_,?_,b.kv,by rw [Ud];exact b.ql,fun i v l hi hl=> ?_⟩
 ·rw [aq,b.aq];rfl
 ·rw [ak,b.ak];show (⟨11,0,0,ka',[],K.map (cW ρ f)⟩:TB)=_;rw [hK]
 rw [List.getElem?_map] at hi
 cases hQ:Q[i]? with
 |none=>rw [hQ] at hi;cases hi
 | some w=>
  rw [hQ] at hi;cases hi;obtain ⟨a,ag,rfl,h2,h3,h4,h5⟩:=b.job i w l hQ hl
  have fa:a∈f:=by
   have:=(m.cin q fq).2;rw [b.aq] at this;exact this _ (List.mem_of_getElem? hQ) J
  obtain ⟨ha,ag',e⟩:=m.at_ a fa;refine ⟨ρ a,ag',AV J fa,ha,fun e=>h3 (m.inj a fa q fq e),fun e=>h4 (m.inj a fa k fk e),?_⟩;rw [e,h5];show (⟨11,0,0,ag',[],(l.map kj).map (cW ρ f)⟩:TB)=_;rw [Nq]
theorem WH.up {n:Nat}{jobs:List TO}{g:TI}(h:WH n jobs g)(hn:n<60):WH (n+1) jobs g:=by
 have b:=h.bd;exact ⟨hn,⟨by have:=b.cnt;omega,by have:=b.rts;omega,b.cells,by have:=b.sum;omega⟩,h.pl,h.rl,h.intr,h.vals,by obtain ⟨q,k,qa,ka,Q,K,kl,b⟩:=h.box;exact ⟨q,k,qa,ka,Q,K,by omega,b⟩,by have:=h.jl;omega⟩
structure Tm where
 k:Int
 ck:Int
 fl:Int
 sl:List (Nat ⊕ Ty)
 mo:List Ty
def tv (R:List Ty):Nat ⊕ Ty->Ty
 | .inl i=>R.getD i vZ
 | .inr v=>v
def Rz (R:List Ty)(t:Tm)(age:Int):TB:=⟨t.ck,0,t.fl,age,t.sl.map (tv R),t.mo⟩
structure RT (g:TI) (T:List Tm):Prop where
 len:g.Ur.length=T.length
 at_: ∀(j:Nat) (t:Tm),T[j]? =some t-> ∃a age,g.Ur[j]? =some (⟨t.k,a,⟨#[]⟩⟩:Ty)/\aJ g.m_ a=true/\bw g.m_ a=Rz g.Ur t age
structure TmOk (T:List Tm):Prop where
 kind: ∀t∈T,t.k=7\/t.k=9
 ref: ∀t∈T, ∀i,.inl i∈t.sl->i<T.length
 val: ∀t∈T, ∀v,(.inr v∈t.sl\/v∈t.mo)->bm v=false
structure Sm (n:Nat) (g:TI):Prop where
 cnt:g.m_.Uj.length+g.m_.Ul.length<=n
 rts:g.Ur.length<=n
 cells: ∀c∈g.m_.Uj++g.m_.Ul,c.Uo.length<=1/\c.Um.length<=1
theorem Qc {n:Nat}(hn:n<=70){g:TI}(s:Sm n g)(hp:g.Uz=[])(w64:W64 g.m_)(r64: ∀v∈g.Ur,in64 v.N)(n1:(g.Uy.at_.map Prod.fst).Nodup)(n2: ∀x∈g.Uy.at_.map Prod.fst, ∃i:Nat,i<g.m_.Ul.length/\x=2*(i:Int)+2):HB g:=by
 have h1:=s.cnt;have h2:=s.rts
 have hw: ∀l:List TB,(∀c∈l,c∈g.m_.Uj++g.m_.Ul)->wt l<=3*l.length/\mS l<=1*l.length:=fun l hl=>by
  unfold mS;rw [uy, <-pc, <-pc];exact ⟨xo fun c hc=>by have:=s.cells c (hl c hc);unfold wC;omega,xo fun c hc=>by have:=s.cells c (hl c hc);omega⟩
 have h3:=hw g.m_.Uj fun c hc=>TT _ hc
 have h4:=hw g.m_.Ul fun c hc=>TU _ hc
 have hl:(g.Ur++g.Uz).length=g.Ur.length:=by rw [hp,List.append_nil]
 exact ⟨⟨by omega,by omega,by omega,fun c hc=>by have:=s.cells c hc;omega⟩,⟨by omega,by omega⟩,by rw [Dl];omega,by omega,w64,by rw [hp,List.append_nil];exact r64,n1,n2⟩
def SB (g:TI)(k:Int)(c:TB):TI:=⟨⟨g.m_.Uj++ [c],g.m_.Ul⟩,g.Ur++ [⟨k,2*(g.m_.Uj.length:Int)+1,⟨#[]⟩⟩],g.Uz,g.Uy⟩
theorem Mw {m:TM}(c:TB):(∀x,aJ m x=true->aJ ⟨m.Uj++ [c],m.Ul⟩ x=true/\bw ⟨m.Uj++ [c],m.Ul⟩ x=bw m x)/\aJ ⟨m.Uj++ [c],m.Ul⟩ (2*(m.Uj.length:Int)+1)=true/\bw ⟨m.Uj++ [c],m.Ul⟩ (2*(m.Uj.length:Int)+1)=c:=by
 refine ⟨fun x hx=> ?_,?_,?_⟩
 ·rcases fM hx with ⟨i,hi,rfl⟩|⟨i,hi,rfl⟩
  ·have h2:i<(m.Uj++ [c]).length:=by simp;omega
   exact ⟨by rw [uX];exact TP h2,by rw [qQ ⟨m.Uj++ [c],m.Ul⟩ i h2,qQ m i hi];exact List.getElem_append_left hi⟩
  exact ⟨by rw [pq];exact TP hi,by rw [oh ⟨m.Uj++ [c],m.Ul⟩ i hi,oh m i hi]⟩
 ·rw [uX];exact TP (by simp)
 rw [qQ ⟨m.Uj++ [c],m.Ul⟩ m.Uj.length (by simp)];simp
theorem Lx {m:TM}(c:TB):ko ⟨m.Uj++ [c],m.Ul⟩=ko m:=by
 unfold ko;show List.map _ ((List.range m.Ul.length).filter _)=_
 congr 1
 refine List.filter_congr fun i hi=> ?_
 unfold mV;rw [((Mw c).1 (2*(i:Int)+2) (by rw [pq];exact TP (List.mem_range.1 hi))).2]
theorem PY (N:Nat){g:TI}(hl:g.Ur.length<=1000)(v:Ty):dC N g v=some ((g.Ur.length:Int),⟨g.m_,g.Ur++ [v],g.Uz,g.Uy⟩):=by
 have e:((g.Ur++ [v]).length:Int) - 1=(g.Ur.length:Int):=by simp
 unfold dC aK;rw [bs,cf,rF (by simp only [List.length_cons,List.length_nil];omega),e,r64 V V]
theorem sE {a:Int}{l:List Ty}(h0:0<=a)(h1:a<=1):bx ⟨11,0,0,a,[],l⟩=l.all lf:=by
 have e:bx ⟨11,0,0,a,[],l⟩=((!decide (a<0)&& !decide (1<a))&&(l.all lf&&true)):=by
  unfold bx;show ((true&& !decide (a<0))&& !decide (1<a)&&(true&&(l.all lf&&true)))=_;simp
 rw [e,TQ V,TQ V];simp
theorem AG {α:Type}(g:α->Nat)(x:α): ∀(l:List α) (i:Nat) (h:i<l.length),bW g (l.set i x)+g l[i]=bW g l+g x
 | [],i,h=>by simp at h
 |a::l,0,_=>by simp only [List.set_cons_zero,bW,List.getElem_cons_zero];omega
 |a::l,i+1,h=>by
  have:=AG g x l i (by simpa using h);simp only [List.set_cons_succ,bW,List.getElem_cons_succ];omega
theorem Lp {m:TM}{a:Int}(c:TB)(h:aJ m a=true):mS (tY m a c).Uj+mS (tY m a c).Ul+(bw m a).Um.length=mS m.Uj+mS m.Ul+c.Um.length:=by
 rcases fM h with ⟨j,hj,rfl⟩|⟨j,hj,rfl⟩
 ·have e:tY m (2*(j:Int)+1) c=⟨m.Uj.set j c,m.Ul⟩:=by
   unfold tY;rw [TP V,cond_true,show ((2*(j:Int)+1) / 2).toNat=j by omega]
  rw [e,qQ m j hj];have:=AG (fun c:TB=>c.Um.length) c m.Uj j hj;unfold mS;simp only at this⊢;omega
 have e:tY m (2*(j:Int)+2) c=⟨m.Uj,m.Ul.set j c⟩:=by
  unfold tY;rw [TQ V,cond_false,show ((2*(j:Int)+2) / 2 - 1).toNat=j by omega]
 rw [e,oh m j hj];have:=AG (fun c:TB=>c.Um.length) c m.Ul j hj;unfold mS;simp only at this⊢;omega
def If (g:TI)(c:TB):TI:=⟨⟨g.m_.Uj++ [c],g.m_.Ul⟩,g.Ur,g.Uz,g.Uy⟩
theorem JobAt.mono {m m':TM}{q k:Int}{v:Ty}{l:List Int}(h:JobAt m q k v l)(hm: ∀x,aJ m x=true->x≠q->x≠k->aJ m' x=true/\bw m' x=bw m x):JobAt m' q k v l:=by
 obtain ⟨a,ag,h1,h2,h3,h4,h5⟩:=h;obtain ⟨g1,g2⟩:=hm a h2 h3 h4;exact ⟨a,ag,h1,g1,h3,h4,g2.trans h5⟩
theorem WH.add {n:Nat}{jobs:List TO}{g:TI}(h:WH n jobs g)(hn:n<60){c:TB}(hr:bx c=true)(hk:c.Ui≠8/\c.Ui≠10)(hs:c.Uo.length<=2/\c.Um.length<=40)(hv: ∀v∈c.Uo++c.Um,in64 v.N/\(bm v=true->aJ g.m_ v.N=true)):WH (n+1) jobs (If g c):=by
 obtain ⟨a1,a2,a3⟩:=Mw (m:=g.m_) c
 have hmem: ∀d∈(g.m_.Uj++ [c])++g.m_.Ul,d∈g.m_.Uj++g.m_.Ul\/d=c:=fun d hd=>by
  simp only [List.mem_append,List.mem_cons,List.not_mem_nil,or_false] at hd⊢;rcases hd with (hd|hd)|hd
  ·exact .inl (.inl hd)
  ·exact .inr hd
  exact .inl (.inr hd)
 have b:=h.bd;have hc:=b.cnt;have hrt:=b.rts;have hsm:=b.sum
 have bd:Bd (n+1) (If g c):=by
  refine ⟨?_,by show g.Ur.length<=_;omega,fun d hd=> ?_,?_⟩
  ·show (g.m_.Uj++ [c]).length+g.m_.Ul.length<=_;simp;omega
  ·rcases hmem d hd with hd|rfl
   ·exact b.cells d hd
   exact ⟨hs.1,by omega⟩
  show mS (g.m_.Uj++ [c])+mS g.m_.Ul<=_;unfold mS at hsm⊢;rw [rD];simp only [bW];omega
 have hW:W64 (⟨g.m_.Uj++ [c],g.m_.Ul⟩:TM):=fun d hd=>by
  rcases hmem d hd with hd|rfl
  ·exact h.pl.hb.w64 d hd
  exact fun v hx=>(hv v hx).1
 refine ⟨hn,bd,⟨IQ hn bd h.pl.pend hW (fun v hx=>h.pl.hb.r64 v (TT _ hx)) h.pl.hb.nd h.pl.hb.keys,h.pl.pend,fun d hd=> ?_,fun x hx=>(a1 x (h.pl.roots x hx)).1,(h.pl.set).trans (Lx c).symm⟩,h.rl,fun j hj=> ?_,h.vals,?_,by have:=h.jl;omega⟩
 ·rcases hmem d hd with hd|rfl
  ·exact ⟨(h.pl.cells d hd).1,fun x hx=>(a1 x ((h.pl.cells d hd).2.1 x hx)).1,(h.pl.cells d hd).2.2⟩
  refine ⟨hr,fun x hx=> ?_,hk⟩;obtain ⟨v,a6,hb,rfl⟩:=ut hx;exact (a1 _ ((hv v a6).2 hb)).1
 ·obtain ⟨a,g1,g2⟩:=h.intr j hj;exact ⟨a,g1,(a1 a g2).1⟩
 obtain ⟨q,k,qa,ka,Q,K,kl,b⟩:=h.box;exact ⟨q,k,qa,ka,Q,K,by omega,b.r18,b.r19,b.ne,(a1 q b.hq).1,(a1 k b.hk).1,(a1 q b.hq).2.trans b.aq,(a1 k b.hk).2.trans b.ak,b.kv,b.ql,fun i v l h1 h2=>(b.job i v l h1 h2).mono fun x hx _ _=>a1 x hx⟩
theorem WH.setQ {n:Nat}{jobs jobs':List TO}{g:TI}(h:WH n jobs g){q k qa ka:Int}{Q K Q':List Ty}(b:QK g jobs q k qa ka Q K)(kl:K.length<=n)(jl:jobs'.length<=n)(hm: ∀v∈Q',lf v=true/\in64 v.N/\(bm v=true->aJ g.m_ v.N=true))(hl:Q'.length<=Q.length+1/\Q'.length<=60)(hs:mS g.m_.Uj+mS g.m_.Ul+Q'.length<=42*n+Q.length)(ql:Q'.length=jobs'.length)(job: ∀(i:Nat) (v:Ty) (l:List Int),Q'[i]? =some v->jobs'[i]? =some l->JobAt g.m_ q k v l):
  bx ⟨11,0,0,qa,[],Q'⟩=true/\WH n jobs' (lc g q ⟨11,0,0,qa,[],Q'⟩):=by
 have hr:=(h.pl.cells _ (eJ b.hq)).1;have hage:=xq hr;rw [b.aq] at hage
 have hr':bx ⟨11,0,0,qa,[],Q'⟩=true:=by
  rw [sE hage.1 hage.2,List.all_eq_true]
  exact fun v hv=>(hm v hv).1
 obtain ⟨f1,f2,f3,f4⟩:=rU g q ⟨11,0,0,qa,[],Q'⟩;obtain ⟨s1,s2,s3,s4,s5, -⟩:=F2 (yK ⟨11,0,0,qa,[],Q'⟩ (bw g.m_ q).Ux) b.hq;have hms:=Lp (yK ⟨11,0,0,qa,[],Q'⟩ (bw g.m_ q).Ux) b.hq
 have h1:(bw g.m_ q).Um.length=Q.length:=by rw [b.aq]
 have h2:(yK ⟨11,0,0,qa,[],Q'⟩ (bw g.m_ q).Ux).Um.length=Q'.length:=rfl;have bb:=h.bd
 have bd:Bd n (lc g q ⟨11,0,0,qa,[],Q'⟩):=by
  refine ⟨by rw [f1,s3,s4];exact bb.cnt,by rw [f2];exact bb.rts,fun d hd=> ?_,by rw [f1];omega⟩;rw [f1] at hd;rcases s5 d hd with hd|rfl
  ·exact bb.cells d hd
  exact ⟨by show 0<=2;omega,hl.2⟩
 obtain ⟨p1,p2,p3⟩:=h.pl.put h.le b.hq hr' ⟨by show¬(11:Int)=8;omega,by show¬(11:Int)=10;omega⟩ (fun v hv=>(hm v hv).2) bd
 have hot: ∀x,aJ g.m_ x=true->x≠q->aJ (lc g q ⟨11,0,0,qa,[],Q'⟩).m_ x=true/\bw (lc g q ⟨11,0,0,qa,[],Q'⟩).m_ x=bw g.m_ x:=fun x hx hne=>⟨(p2 x).trans hx,by rw [p3 x hx,if_neg hne]⟩
 refine ⟨hr',h.le,bd,p1,by rw [f2];exact h.rl,fun j hj=> ?_,fun j v hj hv=>h.vals j v hj (by rw [<-f2];exact hv),?_,jl⟩
 ·obtain ⟨a,g1,g2⟩:=h.intr j hj;exact ⟨a,by rw [f2];exact g1,(p2 a).trans g2⟩
 refine ⟨q,k,(bw g.m_ q).Ux,ka,Q',K,kl,by rw [f2];exact b.r18,by rw [f2];exact b.r19,b.ne,(p2 q).trans b.hq,(p2 k).trans b.hk,?_,(hot k b.hk b.ne.symm).2.trans b.ak,b.kv,ql,fun i v l h1 h2=>(job i v l h1 h2).mono fun x hx hq _=>hot x hx hq⟩;rw [p3 q b.hq,if_pos rfl];rfl
theorem WH.setK {n:Nat}{jobs:List TO}{g:TI}(h:WH n jobs g){q k qa ka:Int}{Q K K':List Ty}(b:QK g jobs q k qa ka Q K)(hm: ∀v∈K',lf v=true/\in64 v.N/\bm v=false)(kl:K'.length<=n)(hl:K'.length<=60)(hs:mS g.m_.Uj+mS g.m_.Ul+K'.length<=42*n+K.length):
  bx ⟨11,0,0,ka,[],K'⟩=true/\WH n jobs (lc g k ⟨11,0,0,ka,[],K'⟩):=by
 have hr:=(h.pl.cells _ (eJ b.hk)).1;have hage:=xq hr;rw [b.ak] at hage
 have hr':bx ⟨11,0,0,ka,[],K'⟩=true:=by
  rw [sE hage.1 hage.2,List.all_eq_true]
  exact fun v hv=>(hm v hv).1
 obtain ⟨f1,f2,f3,f4⟩:=rU g k ⟨11,0,0,ka,[],K'⟩;obtain ⟨s1,s2,s3,s4,s5, -⟩:=F2 (yK ⟨11,0,0,ka,[],K'⟩ (bw g.m_ k).Ux) b.hk;have hms:=Lp (yK ⟨11,0,0,ka,[],K'⟩ (bw g.m_ k).Ux) b.hk
 have h1:(bw g.m_ k).Um.length=K.length:=by rw [b.ak]
 have h2:(yK ⟨11,0,0,ka,[],K'⟩ (bw g.m_ k).Ux).Um.length=K'.length:=rfl;have bb:=h.bd
 have bd:Bd n (lc g k ⟨11,0,0,ka,[],K'⟩):=by
  refine ⟨by rw [f1,s3,s4];exact bb.cnt,by rw [f2];exact bb.rts,fun d hd=> ?_,by rw [f1];omega⟩;rw [f1] at hd;rcases s5 d hd with hd|rfl
  ·exact bb.cells d hd
  exact ⟨by show 0<=2;omega,hl⟩
 obtain ⟨p1,p2,p3⟩:=h.pl.put h.le b.hk hr' ⟨by show¬(11:Int)=8;omega,by show¬(11:Int)=10;omega⟩ (fun v hv=>⟨(hm v hv).2.1,fun hb=>by rw [(hm v hv).2.2] at hb;cases hb⟩) bd
 have hot: ∀x,aJ g.m_ x=true->x≠k->aJ (lc g k ⟨11,0,0,ka,[],K'⟩).m_ x=true/\bw (lc g k ⟨11,0,0,ka,[],K'⟩).m_ x=bw g.m_ x:=fun x hx hne=>⟨(p2 x).trans hx,by rw [p3 x hx,if_neg hne]⟩
 refine ⟨hr',h.le,bd,p1,by rw [f2];exact h.rl,fun j hj=> ?_,fun j v hj hv=>h.vals j v hj (by rw [<-f2];exact hv),?_,h.jl⟩
 ·obtain ⟨a,g1,g2⟩:=h.intr j hj;exact ⟨a,by rw [f2];exact g1,(p2 a).trans g2⟩
 refine ⟨q,k,qa,(bw g.m_ k).Ux,Q,K',kl,by rw [f2];exact b.r18,by rw [f2];exact b.r19,b.ne,(p2 q).trans b.hq,(p2 k).trans b.hk,(hot q b.hq b.ne).2.trans b.aq,?_,fun v hv=>(hm v hv).2.2,b.ql,fun i v l h1 h2=>(b.job i v l h1 h2).mono fun x hx _ hk=>hot x hx hk⟩;rw [p3 k b.hk,if_pos rfl];rfl
theorem Pj {N:Nat}{g:TI}(hs: ∀c∈g.m_.Uj++g.m_.Ul,c.Uo.length<=600/\c.Um.length<=600){a:Int}(ha:in64 a)(hh:aJ g.m_ a=true):oV N g a=some (bw g.m_ a,true):=by
 unfold oV;rw [IP N g ha,bs,hh];have hc:=hs _ (eJ hh);have hi64:in64 a:=ha;unfold jx;rcases fM hh with ⟨i,hi,rfl⟩|⟨i,hi,rfl⟩
 ·have e1:(2*(i:Int)+1).tmod 2=1:=by rw [qE V];omega
  have e2:(2*(i:Int)+1).tdiv 2=i:=by rw [Int.tdiv_eq_ediv_of_nonneg V];omega
  rw [qQ g.m_ i hi] at hc⊢;unfold in64 at hi64;rw [nt,cf,e1,e2,TP (p:=(1:Int)=1) rfl,ct,r64 V V,aL hi,bs,bs]
  dsimp only [CF]
  rw [aL hi,bs,px N _ V,bs]
 have e1:(2*(i:Int)+2).tmod 2=0:=by rw [qE V];omega
 have e2:(2*(i:Int)+2).tdiv 2=(i:Int)+1:=by rw [Int.tdiv_eq_ediv_of_nonneg V];omega
 have e5:(i:Int)+1 - 1=i:=by omega
 rw [oh g.m_ i hi] at hc⊢;unfold in64 at hi64;rw [nt,cf,e1,e2,e5,TQ (p:=(0:Int)=1) V,cf,r64 V V,r64 V V,aL hi,bs,bs]
 dsimp only [CF]
 rw [aL hi,bs,px N _ V,bs]
theorem py {N:Nat}{w:TC}(hs: ∀c∈w.Uk.m_.Uj++w.Uk.m_.Ul,c.Uo.length<=600/\c.Um.length<=600){v:Ty}(hv:bm v=true)(ha:in64 v.N)(hh:aJ w.Uk.m_ v.N=true):aI N w v=some (bw w.Uk.m_ v.N):=by
 have e:fS N v=some (bm v):=by
  unfold fS bm;cases decide (v.Ui=7)<;>rfl
 unfold aI;rw [e,bs,hv,nt,cf,Pj hs ha hh,bs];rfl
theorem xp (N:Nat){g:TI}{j:Nat}{v:Ty}(h:g.Ur[j]? =some v):bi N g (j:Int)=some v:=by
 obtain ⟨hj,e⟩:=List.getElem?_eq_some_iff.1 h;rw [Jx];unfold En;rw [TP (p:=(0:Int)<=(j:Int)) V,TP (p:=(j:Int)<(g.Ur.length:Int)) V,Int.toNat_natCast,List.getD_eq_getElem?_getD,h];rfl
theorem G5 (N:Nat)(g:TI):ex N g (g.Ur.length:Int)=some g:=by
 unfold ex aK;rw [bs,nf,ct,TQ (p:=max (g.Ur.length:Int) 0<(g.Ur.length:Int)) V,bs,cf]
structure RW (n:Nat) (g:TI) (T:List Tm):Prop where
 big:n<=70
 sm:Sm n g
 pl:Pl g
 rt:RT g T
 ok:TmOk T
def Jt (w:TC)(g:TI):TC:=⟨w.UA,w.Us,(),g,w.Un,w.UF,w.UO,w.UP,w.UQ,w.UH,w.UG⟩
theorem AZ (N:Nat){w:TC}(h:w.Uk.Ur.length<=600):cQ N w=some (w.Uk.Ur.length:Int):=by
 unfold cQ;rw [GK N _ h,bs]
theorem G3 (N:Nat)(a:Int)(w:TC): ∃b,fD N a w=some b:=by
 unfold fD;by_cases h:0<a
 ·rw [cu h,ct,dE V,bs];exact ⟨_,J⟩
 rw [cn V,cf,bs];exact ⟨_,J⟩
theorem Jb (N:Nat)(w:TC){v:Ty}(hv:bm v=false):aI N w v=some ⟨0,0,0,0,[],[]⟩:=by
 have e:fS N v=some (bm v):=by
  unfold fS bm;cases decide (v.Ui=7)<;>rfl
 unfold aI;rw [e,bs,hv,nf,ct]
theorem DO {N:Nat}(hN:6500<N){n:Nat}{jobs:List TO}{w:TC}(h:WH n jobs w.Uk): ∃g',eI N w=some (Jt w g')/\WH n jobs g'/\g'.Ur.length=w.Uk.Ur.length:=by
 obtain ⟨q,k,qa,ka,Q,K, -,b⟩:=h.box;obtain ⟨g',ρ,f,e,m⟩:=Lo hN h.pl;have hs:=h.pl.hb.small;have hrl:=h.bd.rts;have hle:=h.le
 have hlen:w.Uk.Ur.length=g'.Ur.length:=by rw [m.roots,Ud]
 refine ⟨g',?_,h.mv m,hlen.symm⟩;have h1:bi N w.Uk 19=some ⟨9,k,⟨#[]⟩⟩:=xp N b.r19
 have h2:aI N w ⟨9,k,⟨#[]⟩⟩=some ⟨11,0,0,ka,[],K⟩:=by
  rw [py hs.cells J4 (h.pl.hb.r64 _ (TT _ (List.mem_of_getElem? b.r19))) b.hk];exact congrArg some b.ak
 have hK:K.length<=60:=by have:=(h.bd.cells _ (eJ b.hk)).2;rw [b.ak] at this;exact this
 have loop: ∀(a1:Int) (m i:Nat),K.length<m+i->i<=K.length->bL N a1 ⟨11,0,0,ka,[],K⟩ w m (i:Int) w.Uk.m_.Uj w.Uk.m_.Ul w.Uk.Ur w.Uk.Uz w.Uk.Uy.at_=dT N a1 w w.Uk.m_.Uj w.Uk.m_.Ul w.Uk.Ur w.Uk.Uz w.Uk.Uy.at_:=by
  intro a1 m
  induction m with
  |zero=>intro i h1 h2;omega
  | succ m ih=>
   intro i h1 h2;rw [bL.eq_2];rcases Nat.lt_or_ge i K.length with hi|hi
   ·rw [cu (by show (i:Int)<(K.length:Int);omega),ct];show ((aw K (i:Int)).bind _)=_;rw [aL hi,bs,Jb N _ (b.kv _ (Uh hi)),bs];show (bif !decide ((0:Int)=10) then _ else _)=_;rw [TQ (p:=(0:Int)=10) V,nf,ct];unfold dS;rw [r64 V V];exact ih (i+1) V hi
   rw [cn (by show (K.length:Int)<=(i:Int);omega),cf]
 unfold eI;rw [AZ N V,bs,h1,bs,h2,bs];have hl:=loop (w.Uk.Ur.length:Int) N 0 V V;rw [show ((0:Nat):Int)=0 from rfl] at hl;rw [hl];unfold dT;have e':d8 N (⟨(⟨w.Uk.m_.Uj,w.Uk.m_.Ul⟩:TM),w.Uk.Ur,w.Uk.Uz,(⟨w.Uk.Uy.at_⟩:Tw)⟩:TI)=some (0,g'):=e;rw [e',bs];show (ex N g' (w.Uk.Ur.length:Int)).bind _=_;rw [hlen,G5,bs];rfl
theorem DN {N:Nat}(hN:6500<N){n:Nat}{jobs:List TO}{w:TC}(h:WH n jobs w.Uk): ∃g',eH N w=some (Jt w g')/\WH n jobs g'/\g'.Ur.length=w.Uk.Ur.length:=by
 obtain ⟨q,k,qa,ka,Q,K, -,b⟩:=h.box;obtain ⟨g',ρ,f,e,m⟩:=Lh hN h.pl;have hs:=h.pl.hb.small;have hrl:=h.bd.rts;have hle:=h.le
 have hlen:w.Uk.Ur.length=g'.Ur.length:=by rw [m.roots,Ud]
 refine ⟨g',?_,h.mv m,hlen.symm⟩;have h1:bi N w.Uk 19=some ⟨9,k,⟨#[]⟩⟩:=xp N b.r19
 have h2:aI N w ⟨9,k,⟨#[]⟩⟩=some ⟨11,0,0,ka,[],K⟩:=by
  rw [py hs.cells J4 (h.pl.hb.r64 _ (TT _ (List.mem_of_getElem? b.r19))) b.hk];exact congrArg some b.ak
 have hK:K.length<=60:=by have:=(h.bd.cells _ (eJ b.hk)).2;rw [b.ak] at this;exact this
 have loop: ∀(a1:Int) (m i:Nat),K.length<m+i->i<=K.length->bK N a1 ⟨11,0,0,ka,[],K⟩ w m (i:Int) w.Uk.m_.Uj w.Uk.m_.Ul w.Uk.Ur w.Uk.Uz w.Uk.Uy.at_=dR N a1 w w.Uk.m_.Uj w.Uk.m_.Ul w.Uk.Ur w.Uk.Uz w.Uk.Uy.at_:=by
  intro a1 m
  induction m with
  |zero=>intro i h1 h2;omega
  | succ m ih=>
   intro i h1 h2;rw [bK.eq_2];rcases Nat.lt_or_ge i K.length with hi|hi
   ·rw [cu (by show (i:Int)<(K.length:Int);omega),ct];show ((aw K (i:Int)).bind _)=_;rw [aL hi,bs,Jb N _ (b.kv _ (Uh hi)),bs];show (bif !decide ((0:Int)=10) then _ else _)=_;rw [TQ (p:=(0:Int)=10) V,nf,ct];unfold dQ;rw [r64 V V];exact ih (i+1) V hi
   rw [cn (by show (K.length:Int)<=(i:Int);omega),cf]
 unfold eH;rw [AZ N V,bs,h1,bs,h2,bs];have hl:=loop (w.Uk.Ur.length:Int) N 0 V V;rw [show ((0:Nat):Int)=0 from rfl] at hl;rw [hl];unfold dR;have e':d7 N (⟨(⟨w.Uk.m_.Uj,w.Uk.m_.Ul⟩:TM),w.Uk.Ur,w.Uk.Uz,(⟨w.Uk.Uy.at_⟩:Tw)⟩:TI)=some (0,g'):=e;rw [e',bs];show (ex N g' (w.Uk.Ur.length:Int)).bind _=_;rw [hlen,G5,bs];rfl
structure Ab where
 cS:Int
 cC:Int
 cM:Int
 steps:Int
 made:Int
 calls:Int
 epoch:Int
 sleep:Int
 serial:Int
 roots:Int
 syms:List ByteArray
 out:List ByteArray
 log:List TG
 jobs:List TO
def OW:Tt:=⟨[⟨-1,⟨0,0,⟨#[]⟩⟩,0,0⟩],[]⟩
def La:TE:=⟨1,0,⟨#[109,101,115,115,97,103,101]⟩⟩
def Kw:Tt:=match cO 7000 OW 0 La 5 with
 |some x=>x.2.2
 |none=>OW
structure Fig (n:Nat) (A:Ab):Prop where
 st:0<=A.steps/\A.steps<=n
 md:0<=A.made/\A.made<=n
 cl:0<=A.calls/\A.calls<=n
 ep:0<=A.epoch/\A.epoch<=n
 se:0<=A.serial/\A.serial<=n
 sy:A.syms.length<=n
 ou:A.out.length<=n
 ev:A.log.length<=n
theorem Fig.up {n:Nat}{A:Ab}(h:Fig n A):Fig (n+1) A:=by
 obtain ⟨h1,h2,h3,h4,h5,h6,h7,h8⟩:=h;exact ⟨by omega,by omega,by omega,by omega,by omega,by omega,by omega,by omega⟩
structure WA (n:Nat) (A:Ab) (w:TC):Prop where
 cS:w.Us.Uu=A.cS
 cC:w.Us.Uq=A.cC
 cM:w.Us.Ut=A.cM
 st:w.UA.UV=A.steps
 md:w.UA.UT=A.made
 cl:w.UA.UU=A.calls
 ep:w.UO=A.epoch
 sl:w.UQ=A.sleep
 se:w.UP=A.serial
 sy:w.UF=A.syms
 ou:w.UG=A.out
 ev:w.UH=A.log
 rl:(w.Uk.Ur.length:Int)=A.roots
 sh:w.Un=OW\/w.Un=Kw
 wh:WH n A.jobs w.Uk
 fg:Fig n A
theorem WA.up {n:Nat}{A:Ab}{w:TC}(h:WA n A w)(hn:n<60):WA (n+1) A w:={h with wh:=h.wh.up hn,fg:=h.fg.up}
theorem PQ {N:Nat}(hN:6500<N){n:Nat}{A:Ab}{w:TC}(h:WA n A w)(hn:n<60):
  ∃w',fH N w=some (!decide (A.cS<=A.steps),w')/\WA (n+1) (bif decide (A.cS<=A.steps) then A else {A with steps:=A.steps+1}) w':=by
 have hst:=h.fg.st;unfold fH;rw [h.cS,h.st]
 cases hd:decide (A.cS<=A.steps) with
 |true=>exact ⟨w,rfl,h.up hn⟩
 | false=>
  rw [cf,r64 V V]
  have key: ∀w2:TC,w2.Us=w.Us->w2.UA=⟨A.steps+1,w.UA.UT,w.UA.UU⟩->w2.UF=w.UF->w2.UO=w.UO->w2.UP=w.UP->w2.UQ=w.UQ->w2.UH=w.UH->w2.UG=w.UG->w2.Un=w.Un->w2.Uk.Ur.length=w.Uk.Ur.length->WH n A.jobs w2.Uk->WA (n+1) {A with steps:=A.steps+1} w2:=by
   intro w2 e1 e2 e3 e4 e5 e6 e7 e8 e9 a1 a2;have f:=h.fg.up;exact ⟨by rw [e1];exact h.cS,by rw [e1];exact h.cC,by rw [e1];exact h.cM,by rw [e2],by rw [e2];exact h.md,by rw [e2];exact h.cl,by rw [e4];exact h.ep,by rw [e6];exact h.sl,by rw [e5];exact h.se,by rw [e3];exact h.sy,by rw [e8];exact h.ou,by rw [e7];exact h.ev,by rw [a1];exact h.rl,by rw [e9];exact h.sh,a2.up hn,⟨by show 0<=A.steps+1/\A.steps+1<=_;omega,f.md,f.cl,f.ep,f.se,f.sy,f.ou,f.ev⟩⟩
  obtain ⟨b,hb⟩:=G3 N w.Us.UC (⟨(⟨A.steps+1,w.UA.UT,w.UA.UU⟩:TL),w.Us,(),w.Uk,w.Un,w.UF,w.UO,w.UP,w.UQ,w.UH,w.UG⟩:TC);obtain ⟨b2,a6⟩:=G3 N w.Us.Uj (⟨(⟨A.steps+1,w.UA.UT,w.UA.UU⟩:TL),w.Us,(),w.Uk,w.Un,w.UF,w.UO,w.UP,w.UQ,w.UH,w.UG⟩:TC);rw [hb,bs]
  cases b with
  |true=>
   obtain ⟨g',e,r,l⟩:=DO hN (w:=(⟨(⟨A.steps+1,w.UA.UT,w.UA.UU⟩:TL),w.Us,(),w.Uk,w.Un,w.UF,w.UO,w.UP,w.UQ,w.UH,w.UG⟩:TC)) h.wh;rw [ct,e,bs];refine ⟨_,J,?_⟩;exact key _ J J J J J J J J J l r
  | false=>
   rw [cf,a6,bs]
   cases b2 with
   |true=>
    obtain ⟨g',e,r,l⟩:=DN hN (w:=(⟨(⟨A.steps+1,w.UA.UT,w.UA.UU⟩:TL),w.Us,(),w.Uk,w.Un,w.UF,w.UO,w.UP,w.UQ,w.UH,w.UG⟩:TC)) h.wh;rw [ct,e,bs];refine ⟨_,J,?_⟩;exact key _ J J J J J J J J J l r
   |false=>
    rw [cf];refine ⟨_,J,?_⟩;exact key _ (by rw [<-h.cS]) J J J J J J J J J h.wh
theorem Ln {N:Nat}(hN:6500<N){g:TI}(hl:g.m_.Uj.length<=600){c:TB}(h1:c.Uo.length<=600/\c.Um.length<=600)(hr:bx c=true)(h0:c.Ux=0):
  eF N g c=some (2*(g.m_.Uj.length:Int)+1,0,If g c):=by
 have ec:(⟨c.Ui,c.Uw,c.Uv,0,c.Uo,c.Um⟩:TB)=c:=by rw [<-h0]
 unfold eF aK;rw [bs,cf,BM hN V,bs,hr]
 have e:((g.m_.Uj++ [(⟨c.Ui,c.Uw,c.Uv,0,c.Uo,c.Um⟩:TB)]).length:Int)=(g.m_.Uj.length:Int)+1:=by simp
 rw [nt,cf,px N c V,bs,rF (by simp only [List.length_cons,List.length_nil];omega),e,r64 V V,r64 V V,ec,show 2*((g.m_.Uj.length:Int)+1) - 1=2*(g.m_.Uj.length:Int)+1 by omega];rfl
theorem WH.young {n:Nat}{jobs:List TO}{g:TI}(h:WH n jobs g):g.m_.Uj.length<=600:=by
 have:=h.bd.cnt;have:=h.le;omega
theorem Qb {N:Nat}(hN:6500<N){n:Nat}{jobs:List TO}{w:TC}(h:WH n jobs w.Uk){c:TB}(h1:c.Uo.length<=600/\c.Um.length<=600)(hr:bx c=true)(h0:c.Ux=0):
  dv N w c=some (⟨9,2*(w.Uk.m_.Uj.length:Int)+1,⟨#[]⟩⟩,Jt w (If w.Uk c)):=by
 unfold dv;rw [Ln hN h.young h1 hr h0,bs,TP (p:=(0:Int)=0) rfl,nt,cf];rfl
theorem WH.push {n:Nat}{jobs:List TO}{g:TI}(h:WH n jobs g)(hn:n<60){v:Ty}(hv:bm v=false)(h64:in64 v.N):WH (n+1) jobs ⟨g.m_,g.Ur++ [v],g.Uz,g.Uy⟩:=by
 have b:=h.bd;have hc:=b.cnt;have hrt:=b.rts;have hsm:=b.sum;have hrl:=h.rl;have bd:Bd (n+1) (⟨g.m_,g.Ur++ [v],g.Uz,g.Uy⟩:TI):=⟨by show g.m_.Uj.length+g.m_.Ul.length<=_;omega,by show (g.Ur++ [v]).length<=_;simp;omega,b.cells,by show mS g.m_.Uj+mS g.m_.Ul<=_;omega⟩
 have hr64: ∀x∈g.Ur++ [v],in64 x.N:=fun x hx=>by
  rcases List.mem_append.1 hx with hx|hx
  ·exact h.pl.hb.r64 x (TT _ hx)
  obtain rfl:x=v:=by simpa using hx
  exact h64
 have hadd: ∀x∈bN (g.Ur++ [v]),aJ g.m_ x=true:=fun x hx=>by
  obtain ⟨y,hy,hb,rfl⟩:=lw.1 hx;rcases List.mem_append.1 hy with hy|hy
  ·exact h.pl.roots _ (lw.2 ⟨y,hy,hb,J⟩)
  obtain rfl:y=v:=by simpa using hy
  rw [hv] at hb;cases hb
 have hlt: ∀j,j<20->(g.Ur++ [v])[j]? =g.Ur[j]? :=fun j hj=>List.getElem?_append_left V
 refine ⟨hn,bd,⟨IQ hn bd h.pl.pend h.pl.hb.w64 hr64 h.pl.hb.nd h.pl.hb.keys,h.pl.pend,h.pl.cells,hadd,h.pl.set⟩,by show 20<=(g.Ur++ [v]).length;simp;omega,fun j hj=> ?_,fun j x hj hx=> ?_,?_,by have:=h.jl;omega⟩
 ·obtain ⟨a,h1,h2⟩:=h.intr j hj;exact ⟨a,(hlt j V).trans h1,h2⟩
 ·have hx':(g.Ur++ [v])[j]? =some x:=hx;rcases Nat.lt_or_ge j g.Ur.length with hl|hl
  ·rw [List.getElem?_append_left hl] at hx';exact h.vals j x hj hx'
  rw [List.getElem?_append_right hl] at hx'
  obtain rfl:x=v:=by
   have:=List.mem_of_getElem? hx';simpa using this
  exact hv
 obtain ⟨q,k,qa,ka,Q,K,kl,b⟩:=h.box;exact ⟨q,k,qa,ka,Q,K,by omega,(hlt 18 V).trans b.r18,(hlt 19 V).trans b.r19,b.ne,b.hq,b.hk,b.aq,b.ak,b.kv,b.ql,b.job⟩
theorem WH.cut {n:Nat}{jobs:List TO}{g:TI}(h:WH n jobs g){m:Nat}(hm:20<=m):WH n jobs ⟨g.m_,g.Ur.take m,g.Uz,g.Uy⟩:=by
 have b:=h.bd;have hrt:=b.rts;have hrl:=h.rl
 have hlen:(g.Ur.take m).length<=g.Ur.length:=by rw [Uc];omega
 have bd:Bd n (⟨g.m_,g.Ur.take m,g.Uz,g.Uy⟩:TI):=⟨b.cnt,Nat.le_trans hlen hrt,b.cells,b.sum⟩
 have hsub: ∀x∈g.Ur.take m,x∈g.Ur:=fun x hx=>List.mem_of_mem_take hx
 have hlt: ∀j,j<20->(g.Ur.take m)[j]? =g.Ur[j]? :=fun j hj=>by rw [List.getElem?_take,if_pos V]
 refine ⟨h.le,bd,⟨IQ h.le bd h.pl.pend h.pl.hb.w64 (fun x hx=>h.pl.hb.r64 x (TT _ (hsub x hx))) h.pl.hb.nd h.pl.hb.keys,h.pl.pend,h.pl.cells,fun x hx=> ?_,h.pl.set⟩,by show 20<=(g.Ur.take m).length;rw [Uc];omega,fun j hj=> ?_,fun j x hj hx=> ?_,?_,h.jl⟩
 ·obtain ⟨y,hy,hb,rfl⟩:=lw.1 hx;exact h.pl.roots _ (lw.2 ⟨y,hsub y hy,hb,J⟩)
 ·obtain ⟨a,h1,h2⟩:=h.intr j hj;exact ⟨a,(hlt j V).trans h1,h2⟩
 ·have hx':(g.Ur.take m)[j]? =some x:=hx;rw [List.getElem?_take] at hx';split at hx'
  ·exact h.vals j x hj hx'
  cases hx'
 obtain ⟨q,k,qa,ka,Q,K,kl,b⟩:=h.box;exact ⟨q,k,qa,ka,Q,K,by omega,(hlt 18 V).trans b.r18,(hlt 19 V).trans b.r19,b.ne,b.hq,b.hk,b.aq,b.ak,b.kv,b.ql,b.job⟩
section
variable {N n:Nat} {A:Ab} {w:TC} (h:WA n A w) (hn:n<60)
include h hn
theorem Pp (N:Nat): ∃w',jV N w=some (!decide (A.cC<=A.calls),w')/\WA (n+1) (bif decide (A.cC<=A.calls) then A else {A with calls:=A.calls+1}) w':=by
 have f:=h.fg.up;have hcl:=h.fg.cl;unfold jV;rw [h.cC,h.cl]
 cases hd:decide (A.cC<=A.calls) with
 |true=>exact ⟨w,rfl,h.up hn⟩
 |false=>
  rw [cf,r64 V V];refine ⟨_,J,?_⟩;exact {h.up hn with cl:=J,fg:=⟨f.st,f.md,by show 0<=A.calls+1/\A.calls+1<=_;omega,f.ep,f.se,f.sy,f.ou,f.ev⟩}
theorem Ph (N:Nat): ∃w',jU N w=some w'/\WA (n+1) (bif decide (0<A.calls) then {A with calls:=A.calls - 1} else A) w':=by
 have f:=h.fg.up;have hcl:=h.fg.cl;unfold jU;rw [h.cl]
 cases hd:decide (0<A.calls) with
 |false=>exact ⟨w,rfl,h.up hn⟩
 |true=>
  have hp:=of_decide_eq_true hd;rw [ct,r64 V V];refine ⟨_,J,?_⟩;exact {h.up hn with cl:=J,fg:=⟨f.st,f.md,by show 0<=A.calls - 1/\A.calls - 1<=_;omega,f.ep,f.se,f.sy,f.ou,f.ev⟩}
theorem OS (N:Nat): ∃w',jS N w=some w'/\WA (n+1) {A with epoch:=A.epoch+1} w':=by
 have f:=h.fg.up;have hep:=h.fg.ep;unfold jS;rw [h.ep,r64 V V];exact ⟨_,J,{h.up hn with ep:=J,fg:=⟨f.st,f.md,f.cl,by show 0<=A.epoch+1/\A.epoch+1<=_;omega,f.se,f.sy,f.ou,f.ev⟩}⟩
theorem Ou (N:Nat)(x:Int): ∃w',jn N w x=some w'/\WA (n+1) {A with sleep:=IntKind.i64.wrap (A.sleep+x)} w':=by
 have f:=h.fg.up;unfold jn;rw [h.sl];exact ⟨_,J,{h.up hn with sl:=J,fg:=⟨f.st,f.md,f.cl,f.ep,f.se,f.sy,f.ou,f.ev⟩}⟩
theorem MV (N:Nat): ∃w',jk N w=some (A.serial+1,w')/\WA (n+1) {A with serial:=A.serial+1} w':=by
 have f:=h.fg.up;have hse:=h.fg.se;unfold jk;rw [h.se,r64 V V];exact ⟨_,J,{h.up hn with se:=J,fg:=⟨f.st,f.md,f.cl,f.ep,by show 0<=A.serial+1/\A.serial+1<=_;omega,f.sy,f.ou,f.ev⟩}⟩
theorem MQ (N:Nat)(s:ByteArray): ∃w',jj N w s=some (⟨6,(A.syms.length:Int)+3,⟨#[]⟩⟩,w')/\WA (n+1) {A with syms:=A.syms++ [s]} w':=by
 have f:=h.fg.up;have hsy:=h.fg.sy;unfold jj
 have hl:((A.syms++ [s]).length:Int)=(A.syms.length:Int)+1:=by simp
 rw [h.sy,rF (by simp only [List.length_cons,List.length_nil];omega),hl,r64 V V,r64 V V,show (3:Int)+((A.syms.length:Int)+1) - 1=(A.syms.length:Int)+3 by omega];exact ⟨_,J,{h.up hn with sy:=J,fg:=⟨f.st,f.md,f.cl,f.ep,f.se,by show (A.syms++ [s]).length<=_;simp;omega,f.ou,f.ev⟩}⟩
theorem Q0 (N:Nat)(e:TG): ∃w',dU N w e=some w'/\WA (n+1) {A with log:=A.log++ [e]} w':=by
 have f:=h.fg.up;have hev:=h.fg.ev;unfold dU;rw [h.ev,rF (by simp only [List.length_cons,List.length_nil];omega)];exact ⟨_,J,{h.up hn with ev:=J,fg:=⟨f.st,f.md,f.cl,f.ep,f.se,f.sy,f.ou,by show (A.log++ [e]).length<=_;simp;omega⟩}⟩
theorem O0 (N:Nat)(s:ByteArray): ∃w',jT N w s=some w'/\WA (n+1) {A with out:=A.out++ [s],log:=A.log++ [⟨1,⟨0,0,⟨#[]⟩⟩,s⟩]} w':=by
 have f:=h.fg.up;have hev:=h.fg.ev;have hou:=h.fg.ou;unfold jT;rw [h.ou,rF (by simp only [List.length_cons,List.length_nil];omega)];unfold dU;rw [h.ev,rF (by simp only [List.length_cons,List.length_nil];omega),bs];exact ⟨_,J,{h.up hn with ou:=J,ev:=J,fg:=⟨f.st,f.md,f.cl,f.ep,f.se,f.sy,by show (A.out++ [s]).length<=_;simp;omega,by show (A.log++ [_]).length<=_;simp;omega⟩}⟩
theorem PX (N:Nat){v:Ty}(hv:bm v=false)(h64:in64 v.N): ∃w',kM N w v=some (A.roots,w')/\WA (n+1) {A with roots:=A.roots+1} w':=by
 have f:=h.fg.up;have hb:=h.wh.bd.rts;unfold kM;rw [PY N V,bs,h.rl];refine ⟨_,J,{h.up hn with rl:=?_,wh:=h.wh.push hn hv h64,fg:=⟨f.st,f.md,f.cl,f.ep,f.se,f.sy,f.ou,f.ev⟩}⟩;show ((w.Uk.Ur++ [v]).length:Int)=A.roots+1;rw [<-h.rl];simp
end
end
section
open Go.RowKit
set_option maxRecDepth 20000
theorem Np {x:Int}(h1: -9007199254740992<=x)(h2:x<=9007199254740992):lf (kj x)=true:=by
 have e:dp 0 ⟨3,x,⟨#[]⟩⟩=(bif decide (-9007199254740992<=x) then some (decide (x<=9007199254740992)) else some false):=by
  unfold dp;cases decide (-9007199254740992<=x)<;>kernel_rfl
 unfold lf kj;rw [e,TP h1,TP h2];rfl
theorem Pb {a:Int}(h:1<=a):lf ⟨9,a,⟨#[]⟩⟩=true:=by
 have e:dp 0 ⟨9,a,⟨#[]⟩⟩=some (decide (1<=a)):=by
  unfold dp;kernel_rfl
 unfold lf;rw [e,TP h];rfl
theorem F1 {l:List Ty}{a:Int}(h:bx ⟨11,0,0,a,[],l⟩=true):0<=a/\a<=1/\ ∀v∈l,lf v=true:=by
 have hg:=xq h;have h0:0<=a:=hg.1;have h1:a<=1:=hg.2;rw [sE h0 h1,List.all_eq_true] at h;exact ⟨h0,h1,h⟩
theorem Jd {N n:Nat}{jobs:List TO}{w:TC}(hN:6500<N)(h:WH n jobs w.Uk){r q ag:Int}{Q:List Ty}{j:Nat}(hj:r=j)(hr:w.Uk.Ur[j]? =some ⟨9,q,⟨#[]⟩⟩)(hq:aJ w.Uk.m_ q=true)(aq:bw w.Uk.m_ q=⟨11,0,0,ag,[],Q⟩)(v:Ty):
  gg N w r v=some (Jt w (bif bx ⟨11,0,0,ag,[],Q++ [v]⟩ then lc w.Uk q ⟨11,0,0,ag,[],Q++ [v]⟩ else w.Uk)):=by
 have hs:=h.pl.hb.small
 have hQ:Q.length<=60:=by have:=(h.bd.cells _ (eJ hq)).2;rw [aq] at this;exact this
 have h2:aI N w ⟨9,q,⟨#[]⟩⟩=some ⟨11,0,0,ag,[],Q⟩:=by
  rw [py hs.cells J4 (h.pl.hb.r64 _ (TT _ (List.mem_of_getElem? hr))) hq];exact congrArg some aq
 have e:fS N ⟨9,q,⟨#[]⟩⟩=some true:=rfl;unfold gg;rw [hj,xp N hr,bs,h2,bs,rF (by simp only [List.length_cons,List.length_nil];omega)];unfold jm;rw [e,bs,ct,PW hN hs hq ⟨by show 0<=600;omega,by show (Q++ [v]).length<=600;simp;omega⟩,bs,bs];cases bx ⟨11,0,0,ag,[],Q++ [v]⟩<;>rfl
section
variable {N n:Nat} {A:Ab} {w:TC} (hN:6500<N) (h:WA n A w) (hn:n<60)
include hN h hn
theorem OF {c:TB}(hr:bx c=true)(h0:c.Ux=0)(hk:c.Ui≠8/\c.Ui≠10)(hs:c.Uo.length<=2/\c.Um.length<=40)(hv: ∀v∈c.Uo++c.Um,in64 v.N/\(bm v=true->aJ w.Uk.m_ v.N=true)):
  ∃w',dv N w c=some (⟨9,2*(w.Uk.m_.Uj.length:Int)+1,⟨#[]⟩⟩,w')/\WA (n+1) A w'/\w'=Jt w (If w.Uk c):=by
 refine ⟨_,Qb hN h.wh ⟨by omega,by omega⟩ hr h0,?_,J⟩;exact {h.up hn with wh:=h.wh.add hn hr hk hs hv}
theorem P6 {c:TB}(hr:bx c=true)(h0:c.Ux=0)(hk:c.Ui≠8/\c.Ui≠10)(hs:c.Uo.length<=2/\c.Um.length<=40)(hv: ∀v∈c.Uo++c.Um,in64 v.N/\(bm v=true->aJ w.Uk.m_ v.N=true)):
  (A.cM<=A.made/\du N w c=some (⟨0,0,⟨#[]⟩⟩,false,w))\/(A.made<A.cM/\ ∃w',du N w c=some (⟨7,2*(w.Uk.m_.Uj.length:Int)+1,⟨#[]⟩⟩,true,w')/\WA (n+1) {A with made:=A.made+1} w'/\w'.Uk=If w.Uk c):=by
 have f:=h.fg.up;have hmd:=h.fg.md;unfold du;rw [h.cM,h.md];by_cases hc:A.cM<=A.made
 ·rw [TP hc,ct];exact .inl ⟨hc,J⟩
 rw [TQ hc,cf,Ln hN h.wh.young ⟨by omega,by omega⟩ hr h0,bs,TP (p:=(0:Int)=0) rfl,nt,cf,r64 V V];refine .inr ⟨by omega,_,rfl,?_,rfl⟩;exact {h.up hn with md:=J,wh:=h.wh.add hn hr hk hs hv,fg:=⟨f.st,by show 0<=A.made+1/\A.made+1<=_;omega,f.cl,f.ep,f.se,f.sy,f.ou,f.ev⟩}
theorem Qn (x:Int): ∃w',lL N w x=some w'/\WA (n+1) {A with roots:=bif decide (max x 20<A.roots) then max x 20 else A.roots} w':=by
 have hrl:=h.wh.rl;have f:=h.fg.up;have _:=hN;unfold lL ex aK;rw [bs,nf,ct,bs,show max (max x 20) 0=max x 20 by omega,h.rl]
 cases hd:decide (max x 20<A.roots) with
 |false=>exact ⟨_,rfl,{h.up hn with rl:=h.rl,fg:=⟨f.st,f.md,f.cl,f.ep,f.se,f.sy,f.ou,f.ev⟩}⟩
 |true=>
  have hlt:=of_decide_eq_true hd;have hlen:=h.rl;rw [ct,dE ⟨by omega,by omega⟩,bs];refine ⟨_,J,{h.up hn with rl:=?_,wh:=(h.wh.up hn).cut (m:=(max x 20).toNat) V,fg:=⟨f.st,f.md,f.cl,f.ep,f.se,f.sy,f.ou,f.ev⟩}⟩;show ((w.Uk.Ur.take (max x 20).toNat).length:Int)=max x 20;rw [Uc];omega
theorem P9 {x:Int}(h64:in64 x): ∃w',iJ N w (kj x)=some w'/\WA (n+1) A w':=by
 obtain ⟨q,k,qa,ka,Q,K,kl,b⟩:=h.wh.box
 have hK:K.length<=60:=by have:=(h.wh.bd.cells _ (eJ b.hk)).2;rw [b.ak] at this;exact this
 unfold iJ;rw [Jd hN h.wh (r:=19) (j:=19) rfl b.r19 b.hk b.ak,bs];refine ⟨_,J,?_⟩
 cases hr:bx ⟨11,0,0,ka,[],K++ [kj x]⟩ with
 |false=>exact {h.up hn with rl:=h.rl}
 | true=>
  have hw:=h.wh.up hn;have hsm:=h.wh.bd.sum;have hcur:=(h.wh.pl.cells _ (eJ b.hk)).1;rw [b.ak] at hcur;have hall:=(F1 hr).2.2
  have h64K: ∀v∈K,in64 v.N:=fun v hv=>h.wh.pl.hb.w64 _ (eJ b.hk) v (by rw [b.ak];exact TU _ hv)
  have hl:(K++ [kj x]).length=K.length+1:=by simp
  obtain ⟨-,r⟩:=hw.setK b (K':=K++ [kj x]) (fun v hv=>⟨hall v hv,by
   rcases List.mem_append.1 hv with hv|hv
   ·exact ⟨h64K v hv,b.kv v hv⟩
   ·obtain rfl:v=kj x:=by simpa using hv
    exact ⟨h64,J⟩⟩) V (by have:=h.wh.le;omega) V
  refine {h.up hn with rl:=?_,wh:=r};show (((bif true then lc w.Uk k ⟨11,0,0,ka,[],K++ [kj x]⟩ else w.Uk).Ur).length:Int)=A.roots;rw [ct,(rU _ _ _).2.1];exact h.rl
theorem Mb {l:List Int}(hl:l.length<=40)(hm: ∀x∈l, -9007199254740992<=x/\x<=9007199254740992): ∃w',iS N w (l.map kj)=some w'/\WA (n+1) {A with jobs:=A.jobs++ [l]} w':=by
 have hr:bx ⟨11,0,0,0,[],l.map kj⟩=true:=by
  rw [sE V V,List.all_eq_true];intro v hv;obtain ⟨x,hx,rfl⟩:=List.mem_map.1 hv;exact Np (hm x hx).1 (hm x hx).2
 have hcv: ∀v∈([]:List Ty)++l.map kj,in64 v.N/\(bm v=true->aJ w.Uk.m_ v.N=true):=fun v hv=>by
  obtain ⟨x,hx,rfl⟩:=List.mem_map.1 (by simpa using hv);have:=hm x hx;exact ⟨by show in64 x;unfold in64;omega,fun hb=>by cases hb⟩
 obtain ⟨w1,e1,h1,e2⟩:=OF hN h hn (c:=⟨11,0,0,0,[],l.map kj⟩) hr rfl ⟨by show¬(11:Int)=8;omega,by show¬(11:Int)=10;omega⟩ ⟨by show 0<=2;omega,by show (l.map kj).length<=40;rw [Ud];exact hl⟩ hcv;obtain ⟨q,k,qa,ka,Q,K,kl,b⟩:=h.wh.box;obtain ⟨a1,a2,a3,a4⟩:=Hg (m:=w.Uk.m_) (⟨11,0,0,0,[],l.map kj⟩:TB)
 have b1:QK w1.Uk A.jobs q k qa ka Q K:=by
  rw [e2];exact ⟨b.r18,b.r19,b.ne,(a1 q b.hq).1,(a1 k b.hk).1,(a1 q b.hq).2.trans b.aq,(a1 k b.hk).2.trans b.ak,b.kv,b.ql,fun i v l h1 h2=>(b.job i v l h1 h2).mono fun x hx _ _=>a1 x hx⟩
 have hjl:=h.wh.jl;have hql:=b.ql;have hle:=h.wh.le;have hQr:=(h1.wh.pl.cells _ (eJ b1.hq)).1;rw [b1.aq] at hQr;obtain ⟨q0,q1,qall⟩:=F1 hQr
 have hnew:aJ w1.Uk.m_ (2*(w.Uk.m_.Uj.length:Int)+1)=true:=by rw [e2];exact a2
 have hmS:mS w1.Uk.m_.Uj+mS w1.Uk.m_.Ul<=42*n+40:=by
  have:=h.wh.bd.sum;rw [e2];show mS (w.Uk.m_.Uj++ [_])+mS w.Uk.m_.Ul<=_;unfold mS at this⊢;rw [rD];simp only [bW,Ud];omega
 have h64Q: ∀v∈Q,in64 v.N:=fun v hv=>h1.wh.pl.hb.w64 _ (eJ b1.hq) v (by rw [b1.aq];exact TU _ hv)
 have hadQ: ∀v∈Q,bm v=true->aJ w1.Uk.m_ v.N=true:=fun v hv _=>by
  obtain ⟨i,hi⟩:=List.mem_iff_getElem?.1 hv
  have hil:i<A.jobs.length:=by rw [<-b1.ql];exact (List.getElem?_eq_some_iff.1 hi).1
  obtain ⟨a,ag,rfl,g2, -⟩:=b1.job i v _ hi (List.getElem?_eq_getElem hil);exact g2
 have hYl:=h.wh.young
 obtain ⟨r1,r2⟩:=h1.wh.setQ b1 (Q':=Q++ [⟨9,2*(w.Uk.m_.Uj.length:Int)+1,⟨#[]⟩⟩]) (jobs':=A.jobs++ [l]) V (by simp;omega) (fun v hv=>by
  rcases List.mem_append.1 hv with hv|hv
  ·exact ⟨qall v hv,h64Q v hv,hadQ v hv⟩
  ·obtain rfl:v=⟨9,2*(w.Uk.m_.Uj.length:Int)+1,⟨#[]⟩⟩:=by simpa using hv
   exact ⟨Pb V,by show in64 (2*(w.Uk.m_.Uj.length:Int)+1);unfold in64;omega,fun _=>hnew⟩) ⟨by simp,by simp;omega⟩ (by simp;omega) (by simp;exact b1.ql) (fun i v l' hi hl'=>by
  rcases Nat.lt_or_ge i Q.length with hlt|hge
  ·rw [List.getElem?_append_left hlt] at hi;rw [List.getElem?_append_left (by rw [<-b1.ql];exact hlt)] at hl';exact b1.job i v l' hi hl'
  ·rw [List.getElem?_append_right hge] at hi;rw [List.getElem?_append_right (by rw [<-b1.ql];exact hge), <-b1.ql] at hl';have hv:=List.mem_of_getElem? hi;have hj:=List.mem_of_getElem? hl'
   obtain rfl:v=⟨9,2*(w.Uk.m_.Uj.length:Int)+1,⟨#[]⟩⟩:=by simpa using hv
   obtain rfl:l'=l:=by simpa using hj
   refine ⟨_,0,J,hnew,fun e=> ?_,fun e=> ?_,?_⟩
   ·have:=b.hq;rw [<-e,a4] at this;cases this
   ·have:=b.hk;rw [<-e,a4] at this;cases this
   ·rw [e2];exact a3)
 unfold iS;rw [e1,bs]
 dsimp only
 rw [Jd hN h1.wh (r:=18) (j:=18) rfl b1.r18 b1.hq b1.aq,bs,r1,ct];refine ⟨_,J,{h1 with rl:=?_,wh:=r2,fg:=⟨h1.fg.st,h1.fg.md,h1.fg.cl,h1.fg.ep,h1.fg.se,h1.fg.sy,h1.fg.ou,h1.fg.ev⟩}⟩;show (((lc w1.Uk q ⟨11,0,0,qa,[],Q++ [⟨9,2*(w.Uk.m_.Uj.length:Int)+1,⟨#[]⟩⟩]⟩).Ur).length:Int)=A.roots;rw [(rU _ _ _).2.1];exact h1.rl
end
end
section
open Go.RowKit
set_option maxRecDepth 20000
theorem EJ {N n:Nat}{jobs:List TO}{w:TC}(h:WH n jobs w.Uk):iK N w=some (jobs.length:Int):=by
 obtain ⟨q,k,qa,ka,Q,K,kl,b⟩:=h.box
 have h2:aI N w ⟨9,q,⟨#[]⟩⟩=some ⟨11,0,0,qa,[],Q⟩:=by
  rw [py h.pl.hb.small.cells J4 (h.pl.hb.r64 _ (TT _ (List.mem_of_getElem? b.r18))) b.hq];exact congrArg some b.aq
 have h1:bi N w.Uk 18=some ⟨9,q,⟨#[]⟩⟩:=xp N b.r18;unfold iK;rw [h1,bs,h2,bs, <-b.ql]
section
variable {N n:Nat} {A:Ab} {w:TC} (hN:6500<N) (h:WA n A w) (hn:n<60)
include hN h hn
theorem Md:(A.jobs=[]/\fE N w=some ([],false,w))\/ ∃l js,A.jobs=l::js/\ ∃w',fE N w=some (l.map kj,true,w')/\WA (n+1) {A with jobs:=js} w':=by
 have hs:=h.wh.pl.hb.small;have f:=h.fg.up;unfold fE;rw [EJ h.wh,bs]
 cases hj:A.jobs with
 |nil=>exact .inl ⟨rfl,rfl⟩
 | cons l js=>
  refine .inr ⟨l,js,J,?_⟩;obtain ⟨q,k,qa,ka,Q,K,kl,b⟩:=h.wh.box;have hql:=b.ql;rw [hj,List.length_cons] at hql;have hjl:=h.wh.jl;rw [hj,List.length_cons] at hjl;have hle:=h.wh.le
  obtain ⟨v,Q',rfl⟩: ∃v Q',Q=v::Q':=by
   cases Q with
   |nil=>simp at hql
   |cons v Q'=>exact ⟨v,Q',rfl⟩
  rw [List.length_cons] at hql
  have h2:aI N w ⟨9,q,⟨#[]⟩⟩=some ⟨11,0,0,qa,[],v::Q'⟩:=by
   rw [py hs.cells J4 (h.wh.pl.hb.r64 _ (TT _ (List.mem_of_getElem? b.r18))) b.hq];exact congrArg some b.aq
  have h1:bi N w.Uk 18=some ⟨9,q,⟨#[]⟩⟩:=xp N b.r18;obtain ⟨a,ag,rfl,g2,g3,g4,g5⟩:=b.job 0 v l rfl (by rw [hj];rfl)
  have h3:aI N w ⟨9,a,⟨#[]⟩⟩=some ⟨11,0,0,ag,[],l.map kj⟩:=by
   rw [py hs.cells J4 (uW hs g2) g2];exact congrArg some g5
  have hQr:=(h.wh.pl.cells _ (eJ b.hq)).1;rw [b.aq] at hQr;obtain ⟨q0,q1,qall⟩:=F1 hQr;have hsm:=h.wh.bd.sum
  obtain ⟨r1,r2⟩:=(h.wh.up hn).setQ b (Q':=Q') (jobs':=js) V V (fun v hv=>⟨qall v (List.mem_cons_of_mem _ hv),h.wh.pl.hb.w64 _ (eJ b.hq) v (by rw [b.aq];exact TU _ (List.mem_cons_of_mem _ hv)),fun hb=>by
   obtain ⟨i,hi⟩:=List.mem_iff_getElem?.1 hv
   have hil:i<js.length:=by have:=(List.getElem?_eq_some_iff.1 hi).1;omega
   obtain ⟨a',ag',rfl,g', -⟩:=b.job (i+1) v js[i] (by rw [List.getElem?_cons_succ];exact hi) (by rw [hj,List.getElem?_cons_succ];exact List.getElem?_eq_getElem hil)
   exact g'⟩) ⟨by simp;omega,by omega⟩ (by simp;omega) V (fun i v l' h1 h2=>b.job (i+1) v l' (by rw [List.getElem?_cons_succ];exact h1) (by rw [hj,List.getElem?_cons_succ];exact h2))
  have hz: ¬(((l::js).length:Nat):Int)=0:=by rw [List.length_cons];omega
  have e:fS N ⟨9,q,⟨#[]⟩⟩=some true:=rfl
  have eQ:((((⟨9,a,⟨#[]⟩⟩:Ty)::Q').drop ((1:Int).toNat)).take (((⟨9,a,⟨#[]⟩⟩:Ty)::Q').length - (1:Int).toNat))=Q':=by
   show (Q'.take ((Q'.length+1) - 1))=Q';rw [Nat.add_sub_cancel,Ue]
  have g0:aw ((⟨9,a,⟨#[]⟩⟩:Ty)::Q') 0=some ⟨9,a,⟨#[]⟩⟩:=rfl;rw [TQ hz,cf,h1,bs,h2,bs]
  dsimp only
  rw [g0,bs,h3,bs,dE ⟨by omega,by show 1<=Q'.length+1;omega,Nat.le_refl _⟩,eQ];unfold jm;rw [e,bs,ct,PW hN hs b.hq ⟨by show 0<=600;omega,by show Q'.length<=600;omega⟩,r1,bs,bs];refine ⟨_,J,{h.up hn with rl:=?_,wh:=r2,fg:=⟨f.st,f.md,f.cl,f.ep,f.se,f.sy,f.ou,f.ev⟩}⟩;show (((lc w.Uk q ⟨11,0,0,qa,[],Q'⟩).Ur).length:Int)=A.roots;rw [(rU _ _ _).2.1];exact h.rl
end
def Ig (o:Option ByteArray):Prop:= ∃s,o=some s/\s.size<=1000
theorem KE (L:List ByteArray)(n:Int)(hn:(L.length:Int)=n)(hL:L.all (fun s=>decide (s.size<=1000))=true)(x:Int):Ig (((bif decide (x<0) then (some true) else (some (decide (n<=x)))):Option Bool).bind fun b2=>bif b2 then (some (⟨#[]⟩:ByteArray)) else ((aw L x).bind fun x4=>some x4)):=by
 rw [List.all_eq_true] at hL;by_cases h0:x<0
 ·rw [cu h0,ct,bs,ct];exact ⟨_,J,by decide⟩
 rw [TQ h0,cf,bs];by_cases h1:n<=x
 ·rw [TP h1,ct];exact ⟨_,J,by decide⟩
 rw [TQ h1,cf];obtain ⟨i,rfl⟩: ∃i:Nat,x=i:=⟨x.toNat,by omega⟩
 have hi:i<L.length:=by omega
 rw [aL hi,bs];exact ⟨_,J,of_decide_eq_true (hL _ (Uh hi))⟩
theorem LG (N:Nat)(x:Int):Ig (gP N x):=by
 unfold gP;exact KE _ 4 (by rfl) I x
theorem OQ (N:Nat)(x:Int):Ig (iw N x):=by
 unfold iw;exact KE _ 22 (by rfl) I x
theorem OV (M:Nat):cO (M+16) OW 0 La 5=some (1,0,Kw):=by kernel_rfl
theorem OU (M:Nat):cO (M+16) Kw 0 La 5=some (1,0,Kw):=by kernel_rfl
theorem Ms (M:Nat):jf (M+64)=some true:=by kernel_rfl
theorem KC {N:Nat}(hN:6500<N):cO N OW 0 La 5=some (1,0,Kw):=by
 obtain ⟨M,rfl⟩: ∃M,N=M+16:=⟨N - 16,by omega⟩;exact OV M
theorem KB {N:Nat}(hN:6500<N):cO N Kw 0 La 5=some (1,0,Kw):=by
 obtain ⟨M,rfl⟩: ∃M,N=M+16:=⟨N - 16,by omega⟩;exact OU M
theorem Id {N:Nat}(hN:6500<N):jf N=some true:=by
 obtain ⟨M,rfl⟩: ∃M,N=M+64:=⟨N - 64,by omega⟩;exact Ms M
def va (x:Int):ByteArray:=(gP 0 x).getD ⟨#[]⟩
def sG (x:Int):ByteArray:=(iw 0 x).getD ⟨#[]⟩
theorem yW (N:Nat)(x:Int):gP N x=some (va x)/\(va x).size<=1000:=by
 obtain ⟨s,h1,h2⟩:=LG N x
 have e:va x=s:=by
  have h3:gP 0 x=some s:=h1;unfold va;rw [h3];rfl
 rw [e];exact ⟨h1,h2⟩
theorem zh (N:Nat)(x:Int):iw N x=some (sG x)/\(sG x).size<=1000:=by
 obtain ⟨s,h1,h2⟩:=OQ N x
 have e:sG x=s:=by
  have h3:iw 0 x=some s:=h1;unfold sG;rw [h3];rfl
 rw [e];exact ⟨h1,h2⟩
end
end Go.Proofs.YtjmonlcchlkdhaaGreat