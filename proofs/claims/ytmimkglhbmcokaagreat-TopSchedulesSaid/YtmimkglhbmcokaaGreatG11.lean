/- Merged texts: part 11. No conditions of their own. -/
import Derived.Test.YtmimkglhbmcokaaGreatG10
import Derived.Test.YtmimkglhbmcokaaGreatG3
namespace Go.Proofs.YtmimkglhbmcokaaGreat
section
open Go.RowKit
def cy (c:SD):List Int:=bD c++lf c
def pR (N:Nat)(c:SD):Bool:=(cY N c).getD false
theorem Lz (c:SD):(cy c).length≤c.Slots.length+2*c.More.length:=by
 have h1:=km c;have h2:=nw c;unfold cy;rw [List.length_append];omega
theorem zK: ∀l:List SD,(l.flatMap cy).length≤2*wt l
 | []=>by simp [wt]
 |c::l=>by
  have h1:=zK l;have h2:=Lz c;rw [List.flatMap_cons,List.length_append,wt];omega
theorem IE (N:Nat)(m:SB)(l:List Int)(hl:l.length<N)(hl2:l.length≤5000)(h64: ∀x∈l,in64 x):bO N l (fun x=>ic N x m)=some (!dz m l):=by
 have key: ∀k i:Nat,l.length<k+i→i≤l.length→Sat (dQ N (fun x=>ic N x m) l k (i:Int)) fun r=>decide (0≤r)=!(l.drop i).all (aZ m):=by
  intro k
  induction k with
  |zero=>intro i h1 h2;omega
  | succ k ih=>
   intro i h1 h2;rw [dQ.eq_2];by_cases hi:i<l.length
   ·have h3:=ih (i+1) W hi;rw [show (((i+1:Nat)):Int)=(i:Int)+1 by omega] at h3;rw [cV W,ct,bf hi,bs,List.drop_eq_getElem_cons hi,List.all_cons];unfold ic;rw [tK N m _ (h64 _ (List.getElem_mem _)),bs,bs,r64 W W];cases aZ m l[i]
    ·exact aQ (by rw [SN W];rfl)
    exact h3
   rw [cQ W,cf,List.drop_eq_nil_of_le W];exact aQ U
 obtain ⟨r,h1,h2⟩:=key N 0 W W;have h1':dQ N (fun x=>ic N x m) l N 0=some r:=h1;unfold bO ka;rw [h1',bs,h2];unfold dz;simp
def mM (N:Nat)(m:SB)(roots:List SG):Int:=
 bif (m.Young++m.Old).all (pR N) then bif dz m ((m.Young++m.Old).flatMap cy++bW roots) then 0 else 50 else 51
theorem Eb (N:Nat)(hN:5000<N){m:SB}{roots:List SG}(hs:Small m roots)(ht:Wtd m roots)(hw:W64 m)(hr: ∀v∈roots,in64 v.N):kS N m roots=some (mM N m roots):=by
 have hle:=ht.le;have h1:=hs.young;have h2:=hs.old;have h3:=hs.roots
 have a64: ∀(l:List SD),(∀c∈l,c∈m.Young++m.Old)→ ∀x∈l.flatMap cy,in64 x:=fun l hl x hx=>by
  obtain ⟨c,hc,hx⟩:=List.mem_flatMap.1 hx;obtain ⟨⟨-,g1⟩, -,g2⟩:=Ar hs hw (hl c hc);exact (List.mem_append.1 hx).elim (g1 x) (g2 x)
 have r64': ∀x∈bW roots,in64 x:=fun x hx=>by
  obtain ⟨v,h1, -,rfl⟩:=eo.1 hx;exact hr v h1
 have hal: ∀k,(bW (roots.take k)).length≤roots.length:=fun k=>by
  unfold bW;rw [List.length_map];exact Nat.le_trans (List.length_filter_le _ _) (by rw [List.length_take];omega)
 -- the roots
 have hroots: ∀q:List Int,q.length+roots.length≤4800→(∀x∈q,in64 x)→oq N roots m q=some (bif dz m (q++bW roots) then 0 else 50):=by
  intro q hq q64;apply Sat.eq;unfold oq;refine cR (fun k i (s:List Int)=>fE N roots m k s (i:Int)) roots.length (fun i s=>s=q++bW (roots.take i)) _ ?_ ?_ N 0 q W W (by simp [bW])
  ·rintro k i s hi h1 go;show Sat (fE N roots m (k+1) s (i:Int)) _
   have hnext:q++bW (roots.take (i+1))=s++bW [roots[i]]:=by rw [bi hi,xa,h1,SQ]
   have hsl:s.length≤4800:=by have:=hal i;rw [h1,List.length_append];omega
   rw [fE.eq_2,cV W,ct,bf hi,bs,pF,bs];unfold nc;cases hb:br roots[i]
   ·rw [cf,r64 W W];exact go s (by rw [hnext];simp [bW,hb])
   rw [ct,rF (by simp;omega),r64 W W];exact go _ (by rw [hnext];simp [bW,hb])
  rintro k s h1;show Sat (fE N roots m (k+1) s _) _;rw [List.take_length] at h1
  have hsl:s.length≤4800:=by have:=hal roots.length;rw [List.take_length] at this;rw [h1,List.length_append];omega
  rw [fE.eq_2,cQ W,cf];unfold pX;rw [IE N m s W W (fun x hx=>by rw [h1] at hx;exact (List.mem_append.1 hx).elim (q64 x) (r64' x)),bs, ←h1];cases dz m s<;>exact aQ rfl
 -- one row
 have row: ∀(kb:List Int→Int→Option Int) (p:Int) (l:List SD) (q:List Int),in64 (p+1)→l.length≤600→wt l≤2400→(∀c∈l,c∈m.Young++m.Old)→q.length≤5000→kH N kb m p l roots N q 0=bif l.all (pR N) then kb (q++l.flatMap cy) (p+1) else some 51:=by
  intro kb p l q hp hll hl hl2 hq
  have key: ∀(k i:Nat),l.length<k+i→i≤l.length→kH N kb m p l roots k (q++(l.take i).flatMap cy) (i:Int)=bif (l.drop i).all (pR N) then kb (q++l.flatMap cy) (p+1) else some 51:=by
   intro k
   induction k with
   |zero=>intro i h1 h2;omega
   | succ k ih=>
    intro i h4 h5;have hfl:=zK (l.take i)
    have hwt:wt (l.take i)≤wt l:=by
     have:=CJ (l.take i) (l.drop i);rw [List.take_append_drop] at this;omega
    by_cases hi:i<l.length
    ·have hm:=hl2 l[i] (List.getElem_mem _);have hc:=hs.cells _ hm;have hwi:=NV hi
     have hwt2:wt (l.take (i+1))≤wt l:=by
      have:=CJ (l.take (i+1)) (l.drop (i+1));rw [List.take_append_drop] at this;omega
     obtain ⟨b,hb, -⟩:=ti N W l[i] W W
     have hrc:pR N l[i]=b:=by unfold pR;rw [hb];rfl
     have e1:=km l[i];have e2:=nw l[i];have h6:=ih (i+1) W hi;rw [show (((i+1:Nat)):Int)=(i:Int)+1 by omega] at h6;rw [kH.eq_2,cV W,ct,bf hi,bs,vh N W _ W W,hb,bs,nr N W _ W W,bs,List.length_append,rF W,rT N W _ W W,bs,List.length_append,List.length_append,rF W,r64 W W]
     have hap:q++(l.take i).flatMap cy++bD l[i]++lf l[i]=q++(l.take (i+1)).flatMap cy:=by
      rw [bi hi,List.flatMap_append];simp [cy,SQ]
     rw [hap,h6,List.drop_eq_getElem_cons hi,List.all_cons,hrc];cases b<;>rfl
    have e:i=l.length:=by omega
    subst e;rw [kH.eq_2,cQ W,cf,List.drop_length,List.take_length];unfold pY;rw [kD hp];rfl
  have:=key N 0 W W;simpa using this
 have hwy:wt m.Young≤2400:=by omega
 have hwo:wt m.Old≤2400:=by omega
 have hfy:=zK m.Young;have hfo:=zK m.Old;obtain ⟨k,rfl⟩: ∃k,N=k+3:=⟨N - 3,by omega⟩;unfold kS mM;rw [lR.eq_2,show ((([m.Young,m.Old]:List (List SD)).length:Int))=2 from rfl,cV W,ct,show aM ([m.Young,m.Old]:List (List SD)) 0=some m.Young from rfl,bs,row _ 0 m.Young [] (by unfold in64;omega) h1 hwy (fun c hc=>SR _ hc) (by simp)];rw [lR.eq_2,show ((([m.Young,m.Old]:List (List SD)).length:Int))=2 from rfl,cV W,ct,show aM ([m.Young,m.Old]:List (List SD)) (0+1)=some m.Old from rfl,bs,List.nil_append,row _ (0+1) m.Old (m.Young.flatMap cy) (by unfold in64;omega) h2 hwo (fun c hc=>SS _ hc) W]
 rw [lR.eq_2,show ((([m.Young,m.Old]:List (List SD)).length:Int))=2 from rfl,cQ W,cf,hroots _ (by rw [List.length_append];omega) (fun x hx=>by
  rw [←List.flatMap_append] at hx
  exact a64 _ (fun c hc=>hc) x hx),List.all_append,List.flatMap_append]
 cases m.Young.all (pR (k+3))<;>cases m.Old.all (pR (k+3))<;>rfl
def mc (f:List Int)(a:Int):Int:=2*((f.idxOf a:Nat):Int)+2
def bu (ρ:Int→Int)(f:List Int)(v:SG):SG:=bif br v&&decide (v.N∈f) then ⟨v.Kind,ρ v.N,v.S⟩ else v
def gl (ρ:Int→Int)(f:List Int)(c:SD):SD:=⟨c.Kind,c.Shape,c.Flags,c.Age,c.Slots.map (bu ρ f),c.More.map (bu ρ f)⟩
def RhoM (kv:List (Int×Int))(f:List Int):Prop:= ∀x,lk kv x=if x∈f then some (mc f x) else none
theorem uf (N:Nat)(hN:5000<N)(l:List SG)(hl:l.length≤5000)(kv:List (Int×Int))(f:List Int)(hk:RhoM kv f):ex N l kv=some (l.map (bu (mc f) f)):=by
 apply Sat.eq;unfold ex;refine cR (fun k i (s:List SG)=>fZ N l kv k s (i:Int)) l.length (fun i s=>s=(l.take i).map (bu (mc f) f)) _ ?_ ?_ N 0 [] W W U
 ·rintro k i s hi h1 go;show Sat (fZ N l kv (k+1) s (i:Int)) _
  have hsl:s.length≤i:=by rw [h1,List.length_map,List.length_take];omega
  have hnext:(l.take (i+1)).map (bu (mc f) f)=s++ [bu (mc f) f l[i]]:=by rw [bi hi,List.map_append,h1];rfl
  rw [fZ.eq_2,cV W,ct,bf hi,bs,hk l[i].N,pF];unfold nb;by_cases hm:l[i].N∈f
  ·rw [if_pos hm];simp only [bs,Option.isSome_some,ct];cases hb:br l[i]
   ·rw [cf,rF (by simp;omega),r64 W W];refine go _ ?_;rw [hnext];unfold bu;rw [hb];rfl
   rw [ct,rF (by simp;omega),r64 W W];refine go _ ?_;rw [hnext];unfold bu;rw [hb,SN hm];rfl
  rw [if_neg hm];simp only [bs,Option.isSome_none,cf];rw [rF (by simp;omega),r64 W W];refine go _ ?_;rw [hnext];unfold bu;rw [SO hm,Bool.and_false];rfl
 rintro k s h1;show Sat (fZ N l kv (k+1) s _) _;rw [fZ.eq_2,cQ W,cf];exact aQ (by rw [h1,List.take_length])
def ju (N:Nat)(l:List Int)(c:SD):SD:=bif decide (c.Kind=8) then cM N l c else bif decide (c.Kind=10) then (wj l c).1 else c
def gz (l:List Int)(c:SD):List SG:=bif decide (c.Kind=10) then (wj l c).2 else []
theorem pj (N:Nat)(l:List Int)(c:SD):(ju N l c).Slots.length=c.Slots.length∧(ju N l c).More.length+(gz l c).length≤c.More.length:=by
 unfold ju gz;by_cases h8:c.Kind=8
 ·rw [SN h8,SO (p:=c.Kind=10) W];have:=D8 N l c;simp only [cond_true,cond_false,List.length_nil];omega
 rw [SO h8];by_cases h10:c.Kind=10
 ·rw [SN h10];have:=MC l (c.More.headD ld) (c.More.drop 1);rw [List.length_drop] at this;unfold wj;refine ⟨U,?_⟩;show (c.More.take 1++eP l (c.More.drop 1)).length+(jE l (c.More.headD ld) (c.More.drop 1)).length≤c.More.length;rw [List.length_append,List.length_take]
  cases hm:c.More with
  |nil=>rw [hm] at this;simp [eP,jE]
  |cons a r=>rw [hm] at this;simp only [List.length_cons] at this⊢;omega
 rw [SO h10];simp
theorem RhoM.nil:RhoM [] []:=fun x=>rfl
theorem RhoM.add {kv:List (Int×Int)}{i:Nat}{f:List Int}(hi:i<f.length)(h:RhoM kv (f.take i))(hn:f.Nodup):RhoM (uV kv f[i] (2*(i:Int)+2)) (f.take (i+1)):=by
 intro x
 have hlen:(f.take i).length=i:=by rw [List.length_take];omega
 have hni:f[i]∉f.take i:=by
  intro hm;obtain ⟨j,hj,e⟩:=List.getElem_of_mem hm;rw [List.length_take] at hj;rw [List.getElem_take] at e;exact List.pairwise_iff_getElem.1 (List.nodup_iff_pairwise_ne.1 hn) j i W hi W e
 rw [Hy,bi hi];unfold mc;rw [List.idxOf_append];by_cases e:f[i]=x
 ·rw [if_pos e, ←e,if_pos (SS _ (by simp)),if_neg hni];simp [hlen]
 rw [if_neg e,h x];by_cases hm:x∈f.take i
 ·rw [if_pos hm,if_pos (SR _ hm),if_pos hm];rfl
 rw [if_neg hm,if_neg (by simp only [List.mem_append,List.mem_singleton];exact fun hh=>hh.elim hm fun hh=>e hh.symm)]
structure Coll where
 next:SB
 now:List SG
 gone:List SG
def HU (N:Nat)(m:SB)(roots:List SG)(live f:List Int):Coll:=
 ⟨⟨[],f.map fun a=>gl (mc f) f (ju N live (be m a))⟩,roots.map (bu (mc f) f),(f.flatMap fun a=>gz live (be m a)).map (bu (mc f) f)⟩
structure Mild (g:SG→SG):Prop where
 z:g vZ=vZ
 kind: ∀v,(g v).Kind=v.Kind
 num: ∀v,v.Kind=3→g v=v
 may: ∀v,mW v=true→mW (g v)=true
section
variable {g:SG→SG} (h:Mild g)
include h
theorem Mild.at_ (l:List SG)(i:Nat):qh (l.map g) i=g (qh l i):=by
 unfold qh;simp only [List.getD,List.getElem?_map]
 cases l[i]? with
 |none=>exact h.z.symm
 |some v=>rfl
theorem Mild.numB (v:SG)(a b:Int):Go.Proofs.YtmimkglhbmcokaaGreat.numB (g v) a b=Go.Proofs.YtmimkglhbmcokaaGreat.numB v a b:=by
 unfold Go.Proofs.YtmimkglhbmcokaaGreat.numB;by_cases h3:v.Kind=3
 ·rw [h.num v h3]
 rw [h.kind,SO h3];rfl
theorem Mild.noneB (v:SG)(k:Int):Go.Proofs.YtmimkglhbmcokaaGreat.noneB (g v) k=Go.Proofs.YtmimkglhbmcokaaGreat.noneB v k:=by
 unfold Go.Proofs.YtmimkglhbmcokaaGreat.noneB;rw [h.kind]
theorem Mild.ent2: ∀l:List SG,jt (l.map g)=jt l
 | []=>rfl
 | [_]=>rfl
 |k::v::r=>by
  simp only [List.map_cons];simp only [ft];rw [h.kind,h.kind,Mild.ent2 r]
theorem Mild.ent4: ∀l:List SG,mF (l.map g)=mF l
 | []=>rfl
 | [_]=>rfl
 | [_,_]=>rfl
 | [_,_,_]=>rfl
 |t::v::k::s::r=>by
  simp only [List.map_cons];simp only [nv];rw [h.kind,h.kind,h.noneB,h.numB,Mild.ent4 r]
theorem Mild.slots (k sh fl:Int)(l:List SG):pO k sh fl (l.map g)=pO k sh fl l:=by
 unfold pO;simp only [List.length_map,h.at_,h.kind,h.noneB]
theorem Mild.more (k:Int)(l:List SG):qm k (l.map g)=qm k l:=by
 unfold qm;rw [←List.map_drop,h.ent2,h.ent4];simp only [List.length_map,h.at_,h.kind,h.noneB,h.numB]
theorem Mild.all {l:List SG}(hl:l.all mW=true):(l.map g).all mW=true:=by
 rw [List.all_eq_true] at hl⊢;intro v hv;obtain ⟨w,hw,rfl⟩:=List.mem_map.1 hv;exact h.may w (hl w hw)
theorem Mild.right {c:SD}(hc:cA c=true):cA ⟨c.Kind,c.Shape,c.Flags,c.Age,c.Slots.map g,c.More.map g⟩=true:=by
 unfold cA at hc⊢;simp only [Bool.and_eq_true] at hc;obtain ⟨h1,h2,h3,h4,h5⟩:=hc;simp only [h.slots,h.more,h.all h2,h.all h3,h4,h5,Bool.and_true];simp only [Bool.and_eq_true];exact h1
end
theorem Cu {v:SG}(hb:br v=true):mW v=((v.S.toList==(⟨#[]⟩:ByteArray).toList)&&decide (1≤v.N)):=by
 have hk:v.Kind=7∨v.Kind=9:=by
  unfold br at hb;rw [Bool.or_eq_true,decide_eq_true_eq,decide_eq_true_eq] at hb;exact hb
 unfold mW ib;rcases hk with hk|hk<;>rw [hk]<;>cases (v.S.toList==(⟨#[]⟩:ByteArray).toList)<;>rfl
structure Ren (ρ:Int→Int) (f:List Int):Prop where
 inj: ∀a b,a∈f→b∈f→ρ a=ρ b→a=b
 pos: ∀a∈f,1≤ρ a
theorem Hu {ρ:Int→Int}{f:List Int}(hρ:Ren ρ f):Mild (bu ρ f) where
 z:=rfl
 kind v:=by unfold bu;cases br v&&decide (v.N∈f)<;>rfl
 num v h:=by
  have:br v=false:=by unfold br;rw [h];rfl
  unfold bu;rw [this];rfl
 may v h:=by
  cases hb:br v&&decide (v.N∈f) with
  |false=>unfold bu;rw [hb];exact h
  |true=>
   have hb0:=(Bool.and_eq_true _ _▸hb:br v=true∧decide (v.N∈f)=true);have hb1:=hb0.1
   have e:bu ρ f v=⟨v.Kind,ρ v.N,v.S⟩:=by unfold bu;rw [hb];rfl
   have hb2:br (⟨v.Kind,ρ v.N,v.S⟩:SG)=true:=hb1;rw [e,Cu hb2];rw [Cu hb1,Bool.and_eq_true] at h;rw [Bool.and_eq_true];exact ⟨h.1,SN (hρ.pos _ (of_decide_eq_true hb0.2))⟩
theorem KV {ρ:Int→Int}{f:List Int}(hρ:Ren ρ f){c:SD}(h:cA c=true):cA (gl ρ f c)=true:=(Hu hρ).right h
theorem pw {c:SD}(h:cA c=true):c.Slots.all mW=true∧c.More.all mW=true∧qm c.Kind c.More=true:=by
 unfold cA at h;simp only [Bool.and_eq_true] at h;exact ⟨h.2.1,h.2.2.1,h.2.2.2.2⟩
theorem xW {c:SD}(h:cA c=true){m:List SG}(h1:m.all mW=true)(h2:qm c.Kind m=true):cA ⟨c.Kind,c.Shape,c.Flags,c.Age,c.Slots,m⟩=true:=by
 unfold cA at h⊢;simp only [Bool.and_eq_true] at h;obtain ⟨g1,g2,g3,g4,g5⟩:=h;simp only [g2,h1,g4,h2,Bool.and_true];simp only [Bool.and_eq_true];exact g1
theorem D3 (p:Int→Bool): ∀{l:List SG},jt l=true→jt (cleanL p l)=true
 | [],_=>rfl
 | [_],h=>by cases h
 |k::v::r,h=>by
  rw [ft] at h;rw [Bool.and_eq_true] at h;have ih:=D3 p h.2;simp only [eT];cases p k.N
  ·exact ih
  show jt (k::v::cleanL p r)=true;simp only [ft];rw [h.1,ih];rfl
theorem Fy (lv:List Int): ∀{l:List SG},mF l=true→mF (eP lv l)=true
 | [],_=>rfl
 | [_],h=>by cases h
 | [_,_],h=>by cases h
 | [_,_,_],h=>by cases h
 | t::v::k::s::r,h=>by
  rw [nv] at h;rw [Bool.and_eq_true,Bool.and_eq_true,Bool.and_eq_true,Bool.and_eq_true] at h;obtain ⟨⟨⟨h1,h2⟩,h3,h4⟩,h5⟩:=h;have ih:=Fy lv h5;simp only [ui];cases decide (t.N∈lv)
  ·exact ih
  show mF (t::v::(bif decide (k.Kind=7)&& !decide (k.N∈lv) then ld else k)::s::eP lv r)=true;simp only [nv]
  have h6:noneB (bif decide (k.Kind=7)&& !decide (k.N∈lv) then ld else k) 7=true:=by
   cases decide (k.Kind=7)&& !decide (k.N∈lv)
   ·exact h3
   rfl
  rw [h1,h2,h6,h4,ih];rfl
theorem DQ (lv:List Int){x:SG}: ∀{l:List SG},x∈eP lv l→x∈l∨x=ld
 | [],h=>by simp [eP] at h
 | [_],h=>by simp [eP] at h
 | [_,_],h=>by simp [eP] at h
 | [_,_,_],h=>by simp [eP] at h
 | t::v::k::s::r,h=>by
  simp only [ui] at h;rcases List.mem_append.1 h with h|h
  ·cases hd:decide (t.N∈lv) with
   |false=>rw [hd] at h;cases h
   |true=>
    rw [hd] at h
    cases hk:decide (k.Kind=7)&& !decide (k.N∈lv) with
    |false=>rw [hk] at h;simp at h;rcases h with h|h|h|h<;>subst h<;>simp
    |true=>rw [hk] at h;simp at h;rcases h with h|h|h|h<;>subst h<;>simp
  rcases DQ lv h with h|h
  ·exact .inl (by simp [h])
  exact .inr h
theorem Mu:mW ld=true:=by kernel_rfl
theorem Lp (N:Nat)(lv:List Int){c:SD}(h:cA c=true):cA (ju N lv c)=true:=by
 obtain ⟨h1,h2,h3⟩:=pw h;unfold ju;by_cases h8:c.Kind=8
 ·rw [oJ h8,cond_true];unfold cM;cases ko N c
  ·exact h
  refine xW h (m:=cleanL (fun x=>decide (x∈lv)) c.More) ?_ ?_
  ·rw [List.all_eq_true] at h2⊢
   exact fun v hv=>h2 v (yj hv)
  rw [h8] at h3⊢;exact D3 _ h3
 rw [gG h8,cond_false];by_cases h10:c.Kind=10
 ·rw [oJ h10,cond_true];rw [h10] at h3;have h3':(decide (1≤c.More.length)&&decide ((qh c.More 0).Kind=7)&&mF (c.More.drop 1))=true:=h3;simp only [Bool.and_eq_true,decide_eq_true_eq] at h3';obtain ⟨⟨g1,g2⟩,g3⟩:=h3';refine xW h (m:=c.More.take 1++eP lv (c.More.drop 1)) ?_ ?_
  ·rw [List.all_eq_true] at h2⊢;intro v hv;rcases List.mem_append.1 hv with hv|hv
   ·exact h2 v (List.mem_of_mem_take hv)
   rcases DQ lv hv with hv|rfl
   ·exact h2 v (List.mem_of_mem_drop hv)
   exact Mu
  rw [h10];show (decide (1≤(c.More.take 1++eP lv (c.More.drop 1)).length)&&decide ((qh (c.More.take 1++eP lv (c.More.drop 1)) 0).Kind=7)&&mF ((c.More.take 1++eP lv (c.More.drop 1)).drop 1))=true
  obtain ⟨a,r,hr⟩: ∃a r,c.More=a::r:=by
   cases hm:c.More with
   |nil=>rw [hm] at g1;simp at g1
   |cons a r=>exact ⟨a,r,rfl⟩
  rw [hr] at g2 g3⊢;have e1:(a::r).take 1++eP lv ((a::r).drop 1)=a::eP lv r:=rfl;rw [e1];have g3':mF r=true:=g3;have g2':a.Kind=7:=g2;simp only [Bool.and_eq_true,decide_eq_true_eq];exact ⟨⟨by simp,g2'⟩,Fy lv g3'⟩
 rw [gG h10,cond_false];exact h
end
section
open Go.RowKit
structure MapG (g g':Gr) (ρ:Int→Int) (S:Int→Prop):Prop where
 inj: ∀a b,S a→S b→ρ a=ρ b→a=b
 has: ∀a,S a→g.has a=true∧g'.has (ρ a)=true
 leads: ∀a,S a→g'.leads (ρ a)=(g.leads a).map ρ∧ ∀x∈g.leads a,S x
 opens: ∀row a,(∀x∈row,S x)→S a→g'.opens (row.map ρ) (ρ a)=(g.opens row a).map ρ∧ ∀x∈g.opens row a,S x
theorem Gk {ρ:Int→Int}{S:Int→Prop}(inj: ∀a b,S a→S b→ρ a=ρ b→a=b){l:List Int}(hl: ∀x∈l,S x){a:Int}(ha:S a):ρ a∈l.map ρ↔a∈l:=by
 constructor
 ·intro h;obtain ⟨b,hb,e⟩:=List.mem_map.1 h;exact inj b a (hl b hb) ha e▸hb
 exact fun h=>List.mem_map.2 ⟨a,h,U⟩
theorem MapG.lay {g g':Gr}{ρ:Int→Int}{S:Int→Prop}(h:MapG g g' ρ S): ∀(l row:List Int),(∀x∈row,S x)→(∀x∈l,S x)→dv g'.has (row.map ρ) (l.map ρ)=(dv g.has row l).map ρ∧ ∀x∈dv g.has row l,S x
 | [],row,hr,_=>⟨rfl,hr⟩
 | x::l,row,hr,hl=>by
  have hx:=hl x (by simp);obtain ⟨h1,h2⟩:=h.has x hx;rw [List.map_cons];unfold dv;rw [h1,h2,Bool.true_and,Bool.true_and];by_cases hm:x∈row
  ·rw [SN hm,SN ((Gk h.inj hr hx).2 hm)]
   exact h.lay l row hr fun y hy=>hl y (by simp [hy])
  rw [SO hm,SO fun hh=>hm ((Gk h.inj hr hx).1 hh)]
  have:=h.lay l (row++ [x]) (fun y hy=>(List.mem_append.1 hy).elim (hr y) fun hy=>by rw [List.mem_singleton] at hy;subst hy;exact hx) fun y hy=>hl y (by simp [hy])
  rw [List.map_append] at this;exact this
theorem MapG.thr {g g':Gr}{ρ:Int→Int}{S:Int→Prop}(h:MapG g g' ρ S){row r:List Int}{k:Nat}(ht:Thr g row k r):(∀x∈row,S x)→Thr g' (row.map ρ) k (r.map ρ)∧ ∀x∈r,S x:=by
 induction ht with
 |done hk=>exact fun hr=>⟨.done (by simpa using hk),hr⟩
 |step ha _ ih=>
  rename_i row k a r _
  intro hr;have hS:=hr a (List.mem_of_getElem? ha);obtain ⟨l1,l2⟩:=h.leads a hS;obtain ⟨g1,g2⟩:=h.lay (g.leads a) row hr l2;obtain ⟨t1,t2⟩:=ih g2;refine ⟨.step (a:=ρ a) (by rw [List.getElem?_map,ha];rfl) ?_,t2⟩;rw [l1,g1];exact t1
theorem MapG.pass {g g':Gr}{ρ:Int→Int}{S:Int→Prop}(h:MapG g g' ρ S): ∀(avs row:List Int),(∀x∈row,S x)→(∀x∈avs,S x)→lj g' (row.map ρ) (avs.map ρ)=(lj g row avs).map ρ∧ ∀x∈lj g row avs,S x
 | [],row,hr,_=>⟨rfl,hr⟩
 |a::avs,row,hr,hl=>by
  obtain ⟨l1,l2⟩:=h.opens row a hr (hl a (by simp));obtain ⟨g1,g2⟩:=h.lay (g.opens row a) row hr l2;rw [List.map_cons];unfold lj;rw [l1,g1]
  exact h.pass avs _ g2 fun y hy=>hl y (by simp [hy])
theorem MapG.ord {g g':Gr}{ρ:Int→Int}{S:Int→Prop}(h:MapG g g' ρ S){row r:List Int}(ht:Ord g row r):(∀x∈row,S x)→Ord g' (row.map ρ) (r.map ρ)∧ ∀x∈r,S x:=by
 induction ht with
 |done hp=>
  intro hr;obtain ⟨g1, -⟩:=h.pass _ _ hr hr;exact ⟨.done (by rw [g1,hp]),hr⟩
 | step hp h1 _ ih=>
  rename_i row r1 r _
  intro hr;obtain ⟨g1,g2⟩:=h.pass _ _ hr hr;obtain ⟨t1,t2⟩:=h.thr h1 g2;obtain ⟨o1,o2⟩:=ih t2;refine ⟨.step (r1:=r1.map ρ) ?_ ?_ o1,o2⟩
  ·rw [g1];intro e;apply hp;obtain ⟨t,e2⟩:=qE g row row;have e3:=congrArg List.length e;rw [List.length_map,List.length_map,e2,List.length_append] at e3;have:t=[]:=List.eq_nil_of_length_eq_zero W;rw [e2,this,List.append_nil]
  rw [g1,List.length_map];exact t1
theorem MapG.isOrder {g g':Gr}{ρ:Int→Int}{S:Int→Prop}(h:MapG g g' ρ S){roots b l:List Int}(ho:IsOrder g roots b l)(hr: ∀x∈roots,S x):IsOrder g' (roots.map ρ) (b.map ρ) (l.map ρ)∧ ∀x∈l,S x:=by
 obtain ⟨h1,h2⟩:=ho;obtain ⟨g1,g2⟩:=h.lay roots [] (fun _ h=>by cases h) hr;obtain ⟨t1,t2⟩:=h.thr h1 g2;obtain ⟨o1,o2⟩:=h.ord h2 t2;refine ⟨⟨?_,o1⟩,o2⟩;have g1':dv g'.has [] (roots.map ρ)=(dv g.has [] roots).map ρ:=g1;rw [g1'];exact t1
def cL {α:Type}(g:α→Nat):List α→Nat
 | []=>0
 |a::l=>g a+cL g l
theorem pu {α:Type}(g:α→Nat): ∀a b:List α,cL g (a++b)=cL g a+cL g b
 | [],b=>by simp [cL]
 |c::a,b=>by rw [List.cons_append,cL,cL,pu g a b];omega
theorem Kr {α:Type}(g:α→Nat){a b:List α}(h:a.Perm b):cL g a=cL g b:=by
 induction h with
 |nil=>rfl
 |cons x _ ih=>rw [cL,cL,ih]
 |swap x y l=>rw [cL,cL,cL,cL];omega
 |trans _ _ h1 h2=>rw [h1,h2]
theorem pt (g:Int→Nat): ∀{l L:List Int},l.Nodup→(∀x∈l,x∈L)→cL g l≤cL g L
 | [],_,_,_=>Nat.zero_le _
 |a::l,L,hn,hs=>by
  obtain ⟨h1,h2⟩:=List.nodup_cons.1 hn;have hp:=List.perm_cons_erase (hs a (by simp));rw [Kr g hp,cL,cL]
  have:=pt g (l:=l) (L:=L.erase a) h2 fun x hx=>(List.mem_erase_of_ne (fun e:x=a=>h1 (by rw [←e];exact hx))).2 (hs x (by simp [hx]))
  omega
theorem mN {α β:Type}(g:β→Nat)(f:α→β): ∀l:List α,cL g (l.map f)=cL (fun x=>g (f x)) l
 | []=>rfl
 |x::l=>by rw [List.map_cons,cL,cL,mN g f l]
theorem yD {α:Type}{g h:α→Nat}: ∀{l:List α},(∀x∈l,g x≤h x)→cL g l≤cL h l
 | [],_=>Nat.le_refl _
 |x::l,hh=>by
  rw [cL,cL];have h1:=hh x (by simp)
  have h2:=yD (l:=l) fun y hy=>hh y (by simp [hy])
  omega
theorem wc {α β:Type}(f:α→List β): ∀l:List α,(l.flatMap f).length=cL (fun x=>(f x).length) l
 | []=>rfl
 |x::l=>by rw [List.flatMap_cons,List.length_append,cL,wc f l]
theorem CW {α:Type}(g h:α→Nat): ∀l:List α,cL (fun x=>g x+h x) l=cL g l+cL h l
 | []=>rfl
 |x::l=>by rw [cL,cL,cL,CW g h l];omega
def wC (c:SD):Nat:=1+c.Slots.length+c.More.length
theorem FR: ∀l:List SD,wt l=cL wC l
 | []=>rfl
 |c::l=>by rw [wt,cL,FR l];rfl
def Ak (m:SB):List Int:=(List.range m.Young.length).map (fun i:Nat=>2*(i:Int)+1)++(List.range m.Old.length).map (fun i:Nat=>2*(i:Int)+2)
theorem uP (m:SB)(i:Nat)(h:i<m.Young.length):be m (2*(i:Int)+1)=m.Young[i]:=by
 unfold be fK;rw [if_neg W,if_pos W,show ((2*(i:Int)+1 - 1) / 2).toNat=i by omega,List.getElem?_eq_getElem h];rfl
theorem pM (m:SB)(i:Nat)(h:i<m.Old.length):be m (2*(i:Int)+2)=m.Old[i]:=by
 unfold be fK;rw [if_neg W,if_neg W,show ((2*(i:Int)+2 - 2) / 2).toNat=i by omega,List.getElem?_eq_getElem h];rfl
theorem yg (m:SB)(i:Nat):aZ m (2*(i:Int)+1)=decide (i<m.Young.length):=by
 unfold aZ fK;rw [if_neg W,if_pos W,show ((2*(i:Int)+1 - 1) / 2).toNat=i by omega];by_cases h:i<m.Young.length
 ·rw [List.getElem?_eq_getElem h,SN h];rfl
 rw [List.getElem?_eq_none W,SO h];rfl
theorem qb (m:SB)(i:Nat):aZ m (2*(i:Int)+2)=decide (i<m.Old.length):=by
 unfold aZ fK;rw [if_neg W,if_neg W,show ((2*(i:Int)+2 - 2) / 2).toNat=i by omega];by_cases h:i<m.Old.length
 ·rw [List.getElem?_eq_getElem h,SN h];rfl
 rw [List.getElem?_eq_none W,SO h];rfl
theorem Aj (m:SB):(Ak m).map (be m)=m.Young++m.Old:=by
 unfold Ak;rw [List.map_append,List.map_map,List.map_map]
 congr 1
 ·refine List.ext_getElem (by simp) fun i h1 h2=> ?_
  simp only [List.getElem_map,List.getElem_range,Function.comp];exact uP m i h2
 refine List.ext_getElem (by simp) fun i h1 h2=> ?_
 simp only [List.getElem_map,List.getElem_range,Function.comp];exact pM m i h2
theorem gp {m:SB}{a:Int}(h:aZ m a=true):(∃i:Nat,i<m.Young.length∧a=2*(i:Int)+1)∨ ∃i:Nat,i<m.Old.length∧a=2*(i:Int)+2:=by
 rcases uv m a with ⟨h1,h2⟩|⟨k,h1, -⟩|⟨k,h1, -⟩
 ·unfold aZ at h;rw [h2] at h;cases h
 ·subst h1;rw [yg] at h;exact .inl ⟨k,of_decide_eq_true h,U⟩
 subst h1;rw [qb] at h;exact .inr ⟨k,of_decide_eq_true h,U⟩
theorem tC {m:SB}{a:Int}(h:aZ m a=true):a∈Ak m:=by
 unfold Ak;rcases gp h with ⟨i,h1,rfl⟩|⟨i,h1,rfl⟩
 ·exact SR _ (List.mem_map.2 ⟨i,List.mem_range.2 h1,U⟩)
 exact SS _ (List.mem_map.2 ⟨i,List.mem_range.2 h1,U⟩)
theorem LN {m:SB}{l:List Int}(hn:l.Nodup)(hh: ∀a∈l,aZ m a=true):cL (fun a=>wC (be m a)) l≤wt m.Young+wt m.Old:=by
 have h1:=pt (fun a=>wC (be m a)) hn fun a ha=>tC (hh a ha)
 have h2:=mN wC (be m) (Ak m);rw [Aj, ←FR,CJ] at h2;omega
theorem pn {m:SB}{a:Int}(h:aZ m a=true):be m a∈m.Young++m.Old:=by
 unfold aZ at h;unfold be
 cases hc:fK m a with
 |none=>rw [hc] at h;cases h
 |some c=>exact rJ hc
def RU:SB:=⟨[⟨11,0,0,0,[],[⟨7,2,⟨#[]⟩⟩]⟩,⟨11,0,0,0,[],[]⟩],[⟨11,0,0,0,[],[]⟩,⟨11,0,0,0,[],[]⟩]⟩
def RW:SB:=⟨[],[⟨10,0,0,0,[⟨1,0,⟨#[]⟩⟩],[⟨7,4,⟨#[]⟩⟩,⟨7,6,⟨#[]⟩⟩,⟨7,8,⟨#[]⟩⟩,⟨0,0,⟨#[]⟩⟩,⟨3,7,⟨#[]⟩⟩]⟩,⟨11,0,0,0,[],[]⟩,⟨11,0,0,0,[],[]⟩,⟨11,0,0,0,[],[]⟩]⟩
theorem G5 {a:Int}(h:0<a):a.tmod 2=0∨a.tmod 2=1:=by
 rw [qi W];omega
theorem IF {live:List Int}(hp: ∀a∈live,0<a)(a:Int):a∈oa live↔a∈live:=by
 unfold oa uN EG;rw [List.mem_append,List.mem_filter,List.mem_filter,decide_eq_true_eq,decide_eq_true_eq];constructor
 ·rintro (h|h)<;>exact h.1
 intro h;rcases G5 (hp a h) with h2|h2
 ·exact .inl ⟨h,h2⟩
 exact .inr ⟨h,h2⟩
theorem DE: ∀{live:List Int},(∀a∈live,0<a)→(oa live).length=live.length
 | [],_=>rfl
 | a::l,hp=>by
  have ih:=DE (live:=l) fun b hb=>hp b (by simp [hb])
  unfold oa at ih⊢;rw [List.length_append] at ih⊢;rcases G5 (hp a (by simp)) with h|h
  ·have e1:uN a=true:=SN h;have e2:EG a=false:=SO W;simp only [List.filter_cons,e1,e2,if_true,Bool.false_eq_true,if_false,List.length_cons];omega
  have e1:uN a=false:=SO W;have e2:EG a=true:=SN h;simp only [List.filter_cons,e1,e2,if_true,Bool.false_eq_true,if_false,List.length_cons];omega
theorem KS {live:List Int}(h:live.Pairwise (· < ·)):(oa live).Pairwise fun a b=> ¬(a.tmod 2=1∧b.tmod 2=0)∧(a.tmod 2=b.tmod 2→a<b):=by
 have hev: ∀a∈live.filter uN,a.tmod 2=0:=fun a ha=>of_decide_eq_true (List.mem_filter.1 ha).2
 have hod: ∀a∈live.filter EG,a.tmod 2=1:=fun a ha=>of_decide_eq_true (List.mem_filter.1 ha).2
 unfold oa;refine List.pairwise_append.2 ⟨(h.filter _).imp_of_mem fun {a b} ha hb hlt=>⟨fun hh=> ?_,fun _=>hlt⟩,(h.filter _).imp_of_mem fun {a b} ha hb hlt=>⟨fun hh=> ?_,fun _=>hlt⟩,fun a ha b hb=>⟨fun hh=> ?_,fun hh=> ?_⟩⟩
 ·have:=hev a ha;omega
 ·have:=hod b hb;omega
 ·have:=hev a ha;omega
 have:=hev a ha;have:=hod b hb;omega
theorem po {α:Type}{p:α→Bool}{l:List α}(h:l.all p=true){x:α}(hx:x∈l):p x=true:=List.all_eq_true.1 h x hx
theorem FG {N:Nat}{m:SB}{roots:List SG}(h:mM N m roots=0):(∀c∈m.Young++m.Old,pR N c=true)∧(∀c∈m.Young++m.Old, ∀x∈cy c,aZ m x=true)∧ ∀x∈bW roots,aZ m x=true:=by
 unfold mM at h
 cases h1:(m.Young++m.Old).all (pR N) with
 |false=>rw [h1] at h;cases h
 | true=>
  rw [h1] at h
  cases h2:dz m ((m.Young++m.Old).flatMap cy++bW roots) with
  |false=>rw [h2] at h;cases h
  |true=>
   unfold dz at h2;refine ⟨fun c hc=>po h1 hc,fun c hc x hx=>po h2 (SR _ (List.mem_flatMap.2 ⟨c,hc,hx⟩)),fun x hx=>po h2 (SS _ hx)⟩
structure Live (N:Nat) (m:SB) (roots:List SG) (live f:List Int):Prop where
 ord: ∃b all,IsOrder (Am N m) (bW roots) b all∧live=jr all∧f=oa live
 prog:fe N m roots=some live
 ref:Dh N m roots=some live
 mem: ∀a,a∈f↔a∈live
 len:f.length=live.length
 small:live.length≤1200
 nd:f.Nodup
 asc:live.Pairwise (· < ·)
 has: ∀a∈live,aZ m a=true
theorem KT {live:List Int}(h:live.Pairwise (· < ·)):(oa live).Nodup:=by
 rw [List.nodup_iff_pairwise_ne]
 refine (KS h).imp fun {a b} hab e=> ?_
 have:=hab.2 (by rw [e]);omega
theorem Ol (N:Nat)(hN:5000<N){m:SB}{roots:List SG}(hs:Small m roots)(hw:W64 m)(hr: ∀v∈roots,in64 v.N): ∃live f,Live N m roots live f:=by
 obtain ⟨bg,all,ho,hlen, -, -,o0⟩:=iJ N hN hs hw hr;obtain ⟨b',all',ho',r0, -⟩:=C2 N hN hs hw hr;obtain ⟨-,e2⟩:=ho.det ho';subst e2;have hll:(jr all).length=all.length:=qC all;have hmem:=oM all;have hasc:=Ay ho.nodup.2
 have hhas: ∀a∈jr all,aZ m a=true:=fun a ha=>ho.has.2 a ((hmem a).1 ha)
 have hpos: ∀a∈jr all,0<a:=fun a ha=>rq (hhas a ha)
 refine ⟨jr all,oa (jr all),⟨⟨_,all,ho,U,U⟩,Om o0 W U,?_,IF hpos,DE hpos,by omega,KT hasc,hasc,hhas⟩⟩;unfold Dh;rw [r0,bs,Im N hN all W ho.nodup.2,bs]
theorem Live.fhas {N:Nat}{m:SB}{roots:List SG}{live f:List Int}(h:Live N m roots live f){a:Int}(ha:a∈f):aZ m a=true:=h.has a ((h.mem a).1 ha)
theorem LK {N:Nat}{m:SB}{roots:List SG}{live f:List Int}(h:Live N m roots live f):(f.flatMap fun a=>gz live (be m a)).length+wt (f.map fun a=>gl (mc f) f (ju N live (be m a)))≤wt m.Young+wt m.Old:=by
 have h1:=LN h.nd fun a ha=>h.fhas ha
 rw [wc,FR,mN, ←CW];refine Nat.le_trans (yD fun a ha=> ?_) h1;have:=pj N live (be m a);unfold wC gl;simp only [List.length_map];omega
theorem Au {N:Nat}{m:SB}{roots:List SG}{live f:List Int}(h:Live N m roots live f)(n:Nat):((f.take n).flatMap fun a=>gz live (be m a)).length≤wt m.Young+wt m.Old:=by
 have h1:=LK h
 have h2:(f.flatMap fun a=>gz live (be m a))=((f.take n).flatMap fun a=>gz live (be m a))++((f.drop n).flatMap fun a=>gz live (be m a)):=by rw [←List.flatMap_append,List.take_append_drop]
 rw [h2,List.length_append] at h1;omega
def MY (N:Nat)(m:SB)(roots:List SG)(live f:List Int):SB×List SG×List SG×Int:=
 bif decide (mM N m roots=0) then ((HU N m roots live f).next,(HU N m roots live f).now,(HU N m roots live f).gone,0) else (⟨[],[]⟩,[],[],mM N m roots)
theorem GE (N:Nat)(hN:5000<N){m:SB}{roots:List SG}(hs:Small m roots)(ht:Wtd m roots)(hw:W64 m)(hr: ∀v∈roots,in64 v.N){live f:List Int}(hl:Live N m roots live f):ne N m roots=some (MY N m roots live f):=by
 apply Sat.eq;have hle:=ht.le;have hlen:=hl.small;have hfl:=hl.len;unfold ne MY;rw [Eb N hN hs ht hw hr,bs];by_cases h0: ¬mM N m roots=0
 ·rw [gG h0];exact aQ U
 replace h0:mM N m roots=0:=by omega
 rw [oJ h0];simp only [nt,cf,ct];obtain ⟨c1,c2,c3⟩:=FG h0;obtain ⟨_,_,_,hlv,hff⟩:=hl.ord;rw [hl.prog,bs];unfold jn;rw [bs];refine Sat.bind (Dw N (fun x st=>lq N roots m live x st) live W hN (fun n s=>RhoM s (f.take n)) ?_ [] ?_) ?_
 ·intro n a s ha h1;rw [←hff] at ha;have hn:=(List.getElem?_eq_some_iff.1 ha).1;rw [List.getElem?_eq_getElem hn,Option.some.injEq] at ha;unfold lq;simp only;rw [r64 W W,r64 W W];refine aQ ⟨U,?_⟩;rw [←ha];exact h1.add hn hl.nd
 ·simpa using RhoM.nil
 rintro ⟨e,kv⟩ ⟨g1,g2⟩;simp only at g1 g2;subst g1;rw [←hff,List.take_length] at g2;unfold oL;simp only [bs]
 have hG: ∀a∈f,(ju N live (be m a)).Slots.length≤600∧(ju N live (be m a)).More.length≤600:=fun a ha=>by
  have h1:=pj N live (be m a);have h2:=hs.at_ a;omega
 refine Sat.bind (Dw N (fun x st=>lp N roots m live (none,kv) x st) live W hN (fun n s=>s.1=(f.take n).map (fun a=>gl (mc f) f (ju N live (be m a)))∧s.2=(f.take n).flatMap fun a=>gz live (be m a)) ?_ ([],[]) ⟨by simp,by simp⟩) ?_
 ·rintro n a ⟨p,q⟩ ha ⟨h1,h2⟩;rw [←hff] at ha;simp only at h1 h2;have hn:=(List.getElem?_eq_some_iff.1 ha).1;have ham:a∈f:=List.mem_of_getElem? ha;rw [List.getElem?_eq_getElem hn,Option.some.injEq] at ha
  have hpl:p.length≤2000:=by rw [h1,List.length_map,List.length_take];omega
  have hql:q.length≤2400:=by have:=Au hl n;rw [h2];omega
  have hq2:=Au hl (n+1);have hat:=GU N hs a (wN hs (hl.fhas ham));have hsm:=hs.at_ a;have hrt:=c1 _ (pn (hl.fhas ham));have hc:=hG a ham;rw [bi hn,ha,List.flatMap_append, ←h2,List.length_append] at hq2;simp only [List.flatMap_cons,List.flatMap_nil,List.append_nil] at hq2
  -- the last part
  have last: ∀q',q'=q++gz live (be m a)→Sat (i7 N roots m p live (none,kv) q' (ju N live (be m a)).Kind (ju N live (be m a)).Shape (ju N live (be m a)).Flags (ju N live (be m a)).Age (ju N live (be m a)).Slots (ju N live (be m a)).More) fun r=>r.1=none∧r.2.1=(f.take (n+1)).map (fun a=>gl (mc f) f (ju N live (be m a)))∧r.2.2=(f.take (n+1)).flatMap fun a=>gz live (be m a):=by
   intro q' hq';unfold i7;rw [uf N hN _ W kv f g2,bs,uf N hN _ W kv f g2,bs,rF (by simp;omega)];refine aQ ⟨U,?_,?_⟩
   ·rw [bi hn,List.map_append, ←h1,ha];rfl
   rw [bi hn,List.flatMap_append, ←h2,ha,hq'];simp
  unfold lp;simp only;rw [hat,bs];unfold ju gz at last;unfold gz at hq2;by_cases h8:(be m a).Kind=8
  ·have hwm:ko N (be m a)=true:=by unfold ko;rw [SN h8];exact hrt
   rw [oJ h8,ct,D7 N hN live W _ hsm.1 hsm.2,bs,hwm,ct];rw [SN h8,SO (p:=(be m a).Kind=10) W] at last;simp only [cond_true,cond_false,List.append_nil] at last;exact last q U
  by_cases h10:(be m a).Kind=10
  ·have hwm:rR N (be m a)=true:=by unfold rR;rw [SN h10];exact hrt
   rw [gG h8,cf,oJ h10,ct,xJ N hN live W _ hsm.1 hsm.2,bs,hwm,ct];rw [SN h10] at hq2;rw [SO h8,SN h10] at last;simp only [cond_true,cond_false] at last hq2;rw [rF W];exact last _ U
  rw [gG h8,cf,gG h10,cf];rw [SO h8,SO h10] at last;simp only [cond_true,cond_false,List.append_nil] at last;exact last q U
 rintro ⟨e,p,q⟩ ⟨g1,g3,g4⟩;simp only at g1 g3 g4;subst g1;rw [←hff,List.take_length] at g3 g4;have hrl:=hs.roots
 have hql:q.length≤2400:=by have:=Au hl f.length;rw [List.take_length] at this;rw [g4];omega
 simp only;rw [uf N hN _ W kv f g2,bs,uf N hN _ W kv f g2,bs];refine aQ ?_;unfold HU;rw [g3,g4]
theorem oX {f:List Int}{a:Int}(h:a∈f):f.idxOf a<f.length:=List.idxOf_lt_length_iff.2 h
theorem lr {f:List Int}{a:Int}(h:a∈f):f[f.idxOf a]'(oX h)=a:=List.getElem_idxOf (oX h)
theorem Jl {f:List Int}{a b:Int}(ha:a∈f)(hb:b∈f)(h:mc f a=mc f b):a=b:=by
 unfold mc at h
 have e:f.idxOf a=f.idxOf b:=by omega
 have h1:=lr ha;have h2:=lr hb;rw [←h1, ←h2]
 congr 1
theorem rY (f:List Int):Ren (mc f) f:=⟨fun _ _ h1 h2 h3=>Jl h1 h2 h3,fun a _=>by unfold mc;omega⟩
theorem Fl {ρ:Int→Int}{f:List Int}(hρ:Ren ρ f){a:Int}(ha:a∈f): ∀{A:List Int},(∀x∈A,x∈f)→(A.map ρ).idxOf (ρ a)=A.idxOf a
 | [],_=>rfl
 |x::A,h=>by
  rw [List.map_cons,List.idxOf_cons,List.idxOf_cons,Fl hρ ha fun y hy=>h y (by simp [hy])];by_cases e:x=a
  ·rw [beq_iff_eq.2 e,beq_iff_eq.2 (by rw [e])]
  rw [beq_eq_false_iff_ne.2 e,beq_eq_false_iff_ne.2 fun h'=>e (hρ.inj _ _ (h x (by simp)) ha h')]
theorem F1 {ρ:Int→Int}{f:List Int}(hρ:Ren ρ f){A:List Int}(h: ∀x∈A,x∈f){a:Int}(ha:a∈f):ρ a∈A.map ρ↔a∈A:=Gk (S:=(· ∈f)) hρ.inj h ha
theorem sf (ρ:Int→Int)(f:List Int)(v:SG):br (bu ρ f v)=br v:=Fn (by unfold bu;cases br v&&decide (v.N∈f)<;>rfl)
theorem kk {ρ:Int→Int}{f:List Int}{v:SG}(h1:br v=true)(h2:v.N∈f):bu ρ f v=⟨v.Kind,ρ v.N,v.S⟩:=by
 unfold bu;rw [h1,SN h2];rfl
theorem Cs {ρ:Int→Int}{f:List Int}{v:SG}(h1:br v=false):bu ρ f v=v:=by
 unfold bu;rw [h1];rfl
theorem zi {ρ:Int→Int}{f:List Int}(F:Nat→SG→Bool)(hF: ∀i v,F i (bu ρ f v)=F i v)(hB: ∀i v,F i v=true→br v=true): ∀(i:Nat) (l:List SG),(∀x∈pick F i l,x∈f)→pick F i (l.map (bu ρ f))=(pick F i l).map ρ
 |_,[],_=>rfl
 |i,v::l,h=>by
  rw [gm] at h;rw [List.map_cons,gm,gm,hF,List.map_append,zi F hF hB (i+1) l fun x hx=>h x (SS _ hx)]
  cases hv:F i v with
  |false=>rfl
  |true=>rw [cond_true,cond_true,kk (hB i v hv) (h v.N (SR _ (by rw [hv];simp)))];rfl
theorem Cr {F:Nat→SG→Bool}: ∀{i:Nat} {l:List SG} {j:Nat} {v:SG},l[j]? =some v→F (i+j) v=true→v.N∈pick F i l
 |i,w::l,0,v,h,hF=>by
  simp only [List.getElem?_cons_zero,Option.some.injEq] at h;subst h;rw [gm];rw [Nat.add_zero] at hF;rw [hF];simp
 |i,w::l,j+1,v,h,hF=>by
  simp only [List.getElem?_cons_succ] at h;rw [gm];exact SS _ (Cr (i:=i+1) h (by rw [show i+1+j=i+(j+1) by omega];exact hF))
 |i,[],j,v,h,_=>by simp at h
def dh (f:List Int)(l:List SG):Prop:= ∀v∈l,br v=true→v.N∈f
theorem G9 {f:List Int}{c:SD}(h: ∀x∈bD c,x∈f):dh f c.Slots:=fun v hv hb=>by
 obtain ⟨j,hj,e⟩:=List.getElem_of_mem hv;refine h _ (SR _ (Cr (j:=j) (by rw [List.getElem?_eq_getElem hj,e]) hb))
theorem Ct {f:List Int}{c:SD}(h: ∀x∈bD c,x∈f){j:Nat}{v:SG}(hj:c.More[j]? =some v)(hw:jV c.Kind j=false)(hb:br v=true):v.N∈f:=
 h _ (SS _ (Cr (j:=j) hj (by rw [Nat.zero_add,hw,hb];rfl)))
theorem CL {k:Int}(h8:k≠8)(h10:k≠10)(i:Nat):jV k i=false:=by
 unfold jV;rw [gG h8,gG h10];rfl
theorem FF {lv f:List Int}(hlv: ∀x,x∈lv↔x∈f): ∀{l:List SG},jt l=true→(∀x∈opens (fun x=>decide (x∈lv)) l,x∈f)→dh f (cleanL (fun x=>decide (x∈lv)) l)
 | [],_,_=>fun v hv=>by simp [cleanL] at hv
 | [_],h,_=>by cases h
 | k::v::r,h,ho=>by
  rw [ft] at h;rw [Bool.and_eq_true] at h;rw [fI] at ho
  have ih:=FF hlv h.2 fun x hx=>ho x (SS _ hx)
  intro w hw hb;simp only [eT] at hw;rcases List.mem_append.1 hw with hw|hw
  ·cases hd:decide (k.N∈lv) with
   |false=>rw [hd] at hw;cases hw
   |true=>
    rw [hd] at hw;simp only [cond_true,List.mem_cons,List.not_mem_nil,or_false] at hw;rcases hw with rfl|rfl
    ·exact (hlv _).1 (of_decide_eq_true hd)
    exact ho _ (SR _ (by rw [hb,hd];simp))
  exact ih w hw hb
theorem Jt {lv f:List Int}(hlv: ∀x,x∈lv↔x∈f): ∀{l:List SG},mF l=true→(∀j v,l[4*j+1]? =some v→br v=true→v.N∈f)→dh f (eP lv l)
 | [],_,_=>fun v hv=>by simp [eP] at hv
 | [_],h,_=>by cases h
 | [_,_],h,_=>by cases h
 | [_,_,_],h,_=>by cases h
 | t ::a::k::s::r,h,ho=>by
  rw [nv] at h;simp only [Bool.and_eq_true,decide_eq_true_eq] at h;obtain ⟨⟨⟨h1, -⟩,h3,h4⟩,h5⟩:=h
  have ih:=Jt hlv h5 fun j v hj hb=>ho (j+1) v (by rw [show 4*(j+1)+1=4*j+1+4 by omega];simpa using hj) hb
  intro w hw hb;simp only [ui] at hw;rcases List.mem_append.1 hw with hw|hw
  ·cases hd:decide (t.N∈lv) with
   |false=>rw [hd] at hw;cases hw
   | true=>
    rw [hd] at hw;simp only [cond_true,List.mem_cons,List.not_mem_nil,or_false] at hw;rcases hw with rfl|rfl|rfl|rfl
    ·exact (hlv _).1 (of_decide_eq_true hd)
    ·exact ho 0 w U hb
    ·cases hk:decide (k.Kind=7)&& !decide (k.N∈lv) with
     |true=>rw [hk] at hb;cases hb
     | false=>
      rw [hk] at hb;simp only [cond_false] at hb⊢
      have hk7:k.Kind=7:=by
       unfold noneB at h3;rw [Bool.or_eq_true,decide_eq_true_eq,decide_eq_true_eq] at h3;rcases h3 with h3|h3
       ·unfold br at hb;rw [h3] at hb;cases hb
       exact h3
      rw [SN hk7,Bool.true_and] at hk;exact (hlv _).1 (by by_cases hm:k.N∈lv;exact hm;rw [SO hm] at hk;cases hk)
    have:w.Kind=3:=by
     unfold numB at h4;rw [Bool.and_eq_true,decide_eq_true_eq] at h4;exact h4.1
    unfold br at hb;rw [this] at hb;cases hb
  exact ih w hw hb
theorem AN {ρ:Int→Int}{row lv f:List Int}(hρ:Ren ρ f)(hsub: ∀x∈row,x∈lv)(hlv: ∀x,x∈lv↔x∈f): ∀{l:List SG},jt l=true→(∀x∈opens (fun x=>decide (x∈row)) l,x∈f)→opens (fun x=>decide (x∈row.map ρ)) ((cleanL (fun x=>decide (x∈lv)) l).map (bu ρ f))=(opens (fun x=>decide (x∈row)) l).map ρ
 | [],_,_=>rfl
 | [_],h,_=>by cases h
 | k::v::r,h,ho=>by
  rw [ft] at h;rw [Bool.and_eq_true,Bool.and_eq_true,decide_eq_true_eq] at h;rw [fI] at ho
  have ih:=AN hρ hsub hlv h.2 fun x hx=>ho x (SS _ hx)
  have hk:br k=true:=by unfold br;rw [h.1.1];rfl
  have hrow: ∀x∈row,x∈f:=fun x hx=>(hlv x).1 (hsub x hx)
  rw [fI,List.map_append, ←ih];simp only [eT];by_cases hd:k.N∈lv
  ·have hf:=(hlv _).1 hd;have e1:decide (ρ k.N∈row.map ρ)=decide (k.N∈row):=eR (F1 hρ hrow hf);rw [SN hd,cond_true];show opens _ (bu ρ f k::bu ρ f v::(cleanL (fun x=>decide (x∈lv)) r).map (bu ρ f))=_;rw [fI,sf,kk hk hf];simp only [e1]
   congr 1
   cases hv:br v&&decide (k.N∈row) with
   |false=>rfl
   |true=>
    rw [Bool.and_eq_true] at hv;have hvf:=ho v.N (SR _ (by rw [hv.1,hv.2];simp));rw [cond_true,cond_true,kk hv.1 hvf];rfl
  have hnr:k.N∉row:=fun hx=>hd (hsub _ hx)
  rw [SO hd,cond_false,List.nil_append,SO hnr,Bool.and_false];rfl
theorem Bh {ρ:Int→Int}{A lv f:List Int}(hρ:Ren ρ f)(hsub: ∀x∈A,x∈lv)(hlv: ∀x,x∈lv↔x∈f): ∀{l:List SG},jt l=true→cleanL (fun x=>decide (x∈A.map ρ)) ((cleanL (fun x=>decide (x∈lv)) l).map (bu ρ f))=(cleanL (fun x=>decide (x∈A)) l).map (bu ρ f)
 | [],_=>rfl
 | [_],h=>by cases h
 | k::v::r,h=>by
  rw [ft] at h;rw [Bool.and_eq_true,Bool.and_eq_true,decide_eq_true_eq] at h;have ih:=Bh hρ hsub hlv h.2
  have hk:br k=true:=by unfold br;rw [h.1.1];rfl
  have hA: ∀x∈A,x∈f:=fun x hx=>(hlv x).1 (hsub x hx)
  have hr:(cleanL (fun x=>decide (x∈A)) (k::v::r)).map (bu ρ f)=(bif decide (k.N∈A) then [bu ρ f k,bu ρ f v] else [])++(cleanL (fun x=>decide (x∈A)) r).map (bu ρ f):=by
   show ((bif decide (k.N∈A) then [k,v] else [])++cleanL (fun x=>decide (x∈A)) r).map (bu ρ f)=_;rw [List.map_append];cases decide (k.N∈A)<;>rfl
  rw [hr, ←ih];by_cases hd:k.N∈lv
  ·have hf:=(hlv _).1 hd;have e1:decide (ρ k.N∈A.map ρ)=decide (k.N∈A):=eR (F1 hρ hA hf)
   have e2:cleanL (fun x=>decide (x∈lv)) (k::v::r)=k::v::cleanL (fun x=>decide (x∈lv)) r:=by
    show (bif decide (k.N∈lv) then [k,v] else [])++_=_;rw [SN hd];rfl
   rw [e2];show (bif decide ((bu ρ f k).N∈A.map ρ) then [bu ρ f k,bu ρ f v] else [])++_=_
   have e3:(bu ρ f k).N=ρ k.N:=by rw [kk hk hf]
   rw [e3,e1]
  have e2:cleanL (fun x=>decide (x∈lv)) (k::v::r)=cleanL (fun x=>decide (x∈lv)) r:=by
   show (bif decide (k.N∈lv) then [k,v] else [])++_=_;rw [SO hd];rfl
  rw [e2,SO fun hx=>hd (hsub _ hx)];rfl
theorem D9 {p q:Int→Bool}(h: ∀x,p x=true→q x=true){v:SG}: ∀{l:List SG},v∈cleanL p l→v∈cleanL q l
 | [],hv=>by simp [cleanL] at hv
 | [_],hv=>by simp [cleanL] at hv
 | k::w::r,hv=>by
  simp only [eT] at hv⊢;rcases List.mem_append.1 hv with hv|hv
  ·cases hp:p k.N with
   |false=>rw [hp] at hv;cases hv
   |true=>rw [hp] at hv;rw [h _ hp];exact SR _ hv
  exact SS _ (D9 h hv)
structure CellOk (N:Nat) (lv f:List Int) (c:SD):Prop where
 big:2000<N
 right:cA c=true
 slots:c.Slots.length≤600
 more:c.More.length≤600
 leads: ∀x∈bD c,x∈f
 opens: ∀x∈bS N c lv,x∈f
 mem: ∀x,x∈lv↔x∈f
theorem oW {N:Nat}(hN:2000<N){c:SD}(h:cA c=true)(hS:c.Slots.length≤600)(hM:c.More.length≤600):ko N c=decide (c.Kind=8):=by
 unfold ko;rw [oO N hN c W W,h];cases decide (c.Kind=8)<;>rfl
theorem ns {N:Nat}(hN:2000<N){c:SD}(h:cA c=true)(hS:c.Slots.length≤600)(hM:c.More.length≤600):rR N c=decide (c.Kind=10):=by
 unfold rR;rw [oO N hN c W W,h];cases decide (c.Kind=10)<;>rfl
theorem Hd {N:Nat}(hN:2000<N){c:SD}(hS:c.Slots.length≤600)(hM:c.More.length≤600):pR N c=cA c:=by
 unfold pR;rw [oO N hN c W W];rfl
section
variable {N:Nat} {ρ:Int→Int} {lv f:List Int} {c:SD}
theorem Ab:(ju N lv c).Kind=c.Kind∧(ju N lv c).Shape=c.Shape∧(ju N lv c).Flags=c.Flags∧(ju N lv c).Slots=c.Slots:=by
 unfold ju cM;cases decide (c.Kind=8)<;>cases decide (c.Kind=10)<;>cases ko N c<;>exact ⟨rfl,rfl,rfl,rfl⟩
theorem CellOk.new (hρ:Ren ρ f)(h:CellOk N lv f c):cA (gl ρ f (ju N lv c))=true∧(gl ρ f (ju N lv c)).Slots.length≤600∧(gl ρ f (ju N lv c)).More.length≤600∧(gl ρ f (ju N lv c)).Kind=c.Kind:=by
 have h1:=pj N lv c;have h2:=h.slots;have h3:=h.more;exact ⟨KV hρ (Lp N lv h.right),by unfold gl;simp only [List.length_map];omega,by unfold gl;simp only [List.length_map];omega,Ab.1⟩
theorem CellOk.ent2 (h:CellOk N lv f c)(h8:c.Kind=8):jt c.More=true:=by
 have:=(pw h.right).2.2;rw [h8] at this;exact this
theorem CellOk.ent4 (h:CellOk N lv f c)(h10:c.Kind=10):1≤c.More.length∧(qh c.More 0).Kind=7∧mF (c.More.drop 1)=true:=by
 have:=(pw h.right).2.2;rw [h10] at this;have h3':(decide (1≤c.More.length)&&decide ((qh c.More 0).Kind=7)&&mF (c.More.drop 1))=true:=this;simp only [Bool.and_eq_true,decide_eq_true_eq] at h3';exact ⟨h3'.1.1,h3'.1.2,h3'.2⟩
theorem CellOk.wm (h:CellOk N lv f c):ko N c=decide (c.Kind=8):=oW h.big h.right h.slots h.more
theorem CellOk.fr (h:CellOk N lv f c):rR N c=decide (c.Kind=10):=ns h.big h.right h.slots h.more
theorem CellOk.clC8 (h:CellOk N lv f c)(h8:c.Kind=8):ju N lv c=⟨c.Kind,c.Shape,c.Flags,c.Age,c.Slots,cleanL (fun x=>decide (x∈lv)) c.More⟩:=by
 unfold ju cM;rw [h.wm,SN h8];rfl
theorem CellOk.clC10 (h10:c.Kind=10):ju N lv c=⟨c.Kind,c.Shape,c.Flags,c.Age,c.Slots,c.More.take 1++eP lv (c.More.drop 1)⟩:=by
 unfold ju;rw [SO (p:=c.Kind=8) W,SN h10];rfl
theorem CellOk.clC0 (h8:c.Kind≠8)(h10:c.Kind≠10):ju N lv c=c:=by
 unfold ju;rw [SO h8,SO h10];rfl
theorem CellOk.bare10 (h:CellOk N lv f c)(h10:c.Kind=10):cg N c=⟨c.Kind,c.Shape,c.Flags,c.Age,c.Slots,c.More.take 1⟩:=by
 unfold cg;rw [h.fr,SN h10];rfl
theorem CellOk.bare0 (h:CellOk N lv f c)(h10:c.Kind≠10):cg N c=c:=by
 unfold cg;rw [h.fr,SO h10];rfl
theorem CellOk.bareG (hρ:Ren ρ f)(h:CellOk N lv f c):cg N (gl ρ f (ju N lv c))=bif decide (c.Kind=10) then gl ρ f (cg N c) else gl ρ f (ju N lv c):=by
 obtain ⟨g1,g2,g3,g4⟩:=CellOk.new hρ h;by_cases h10:c.Kind=10
 ·rw [SN h10,cond_true,h.bare10 h10]
  have e:rR N (gl ρ f (ju N lv c))=true:=by
   rw [ns h.big g1 g2 g3,g4,SN h10]
  unfold cg;rw [e,cond_true,CellOk.clC10 h10];unfold gl;simp only [SD.mk.injEq,true_and];obtain ⟨q1, -, -⟩:=h.ent4 h10
  obtain ⟨a,r,hr⟩: ∃a r,c.More=a::r:=by
   cases hm:c.More with
   |nil=>rw [hm] at q1;simp at q1
   |cons a r=>exact ⟨a,r,rfl⟩
  rw [hr];rfl
 rw [SO h10,cond_false];unfold cg;rw [ns h.big g1 g2 g3,g4,SO h10];rfl
theorem Gm {c:SD}(h8:c.Kind=8):bD c=pick (fun _ v=>br v) 0 c.Slots:=by
 unfold bD
 have e:(fun (i:Nat) (v:SG)=> !jV c.Kind i&&br v)=fun _ _=>false:=by
  funext i v;unfold jV;rw [h8];rfl
 rw [e,AK,List.append_nil]
theorem Fi {ρ:Int→Int}{c:SD}{f:List Int}(h: ∀x∈bD c,x∈f):bD (gl ρ f c)=(bD c).map ρ:=by
 unfold bD at h⊢;rw [List.map_append];show pick (fun _ v=>br v) 0 (c.Slots.map (bu ρ f))++pick (fun i v=> !jV c.Kind i&&br v) 0 (c.More.map (bu ρ f))=_;rw [zi (fun _ v=>br v) (fun _ v=>sf ρ f v) (fun _ _ h=>h) 0 c.Slots fun x hx=>h x (SR _ hx),zi (fun i v=> !jV c.Kind i&&br v) (fun i v=>by rw [sf]) (fun i v h=>((Bool.and_eq_true _ _).mp h).2) 0 c.More fun x hx=>h x (SS _ hx)]
theorem CellOk.leadsG (hρ:Ren ρ f)(h:CellOk N lv f c):bD (cg N (gl ρ f (ju N lv c)))=(bD (cg N c)).map ρ∧ ∀x∈bD (cg N c),x∈f:=by
 have hb: ∀x∈bD (cg N c),x∈f:=fun x hx=>h.leads x (IJ hx)
 refine ⟨?_,hb⟩;rw [CellOk.bareG hρ h];by_cases h10:c.Kind=10
 ·rw [SN h10,cond_true];exact Fi hb
 rw [SO h10,cond_false];rw [h.bare0 h10] at hb⊢;by_cases h8:c.Kind=8
 ·rw [h.clC8 h8,Gm (c:=gl ρ f ⟨c.Kind,c.Shape,c.Flags,c.Age,c.Slots,cleanL (fun x=>decide (x∈lv)) c.More⟩) h8,Gm h8];rw [Gm h8] at hb;exact zi (fun _ v=>br v) (fun _ v=>sf ρ f v) (fun _ _ h=>h) 0 c.Slots hb
 rw [CellOk.clC0 h8 h10];exact Fi hb
theorem CellOk.opensG (hρ:Ren ρ f)(h:CellOk N lv f c){row:List Int}(hrow: ∀x∈row,x∈f):bS N (cg N (gl ρ f (ju N lv c))) (row.map ρ)=(bS N (cg N c) row).map ρ∧ ∀x∈bS N (cg N c) row,x∈f:=by
 have hb: ∀x∈bS N (cg N c) row,x∈f:=fun x hx=>h.opens x (Iz (fun y hy=>(h.mem y).2 (hrow y hy)) hx)
 refine ⟨?_,hb⟩;obtain ⟨g1,g2,g3,g4⟩:=CellOk.new hρ h;rw [CellOk.bareG hρ h];by_cases h10:c.Kind=10
 ·rw [SN h10,cond_true,h.bare10 h10];unfold bS ko;rw [show decide ((gl ρ f (⟨c.Kind,c.Shape,c.Flags,c.Age,c.Slots,c.More.take 1⟩:SD)).Kind=8)=false from SO (by show c.Kind≠8;omega),show decide ((⟨c.Kind,c.Shape,c.Flags,c.Age,c.Slots,c.More.take 1⟩:SD).Kind=8)=false from SO (by show c.Kind≠8;omega)];rfl
 rw [SO h10,cond_false];rw [h.bare0 h10] at hb⊢;unfold bS at hb⊢;rw [oW h.big g1 g2 g3,g4,h.wm];rw [h.wm] at hb;by_cases h8:c.Kind=8
 ·rw [SN h8] at hb⊢;rw [cond_true,cond_true,h.clC8 h8];exact AN hρ (fun x hx=>(h.mem x).2 (hrow x hx)) h.mem (h.ent2 h8) hb
 rw [SO h8];rfl
theorem CellOk.cleanG (hρ:Ren ρ f)(h:CellOk N lv f c){A:List Int}(hA: ∀x∈A,x∈f):cM N (A.map ρ) (cg N (gl ρ f (ju N lv c)))=gl ρ f (cM N A (cg N c)):=by
 obtain ⟨g1,g2,g3,g4⟩:=CellOk.new hρ h;rw [CellOk.bareG hρ h];by_cases h10:c.Kind=10
 ·rw [SN h10,cond_true,h.bare10 h10];unfold cM ko;rw [show decide ((gl ρ f (⟨c.Kind,c.Shape,c.Flags,c.Age,c.Slots,c.More.take 1⟩:SD)).Kind=8)=false from SO (by show c.Kind≠8;omega),show decide ((⟨c.Kind,c.Shape,c.Flags,c.Age,c.Slots,c.More.take 1⟩:SD).Kind=8)=false from SO (by show c.Kind≠8;omega)];rfl
 rw [SO h10,cond_false,h.bare0 h10];unfold cM;rw [oW h.big g1 g2 g3,g4,h.wm];by_cases h8:c.Kind=8
 ·rw [SN h8,cond_true,cond_true,h.clC8 h8];unfold gl;simp only [SD.mk.injEq,true_and];exact Bh hρ (fun x hx=>(h.mem x).2 (hA x hx)) h.mem (h.ent2 h8)
 rw [SO h8,cond_false,cond_false,CellOk.clC0 h8 h10]
theorem CellOk.inC (h:CellOk N lv f c):dh f (ju N lv c).Slots∧dh f (ju N lv c).More:=by
 refine ⟨by rw [Ab.2.2.2];exact G9 h.leads,?_⟩;by_cases h8:c.Kind=8
 ·rw [h.clC8 h8];have ho:=h.opens;unfold bS at ho;rw [h.wm,SN h8,cond_true] at ho;exact FF h.mem (h.ent2 h8) ho
 by_cases h10:c.Kind=10
 ·rw [CellOk.clC10 h10];obtain ⟨q1,q2,q3⟩:=h.ent4 h10
  obtain ⟨a,r,hr⟩: ∃a r,c.More=a::r:=by
   cases hm:c.More with
   |nil=>rw [hm] at q1;simp at q1
   |cons a r=>exact ⟨a,r,rfl⟩
  rw [hr] at q3;have q3':mF r=true:=q3;intro v hv hb
  have hv':v=a∨v∈eP lv r:=by
   have:v∈a::eP lv r:=by rw [hr] at hv;exact hv
   exact List.mem_cons.1 this
  rcases hv' with rfl|hv'
  ·refine Ct h.leads (j:=0) (by rw [hr];rfl) ?_ hb;unfold jV;rw [h10];rfl
  refine Jt h.mem q3' (fun j w hj hw=>Ct h.leads (j:=4*j+2) (by rw [hr,show 4*j+2=(4*j+1)+1 by omega,List.getElem?_cons_succ];exact hj) ?_ hw) v hv' hb;unfold jV;rw [h10]
  have e1:(((4*j+2:Nat):Int) - 1).tmod 4=1:=by rw [Int.tmod_eq_emod_of_nonneg W];omega
  have e2:((1:Int)).tmod 2=1:=rfl;rw [e1,e2];cases decide ((0:Int)<((4*j+2:Nat):Int))<;>rfl
 rw [CellOk.clC0 h8 h10];intro v hv hb;obtain ⟨j,hj,e⟩:=List.getElem_of_mem hv;exact Ct h.leads (j:=j) (by rw [List.getElem?_eq_getElem hj,e]) (CL h8 h10 j) hb
theorem CellOk.inD (h:CellOk N lv f c){A:List Int}(hA: ∀x∈A,x∈f):dh f (cM N A (cg N c)).Slots∧dh f (cM N A (cg N c)).More:=by
 obtain ⟨i1,i2⟩:=h.inC;by_cases h10:c.Kind=10
 ·rw [h.bare10 h10];unfold cM ko;rw [show decide ((⟨c.Kind,c.Shape,c.Flags,c.Age,c.Slots,c.More.take 1⟩:SD).Kind=8)=false from SO (by show c.Kind≠8;omega)];rw [CellOk.clC10 h10] at i1 i2;exact ⟨i1,fun v hv=>i2 v (SR _ hv)⟩
 rw [h.bare0 h10];unfold cM;rw [h.wm];by_cases h8:c.Kind=8
 ·rw [SN h8,cond_true];rw [h.clC8 h8] at i1 i2;refine ⟨i1,fun v hv=>i2 v (D9 (fun x hx=> ?_) hv)⟩;exact SN ((h.mem x).2 (hA x (of_decide_eq_true hx)))
 rw [SO h8,cond_false];rw [CellOk.clC0 h8 h10] at i1 i2;exact ⟨i1,i2⟩
end
end
section
open Go.RowKit
theorem Jj (N:Nat)(hN:5000<N){m:SB}{x:List SG}(hs:Small m x)(hw:W64 m)(hx: ∀v∈x,in64 v.N): ∃L,SideOk (dg N m) x L∧cw N (dg N m) x=some L∧iT N (dg N m) x=some L:=by
 obtain ⟨bg,all,ho,hlen, -, -,o0⟩:=iJ N hN (hs.bare N) (hw.bare N) hx;obtain ⟨b',all',ho',r0, -⟩:=C2 N hN (hs.bare N) (hw.bare N) hx;obtain ⟨-,e2⟩:=ho.det ho';subst e2;exact ⟨all,⟨hs.bare N,hw.bare N,hx,hlen,ho.nodup.2,ho.has.2⟩,o0,r0⟩
theorem kW (N:Nat)(hN:5000<N){a b:SB}{x y:List SG}(ha:Small a x)(hb:Small b y)(wa:W64 a)(wb:W64 b)(hx: ∀v∈x,in64 v.N)(hy: ∀v∈y,in64 v.N): ∃LA LB,SideOk (dg N a) x LA∧SideOk (dg N b) y LB∧cw N (dg N a) x=some LA∧cw N (dg N b) y=some LB∧dE N a x b y=some (lc N (dg N a) x LA (dg N b) y LB):=by
 obtain ⟨LA,sA,oA,rA⟩:=Jj N hN ha wa hx;obtain ⟨LB,sB,oB,rB⟩:=Jj N hN hb wb hy;exact ⟨LA,LB,sA,sB,oA,oB,Lx N hN (Ha N hN ha rA) (Ha N hN hb rB) sA sB⟩
theorem qx {c:SD}{v:SG}(hv:v∈c.Slots++c.More)(hb:br v=true):v.N∈cy c:=by
 unfold cy;rcases List.mem_append.1 hv with hv|hv
 ·exact SR _ (G9 (f:=bD c) (fun x hx=>hx) v hv hb)
 obtain ⟨j,hj,e⟩:=List.getElem_of_mem hv
 cases hw:jV c.Kind j with
 |false=>exact SR _ (Ct (f:=bD c) (fun x hx=>hx) (by rw [List.getElem?_eq_getElem hj,e]) hw hb)
 |true=>exact SS _ (Cr (j:=j) (by rw [List.getElem?_eq_getElem hj,e]) (by rw [Nat.zero_add,hw,hb];rfl))
theorem oS {p:Int→Bool}{x:Int}: ∀{l:List SG},x∈opens p l→ ∃v∈l,br v=true∧v.N=x
 | [],h=>by simp [opens] at h
 | [_],h=>by simp [opens] at h
 | k::v::l,h=>by
  rw [fI] at h;rcases List.mem_append.1 h with h|h
  ·cases hv:br v&&p k.N with
   |false=>rw [hv] at h;cases h
   |true=>
    rw [hv] at h;rw [Bool.and_eq_true] at hv;exact ⟨v,by simp,hv.1,(List.mem_singleton.1 h).symm⟩
  obtain ⟨w,h1,h2⟩:=oS h;exact ⟨w,by simp [h1],h2⟩
structure CollCtx (N:Nat) (m:SB) (roots:List SG) (live f:List Int):Prop where
 big:5000<N
 small:Small m roots
 tot:Wtd m roots
 w64:W64 m
 r64: ∀v∈roots,in64 v.N
 lv:Live N m roots live f
 right: ∀c∈m.Young++m.Old,cA c=true
 addr: ∀c∈m.Young++m.Old, ∀x∈cy c,aZ m x=true
 roots: ∀x∈bW roots,aZ m x=true
theorem P9 {N:Nat}(hN:5000<N){m:SB}{roots:List SG}(hs:Small m roots)(ht:Wtd m roots)(hw:W64 m)(hr: ∀v∈roots,in64 v.N){live f:List Int}(hl:Live N m roots live f)(h0:mM N m roots=0):CollCtx N m roots live f:=by
 obtain ⟨h1,h2,h3⟩:=FG h0;exact ⟨hN,hs,ht,hw,hr,hl,fun c hc=>by have:=hs.cells c hc;rw [←Hd (N:=N) W this.1 this.2];exact h1 c hc,h2,h3⟩
section
variable {N:Nat} {m:SB} {roots:List SG} {live f:List Int} (h:CollCtx N m roots live f)
include h
theorem CollCtx.mem (x:Int):x∈live↔x∈f:=(h.lv.mem x).symm
theorem CollCtx.cell {a:Int}(ha:a∈f):CellOk N live f (be m a):=by
 have hm:=pn (h.lv.fhas ha);obtain ⟨b,all,ho,hlv, -⟩:=h.lv.ord
 have hall: ∀x,x∈all↔x∈f:=fun x=>by rw [←h.mem x,hlv];exact (oM all x).symm
 obtain ⟨q1,q2⟩:=ho.closed;have hs:=h.small.cells _ hm;have hN:=h.big;refine ⟨by omega,h.right _ hm,hs.1,hs.2,fun x hx=> ?_,fun x hx=> ?_,h.mem⟩
 ·exact (hall x).1 (q1 a ((hall a).2 ha) x hx (h.addr _ hm x (SR _ hx)))
 have e:bS N (be m a) live=bS N (be m a) all:=by
  unfold bS;rw [Ho (q:=fun x=>decide (x∈all)) fun x=>eR (by rw [h.mem x];exact (hall x).symm)]
 rw [e] at hx;refine (hall x).1 (q2 a ((hall a).2 ha) x hx ?_);unfold bS at hx
 cases hw:ko N (be m a) with
 |false=>rw [hw] at hx;cases hx
 |true=>
  rw [hw] at hx;obtain ⟨v,hv,hb,rfl⟩:=oS hx;exact h.addr _ hm _ (qx (SS _ hv) hb)
theorem CollCtx.root {x:Int}(hx:x∈bW roots):x∈f:=by
 obtain ⟨b,all,ho,hlv, -⟩:=h.lv.ord;rw [←h.mem x,hlv,oM];exact ho.sub (ho.roots hx (h.roots x hx))
theorem CollCtx.rootIn:dh f roots:=fun v hv hb=>h.root (eo.2 ⟨v,hv,hb,rfl⟩)
end
def dP (N:Nat)(m:SB)(live f:List Int):SB:=⟨[],f.map fun a=>gl (mc f) f (ju N live (be m a))⟩
def RC (N:Nat)(m:SB)(live f:List Int)(a:Int):SD:=gl (mc f) f (ju N live (be m a))
theorem vM {N:Nat}{m:SB}{live f:List Int}{a:Int}(ha:a∈f):aZ (dP N m live f) (mc f a)=true:=by
 unfold mc;rw [qb];exact SN (by unfold dP;simp only [List.length_map];exact oX ha)
theorem Oe {N:Nat}{m:SB}{live f:List Int}{a:Int}(ha:a∈f):be (dP N m live f) (mc f a)=gl (mc f) f (ju N live (be m a)):=by
 have e:mc f a=2*((f.idxOf a:Nat):Int)+2:=rfl;rw [e,pM _ _ (by unfold dP;simp only [List.length_map];exact oX ha)];unfold dP;simp only [List.getElem_map];rw [lr ha]
theorem wJ {f:List Int}{v:SG}(hf:f.length≤100000)(hv:in64 v.N):in64 (bu (mc f) f v).N:=by
 unfold bu
 cases hb:br v&&decide (v.N∈f) with
 |false=>exact hv
 |true=>
  rw [Bool.and_eq_true,decide_eq_true_eq] at hb;have:=oX hb.2;show in64 (mc f v.N);unfold mc in64;omega
theorem JE {N:Nat}{lv:List Int}{c:SD}{v:SG}(hv:v∈(ju N lv c).Slots++(ju N lv c).More):v∈c.Slots++c.More∨v=ld:=by
 unfold ju at hv
 cases h8:decide (c.Kind=8) with
 |true=>rw [h8] at hv;exact .inl (yi hv)
 | false=>
  rw [h8] at hv
  cases h10:decide (c.Kind=10) with
  |false=>rw [h10] at hv;exact .inl hv
  |true=>
   rw [h10] at hv;have hv':v∈c.Slots++(c.More.take 1++eP lv (c.More.drop 1)):=hv;rcases List.mem_append.1 hv' with hv'|hv'
   ·exact .inl (SR _ hv')
   rcases List.mem_append.1 hv' with hv'|hv'
   ·exact .inl (SS _ (List.mem_of_mem_take hv'))
   rcases DQ lv hv' with hv'|hv'
   ·exact .inl (SS _ (List.mem_of_mem_drop hv'))
   exact .inr hv'
theorem CT {lv:List Int}{cb v:SG}: ∀{l:List SG},v∈jE lv cb l→v=cb∨v∈l
 | [],h=>by simp [jE] at h
 | [_],h=>by simp [jE] at h
 | [_,_],h=>by simp [jE] at h
 | [_,_,_],h=>by simp [jE] at h
 | t::a::k::s::r,h=>by
  simp only [CU] at h;rcases List.mem_append.1 h with h|h
  ·cases hd:decide (t.N∈lv) with
   |true=>rw [hd] at h;cases h
   |false=>rw [hd] at h;simp at h;rcases h with h|h|h<;>subst h<;>simp
  rcases CT h with h|h
  ·exact .inl h
  exact .inr (by simp [h])
section
variable {N:Nat} {m:SB} {roots:List SG} {live f:List Int} (h:CollCtx N m roots live f)
include h
theorem CollCtx.flen:f.length≤1200:=by rw [h.lv.len];exact h.lv.small
theorem CollCtx.flen6:f.length≤600:=by
 have h1:=pt (fun _=>1) h.lv.nd fun a ha=>tC (h.lv.fhas ha)
 have h2: ∀l:List Int,cL (fun _=>1) l=l.length:=fun l=>by
  induction l with
  |nil=>rfl
  |cons x l ih=>rw [cL,ih,List.length_cons];omega
 rw [h2,h2] at h1;have h3:=h.tot.cnt;unfold Ak at h1;simp only [List.length_append,List.length_map,List.length_range] at h1;omega
theorem CollCtx.nextW:W64 (dP N m live f):=fun c hc v hv=>by
 have hl:=h.flen
 have hc':c∈f.map fun a=>gl (mc f) f (ju N live (be m a)):=hc
 obtain ⟨a,ha,rfl⟩:=List.mem_map.1 hc'
 have hv':v∈((ju N live (be m a)).Slots++(ju N live (be m a)).More).map (bu (mc f) f):=by rw [List.map_append];exact hv
 obtain ⟨w,hw,rfl⟩:=List.mem_map.1 hv';refine wJ W ?_;rcases JE hw with hw|rfl
 ·exact h.w64.at_ a w hw
 show in64 0;unfold in64;omega
theorem CollCtx.nextS (l:List SG)(hl:l.length≤600):Small (dP N m live f) l:=by
 refine ⟨Nat.zero_le _,?_,hl,fun c hc=> ?_⟩
 ·unfold dP;simp only [List.length_map];exact h.flen6
 have hc':c∈f.map fun a=>gl (mc f) f (ju N live (be m a)):=hc
 obtain ⟨a,ha,rfl⟩:=List.mem_map.1 hc';obtain ⟨-,g2,g3, -⟩:=(CellOk.new (rY f) (h.cell ha));exact ⟨g2,g3⟩
end
theorem qH {ρ:Int→Int}{f:List Int}: ∀{l:List SG},dh f l→bW (l.map (bu ρ f))=(bW l).map ρ
 | [],_=>rfl
 | v::l,h=>by
  have ih:=qH (ρ:=ρ) (l:=l) fun w hw=>h w (by simp [hw])
  unfold bW at ih⊢;rw [List.map_cons,List.filter_cons,List.filter_cons,sf]
  cases hb:br v with
  |false=>exact ih
  |true=>
   simp only [if_true,List.map_cons,ih];rw [kk hb (h v (by simp) hb)]
theorem pq {α β:Type}(g:α→β)(p:α×β→Bool): ∀l:List α,(l.zip (l.map g)).all p=l.all fun a=>p (a,g a)
 | []=>rfl
 |a::l=>by rw [List.map_cons,List.zip_cons_cons,List.all_cons,List.all_cons,pq g p l]
theorem MW {ρ:Int→Int}{f A:List Int}{ha hb:Int→Bool}(hρ:Ren ρ f)(hA: ∀x∈A,x∈f)(h1: ∀x∈f,ha x=true)(h2: ∀x∈f,hb (ρ x)=true){v:SG}(hv:br v=true→v.N∈f):xo ha hb A (A.map ρ) v (bu ρ f v)=true:=by
 cases hh:br v with
 |false=>
  rw [Cs hh];unfold xo;rw [hh];exact SN U
 |true=>
  have hf:=hv hh;rw [kk hh hf];unfold xo;have hh2:br (⟨v.Kind,ρ v.N,v.S⟩:SG)=true:=hh;rw [hh,hh2];simp only [Bool.not_true,Bool.or_self,cond_false];rw [SN (p:=True) trivial,beq_self_eq_true,eR (F1 hρ hA hf),h1 _ hf,h2 _ hf];by_cases hm:v.N∈A
  ·rw [SN hm,Fl hρ hf hA,SN (p:=A.idxOf v.N=A.idxOf v.N) rfl];rfl
  rw [SO hm];rfl
theorem mx {ρ:Int→Int}{f A:List Int}{ha hb:Int→Bool}(hρ:Ren ρ f)(hA: ∀x∈A,x∈f)(h1: ∀x∈f,ha x=true)(h2: ∀x∈f,hb (ρ x)=true){l:List SG}(hl:dh f l):oz ha hb A (A.map ρ) l (l.map (bu ρ f))=true:=by
 unfold oz;rw [pq,SN (by simp),Bool.true_and,List.all_eq_true]
 exact fun v hv=>MW hρ hA h1 h2 (hl v hv)
theorem zk {F:Nat→SG→Bool}{x:Int}(hB: ∀i v,F i v=true→br v=true): ∀{i:Nat} {l:List SG},x∈pick F i l→ ∃v∈l,br v=true∧v.N=x
 |_,[],h=>by cases h
 | i,v::l,h=>by
  rw [gm] at h;rcases List.mem_append.1 h with h|h
  ·cases hf:F i v with
   |false=>rw [hf] at h;cases h
   |true=>rw [hf] at h;exact ⟨v,by simp,hB i v hf,(List.mem_singleton.1 h).symm⟩
  obtain ⟨w,g1,g2⟩:=zk hB h;exact ⟨w,by simp [g1],g2⟩
theorem tN {c:SD}{x:Int}(h:x∈cy c): ∃v∈c.Slots++c.More,br v=true∧v.N=x:=by
 unfold cy bD lf at h;rcases List.mem_append.1 h with h|h
 ·rcases List.mem_append.1 h with h|h
  ·obtain ⟨v,g1,g2⟩:=zk (fun _ _ h=>h) h;exact ⟨v,SR _ g1,g2⟩
  obtain ⟨v,g1,g2⟩:=zk (fun i v h=>((Bool.and_eq_true _ _).mp h).2) h;exact ⟨v,SS _ g1,g2⟩
 obtain ⟨v,g1,g2⟩:=zk (fun i v h=>((Bool.and_eq_true _ _).mp h).2) h;exact ⟨v,SS _ g1,g2⟩
section
variable {N:Nat} {m:SB} {roots:List SG} {live f:List Int} (h:CollCtx N m roots live f)
include h
theorem CollCtx.atB {a:Int}(ha:a∈f):be (dg N m) a=cg N (be m a):=tM N m a (h.lv.fhas ha)
theorem CollCtx.atNB {a:Int}(ha:a∈f):be (dg N (dP N m live f)) (mc f a)=cg N (gl (mc f) f (ju N live (be m a))):=by
 have _:=h;rw [tM N _ _ (vM ha),Oe ha]
theorem CollCtx.graph:MapG (Am N (dg N m)) (Am N (dg N (dP N m live f))) (mc f) (· ∈f):=by
 refine ⟨fun a b ha hb e=>Jl ha hb e,fun a ha=>⟨?_,?_⟩,fun a ha=> ?_,fun row a hr ha=> ?_⟩
 ·show aZ (dg N m) a=true;rw [nH];exact h.lv.fhas ha
 ·show aZ (dg N (dP N m live f)) (mc f a)=true;rw [nH];exact vM ha
 ·show bD (be (dg N (dP N m live f)) (mc f a))=(bD (be (dg N m) a)).map (mc f)∧ ∀x∈bD (be (dg N m) a),x∈f;rw [h.atNB ha,h.atB ha];exact CellOk.leadsG (rY f) (h.cell ha)
 show bS N (be (dg N (dP N m live f)) (mc f a)) (row.map (mc f))=(bS N (be (dg N m) a) row).map (mc f)∧ ∀x∈bS N (be (dg N m) a) row,x∈f;rw [h.atNB ha,h.atB ha];exact CellOk.opensG (rY f) (h.cell ha) hr
theorem CollCtx.now64: ∀v∈roots.map (bu (mc f) f),in64 v.N:=fun v hv=>by
 have hl:=h.flen;obtain ⟨w,hw,rfl⟩:=List.mem_map.1 hv;exact wJ W (h.r64 w hw)
theorem CollCtx.alikeR {R:List SG}(hR:dh f R)(hl:R.length≤600)(r64: ∀v∈R,in64 v.N):dE N m R (dP N m live f) (R.map (bu (mc f) f))=some true:=by
 have hN:=h.big;have hfl:=h.flen;have hs:Small m R:=⟨h.small.young,h.small.old,hl,h.small.cells⟩
 have now64: ∀v∈R.map (bu (mc f) f),in64 v.N:=fun v hv=>by
  obtain ⟨w,hw,rfl⟩:=List.mem_map.1 hv;exact wJ W (r64 w hw)
 have hsN:=h.nextS (R.map (bu (mc f) f)) (by rw [List.length_map];exact hl);obtain ⟨LA,LB,sA,sB,oA,oB,p2⟩:=kW N hN hs hsN h.w64 h.nextW r64 now64;obtain ⟨b1,L1,i1, -, -, -,e1⟩:=iJ N hN (hs.bare N) (h.w64.bare N) r64;obtain ⟨b2,L2,i2, -, -, -,e2⟩:=iJ N hN (hsN.bare N) (h.nextW.bare N) now64;rw [e1] at oA;rw [e2] at oB;obtain rfl:=Option.some.inj oA;obtain rfl:=Option.some.inj oB
 obtain ⟨i3,hL1⟩:=h.graph.isOrder i1 fun x hx=>by obtain ⟨v,hv,hb,rfl⟩:=eo.1 hx;exact hR v hv hb
 rw [qH hR] at i2;obtain ⟨-,eL⟩:=i2.det i3;subst eL
 have hA1: ∀x∈f,aZ (dg N m) x=true:=fun x hx=>by rw [nH];exact h.lv.fhas hx
 have hA2: ∀x∈f,aZ (dg N (dP N m live f)) (mc f x)=true:=fun x hx=>by rw [nH];exact vM hx
 have key:lc N (dg N m) R L1 (dg N (dP N m live f)) (R.map (bu (mc f) f)) (L1.map (mc f))=true:=by
  unfold lc;rw [SN (by simp),mx (rY f) hL1 hA1 hA2 hR,pq,Bool.true_and,Bool.true_and,List.all_eq_true];intro a ha;have haf:=hL1 a ha;simp only;rw [h.atB haf,h.atNB haf,CellOk.cleanG (rY f) (h.cell haf) hL1];obtain ⟨d1,d2⟩:=(h.cell haf).inD hL1;generalize cM N L1 (cg N (be m a))=hU at*;unfold rC gl;rw [mx (rY f) hL1 hA1 hA2 d1,mx (rY f) hL1 hA1 hA2 d2,SN (p:=hU.Kind=hU.Kind) rfl,SN (p:=hU.Shape=hU.Shape) rfl,SN (p:=hU.Flags=hU.Flags) rfl];rfl
 rw [p2,key]
theorem CollCtx.newHas {l:List SG}(hl:dh f l){v:SG}(hv:v∈l.map (bu (mc f) f))(hb:br v=true):aZ (dP N m live f) v.N=true:=by
 have _:=h;obtain ⟨w,hw,rfl⟩:=List.mem_map.1 hv;rw [sf] at hb;have:=hl w hw hb;rw [kk hb this];exact vM this
theorem CollCtx.nextAddr {c:SD}(hc:c∈f.map fun a=>gl (mc f) f (ju N live (be m a))):cA c=true∧ ∀x∈cy c,aZ (dP N m live f) x=true:=by
 obtain ⟨a,ha,rfl⟩:=List.mem_map.1 hc;refine ⟨(CellOk.new (rY f) (h.cell ha)).1,fun x hx=> ?_⟩;obtain ⟨v,hv,hb,rfl⟩:=tN hx;obtain ⟨i1,i2⟩:=(h.cell ha).inC;rcases List.mem_append.1 hv with hv|hv
 ·exact h.newHas i1 hv hb
 exact h.newHas i2 hv hb
end
end
section
open Go.RowKit
def cz (n:Nat):List Int:=(List.range n).map fun i:Nat=>2*(i:Int)+2
theorem Le (n:Nat):(cz n).Pairwise (· < ·):=by
 unfold cz;rw [List.pairwise_map]
 exact List.pairwise_lt_range.imp fun h=>by omega
theorem Fo {n i:Nat}(h:i<(cz n).length):(cz n)[i]=2*(i:Int)+2:=by simp [cz]
def re (g:Gr)(live:List Int):List Int→List Int→List Int
 |row,[]=>row
 |row,a::avs=>re g live (dv g.has row (g.opens live a)) avs
inductive MOrd (g:Gr) (olds kept:List Int):List Int→List Int→Prop
 |done {row:List Int}:re g (olds++row) row (kept++row)=row→MOrd g olds kept row row
 |step {row r1 r:List Int}:re g (olds++row) row (kept++row)≠row→Thr g (re g (olds++row) row (kept++row)) row.length r1→MOrd g olds kept r1 r→MOrd g olds kept row r
structure IsMinor (g:Gr) (olds kept start b l:List Int):Prop where
 strong:Thr g (dv g.has [] start) 0 b
 all:MOrd g olds kept b l
theorem tw (g:Gr)(live:List Int): ∀(row avs:List Int), ∃t,re g live row avs=row++t
 |row,[]=>⟨[],by simp [re]⟩
 |row,a::avs=>by
  obtain ⟨t,h1, -⟩:=ir g.has row (g.opens live a);obtain ⟨t2,h2⟩:=tw g live (dv g.has row (g.opens live a)) avs;exact ⟨t++t2,by unfold re;rw [h2,h1,SQ]⟩
theorem E7 (g:Gr)(live:List Int): ∀(row avs bs:List Int),re g live row (avs++bs)=re g live (re g live row avs) bs
 |_,[],_=>rfl
 |row,a::avs,bs=>by
  show re g live _ (avs++bs)=_;rw [E7 g live _ avs bs];rfl
theorem E8 {g:Gr}{live:List Int}: ∀{row avs:List Int},re g live row avs=row→ ∀a∈avs, ∀x∈g.opens live a,g.has x=true→x∈row
 | row,b::avs,h,a,ha,x,hx,hh=>by
  have h1:dv g.has row (g.opens live b)=row:=by
   obtain ⟨t,e1, -⟩:=ir g.has row (g.opens live b);obtain ⟨t2,e2⟩:=tw g live (dv g.has row (g.opens live b)) avs
   have h3:row++t++t2=row:=by rw [←e1, ←e2];exact h
   have h4:=congrArg List.length h3;simp only [List.length_append] at h4;have h5:t=[]:=List.eq_nil_of_length_eq_zero W;rw [e1,h5,List.append_nil]
  rcases List.mem_cons.1 ha with e|ha
  ·subst e;have:=tH row _ hx hh;rwa [h1] at this
  refine E8 (avs:=avs) ?_ a ha x hx hh;unfold re at h;rw [h1] at h;exact h
theorem MOrd.app {g:Gr}{olds kept row r:List Int}(h:MOrd g olds kept row r): ∃t,r=row++t:=by
 induction h with
 |done _=>exact ⟨[],by simp⟩
 |step _ h1 _ ih=>
  rename_i row r1 _ _ _
  obtain ⟨t,rfl⟩:=ih;obtain ⟨t1,rfl⟩:=h1.app;obtain ⟨t2,h2⟩:=tw g (olds++row) row (kept++row);exact ⟨t2++t1++t,by rw [h2];simp [SQ]⟩
theorem MOrd.closed {g:Gr}{olds kept row r:List Int}(h:MOrd g olds kept row r)(hc:CloG g row row.length):CloG g r r.length∧ ∀a∈kept++r, ∀x∈g.opens (olds++r) a,g.has x=true→x∈r:=by
 induction h with
 |done hp=>exact ⟨hc,E8 hp⟩
 |step _ h1 _ ih=>
  rename_i row _ _ _ _
  obtain ⟨t,e⟩:=tw g (olds++row) row (kept++row);refine ih (h1.clo (by rw [e,List.length_append];omega) ?_);rw [e];exact hc.app (Nat.le_refl _)
theorem IsMinor.start {g:Gr}{olds kept start b l:List Int}(h:IsMinor g olds kept start b l){x:Int}(hx:x∈start)(hh:g.has x=true):x∈l:=by
 obtain ⟨t,e⟩:=h.strong.app;obtain ⟨t2,e2⟩:=h.all.app;rw [e2,e];exact SR _ (SR _ (tH _ _ hx hh))
theorem IsMinor.closed {g:Gr}{olds kept start b l:List Int}(h:IsMinor g olds kept start b l):(∀a∈l, ∀x∈g.leads a,g.has x=true→x∈l)∧ ∀a∈kept++l, ∀x∈g.opens (olds++l) a,g.has x=true→x∈l:=by
 obtain ⟨h1,h2⟩:=h.all.closed (h.strong.clo (Nat.zero_le _) fun i _ _ hi=>absurd hi W);refine ⟨fun a ha x hx hh=> ?_,h2⟩;obtain ⟨i,hi,e⟩:=List.getElem_of_mem ha;exact h1 i a x hi (by rw [List.getElem?_eq_getElem hi,e]) hx hh
def yB (a:Int):Bool:=decide (0<a)&&decide (a.tmod 2=1)
def K9 (N:Nat)(m:SB):Gr:=⟨yB,fun a=>bD (be m a),fun live a=>bS N (be m a) live⟩
theorem qI (N:Nat)(a:Int):fO N a=some (yB a):=by
 unfold fO yB;cases decide (0<a)<;>cases decide (a.tmod 2=1)<;>rfl
theorem Id (k:Nat):yB (2*(k:Int)+1)=true:=by
 unfold yB;rw [qi W,SN W,SN W];rfl
theorem Cn (k:Nat):yB (2*(k:Int)+2)=false:=by
 unfold yB;rw [qi W,SO (p:=(2*(k:Int)+2)%2=1) W,Bool.and_false]
structure Mt (m:SB) (met:List Int) (seen:List (Int×Bool)):Prop where
 nd:met.Nodup
 yng: ∀x∈met,yB x=true
 has: ∀x∈met,aZ m x=true
 mem: ∀x,(lk seen x).getD false=decide (x∈met)
theorem Mt.len {m:SB}{roots:List SG}(hs:Small m roots){met:List Int}{seen:List (Int×Bool)}(h:Mt m met seen):met.length≤1200:=zo 1200 h.nd fun x hx=>⟨by have:=rq (h.has x hx);omega,by have:=wP hs (h.has x hx);omega⟩
theorem Mt.nil (m:SB):Mt m [] []:=⟨List.nodup_nil,by simp,by simp,fun x=>by simp;rfl⟩
theorem Fg (N:Nat){m:SB}{roots:List SG}(hs:Small m roots)(kp:List Int){met:List Int}{seen:List (Int×Bool)}(nx:Int)(h:Mt m met seen)(a:Int)(ha:yB a=true→aZ m a=true): ∃seen',cG N ⟨m,kp,met,seen,nx⟩ a=some ⟨m,kp,dv yB met [a],seen',nx⟩∧Mt m (dv yB met [a]) seen':=by
 have hlen:=h.len hs;unfold cG;rw [qI,bs]
 dsimp only
 rw [h.mem a];have hl:dv yB met [a]=bif yB a&& !decide (a∈met) then met++ [a] else met:=rfl;rw [hl]
 cases hy:yB a with
 |false=>exact ⟨seen,rfl,h⟩
 | true=>
  by_cases hm:a∈met
  ·rw [SN hm];exact ⟨seen,U,h⟩
  rw [SO hm];refine ⟨uV seen a true,?_,?_⟩
  ·simp only [ct,bs,nf];rw [rF (by simp;omega)];rfl
  refine ⟨List.nodup_append.2 ⟨h.nd,by simp,fun x hx y hy e=>by rw [List.mem_singleton] at hy;subst hy;subst e;exact hm hx⟩,fun x hx=> ?_,fun x hx=> ?_,fun x=> ?_⟩
  ·rcases List.mem_append.1 hx with hx|hx
   ·exact h.yng x hx
   rw [List.mem_singleton] at hx;subst hx;exact hy
  ·rcases List.mem_append.1 hx with hx|hx
   ·exact h.has x hx
   rw [List.mem_singleton] at hx;subst hx;exact ha hy
  rw [Hy];show _=decide (x∈met++ [a]);by_cases e:a=x
  ·rw [if_pos e,SN (by simp [e])];rfl
  rw [if_neg e,h.mem x];exact eR ⟨fun hx=>SR _ hx,fun hx=>(List.mem_append.1 hx).elim id fun hx=>absurd (List.mem_singleton.1 hx).symm e⟩
theorem AR {ρ:Type}(N:Nat){m:SB}{roots:List SG}(hs:Small m roots)(l:List Int)(hl:l.length<N)(hl2:l.length≤5000)(hh: ∀x∈l,yB x=true→aZ m x=true)(L:Nat→Int→List SD→List SD→List Int→List Int→List (Int×Bool)→Int→Option ρ)(K:List SD→List SD→List Int→List Int→List (Int×Bool)→Int→Option ρ)
  (hrec: ∀k i hE hP kp met seen nx,L (k+1) i hE hP kp met seen nx=bif decide (i<(l.length:Int)) then ((aM l i).bind fun x=>(cG N (⟨(⟨hE,hP⟩:SB),kp,met,seen,nx⟩:SA) x).bind fun y=>bG (in64 (i+1)) (L k (i+1) y.m_.Young y.m_.Old y.kept_ y.met_ y.seen_ y.next_)) else K hE hP kp met seen nx)
  (kp:List Int) {met:List Int} {seen:List (Int×Bool)} (nx:Int) (h:Mt m met seen) (R:ρ→Prop) (hk: ∀seen',Mt m (dv yB met l) seen'→Sat (K m.Young m.Old kp (dv yB met l) seen' nx) R):Sat (L N 0 m.Young m.Old kp met seen nx) R:=by
 refine cR (fun k i (s:List Int×List (Int×Bool))=>L k (i:Int) m.Young m.Old kp s.1 s.2 nx) l.length (fun i s=>Mt m s.1 s.2∧s.1=dv yB met (l.take i)) R ?_ ?_ N 0 (met,seen) W W ⟨h,U⟩
 ·rintro k i ⟨mt,sn⟩ hi ⟨h1,h2⟩ go;simp only at h1 h2;show Sat (L (k+1) (i:Int) m.Young m.Old kp mt sn nx) R;obtain ⟨sn',e1,e2⟩:=Fg N hs kp nx h1 l[i] (hh _ (List.getElem_mem _));have e1':cG N ⟨⟨m.Young,m.Old⟩,kp,mt,sn,nx⟩ l[i]=some ⟨m,kp,dv yB mt [l[i]],sn',nx⟩:=e1;rw [hrec,cV W,ct,bf hi,bs,e1',bs,r64 W W];exact go (dv yB mt [l[i]],sn') ⟨e2,by show dv yB mt [l[i]]=_;rw [bi hi,rm, ←h2]⟩
 rintro k ⟨mt,sn⟩ ⟨h1,h2⟩;simp only [List.take_length] at h1 h2;show Sat (L (k+1) _ m.Young m.Old kp mt sn nx) R;rw [hrec,cQ W,cf];subst h2;exact hk sn h1
theorem rk (N:Nat){m:SB}{roots:List SG}(hs:Small m roots)(kp met:List Int)(seen:List (Int×Bool))(nx:Int){a:Int}(ha:aZ m a=true):ci N ⟨m,kp,met,seen,nx⟩ a=some (be m a):=by
 have hy:=hs.young;have ho:=hs.old;unfold ci;rw [qI,bs];rcases gp ha with ⟨i,hi,rfl⟩|⟨i,hi,rfl⟩
 ·rw [Id,ct,xu W,show (2*(i:Int)+1) / 2=i by omega,r64 W W,uP m i hi,bf hi,bs]
 rw [Cn,cf,xu W,show (2*(i:Int)+2) / 2=(i:Int)+1 by omega,r64 W W,r64 W W,show (i:Int)+1 - 1=i by omega,pM m i hi,bf hi,bs]
def Whole (m:SB):Prop:= ∀a,aZ m a=true→ ∀x∈cy (be m a),aZ m x=true
theorem Whole.leads {m:SB}(h:Whole m){a:Int}(ha:aZ m a=true): ∀x∈bD (be m a),aZ m x=true:=fun x hx=>h a ha x (SR _ hx)
theorem Whole.opens {m:SB}(h:Whole m){N:Nat}{live:List Int}{a:Int}(ha:aZ m a=true): ∀x∈bS N (be m a) live,aZ m x=true:=fun x hx=>by
 unfold bS at hx
 cases hw:ko N (be m a) with
 |false=>rw [hw] at hx;cases hx
 |true=>
  rw [hw] at hx;obtain ⟨v,hv,hb,rfl⟩:=oS hx;exact h a ha _ (qx (SS _ hv) hb)
theorem xF (N:Nat)(hN:5000<N){m:SB}{roots:List SG}(hs:Small m roots)(hw:Whole m)(kp:List Int){met:List Int}{seen:List (Int×Bool)}(h:Mt m met seen)(k:Nat)(hk:k≤met.length):
  Sat (fj N ⟨m,kp,met,seen,(k:Int)⟩) fun r=> ∃seen',r=⟨m,kp,r.met_,seen',(r.met_.length:Int)⟩∧Mt m r.met_ seen'∧Thr (K9 N m) met k r.met_:=by
 unfold fj;refine ou (fun f (s:List Int×List (Int×Bool)×Nat)=>cp N f m.Young m.Old kp s.1 s.2.1 (s.2.2:Int)) (fun s=>1300 - s.2.2) (fun s=>Mt m s.1 s.2.1∧s.2.2≤s.1.length∧ ∀r,Thr (K9 N m) s.1 s.2.2 r→Thr (K9 N m) met k r) _ ?_ N (met,seen,k) (by show 1300 - k<N;omega) ⟨h,hk,fun _ h=>h⟩;rintro f ⟨mt,sn,j⟩ ⟨h1,h3,h4⟩ go;show Sat (cp N (f+1) m.Young m.Old kp mt sn (j:Int)) _;simp only at h1 h3 h4;have hlen:=h1.len hs;rw [cp.eq_2];by_cases hj:j<mt.length
 ·have hh:=h1.has _ (List.getElem_mem hj);have hsm:=hs.at_ mt[j];have e1:ci N ⟨⟨m.Young,m.Old⟩,kp,mt,sn,(j:Int)⟩ mt[j]=some (be m mt[j]):=rk N hs kp mt sn (j:Int) hh;have hll:=km (be m mt[j]);rw [cV W,ct,bf hj,bs,e1,bs,nr N W _ W W,bs]
  refine AR N hs (bD (be m mt[j])) W W (fun x hx _=>hw.leads hh x hx) (fP N (cp N f) (bD (be m mt[j]))) (fQ N (cp N f)) (fun _ _ _ _ _ _ _ _=>by rw [fP.eq_2]) kp (j:Int) h1 _ fun sn' h5=> ?_
  unfold fQ;rw [r64 W W]
  have hge:mt.length≤(dv yB mt (bD (be m mt[j]))).length:=by
   obtain ⟨t,e, -⟩:=ir yB mt (bD (be m mt[j]));rw [e,List.length_append];omega
  exact go (dv yB mt (bD (be m mt[j])),sn',j+1) (by show 1300 - (j+1)<1300 - j;omega) ⟨h5,by show j+1≤(dv yB mt (bD (be m mt[j]))).length;omega,fun r hr=>h4 r (.step (List.getElem?_eq_getElem hj) hr)⟩
 have:j=mt.length:=by omega
 subst this;rw [cQ W,cf];exact aQ ⟨sn,U,h1,h4 _ (.done (Nat.le_refl _))⟩
theorem DG (N:Nat)(hN:5000<N){m:SB}{roots:List SG}(hs:Small m roots)(kp:List Int){met:List Int}{seen:List (Int×Bool)}(nx:Int)(h:Mt m met seen):fA N ⟨m,kp,met,seen,nx⟩=some (cz m.Old.length++met):=by
 apply Sat.eq;have ho:=hs.old;have hlen:=h.len hs;unfold fA;refine cR (fun k i (s:List Int)=>eN N ⟨m,kp,met,seen,nx⟩ k s (i:Int)) m.Old.length (fun i s=>s=cz i) _ ?_ ?_ N 0 [] W W U
 ·rintro k i s hi rfl go;show Sat (eN N ⟨m,kp,met,seen,nx⟩ (k+1) (cz i) (i:Int)) _
  have hev:(cz i).length=i:=by unfold cz;simp
  rw [eN.eq_2,cV (by show (i:Int)<(m.Old.length:Int);omega),ct,r64 W W,r64 W W,rF (by simp;omega),r64 W W];refine go _ ?_;unfold cz;rw [List.range_succ,List.map_append];rfl
 rintro k s rfl;show Sat (eN N ⟨m,kp,met,seen,nx⟩ (k+1) _ _) _
 have hev:(cz m.Old.length).length=m.Old.length:=by unfold cz;simp
 rw [eN.eq_2,cQ (by show (m.Old.length:Int)≤(m.Old.length:Int);omega),cf];unfold lP
 dsimp only
 rw [rF W];exact aQ U
theorem BM (N:Nat)(a b:List Int)(ha:a.length≤100000)(hb:b.length≤100000):kC N a b=some (a++b):=by
 unfold kC oN pQ me nP;rw [r64 W W,cQ (a:=0+(a.length:Int)) W,cf,r64 W W,cQ (a:=0+(a.length:Int)+(b.length:Int)) W,cf,r64 W W,r64 W W,cf];by_cases h:0<a.length+b.length
 ·rw [cV W,ct,kD ⟨by omega,by omega⟩,bs,rF (by simp;omega),rF (by simp;omega)];rfl
 rw [cQ W,cf,bs,rF (by simp;omega),rF (by simp;omega)];rfl
theorem IH (N:Nat)(hN:5000<N){m:SB}{roots:List SG}(hs:Small m roots)(hw:Whole m)(kp:List Int)(hk: ∀x∈kp,aZ m x=true)(hkl:kp.length≤1200){met:List Int}{seen:List (Int×Bool)}(nx:Int)(h:Mt m met seen):
  Sat (gC N ⟨m,kp,met,seen,nx⟩) fun r=> ∃seen',r=(decide ((met.length:Int)<(r.2.met_.length:Int)),⟨m,kp,r.2.met_,seen',nx⟩)∧Mt m r.2.met_ seen'∧r.2.met_=re (K9 N m) (cz m.Old.length++met) met (kp++met):=by
 have hlen:=h.len hs;have ho:=hs.old
 have hev:(cz m.Old.length).length=m.Old.length:=by unfold cz;simp
 unfold gC;rw [DG N hN hs kp nx h,bs]
 dsimp only
 rw [BM N kp met W W,bs]
 have hL:(cz m.Old.length++met).length≤5000:=by rw [List.length_append];omega
 have hC:(kp++met).length≤2400:=by rw [List.length_append];omega
 generalize hlv:cz m.Old.length++met=live at*
 have hcm: ∀x∈kp++met,aZ m x=true:=fun x hx=>(List.mem_append.1 hx).elim (hk x) (h.has x)
 generalize hcc:kp++met=cs at*;refine cR (fun k i (s:List Int×List (Int×Bool))=>cr N ⟨m,kp,met,seen,nx⟩ cs live k (i:Int) m.Young m.Old kp s.1 s.2 nx) cs.length (fun i s=>Mt m s.1 s.2∧s.1=re (K9 N m) live met (cs.take i)) _ ?_ ?_ N 0 (met,seen) W W ⟨h,U⟩
 ·rintro k i ⟨mt,sn⟩ hi ⟨h1,h2⟩ go;simp only at h1 h2;show Sat (cr N ⟨m,kp,met,seen,nx⟩ cs live (k+1) (i:Int) m.Young m.Old kp mt sn nx) _;have hh:=hcm _ (List.getElem_mem hi);have hsm:=hs.at_ cs[i];have e1:ci N ⟨⟨m.Young,m.Old⟩,kp,mt,sn,nx⟩ cs[i]=some (be m cs[i]):=rk N hs kp mt sn nx hh;have hol:=Dz N (be m cs[i]) live;rw [cr.eq_2,cV W,ct,bf hi,bs,e1,bs,Dx N hN live W _ W W,bs]
  refine AR N hs (bS N (be m cs[i]) live) W W (fun x hx _=>hw.opens hh x hx) (iB N (cr N ⟨m,kp,met,seen,nx⟩ cs live k) ⟨m,kp,met,seen,nx⟩ cs (i:Int) (bS N (be m cs[i]) live) live) (iC N (cr N ⟨m,kp,met,seen,nx⟩ cs live k) ⟨m,kp,met,seen,nx⟩ cs (i:Int) live) (fun _ _ _ _ _ _ _ _=>by rw [iB.eq_2]) kp nx h1 _ fun sn' h5=> ?_
  unfold iC;rw [r64 W W];refine go (dv yB mt (bS N (be m cs[i]) live),sn') ⟨h5,?_⟩;show dv yB mt (bS N (be m cs[i]) live)=_;rw [bi hi,E7, ←h2];rfl
 rintro k ⟨mt,sn⟩ ⟨h1,h2⟩;simp only [List.take_length] at h1 h2;show Sat (cr N ⟨m,kp,met,seen,nx⟩ cs live (k+1) _ m.Young m.Old kp mt sn nx) _;rw [cr.eq_2,cQ W,cf];unfold lO;exact aQ ⟨sn,U,h1,h2⟩
def CX (m:SB)(roots:List SG)(kept:List Int):List Int:=bW roots++kept.flatMap fun a=>bD (be m a)
theorem DM (N:Nat)(v:SG):kG N v=some (v.N,br v):=by
 unfold kG;rw [pF,bs]
theorem KY (N:Nat)(hN:5000<N){m:SB}{roots:List SG}(hs:Small m roots)(hw:Whole m)(hr: ∀x∈bW roots,aZ m x=true)(kept:List Int)(hk: ∀x∈kept,aZ m x=true)(hkl:kept.length≤1200):
  Sat (lQ N m roots kept) fun r=> ∃seen nx b,r=⟨m,kept,r.met_,seen,nx⟩∧Mt m r.met_ seen∧IsMinor (K9 N m) (cz m.Old.length) kept (CX m roots kept) b r.met_:=by
 have hrl:=hs.roots
 -- the passes
 have passes: ∀(b:List Int) (seen:List (Int×Bool)),Mt m b seen→Thr (K9 N m) (dv yB [] (CX m roots kept)) 0 b→Sat (jJ N N m.Young m.Old kept b seen (b.length:Int)) fun r=> ∃seen nx b,r=⟨m,kept,r.met_,seen,nx⟩∧Mt m r.met_ seen∧IsMinor (K9 N m) (cz m.Old.length) kept (CX m roots kept) b r.met_:=by
  intro b seen h hb;have h0:=h.len hs;refine ou (fun f (s:List Int×List (Int×Bool))=>jJ N f m.Young m.Old kept s.1 s.2 (s.1.length:Int)) (fun s=>1300 - s.1.length) (fun s=>Mt m s.1 s.2∧ ∀r,MOrd (K9 N m) (cz m.Old.length) kept s.1 r→MOrd (K9 N m) (cz m.Old.length) kept b r) _ ?_ N (b,seen) (by show 1300 - b.length<N;omega) ⟨h,fun _ h=>h⟩;rintro f ⟨mt,sn⟩ ⟨h1,h2⟩ go;simp only at h1 h2;show Sat (jJ N (f+1) m.Young m.Old kept mt sn (mt.length:Int)) _;have hlen:=h1.len hs;obtain ⟨⟨p,x⟩,e0,sn',e1,h3,h4⟩:=IH N hN hs hw kept hk hkl (mt.length:Int) h1;simp only at e1 h3 h4;obtain ⟨e1,e2⟩:=Prod.mk.inj e1;obtain ⟨t,ht⟩:=tw (K9 N m) (cz m.Old.length++mt) mt (kept++mt);have hlen3:=h3.len hs;have e0':gC N ⟨⟨m.Young,m.Old⟩,kept,mt,sn,(mt.length:Int)⟩=some (p,x):=e0;rw [jJ.eq_2,e0',bs]
  dsimp only
  rw [e1];generalize hm':x.met_=mt' at*;subst e2
  refine dW (fun hlt=> ?_) fun hge=> ?_
  ·refine Sat.bind (xF N hN hs hw kept h3 mt.length (by rw [h4,ht,List.length_append];omega)) ?_;rintro r ⟨sn3,e3,h5,h6⟩;have hlen5:=h5.len hs;rw [e3]
   dsimp only
   refine go (r.met_,sn3) ?_ ⟨h5,fun r' hr'=>h2 r' (.step ?_ (by rw [←h4];exact h6) hr')⟩
   ·obtain ⟨t3,e4⟩:=h6.app;show 1300 - r.met_.length<1300 - mt.length
    have:mt'.length≤r.met_.length:=by rw [e4,List.length_append];omega
    omega
   rw [←h4];intro e;rw [e] at hlt;omega
  have e:mt'=mt:=by
   rw [ht] at h4;have h0:t=[]:=List.eq_nil_of_length_eq_zero (by rw [h4,List.length_append] at hge;omega);rw [h4,h0,List.append_nil]
  subst e;unfold sS;exact aQ ⟨sn',(mt'.length:Int),b,U,h3,⟨hb,h2 _ (.done h4.symm)⟩⟩
 -- the kept cells
 have keptL: ∀(row:List Int) (seen:List (Int×Bool)),Mt m row seen→row=dv yB [] (bW roots)→Sat (ew N kept N 0 m.Young m.Old kept row seen 0) fun r=> ∃seen nx b,r=⟨m,kept,r.met_,seen,nx⟩∧Mt m r.met_ seen∧IsMinor (K9 N m) (cz m.Old.length) kept (CX m roots kept) b r.met_:=by
  intro row seen h hrow;refine cR (fun k i (s:List Int×List (Int×Bool))=>ew N kept k (i:Int) m.Young m.Old kept s.1 s.2 0) kept.length (fun i s=>Mt m s.1 s.2∧s.1=dv yB [] (bW roots++(kept.take i).flatMap fun a=>bD (be m a))) _ ?_ ?_ N 0 (row,seen) W W ⟨h,by simpa using hrow⟩
  ·rintro k i ⟨mt,sn⟩ hi ⟨h1,h2⟩ go;simp only at h1 h2;show Sat (ew N kept (k+1) (i:Int) m.Young m.Old kept mt sn 0) _;have hh:=hk _ (List.getElem_mem hi);have hsm:=hs.at_ kept[i];have e1:ci N ⟨⟨m.Young,m.Old⟩,kept,mt,sn,0⟩ kept[i]=some (be m kept[i]):=rk N hs kept mt sn 0 hh;have hll:=km (be m kept[i]);rw [ew.eq_2,cV W,ct,bf hi,bs,e1,bs,nr N W _ W W,bs]
   refine AR N hs (bD (be m kept[i])) W W (fun x hx _=>hw.leads hh x hx) (pf N (ew N kept k) kept (i:Int) (bD (be m kept[i]))) (pg N (ew N kept k) kept (i:Int)) (fun _ _ _ _ _ _ _ _=>by rw [pf.eq_2]) kept 0 h1 _ fun sn' h5=> ?_
   unfold pg;rw [r64 W W];refine go (dv yB mt (bD (be m kept[i])),sn') ⟨h5,?_⟩;show dv yB mt (bD (be m kept[i]))=_;rw [bi hi,List.flatMap_append, ←SQ,rm, ←h2];simp
  rintro k ⟨mt,sn⟩ ⟨h1,h2⟩;simp only [List.take_length] at h1 h2;show Sat (ew N kept (k+1) _ m.Young m.Old kept mt sn 0) _;rw [ew.eq_2,cQ W,cf];unfold sT;refine Sat.bind (xF N hN hs hw kept h1 0 (Nat.zero_le _)) ?_;rintro r ⟨sn3,e3,h5,h6⟩;rw [e3]
  dsimp only
  exact passes r.met_ sn3 h5 (by rw [h2] at h6;exact h6)
 -- the roots
 unfold lQ;refine cR (fun k i (s:List Int×List (Int×Bool))=>gV N roots kept k (i:Int) m.Young m.Old kept s.1 s.2 0) roots.length (fun i s=>Mt m s.1 s.2∧s.1=dv yB [] (bW (roots.take i))) _ ?_ ?_ N 0 ([],[]) W W ⟨Mt.nil m,U⟩
 ·rintro k i ⟨mt,sn⟩ hi ⟨h1,h2⟩ go;simp only at h1 h2;show Sat (gV N roots kept (k+1) (i:Int) m.Young m.Old kept mt sn 0) _
  have hnext:dv yB [] (bW (roots.take (i+1)))=dv yB mt (bW [roots[i]]):=by
   rw [bi hi,xa,rm, ←h2]
  rw [gV.eq_2,cV W,ct,bf hi,bs,DM,bs]
  dsimp only
  unfold ph;cases hb:br roots[i]
  ·rw [cf,r64 W W];refine go (mt,sn) ⟨h1,?_⟩;show mt=_;rw [hnext];simp [bW,hb,dv]
  rw [ct];have hroot:aZ m roots[i].N=true:=hr _ (eo.2 ⟨_,List.getElem_mem _,hb,rfl⟩)
  obtain ⟨sn',e1,e2⟩:=Fg N hs kept 0 h1 roots[i].N fun _=>hroot
  have e1':cG N ⟨⟨m.Young,m.Old⟩,kept,mt,sn,0⟩ roots[i].N=_:=e1;rw [e1',bs]
  dsimp only
  rw [r64 W W];refine go (dv yB mt [roots[i].N],sn') ⟨e2,?_⟩;show dv yB mt [roots[i].N]=_;rw [hnext];simp [bW,hb]
 rintro k ⟨mt,sn⟩ ⟨h1,h2⟩;simp only [List.take_length] at h1 h2;show Sat (gV N roots kept (k+1) _ m.Young m.Old kept mt sn 0) _;rw [gV.eq_2,cQ W,cf];unfold uh;exact keptL mt sn h1 h2
def se (m:SB)(kept:List Int):Bool:=(List.range m.Old.length).all fun i=> !(cy (be m (2*(i:Int)+2))).any yB||decide ((2*(i:Int)+2)∈kept)
def rn (m:SB)(kept:List Int):Bool:=kept.all (fun a=> !yB a&&aZ m a)&&decide (kept.Pairwise (· < ·))
def Ax (N:Nat)(m:SB):Bool:=(m.Young++m.Old).all (zN N m)
def DJ (N:Nat)(m:SB)(roots:List SG)(kept:List Int):Bool:=dz m (bW roots)&&Ax N m&&rn m kept&&se m kept
theorem BG (N:Nat)(hN:2000<N)(c:SD)(hS:c.Slots.length≤600)(hM:c.More.length≤600):i5 N c=some (cy c):=by
 have h1:=km c;have h2:=nw c;unfold i5;rw [nr N hN c W W,bs,rT N hN c W W,bs,rF W];rfl
theorem Ai (N:Nat)(f:Int→Option Bool)(p:Int→Bool)(l:List Int)(hl:l.length<N)(hl2:l.length≤5000)(hf: ∀x∈l,f x=some (p x)):bO N l f=some (l.any p):=by
 have key: ∀k i:Nat,l.length<k+i→i≤l.length→Sat (dQ N f l k (i:Int)) fun r=>decide (0≤r)=(l.drop i).any p:=by
  intro k
  induction k with
  |zero=>intro i h1 h2;omega
  | succ k ih=>
   intro i h1 h2;rw [dQ.eq_2];by_cases hi:i<l.length
   ·have h3:=ih (i+1) W hi;rw [show (((i+1:Nat)):Int)=(i:Int)+1 by omega] at h3;rw [cV W,ct,bf hi,bs,List.drop_eq_getElem_cons hi,List.any_cons,hf _ (List.getElem_mem _),bs,r64 W W];cases p l[i]
    ·exact h3
    exact aQ (by rw [SN W];rfl)
   rw [cQ W,cf,List.drop_eq_nil_of_le W];exact aQ U
 obtain ⟨r,h1,h2⟩:=key N 0 W W;have h1':dQ N f l N 0=some r:=h1;unfold bO ka;rw [h1',bs,h2];rfl
theorem Kd (N:Nat)(f:SG→Option Bool)(p:SG→Bool)(l:List SG)(hl:l.length<N)(hl2:l.length≤5000)(hf: ∀x∈l,f x=some (p x)):cW N l f=some (l.any p):=by
 have key: ∀k i:Nat,l.length<k+i→i≤l.length→Sat (dO N f l k (i:Int)) fun r=>decide (0≤r)=(l.drop i).any p:=by
  intro k
  induction k with
  |zero=>intro i h1 h2;omega
  | succ k ih=>
   intro i h1 h2;rw [dO.eq_2];by_cases hi:i<l.length
   ·have h3:=ih (i+1) W hi;rw [show (((i+1:Nat)):Int)=(i:Int)+1 by omega] at h3;rw [cV W,ct,bf hi,bs,List.drop_eq_getElem_cons hi,List.any_cons,hf _ (List.getElem_mem _),bs,r64 W W];cases p l[i]
    ·exact h3
    exact aQ (by rw [SN W];rfl)
   rw [cQ W,cf,List.drop_eq_nil_of_le W];exact aQ U
 obtain ⟨r,h1,h2⟩:=key N 0 W W;have h1':dO N f l N 0=some r:=h1;unfold cW jj;rw [h1',bs,h2];rfl
theorem CF {α:Type}(p:α→Bool): ∀l:List α,l.any (fun x=> !p x)=!l.all p
 | []=>rfl
 |x::l=>by rw [List.any_cons,List.all_cons,CF p l];cases p x<;>rfl
theorem z8 (N:Nat)(a b:List SD)(ha:a.length≤100000)(hb:b.length≤100000):fU N a b=some (a++b):=by
 unfold fU kY lA iz kf;rw [r64 W W,cQ (a:=0+(a.length:Int)) W,cf,r64 W W,cQ (a:=0+(a.length:Int)+(b.length:Int)) W,cf,r64 W W,r64 W W,cf];by_cases h:0<a.length+b.length
 ·rw [cV W,ct,kD ⟨by omega,by omega⟩,bs,rF (by simp;omega),rF (by simp;omega)];rfl
 rw [cQ W,cf,bs,rF (by simp;omega),rF (by simp;omega)];rfl
theorem Ii (N:Nat)(hN:5000<N){m:SB}{roots:List SG}(hs:Small m roots)(hw:W64 m):pc N m=some (Ax N m):=by
 have h1:=hs.young;have h2:=hs.old;unfold pc Ax;rw [z8 N _ _ W W,bs]
 have hl:(m.Young++m.Old).length≤1200:=by rw [List.length_append];omega
 refine zv (fun k i=>ob N (m.Young++m.Old) m k i) (m.Young++m.Old) _ (fun k i h=> ?_) (fun k=> ?_) N W
 ·have hm:(m.Young++m.Old)[i]∈m.Young++m.Old:=List.getElem_mem _;have hc:=hs.cells _ hm;obtain ⟨⟨a1,a2⟩,a3,a4⟩:=Ar hs hw hm;rw [ob.eq_2,cV W,ct,bf h,bs];generalize (m.Young++m.Old)[i]=c at*;obtain ⟨b,hb, -⟩:=ti N W c W W
  rw [vh N W _ W W,hb,bs,BG N W c hc.1 hc.2,bs,Ai N _ (fun x=> !aZ m x) (cy c) (by unfold cy;rw [List.length_append];omega) (by unfold cy;rw [List.length_append];omega) (fun x hx=>by
   unfold oU
   rw [tK N m x ((List.mem_append.1 hx).elim (a2 x) (a4 x)),bs]),CF]
  unfold zN;rw [hb,r64 W W]
  have e:(cy c).all (aZ m)=(dz m (bD c)&&dz m (lf c)):=by unfold cy dz;rw [List.all_append]
  rw [e];cases b<;>cases dz m (bD c)&&dz m (lf c)<;>rfl
 rw [ob.eq_2,cQ W,cf];rfl
theorem Mc (l:List Int):decide (l.Pairwise (· < ·))=(List.range l.length).all fun i=>decide (i=0)||decide (l.getD (i - 1) 0<l.getD i 0):=by
 rw [Bool.eq_iff_iff,decide_eq_true_eq,List.all_eq_true];constructor
 ·intro h i hi;rw [List.mem_range] at hi;by_cases h0:i=0
  ·rw [SN h0];rfl
  have:=List.pairwise_iff_getElem.1 h (i - 1) i W hi W;rw [SN (p:=l.getD (i - 1) 0<l.getD i 0) (by simpa [List.getD,hi,show i - 1<l.length by omega] using this),Bool.or_true]
 intro h
 refine List.pairwise_iff_getElem.2 fun i j hi hj hij=> ?_
 have step: ∀k,i+k+1<l.length→l[i]'hi<l.getD (i+k+1) 0:=by
  intro k
  induction k with
  |zero=>
   intro hk;have:=h (i+1) (List.mem_range.2 hk);rw [SO (p:=i+1=0) W,Bool.false_or,decide_eq_true_eq,Nat.add_sub_cancel] at this;simpa [List.getD,hi] using this
  |succ k ih=>
   intro hk;have h1:=ih W;have:=h (i+k+1+1) (List.mem_range.2 W);rw [SO (p:=i+k+1+1=0) W,Bool.false_or,decide_eq_true_eq,Nat.add_sub_cancel] at this;show l[i]'hi<l.getD (i+k+1+1) 0;omega
 have:=step (j - i - 1) W;rw [show i+(j - i - 1)+1=j by omega] at this;simpa [List.getD,hj] using this
theorem Fh (N:Nat)(hN:5000<N){m:SB}{roots:List SG}(hs:Small m roots)(hw:W64 m)(hr: ∀v∈roots,in64 v.N)(kept:List Int)(hk:kept.length≤5000)(k64: ∀x∈kept,in64 x):nG N m roots kept=some (DJ N m roots kept):=by
 have h3:=hs.roots;have ho:=hs.old
 -- the old cells
 have olds:kR N kept m=some (se m kept):=by
  unfold kR se;have hlr:(List.range m.Old.length).length=m.Old.length:=List.length_range;refine zv (fun k i=>pe N m kept k i) (List.range m.Old.length) _ (fun k i h=> ?_) (fun k=> ?_) N W
  ·rw [hlr] at h;have hm:m.Old[i]∈m.Young++m.Old:=SS _ (List.getElem_mem _);have hc:=hs.cells _ hm;obtain ⟨⟨a1,a2⟩,a3,a4⟩:=Ar hs hw hm;rw [pe.eq_2,cV W,ct,bf h,bs,BG N W _ hc.1 hc.2,bs,Ai N _ yB (cy m.Old[i]) (by unfold cy;rw [List.length_append];omega) (by unfold cy;rw [List.length_append];omega) (fun x _=>qI N x),bs,r64 (a:=2*(i:Int)) W W,r64 (a:=2*(i:Int)+2) W W,pi N hN kept hk,bs,r64 W W,List.getElem_range,pM m i h];cases (cy m.Old[i]).any yB<;>cases decide ((2*(i:Int)+2)∈kept)<;>rfl
  rw [hlr,pe.eq_2,cQ W,cf];rfl
 -- the kept addresses
 have hkept:mV N kept m N 0=bif rn m kept then kR N kept m else some false:=by
  have hlr:(List.range kept.length).length=kept.length:=List.length_range;have:=wK (fun k i=>mV N kept m k i) (List.range kept.length) (fun i=>(!yB (kept.getD i 0)&&aZ m (kept.getD i 0))&&(decide (i=0)||decide (kept.getD (i - 1) 0<kept.getD i 0))) (some false) (kR N kept m) (fun k i h=> ?_) (fun k=> ?_) N W
  ·rw [this]
   have e:((List.range kept.length).all fun i=>(!yB (kept.getD i 0)&&aZ m (kept.getD i 0))&&(decide (i=0)||decide (kept.getD (i - 1) 0<kept.getD i 0)))=rn m kept:=by
    unfold rn;rw [Mc]
    have e2:kept.all (fun a=> !yB a&&aZ m a)=(List.range kept.length).all fun i=> !yB (kept.getD i 0)&&aZ m (kept.getD i 0):=by
     rw [Bool.eq_iff_iff,List.all_eq_true,List.all_eq_true];constructor
     ·intro h i hi;rw [List.mem_range] at hi
      have:kept.getD i 0=kept[i]:=by simp [List.getD,hi]
      rw [this];exact h _ (List.getElem_mem _)
     intro h x hx;obtain ⟨i,hi,rfl⟩:=List.getElem_of_mem hx;have:=h i (List.mem_range.2 hi)
     rwa [show kept.getD i 0=kept[i] by simp [List.getD,hi]] at this
    rw [e2]
    induction List.range kept.length with
    |nil=>rfl
    |cons a l ih=>rw [List.all_cons,List.all_cons,List.all_cons,ih];cases (!yB (kept.getD a 0)&&aZ m (kept.getD a 0))<;>cases (decide (a=0)||decide (kept.getD (a - 1) 0<kept.getD a 0))<;>simp
   rw [e]
  ·rw [hlr] at h
   have hg:kept.getD i 0=kept[i]:=by simp [List.getD,h]
   rw [mV.eq_2,cV W,ct,bf h,bs,qI,bs,tK N m _ (k64 _ (List.getElem_mem _)),r64 (a:=(i:Int)+1) W W,List.getElem_range,hg];by_cases h0:i=0
   ·subst h0;rw [cQ (a:=0) (b:=((0:Nat):Int)) W];cases yB kept[0]<;>cases aZ m kept[0]<;>rfl
   have hp:aM kept ((i:Int) - 1)=some (kept.getD (i - 1) 0):=by
    have:=bf (xs:=kept) (i:=i - 1) W;rw [show (((i - 1:Nat)):Int)=(i:Int) - 1 by omega] at this;rw [this];simp [List.getD,show i - 1<kept.length by omega]
   rw [cV (a:=0) (b:=(i:Int)) W,ct,r64 (a:=(i:Int) - 1) W W,hp,SO h0];simp only [bs];by_cases hlt:kept.getD (i - 1) 0<kept[i]
   ·rw [MB hlt,SN hlt];cases yB kept[i]<;>cases aZ m kept[i]<;>rfl
   rw [MA W,SO hlt];cases yB kept[i]<;>cases aZ m kept[i]<;>rfl
  rw [hlr,mV.eq_2,cQ W,cf]
 have hroots:cW N roots (fun x=>oe N x m)=some (!dz m (bW roots)):=by
  rw [Kd N _ (fun v=> !(!br v||aZ m v.N)) roots W W (fun v hv=>by
   unfold oe;rw [DM,bs]
   dsimp only
   rw [tK N m _ (hr v hv),bs]
   cases br v<;>cases aZ m v.N<;>rfl),CF]
  unfold dz bW;rw [all_map,Em]
 unfold nG DJ;rw [hroots,bs,Ii N hN hs hw,bs,hkept,olds];cases dz m (bW roots)<;>cases Ax N m<;>cases rn m kept<;>rfl
def Rb (c:SD):SD:=⟨c.Kind,c.Shape,c.Flags,c.Age,c.Slots.take 20,c.More.take 40⟩
def QK (l:List SD):List SD:=(l.take 40).map Rb
def RF (m:SB):SB:=⟨QK m.Young,QK m.Old⟩
structure Few20 (m:SB) (roots:List SG):Prop where
 young:m.Young.length≤40
 old:m.Old.length≤40
 roots:roots.length≤40
 cells: ∀c∈m.Young++m.Old,c.Slots.length≤20∧c.More.length≤40
def DY (N:Nat)(m:SB)(roots:List SG):Bool:=dz m (bW roots)&&Ax N m
def lm (m:SB)(i:Nat):Bool:=(cy (be m (2*(i:Int)+2))).any yB
def lS (m:SB):List Int:=((List.range m.Old.length).filter (lm m)).map fun i:Nat=>2*(i:Int)+2
theorem qG {m:SB}{x:Int}:x∈lS m↔ ∃i:Nat,i<m.Old.length∧lm m i=true∧x=2*(i:Int)+2:=by
 unfold lS;simp only [List.mem_map,List.mem_filter,List.mem_range];constructor
 ·rintro ⟨i,⟨h1,h2⟩,rfl⟩;exact ⟨i,h1,h2,U⟩
 rintro ⟨i,h1,h2,rfl⟩;exact ⟨i,⟨h1,h2⟩,U⟩
theorem K5 {m:SB}{x:Int}(h:x∈lS m):aZ m x=true∧yB x=false:=by
 obtain ⟨i,h1, -,rfl⟩:=qG.1 h;exact ⟨by rw [qb];exact SN h1,Cn i⟩
theorem HC (m:SB):rn m (lS m)=true:=by
 unfold rn;rw [Bool.and_eq_true,decide_eq_true_eq,List.all_eq_true];refine ⟨fun x hx=> ?_,?_⟩
 ·obtain ⟨h1,h2⟩:=K5 hx;rw [h1,h2];rfl
 unfold lS;refine List.Pairwise.map _ (fun a b (h:a<b)=> ?_) ((List.pairwise_lt_range).filter _);omega
theorem Jq (m:SB):se m (lS m)=true:=by
 unfold se;rw [List.all_eq_true];intro i hi;rw [List.mem_range] at hi;cases h:(cy (be m (2*(i:Int)+2))).any yB
 ·rfl
 have:(2*(i:Int)+2)∈lS m:=qG.2 ⟨i,hi,h,rfl⟩;rw [SN this];rfl
theorem KX (N:Nat)(m:SB)(roots:List SG):DJ N m roots (lS m)=DY N m roots:=by
 unfold DJ DY;rw [HC,Jq,Bool.and_true,Bool.and_true]
theorem gq {n:Nat}{x:Int}:x∈cz n↔ ∃i:Nat,i<n∧x=2*(i:Int)+2:=by
 unfold cz;simp only [List.mem_map,List.mem_range];constructor
 ·rintro ⟨i,h,rfl⟩;exact ⟨i,h,U⟩
 rintro ⟨i,h,rfl⟩;exact ⟨i,h,U⟩
def Q7 (n:Nat):List SG:=(List.range n).map fun i:Nat=>(⟨9,2*(i:Int)+2,⟨#[]⟩⟩:SG)
theorem HE {m:SB}{a:Int}(h:aZ m a=true)(hy:yB a=false): ∃i:Nat,i<m.Old.length∧a=2*(i:Int)+2:=by
 rcases gp h with ⟨i,hi,rfl⟩|h
 ·rw [Id] at hy;cases hy
 exact h
theorem IA {N:Nat}{c:SD}{l:List Int}{x:Int}(h:x∈bS N c l):x∈cy c:=by
 unfold bS at h
 cases hw:ko N c with
 |false=>rw [hw] at h;cases h
 |true=>
  rw [hw] at h;obtain ⟨v,hv,hb,rfl⟩:=oS h;exact qx (SS _ hv) hb
theorem zM {N:Nat}{m:SB}{roots:List SG}(h:DY N m roots=true):Whole m∧(∀x∈bW roots,aZ m x=true)∧ ∀c∈m.Young++m.Old,zN N m c=true:=by
 unfold DY at h;rw [Bool.and_eq_true] at h
 have h2: ∀c∈m.Young++m.Old,zN N m c=true:=fun c hc=>po h.2 hc
 refine ⟨fun a ha x hx=> ?_,fun x hx=>po h.1 hx,h2⟩
 have h3:=h2 (be m a) (by
  unfold aZ at ha;unfold be
  cases hc:fK m a with
  |none=>rw [hc] at ha;cases ha
  |some c=>exact rJ hc)
 unfold zN at h3;rw [Bool.and_eq_true,Bool.and_eq_true] at h3;rcases List.mem_append.1 hx with hx|hx
 ·exact po h3.2.1 hx
 exact po h3.2.2 hx
def yI (met to:List Int)(a:Int):Int:=if a∈met then to.getD (met.idxOf a) 0 else a
theorem Jb {α:Type}{g:α→α}{l:List α}{i:Nat}(h:i<l.length):aM ((l.take i).map g++l.drop i) (i:Int)=some l[i]:=by
 have h1:i<((l.take i).map g++l.drop i).length:=by simp;omega
 rw [bf h1]
 congr 1
 rw [List.getElem_append_right (by simp;omega)];simp [Nat.min_eq_left (Nat.le_of_lt h)]
theorem Ja {α:Type}{g:α→α}{l:List α}{i:Nat}(h:i<l.length):((l.take i).map g++l.drop i).set i (g l[i])=(l.take (i+1)).map g++l.drop (i+1):=by
 rw [bi h,List.drop_eq_getElem_cons h,List.map_append];rw [List.set_append,if_neg (by simp;omega)];simp [Nat.min_eq_left (Nat.le_of_lt h)];rw [List.drop_eq_getElem_cons h];rfl
theorem yz {α:Type}{g:α→α}{l:List α}{i:Nat}(h:i<l.length)(he:g l[i]=l[i]):(l.take i).map g++l.drop i=(l.take (i+1)).map g++l.drop (i+1):=by
 rw [bi h,List.drop_eq_getElem_cons h,List.map_append];simp [he]
def Qu (kv:List (Int×Int))(met to:List Int)(i:Nat):Prop:= ∀x,lk kv x=if x∈met.take i then some (yI met to x) else none
theorem AP {l:List Int}(hn:l.Nodup){i:Nat}(h:i<l.length):l.idxOf l[i]=i:=by
 have hm:l[i]∈l:=List.getElem_mem _;rcases Nat.lt_trichotomy (l.idxOf l[i]) i with h2|h2|h2
 ·exact absurd (lr hm) (List.pairwise_iff_getElem.1 (List.nodup_iff_pairwise_ne.1 hn) _ _ (oX hm) h h2)
 ·exact h2
 exact absurd (lr hm).symm (List.pairwise_iff_getElem.1 (List.nodup_iff_pairwise_ne.1 hn) _ _ h (oX hm) h2)
theorem DD {l:List Int}(hn:l.Nodup){i:Nat}(h:i<l.length):l[i]∉l.take i:=fun hm=>by
 obtain ⟨j,hj,e⟩:=List.getElem_of_mem hm;rw [List.length_take] at hj;rw [List.getElem_take] at e;exact absurd e (List.pairwise_iff_getElem.1 (List.nodup_iff_pairwise_ne.1 hn) _ _ W h W)
theorem BN (N:Nat)(hN:5000<N)(c:SD)(hS:c.Slots.length≤4000)(hM:c.More.length≤4000)(met to:List Int)(hn:met.Nodup)(hl:to.length=met.length)(hml:met.length≤1200):fS N c met to=some (gl (yI met to) met c):=by
 apply Sat.eq
 have mv: ∀(kv:List (Int×Int)),Qu kv met to met.length→ ∀v:SG,(lk kv v.N).isSome=decide (v.N∈met)∧(v.N∈met→br v=true→(⟨v.Kind,(lk kv v.N).getD 0,v.S⟩:SG)=bu (yI met to) met v):=fun kv hk v=>by
  rw [hk v.N,List.take_length];by_cases h:v.N∈met
  ·rw [if_pos h,SN h];refine ⟨U,fun _ hb=> ?_⟩;rw [kk hb h];rfl
  rw [if_neg h,SO h];exact ⟨U,fun h2=>absurd h2 h⟩
 have keep: ∀v:SG,(v.N∉met∨br v=false)→bu (yI met to) met v=v:=fun v h=>by
  unfold bu;rcases h with h|h
  ·rw [SO h,Bool.and_false];rfl
  rw [h];rfl
 have copy:ed N c=some c:=by
  unfold ed df;rw [rF (by simp only [List.length_nil];omega),rF (by simp only [List.length_nil];omega)];rfl
 have body: ∀kv:List (Int×Int),Qu kv met to met.length→Sat (pk N c kv) fun r=>r=gl (yI met to) met c:=by
  intro kv hk;unfold pk;rw [copy,bs];refine cR (fun k i (s:List SG)=>gk N c kv k s (i:Int)) c.Slots.length (fun i s=>s=(c.Slots.take i).map (bu (yI met to) met)++c.Slots.drop i) _ ?_ ?_ N 0 c.Slots W W (by simp)
  ·rintro k i s hi rfl go;show Sat (gk N c kv (k+1) _ (i:Int)) _;obtain ⟨e1,e2⟩:=mv kv hk c.Slots[i];rw [gk.eq_2,cV W,ct,Jb hi,bs,e1,qd];simp only [bs];unfold oF;rw [r64 W W,r64 W W];by_cases hm:c.Slots[i].N∈met
   ·rw [SN hm,ct,bs];cases hb:br c.Slots[i]
    ·rw [cf];exact go _ (yz hi (keep _ (.inr hb)))
    rw [ct,e2 hm hb,Int.toNat_natCast];exact go _ (Ja hi)
   rw [SO hm,cf,bs,cf];exact go _ (yz hi (keep _ (.inl hm)))
  rintro k s rfl;show Sat (gk N c kv (k+1) _ _) _;rw [gk.eq_2,cQ W,cf,List.take_length,List.drop_length,List.append_nil];unfold rH;refine cR (fun k i (s:List SG)=>gj N c kv _ k s (i:Int)) c.More.length (fun i s=>s=(c.More.take i).map (bu (yI met to) met)++c.More.drop i) _ ?_ ?_ N 0 c.More W W (by simp)
  ·rintro k i s hi rfl go;show Sat (gj N c kv _ (k+1) _ (i:Int)) _;obtain ⟨e1,e2⟩:=mv kv hk c.More[i];rw [gj.eq_2,cV W,ct,Jb hi,bs,e1,qd];simp only [bs];unfold oE;rw [r64 W W,r64 W W];by_cases hm:c.More[i].N∈met
   ·rw [SN hm,ct,bs];cases hb:br c.More[i]
    ·rw [cf];exact go _ (yz hi (keep _ (.inr hb)))
    rw [ct,e2 hm hb,Int.toNat_natCast];exact go _ (Ja hi)
   rw [SO hm,cf,bs,cf];exact go _ (yz hi (keep _ (.inl hm)))
  rintro k s rfl;show Sat (gj N c kv _ (k+1) _ _) _;rw [gj.eq_2,cQ W,cf,List.take_length,List.drop_length,List.append_nil];unfold rG rI;exact aQ U
 unfold fS;refine cR (fun k i (s:List (Int×Int))=>fv N met to c k s (i:Int)) met.length (fun i s=>Qu s met to i) _ ?_ ?_ N 0 [] W W (fun x=>U)
 ·rintro k i s hi h1 go;show Sat (fv N met to c (k+1) _ (i:Int)) _
  have hno:lk s met[i]=none:=by rw [h1,if_neg (DD hn hi)]
  have hto:i<to.length:=by omega
  rw [fv.eq_2,cV W,ct,bf hi,bs,hno,Option.isSome_none,cf,cV W,ct,bf hto,bs];unfold lZ;rw [r64 W W]
  refine go _ fun x=> ?_
  rw [Hy,Hy,h1 x,bi hi];by_cases e:met[i]=x
  ·subst e;rw [if_pos rfl,if_pos (SS _ (List.mem_singleton.2 rfl))];unfold yI;rw [if_pos (List.getElem_mem _),AP hn hi];simp [List.getD,hto]
  rw [if_neg e,if_neg e];by_cases hx:x∈met.take i
  ·rw [if_pos hx,if_pos (SR _ hx)]
  rw [if_neg hx,if_neg fun h2=>(List.mem_append.1 h2).elim hx fun h2=>e (List.mem_singleton.1 h2).symm]
 rintro k s h1;show Sat (fv N met to c (k+1) _ _) _;rw [fv.eq_2,cQ W,cf];exact body s h1
theorem BE (N:Nat)(hN:5000<N)(l:List SG)(hl2:l.length≤4000)(met to:List Int)(hn:met.Nodup)(hl:to.length=met.length)(hml:met.length≤1200):jl N l met to=some (l.map (bu (yI met to) met)):=by
 unfold jl;rw [BN N hN _ (by simp) hl2 met to hn hl hml,bs];rfl
def fL (m:SB)(a:Int):Bool:=decide ((be m a).Age=0)
def rc (p:Int→Bool):List Int→Nat→Nat→List Int
 | [],_,_=> []
 |a::l,s,o=>bif p a then (2*(s:Int)+1)::rc p l (s+1) o else (2*(o:Int)+2)::rc p l s (o+1)
theorem E3 (p:Int→Bool)(a:Int)(l:List Int)(s o:Nat):rc p (a::l) s o=bif p a then (2*(s:Int)+1)::rc p l (s+1) o else (2*(o:Int)+2)::rc p l s (o+1):=rfl
theorem zf (p:Int→Bool): ∀(l:List Int) (s o:Nat),(rc p l s o).length=l.length
 | [],_,_=>rfl
 |a::l,s,o=>by unfold rc;cases p a<;>simp [zf p l]
theorem zg (p:Int→Bool): ∀(l l':List Int) (s o:Nat),rc p (l++l') s o=rc p l s o++rc p l' (s+(l.filter p).length) (o+(l.filter fun a=> !p a).length)
 | [],_,_,_=>by simp [rc]
 | a::l,l',s,o=>by
  rw [List.cons_append,E3,E3];cases h:p a
  ·simp only [cond_false];rw [zg p l l'];simp only [List.filter_cons,h,Bool.not_false,if_true,Bool.false_eq_true,if_false,List.length_cons,List.cons_append];rw [Nat.add_right_comm o 1];rfl
  simp only [cond_true];rw [zg p l l'];simp only [List.filter_cons,h,Bool.not_true,if_true,Bool.false_eq_true,if_false,List.length_cons,List.cons_append];rw [Nat.add_right_comm s 1];rfl
theorem Dt (p:Int→Bool){l:List Int}{i:Nat}(h:i<l.length)(s o:Nat):(rc p l s o).getD i 0=bif p l[i] then 2*((s+((l.take i).filter p).length:Nat):Int)+1 else 2*((o+((l.take i).filter fun a=> !p a).length:Nat):Int)+2:=by
 have e:l=l.take i++(l[i]::l.drop (i+1)):=by rw [←List.drop_eq_getElem_cons h,List.take_append_drop]
 have e2:rc p l s o=rc p (l.take i) s o++rc p (l[i]::l.drop (i+1)) (s+((l.take i).filter p).length) (o+((l.take i).filter fun a=> !p a).length):=by
  rw [←zg, ←e]
 rw [e2]
 have hl:(rc p (l.take i) s o).length=i:=by rw [zf,List.length_take];omega
 unfold List.getD;rw [List.getElem?_append_right W,hl,Nat.sub_self];unfold rc;cases p l[i]<;>rfl
theorem Gg (N:Nat)(hN:5000<N){m:SB}{roots:List SG}(hs:Small m roots)(kp:List Int){met:List Int}{seen:List (Int×Bool)}(nx:Int)(h:Mt m met seen):fG N ⟨m,kp,met,seen,nx⟩=some (rc (fL m) met 0 m.Old.length):=by
 have hml:=h.len hs;have ho:=hs.old;apply Sat.eq;unfold fG;refine cR (fun k i (s:List Int×Nat×Nat)=>cO N ⟨m,kp,met,seen,nx⟩ k s.1 (s.2.1:Int) (s.2.2:Int) (i:Int)) met.length (fun i s=>s.1=rc (fL m) (met.take i) 0 m.Old.length∧s.2.1=((met.take i).filter (fL m)).length∧s.2.2=m.Old.length+((met.take i).filter fun a=> !fL m a).length) _ ?_ ?_ N 0 ([],0,m.Old.length) (by show met.length<N+0;omega) W ⟨U,U,U⟩
 ·rintro k i ⟨s,a,b⟩ hi ⟨h1,h2,h3⟩ go;simp only at h1 h2 h3;have l1:((met.take i).filter (fL m)).length≤i:=Nat.le_trans (List.length_filter_le _ _) (by rw [List.length_take];omega);have l2:((met.take i).filter fun a=> !fL m a).length≤i:=Nat.le_trans (List.length_filter_le _ _) (by rw [List.length_take];omega)
  have hsl:s.length=i:=by rw [h1,zf,List.length_take];omega
  show Sat (cO N ⟨m,kp,met,seen,nx⟩ (k+1) s (a:Int) (b:Int) (i:Int)) _
  have hnext:rc (fL m) (met.take (i+1)) 0 m.Old.length=s++ [bif fL m met[i] then 2*(a:Int)+1 else 2*(b:Int)+2]:=by
   rw [bi hi,zg, ←h1,Nat.zero_add, ←h2, ←h3];unfold rc;cases fL m met[i]<;>rfl
  have hf1:((met.take (i+1)).filter (fL m)).length=a+(bif fL m met[i] then 1 else 0):=by
   rw [bi hi,List.filter_append,List.length_append, ←h2];cases hb:fL m met[i]<;>simp [hb]
  have hf2:((met.take (i+1)).filter fun a=> !fL m a).length+m.Old.length=b+(bif fL m met[i] then 0 else 1):=by
   rw [bi hi,List.filter_append,List.length_append,h3];cases hb:fL m met[i]<;>simp [hb]<;>omega
  have hcell:=rk N hs kp met seen nx (h.has _ (List.getElem_mem hi));rw [cO.eq_2]
  dsimp only
  rw [cV W,ct,bf hi,bs,hcell,bs];unfold gn;have e:decide ((be m met[i]).Age=0)=fL m met[i]:=rfl;rw [e,r64 W W,r64 W W,rF (by simp;omega),r64 W W,r64 W W,r64 W W,r64 W W,rF (by simp;omega),r64 W W,r64 W W];cases hb:fL m met[i]
  ·rw [hb] at hnext hf1 hf2;rw [cf];exact go (s++ [2*(b:Int)+2],a,b+1) ⟨hnext.symm,hf1.symm,by show b+1=_;simp only [cond_false] at hf2;omega⟩
  rw [hb] at hnext hf1 hf2;rw [ct];exact go (s++ [2*(a:Int)+1],a+1,b) ⟨hnext.symm,hf1.symm,by show b=_;simp only [cond_true] at hf2;omega⟩
 rintro k ⟨s,a,b⟩ ⟨h1,h2,h3⟩;simp only [List.take_length] at h1 h2 h3;show Sat (cO N ⟨m,kp,met,seen,nx⟩ (k+1) s (a:Int) (b:Int) _) _;rw [cO.eq_2]
 dsimp only
 rw [cQ W,cf];exact aQ h1
theorem yl {lv:List Int}: ∀{l:List SG},jt l=true→dh lv l→cleanL (fun x=>decide (x∈lv)) l=l
 | [],_,_=>rfl
 | [_],h,_=>by cases h
 |k::v::r,h,ha=>by
  rw [ft] at h;simp only [Bool.and_eq_true,decide_eq_true_eq] at h;have hk:k.N∈lv:=ha k (by simp) (by unfold br;rw [h.1.1];rfl);rw [eT,SN hk,cond_true,yl h.2 fun w hw=>ha w (by simp [hw])];rfl
theorem HB {lv:List Int}(cb:SG): ∀{l:List SG},mF l=true→dh lv l→eP lv l=l∧jE lv cb l=[]
 | [],_,_=>⟨rfl,rfl⟩
 | [_],h,_=>by cases h
 | [_,_],h,_=>by cases h
 | [_,_,_],h,_=>by cases h
 | t::a::k::s::r,h,ha=>by
  rw [nv] at h;simp only [Bool.and_eq_true,decide_eq_true_eq] at h;obtain ⟨⟨⟨h1, -⟩,h3,h4⟩,h5⟩:=h
  obtain ⟨i1,i2⟩:=HB cb h5 fun w hw=>ha w (by simp [hw])
  have ht:t.N∈lv:=ha t (by simp) (by unfold br;rw [h1];rfl)
  have hk:(decide (k.Kind=7)&& !decide (k.N∈lv))=false:=by
   by_cases hk7:k.Kind=7
   ·rw [SN (ha k (by simp) (by unfold br;rw [hk7];rfl)),Bool.not_true,Bool.and_false]
   rw [SO hk7,Bool.false_and]
  rw [ui,CU,i1,i2,SN ht,hk];exact ⟨U,U⟩
theorem CellOk.id {N:Nat}{lv f:List Int}{c:SD}(h:CellOk N lv f c)(ha: ∀x∈cy c,x∈lv):ju N lv c=c∧gz lv c=[]:=by
 have hin:dh lv c.More:=fun v hv hb=>ha _ (qx (SS _ hv) hb)
 by_cases h8:c.Kind=8
 ·rw [h.clC8 h8,yl (h.ent2 h8) hin];exact ⟨U,by unfold gz;rw [SO W];rfl⟩
 by_cases h10:c.Kind=10
 ·obtain ⟨-, -,h4⟩:=h.ent4 h10
  obtain ⟨i1,i2⟩:=HB (lv:=lv) (c.More.headD ld) h4 fun v hv=>hin v (List.mem_of_mem_drop hv)
  rw [CellOk.clC10 h10,i1,List.take_append_drop];refine ⟨U,?_⟩;unfold gz wj;rw [SN h10];exact i2
 exact ⟨CellOk.clC0 h8 h10,by unfold gz;rw [SO h10];rfl⟩
theorem BF (N:Nat)(hN:5000<N){lv f:List Int}{c:SD}(h:CellOk N lv f c)(hl:lv.length≤5000)(gone:List SG)(hg:gone.length≤10000):jm N c lv gone=some (ju N lv c,gone++gz lv c):=by
 have hlen:=(pj N lv c).2;have hm:=h.more;unfold jm;by_cases h8:c.Kind=8
 ·rw [SN h8,ct,D7 N hN lv hl c h.slots h.more,h.wm,bs];unfold ju gz;rw [SN h8,SO (p:=c.Kind=10) W,cond_true,cond_true,cond_false,List.append_nil]
 rw [SO h8,cf];by_cases h10:c.Kind=10
 ·have e1:ju N lv c=(wj lv c).1:=by unfold ju;rw [SO h8,SN h10];rfl
  have e2:gz lv c=(wj lv c).2:=by unfold gz;rw [SN h10];rfl
  rw [SN h10,ct,xJ N hN lv hl c h.slots h.more,h.fr,SN h10,cond_true,bs, ←e1, ←e2,rF W]
 rw [SO h10,cf,CellOk.clC0 h8 h10];unfold gz;rw [SO h10,cond_false,List.append_nil]
structure MinCtx (N:Nat) (m:SB) (roots:List SG) (kept met:List Int):Prop where
 big:5000<N
 small:Small m roots
 w64:W64 m
 r64: ∀v∈roots,in64 v.N
 tot:cL (fun a=>(be m a).More.length) (Ak m)≤3600
 klen:kept.length≤1200
 may:DJ N m roots kept=true
 prog: ∃seen nx,lQ N m roots kept=some ⟨m,kept,met,seen,nx⟩∧Mt m met seen
 isM: ∃b,IsMinor (K9 N m) (cz m.Old.length) kept (CX m roots kept) b met
theorem AS {N:Nat}{m:SB}{roots:List SG}{kept:List Int}(h:DJ N m roots kept=true):DY N m roots=true∧rn m kept=true∧se m kept=true:=by
 unfold DJ at h;unfold DY;simp only [Bool.and_eq_true] at h⊢;exact ⟨h.1.1,h.1.2,h.2⟩
theorem DR {m:SB}{kept:List Int}(h:rn m kept=true){a:Int}(ha:a∈kept):aZ m a=true∧yB a=false:=by
 unfold rn at h;rw [Bool.and_eq_true] at h;have:=po h.1 ha;rw [Bool.and_eq_true] at this;exact ⟨this.2,by cases hy:yB a;rfl;rw [hy] at this;cases this.1⟩
theorem Oi {N:Nat}(hN:5000<N){m:SB}{roots:List SG}(hs:Small m roots)(hw:W64 m)(hr: ∀v∈roots,in64 v.N)(ht:cL (fun a=>(be m a).More.length) (Ak m)≤3600){kept:List Int}(hk:kept.length≤1200)(hm:DJ N m roots kept=true): ∃met,MinCtx N m roots kept met:=by
 obtain ⟨h1,h2, -⟩:=AS hm;obtain ⟨g1,g2, -⟩:=zM h1;obtain ⟨r,e,seen,nx,b,e2,h3,h4⟩:=KY N hN hs g1 g2 kept (fun x hx=>(DR h2 hx).1) hk;exact ⟨r.met_,hN,hs,hw,hr,ht,hk,hm,⟨seen,nx,by rw [e, ←e2],h3⟩,⟨b,h4⟩⟩
def fT (m:SB)(met:List Int):List Int:=cz m.Old.length++met
def Et (m:SB)(met:List Int):List Int:=rc (fL m) met 0 m.Old.length
def dx (m:SB)(met:List Int):Int→Int:=yI met (Et m met)
def nC (N:Nat)(m:SB)(met:List Int)(a:Int):SD:=gl (dx m met) met (ju N (fT m met) (be m a))
def nY (N:Nat)(m:SB)(met:List Int)(a:Int):SD:=⟨(nC N m met a).Kind,(nC N m met a).Shape,(nC N m met a).Flags,1,(nC N m met a).Slots,(nC N m met a).More⟩
def jK (N:Nat)(m:SB)(met:List Int):SB:=⟨(met.filter (fL m)).map (nY N m met),(cz m.Old.length).map (nC N m met)++(met.filter fun a=> !fL m a).map (nY N m met)⟩
def rj (m:SB)(met:List Int):List SG:=(fT m met).flatMap fun a=>gz (fT m met) (be m a)
section
variable {N:Nat} {m:SB} {roots:List SG} {kept met:List Int} (h:MinCtx N m roots kept met)
include h
theorem MinCtx.whole:Whole m:=(zM (AS h.may).1).1
theorem MinCtx.rootsH: ∀x∈bW roots,aZ m x=true:=(zM (AS h.may).1).2.1
theorem MinCtx.mt:met.Nodup∧(∀x∈met,yB x=true)∧ ∀x∈met,aZ m x=true:=by
 obtain ⟨_,_, -,h2⟩:=h.prog;exact ⟨h2.nd,h2.yng,h2.has⟩
theorem MinCtx.mlen:met.length≤1200:=by
 obtain ⟨_,_, -,h2⟩:=h.prog;exact h2.len h.small
theorem MinCtx.f1has {a:Int}(ha:a∈fT m met):aZ m a=true:=by
 unfold fT at ha;rcases List.mem_append.1 ha with ha|ha
 ·obtain ⟨i,hi,rfl⟩:=gq.1 ha;rw [qb];exact SN hi
 exact h.mt.2.2 a ha
theorem MinCtx.keptOf {a:Int}(ha:a∈cz m.Old.length){x:Int}(hx:x∈cy (be m a))(hy:yB x=true):a∈kept:=by
 obtain ⟨i,hi,rfl⟩:=gq.1 ha;have h3:=(AS h.may).2.2;unfold se at h3;have:=po h3 (List.mem_range.2 hi);rw [List.any_eq_true.2 ⟨x,hx,hy⟩] at this;simpa using this
theorem MinCtx.inF {a:Int}(ha:a∈fT m met){x:Int}(hx:aZ m x=true)(hyx:yB x=true→x∈met):x∈fT m met:=by
 have _:=h;have _:=ha;unfold fT
 cases hy:yB x with
 |true=>exact SS _ (hyx hy)
 |false=>
  obtain ⟨i,hi,rfl⟩:=HE hx hy;exact SR _ (gq.2 ⟨i,hi,U⟩)
theorem MinCtx.cell {a:Int}(ha:a∈fT m met):CellOk N (fT m met) (fT m met) (be m a):=by
 have hN:=h.big;have hh:=h.f1has ha;have hm:=pn hh;have hs:=h.small.cells _ hm;obtain ⟨b,hM⟩:=h.isM;obtain ⟨q1,q2⟩:=hM.closed;have hf:=(zM (AS h.may).1).2.2 _ hm;refine ⟨by omega,?_,hs.1,hs.2,fun x hx=> ?_,fun x hx=> ?_,fun x=>Iff.rfl⟩
 ·unfold zN at hf;rw [oO N W _ W W,Bool.and_eq_true] at hf;exact hf.1
 ·refine h.inF ha (h.whole.leads hh x hx) fun hy=> ?_
  unfold fT at ha;rcases List.mem_append.1 ha with ha|ha
  ·exact hM.start (SS _ (List.mem_flatMap.2 ⟨a,h.keptOf ha (SR _ hx) hy,hx⟩)) hy
  exact q1 a ha x hx hy
 refine h.inF ha (h.whole.opens hh x hx) fun hy=> ?_
 refine q2 a ?_ x hx hy;unfold fT at ha;rcases List.mem_append.1 ha with ha|ha
 ·exact SR _ (h.keptOf ha (IA hx) hy)
 exact SS _ ha
theorem MinCtx.old {a:Int}(ha:a∈cz m.Old.length)(hk:a∉kept):ju N (fT m met) (be m a)=be m a∧gz (fT m met) (be m a)=[]:=by
 have hf:a∈fT m met:=SR _ ha
 refine (h.cell hf).id fun x hx=>h.inF hf (h.whole a (h.f1has hf) x hx) fun hy=>absurd (h.keptOf ha hx hy) hk
theorem MinCtx.nd:(fT m met).Nodup:=by
 unfold fT;refine List.nodup_append.2 ⟨?_,h.mt.1,fun a ha b hb e=> ?_⟩
 ·exact (Le _).imp fun hab e=>by omega
 subst e;obtain ⟨i, -,rfl⟩:=gq.1 ha;have:=h.mt.2.1 _ hb;rw [Cn] at this;cases this
theorem MinCtx.goneLen: ∀l:List Int,l.Nodup→(∀a∈l,a∈fT m met)→(l.flatMap fun a=>gz (fT m met) (be m a)).length≤3600:=by
 intro l hn hl
 have h1:=pt (fun a=>(be m a).More.length) hn fun a ha=>tC (h.f1has (hl a ha))
 have h2: ∀l:List Int,(l.flatMap fun a=>gz (fT m met) (be m a)).length≤cL (fun a=>(be m a).More.length) l:=fun l=>by
  induction l with
  |nil=>simp [cL]
  |cons a l ih=>
   have:=(pj N (fT m met) (be m a)).2;rw [List.flatMap_cons,List.length_append,cL];omega
 have:=h2 l;have:=h.tot;omega
end
end
section
open Go.RowKit
theorem EP {α β:Type}(f:α→List β){l:List α}{i:Nat}(h:i<l.length):(l.take (i+1)).flatMap f=(l.take i).flatMap f++f l[i]:=by
 rw [bi h,List.flatMap_append,List.flatMap_cons,List.flatMap_nil,List.append_nil]
theorem LM {α β:Type}(f:α→β){l:List α}{i:Nat}(h:i<l.length):(l.take (i+1)).map f=(l.take i).map f++ [f l[i]]:=by
 rw [bi h,List.map_append];rfl
theorem Bo {α:Type}(p:α→Bool){l:List α}{i:Nat}(h:i<l.length):(l.take (i+1)).filter p=(l.take i).filter p++(bif p l[i] then [l[i]] else []):=by
 rw [bi h,List.filter_append];cases hp:p l[i]<;>simp [hp]
section
variable {N:Nat} {m:SB} {roots:List SG} {kept met:List Int} (h:MinCtx N m roots kept met)
include h
theorem MinCtx.f1len:(fT m met).length≤1800:=by
 have h1:=h.mlen;have h2:=h.small.old;unfold fT cz;rw [List.length_append,List.length_map,List.length_range];omega
theorem Ms:gw N m roots kept=some (jK N m met,roots.map (bu (dx m met) met),(rj m met).map (bu (dx m met) met),0):=by
 have hN:=h.big;have hs:=h.small;have hml:=h.mlen;have ho:=hs.old;have hrl:=hs.roots;have hfl:=h.f1len;obtain ⟨hnd,hyng,hhas⟩:=h.mt;obtain ⟨seen,nx,hp,hmt⟩:=h.prog;have hto:(Et m met).length=met.length:=zf _ _ _ _
 have hev:(cz m.Old.length).length=m.Old.length:=by unfold cz;simp
 obtain ⟨hfine,hkok, -⟩:=AS h.may
 have k64: ∀x∈kept,in64 x:=fun x hx=>wN hs (DR hkok hx).1
 have hkl:=h.klen;have hgl: ∀l:List Int,l.Nodup→(∀a∈l,a∈fT m met)→(l.flatMap fun a=>gz (fT m met) (be m a)).length≤3600:=h.goneLen
 have tk: ∀i,((cz m.Old.length).take i).flatMap (fun a=>gz (fT m met) (be m a))=((cz m.Old.length).take i).flatMap fun a=>gz (fT m met) (be m a):=fun i=>rfl
 have g1: ∀i,(((cz m.Old.length).take i).flatMap fun a=>gz (fT m met) (be m a)).length≤3600:=fun i=>hgl _ (List.Nodup.sublist (List.take_sublist _ _) (List.nodup_append.1 h.nd).1) fun a ha=>SR _ (List.mem_of_mem_take ha)
 have g2: ∀i,((cz m.Old.length++met.take i).flatMap fun a=>gz (fT m met) (be m a)).length≤3600:=fun i=>hgl _ (List.Nodup.sublist (List.Sublist.append (List.Sublist.refl _) (List.take_sublist i met)) h.nd) fun a ha=>(List.mem_append.1 ha).elim (fun h=>SR _ h) fun h=>SS _ (List.mem_of_mem_take h)
 have moved: ∀a∈fT m met, ∀d:SD,d.Slots.length≤600→d.More.length≤600→fS N d met (Et m met)=some (gl (dx m met) met d):=fun a _ d h1 h2=>BN N hN d W W met (Et m met) hnd hto hml
 -- the young cells
 have young: ∀hP:List SD,hP.length≤600→Sat (dZ N ⟨m,kept,met,seen,nx⟩ roots (Et m met) (fT m met) N ((cz m.Old.length).flatMap fun a=>gz (fT m met) (be m a)) 0 [] hP) fun r=>r=(⟨(met.filter (fL m)).map (nY N m met),hP++(met.filter fun a=> !fL m a).map (nY N m met)⟩,roots.map (bu (dx m met) met),(rj m met).map (bu (dx m met) met),0):=by
  intro hP hO;refine cR (fun k i (s:List SG×List SD×List SD)=>dZ N ⟨m,kept,met,seen,nx⟩ roots (Et m met) (fT m met) k s.1 (i:Int) s.2.1 s.2.2) met.length (fun i s=>s.1=(cz m.Old.length++met.take i).flatMap (fun a=>gz (fT m met) (be m a))∧s.2.1=((met.take i).filter (fL m)).map (nY N m met)∧s.2.2=hP++((met.take i).filter fun a=> !fL m a).map (nY N m met)) _ ?_ ?_ N 0 (_,[],hP) W W ⟨by rw [List.take_zero,List.append_nil];rfl,rfl,by simp⟩
  ·rintro k i ⟨g,hE,Q⟩ hi ⟨h1,h2,h3⟩ go;simp only at h1 h2 h3;show Sat (dZ N ⟨m,kept,met,seen,nx⟩ roots (Et m met) (fT m met) (k+1) g (i:Int) hE Q) _;have hgm:met[i]∈met:=List.getElem_mem hi;have hgf:met[i]∈fT m met:=SS _ hgm;have hc:=h.cell hgf;have hcl:=pj N (fT m met) (be m met[i]);have hc1:=hc.slots;have hc2:=hc.more
   have hgt:g.length≤3600:=by rw [h1];exact g2 i
   have hYl:hE.length≤i:=by rw [h2,List.length_map];exact Nat.le_trans (List.length_filter_le _ _) (by rw [List.length_take];omega)
   have hQl:Q.length≤600+i:=by
    rw [h3,List.length_append,List.length_map];have:=List.length_filter_le (fun a=> !fL m a) (met.take i);rw [List.length_take] at this;omega
   have hti:i<(Et m met).length:=by omega
   have htv:(Et m met)[i]=bif fL m met[i] then 2*((0+((met.take i).filter (fL m)).length:Nat):Int)+1 else 2*((m.Old.length+((met.take i).filter fun a=> !fL m a).length:Nat):Int)+2:=by
    have:=Dt (fL m) hi 0 m.Old.length;unfold List.getD at this;have e:(rc (fL m) met 0 m.Old.length)[i]? =some (Et m met)[i]:=List.getElem?_eq_getElem hti;rw [e] at this;exact this
   have hyt:yB (Et m met)[i]=fL m met[i]:=by
    rw [htv];cases fL m met[i]
    ·exact Cn _
    exact Id _
   rw [dZ.eq_2]
   dsimp only
   rw [cV W,ct,bf hi,bs,rk N hs kept met seen nx (h.f1has hgf),bs,BF N hN hc W g W,bs]
   dsimp only
   rw [moved _ hgf _ W W,bs,bf hti,bs,qI,bs,hyt];unfold ln;rw [r64 W W,r64 W W,rF (by simp;omega),rF (by simp;omega)]
   have hg':g++gz (fT m met) (be m met[i])=(cz m.Old.length++met.take (i+1)).flatMap fun a=>gz (fT m met) (be m a):=by
    rw [h1,List.flatMap_append,List.flatMap_append,EP _ hi,SQ]
   have hf1:=Bo (fL m) hi;have hf2:=Bo (fun a=> !fL m a) hi;cases hb:fL m met[i]
   ·rw [hb] at hf1;simp only [hb,Bool.not_false,cond_true,cond_false,List.append_nil] at hf1 hf2;rw [cf];exact go (_,hE,_) ⟨hg',by show hE=_;rw [hf1];exact h2,by show Q++ [nY N m met met[i]]=_;rw [hf2,List.map_append,h3,SQ];rfl⟩
   rw [hb] at hf1;simp only [hb,Bool.not_true,cond_true,cond_false,List.append_nil] at hf1 hf2;rw [ct];exact go (_,_,Q) ⟨hg',by show hE++ [nY N m met met[i]]=_;rw [hf1,List.map_append,h2];rfl,by show Q=_;rw [hf2];exact h3⟩
  rintro k ⟨g,hE,Q⟩ ⟨h1,h2,h3⟩;simp only [List.take_length] at h1 h2 h3;show Sat (dZ N ⟨m,kept,met,seen,nx⟩ roots (Et m met) (fT m met) (k+1) g _ hE Q) _
  have hgt:g.length≤3600:=by rw [h1];have:=g2 met.length;rwa [List.take_length] at this
  rw [dZ.eq_2]
  dsimp only
  rw [cQ W,cf];unfold og
  dsimp only
  rw [BE N hN roots W met (Et m met) hnd hto hml,bs,BE N hN g W met (Et m met) hnd hto hml,bs,h2,h3];refine aQ ?_;rw [h1];rfl
 apply Sat.eq;unfold gw;rw [Fh N hN hs h.w64 h.r64 kept W k64,h.may,bs,nt,cf,hp,bs,Gg N hN hs kept nx hmt,bs,DG N hN hs kept nx hmt,bs];refine cR (fun k i (s:List SG×List SD)=>fk N m roots kept (Et m met) ⟨m,kept,met,seen,nx⟩ k s.1 (fT m met) (i:Int) s.2) m.Old.length (fun i s=>s.1=((cz m.Old.length).take i).flatMap (fun a=>gz (fT m met) (be m a))∧s.2=((cz m.Old.length).take i).map (nC N m met)) _ ?_ ?_ N 0 ([],[]) W W ⟨U,U⟩
 ·rintro k i ⟨g,hP⟩ hi ⟨h1,h2⟩ go;simp only at h1 h2;show Sat (fk N m roots kept (Et m met) ⟨m,kept,met,seen,nx⟩ (k+1) g (fT m met) (i:Int) hP) _
  have hie:i<(cz m.Old.length).length:=by omega
  have hei:(cz m.Old.length)[i]=2*(i:Int)+2:=Fo hie;have hae:(2*(i:Int)+2)∈cz m.Old.length:=gq.2 ⟨i,hi,rfl⟩;have haf:(2*(i:Int)+2)∈fT m met:=SR _ hae;have hc:=h.cell haf;have hcl:=pj N (fT m met) (be m (2*(i:Int)+2));have hc1:=hc.slots;have hc2:=hc.more
  have hgt:g.length≤3600:=by rw [h1];exact g1 i
  have hOl:hP.length≤i:=by rw [h2,List.length_map,List.length_take];omega
  have hold:=h.old hae
  have n1:((cz m.Old.length).take (i+1)).flatMap (fun a=>gz (fT m met) (be m a))=g++gz (fT m met) (be m (2*(i:Int)+2)):=by rw [EP _ hie,hei,h1]
  have n2:((cz m.Old.length).take (i+1)).map (nC N m met)=hP++ [nC N m met (2*(i:Int)+2)]:=by rw [LM _ hie,hei,h2]
  rw [pM m i hi] at hc hcl hc1 hc2 hold n1
  have hnc:nC N m met (2*(i:Int)+2)=gl (dx m met) met (ju N (fT m met) m.Old[i]):=by unfold nC;rw [pM m i hi]
  have body: ∀(kb:List SG→List Int→Int→List SD→Option (SB×List SG×List SG×Int)) (g':List SG) (d:SD),d.Slots.length≤600→d.More.length≤600→i6 N kb m (i:Int) roots kept (Et m met) (fT m met) hP ⟨m,kept,met,seen,nx⟩ g' d.Kind d.Shape d.Flags d.Age d.Slots d.More=kb g' (fT m met) ((i:Int)+1) (hP++ [gl (dx m met) met d]):=by
   intro kb g' d d1 d2;have:=moved _ haf d d1 d2;unfold i6
   dsimp only
   have e:fS N ⟨d.Kind,d.Shape,d.Flags,d.Age,d.Slots,d.More⟩ met (Et m met)=some (gl (dx m met) met d):=this;rw [e,bs,rF (by simp;omega),r64 W W]
  rw [fk.eq_2,cV W,ct,bf hi,bs,r64 W W,r64 W W,pi N hN kept W,bs];by_cases hk:(2*(i:Int)+2)∈kept
  ·rw [SN hk,ct,BF N hN hc W g W,bs]
   dsimp only
   rw [body _ _ _ W W];exact go (_,_) ⟨n1.symm,by rw [n2,hnc]⟩
  obtain ⟨o1,o2⟩:=hold hk;rw [SO hk,cf,body _ _ _ W W];exact go (g,_) ⟨by rw [n1,o2,List.append_nil],by rw [n2,hnc,o1]⟩
 rintro k ⟨g,hP⟩ ⟨h1,h2⟩;have etl:(cz m.Old.length).take m.Old.length=cz m.Old.length:=List.take_of_length_le W;simp only [etl] at h1 h2;show Sat (fk N m roots kept (Et m met) ⟨m,kept,met,seen,nx⟩ (k+1) g (fT m met) _ hP) _;rw [fk.eq_2,cQ W,cf];unfold oh;rw [h1]
 have hOl:hP.length≤600:=by rw [h2,List.length_map];omega
 have:=young hP hOl;rw [h2] at this⊢;exact this
end
end
section
open Go.RowKit
theorem Ju: ∀{A B:List Int} {x:Int},x∉A→(A++x::B).idxOf x=A.length
 | [],B,x,_=>by simp
 |a::A,B,x,h=>by
  have h1:a≠x:=fun e=>h (by simp [e])
  rw [List.cons_append,List.idxOf_cons,Ju fun hx=>h (by simp [hx])];have:(a==x)=false:=beq_eq_false_iff_ne.2 h1;rw [this];rfl
theorem HI {l:List Int}(hn:l.Nodup)(p:Int→Bool){i:Nat}(h:i<l.length)(hp:p l[i]=true):(l.filter p).idxOf l[i]=((l.take i).filter p).length:=by
 have e:l.filter p=(l.take i).filter p++l[i]::(l.drop (i+1)).filter p:=by
  have e1:l=l.take i++(l[i]::l.drop (i+1)):=by rw [←List.drop_eq_getElem_cons h,List.take_append_drop]
  have e2:l.filter p=(l.take i).filter p++(l[i]::l.drop (i+1)).filter p:=by rw [←List.filter_append, ←e1]
  rw [e2,List.filter_cons,hp,if_pos rfl]
 rw [e]
 exact Ju fun hm=>DD hn h (List.mem_filter.1 hm).1
def lC (c:SD)(g:Int):SD:=⟨c.Kind,c.Shape,c.Flags,g,c.Slots,c.More⟩
theorem FZ {c:SD}(h:cA c=true):cA (lC c 1)=true:=by
 unfold cA at h⊢;unfold lC;simp only [Bool.and_eq_true] at h⊢;obtain ⟨⟨⟨⟨⟨⟨⟨h1,h2⟩,h3⟩,h4⟩,h5⟩, -⟩, -⟩,h8⟩:=h;exact ⟨⟨⟨⟨⟨⟨⟨h1,h2⟩,h3⟩,h4⟩,h5⟩,U⟩,U⟩,h8⟩
structure VCell (N:Nat) (c:SD):Prop where
 big:2000<N
 right:cA c=true
 slots:c.Slots.length≤600
 more:c.More.length≤600
theorem Ej {N:Nat}{c:SD}{g:Int}(h:VCell N c)(h2:VCell N (lC c g)):cg N (lC c g)=lC (cg N c) g:=by
 unfold cg;rw [ns h.big h.right h.slots h.more,ns h2.big h2.right h2.slots h2.more];show (bif decide (c.Kind=10) then _ else _)=_;cases decide (c.Kind=10)<;>rfl
theorem LI {N:Nat}{c:SD}{g:Int}(h:VCell N c)(h2:VCell N (lC c g)):ko N (cg N (lC c g))=ko N (cg N c):=by
 have k: ∀c:SD,(cg N c).Kind=c.Kind:=fun c=>by unfold cg;cases rR N c<;>rfl
 have k2: ∀c:SD,VCell N c→c.Kind=8→cg N c=c:=fun c h h8=>by
  unfold cg;rw [ns h.big h.right h.slots h.more,SO W];rfl
 by_cases h8:c.Kind=8
 ·rw [k2 c h h8,k2 _ h2 h8,oW h.big h.right h.slots h.more,oW h2.big h2.right h2.slots h2.more];rfl
 unfold ko;rw [k,k];have e:(lC c g).Kind=c.Kind:=rfl;rw [e,SO h8,Bool.false_and,Bool.false_and]
theorem KO {N:Nat}{c:SD}{g:Int}(h:VCell N c)(h2:VCell N (lC c g))(row:List Int):bS N (cg N (lC c g)) row=bS N (cg N c) row:=by
 unfold bS;rw [LI h h2,Ej h h2];rfl
theorem Lo {N:Nat}{c:SD}{g:Int}(h:VCell N c)(h2:VCell N (lC c g))(A:List Int):cM N A (cg N (lC c g))=lC (cM N A (cg N c)) g:=by
 unfold cM;rw [LI h h2,Ej h h2];cases ko N (cg N c)<;>rfl
theorem NF (m:SB){i:Nat}{c:SD}(h:m.Old[i]? =some c):aZ m (2*(i:Int)+2)=true∧be m (2*(i:Int)+2)=c:=by
 obtain ⟨h1,h2⟩:=List.getElem?_eq_some_iff.1 h;exact ⟨by rw [qb];exact SN h1,by rw [pM m i h1];exact h2⟩
theorem Qo (m:SB){i:Nat}{c:SD}(h:m.Young[i]? =some c):aZ m (2*(i:Int)+1)=true∧be m (2*(i:Int)+1)=c:=by
 obtain ⟨h1,h2⟩:=List.getElem?_eq_some_iff.1 h;exact ⟨by rw [yg];exact SN h1,by rw [uP m i h1];exact h2⟩
theorem zF {f:List Int}{a:Int}(h:a∈f):f[f.idxOf a]? =some a:=List.getElem?_eq_some_iff.2 ⟨oX h,lr h⟩
section
variable {N:Nat} {m:SB} {roots:List SG} {kept met:List Int} (h:MinCtx N m roots kept met)
include h
theorem MinCtx.rhoE {a:Int}(ha:a∈cz m.Old.length):dx m met a=a:=by
 have hn:a∉met:=fun hm=>(List.nodup_append.1 h.nd).2.2 a ha a hm rfl
 unfold dx yI;rw [if_neg hn]
theorem MinCtx.rhoY {a:Int}(ha:a∈met)(hp:fL m a=true):dx m met a=2*(((met.filter (fL m)).idxOf a:Nat):Int)+1:=by
 obtain ⟨i,hi,rfl⟩:=List.getElem_of_mem ha;unfold dx yI Et;rw [if_pos ha,AP h.mt.1 hi,Dt _ hi,hp,HI h.mt.1 _ hi hp,cond_true,Nat.zero_add]
theorem MinCtx.rhoO {a:Int}(ha:a∈met)(hp:fL m a=false):dx m met a=2*((m.Old.length+(met.filter fun a=> !fL m a).idxOf a:Nat):Int)+2:=by
 obtain ⟨i,hi,rfl⟩:=List.getElem_of_mem ha;unfold dx yI Et;rw [if_pos ha,AP h.mt.1 hi,Dt _ hi,hp,HI h.mt.1 (fun a=> !fL m a) hi (by rw [hp];rfl),cond_false]
theorem MinCtx.cases {a:Int}(ha:a∈fT m met):(a∈cz m.Old.length∧dx m met a=a)∨(a∈met∧fL m a=true∧a∈met.filter (fL m))∨(a∈met∧fL m a=false∧a∈met.filter fun a=> !fL m a):=by
 unfold fT at ha;rcases List.mem_append.1 ha with ha|ha
 ·exact .inl ⟨ha,h.rhoE ha⟩
 cases hp:fL m a with
 |true=>exact .inr (.inl ⟨ha,rfl,List.mem_filter.2 ⟨ha,hp⟩⟩)
 |false=>exact .inr (.inr ⟨ha,rfl,List.mem_filter.2 ⟨ha,by rw [hp];rfl⟩⟩)
theorem MinCtx.ren:Ren (dx m met) (fT m met):=by
 refine ⟨fun a b ha hb e=> ?_,fun a ha=> ?_⟩
 ·rcases h.cases ha with ⟨a1,a2⟩|⟨a1,a2,a3⟩|⟨a1,a2,a3⟩<;>rcases h.cases hb with ⟨b1,b2⟩|⟨b1,b2,b3⟩|⟨b1,b2,b3⟩
  ·rw [a2,b2] at e;exact e
  ·obtain ⟨i, -,rfl⟩:=gq.1 a1;rw [a2,h.rhoY b1 b2] at e;omega
  ·obtain ⟨i,hi,rfl⟩:=gq.1 a1;rw [a2,h.rhoO b1 b2] at e;omega
  ·obtain ⟨i, -,rfl⟩:=gq.1 b1;rw [b2,h.rhoY a1 a2] at e;omega
  ·rw [h.rhoY a1 a2,h.rhoY b1 b2] at e
   have e2:(met.filter (fL m)).idxOf a=(met.filter (fL m)).idxOf b:=by omega
   rw [←lr a3, ←lr b3];simp only [e2]
  ·rw [h.rhoY a1 a2,h.rhoO b1 b2] at e;omega
  ·obtain ⟨i,hi,rfl⟩:=gq.1 b1;rw [b2,h.rhoO a1 a2] at e;omega
  ·rw [h.rhoO a1 a2,h.rhoY b1 b2] at e;omega
  rw [h.rhoO a1 a2,h.rhoO b1 b2] at e
  have e2:(met.filter fun a=> !fL m a).idxOf a=(met.filter fun a=> !fL m a).idxOf b:=by omega
  rw [←lr a3, ←lr b3];simp only [e2]
 rcases h.cases ha with ⟨a1,a2⟩|⟨a1,a2,a3⟩|⟨a1,a2,a3⟩
 ·obtain ⟨i, -,rfl⟩:=gq.1 a1;omega
 ·rw [h.rhoY a1 a2];omega
 rw [h.rhoO a1 a2];omega
end
def Ly (N:Nat)(m:SB)(met:List Int)(a:Int):Int:=if a∈met then 1 else (nC N m met a).Age
def oG (N:Nat)(m:SB)(met:List Int)(a:Int):SD:=lC (nC N m met a) (Ly N m met a)
theorem vN {m:SB}{met:List Int}(v:SG):bu (dx m met) (fT m met) v=bu (dx m met) met v:=by
 unfold bu fT;cases hb:br v
 ·rfl
 rw [Bool.true_and,Bool.true_and];by_cases h:v.N∈met
 ·rw [SN h,SN (SS _ h)]
 rw [SO h]
 have e:dx m met v.N=v.N:=by unfold dx yI;rw [if_neg h]
 rw [e];cases decide (v.N∈cz m.Old.length++met)<;>rfl
theorem DF {m:SB}{met:List Int}(c:SD):gl (dx m met) met c=gl (dx m met) (fT m met) c:=by
 unfold gl;rw [List.map_congr_left fun v _=>(vN v).symm,List.map_congr_left (l:=c.More) fun v _=>(vN v).symm]
section
variable {N:Nat} {m:SB} {roots:List SG} {kept met:List Int} (h:MinCtx N m roots kept met)
include h
theorem MinCtx.cellE {a:Int}(ha:a∈cz m.Old.length):oG N m met a=nC N m met a:=by
 have hn:a∉met:=fun hm=>(List.nodup_append.1 h.nd).2.2 a ha a hm rfl
 unfold oG Ly;rw [if_neg hn];rfl
theorem H0 {a:Int}(ha:a∈met):oG N m met a=nY N m met a:=by
 have _:=h;unfold oG Ly;rw [if_pos ha];rfl
theorem MinCtx.at_ {a:Int}(ha:a∈fT m met):aZ (jK N m met) (dx m met a)=true∧be (jK N m met) (dx m met a)=oG N m met a:=by
 have hev:(cz m.Old.length).length=m.Old.length:=by unfold cz;simp
 have hml:((cz m.Old.length).map (nC N m met)).length=m.Old.length:=by rw [List.length_map];exact hev
 rcases h.cases ha with ⟨a1,a2⟩|⟨a1,a2,a3⟩|⟨a1,a2,a3⟩
 ·rw [a2,h.cellE a1];obtain ⟨i,hi,rfl⟩:=gq.1 a1;refine NF _ ?_;show ((cz m.Old.length).map (nC N m met)++(met.filter fun a=> !fL m a).map (nY N m met))[i]? =_;rw [List.getElem?_append_left W,List.getElem?_map,List.getElem?_eq_getElem (by omega:i<(cz m.Old.length).length),Fo];rfl
 ·rw [h.rhoY a1 a2,H0 h a1];refine Qo _ ?_;show ((met.filter (fL m)).map (nY N m met))[_]? =_;rw [List.getElem?_map,zF a3];rfl
 rw [h.rhoO a1 a2,H0 h a1];refine NF _ ?_;show ((cz m.Old.length).map (nC N m met)++(met.filter fun a=> !fL m a).map (nY N m met))[_]? =_;rw [List.getElem?_append_right W,hml,Nat.add_sub_cancel_left,List.getElem?_map,zF a3];rfl
theorem MinCtx.okN {a:Int}(ha:a∈fT m met):VCell N (nC N m met a)∧VCell N (oG N m met a):=by
 have hN:=h.big;obtain ⟨g1,g2,g3, -⟩:=CellOk.new h.ren (h.cell ha);have e:nC N m met a=gl (dx m met) (fT m met) (ju N (fT m met) (be m a)):=DF _;rw [←e] at g1 g2 g3;refine ⟨⟨by omega,g1,g2,g3⟩,by omega,?_,g2,g3⟩;unfold oG Ly;by_cases hm:a∈met
 ·rw [if_pos hm];exact FZ g1
 rw [if_neg hm];exact g1
theorem MinCtx.graph:MapG (Am N (dg N m)) (Am N (dg N (jK N m met))) (dx m met) (· ∈fT m met):=by
 have eC: ∀a,nC N m met a=gl (dx m met) (fT m met) (ju N (fT m met) (be m a)):=fun a=>DF _
 have hB: ∀a∈fT m met,be (dg N m) a=cg N (be m a):=fun a ha=>tM N m a (h.f1has ha)
 have hNB: ∀a∈fT m met,be (dg N (jK N m met)) (dx m met a)=cg N (oG N m met a):=fun a ha=>by
  rw [tM N _ _ (h.at_ ha).1,(h.at_ ha).2]
 refine ⟨fun a b ha hb e=>h.ren.inj a b ha hb e,fun a ha=>⟨?_,?_⟩,fun a ha=> ?_,fun row a hr ha=> ?_⟩
 ·show aZ (dg N m) a=true;rw [nH];exact h.f1has ha
 ·show aZ (dg N (jK N m met)) (dx m met a)=true;rw [nH];exact (h.at_ ha).1
 ·show bD (be (dg N (jK N m met)) (dx m met a))=(bD (be (dg N m) a)).map (dx m met)∧ ∀x∈bD (be (dg N m) a),x∈fT m met;obtain ⟨o1,o2⟩:=h.okN ha;rw [hNB a ha,hB a ha];have e:cg N (oG N m met a)=lC (cg N (nC N m met a)) (Ly N m met a):=Ej o1 o2;rw [e];show bD (cg N (nC N m met a))=_∧_;rw [eC a];exact CellOk.leadsG h.ren (h.cell ha)
 show bS N (be (dg N (jK N m met)) (dx m met a)) (row.map (dx m met))=(bS N (be (dg N m) a) row).map (dx m met)∧ ∀x∈bS N (be (dg N m) a) row,x∈fT m met;obtain ⟨o1,o2⟩:=h.okN ha;have e:bS N (cg N (oG N m met a)) (row.map (dx m met))=bS N (cg N (nC N m met a)) (row.map (dx m met)):=KO o1 o2 _;rw [hNB a ha,hB a ha,e,eC a];exact CellOk.opensG h.ren (h.cell ha) hr
end
end
section
open Go.RowKit
theorem ER {α:Type}(g:α→Nat)(p:α→Bool): ∀l:List α,cL g (l.filter p)+cL g (l.filter fun a=> !p a)=cL g l
 | []=>rfl
 |a::l=>by
  have ih:=ER g p l;rw [List.filter_cons,List.filter_cons];cases h:p a
  ·simp only [Bool.false_eq_true,if_false,Bool.not_false,if_true,cL];omega
  simp only [Bool.false_eq_true,if_false,Bool.not_true,if_true,cL];omega
theorem qN {α:Type}{g h:α→Nat}: ∀{l:List α},(∀x∈l,g x=h x)→cL g l=cL h l
 | [],_=>rfl
 |a::l,hh=>by rw [cL,cL,hh a (by simp),qN fun x hx=>hh x (by simp [hx])]
theorem va {α:Type}: ∀l:List α,cL (fun _=>1) l=l.length
 | []=>rfl
 |a::l=>by rw [cL,va l,List.length_cons];omega
section
variable {N:Nat} {m:SB} {roots:List SG} {kept met:List Int} (h:MinCtx N m roots kept met)
include h
theorem MinCtx.midSum (g:SD→Nat):cL g (jK N m met).Young+cL g (jK N m met).Old=cL (fun a=>g (oG N m met a)) (fT m met):=by
 have e1:cL (fun a=>g (oG N m met a)) (cz m.Old.length)=cL (fun a=>g (nC N m met a)) (cz m.Old.length):=qN fun a ha=>by rw [h.cellE ha]
 have e2:cL (fun a=>g (oG N m met a)) met=cL (fun a=>g (nY N m met a)) met:=qN fun a ha=>by rw [H0 h ha]
 have e3:=ER (fun a=>g (nY N m met a)) (fL m) met;unfold jK fT;simp only;rw [pu,pu,mN,mN,mN,e1,e2];omega
theorem MinCtx.midLe (g:SD→Nat)(hg: ∀a∈fT m met,g (oG N m met a)≤g (be m a)):cL g (jK N m met).Young+cL g (jK N m met).Old≤cL g m.Young+cL g m.Old:=by
 have h1:=pt (fun a=>g (be m a)) h.nd fun a ha=>tC (h.f1has ha)
 have h2:=mN g (be m) (Ak m);rw [Aj,pu] at h2;rw [h.midSum];have h3:=yD hg;omega
theorem MinCtx.cellLe {a:Int}(ha:a∈fT m met):(oG N m met a).Slots.length=(be m a).Slots.length∧(oG N m met a).More.length≤(be m a).More.length:=by
 have _:=h;have:=pj N (fT m met) (be m a);show ((ju N (fT m met) (be m a)).Slots.map _).length=_∧((ju N (fT m met) (be m a)).More.map _).length≤_;rw [List.length_map,List.length_map];omega
theorem MinCtx.midCnt:(jK N m met).Young.length+(jK N m met).Old.length≤m.Young.length+m.Old.length:=by
 have:=h.midLe (fun _=>1) fun a _=>Nat.le_refl _
 rw [va,va,va,va] at this;exact this
theorem MinCtx.midMem {c:SD}(hc:c∈(jK N m met).Young++(jK N m met).Old): ∃a∈fT m met,c=oG N m met a:=by
 unfold jK at hc;simp only [List.mem_append,List.mem_map,List.mem_filter] at hc;rcases hc with ⟨a,⟨h1, -⟩,rfl⟩|⟨a,h1,rfl⟩|⟨a,⟨h1, -⟩,rfl⟩
 ·exact ⟨a,SS _ h1,(H0 h h1).symm⟩
 ·exact ⟨a,SR _ h1,(h.cellE h1).symm⟩
 exact ⟨a,SS _ h1,(H0 h h1).symm⟩
theorem MinCtx.root {x:Int}(hx:x∈bW roots):x∈fT m met:=by
 have hh:=h.rootsH x hx;obtain ⟨b,hM⟩:=h.isM;unfold fT
 cases hy:yB x with
 |true=>exact SS _ (hM.start (SR _ hx) hy)
 |false=>
  obtain ⟨i,hi,rfl⟩:=HE hh hy;exact SR _ (gq.2 ⟨i,hi,U⟩)
theorem MinCtx.rootIn:dh (fT m met) roots:=fun v hv hb=>h.root (eo.2 ⟨v,hv,hb,rfl⟩)
theorem MinCtx.nowE:roots.map (bu (dx m met) met)=roots.map (bu (dx m met) (fT m met)):=by
 have _:=h
 exact List.map_congr_left fun v _=>(vN v).symm
theorem MinCtx.rho64 {a:Int}(ha:a∈fT m met):in64 (dx m met a):=by
 have h1:=h.mlen;have h2:=h.small.old
 have h3: ∀p:Int→Bool,(met.filter p).length≤1200:=fun p=>Nat.le_trans (List.length_filter_le _ _) h1
 unfold in64;rcases h.cases ha with ⟨a1,a2⟩|⟨a1,a2,a3⟩|⟨a1,a2,a3⟩
 ·obtain ⟨i,hi,rfl⟩:=gq.1 a1;rw [a2];omega
 ·have:=oX a3;have:=h3 (fL m);rw [h.rhoY a1 a2];omega
 have:=oX a3
 have:=h3 fun a=> !fL m a
 rw [h.rhoO a1 a2];omega
theorem MinCtx.mov64 {v:SG}(hv:in64 v.N):in64 (bu (dx m met) (fT m met) v).N:=by
 unfold bu
 cases hb:br v&&decide (v.N∈fT m met) with
 |false=>exact hv
 |true=>
  rw [Bool.and_eq_true,decide_eq_true_eq] at hb;exact h.rho64 hb.2
theorem MinCtx.now64: ∀v∈roots.map (bu (dx m met) (fT m met)),in64 v.N:=fun v hv=>by
 obtain ⟨w,hw,rfl⟩:=List.mem_map.1 hv;exact h.mov64 (h.r64 w hw)
theorem MinCtx.nCE (a:Int):nC N m met a=gl (dx m met) (fT m met) (ju N (fT m met) (be m a)):=by
 have _:=h;exact DF _
theorem MinCtx.midW:W64 (jK N m met):=fun c hc v hv=>by
 obtain ⟨a,ha,rfl⟩:=h.midMem hc;have hv':v∈(nC N m met a).Slots++(nC N m met a).More:=hv;rw [h.nCE] at hv'
 have hv2:v∈((ju N (fT m met) (be m a)).Slots++(ju N (fT m met) (be m a)).More).map (bu (dx m met) (fT m met)):=by rw [List.map_append];exact hv'
 obtain ⟨w,hw,rfl⟩:=List.mem_map.1 hv2;refine h.mov64 ?_;rcases JE hw with hw|rfl
 ·exact h.w64.at_ a w hw
 show in64 0;unfold in64;omega
theorem MinCtx.midS (hcnt:m.Young.length+m.Old.length≤600)(l:List SG)(hl:l.length≤600):Small (jK N m met) l:=by
 have:=h.midCnt;refine ⟨by omega,by omega,hl,fun c hc=> ?_⟩;obtain ⟨a,ha,rfl⟩:=h.midMem hc;exact ⟨(h.okN ha).2.slots,(h.okN ha).2.more⟩
theorem MinCtx.newHas {l:List SG}(hl:dh (fT m met) l){v:SG}(hv:v∈l.map (bu (dx m met) (fT m met)))(hb:br v=true):aZ (jK N m met) v.N=true:=by
 obtain ⟨w,hw,rfl⟩:=List.mem_map.1 hv;rw [sf] at hb;have:=hl w hw hb;rw [kk hb this];exact (h.at_ this).1
theorem MinCtx.midAddr {c:SD}(hc:c∈(jK N m met).Young++(jK N m met).Old):cA c=true∧ ∀x∈cy c,aZ (jK N m met) x=true:=by
 obtain ⟨a,ha,rfl⟩:=h.midMem hc;refine ⟨(h.okN ha).2.right,fun x hx=> ?_⟩;have hx':x∈cy (nC N m met a):=hx;obtain ⟨v,hv,hb,rfl⟩:=tN hx';rw [h.nCE] at hv;obtain ⟨i1,i2⟩:=(h.cell ha).inC;rcases List.mem_append.1 hv with hv|hv
 ·exact h.newHas i1 hv hb
 exact h.newHas i2 hv hb
theorem MinCtx.alikeR (hcnt:m.Young.length+m.Old.length≤600){R:List SG}(hR:dh (fT m met) R)(hl:R.length≤600)(r64: ∀v∈R,in64 v.N):dE N m R (jK N m met) (R.map (bu (dx m met) (fT m met)))=some true:=by
 have hN:=h.big;have hs:Small m R:=⟨h.small.young,h.small.old,hl,h.small.cells⟩
 have now64: ∀v∈R.map (bu (dx m met) (fT m met)),in64 v.N:=fun v hv=>by
  obtain ⟨w,hw,rfl⟩:=List.mem_map.1 hv;exact h.mov64 (r64 w hw)
 have hsN:=h.midS hcnt (R.map (bu (dx m met) (fT m met))) (by rw [List.length_map];exact hl);obtain ⟨LA,LB,sA,sB,oA,oB,p2⟩:=kW N hN hs hsN h.w64 h.midW r64 now64;obtain ⟨b1,L1,i1, -, -, -,e1⟩:=iJ N hN (hs.bare N) (h.w64.bare N) r64;obtain ⟨b2,L2,i2, -, -, -,e2⟩:=iJ N hN (hsN.bare N) (h.midW.bare N) now64;rw [e1] at oA;rw [e2] at oB;obtain rfl:=Option.some.inj oA;obtain rfl:=Option.some.inj oB
 obtain ⟨i3,hL1⟩:=h.graph.isOrder i1 fun x hx=>by obtain ⟨v,hv,hb,rfl⟩:=eo.1 hx;exact hR v hv hb
 rw [qH hR] at i2;obtain ⟨-,eL⟩:=i2.det i3;subst eL
 have hA1: ∀x∈fT m met,aZ (dg N m) x=true:=fun x hx=>by rw [nH];exact h.f1has hx
 have hA2: ∀x∈fT m met,aZ (dg N (jK N m met)) (dx m met x)=true:=fun x hx=>by rw [nH];exact (h.at_ hx).1
 have key:lc N (dg N m) R L1 (dg N (jK N m met)) (R.map (bu (dx m met) (fT m met))) (L1.map (dx m met))=true:=by
  unfold lc;rw [SN (by simp),mx h.ren hL1 hA1 hA2 hR,pq,Bool.true_and,Bool.true_and,List.all_eq_true];intro a ha;have haf:=hL1 a ha;obtain ⟨o1,o2⟩:=h.okN haf;simp only;have ec:cM N (L1.map (dx m met)) (cg N (oG N m met a))=lC (cM N (L1.map (dx m met)) (cg N (nC N m met a))) (Ly N m met a):=Lo o1 o2 _;rw [tM N m a (h.f1has haf),tM N _ _ (h.at_ haf).1,(h.at_ haf).2,ec,h.nCE,CellOk.cleanG h.ren (h.cell haf) hL1];obtain ⟨d1,d2⟩:=(h.cell haf).inD hL1;generalize cM N L1 (cg N (be m a))=hU at*;unfold rC gl lC;simp only;rw [mx h.ren hL1 hA1 hA2 d1,mx h.ren hL1 hA1 hA2 d2];simp only [decide_true,Bool.and_self]
 rw [p2,key]
end
theorem An {α β γ:Type}{p:α×β→Bool}{q:β×γ→Bool}{r:α×γ→Bool}(hh: ∀a b c,p (a,b)=true→q (b,c)=true→r (a,c)=true): ∀{A:List α} {B:List β} {C:List γ},A.length=B.length→B.length=C.length→(A.zip B).all p=true→(B.zip C).all q=true→(A.zip C).all r=true
 | [],_,_,_,_,_,_=>by simp
 |a::A,[],_,h,_,_,_=>by simp at h
 |a::A,b::B,[],_,h,_,_=>by simp at h
 |a::A,b::B,c::C,h1,h2,h3,h4=>by
  rw [List.zip_cons_cons,List.all_cons,Bool.and_eq_true] at h3 h4⊢;exact ⟨hh a b c h3.1 h4.1,An hh (by simpa using h1) (by simpa using h2) h3.2 h4.2⟩
theorem IV {ha hb hc:Int→Bool}{A B C:List Int}{u v w:SG}(h1:xo ha hb A B u v=true)(h2:xo hb hc B C v w=true):xo ha hc A C u w=true:=by
 unfold xo at h1 h2⊢;cases hu:br u<;>cases hv:br v<;>cases hw:br w<;>rw [hu,hv] at h1<;>rw [hv,hw] at h2<;>simp only [Bool.not_false,Bool.not_true,Bool.or_self,Bool.or_true,Bool.true_or,cond_true,cond_false,decide_eq_true_eq] at h1 h2⊢
 ·exact h1.trans h2
 ·exact absurd hv (by rw [h2,hw];simp)
 ·exact h1.trans h2
 ·exact absurd hu (by rw [h1,hv];simp)
 ·exact h1.trans h2
 ·exact absurd hu (by rw [h1,hv];simp)
 ·exact absurd hv (by rw [h2,hw];simp)
 simp only [Bool.and_eq_true,decide_eq_true_eq,beq_iff_eq] at h1 h2⊢;obtain ⟨⟨k1,s1⟩,n1⟩:=h1;obtain ⟨⟨k2,s2⟩,n2⟩:=h2;refine ⟨⟨k1.trans k2,s1.trans s2⟩,?_⟩;by_cases mu:u.N∈A<;>by_cases mv:v.N∈B<;>by_cases mw:w.N∈C<;>simp only [mu,mv,mw,decide_true,decide_false,Bool.not_true,Bool.not_false,Bool.or_self,Bool.or_true,Bool.true_or,Bool.and_true,Bool.true_and,Bool.and_false,Bool.false_and,cond_true,cond_false,Bool.false_eq_true,decide_eq_true_eq,beq_iff_eq] at n1 n2⊢
 ·exact n1.trans n2
 exact n1.trans n2
theorem wg {ha hb hc:Int→Bool}{A B C:List Int}{x y z:List SG}(h1:oz ha hb A B x y=true)(h2:oz hb hc B C y z=true):oz ha hc A C x z=true:=by
 unfold oz at h1 h2⊢;rw [Bool.and_eq_true,decide_eq_true_eq] at h1 h2⊢;exact ⟨h1.1.trans h2.1,An (fun a b c g1 g2=>IV g1 g2) h1.1 h2.1 h1.2 h2.2⟩
theorem HT {ha hb hc:Int→Bool}{A B C:List Int}{x y z:SD}(h1:rC ha hb A B x y=true)(h2:rC hb hc B C y z=true):rC ha hc A C x z=true:=by
 unfold rC at h1 h2⊢;simp only [Bool.and_eq_true,decide_eq_true_eq] at h1 h2⊢;obtain ⟨⟨⟨⟨a1,a2⟩,a3⟩,a4⟩,a5⟩:=h1;obtain ⟨⟨⟨⟨b1,b2⟩,b3⟩,b4⟩,b5⟩:=h2;exact ⟨⟨⟨⟨a1.trans b1,a2.trans b2⟩,a3.trans b3⟩,wg a4 b4⟩,wg a5 b5⟩
theorem GV {N:Nat}{a b c:SB}{x y z:List SG}{A B C:List Int}(h1:lc N a x A b y B=true)(h2:lc N b y B c z C=true):lc N a x A c z C=true:=by
 unfold lc at h1 h2⊢;simp only [Bool.and_eq_true,decide_eq_true_eq] at h1 h2⊢;obtain ⟨⟨a1,a2⟩,a3⟩:=h1;obtain ⟨⟨b1,b2⟩,b3⟩:=h2;exact ⟨⟨a1.trans b1,wg a2 b2⟩,An (fun p q r g1 g2=>HT g1 g2) a1 b1 a3 b3⟩
end
section
open Go.RowKit
theorem sK (N:Nat)(hN:5000<N)(c:SD)(hS:c.Slots.length≤600)(hM:c.More.length≤600):lE N c=some ((cy c).any yB):=by
 have h1:=km c;have h2:=nw c
 have hy: ∀x,lD N x=some (yB x):=fun x=>by
  unfold lD yB;cases decide (0<x)<;>cases decide (x.tmod 2=1)<;>rfl
 unfold lE cy;rw [nr N W c W W,rT N W c W W,bs,bs,Ai N _ yB (bD c) W W (fun x _=>hy x),Ai N _ yB (lf c) W W (fun x _=>hy x),bs,bs,List.any_append];cases (bD c).any yB<;>cases (lf c).any yB<;>rfl
theorem Lj {L:List (Int×Bool)}{a:Int}(h:a∉L.map (·.1)):Bg L a=L:=by
 unfold Bg;rcases IP a L with ⟨i,c, -,h2⟩|⟨h1, -⟩
 ·exact absurd (List.mem_map.2 ⟨_,List.mem_of_getElem? h2,U⟩) h
 rw [h1]
theorem C7 (N:Nat)(hN:5000<N){m:SB}{roots:List SG}(hs:Small m roots): ∃kv,dm N ⟨[]⟩ m=some ⟨kv⟩∧kv.map Prod.fst=lS m:=by
 have ho:=hs.old
 have key:Sat (dm N ⟨[]⟩ m) fun r=>r.at_.map Prod.fst=lS m:=by
  unfold dm np;rw [bs];refine cR (fun k i (s:List (Int×Bool))=>fz N m k (i:Int) s) m.Old.length (fun i s=>s.map Prod.fst=((List.range i).filter (lm m)).map (fun i:Nat=>2*(i:Int)+2)) _ ?_ ?_ N 0 [] W W U
  ·rintro k i s hi h1 go;show Sat (fz N m (k+1) (i:Int) s) _;have hc:=hs.cells _ (SS m.Young (List.getElem_mem hi))
   have hnext:((List.range (i+1)).filter (lm m)).map (fun i:Nat=>2*(i:Int)+2)=((List.range i).filter (lm m)).map (fun i:Nat=>2*(i:Int)+2)++(bif lm m i then [2*(i:Int)+2] else []):=by
    rw [List.range_succ,List.filter_append,List.map_append];cases h:lm m i<;>simp [h]
   have hno:(2*(i:Int)+2)∉s.map Prod.fst:=by
    rw [h1];intro hm;obtain ⟨j,hj,e⟩:=List.mem_map.1 hm;have:=List.mem_range.1 (List.mem_filter.1 hj).1;omega
   have e:(cy m.Old[i]).any yB=lm m i:=by unfold lm;rw [pM m i hi]
   rw [fz.eq_2,cV W,ct,bf hi,bs,r64 W W,r64 W W];unfold dX jv mf;rw [sK N hN _ hc.1 hc.2,e,cV W,ct,qi W,oJ W];simp only [bs,nt,cf];cases h:lm m i
   ·simp only [nf,ct,bs];rw [Lj hno,r64 W W];exact go s (by rw [hnext,h,h1,cf,List.append_nil])
   simp only [nt,cf,bs];rw [r64 W W];refine go (uV s (2*(i:Int)+2) true) ?_;have:=yA s (2*(i:Int)+2) true;rw [if_neg hno] at this;rw [hnext,h,ct, ←h1];exact this
  rintro k s h1;show Sat (fz N m (k+1) _ s) _;rw [fz.eq_2,cQ W,cf];exact aQ h1
 obtain ⟨r,e,h⟩:=key;exact ⟨r.at_,e,h⟩
theorem zC (m:SB):(lS m).Pairwise (· < ·):=by
 have:=HC m;unfold rn at this;rw [Bool.and_eq_true,decide_eq_true_eq] at this;exact this.2
def sm (m:SB)(live f:List Int):List SG:=f.flatMap fun a=>gz live (be m a)
section
variable {N:Nat} {m:SB} {roots:List SG} {live f:List Int} (h:CollCtx N m roots live f)
include h
theorem CollCtx.gone64: ∀v∈(sm m live f).map (bu (mc f) f),in64 v.N:=fun v hv=>by
 have hl:=h.flen;obtain ⟨w,hw,rfl⟩:=List.mem_map.1 hv;refine wJ W ?_;obtain ⟨a,ha,hw⟩:=List.mem_flatMap.1 hw;unfold gz at hw
 cases h10:decide ((be m a).Kind=10) with
 |false=>rw [h10] at hw;cases hw
 | true=>
  rw [h10] at hw;rcases CT hw with rfl|hw
  ·cases hm:(be m a).More with
   |nil=>show in64 0;unfold in64;omega
   |cons x r=>exact h.w64.at_ a x (SS _ (by rw [hm];simp))
  exact h.w64.at_ a w (SS _ (List.mem_of_mem_drop hw))
end
end
section
open Go.RowKit
theorem vU {α β γ:Type}(o:Option α)(f:α→Option β)(g:β→γ):(o.bind f).map g=o.bind fun x=>(f x).map g:=by cases o<;>rfl
theorem Mv {β γ:Type}(c:Prop)[Decidable c](o:Option β)(g:β→γ):(bG c o).map g=bG c (o.map g):=by unfold bG;split<;>rfl
theorem Gl {β γ:Type}(b:Bool)(x y:Option β)(g:β→γ):(bif b then x else y).map g=bif b then x.map g else y.map g:=by cases b<;>rfl
def Ri:(SB×(List SG)×(List SG)×Int) ⊕ (SB×(List SG)×(List SG))→SB×(List SG)×(List SG)×Int
 | .inl x=>x
 | .inr x=>(x.1,x.2.1,x.2.2,0)
theorem PX (N:Nat)(m:SB)(roots:List SG):ne N m roots=(dy N m roots).map Ri:=by
 have e20:jA=lq:=rfl;have e27:jz=lp:=rfl;unfold ne dy;rw [e20,e27,vU]
 congr 1;funext y7
 rw [Gl];cases !decide (y7=0)
 ·simp only [cond_false,vU]
  congr 1;funext y13;congr 1;funext y18;congr 1;funext y22
  unfold oL;split
  ·simp only [vU]
   congr 1;funext y25;congr 1;funext y30
   split
   ·simp only [vU];rfl
   ·rfl
   ·rfl
   rfl
  ·rfl
  ·rfl
  rfl
 rfl
def QY:(SB×(List SG)×(List SG)) ⊕ (SB×(List SG)×(List SG))→SB×(List SG)×(List SG)×Int
 | .inl x=>(x.1,x.2.1,x.2.2,1)
 | .inr x=>(x.1,x.2.1,x.2.2,0)
theorem Mo (N:Nat)(a0:SB)(y13:SA)(a1:List SG)(y20 p26:List Int): ∀(k:Nat) (p72:List SG) (p73:Int) (p74 p75:List SD),dZ N y13 a1 y20 p26 k p72 p73 p74 p75=(fB N y13 a1 y20 p26 a0 k p72 p73 p74 p75).map QY:=by
 intro k
 induction k with
 |zero=>intros;rfl
 |succ k ih=>
  intro p72 p73 p74 p75;rw [dZ.eq_2,fB.eq_2];unfold ln jw og mI;simp only [Gl,vU,Mv,ih];rfl
theorem Mq (N:Nat)(a0:SB)(a1:List SG)(a2 y20:List Int)(y13:SA): ∀(k:Nat) (p29:List SG) (p30:List Int) (p31:Int) (p32:List SD),fk N a0 a1 a2 y20 y13 k p29 p30 p31 p32=(fC N a0 a1 a2 y20 y13 k p29 p30 p31 p32).map QY:=by
 intro k
 induction k with
 |zero=>intros;rfl
 |succ k ih=>
  intro p29 p30 p31 p32;rw [fk.eq_2,fC.eq_2];unfold i6 jx oh mJ;simp only [Gl,vU,Mv,ih,Mo N a0]
theorem PU (N:Nat)(m:SB)(roots:List SG)(kept:List Int):gw N m roots kept=(d5 N m roots kept).map QY:=by
 unfold gw d5;rw [vU]
 congr 1;funext y7
 rw [Gl];cases !y7
 ·simp only [cond_false,vU,Mq]
 rfl
def mS (l:List SD):Nat:=cL (fun c=>c.More.length) l
theorem qB {α:Type}(n:Nat): ∀l:List α,cL (fun _=>n) l=n*l.length
 | []=>by simp [cL]
 |a::l=>by rw [cL,qB n l,List.length_cons,Nat.mul_succ];omega
theorem uZ {α:Type}(g:α→Nat)(x:α): ∀(l:List α) (i:Nat),cL g (l.set i x)≤cL g l+g x
 | [],_=>by simp [cL]
 |a::l,0=>by simp only [List.set_cons_zero,cL];omega
 |a::l,i+1=>by have:=uZ g x l i;simp only [List.set_cons_succ,cL];omega
structure HInv (k:Nat) (g:SK):Prop where
 cnt:g.m_.Young.length+g.m_.Old.length≤k
 cells: ∀c∈g.m_.Young++g.m_.Old,c.Slots.length≤20∧c.More.length≤20
 sum:4*(g.roots_++g.pending_).length+3*(mS g.m_.Young+mS g.m_.Old)≤60*k
 w64:W64 g.m_
 r64: ∀v∈g.roots_++g.pending_,in64 v.N
 nd:(g.set_.at_.map Prod.fst).Nodup
 keys: ∀x∈g.set_.at_.map Prod.fst, ∃i:Nat,i<g.m_.Old.length∧x=2*(i:Int)+2
section
variable {k:Nat} {g:SK} (h:HInv k g)
include h
theorem HInv.up:HInv (k+1) g:=⟨by have:=h.cnt;omega,h.cells,by have:=h.sum;omega,h.w64,h.r64,h.nd,h.keys⟩
theorem HInv.small (hk:k≤40):Small g.m_ (g.roots_++g.pending_):=by
 have h1:=h.cnt;have h2:=h.sum;exact ⟨by omega,by omega,by omega,fun c hc=>by have:=h.cells c hc;omega⟩
theorem HInv.wtd (hk:k≤40):Wtd g.m_ (g.roots_++g.pending_):=by
 have h1:=h.cnt;have h2:=h.sum
 have hw: ∀l:List SD,(∀c∈l,c∈g.m_.Young++g.m_.Old)→wt l≤41*l.length:=fun l hl=>by
  rw [FR, ←qB]
  exact yD fun c hc=>by have:=h.cells c (hl c hc);unfold wC;omega
 have h3:=hw g.m_.Young fun c hc=>SR _ hc
 have h4:=hw g.m_.Old fun c hc=>SS _ hc
 exact ⟨by omega,by omega⟩
theorem HInv.tot (hk:k≤40):cL (fun a=>(be g.m_ a).More.length) (Ak g.m_)≤3600:=by
 have h2:=mN (fun c:SD=>c.More.length) (be g.m_) (Ak g.m_);rw [Aj,pu] at h2;have h3:=h.sum;unfold mS at h3;omega
theorem HInv.withM {hE hP:List SD}{kv:List (Int×Bool)}{d:SD}(hd:d.Slots.length≤20∧d.More.length≤20)(hd64: ∀v∈d.Slots++d.More,in64 v.N)(hY:hE.length+hP.length≤k+1)(hc: ∀c∈hE++hP,c∈g.m_.Young++g.m_.Old∨c=d)(hs:mS hE+mS hP≤mS g.m_.Young+mS g.m_.Old+d.More.length)(nd:(kv.map Prod.fst).Nodup)(keys: ∀x∈kv.map Prod.fst, ∃i:Nat,i<hP.length∧x=2*(i:Int)+2):HInv (k+1) ⟨⟨hE,hP⟩,g.roots_,g.pending_,⟨kv⟩⟩:=by
 have h3:=h.sum;refine ⟨hY,fun c hm=> ?_,?_,fun c hm=> ?_,h.r64,nd,keys⟩
 ·rcases hc c hm with hm|rfl
  ·exact h.cells c hm
  exact hd
 ·show 4*(g.roots_++g.pending_).length+3*(mS hE+mS hP)≤_;omega
 rcases hc c hm with hm|rfl
 ·exact h.w64 c hm
 exact hd64
theorem HInv.withR {r p:List SG}(h1:4*(r++p).length≤4*(g.roots_++g.pending_).length+60)(h2: ∀v∈r++p,in64 v.N):HInv (k+1) ⟨g.m_,r,p,g.set_⟩:=by
 have h3:=h.sum;refine ⟨by have:=h.cnt;show g.m_.Young.length+g.m_.Old.length≤k+1;omega,h.cells,?_,h.w64,h2,h.nd,h.keys⟩;show 4*(r++p).length+3*(mS g.m_.Young+mS g.m_.Old)≤_;omega
theorem wO (N:Nat){a:Int}(ha:in64 a):gx N g a=some (aZ g.m_ a):=by
 have _:=h;unfold gx aW;rw [bs,nf,ct,tK N _ _ ha];rfl
end
theorem BK {N:Nat}(hN:5000<N){c:SD}(h1:c.Slots.length≤1000∧c.More.length≤1000):dL N c=some (cA c):=by
 rw [vh N W c h1.1 h1.2,oO N W c h1.1 h1.2]
theorem Oj {N k:Nat}(hN:5000<N){g:SK}(h:HInv k g)(hk:k<40){c:SD}(h1:c.Slots.length≤20∧c.More.length≤20)(h2: ∀v∈c.Slots++c.More,in64 v.N):
  ii N g c=some (bif cA c then (2*(g.m_.Young.length:Int)+1,0,⟨⟨g.m_.Young++ [⟨c.Kind,c.Shape,c.Flags,0,c.Slots,c.More⟩],g.m_.Old⟩,g.roots_,g.pending_,g.set_⟩) else (0,51,g))∧HInv (k+1) (bif cA c then ⟨⟨g.m_.Young++ [⟨c.Kind,c.Shape,c.Flags,0,c.Slots,c.More⟩],g.m_.Old⟩,g.roots_,g.pending_,g.set_⟩ else g):=by
 have hc:=h.cnt;unfold ii aW;rw [bs,cf,BK hN W,bs]
 cases cA c with
 |false=>exact ⟨rfl,h.up⟩
 | true=>
  have e:((g.m_.Young++ [(⟨c.Kind,c.Shape,c.Flags,0,c.Slots,c.More⟩:SD)]).length:Int)=(g.m_.Young.length:Int)+1:=by simp
  rw [nt,cf,nK N c W,bs,rF (by simp only [List.length_cons,List.length_nil];omega),e,r64 W W,r64 W W,ct,ct];refine ⟨?_,h.withM (d:=⟨c.Kind,c.Shape,c.Flags,0,c.Slots,c.More⟩) h1 h2 ?_ ?_ ?_ h.nd h.keys⟩
  ·rw [show 2*((g.m_.Young.length:Int)+1) - 1=2*(g.m_.Young.length:Int)+1 by omega]
  ·simp only [List.length_append,List.length_cons,List.length_nil];omega
  ·intro d hd;simp only [List.mem_append,List.mem_cons,List.not_mem_nil,or_false] at hd⊢;rcases hd with (hd|hd)|hd
   ·exact .inl (.inl hd)
   ·exact .inr hd
   exact .inl (.inr hd)
  unfold mS;rw [pu];simp only [cL];omega
def xi (c:SD)(a:Int):SD:=⟨c.Kind,c.Shape,c.Flags,a,c.Slots,c.More⟩
def zn (kv:List (Int×Bool))(a:Int)(c:SD):List (Int×Bool):=bif (cy c).any yB then uV kv a true else Bg kv a
theorem KR {N:Nat}(hN:5000<N){c:SD}(h1:c.Slots.length≤600∧c.More.length≤600)(kv:List (Int×Bool))(i:Nat): ∃b,dX N ⟨kv⟩ (2*(i:Int)+2) c=some (b,⟨zn kv (2*(i:Int)+2) c⟩):=by
 unfold dX jv mf zn;rw [cV W,ct,qi W,oJ W,sK N hN c h1.1 h1.2];simp only [bs,nt,cf];cases (cy c).any yB
 ·exact ⟨false,U⟩
 exact ⟨true,U⟩
theorem Ml {kv:List (Int×Bool)}(h:(kv.map Prod.fst).Nodup)(a:Int)(c:SD):((zn kv a c).map Prod.fst).Nodup:=by
 unfold zn;cases (cy c).any yB
 ·exact (FD h a).2.1
 show ((uV kv a true).map (·.1)).Nodup;rw [yA];split
 ·exact h
 rename_i hn
 exact List.nodup_append.2 ⟨h,by simp,fun x hx y hy=>by rintro rfl;exact hn (by rw [List.mem_singleton.1 hy] at hx;exact hx)⟩
theorem Fe {kv:List (Int×Bool)}(h:(kv.map Prod.fst).Nodup)(a:Int)(c:SD)(x:Int):x∈(zn kv a c).map Prod.fst↔((cy c).any yB=true∧(x∈kv.map Prod.fst∨x=a))∨((cy c).any yB=false∧x∈kv.map Prod.fst∧x≠a):=by
 unfold zn;cases (cy c).any yB
 ·simp only [Bool.false_eq_true,false_and,false_or,true_and];exact (FD h a).1 x
 simp only [Bool.true_eq_false,false_and,or_false,true_and];show x∈(uV kv a true).map (·.1)↔(x∈kv.map (·.1)∨x=a);rw [yA];split
 ·rename_i hn
  exact ⟨.inl,fun hx=>hx.elim id fun e=>e▸hn⟩
 rw [List.mem_append,List.mem_singleton]
def pB (g:SK)(a:Int)(c:SD):SK:=
 bif decide (a%2=1) then ⟨⟨g.m_.Young.set (a / 2).toNat (xi c (be g.m_ a).Age),g.m_.Old⟩,g.roots_,g.pending_,g.set_⟩
 else ⟨⟨g.m_.Young,g.m_.Old.set (a / 2 - 1).toNat (xi c (be g.m_ a).Age)⟩,g.roots_,g.pending_,⟨zn g.set_.at_ a c⟩⟩
theorem PO {N k:Nat}(hN:5000<N){g:SK}(h:HInv k g)(hk:k<40){a:Int}(ha:in64 a){c:SD}(h1:c.Slots.length≤20∧c.More.length≤20)(h2: ∀v∈c.Slots++c.More,in64 v.N):
  iK N g a c=some (bif !aZ g.m_ a then (50,g) else bif !cA c then (51,g) else (0,pB g a c))∧HInv (k+1) (bif !aZ g.m_ a then g else bif !cA c then g else pB g a c):=by
 have hc:=h.cnt;unfold iK aW;rw [bs,cf,wO h N ha,bs,BK hN W,bs]
 cases hh:aZ g.m_ a with
 |false=>exact ⟨rfl,h.up⟩
 | true=>
  cases cA c with
  |false=>exact ⟨rfl,h.up⟩
  | true=>
   rw [nt,cf,cf,cf,cf];unfold ja;rcases gp hh with ⟨i,hi,rfl⟩|⟨i,hi,rfl⟩
   ·have e1:(2*(i:Int)+1).tmod 2=1:=by rw [qi W];omega
    have e2:(2*(i:Int)+1).tdiv 2=i:=by rw [Int.tdiv_eq_ediv_of_nonneg W];omega
    have e3:(2*(i:Int)+1) / 2=i:=by omega
    have e4:(2*(i:Int)+1)%2=1:=by omega
    unfold pB;rw [e1,e2,e3,e4,SN (p:=(1:Int)=1) rfl,SO (p:=(1:Int)=0) W,ct,ct,r64 W W,bf hi,bs,bs]
    dsimp only [FW]
    rw [bf hi,bs,nK N c W,bs,cf,uP g.m_ i hi];unfold lu;refine ⟨by rw [List.set_set];rfl,h.withM (d:=xi c g.m_.Young[i].Age) h1 h2 ?_ ?_ ?_ h.nd h.keys⟩
    ·rw [List.length_set];omega
    ·intro d hd;rcases List.mem_append.1 hd with hd|hd
     ·rcases List.mem_or_eq_of_mem_set hd with hd|hd
      ·exact .inl (SR _ hd)
      exact .inr hd
     exact .inl (SS _ hd)
    have:=uZ (fun c:SD=>c.More.length) (xi c g.m_.Young[i].Age) g.m_.Young (i:Int).toNat;unfold mS;omega
   have e1:(2*(i:Int)+2).tmod 2=0:=by rw [qi W];omega
   have e2:(2*(i:Int)+2).tdiv 2=(i:Int)+1:=by rw [Int.tdiv_eq_ediv_of_nonneg W];omega
   have e3:(2*(i:Int)+2) / 2 - 1=i:=by omega
   have e4:(2*(i:Int)+2)%2=0:=by omega
   have e5:(i:Int)+1 - 1=i:=by omega
   obtain ⟨b,hb⟩:=KR hN (c:=c) W g.set_.at_ i;have hb':dX N g.set_ (2*(i:Int)+2) c=some (b,⟨zn g.set_.at_ (2*(i:Int)+2) c⟩):=hb;unfold pB;rw [hb',e1,e2,e3,e4,e5,SO (p:=(0:Int)=1) W,SN (p:=(0:Int)=0) rfl,cf,cf,r64 W W,r64 W W,bf hi,bs,bs]
   dsimp only [FW]
   rw [bf hi,bs,nK N c W,bs,ct,bs,pM g.m_ i hi];unfold ls;refine ⟨by rw [List.set_set];rfl,h.withM (d:=xi c g.m_.Old[i].Age) h1 h2 ?_ ?_ ?_ (Ml h.nd _ _) ?_⟩
   ·rw [List.length_set];omega
   ·intro d hd;rcases List.mem_append.1 hd with hd|hd
    ·exact .inl (SR _ hd)
    rcases List.mem_or_eq_of_mem_set hd with hd|hd
    ·exact .inl (SS _ hd)
    exact .inr hd
   ·have:=uZ (fun c:SD=>c.More.length) (xi c g.m_.Old[i].Age) g.m_.Old (i:Int).toNat;unfold mS;omega
   intro x hx;rw [List.length_set];rcases (Fe h.nd _ _ x).1 hx with ⟨-,hx|rfl⟩|⟨-,hx, -⟩
   ·exact h.keys x hx
   ·exact ⟨i,hi,U⟩
   exact h.keys x hx
def th (g:SK)(i:Int):Bool:=decide (0≤i)&&decide (i<(g.roots_.length:Int))
theorem EW {g:SK}{i:Int}(h:th g i=true): ∃j:Nat,i=j∧j<g.roots_.length:=by
 unfold th at h;rw [Bool.and_eq_true,decide_eq_true_eq,decide_eq_true_eq] at h;exact ⟨i.toNat,by omega,by omega⟩
theorem KB (N:Nat)(g:SK)(i:Int):mr N g i=some (bif th g i then g.roots_.getD i.toNat vZ else vZ):=by
 unfold mr aW
 cases hb:th g i with
 |true=>
  obtain ⟨j,rfl,hj⟩:=EW hb;rw [bs,cf,bs,SO (p:=(j:Int)<0) W,cf,bs,SO (p:=(g.roots_.length:Int)≤(j:Int)) W,cf,bf hj,bs,ct,Int.toNat_natCast,List.getD_eq_getElem?_getD,List.getElem?_eq_getElem hj];rfl
 |false=>
  unfold th at hb;rw [bs,cf,bs,cf];by_cases h1:i<0
  ·rw [cV h1,ct,bs];rfl
  rw [SO h1,cf,bs];rw [SN (p:=(0:Int)≤i) W,Bool.true_and,decide_eq_false_iff_not] at hb;rw [SN (p:=(g.roots_.length:Int)≤i) W];rfl
theorem C0 {N k:Nat}{g:SK}(h:HInv k g){i:Int}{v:SG}(hv:in64 v.N):
  dS N g i v=some (bif th g i then (true,⟨g.m_,g.roots_.set i.toNat v,g.pending_,g.set_⟩) else (false,g))∧HInv (k+1) (bif th g i then ⟨g.m_,g.roots_.set i.toNat v,g.pending_,g.set_⟩ else g):=by
 unfold dS aW
 cases hb:th g i with
 | true=>
  obtain ⟨j,rfl,hj⟩:=EW hb;rw [bs,cf,bs,SO (p:=(j:Int)<0) W,cf,bs,SO (p:=(g.roots_.length:Int)≤(j:Int)) W,cf,bf hj,bs,ct,ct];refine ⟨U,h.withR ?_ fun w hw=> ?_⟩
  ·simp only [List.length_append,List.length_set];omega
  rcases List.mem_append.1 hw with hw|hw
  ·rcases List.mem_or_eq_of_mem_set hw with hw|rfl
   ·exact h.r64 w (SR _ hw)
   exact hv
  exact h.r64 w (SS _ hw)
 |false=>
  refine ⟨?_,h.up⟩;unfold th at hb;rw [bs,cf,bs,cf];by_cases h1:i<0
  ·rw [cV h1,ct,bs];rfl
  rw [SO h1,cf,bs];rw [SN (p:=(0:Int)≤i) W,Bool.true_and,decide_eq_false_iff_not] at hb;rw [SN (p:=(g.roots_.length:Int)≤i) W];rfl
theorem MD {N k:Nat}{g:SK}(h:HInv k g){a:Int}(ha:in64 a):ov N g a=some (bif aZ g.m_ a then (be g.m_ a,true) else (⟨0,0,0,0,[],[]⟩,false)):=by
 unfold ov;rw [wO h N ha,bs]
 cases hh:aZ g.m_ a with
 |false=>rfl
 | true=>
  have hc:=h.cells _ (pn hh);have hi64:in64 a:=ha;unfold ja;rcases gp hh with ⟨i,hi,rfl⟩|⟨i,hi,rfl⟩
  ·have e1:(2*(i:Int)+1).tmod 2=1:=by rw [qi W];omega
   have e2:(2*(i:Int)+1).tdiv 2=i:=by rw [Int.tdiv_eq_ediv_of_nonneg W];omega
   rw [uP g.m_ i hi] at hc⊢;unfold in64 at hi64;rw [nt,cf,e1,e2,SN (p:=(1:Int)=1) rfl,ct,r64 W W,bf hi,bs,bs]
   dsimp only [FW]
   rw [bf hi,bs,nK N _ W,bs];rfl
  have e1:(2*(i:Int)+2).tmod 2=0:=by rw [qi W];omega
  have e2:(2*(i:Int)+2).tdiv 2=(i:Int)+1:=by rw [Int.tdiv_eq_ediv_of_nonneg W];omega
  have e5:(i:Int)+1 - 1=i:=by omega
  rw [pM g.m_ i hi] at hc⊢;unfold in64 at hi64;rw [nt,cf,e1,e2,e5,SO (p:=(0:Int)=1) W,cf,r64 W W,r64 W W,bf hi,bs,bs]
  dsimp only [FW]
  rw [bf hi,bs,nK N _ W,bs];rfl
end
section
open Go.RowKit
theorem Js (l:List Int)(cb:SG): ∀xs:List SG,4*(jE l cb xs).length+3*(eP l xs).length≤3*xs.length
 | []=>by simp [eP,jE]
 | [_]=>by simp [eP,jE]
 | [_,_]=>by simp [eP,jE]
 | [_,_,_]=>by simp [eP,jE]
 |t::h::k::s::r=>by
  have:=Js l cb r;unfold eP jE;cases decide (t.N∈l)<;>simp<;>omega
theorem MZ (N:Nat)(l:List Int)(c:SD):4*(gz l c).length+3*(ju N l c).More.length≤3*c.More.length:=by
 have h1:=(pj N l c).2;by_cases h10:c.Kind=10
 ·have:=Js l (c.More.headD ld) (c.More.drop 1);unfold ju gz;rw [SN h10,SO (p:=c.Kind=8) W];show 4*(jE l (c.More.headD ld) (c.More.drop 1)).length+3*(c.More.take 1++eP l (c.More.drop 1)).length≤_;rw [List.length_append,List.length_take];rw [List.length_drop] at this;omega
 have e:gz l c=[]:=by unfold gz;rw [SO h10];rfl
 rw [e] at h1⊢;simp only [List.length_nil] at h1⊢;omega
theorem yC {α:Type}(n:Nat)(g:α→Nat): ∀l:List α,cL (fun x=>n*g x) l=n*cL g l
 | []=>by simp [cL]
 |a::l=>by simp only [cL];rw [yC n g l,Nat.mul_add]
theorem PY (m:SB):cL (fun a=>(be m a).More.length) (Ak m)=mS m.Young+mS m.Old:=by
 have h3:=mN (fun c:SD=>c.More.length) (be m) (Ak m);rw [Aj,pu] at h3;exact h3.symm
theorem Px {N:Nat}{m:SB}{lv f:List Int}(hn:f.Nodup)(hf: ∀a∈f,aZ m a=true):4*(f.flatMap fun a=>gz lv (be m a)).length+3*cL (fun a=>(ju N lv (be m a)).More.length) f≤3*(mS m.Young+mS m.Old):=by
 rw [wc]
 have h1:cL (fun a=>4*(gz lv (be m a)).length+3*(ju N lv (be m a)).More.length) f≤cL (fun a=>3*(be m a).More.length) f:=yD fun a _=>MZ N lv (be m a)
 rw [CW,yC,yC,yC] at h1
 have h2:=pt (fun a=>(be m a).More.length) hn fun a ha=>tC (hf a ha)
 rw [PY] at h2;omega
theorem PL {m:SB}(hw:W64 m){lv:List Int}{a:Int}{v:SG}(h:v∈gz lv (be m a)):in64 v.N:=by
 unfold gz at h
 cases h10:decide ((be m a).Kind=10) with
 |false=>rw [h10] at h;cases h
 | true=>
  rw [h10] at h;rcases CT h with rfl|h
  ·cases hm:(be m a).More with
   |nil=>show in64 0;unfold in64;omega
   |cons x r=>exact hw.at_ a x (SS _ (by rw [hm];simp))
  exact hw.at_ a v (SS _ (List.mem_of_mem_drop h))
theorem sw (N:Nat)(a b:List SG)(ha:a.length≤100000)(hb:b.length≤100000):cD N a b=some (a++b):=by
 unfold cD ke kX gH jG;rw [r64 W W,cQ (a:=0+(a.length:Int)) W,cf,r64 W W,cQ (a:=0+(a.length:Int)+(b.length:Int)) W,cf,r64 W W,r64 W W,cf];by_cases h:0<a.length+b.length
 ·rw [cV W,ct,kD ⟨by omega,by omega⟩,bs,rF (by simp;omega),rF (by simp;omega)];rfl
 rw [cQ W,cf,bs,rF (by simp;omega),rF (by simp;omega)];rfl
theorem D6 (N:Nat)(a:List SG)(ha:a.length≤100000):df N a=some a:=by
 unfold df;rw [rF (by simp;omega)];rfl
theorem si (N:Nat)(g:SK)(h:g.roots_.length≤600):fo N g=some g.roots_:=by
 unfold fo aW;rw [bs,cf,D6 N _ W,bs]
theorem BL (N:Nat)(l:List SD)(hl:l.length<N)(h1:l.length≤600)(hc: ∀c∈l,c.Slots.length≤600∧c.More.length≤600):kI N l=some l:=by
 apply Sat.eq;unfold kI;refine cR (fun k i (s:List SD)=>ie N l k s (i:Int)) l.length (fun i s=>s=l.take i) _ ?_ ?_ N 0 [] W W (by simp)
 ·rintro k i s hi rfl go;show Sat (ie N l (k+1) _ (i:Int)) _;rw [ie.eq_2,cV W,ct,bf hi,bs,nK N _ (hc _ (List.getElem_mem hi)),bs,rF (by simp;omega),r64 W W];exact go _ (bi hi).symm
 rintro k s rfl;show Sat (ie N l (k+1) _ (l.length:Int)) _;rw [ie.eq_2,cQ W,cf,List.take_length];exact aQ U
theorem Fm {N:Nat}(hN:5000<N){g:SK}{roots:List SG}(h:Small g.m_ roots):iu N g=some (g.m_,g):=by
 have h1:=h.young;have h2:=h.old;unfold iu aW;rw [bs,cf,BL N _ W h1 (fun c hc=>h.cells c (SR _ hc)),bs,BL N _ W h2 (fun c hc=>h.cells c (SS _ hc)),bs]
section
variable {k:Nat} {g:SK} (h:HInv k g)
include h
theorem HInv.klen:g.set_.at_.length≤g.m_.Old.length:=by
 have h1:=pt (fun _=>1) h.nd (L:=cz g.m_.Old.length) fun x hx=>gq.2 (h.keys x hx)
 rw [qB,qB,List.length_map] at h1;unfold cz at h1;simp only [List.length_map,List.length_range] at h1;omega
theorem HInv.keysH {x:Int}(hx:x∈f0 g.set_.at_):aZ g.m_ x=true:=by
 obtain ⟨i,hi,rfl⟩:=h.keys x ((oM _ x).1 hx);rw [qb,SN hi]
theorem HInv.kslen:(f0 g.set_.at_).length≤g.m_.Old.length:=by
 have h1:=h.klen;have e:(f0 g.set_.at_).length=(g.set_.at_.map Prod.fst).length:=qC _;rw [e,List.length_map];omega
theorem DT (N:Nat)(hk:k≤40):iP N g.set_=some (f0 g.set_.at_):=by
 have h1:=h.klen;have h2:=(h.small hk).old;unfold iP vS pP;rw [bs,kD ⟨fun x hx=>wN (h.small hk) (by obtain ⟨i,hi,rfl⟩:=h.keys x hx;rw [qb,SN hi]),h.nd,by show bZ g.set_.at_.length;unfold bZ;omega⟩,bs]
end
theorem HA {m:SB}{kv:List (Int×Bool)}(h:kv.map Prod.fst=lS m):(kv.map Prod.fst).Nodup∧ ∀x∈kv.map Prod.fst, ∃i:Nat,i<m.Old.length∧x=2*(i:Int)+2:=by
 rw [h];refine ⟨(zC m).imp fun hab e=>by omega,fun x hx=> ?_⟩;obtain ⟨i,hi, -,e⟩:=qG.1 hx;exact ⟨i,hi,e⟩
theorem Jr {N:Nat}(f:SG→SG)(r p gone:List SG){R:Type}(F:List SG→List SG→Option R)(h1:r.length+p.length≤600)(h2:gone.length≤600):
  bG ((0:Int)≤(r.length:Int)∧0≤(r.length:Int).toNat∧(r.length:Int).toNat≤((r++p).map f).length) (bG ((0:Int)≤(r.length:Int)∧(r.length:Int).toNat≤((r++p).map f).length∧((r++p).map f).length≤((r++p).map f).length) ((df N ((((r++p).map f).drop 0).take ((r.length:Int).toNat - 0))).bind fun y43=>(cD N ((((r++p).map f).drop ((r.length:Int).toNat)).take (((r++p).map f).length - (r.length:Int).toNat)) gone).bind fun y46=>F y43 y46))=F (r.map f) (p.map f++gone):=by
 have e1:(((r++p).map f).drop 0).take ((r.length:Int).toNat - 0)=r.map f:=by
  rw [List.drop_zero,Nat.sub_zero,Int.toNat_natCast,List.map_append,List.take_left' (by simp)]
 have e2:(((r++p).map f).drop ((r.length:Int).toNat)).take (((r++p).map f).length - (r.length:Int).toNat)=p.map f:=by
  rw [Int.toNat_natCast,List.map_append,List.drop_left' (by simp)];exact List.take_of_length_le (by simp)
 have hl:((r++p).map f).length=r.length+p.length:=by simp
 rw [kD ⟨by omega,by omega,by omega⟩,kD ⟨by omega,by omega,by omega⟩,e1,e2,D6 N _ (by simp;omega),bs,sw N _ _ (by simp;omega) W,bs]
section
variable {N:Nat} {m:SB} {roots:List SG} {kept met:List Int} (h:MinCtx N m roots kept met)
include h
theorem MinCtx.mid4:4*(rj m met).length+3*(mS (jK N m met).Young+mS (jK N m met).Old)≤3*(mS m.Young+mS m.Old):=by
 have h1:=Px (N:=N) (lv:=fT m met) h.nd fun a ha=>h.f1has ha
 have h2:=h.midSum fun c=>c.More.length
 have h3:cL (fun a=>(oG N m met a).More.length) (fT m met)=cL (fun a=>(ju N (fT m met) (be m a)).More.length) (fT m met):=qN fun a _=>by
  show ((ju N (fT m met) (be m a)).More.map _).length=_;rw [List.length_map]
 unfold mS rj at*;omega
theorem MinCtx.gone64: ∀v∈(rj m met).map (bu (dx m met) met),in64 v.N:=fun v hv=>by
 obtain ⟨w,hw,rfl⟩:=List.mem_map.1 hv;rw [←vN];obtain ⟨a, -,hw⟩:=List.mem_flatMap.1 hw;exact h.mov64 (PL h.w64 hw)
end
section
variable {N:Nat} {m:SB} {roots:List SG} {live f:List Int} (h:CollCtx N m roots live f)
include h
theorem CollCtx.next4:4*(sm m live f).length+3*(mS (dP N m live f).Young+mS (dP N m live f).Old)≤3*(mS m.Young+mS m.Old):=by
 have h1:=Px (N:=N) (lv:=live) h.lv.nd fun a ha=>h.lv.fhas ha
 have h3:mS (dP N m live f).Old=cL (fun a=>(ju N live (be m a)).More.length) f:=by
  show cL (fun c:SD=>c.More.length) (f.map fun a=>gl (mc f) f (ju N live (be m a)))=_;rw [mN]
  exact qN fun a _=>by show ((ju N live (be m a)).More.map _).length=_;rw [List.length_map]
 have h4:mS (dP N m live f).Young=0:=rfl;unfold sm at*;omega
theorem CollCtx.nextCnt:(dP N m live f).Old.length≤m.Young.length+m.Old.length:=by
 have h1:=pt (fun _=>1) h.lv.nd fun a ha=>tC (h.lv.fhas ha)
 rw [qB,qB] at h1;unfold Ak at h1;unfold dP;simp only [List.length_append,List.length_map,List.length_range] at h1⊢;omega
theorem CollCtx.nextCell {c:SD}(hc:c∈(dP N m live f).Young++(dP N m live f).Old): ∃a∈f,c.Slots.length=(be m a).Slots.length∧c.More.length≤(be m a).More.length:=by
 have _:=h
 have hc':c∈f.map fun a=>gl (mc f) f (ju N live (be m a)):=hc
 obtain ⟨a,ha,rfl⟩:=List.mem_map.1 hc';have:=pj N live (be m a);refine ⟨a,ha,?_,?_⟩
 ·show ((ju N live (be m a)).Slots.map _).length=_;rw [List.length_map];exact this.1
 show ((ju N live (be m a)).More.map _).length≤_;rw [List.length_map];omega
end
theorem P1 {N k:Nat}(hN:5000<N){g:SK}(h:HInv k g)(hk:k≤40):
  (DJ N g.m_ (g.roots_++g.pending_) (f0 g.set_.at_)=false∧fq N g=some (1,g))∨
  ∃met kv,MinCtx N g.m_ (g.roots_++g.pending_) (f0 g.set_.at_) met∧kv.map Prod.fst=lS (jK N g.m_ met)∧
   fq N g=some (0,⟨jK N g.m_ met,g.roots_.map (bu (dx g.m_ met) met),g.pending_.map (bu (dx g.m_ met) met)++(rj g.m_ met).map (bu (dx g.m_ met) met),⟨kv⟩⟩)∧
   HInv k ⟨jK N g.m_ met,g.roots_.map (bu (dx g.m_ met) met),g.pending_.map (bu (dx g.m_ met) met)++(rj g.m_ met).map (bu (dx g.m_ met) met),⟨kv⟩⟩:=by
 have hs:=h.small hk;have hkl:=h.kslen;have ho:=hs.old;have hrl:=hs.roots;have hsum:=h.sum;have hcnt:=h.cnt;rw [List.length_append] at hrl hsum;have hm:=PU N g.m_ (g.roots_++g.pending_) (f0 g.set_.at_)
 have head:fq N g=((d5 N g.m_ (g.roots_++g.pending_) (f0 g.set_.at_)).bind fun y13=>FW y13 (fun y13_0=>some (.inl (y13_0.1,y13_0.2.1,y13_0.2.2))) (fun y13_1=>some (.inr (y13_1.1,y13_1.2.1,y13_1.2.2)))).bind fun y26=>(FW y26 (fun y26_0:SB×(List SG)×(List SG)=>gc N g y26_0.1.Young y26_0.1.Old y26_0.2.1 y26_0.2.2) (fun y26_1:SB×(List SG)×(List SG)=>d7 N g y26_1.1.Young y26_1.1.Old y26_1.2.1 y26_1.2.2)).bind fun y9=>some (y9.1,y9.2):=by
  unfold fq gM lU aW;rw [bs,cf,sw N _ _ W W,bs,DT h N hk,bs,Option.bind_assoc]
 cases hmay:DJ N g.m_ (g.roots_++g.pending_) (f0 g.set_.at_) with
 | false=>
  have e1:gw N g.m_ (g.roots_++g.pending_) (f0 g.set_.at_)=some (⟨[],[]⟩,[],[],1):=by
   unfold gw;rw [Fh N hN hs h.w64 h.r64 _ W (fun x hx=>wN hs (h.keysH hx)),hmay,bs,nf,ct]
  rw [e1] at hm;refine .inl ⟨U,?_⟩;rw [head]
  cases hc:d5 N g.m_ (g.roots_++g.pending_) (f0 g.set_.at_) with
  |none=>rw [hc] at hm;cases hm
  | some y=>
   rw [hc] at hm
   cases y with
   |inl y=>rfl
   |inr y=>
    have:=Option.some.inj hm;have:=congrArg (fun z:SB×(List SG)×(List SG)×Int=>z.2.2.2) this;exact absurd this (by show¬(1:Int)=0;omega)
 | true=>
  obtain ⟨met,c⟩:=Oi hN hs h.w64 h.r64 (h.tot hk) (kept:=f0 g.set_.at_) W hmay;have h4:=c.mid4;have hmc:=c.midCnt;obtain ⟨kv,k1,k2⟩:=C7 N hN (m:=jK N g.m_ met) (c.midS W [] (by simp));have hg:((rj g.m_ met).map (bu (dx g.m_ met) met)).length=(rj g.m_ met).length:=List.length_map _;refine .inr ⟨met,kv,c,k2,?_,?_⟩
  ·rw [Ms c] at hm;rw [head]
   have ek:d5 N g.m_ (g.roots_++g.pending_) (f0 g.set_.at_)=some (.inr (jK N g.m_ met,(g.roots_++g.pending_).map (bu (dx g.m_ met) met),(rj g.m_ met).map (bu (dx g.m_ met) met))):=by
    cases hc:d5 N g.m_ (g.roots_++g.pending_) (f0 g.set_.at_) with
    |none=>rw [hc] at hm;cases hm
    | some y=>
     rw [hc] at hm;have e:=Option.some.inj hm
     cases y with
     |inl y=>
      have:=congrArg (fun z:SB×(List SG)×(List SG)×Int=>z.2.2.2) e;exact absurd this (by show¬(0:Int)=1;omega)
     |inr y=>
      obtain ⟨y1,y2,y3⟩:=y;have e':=e;simp only [QY,Prod.mk.injEq,and_true] at e';obtain ⟨rfl,rfl,rfl⟩:=e';rfl
   rw [ek,bs]
   dsimp only [FW]
   rw [bs]
   dsimp only
   unfold d7 f9;rw [Jr (N:=N) (bu (dx g.m_ met) met) g.roots_ g.pending_ _ _ W W];have k1':dm N g.set_ (⟨(jK N g.m_ met).Young,(jK N g.m_ met).Old⟩:SB)=some ⟨kv⟩:=k1;rw [k1',bs,bs]
  obtain ⟨n1,n2⟩:=HA k2;refine ⟨by show (jK N g.m_ met).Young.length+(jK N g.m_ met).Old.length≤k;omega,fun d hd=> ?_,?_,c.midW,fun v hv=> ?_,n1,n2⟩
  ·obtain ⟨a,ha,rfl⟩:=c.midMem hd;have h1:=c.cellLe ha;have h2:=h.cells _ (pn (c.f1has ha));omega
  ·show 4*(g.roots_.map (bu (dx g.m_ met) met)++(g.pending_.map (bu (dx g.m_ met) met)++(rj g.m_ met).map (bu (dx g.m_ met) met))).length+3*(mS (jK N g.m_ met).Young+mS (jK N g.m_ met).Old)≤60*k;simp only [List.length_append,List.length_map];omega
  have hv':v∈(g.roots_++g.pending_).map (bu (dx g.m_ met) met)∨v∈(rj g.m_ met).map (bu (dx g.m_ met) met):=by
   rw [←List.mem_append,List.map_append,SQ];exact hv
  rcases hv' with hv'|hv'
  ·rw [c.nowE] at hv';exact c.now64 v hv'
  exact c.gone64 v hv'
theorem II {N:Nat}{m:SB}{R:List SG}(h0:kS N m R=some 0){y:SB×List SG×List SG×Int}(h:dy N m R=some (.inl y)):False:=by
 unfold dy at h;rw [h0,bs,SN (p:=(0:Int)=0) rfl,nt,cf] at h;obtain ⟨y13, -,h⟩:=aa h;obtain ⟨y18, -,h⟩:=aa h;obtain ⟨y22, -,h⟩:=aa h;unfold oL at h;split at h
 ·obtain ⟨y25, -,h⟩:=aa h;obtain ⟨y30, -,h⟩:=aa h;split at h
  ·obtain ⟨y65, -,h⟩:=aa h;obtain ⟨y67, -,h⟩:=aa h;cases h
  ·cases h
  ·cases h
  cases h
 ·cases h
 ·cases h
 cases h
theorem P2 {N k:Nat}(hN:5000<N){g:SK}(h:HInv k g)(hk:k≤40):
  (mM N g.m_ (g.roots_++g.pending_)≠0∧cT N g=some (mM N g.m_ (g.roots_++g.pending_),g))∨
  ∃live f kv,CollCtx N g.m_ (g.roots_++g.pending_) live f∧kv.map Prod.fst=lS (dP N g.m_ live f)∧
   cT N g=some (0,⟨dP N g.m_ live f,g.roots_.map (bu (mc f) f),g.pending_.map (bu (mc f) f)++(sm g.m_ live f).map (bu (mc f) f),⟨kv⟩⟩)∧
   HInv k ⟨dP N g.m_ live f,g.roots_.map (bu (mc f) f),g.pending_.map (bu (mc f) f)++(sm g.m_ live f).map (bu (mc f) f),⟨kv⟩⟩:=by
 have hs:=h.small hk;have hrl:=hs.roots;have hsum:=h.sum;have hcnt:=h.cnt;rw [List.length_append] at hrl hsum;obtain ⟨live,f,hl⟩:=Ol N hN hs h.w64 h.r64;have hp:=GE N hN hs (h.wtd hk) h.w64 h.r64 hl;have hm:=PX N g.m_ (g.roots_++g.pending_);rw [hp] at hm;unfold MY at hm
 have head:cT N g=((dy N g.m_ (g.roots_++g.pending_)).bind fun y11=>FW y11 (fun y11_0=>some (.inl (y11_0.1,y11_0.2.1,y11_0.2.2.1,y11_0.2.2.2))) (fun y11_1=>some (.inr (y11_1.1,y11_1.2.1,y11_1.2.2)))).bind fun y27=>(FW y27 (fun y27_0:SB×(List SG)×(List SG)×Int=>d9 N g y27_0.1.Young y27_0.1.Old y27_0.2.1 y27_0.2.2.1 y27_0.2.2.2) (fun y27_1:SB×(List SG)×(List SG)=>d8 N g y27_1.1.Young y27_1.1.Old y27_1.2.1 y27_1.2.2)).bind fun y9=>some (y9.1,y9.2):=by
  unfold cT gN lV aW;rw [bs,cf,sw N _ _ W W,bs,Option.bind_assoc]
 by_cases h0: ¬mM N g.m_ (g.roots_++g.pending_)=0
 ·rw [gG h0,cond_false] at hm;refine .inl ⟨h0,?_⟩;rw [head]
  cases hc:dy N g.m_ (g.roots_++g.pending_) with
  |none=>rw [hc] at hm;cases hm
  | some y=>
   rw [hc] at hm;have e:=congrArg (fun z:SB×(List SG)×(List SG)×Int=>z.2.2.2) (Option.some.inj hm)
   cases y with
   |inl y=>
    obtain ⟨y1,y2,y3,y4⟩:=y;have e':mM N g.m_ (g.roots_++g.pending_)=y4:=e;rw [bs]
    dsimp only [FW]
    rw [bs]
    dsimp only
    unfold d9;rw [←e',gG h0,nf,ct,bs]
   |inr y=>exact absurd e h0
 replace h0:mM N g.m_ (g.roots_++g.pending_)=0:=by omega
 rw [oJ h0,cond_true] at hm;have c:=P9 hN hs (h.wtd hk) h.w64 h.r64 hl h0;have h4:=c.next4;have hnc:=c.nextCnt;have h0n:(dP N g.m_ live f).Young.length=0:=rfl;obtain ⟨kv,k1,k2⟩:=C7 N hN (m:=dP N g.m_ live f) (c.nextS [] (by simp));have k1':dm N g.set_ (⟨(dP N g.m_ live f).Young,(dP N g.m_ live f).Old⟩:SB)=some ⟨kv⟩:=k1;have hg:((sm g.m_ live f).map (bu (mc f) f)).length=(sm g.m_ live f).length:=List.length_map _;refine .inr ⟨live,f,kv,c,k2,?_,?_⟩
 ·rw [head]
  cases hc:dy N g.m_ (g.roots_++g.pending_) with
  |none=>rw [hc] at hm;cases hm
  | some y=>
   rw [hc] at hm;have e:=Option.some.inj hm
   cases y with
   |inl y=>exact (II (by rw [Eb N hN hs (h.wtd hk) h.w64 h.r64,h0]) hc).elim
   |inr y=>
    obtain ⟨y1,y2,y3⟩:=y;simp only [Ri,Prod.mk.injEq,and_true] at e;obtain ⟨rfl,rfl,rfl⟩:=e;rw [bs]
    dsimp only [FW]
    rw [bs]
    dsimp only
    unfold d8 ge;unfold HU
    dsimp only
    rw [Jr (N:=N) (bu (mc f) f) g.roots_ g.pending_ _ _ W (by unfold sm at hg;rw [hg];unfold sm at h4;omega)];have k2':dm N g.set_ (⟨[],f.map fun a=>gl (mc f) f (ju N live (be g.m_ a))⟩:SB)=some ⟨kv⟩:=k1;rw [k2',bs,bs];rfl
 obtain ⟨n1,n2⟩:=HA k2;refine ⟨by show (dP N g.m_ live f).Young.length+(dP N g.m_ live f).Old.length≤k;omega,fun d hd=> ?_,?_,c.nextW,fun v hv=> ?_,n1,n2⟩
 ·obtain ⟨a,ha,h1,h1'⟩:=c.nextCell hd;have h2:=h.cells _ (pn (c.lv.fhas ha));omega
 ·show 4*(g.roots_.map (bu (mc f) f)++(g.pending_.map (bu (mc f) f)++(sm g.m_ live f).map (bu (mc f) f))).length+3*(mS (dP N g.m_ live f).Young+mS (dP N g.m_ live f).Old)≤60*k;simp only [List.length_append,List.length_map];omega
 have hv':v∈(g.roots_++g.pending_).map (bu (mc f) f)∨v∈(sm g.m_ live f).map (bu (mc f) f):=by
  rw [←List.mem_append,List.map_append,SQ];exact hv
 rcases hv' with hv'|hv'
 ·exact c.now64 v hv'
 exact c.gone64 v hv'
end
section
open Go.RowKit
def RN (x:SE):Prop:=in64 x.N∧in64 x.V.N∧ ∀v∈x.C.Slots++x.C.More,in64 v.N
def RO (x:SE):Bool:=decide (x.C.Slots.length≤20)&&decide (x.C.More.length≤20)
theorem Of:HInv 0 ⟨⟨[],[]⟩,[],[],⟨[]⟩⟩:=by
 refine ⟨Nat.le_refl _,fun c hc=> ?_,?_,fun c hc=> ?_,fun v hv=> ?_,by simp,fun x hx=> ?_⟩
 ·cases hc
 ·exact Nat.le_refl _
 ·cases hc
 ·cases hv
 cases hx
end
end Go.Proofs.YtmimkglhbmcokaaGreat