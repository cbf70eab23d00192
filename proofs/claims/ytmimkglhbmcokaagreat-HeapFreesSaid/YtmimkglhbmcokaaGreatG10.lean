/- Merged texts: part 10. No conditions of their own. -/
import Derived.Test.YtmimkglhbmcokaaGreatG9
import Derived.Test.YtmimkglhbmcokaaGreatG3
namespace Go.Proofs.YtmimkglhbmcokaaGreat
open Go.RowKit
structure Mild (g:DValue→DValue):Prop where
 z:g vZ=vZ
 kind: ∀v,(g v).Kind=v.Kind
 num: ∀v,v.Kind=3→g v=v
 may: ∀v,mL v=true→mL (g v)=true
section
variable {g:DValue→DValue} (h:Mild g)
include h
theorem Mild.at_ (l:List DValue)(i:Nat):mh (l.map g) i=g (mh l i):=by
 unfold mh;simp only [List.getD,List.getElem?_map]
 cases l[i]? with
 |none=>exact h.z.symm
 |some v=>rfl
theorem Mild.numB (v:DValue)(a b:Int):Go.Proofs.YtmimkglhbmcokaaGreat.numB (g v) a b=Go.Proofs.YtmimkglhbmcokaaGreat.numB v a b:=by
 unfold Go.Proofs.YtmimkglhbmcokaaGreat.numB;by_cases h3:v.Kind=3
 ·rw [h.num v h3]
 rw [h.kind,decide_eq_false h3];rfl
theorem Mild.noneB (v:DValue)(k:Int):Go.Proofs.YtmimkglhbmcokaaGreat.noneB (g v) k=Go.Proofs.YtmimkglhbmcokaaGreat.noneB v k:=by
 unfold Go.Proofs.YtmimkglhbmcokaaGreat.noneB;rw [h.kind]
theorem Mild.ent2: ∀l:List DValue,ld (l.map g)=ld l
 | []=>rfl
 | [_]=>rfl
 |k::v::r=>by
  simp only [List.map_cons];simp only [ir];rw [h.kind,h.kind,Mild.ent2 r]
theorem Mild.ent4: ∀l:List DValue,f3 (l.map g)=f3 l
 | []=>rfl
 | [_]=>rfl
 | [_,_]=>rfl
 | [_,_,_]=>rfl
 |t::v::k::s::r=>by
  simp only [List.map_cons];simp only [eR];rw [h.kind,h.kind,h.noneB,h.numB,Mild.ent4 r]
theorem Mild.slots (k sh fl:Int)(l:List DValue):mi k sh fl (l.map g)=mi k sh fl l:=by
 unfold mi;simp only [List.length_map,h.at_,h.kind,h.noneB]
theorem Mild.more (k:Int)(l:List DValue):nF k (l.map g)=nF k l:=by
 unfold nF;rw [←List.map_drop,h.ent2,h.ent4];simp only [List.length_map,h.at_,h.kind,h.noneB,h.numB]
theorem Mild.all {l:List DValue}(hl:l.all mL=true):(l.map g).all mL=true:=by
 rw [List.all_eq_true] at hl⊢;intro v hv;obtain ⟨w,hw,rfl⟩:=List.mem_map.1 hv;exact h.may w (hl w hw)
theorem Mild.right {c:DCell}(hc:cX c=true):cX ⟨c.Kind,c.Shape,c.Flags,c.Age,c.Slots.map g,c.More.map g⟩=true:=by
 unfold cX at hc⊢;simp only [Bool.and_eq_true] at hc;obtain ⟨h1,h2,h3,h4,h5⟩:=hc;simp only [h.slots,h.more,h.all h2,h.all h3,h4,h5,Bool.and_true];simp only [Bool.and_eq_true];exact h1
end
theorem EV {v:DValue}(hb:bH v=true):mL v=((v.S.toList==(⟨#[]⟩:ByteArray).toList)&&decide (1≤v.N)):=by
 have hk:v.Kind=7∨v.Kind=9:=by
  unfold bH at hb;rw [Bool.or_eq_true,decide_eq_true_eq,decide_eq_true_eq] at hb;exact hb
 unfold mL fL;rcases hk with hk|hk<;>rw [hk]<;>cases (v.S.toList==(⟨#[]⟩:ByteArray).toList)<;>rfl
structure Ren (ρ:Int→Int) (f:List Int):Prop where
 inj: ∀a b,a∈f→b∈f→ρ a=ρ b→a=b
 pos: ∀a∈f,1≤ρ a
theorem Ht {ρ:Int→Int}{f:List Int}(hρ:Ren ρ f):Mild (bM ρ f) where
 z:=rfl
 kind v:=by unfold bM;cases bH v&&decide (v.N∈f)<;>rfl
 num v h:=by
  have:bH v=false:=by unfold bH;rw [h];rfl
  unfold bM;rw [this];rfl
 may v h:=by
  cases hb:bH v&&decide (v.N∈f) with
  |false=>unfold bM;rw [hb];exact h
  |true=>
   have hb0:=(Bool.and_eq_true _ _▸hb:bH v=true∧decide (v.N∈f)=true);have hb1:=hb0.1
   have e:bM ρ f v=⟨v.Kind,ρ v.N,v.S⟩:=by unfold bM;rw [hb];rfl
   have hb2:bH (⟨v.Kind,ρ v.N,v.S⟩:DValue)=true:=hb1;rw [e,EV hb2];rw [EV hb1,Bool.and_eq_true] at h;rw [Bool.and_eq_true];exact ⟨h.1,decide_eq_true (hρ.pos _ (of_decide_eq_true hb0.2))⟩
theorem Gn {ρ:Int→Int}{f:List Int}(hρ:Ren ρ f){c:DCell}(h:cX c=true):cX (fk ρ f c)=true:=(Ht hρ).right h
theorem oA {c:DCell}(h:cX c=true):c.Slots.all mL=true∧c.More.all mL=true∧nF c.Kind c.More=true:=by
 unfold cX at h;simp only [Bool.and_eq_true] at h;exact ⟨h.2.1,h.2.2.1,h.2.2.2.2⟩
theorem yt {c:DCell}(h:cX c=true){m:List DValue}(h1:m.all mL=true)(h2:nF c.Kind m=true):cX ⟨c.Kind,c.Shape,c.Flags,c.Age,c.Slots,m⟩=true:=by
 unfold cX at h⊢;simp only [Bool.and_eq_true] at h;obtain ⟨g1,g2,g3,g4,g5⟩:=h;simp only [g2,h1,g4,h2,Bool.and_true];simp only [Bool.and_eq_true];exact g1
theorem zA (p:Int→Bool): ∀{l:List DValue},ld l=true→ld (dR p l)=true
 | [],_=>rfl
 | [_],h=>by cases h
 |k::v::r,h=>by
  rw [ir] at h;rw [Bool.and_eq_true] at h;have ih:=zA p h.2;simp only [kA];cases p k.N
  ·exact ih
  show ld (k::v::dR p r)=true;simp only [ir];rw [h.1,ih];rfl
theorem AO (lv:List Int): ∀{l:List DValue},f3 l=true→f3 (dt lv l)=true
 | [],_=>rfl
 | [_],h=>by cases h
 | [_,_],h=>by cases h
 | [_,_,_],h=>by cases h
 | t::v::k::s::r,h=>by
  rw [eR] at h;rw [Bool.and_eq_true,Bool.and_eq_true,Bool.and_eq_true,Bool.and_eq_true] at h;obtain ⟨⟨⟨h1,h2⟩,h3,h4⟩,h5⟩:=h;have ih:=AO lv h5;simp only [ko];cases decide (t.N∈lv)
  ·exact ih
  show f3 (t::v::(bif decide (k.Kind=7)&& !decide (k.N∈lv) then iN else k)::s::dt lv r)=true;simp only [eR]
  have h6:noneB (bif decide (k.Kind=7)&& !decide (k.N∈lv) then iN else k) 7=true:=by
   cases decide (k.Kind=7)&& !decide (k.N∈lv)
   ·exact h3
   rfl
  rw [h1,h2,h6,h4,ih];rfl
theorem zn (lv:List Int){x:DValue}: ∀{l:List DValue},x∈dt lv l→x∈l∨x=iN
 | [],h=>by simp [dt] at h
 | [_],h=>by simp [dt] at h
 | [_,_],h=>by simp [dt] at h
 | [_,_,_],h=>by simp [dt] at h
 | t::v::k::s::r,h=>by
  simp only [ko] at h;rcases List.mem_append.1 h with h|h
  ·cases hd:decide (t.N∈lv) with
   |false=>rw [hd] at h;cases h
   |true=>
    rw [hd] at h
    cases hk:decide (k.Kind=7)&& !decide (k.N∈lv) with
    |false=>rw [hk] at h;simp at h;rcases h with h|h|h|h<;>subst h<;>simp
    |true=>rw [hk] at h;simp at h;rcases h with h|h|h|h<;>subst h<;>simp
  rcases zn lv h with h|h
  ·exact .inl (by simp [h])
  exact .inr h
theorem Hy:mL iN=true:=by kernel_rfl
theorem GO (N:Nat)(lv:List Int){c:DCell}(h:cX c=true):cX (ga N lv c)=true:=by
 obtain ⟨h1,h2,h3⟩:=oA h;unfold ga;by_cases h8:c.Kind=8
 ·rw [mw h8,cond_true];unfold ks;cases ma N c
  ·exact h
  refine yt h (m:=dR (fun x=>decide (x∈lv)) c.More) ?_ ?_
  ·rw [List.all_eq_true] at h2⊢
   exact fun v hv=>h2 v (ua hv)
  rw [h8] at h3⊢;exact zA _ h3
 rw [fa h8,cond_false];by_cases h10:c.Kind=10
 ·rw [mw h10,cond_true];rw [h10] at h3;have h3':(decide (1≤c.More.length)&&decide ((mh c.More 0).Kind=7)&&f3 (c.More.drop 1))=true:=h3;simp only [Bool.and_eq_true,decide_eq_true_eq] at h3';obtain ⟨⟨g1,g2⟩,g3⟩:=h3';refine yt h (m:=c.More.take 1++dt lv (c.More.drop 1)) ?_ ?_
  ·rw [List.all_eq_true] at h2⊢;intro v hv;rcases List.mem_append.1 hv with hv|hv
   ·exact h2 v (List.mem_of_mem_take hv)
   rcases zn lv hv with hv|rfl
   ·exact h2 v (List.mem_of_mem_drop hv)
   exact Hy
  rw [h10];show (decide (1≤(c.More.take 1++dt lv (c.More.drop 1)).length)&&decide ((mh (c.More.take 1++dt lv (c.More.drop 1)) 0).Kind=7)&&f3 ((c.More.take 1++dt lv (c.More.drop 1)).drop 1))=true
  obtain ⟨a,r,hr⟩: ∃a r,c.More=a::r:=by
   cases hm:c.More with
   |nil=>rw [hm] at g1;simp at g1
   |cons a r=>exact ⟨a,r,rfl⟩
  rw [hr] at g2 g3⊢;have e1:(a::r).take 1++dt lv ((a::r).drop 1)=a::dt lv r:=rfl;rw [e1];have g3':f3 r=true:=g3;have g2':a.Kind=7:=g2;simp only [Bool.and_eq_true,decide_eq_true_eq];exact ⟨⟨by simp,g2'⟩,AO lv g3'⟩
 rw [fa h10,cond_false];exact h
end Go.Proofs.YtmimkglhbmcokaaGreat
namespace Go.Proofs.YtmimkglhbmcokaaGreat
open Go.RowKit
structure MapG (g g':Gr) (ρ:Int→Int) (S:Int→Prop):Prop where
 inj: ∀a b,S a→S b→ρ a=ρ b→a=b
 has: ∀a,S a→g.has a=true∧g'.has (ρ a)=true
 leads: ∀a,S a→g'.leads (ρ a)=(g.leads a).map ρ∧ ∀x∈g.leads a,S x
 opens: ∀row a,(∀x∈row,S x)→S a→g'.opens (row.map ρ) (ρ a)=(g.opens row a).map ρ∧ ∀x∈g.opens row a,S x
def cv {α:Type}(g:α→Nat):List α→Nat
 | []=>0
 |a::l=>g a+cv g l
theorem nj {α:Type}(g:α→Nat): ∀a b:List α,cv g (a++b)=cv g a+cv g b
 | [],b=>by simp [cv]
 |c::a,b=>by rw [List.cons_append,cv,cv,nj g a b];omega
theorem FZ {α:Type}(g:α→Nat){a b:List α}(h:a.Perm b):cv g a=cv g b:=by
 induction h with
 |nil=>rfl
 |cons x _ ih=>rw [cv,cv,ih]
 |swap x y l=>rw [cv,cv,cv,cv];omega
 |trans _ _ h1 h2=>rw [h1,h2]
theorem lR (g:Int→Nat): ∀{l L:List Int},l.Nodup→(∀x∈l,x∈L)→cv g l≤cv g L
 | [],_,_,_=>Nat.zero_le _
 |a::l,L,hn,hs=>by
  obtain ⟨h1,h2⟩:=List.nodup_cons.1 hn;have hp:=List.perm_cons_erase (hs a (by simp));rw [FZ g hp,cv,cv]
  have:=lR g (l:=l) (L:=L.erase a) h2 fun x hx=>(List.mem_erase_of_ne (fun e:x=a=>h1 (by rw [←e];exact hx))).2 (hs x (by simp [hx]))
  omega
theorem jT {α β:Type}(g:β→Nat)(f:α→β): ∀l:List α,cv g (l.map f)=cv (fun x=>g (f x)) l
 | []=>rfl
 |x::l=>by rw [List.map_cons,cv,cv,jT g f l]
theorem uw {α:Type}{g h:α→Nat}: ∀{l:List α},(∀x∈l,g x≤h x)→cv g l≤cv h l
 | [],_=>Nat.le_refl _
 |x::l,hh=>by
  rw [cv,cv];have h1:=hh x (by simp)
  have h2:=uw (l:=l) fun y hy=>hh y (by simp [hy])
  omega
theorem rY {α β:Type}(f:α→List β): ∀l:List α,(l.flatMap f).length=cv (fun x=>(f x).length) l
 | []=>rfl
 |x::l=>by rw [List.flatMap_cons,List.length_append,cv,rY f l]
theorem ym {α:Type}(g h:α→Nat): ∀l:List α,cv (fun x=>g x+h x) l=cv g l+cv h l
 | []=>rfl
 |x::l=>by rw [cv,cv,cv,ym g h l];omega
def wC (c:DCell):Nat:=1+c.Slots.length+c.More.length
theorem Bi: ∀l:List DCell,wt l=cv wC l
 | []=>rfl
 |c::l=>by rw [wt,cv,Bi l];rfl
def vN (m:DMemory):List Int:=(List.range m.Young.length).map (fun i:Nat=>2*(i:Int)+1)++(List.range m.Old.length).map (fun i:Nat=>2*(i:Int)+2)
theorem FJ (m:DMemory)(i:Nat)(h:i<m.Young.length):ce m (2*(i:Int)+1)=m.Young[i]:=by
 unfold ce fI;rw [if_neg (by omega),if_pos (by omega),show ((2*(i:Int)+1 - 1) / 2).toNat=i by omega,List.getElem?_eq_getElem h];rfl
theorem tC (m:DMemory)(i:Nat)(h:i<m.Old.length):ce m (2*(i:Int)+2)=m.Old[i]:=by
 unfold ce fI;rw [if_neg (by omega),if_neg (by omega),show ((2*(i:Int)+2 - 2) / 2).toNat=i by omega,List.getElem?_eq_getElem h];rfl
theorem KI (m:DMemory)(i:Nat):bK m (2*(i:Int)+1)=decide (i<m.Young.length):=by
 unfold bK fI;rw [if_neg (by omega),if_pos (by omega),show ((2*(i:Int)+1 - 1) / 2).toNat=i by omega];by_cases h:i<m.Young.length
 ·rw [List.getElem?_eq_getElem h,decide_eq_true h];rfl
 rw [List.getElem?_eq_none (by omega),decide_eq_false h];rfl
theorem wz (m:DMemory)(i:Nat):bK m (2*(i:Int)+2)=decide (i<m.Old.length):=by
 unfold bK fI;rw [if_neg (by omega),if_neg (by omega),show ((2*(i:Int)+2 - 2) / 2).toNat=i by omega];by_cases h:i<m.Old.length
 ·rw [List.getElem?_eq_getElem h,decide_eq_true h];rfl
 rw [List.getElem?_eq_none (by omega),decide_eq_false h];rfl
theorem vM (m:DMemory):(vN m).map (ce m)=m.Young++m.Old:=by
 unfold vN;rw [List.map_append,List.map_map,List.map_map]
 congr 1
 ·refine List.ext_getElem (by simp) fun i h1 h2=> ?_
  simp only [List.getElem_map,List.getElem_range,Function.comp];exact FJ m i h2
 refine List.ext_getElem (by simp) fun i h1 h2=> ?_
 simp only [List.getElem_map,List.getElem_range,Function.comp];exact tC m i h2
theorem mV {m:DMemory}{a:Int}(h:bK m a=true):(∃i:Nat,i<m.Young.length∧a=2*(i:Int)+1)∨ ∃i:Nat,i<m.Old.length∧a=2*(i:Int)+2:=by
 rcases qt m a with ⟨h1,h2⟩|⟨k,h1, -⟩|⟨k,h1, -⟩
 ·unfold bK at h;rw [h2] at h;cases h
 ·subst h1;rw [KI] at h;exact .inl ⟨k,of_decide_eq_true h,rfl⟩
 subst h1;rw [wz] at h;exact .inr ⟨k,of_decide_eq_true h,rfl⟩
theorem pF {m:DMemory}{a:Int}(h:bK m a=true):a∈vN m:=by
 unfold vN;rcases mV h with ⟨i,h1,rfl⟩|⟨i,h1,rfl⟩
 ·exact List.mem_append_left _ (List.mem_map.2 ⟨i,List.mem_range.2 h1,rfl⟩)
 exact List.mem_append_right _ (List.mem_map.2 ⟨i,List.mem_range.2 h1,rfl⟩)
theorem G4 {m:DMemory}{l:List Int}(hn:l.Nodup)(hh: ∀a∈l,bK m a=true):cv (fun a=>wC (ce m a)) l≤wt m.Young+wt m.Old:=by
 have h1:=lR (fun a=>wC (ce m a)) hn fun a ha=>pF (hh a ha)
 have h2:=jT wC (ce m) (vN m);rw [vM, ←Bi,ya] at h2;omega
theorem qr {m:DMemory}{a:Int}(h:bK m a=true):ce m a∈m.Young++m.Old:=by
 unfold bK at h;unfold ce
 cases hc:fI m a with
 |none=>rw [hc] at h;cases h
 |some c=>exact oc hc
def MR:DMemory:=⟨[⟨11,0,0,0,[],[⟨7,2,⟨#[]⟩⟩]⟩,⟨11,0,0,0,[],[]⟩],[⟨11,0,0,0,[],[]⟩,⟨11,0,0,0,[],[]⟩]⟩
def MU:DMemory:=⟨[],[⟨10,0,0,0,[⟨1,0,⟨#[]⟩⟩],[⟨7,4,⟨#[]⟩⟩,⟨7,6,⟨#[]⟩⟩,⟨7,8,⟨#[]⟩⟩,⟨0,0,⟨#[]⟩⟩,⟨3,7,⟨#[]⟩⟩]⟩,⟨11,0,0,0,[],[]⟩,⟨11,0,0,0,[],[]⟩,⟨11,0,0,0,[],[]⟩]⟩
theorem Ct {a:Int}(h:0<a):a.tmod 2=0∨a.tmod 2=1:=by
 rw [ng (by omega)];omega
theorem D3 {live:List Int}(hp: ∀a∈live,0<a)(a:Int):a∈jK live↔a∈live:=by
 unfold jK oT xB;rw [List.mem_append,List.mem_filter,List.mem_filter,decide_eq_true_eq,decide_eq_true_eq];constructor
 ·rintro (h|h)<;>exact h.1
 intro h;rcases Ct (hp a h) with h2|h2
 ·exact .inl ⟨h,h2⟩
 exact .inr ⟨h,h2⟩
theorem za: ∀{live:List Int},(∀a∈live,0<a)→(jK live).length=live.length
 | [],_=>rfl
 | a::l,hp=>by
  have ih:=za (live:=l) fun b hb=>hp b (by simp [hb])
  unfold jK at ih⊢;rw [List.length_append] at ih⊢;rcases Ct (hp a (by simp)) with h|h
  ·have e1:oT a=true:=decide_eq_true h;have e2:xB a=false:=decide_eq_false (by omega);simp only [List.filter_cons,e1,e2,if_true,Bool.false_eq_true,if_false,List.length_cons];omega
  have e1:oT a=false:=decide_eq_false (by omega);have e2:xB a=true:=decide_eq_true h;simp only [List.filter_cons,e1,e2,if_true,Bool.false_eq_true,if_false,List.length_cons];omega
theorem Gk {live:List Int}(h:live.Pairwise (· < ·)):(jK live).Pairwise fun a b=> ¬(a.tmod 2=1∧b.tmod 2=0)∧(a.tmod 2=b.tmod 2→a<b):=by
 have hev: ∀a∈live.filter oT,a.tmod 2=0:=fun a ha=>of_decide_eq_true (List.mem_filter.1 ha).2
 have hod: ∀a∈live.filter xB,a.tmod 2=1:=fun a ha=>of_decide_eq_true (List.mem_filter.1 ha).2
 unfold jK;refine List.pairwise_append.2 ⟨(h.filter _).imp_of_mem fun {a b} ha hb hlt=>⟨fun hh=> ?_,fun _=>hlt⟩,(h.filter _).imp_of_mem fun {a b} ha hb hlt=>⟨fun hh=> ?_,fun _=>hlt⟩,fun a ha b hb=>⟨fun hh=> ?_,fun hh=> ?_⟩⟩
 ·have:=hev a ha;omega
 ·have:=hod b hb;omega
 ·have:=hev a ha;omega
 have:=hev a ha;have:=hod b hb;omega
theorem lN {α:Type}{p:α→Bool}{l:List α}(h:l.all p=true){x:α}(hx:x∈l):p x=true:=List.all_eq_true.1 h x hx
theorem AY {N:Nat}{m:DMemory}{roots:List DValue}(h:jS N m roots=0):(∀c∈m.Young++m.Old,mm N c=true)∧(∀c∈m.Young++m.Old, ∀x∈dc c,bK m x=true)∧ ∀x∈cj roots,bK m x=true:=by
 unfold jS at h
 cases h1:(m.Young++m.Old).all (mm N) with
 |false=>rw [h1] at h;cases h
 | true=>
  rw [h1] at h
  cases h2:fF m ((m.Young++m.Old).flatMap dc++cj roots) with
  |false=>rw [h2] at h;cases h
  |true=>
   unfold fF at h2;refine ⟨fun c hc=>lN h1 hc,fun c hc x hx=>lN h2 (List.mem_append_left _ (List.mem_flatMap.2 ⟨c,hc,hx⟩)),fun x hx=>lN h2 (List.mem_append_right _ hx)⟩
structure Live (N:Nat) (m:DMemory) (roots:List DValue) (live f:List Int):Prop where
 ord: ∃b all,IsOrder (zt N m) (cj roots) b all∧live=gS all∧f=jK live
 prog:dF N m roots=some live
 ref:ny N m roots=some live
 mem: ∀a,a∈f↔a∈live
 len:f.length=live.length
 small:live.length≤1200
 nd:f.Nodup
 asc:live.Pairwise (· < ·)
 has: ∀a∈live,bK m a=true
theorem Gl {live:List Int}(h:live.Pairwise (· < ·)):(jK live).Nodup:=by
 rw [List.nodup_iff_pairwise_ne]
 refine (Gk h).imp fun {a b} hab e=> ?_
 have:=hab.2 (by rw [e]);omega
theorem EX (N:Nat)(hN:5000<N){m:DMemory}{roots:List DValue}(hs:Small m roots)(hw:W64 m)(hr: ∀v∈roots,in64 v.N): ∃live f,Live N m roots live f:=by
 obtain ⟨bg,all,ho,hlen, -, -,o0⟩:=Ge N hN hs hw hr;obtain ⟨b',all',ho',r0, -⟩:=DK N hN hs hw hr;obtain ⟨-,e2⟩:=ho.det ho';subst e2;have hll:(gS all).length=all.length:=po all;have hmem:=mR all;have hasc:=Ae ho.nodup.2
 have hhas: ∀a∈gS all,bK m a=true:=fun a ha=>ho.has.2 a ((hmem a).1 ha)
 have hpos: ∀a∈gS all,0<a:=fun a ha=>nQ (hhas a ha)
 refine ⟨gS all,jK (gS all),⟨⟨_,all,ho,rfl,rfl⟩,I7 o0 (by omega) rfl,?_,D3 hpos,za hpos,by omega,Gl hasc,hasc,hhas⟩⟩;unfold ny;rw [r0,bs,DL N hN all (by omega) ho.nodup.2,bs]
theorem Live.fhas {N:Nat}{m:DMemory}{roots:List DValue}{live f:List Int}(h:Live N m roots live f){a:Int}(ha:a∈f):bK m a=true:=h.has a ((h.mem a).1 ha)
theorem Cs {N:Nat}{m:DMemory}{roots:List DValue}{live f:List Int}(h:Live N m roots live f):(f.flatMap fun a=>ed live (ce m a)).length+wt (f.map fun a=>fk (fj f) f (ga N live (ce m a)))≤wt m.Young+wt m.Old:=by
 have h1:=G4 h.nd fun a ha=>h.fhas ha
 rw [rY,Bi,jT, ←ym];refine Nat.le_trans (uw fun a ha=> ?_) h1;have:=lL N live (ce m a);unfold wC fk;simp only [List.length_map];omega
theorem vU {N:Nat}{m:DMemory}{roots:List DValue}{live f:List Int}(h:Live N m roots live f)(n:Nat):((f.take n).flatMap fun a=>ed live (ce m a)).length≤wt m.Young+wt m.Old:=by
 have h1:=Cs h
 have h2:(f.flatMap fun a=>ed live (ce m a))=((f.take n).flatMap fun a=>ed live (ce m a))++((f.drop n).flatMap fun a=>ed live (ce m a)):=by rw [←List.flatMap_append,List.take_append_drop]
 rw [h2,List.length_append] at h1;omega
def H3 (N:Nat)(m:DMemory)(roots:List DValue)(live f:List Int):DMemory×List DValue×List DValue×Int:=
 bif decide (jS N m roots=0) then ((xh N m roots live f).next,(xh N m roots live f).now,(xh N m roots live f).gone,0) else (⟨[],[]⟩,[],[],jS N m roots)
theorem BW (N:Nat)(hN:5000<N){m:DMemory}{roots:List DValue}(hs:Small m roots)(ht:Wtd m roots)(hw:W64 m)(hr: ∀v∈roots,in64 v.N){live f:List Int}(hl:Live N m roots live f):df N m roots=some (H3 N m roots live f):=by
 apply Sat.eq;have hle:=ht.le;have hlen:=hl.small;have hfl:=hl.len;unfold df H3;rw [En N hN hs ht hw hr,bs];by_cases h0: ¬jS N m roots=0
 ·rw [fa h0];exact aS rfl
 replace h0:jS N m roots=0:=by omega
 rw [mw h0];simp only [nt,cf,ct];obtain ⟨c1,c2,c3⟩:=AY h0;obtain ⟨_,_,_,hlv,hff⟩:=hl.ord;rw [hl.prog,bs];unfold gm;rw [bs];refine Sat.bind (yP N (fun x st=>iX N roots m live x st) live (by omega) hN (fun n s=>RhoM s (f.take n)) ?_ [] ?_) ?_
 ·intro n a s ha h1;rw [←hff] at ha;have hn:=(List.getElem?_eq_some_iff.1 ha).1;rw [List.getElem?_eq_getElem hn,Option.some.injEq] at ha;unfold iX;simp only;rw [r64 (by omega) (by omega),r64 (by omega) (by omega)];refine aS ⟨rfl,?_⟩;rw [←ha];exact h1.add hn hl.nd
 ·simpa using RhoM.nil
 rintro ⟨e,kv⟩ ⟨g1,g2⟩;simp only at g1 g2;subst g1;rw [←hff,List.take_length] at g2;unfold mg;simp only [bs]
 have hG: ∀a∈f,(ga N live (ce m a)).Slots.length≤600∧(ga N live (ce m a)).More.length≤600:=fun a ha=>by
  have h1:=lL N live (ce m a);have h2:=hs.at_ a;omega
 refine Sat.bind (yP N (fun x st=>iW N roots m live (none,kv) x st) live (by omega) hN (fun n s=>s.1=(f.take n).map (fun a=>fk (fj f) f (ga N live (ce m a)))∧s.2=(f.take n).flatMap fun a=>ed live (ce m a)) ?_ ([],[]) ⟨by simp,by simp⟩) ?_
 ·rintro n a ⟨p,q⟩ ha ⟨h1,h2⟩;rw [←hff] at ha;simp only at h1 h2;have hn:=(List.getElem?_eq_some_iff.1 ha).1;have ham:a∈f:=List.mem_of_getElem? ha;rw [List.getElem?_eq_getElem hn,Option.some.injEq] at ha
  have hpl:p.length≤2000:=by rw [h1,List.length_map,List.length_take];omega
  have hql:q.length≤2400:=by have:=vU hl n;rw [h2];omega
  have hq2:=vU hl (n+1);have hat:=Ci N hs a (xL hs (hl.fhas ham));have hsm:=hs.at_ a;have hrt:=c1 _ (qr (hl.fhas ham));have hc:=hG a ham;rw [bf hn,ha,List.flatMap_append, ←h2,List.length_append] at hq2;simp only [List.flatMap_cons,List.flatMap_nil,List.append_nil] at hq2
  -- the last part
  have last: ∀q',q'=q++ed live (ce m a)→Sat (fY N roots m p live (none,kv) q' (ga N live (ce m a)).Kind (ga N live (ce m a)).Shape (ga N live (ce m a)).Flags (ga N live (ce m a)).Age (ga N live (ce m a)).Slots (ga N live (ce m a)).More) fun r=>r.1=none∧r.2.1=(f.take (n+1)).map (fun a=>fk (fj f) f (ga N live (ce m a)))∧r.2.2=(f.take (n+1)).flatMap fun a=>ed live (ce m a):=by
   intro q' hq';unfold fY;rw [qf N hN _ (by omega) kv f g2,bs,qf N hN _ (by omega) kv f g2,bs,rF (by simp;omega)];refine aS ⟨rfl,?_,?_⟩
   ·rw [bf hn,List.map_append, ←h1,ha];rfl
   rw [bf hn,List.flatMap_append, ←h2,ha,hq'];simp
  unfold iW;simp only;rw [hat,bs];unfold ga ed at last;unfold ed at hq2;by_cases h8:(ce m a).Kind=8
  ·have hwm:ma N (ce m a)=true:=by unfold ma;rw [decide_eq_true h8];exact hrt
   rw [mw h8,ct,zD N hN live (by omega) _ hsm.1 hsm.2,bs,hwm,ct];rw [decide_eq_true h8,decide_eq_false (p:=(ce m a).Kind=10) (by omega)] at last;simp only [cond_true,cond_false,List.append_nil] at last;exact last q rfl
  by_cases h10:(ce m a).Kind=10
  ·have hwm:zp N (ce m a)=true:=by unfold zp;rw [decide_eq_true h10];exact hrt
   rw [fa h8,cf,mw h10,ct,tx N hN live (by omega) _ hsm.1 hsm.2,bs,hwm,ct];rw [decide_eq_true h10] at hq2;rw [decide_eq_false h8,decide_eq_true h10] at last;simp only [cond_true,cond_false] at last hq2;rw [rF (by omega)];exact last _ rfl
  rw [fa h8,cf,fa h10,cf];rw [decide_eq_false h8,decide_eq_false h10] at last;simp only [cond_true,cond_false,List.append_nil] at last;exact last q rfl
 rintro ⟨e,p,q⟩ ⟨g1,g3,g4⟩;simp only at g1 g3 g4;subst g1;rw [←hff,List.take_length] at g3 g4;have hrl:=hs.roots
 have hql:q.length≤2400:=by have:=vU hl f.length;rw [List.take_length] at this;rw [g4];omega
 simp only;rw [qf N hN _ (by omega) kv f g2,bs,qf N hN _ (by omega) kv f g2,bs];refine aS ?_;unfold xh;rw [g3,g4]
theorem lr {f:List Int}{a:Int}(h:a∈f):f.idxOf a<f.length:=List.idxOf_lt_length_iff.2 h
theorem jy {f:List Int}{a:Int}(h:a∈f):f[f.idxOf a]'(lr h)=a:=List.getElem_idxOf (lr h)
theorem IQ {f:List Int}{a b:Int}(ha:a∈f)(hb:b∈f)(h:fj f a=fj f b):a=b:=by
 unfold fj at h
 have e:f.idxOf a=f.idxOf b:=by omega
 have h1:=jy ha;have h2:=jy hb;rw [←h1, ←h2]
 congr 1
theorem xH (f:List Int):Ren (fj f) f:=⟨fun _ _ h1 h2 h3=>IQ h1 h2 h3,fun a _=>by unfold fj;omega⟩
theorem oJ (ρ:Int→Int)(f:List Int)(v:DValue):bH (bM ρ f v)=bH v:=Gz (by unfold bM;cases bH v&&decide (v.N∈f)<;>rfl)
theorem tY {ρ:Int→Int}{f:List Int}{v:DValue}(h1:bH v=true)(h2:v.N∈f):bM ρ f v=⟨v.Kind,ρ v.N,v.S⟩:=by
 unfold bM;rw [h1,decide_eq_true h2];rfl
theorem rE {ρ:Int→Int}{f:List Int}(F:Nat→DValue→Bool)(hF: ∀i v,F i (bM ρ f v)=F i v)(hB: ∀i v,F i v=true→bH v=true): ∀(i:Nat) (l:List DValue),(∀x∈pick F i l,x∈f)→pick F i (l.map (bM ρ f))=(pick F i l).map ρ
 |_,[],_=>rfl
 |i,v::l,h=>by
  rw [fM] at h;rw [List.map_cons,fM,fM,hF,List.map_append,rE F hF hB (i+1) l fun x hx=>h x (List.mem_append_right _ hx)]
  cases hv:F i v with
  |false=>rfl
  |true=>rw [cond_true,cond_true,tY (hB i v hv) (h v.N (List.mem_append_left _ (by rw [hv];simp)))];rfl
theorem uV {F:Nat→DValue→Bool}: ∀{i:Nat} {l:List DValue} {j:Nat} {v:DValue},l[j]? =some v→F (i+j) v=true→v.N∈pick F i l
 |i,w::l,0,v,h,hF=>by
  simp only [List.getElem?_cons_zero,Option.some.injEq] at h;subst h;rw [fM];rw [Nat.add_zero] at hF;rw [hF];simp
 |i,w::l,j+1,v,h,hF=>by
  simp only [List.getElem?_cons_succ] at h;rw [fM];exact List.mem_append_right _ (uV (i:=i+1) h (by rw [show i+1+j=i+(j+1) by omega];exact hF))
 |i,[],j,v,h,_=>by simp at h
def jt (f:List Int)(l:List DValue):Prop:= ∀v∈l,bH v=true→v.N∈f
theorem CA {f:List Int}{c:DCell}(h: ∀x∈bN c,x∈f):jt f c.Slots:=fun v hv hb=>by
 obtain ⟨j,hj,e⟩:=List.getElem_of_mem hv;refine h _ (List.mem_append_left _ (uV (j:=j) (by rw [List.getElem?_eq_getElem hj,e]) hb))
theorem sB {f:List Int}{c:DCell}(h: ∀x∈bN c,x∈f){j:Nat}{v:DValue}(hj:c.More[j]? =some v)(hw:fc c.Kind j=false)(hb:bH v=true):v.N∈f:=
 h _ (List.mem_append_right _ (uV (j:=j) hj (by rw [Nat.zero_add,hw,hb];rfl)))
theorem Dz {k:Int}(h8:k≠8)(h10:k≠10)(i:Nat):fc k i=false:=by
 unfold fc;rw [fa h8,fa h10];rfl
theorem AW {lv f:List Int}(hlv: ∀x,x∈lv↔x∈f): ∀{l:List DValue},ld l=true→(∀x∈opens (fun x=>decide (x∈lv)) l,x∈f)→jt f (dR (fun x=>decide (x∈lv)) l)
 | [],_,_=>fun v hv=>by simp [dR] at hv
 | [_],h,_=>by cases h
 | k::v::r,h,ho=>by
  rw [ir] at h;rw [Bool.and_eq_true] at h;rw [gj] at ho
  have ih:=AW hlv h.2 fun x hx=>ho x (List.mem_append_right _ hx)
  intro w hw hb;simp only [kA] at hw;rcases List.mem_append.1 hw with hw|hw
  ·cases hd:decide (k.N∈lv) with
   |false=>rw [hd] at hw;cases hw
   |true=>
    rw [hd] at hw;simp only [cond_true,List.mem_cons,List.not_mem_nil,or_false] at hw;rcases hw with rfl|rfl
    ·exact (hlv _).1 (of_decide_eq_true hd)
    exact ho _ (List.mem_append_left _ (by rw [hb,hd];simp))
  exact ih w hw hb
theorem EZ {lv f:List Int}(hlv: ∀x,x∈lv↔x∈f): ∀{l:List DValue},f3 l=true→(∀j v,l[4*j+1]? =some v→bH v=true→v.N∈f)→jt f (dt lv l)
 | [],_,_=>fun v hv=>by simp [dt] at hv
 | [_],h,_=>by cases h
 | [_,_],h,_=>by cases h
 | [_,_,_],h,_=>by cases h
 | t ::a::k::s::r,h,ho=>by
  rw [eR] at h;simp only [Bool.and_eq_true,decide_eq_true_eq] at h;obtain ⟨⟨⟨h1, -⟩,h3,h4⟩,h5⟩:=h
  have ih:=EZ hlv h5 fun j v hj hb=>ho (j+1) v (by rw [show 4*(j+1)+1=4*j+1+4 by omega];simpa using hj) hb
  intro w hw hb;simp only [ko] at hw;rcases List.mem_append.1 hw with hw|hw
  ·cases hd:decide (t.N∈lv) with
   |false=>rw [hd] at hw;cases hw
   | true=>
    rw [hd] at hw;simp only [cond_true,List.mem_cons,List.not_mem_nil,or_false] at hw;rcases hw with rfl|rfl|rfl|rfl
    ·exact (hlv _).1 (of_decide_eq_true hd)
    ·exact ho 0 w rfl hb
    ·cases hk:decide (k.Kind=7)&& !decide (k.N∈lv) with
     |true=>rw [hk] at hb;cases hb
     | false=>
      rw [hk] at hb;simp only [cond_false] at hb⊢
      have hk7:k.Kind=7:=by
       unfold noneB at h3;rw [Bool.or_eq_true,decide_eq_true_eq,decide_eq_true_eq] at h3;rcases h3 with h3|h3
       ·unfold bH at hb;rw [h3] at hb;cases hb
       exact h3
      rw [decide_eq_true hk7,Bool.true_and] at hk;exact (hlv _).1 (by by_cases hm:k.N∈lv;exact hm;rw [decide_eq_false hm] at hk;cases hk)
    have:w.Kind=3:=by
     unfold numB at h4;rw [Bool.and_eq_true,decide_eq_true_eq] at h4;exact h4.1
    unfold bH at hb;rw [this] at hb;cases hb
  exact ih w hw hb
structure CellOk (N:Nat) (lv f:List Int) (c:DCell):Prop where
 big:2000<N
 right:cX c=true
 slots:c.Slots.length≤600
 more:c.More.length≤600
 leads: ∀x∈bN c,x∈f
 opens: ∀x∈cM N c lv,x∈f
 mem: ∀x,x∈lv↔x∈f
theorem tZ {N:Nat}(hN:2000<N){c:DCell}(h:cX c=true)(hS:c.Slots.length≤600)(hM:c.More.length≤600):ma N c=decide (c.Kind=8):=by
 unfold ma;rw [ns N hN c (by omega) (by omega),h];cases decide (c.Kind=8)<;>rfl
theorem D8 {N:Nat}(hN:2000<N){c:DCell}(h:cX c=true)(hS:c.Slots.length≤600)(hM:c.More.length≤600):zp N c=decide (c.Kind=10):=by
 unfold zp;rw [ns N hN c (by omega) (by omega),h];cases decide (c.Kind=10)<;>rfl
theorem CD {N:Nat}(hN:2000<N){c:DCell}(hS:c.Slots.length≤600)(hM:c.More.length≤600):mm N c=cX c:=by
 unfold mm;rw [ns N hN c (by omega) (by omega)];rfl
section
variable {N:Nat} {ρ:Int→Int} {lv f:List Int} {c:DCell}
theorem Dk:(ga N lv c).Kind=c.Kind∧(ga N lv c).Shape=c.Shape∧(ga N lv c).Flags=c.Flags∧(ga N lv c).Slots=c.Slots:=by
 unfold ga ks;cases decide (c.Kind=8)<;>cases decide (c.Kind=10)<;>cases ma N c<;>exact ⟨rfl,rfl,rfl,rfl⟩
theorem CellOk.new (hρ:Ren ρ f)(h:CellOk N lv f c):cX (fk ρ f (ga N lv c))=true∧(fk ρ f (ga N lv c)).Slots.length≤600∧(fk ρ f (ga N lv c)).More.length≤600∧(fk ρ f (ga N lv c)).Kind=c.Kind:=by
 have h1:=lL N lv c;have h2:=h.slots;have h3:=h.more;exact ⟨Gn hρ (GO N lv h.right),by unfold fk;simp only [List.length_map];omega,by unfold fk;simp only [List.length_map];omega,Dk.1⟩
theorem CellOk.ent2 (h:CellOk N lv f c)(h8:c.Kind=8):ld c.More=true:=by
 have:=(oA h.right).2.2;rw [h8] at this;exact this
theorem CellOk.ent4 (h:CellOk N lv f c)(h10:c.Kind=10):1≤c.More.length∧(mh c.More 0).Kind=7∧f3 (c.More.drop 1)=true:=by
 have:=(oA h.right).2.2;rw [h10] at this;have h3':(decide (1≤c.More.length)&&decide ((mh c.More 0).Kind=7)&&f3 (c.More.drop 1))=true:=this;simp only [Bool.and_eq_true,decide_eq_true_eq] at h3';exact ⟨h3'.1.1,h3'.1.2,h3'.2⟩
theorem CellOk.wm (h:CellOk N lv f c):ma N c=decide (c.Kind=8):=tZ h.big h.right h.slots h.more
theorem CellOk.fr (h:CellOk N lv f c):zp N c=decide (c.Kind=10):=D8 h.big h.right h.slots h.more
theorem CellOk.clC8 (h:CellOk N lv f c)(h8:c.Kind=8):ga N lv c=⟨c.Kind,c.Shape,c.Flags,c.Age,c.Slots,dR (fun x=>decide (x∈lv)) c.More⟩:=by
 unfold ga ks;rw [h.wm,decide_eq_true h8];rfl
theorem CellOk.clC10 (h10:c.Kind=10):ga N lv c=⟨c.Kind,c.Shape,c.Flags,c.Age,c.Slots,c.More.take 1++dt lv (c.More.drop 1)⟩:=by
 unfold ga;rw [decide_eq_false (p:=c.Kind=8) (by omega),decide_eq_true h10];rfl
theorem CellOk.clC0 (h8:c.Kind≠8)(h10:c.Kind≠10):ga N lv c=c:=by
 unfold ga;rw [decide_eq_false h8,decide_eq_false h10];rfl
theorem D5 {c:DCell}(h8:c.Kind=8):bN c=pick (fun _ v=>bH v) 0 c.Slots:=by
 unfold bN
 have e:(fun (i:Nat) (v:DValue)=> !fc c.Kind i&&bH v)=fun _ _=>false:=by
  funext i v;unfold fc;rw [h8];rfl
 rw [e,wi,List.append_nil]
theorem Gu {ρ:Int→Int}{c:DCell}{f:List Int}(h: ∀x∈bN c,x∈f):bN (fk ρ f c)=(bN c).map ρ:=by
 unfold bN at h⊢;rw [List.map_append];show pick (fun _ v=>bH v) 0 (c.Slots.map (bM ρ f))++pick (fun i v=> !fc c.Kind i&&bH v) 0 (c.More.map (bM ρ f))=_;rw [rE (fun _ v=>bH v) (fun _ v=>oJ ρ f v) (fun _ _ h=>h) 0 c.Slots fun x hx=>h x (List.mem_append_left _ hx),rE (fun i v=> !fc c.Kind i&&bH v) (fun i v=>by rw [oJ]) (fun i v h=>((Bool.and_eq_true _ _).mp h).2) 0 c.More fun x hx=>h x (List.mem_append_right _ hx)]
theorem CellOk.inC (h:CellOk N lv f c):jt f (ga N lv c).Slots∧jt f (ga N lv c).More:=by
 refine ⟨by rw [Dk.2.2.2];exact CA h.leads,?_⟩;by_cases h8:c.Kind=8
 ·rw [h.clC8 h8];have ho:=h.opens;unfold cM at ho;rw [h.wm,decide_eq_true h8,cond_true] at ho;exact AW h.mem (h.ent2 h8) ho
 by_cases h10:c.Kind=10
 ·rw [CellOk.clC10 h10];obtain ⟨q1,q2,q3⟩:=h.ent4 h10
  obtain ⟨a,r,hr⟩: ∃a r,c.More=a::r:=by
   cases hm:c.More with
   |nil=>rw [hm] at q1;simp at q1
   |cons a r=>exact ⟨a,r,rfl⟩
  rw [hr] at q3;have q3':f3 r=true:=q3;intro v hv hb
  have hv':v=a∨v∈dt lv r:=by
   have:v∈a::dt lv r:=by rw [hr] at hv;exact hv
   exact List.mem_cons.1 this
  rcases hv' with rfl|hv'
  ·refine sB h.leads (j:=0) (by rw [hr];rfl) ?_ hb;unfold fc;rw [h10];rfl
  refine EZ h.mem q3' (fun j w hj hw=>sB h.leads (j:=4*j+2) (by rw [hr,show 4*j+2=(4*j+1)+1 by omega,List.getElem?_cons_succ];exact hj) ?_ hw) v hv' hb;unfold fc;rw [h10]
  have e1:(((4*j+2:Nat):Int) - 1).tmod 4=1:=by rw [Int.tmod_eq_emod_of_nonneg (by omega)];omega
  have e2:((1:Int)).tmod 2=1:=rfl;rw [e1,e2];cases decide ((0:Int)<((4*j+2:Nat):Int))<;>rfl
 rw [CellOk.clC0 h8 h10];intro v hv hb;obtain ⟨j,hj,e⟩:=List.getElem_of_mem hv;exact sB h.leads (j:=j) (by rw [List.getElem?_eq_getElem hj,e]) (Dz h8 h10 j) hb
end
end Go.Proofs.YtmimkglhbmcokaaGreat
namespace Go.Proofs.YtmimkglhbmcokaaGreat
open Go.RowKit
theorem vO {c:DCell}{v:DValue}(hv:v∈c.Slots++c.More)(hb:bH v=true):v.N∈dc c:=by
 unfold dc;rcases List.mem_append.1 hv with hv|hv
 ·exact List.mem_append_left _ (CA (f:=bN c) (fun x hx=>hx) v hv hb)
 obtain ⟨j,hj,e⟩:=List.getElem_of_mem hv
 cases hw:fc c.Kind j with
 |false=>exact List.mem_append_left _ (sB (f:=bN c) (fun x hx=>hx) (by rw [List.getElem?_eq_getElem hj,e]) hw hb)
 |true=>exact List.mem_append_right _ (uV (j:=j) (by rw [List.getElem?_eq_getElem hj,e]) (by rw [Nat.zero_add,hw,hb];rfl))
theorem sw {p:Int→Bool}{x:Int}: ∀{l:List DValue},x∈opens p l→ ∃v∈l,bH v=true∧v.N=x
 | [],h=>by simp [opens] at h
 | [_],h=>by simp [opens] at h
 | k::v::l,h=>by
  rw [gj] at h;rcases List.mem_append.1 h with h|h
  ·cases hv:bH v&&p k.N with
   |false=>rw [hv] at h;cases h
   |true=>
    rw [hv] at h;rw [Bool.and_eq_true] at hv;exact ⟨v,by simp,hv.1,(List.mem_singleton.1 h).symm⟩
  obtain ⟨w,h1,h2⟩:=sw h;exact ⟨w,by simp [h1],h2⟩
structure CollCtx (N:Nat) (m:DMemory) (roots:List DValue) (live f:List Int):Prop where
 big:5000<N
 small:Small m roots
 tot:Wtd m roots
 w64:W64 m
 r64: ∀v∈roots,in64 v.N
 lv:Live N m roots live f
 right: ∀c∈m.Young++m.Old,cX c=true
 addr: ∀c∈m.Young++m.Old, ∀x∈dc c,bK m x=true
 roots: ∀x∈cj roots,bK m x=true
theorem KP {N:Nat}(hN:5000<N){m:DMemory}{roots:List DValue}(hs:Small m roots)(ht:Wtd m roots)(hw:W64 m)(hr: ∀v∈roots,in64 v.N){live f:List Int}(hl:Live N m roots live f)(h0:jS N m roots=0):CollCtx N m roots live f:=by
 obtain ⟨h1,h2,h3⟩:=AY h0;exact ⟨hN,hs,ht,hw,hr,hl,fun c hc=>by have:=hs.cells c hc;rw [←CD (N:=N) (by omega) this.1 this.2];exact h1 c hc,h2,h3⟩
section
variable {N:Nat} {m:DMemory} {roots:List DValue} {live f:List Int} (h:CollCtx N m roots live f)
include h
theorem CollCtx.mem (x:Int):x∈live↔x∈f:=(h.lv.mem x).symm
theorem CollCtx.cell {a:Int}(ha:a∈f):CellOk N live f (ce m a):=by
 have hm:=qr (h.lv.fhas ha);obtain ⟨b,all,ho,hlv, -⟩:=h.lv.ord
 have hall: ∀x,x∈all↔x∈f:=fun x=>by rw [←h.mem x,hlv];exact (mR all x).symm
 obtain ⟨q1,q2⟩:=ho.closed;have hs:=h.small.cells _ hm;have hN:=h.big;refine ⟨by omega,h.right _ hm,hs.1,hs.2,fun x hx=> ?_,fun x hx=> ?_,h.mem⟩
 ·exact (hall x).1 (q1 a ((hall a).2 ha) x hx (h.addr _ hm x (List.mem_append_left _ hx)))
 have e:cM N (ce m a) live=cM N (ce m a) all:=by
  unfold cM;rw [CP (q:=fun x=>decide (x∈all)) fun x=>eW (by rw [h.mem x];exact (hall x).symm)]
 rw [e] at hx;refine (hall x).1 (q2 a ((hall a).2 ha) x hx ?_);unfold cM at hx
 cases hw:ma N (ce m a) with
 |false=>rw [hw] at hx;cases hx
 |true=>
  rw [hw] at hx;obtain ⟨v,hv,hb,rfl⟩:=sw hx;exact h.addr _ hm _ (vO (List.mem_append_right _ hv) hb)
theorem CollCtx.root {x:Int}(hx:x∈cj roots):x∈f:=by
 obtain ⟨b,all,ho,hlv, -⟩:=h.lv.ord;rw [←h.mem x,hlv,mR];exact ho.sub (ho.roots hx (h.roots x hx))
theorem CollCtx.rootIn:jt f roots:=fun v hv hb=>h.root (lC.2 ⟨v,hv,hb,rfl⟩)
end
def cq (N:Nat)(m:DMemory)(live f:List Int):DMemory:=⟨[],f.map fun a=>fk (fj f) f (ga N live (ce m a))⟩
def ME (N:Nat)(m:DMemory)(live f:List Int)(a:Int):DCell:=fk (fj f) f (ga N live (ce m a))
theorem rI {N:Nat}{m:DMemory}{live f:List Int}{a:Int}(ha:a∈f):bK (cq N m live f) (fj f a)=true:=by
 unfold fj;rw [wz];exact decide_eq_true (by unfold cq;simp only [List.length_map];exact lr ha)
theorem EU {N:Nat}{m:DMemory}{live f:List Int}{a:Int}(ha:a∈f):ce (cq N m live f) (fj f a)=fk (fj f) f (ga N live (ce m a)):=by
 have e:fj f a=2*((f.idxOf a:Nat):Int)+2:=rfl;rw [e,tC _ _ (by unfold cq;simp only [List.length_map];exact lr ha)];unfold cq;simp only [List.getElem_map];rw [jy ha]
theorem Ay {N:Nat}{m:DMemory}{live f:List Int}{x:Int}(hx:bK (cq N m live f) x=true)(hn:f.Nodup): ∃a∈f,x=fj f a:=by
 rcases mV hx with ⟨i,h1,rfl⟩|⟨i,h1,rfl⟩
 ·exact absurd h1 (by unfold cq;simp)
 have hi:i<f.length:=by unfold cq at h1;simpa using h1
 refine ⟨f[i],List.getElem_mem _,?_⟩;unfold fj;have hm:f[i]∈f:=List.getElem_mem _
 have e:f.idxOf f[i]=i:=by
  rcases Nat.lt_trichotomy (f.idxOf f[i]) i with h2|h2|h2
  ·exact absurd (jy hm) (List.pairwise_iff_getElem.1 (List.nodup_iff_pairwise_ne.1 hn) _ _ (lr hm) hi h2)
  ·exact h2
  exact absurd (jy hm).symm (List.pairwise_iff_getElem.1 (List.nodup_iff_pairwise_ne.1 hn) _ _ hi (lr hm) h2)
 rw [e]
theorem wn {f:List Int}{v:DValue}(hf:f.length≤100000)(hv:in64 v.N):in64 (bM (fj f) f v).N:=by
 unfold bM
 cases hb:bH v&&decide (v.N∈f) with
 |false=>exact hv
 |true=>
  rw [Bool.and_eq_true,decide_eq_true_eq] at hb;have:=lr hb.2;show in64 (fj f v.N);unfold fj in64;omega
theorem Fd {N:Nat}{lv:List Int}{c:DCell}{v:DValue}(hv:v∈(ga N lv c).Slots++(ga N lv c).More):v∈c.Slots++c.More∨v=iN:=by
 unfold ga at hv
 cases h8:decide (c.Kind=8) with
 |true=>rw [h8] at hv;exact .inl (El hv)
 | false=>
  rw [h8] at hv
  cases h10:decide (c.Kind=10) with
  |false=>rw [h10] at hv;exact .inl hv
  |true=>
   rw [h10] at hv;have hv':v∈c.Slots++(c.More.take 1++dt lv (c.More.drop 1)):=hv;rcases List.mem_append.1 hv' with hv'|hv'
   ·exact .inl (List.mem_append_left _ hv')
   rcases List.mem_append.1 hv' with hv'|hv'
   ·exact .inl (List.mem_append_right _ (List.mem_of_mem_take hv'))
   rcases zn lv hv' with hv'|hv'
   ·exact .inl (List.mem_append_right _ (List.mem_of_mem_drop hv'))
   exact .inr hv'
theorem yi {lv:List Int}{cb v:DValue}: ∀{l:List DValue},v∈fx lv cb l→v=cb∨v∈l
 | [],h=>by simp [fx] at h
 | [_],h=>by simp [fx] at h
 | [_,_],h=>by simp [fx] at h
 | [_,_,_],h=>by simp [fx] at h
 | t::a::k::s::r,h=>by
  simp only [lf] at h;rcases List.mem_append.1 h with h|h
  ·cases hd:decide (t.N∈lv) with
   |true=>rw [hd] at h;cases h
   |false=>rw [hd] at h;simp at h;rcases h with h|h|h<;>subst h<;>simp
  rcases yi h with h|h
  ·exact .inl h
  exact .inr (by simp [h])
section
variable {N:Nat} {m:DMemory} {roots:List DValue} {live f:List Int} (h:CollCtx N m roots live f)
include h
theorem CollCtx.flen:f.length≤1200:=by rw [h.lv.len];exact h.lv.small
theorem CollCtx.flen6:f.length≤600:=by
 have h1:=lR (fun _=>1) h.lv.nd fun a ha=>pF (h.lv.fhas ha)
 have h2: ∀l:List Int,cv (fun _=>1) l=l.length:=fun l=>by
  induction l with
  |nil=>rfl
  |cons x l ih=>rw [cv,ih,List.length_cons];omega
 rw [h2,h2] at h1;have h3:=h.tot.cnt;unfold vN at h1;simp only [List.length_append,List.length_map,List.length_range] at h1;omega
theorem CollCtx.nextW:W64 (cq N m live f):=fun c hc v hv=>by
 have hl:=h.flen
 have hc':c∈f.map fun a=>fk (fj f) f (ga N live (ce m a)):=hc
 obtain ⟨a,ha,rfl⟩:=List.mem_map.1 hc'
 have hv':v∈((ga N live (ce m a)).Slots++(ga N live (ce m a)).More).map (bM (fj f) f):=by rw [List.map_append];exact hv
 obtain ⟨w,hw,rfl⟩:=List.mem_map.1 hv';refine wn (by omega) ?_;rcases Fd hw with hw|rfl
 ·exact h.w64.at_ a w hw
 show in64 0;unfold in64;omega
theorem CollCtx.nextS (l:List DValue)(hl:l.length≤600):Small (cq N m live f) l:=by
 refine ⟨Nat.zero_le _,?_,hl,fun c hc=> ?_⟩
 ·unfold cq;simp only [List.length_map];exact h.flen6
 have hc':c∈f.map fun a=>fk (fj f) f (ga N live (ce m a)):=hc
 obtain ⟨a,ha,rfl⟩:=List.mem_map.1 hc';obtain ⟨-,g2,g3, -⟩:=(CellOk.new (xH f) (h.cell ha));exact ⟨g2,g3⟩
end
theorem Bc {ρ:Int→Int}{f:List Int}: ∀{l:List DValue},jt f l→cj (l.map (bM ρ f))=(cj l).map ρ
 | [],_=>rfl
 | v::l,h=>by
  have ih:=Bc (ρ:=ρ) (l:=l) fun w hw=>h w (by simp [hw])
  unfold cj at ih⊢;rw [List.map_cons,List.filter_cons,List.filter_cons,oJ]
  cases hb:bH v with
  |false=>exact ih
  |true=>
   simp only [if_true,List.map_cons,ih];rw [tY hb (h v (by simp) hb)]
theorem uW {F:Nat→DValue→Bool}{x:Int}(hB: ∀i v,F i v=true→bH v=true): ∀{i:Nat} {l:List DValue},x∈pick F i l→ ∃v∈l,bH v=true∧v.N=x
 |_,[],h=>by cases h
 | i,v::l,h=>by
  rw [fM] at h;rcases List.mem_append.1 h with h|h
  ·cases hf:F i v with
   |false=>rw [hf] at h;cases h
   |true=>rw [hf] at h;exact ⟨v,by simp,hB i v hf,(List.mem_singleton.1 h).symm⟩
  obtain ⟨w,g1,g2⟩:=uW hB h;exact ⟨w,by simp [g1],g2⟩
theorem GU {c:DCell}{x:Int}(h:x∈dc c): ∃v∈c.Slots++c.More,bH v=true∧v.N=x:=by
 unfold dc bN iO at h;rcases List.mem_append.1 h with h|h
 ·rcases List.mem_append.1 h with h|h
  ·obtain ⟨v,g1,g2⟩:=uW (fun _ _ h=>h) h;exact ⟨v,List.mem_append_left _ g1,g2⟩
  obtain ⟨v,g1,g2⟩:=uW (fun i v h=>((Bool.and_eq_true _ _).mp h).2) h;exact ⟨v,List.mem_append_right _ g1,g2⟩
 obtain ⟨v,g1,g2⟩:=uW (fun i v h=>((Bool.and_eq_true _ _).mp h).2) h;exact ⟨v,List.mem_append_right _ g1,g2⟩
section
variable {N:Nat} {m:DMemory} {roots:List DValue} {live f:List Int} (h:CollCtx N m roots live f)
include h
theorem CollCtx.now64: ∀v∈roots.map (bM (fj f) f),in64 v.N:=fun v hv=>by
 have hl:=h.flen;obtain ⟨w,hw,rfl⟩:=List.mem_map.1 hv;exact wn (by omega) (h.r64 w hw)
theorem CollCtx.newHas {l:List DValue}(hl:jt f l){v:DValue}(hv:v∈l.map (bM (fj f) f))(hb:bH v=true):bK (cq N m live f) v.N=true:=by
 have _:=h;obtain ⟨w,hw,rfl⟩:=List.mem_map.1 hv;rw [oJ] at hb;have:=hl w hw hb;rw [tY hb this];exact rI this
theorem CollCtx.nextAddr {c:DCell}(hc:c∈f.map fun a=>fk (fj f) f (ga N live (ce m a))):cX c=true∧ ∀x∈dc c,bK (cq N m live f) x=true:=by
 obtain ⟨a,ha,rfl⟩:=List.mem_map.1 hc;refine ⟨(CellOk.new (xH f) (h.cell ha)).1,fun x hx=> ?_⟩;obtain ⟨v,hv,hb,rfl⟩:=GU hx;obtain ⟨i1,i2⟩:=(h.cell ha).inC;rcases List.mem_append.1 hv with hv|hv
 ·exact h.newHas i1 hv hb
 exact h.newHas i2 hv hb
end
end Go.Proofs.YtmimkglhbmcokaaGreat
namespace Go.Proofs.YtmimkglhbmcokaaGreat
open Go.RowKit
theorem EL {lv f:List Int}{cb:DValue}(hcb:bH cb=true→cb.N∈f): ∀{l:List DValue},f3 l=true→(∀j v,l[4*j+1]? =some v→bH v=true→v.N∈f)→jt f (fx lv cb l)
 | [],_,_=>fun v hv=>by simp [fx] at hv
 | [_],h,_=>by cases h
 | [_,_],h,_=>by cases h
 | [_,_,_],h,_=>by cases h
 | t ::a::k::s::r,h,ho=>by
  rw [eR] at h;simp only [Bool.and_eq_true,decide_eq_true_eq] at h;obtain ⟨⟨⟨h1, -⟩,h3,h4⟩,h5⟩:=h
  have ih:=EL (lv:=lv) hcb h5 fun j v hj hb=>ho (j+1) v (by rw [show 4*(j+1)+1=4*j+1+4 by omega];simpa using hj) hb
  intro w hw hb;simp only [lf] at hw;rcases List.mem_append.1 hw with hw|hw
  ·cases hd:decide (t.N∈lv) with
   |true=>rw [hd] at hw;cases hw
   | false=>
    rw [hd] at hw;simp only [cond_false,List.mem_cons,List.not_mem_nil,or_false] at hw;rcases hw with rfl|rfl|rfl
    ·exact hcb hb
    ·exact ho 0 w rfl hb
    have:w.Kind=3:=by
     unfold numB at h4;rw [Bool.and_eq_true,decide_eq_true_eq] at h4;exact h4.1
    unfold bH at hb;rw [this] at hb;cases hb
  exact ih w hw hb
theorem vo {lv:List Int}{cb v:DValue}: ∀{l:List DValue} {j:Nat},l[4*j+1]? =some v→f3 l=true→(∃p,(dt lv l)[4*p+1]? =some v)∨v∈fx lv cb l
 | [],j,h,_=>by simp at h
 | [_],_,_,h=>by cases h
 | [_,_],_,_,h=>by cases h
 | [_,_,_],_,_,h=>by cases h
 |t::a::k::s::r,0,h,_=>by
  simp only [Nat.mul_zero,Nat.zero_add,List.getElem?_cons_succ,List.getElem?_cons_zero,Option.some.injEq] at h;subst h;simp only [ko,lf];cases decide (t.N∈lv)
  ·exact .inr (by simp)
  exact .inl ⟨0,by simp⟩
 | t::a::k::s::r,j+1,h,he=>by
  rw [eR] at he;rw [Bool.and_eq_true] at he;rw [show 4*(j+1)+1=4*j+1+4 by omega] at h
  have h':r[4*j+1]? =some v:=by simpa using h
  simp only [ko,lf];rcases vo (lv:=lv) (cb:=cb) h' he.2 with ⟨p,hp⟩|hp
  ·left;cases decide (t.N∈lv)
   ·exact ⟨p,hp⟩
   refine ⟨p+1,?_⟩;rw [show 4*(p+1)+1=4*p+1+4 by omega];simpa using hp
  exact .inr (List.mem_append_right _ hp)
theorem CL {F:Nat→DValue→Bool}{x:Int}: ∀{i:Nat} {l:List DValue},x∈pick F i l→ ∃j v,l[j]? =some v∧F (i+j) v=true∧v.N=x
 |_,[],h=>by cases h
 | i,v::l,h=>by
  rw [fM] at h;rcases List.mem_append.1 h with h|h
  ·cases hf:F i v with
   |false=>rw [hf] at h;cases h
   |true=>rw [hf] at h;exact ⟨0,v,rfl,hf,(List.mem_singleton.1 h).symm⟩
  obtain ⟨j,w,g1,g2,g3⟩:=CL h;exact ⟨j+1,w,by simpa using g1,by rw [show i+(j+1)=i+1+j by omega];exact g2,g3⟩
theorem Df {v:DValue}: ∀{l:List DValue} {j:Nat},l[4*j+3]? =some v→f3 l=true→bH v=false
 | [],j,h,_=>by simp at h
 | [_],_,_,h=>by cases h
 | [_,_],_,_,h=>by cases h
 | [_,_,_],_,_,h=>by cases h
 |t::a::k::s::r,0,h,he=>by
  simp only [Nat.mul_zero,Nat.zero_add,List.getElem?_cons_succ,List.getElem?_cons_zero,Option.some.injEq] at h;subst h;rw [eR] at he;simp only [Bool.and_eq_true] at he;have h4:=he.1.2.2;unfold numB at h4;rw [Bool.and_eq_true,decide_eq_true_eq] at h4;unfold bH;rw [h4.1];rfl
 |t::a::k::s::r,j+1,h,he=>by
  rw [eR] at he;rw [Bool.and_eq_true] at he;rw [show 4*(j+1)+3=4*j+3+4 by omega] at h;exact Df (l:=r) (j:=j) (by simpa using h) he.2
theorem Au {ρ:Int→Int}{row all2 lv f:List Int}(hsub: ∀x∈row,x∈f∧ρ x∈all2)(hlv: ∀x,x∈lv↔x∈f){x:Int}(hx:x∈f): ∀{l:List DValue},ld l=true→x∈opens (fun y=>decide (y∈row)) l→ρ x∈opens (fun y=>decide (y∈all2)) ((dR (fun y=>decide (y∈lv)) l).map (bM ρ f))
 | [],_,h=>by simp [opens] at h
 | [_],h,_=>by cases h
 | k::v::r,he,h=>by
  rw [ir] at he;rw [Bool.and_eq_true,Bool.and_eq_true,decide_eq_true_eq] at he;rw [gj] at h
  have hk:bH k=true:=by unfold bH;rw [he.1.1];rfl
  have tail:ρ x∈opens (fun y=>decide (y∈all2)) ((dR (fun y=>decide (y∈lv)) r).map (bM ρ f))→ρ x∈opens (fun y=>decide (y∈all2)) ((dR (fun y=>decide (y∈lv)) (k::v::r)).map (bM ρ f)):=fun ht=>by
   simp only [kA];cases decide (k.N∈lv)
   ·exact ht
   show ρ x∈opens _ (bM ρ f k::bM ρ f v::(dR (fun y=>decide (y∈lv)) r).map (bM ρ f));rw [gj];exact List.mem_append_right _ ht
  rcases List.mem_append.1 h with h|h
  ·cases hv:bH v&&decide (k.N∈row) with
   |false=>rw [hv] at h;cases h
   |true=>
    rw [hv] at h;rw [Bool.and_eq_true,decide_eq_true_eq] at hv;obtain rfl:=List.mem_singleton.1 h;obtain ⟨q1,q2⟩:=hsub _ hv.2;simp only [kA];rw [decide_eq_true ((hlv _).2 q1),cond_true];show ρ v.N∈opens _ (bM ρ f k::bM ρ f v::(dR (fun y=>decide (y∈lv)) r).map (bM ρ f));rw [gj,oJ,hv.1,tY hk q1,tY hv.1 hx];refine List.mem_append_left _ ?_;show ρ v.N∈bif true&&decide (ρ k.N∈all2) then [ρ v.N] else [];rw [decide_eq_true q2];exact List.mem_singleton.2 rfl
  exact tail (Au hsub hlv hx he.2 h)
theorem CellOk.strong {N:Nat}{ρ:Int→Int}{lv f:List Int}{c:DCell}(hρ:Ren ρ f)(h:CellOk N lv f c){x:Int}(hx:x∈bN c):ρ x∈bN (fk ρ f (ga N lv c))∨ ∃v∈ed lv c,bH v=true∧v.N=x:=by
 have hxf:=h.leads x hx;by_cases h8:c.Kind=8
 ·left;rw [D5 h8] at hx;rw [h.clC8 h8,D5 (c:=fk ρ f ⟨c.Kind,c.Shape,c.Flags,c.Age,c.Slots,dR (fun x=>decide (x∈lv)) c.More⟩) h8];show ρ x∈pick (fun _ v=>bH v) 0 (c.Slots.map (bM ρ f));rw [rE (fun _ v=>bH v) (fun _ v=>oJ ρ f v) (fun _ _ h=>h) 0 c.Slots fun y hy=>h.leads y (by rw [D5 h8];exact hy)];exact List.mem_map.2 ⟨x,hx,rfl⟩
 by_cases h10:c.Kind=10
 ·obtain ⟨q1,q2,q3⟩:=h.ent4 h10
  obtain ⟨a,r,hr⟩: ∃a r,c.More=a::r:=by
   cases hm:c.More with
   |nil=>rw [hm] at q1;simp at q1
   |cons a r=>exact ⟨a,r,rfl⟩
  rw [hr] at q3;have q3':f3 r=true:=q3
  have hm:(fk ρ f (ga N lv c)).More=bM ρ f a::(dt lv r).map (bM ρ f):=by
   rw [CellOk.clC10 h10,hr];rfl
  have hK:(fk ρ f (ga N lv c)).Kind=10:=by rw [(CellOk.new hρ h).2.2.2,h10]
  have hS:(fk ρ f (ga N lv c)).Slots=c.Slots.map (bM ρ f):=by
   rw [CellOk.clC10 h10];rfl
  unfold bN at hx;rcases List.mem_append.1 hx with hx'|hx'
  ·left;unfold bN;refine List.mem_append_left _ ?_;rw [hS,rE (fun _ v=>bH v) (fun _ v=>oJ ρ f v) (fun _ _ h=>h) 0 c.Slots fun y hy=>h.leads y (List.mem_append_left _ hy)];exact List.mem_map.2 ⟨x,hx',rfl⟩
  obtain ⟨j,v,g1,g2,g3⟩:=CL hx';rw [Bool.and_eq_true] at g2;obtain ⟨g2,gb⟩:=g2;rw [Nat.zero_add,h10] at g2
  have put: ∀p,((fk ρ f (ga N lv c)).More)[p]? =some (bM ρ f v)→fc 10 p=false→ρ x∈bN (fk ρ f (ga N lv c)):=fun p hp hw=>by
   unfold bN;refine List.mem_append_right _ ?_;have:=uV (F:=fun i v=> !fc (fk ρ f (ga N lv c)).Kind i&&bH v) (i:=0) hp (by rw [Nat.zero_add,hK,hw,oJ,gb];rfl);rw [tY gb (by rw [g3];exact hxf)] at this;rw [←g3];exact this
  cases j with
  |zero=>
   rw [hr] at g1
   have e1:a=v:=by simpa using g1
   exact .inl (put 0 (by rw [hm,e1];rfl) rfl)
  | succ i=>
   rw [hr] at g1
   have g1':r[i]? =some v:=by simpa using g1
   have hw:((((i+1:Nat):Int) - 1).tmod 4).tmod 2≠0:=by
    intro e
    have:fc 10 (i+1)=true:=by
     unfold fc;rw [decide_eq_true (p:=(0:Int)<((i+1:Nat):Int)) (by omega),decide_eq_true e];rfl
    rw [this] at g2;cases g2
   have e4:(((i+1:Nat):Int) - 1).tmod 4=((i%4:Nat):Int):=by rw [Int.tmod_eq_emod_of_nonneg (by omega)];omega
   rw [e4,Int.tmod_eq_emod_of_nonneg (by omega)] at hw
   have h13:i%4=1∨i%4=3:=by omega
   rcases h13 with h1|h3
   ·obtain ⟨q,rfl⟩: ∃q,i=4*q+1:=⟨i / 4,by omega⟩;rcases vo (lv:=lv) (cb:=c.More.headD iN) g1' q3' with ⟨p,hp⟩|hp
    ·refine .inl (put (4*p+2) ?_ ?_)
     ·rw [hm,show 4*p+2=(4*p+1)+1 by omega,List.getElem?_cons_succ,List.getElem?_map,hp];rfl
     unfold fc
     have e1:(((4*p+2:Nat):Int) - 1).tmod 4=1:=by rw [Int.tmod_eq_emod_of_nonneg (by omega)];omega
     have e2:((1:Int)).tmod 2=1:=rfl;rw [e1,e2];cases decide ((0:Int)<((4*p+2:Nat):Int))<;>rfl
    refine .inr ⟨v,?_,gb,g3⟩;unfold ed;rw [decide_eq_true h10];unfold nV;rw [hr] at hp⊢;exact hp
   obtain ⟨q,rfl⟩: ∃q,i=4*q+3:=⟨i / 4,by omega⟩;rw [Df g1' q3'] at gb;cases gb
 left;rw [CellOk.clC0 h8 h10,Gu h.leads];exact List.mem_map.2 ⟨x,hx,rfl⟩
theorem CellOk.toldIn {N:Nat}{lv f:List Int}{c:DCell}(h:CellOk N lv f c):jt f (ed lv c):=by
 unfold ed;by_cases h10:c.Kind=10
 ·rw [decide_eq_true h10];obtain ⟨q1,q2,q3⟩:=h.ent4 h10
  obtain ⟨a,r,hr⟩: ∃a r,c.More=a::r:=by
   cases hm:c.More with
   |nil=>rw [hm] at q1;simp at q1
   |cons a r=>exact ⟨a,r,rfl⟩
  rw [hr] at q3;have q3':f3 r=true:=q3;unfold nV;rw [hr]
  refine EL (fun hb=>sB h.leads (j:=0) (v:=a) (by rw [hr];rfl) (by unfold fc;rw [h10];rfl) hb) q3' fun j w hj hw=>sB h.leads (j:=4*j+2) (by rw [hr,show 4*j+2=(4*j+1)+1 by omega,List.getElem?_cons_succ];exact hj) ?_ hw
  unfold fc;rw [h10]
  have e1:(((4*j+2:Nat):Int) - 1).tmod 4=1:=by rw [Int.tmod_eq_emod_of_nonneg (by omega)];omega
  have e2:((1:Int)).tmod 2=1:=rfl;rw [e1,e2];cases decide ((0:Int)<((4*j+2:Nat):Int))<;>rfl
 rw [decide_eq_false h10];intro v hv;cases hv
theorem AX {p:Int→Bool}: ∀{l:List DValue},ld l=true→(∀v∈l,bH v=true→p v.N=true)→dR p l=l
 | [],_,_=>rfl
 | [_],h,_=>by cases h
 |k::v::r,he,h=>by
  rw [ir] at he;rw [Bool.and_eq_true,Bool.and_eq_true,decide_eq_true_eq] at he
  have hk:bH k=true:=by unfold bH;rw [he.1.1];rfl
  simp only [kA];rw [h k (by simp) hk,AX he.2 fun w hw=>h w (by simp [hw])];rfl
theorem E0 {lv:List Int}(cb:DValue): ∀{l:List DValue},f3 l=true→jt lv l→dt lv l=l∧fx lv cb l=[]
 | [],_,_=>⟨rfl,rfl⟩
 | [_],h,_=>by cases h
 | [_,_],h,_=>by cases h
 | [_,_,_],h,_=>by cases h
 | t::a::k::s::r,he,h=>by
  rw [eR] at he;simp only [Bool.and_eq_true,decide_eq_true_eq] at he;obtain ⟨⟨⟨h1, -⟩, -, -⟩,h5⟩:=he;have ht:=h t (by simp) (by unfold bH;rw [h1];rfl)
  obtain ⟨i1,i2⟩:=E0 cb h5 fun w hw=>h w (by simp [hw])
  simp only [ko,lf];rw [decide_eq_true ht,i1,i2];refine ⟨?_,rfl⟩
  have hk:(decide (k.Kind=7)&& !decide (k.N∈lv))=false:=by
   by_cases h7:k.Kind=7
   ·rw [decide_eq_true (h k (by simp) (by unfold bH;rw [h7];rfl))];simp
   rw [decide_eq_false h7];rfl
  rw [hk];rfl
theorem H4 {N:Nat}(hN:2000<N){lv:List Int}{c:DCell}(hr:cX c=true)(hS:c.Slots.length≤600)(hM:c.More.length≤600)(h:jt lv c.More):ga N lv c=c∧ed lv c=[]:=by
 have hp:=(oA hr).2.2;by_cases h8:c.Kind=8
 ·rw [h8] at hp
  have e:ga N lv c=⟨c.Kind,c.Shape,c.Flags,c.Age,c.Slots,dR (fun x=>decide (x∈lv)) c.More⟩:=by
   unfold ga ks;rw [tZ hN hr hS hM,decide_eq_true h8];rfl
  refine ⟨?_,by unfold ed;rw [decide_eq_false (p:=c.Kind=10) (by omega)];rfl⟩;rw [e,AX hp fun v hv hb=>decide_eq_true (h v hv hb)]
 by_cases h10:c.Kind=10
 ·rw [h10] at hp;have hp':(decide (1≤c.More.length)&&decide ((mh c.More 0).Kind=7)&&f3 (c.More.drop 1))=true:=hp;simp only [Bool.and_eq_true,decide_eq_true_eq] at hp'
  obtain ⟨i1,i2⟩:=E0 (lv:=lv) (c.More.headD iN) hp'.2 fun v hv=>h v (List.mem_of_mem_drop hv)
  refine ⟨?_,?_⟩
  ·rw [CellOk.clC10 h10,i1,List.take_append_drop]
  unfold ed nV;rw [decide_eq_true h10,i2];rfl
 exact ⟨CellOk.clC0 h8 h10,by unfold ed;rw [decide_eq_false h10];rfl⟩
theorem G9 {f:List Int}(hn:f.Nodup){i:Nat}(hi:i<f.length):fj f f[i]=2*(i:Int)+2:=by
 unfold fj;have hm:f[i]∈f:=List.getElem_mem _
 have e:f.idxOf f[i]=i:=by
  rcases Nat.lt_trichotomy (f.idxOf f[i]) i with h2|h2|h2
  ·exact absurd (jy hm) (List.pairwise_iff_getElem.1 (List.nodup_iff_pairwise_ne.1 hn) _ _ (lr hm) hi h2)
  ·exact h2
  exact absurd (jy hm).symm (List.pairwise_iff_getElem.1 (List.nodup_iff_pairwise_ne.1 hn) _ _ hi (lr hm) h2)
 rw [e]
def bw (n:Nat):List Int:=(List.range n).map fun i:Nat=>2*(i:Int)+2
theorem Bu {f:List Int}(hn:f.Nodup):f.map (fj f)=bw f.length:=by
 unfold bw
 refine List.ext_getElem (by simp) fun i h1 h2=> ?_
 simp only [List.getElem_map,List.getElem_range];exact G9 hn (by simpa using h1)
theorem wE (n:Nat):(bw n).Pairwise (· < ·):=by
 unfold bw;rw [List.pairwise_map]
 exact List.pairwise_lt_range.imp fun h=>by omega
theorem AF (n:Nat):jK (bw n)=bw n:=by
 have h: ∀a∈bw n,oT a=true∧xB a=false:=fun a ha=>by
  unfold bw at ha;obtain ⟨i, -,rfl⟩:=List.mem_map.1 ha;unfold oT xB
  have e:(2*(i:Int)+2).tmod 2=0:=by rw [Int.tmod_eq_emod_of_nonneg (by omega)];omega
  rw [e];exact ⟨rfl,rfl⟩
 unfold jK;rw [List.filter_eq_self.2 fun a ha=>(h a ha).1,List.filter_eq_nil_iff.2 fun a ha=>by rw [(h a ha).2];simp,List.append_nil]
theorem wD {n i:Nat}(h:i<(bw n).length):(bw n)[i]=2*(i:Int)+2:=by simp [bw]
theorem GI {n:Nat}{a:Int}(ha:a∈bw n):fj (bw n) a=a:=by
 obtain ⟨i,hi,e⟩:=List.getElem_of_mem ha;have h1:=G9 (GS (wE n)) hi;rw [e] at h1;rw [h1, ←e,wD]
theorem GJ (n:Nat)(v:DValue):bM (fj (bw n)) (bw n) v=v:=by
 unfold bM
 cases h:bH v&&decide (v.N∈bw n) with
 |false=>rfl
 |true=>
  rw [Bool.and_eq_true,decide_eq_true_eq] at h;show (⟨v.Kind,fj (bw n) v.N,v.S⟩:DValue)=v;rw [GI h.2]
theorem t7 (n:Nat)(l:List DValue):l.map (bM (fj (bw n)) (bw n))=l:=by
 have:bM (fj (bw n)) (bw n)=id:=funext fun v=>GJ n v
 rw [this,List.map_id]
theorem Ee (n:Nat)(c:DCell):fk (fj (bw n)) (bw n) c=c:=by
 unfold fk;rw [t7,t7]
def nE (g:Gr)(live:List Int):List Int→List Int→List Int
 |row,[]=>row
 |row,a::avs=>nE g live (db g.has row (g.opens live a)) avs
inductive MOrd (g:Gr) (olds kept:List Int):List Int→List Int→Prop
 |done {row:List Int}:nE g (olds++row) row (kept++row)=row→MOrd g olds kept row row
 |step {row r1 r:List Int}:nE g (olds++row) row (kept++row)≠row→Thr g (nE g (olds++row) row (kept++row)) row.length r1→MOrd g olds kept r1 r→MOrd g olds kept row r
structure IsMinor (g:Gr) (olds kept start b l:List Int):Prop where
 strong:Thr g (db g.has [] start) 0 b
 all:MOrd g olds kept b l
theorem pB (g:Gr)(live:List Int): ∀(row avs:List Int), ∃t,nE g live row avs=row++t
 |row,[]=>⟨[],by simp [nE]⟩
 |row,a::avs=>by
  obtain ⟨t,h1, -⟩:=fB g.has row (g.opens live a);obtain ⟨t2,h2⟩:=pB g live (db g.has row (g.opens live a)) avs;exact ⟨t++t2,by unfold nE;rw [h2,h1,List.append_assoc]⟩
theorem Ao (g:Gr)(live:List Int): ∀(row avs bs:List Int),nE g live row (avs++bs)=nE g live (nE g live row avs) bs
 |_,[],_=>rfl
 |row,a::avs,bs=>by
  show nE g live _ (avs++bs)=_;rw [Ao g live _ avs bs];rfl
theorem Ap {g:Gr}{live:List Int}: ∀{row avs:List Int},nE g live row avs=row→ ∀a∈avs, ∀x∈g.opens live a,g.has x=true→x∈row
 | row,b::avs,h,a,ha,x,hx,hh=>by
  have h1:db g.has row (g.opens live b)=row:=by
   obtain ⟨t,e1, -⟩:=fB g.has row (g.opens live b);obtain ⟨t2,e2⟩:=pB g live (db g.has row (g.opens live b)) avs
   have h3:row++t++t2=row:=by rw [←e1, ←e2];exact h
   have h4:=congrArg List.length h3;simp only [List.length_append] at h4;have h5:t=[]:=List.eq_nil_of_length_eq_zero (by omega);rw [e1,h5,List.append_nil]
  rcases List.mem_cons.1 ha with e|ha
  ·subst e;have:=pI row _ hx hh;rwa [h1] at this
  refine Ap (avs:=avs) ?_ a ha x hx hh;unfold nE at h;rw [h1] at h;exact h
theorem MOrd.app {g:Gr}{olds kept row r:List Int}(h:MOrd g olds kept row r): ∃t,r=row++t:=by
 induction h with
 |done _=>exact ⟨[],by simp⟩
 |step _ h1 _ ih=>
  rename_i row r1 _ _ _
  obtain ⟨t,rfl⟩:=ih;obtain ⟨t1,rfl⟩:=h1.app;obtain ⟨t2,h2⟩:=pB g (olds++row) row (kept++row);exact ⟨t2++t1++t,by rw [h2];simp [List.append_assoc]⟩
theorem MOrd.closed {g:Gr}{olds kept row r:List Int}(h:MOrd g olds kept row r)(hc:CloG g row row.length):CloG g r r.length∧ ∀a∈kept++r, ∀x∈g.opens (olds++r) a,g.has x=true→x∈r:=by
 induction h with
 |done hp=>exact ⟨hc,Ap hp⟩
 |step _ h1 _ ih=>
  rename_i row _ _ _ _
  obtain ⟨t,e⟩:=pB g (olds++row) row (kept++row);refine ih (h1.clo (by rw [e,List.length_append];omega) ?_);rw [e];exact hc.app (Nat.le_refl _)
theorem IsMinor.start {g:Gr}{olds kept start b l:List Int}(h:IsMinor g olds kept start b l){x:Int}(hx:x∈start)(hh:g.has x=true):x∈l:=by
 obtain ⟨t,e⟩:=h.strong.app;obtain ⟨t2,e2⟩:=h.all.app;rw [e2,e];exact List.mem_append_left _ (List.mem_append_left _ (pI _ _ hx hh))
theorem IsMinor.closed {g:Gr}{olds kept start b l:List Int}(h:IsMinor g olds kept start b l):(∀a∈l, ∀x∈g.leads a,g.has x=true→x∈l)∧ ∀a∈kept++l, ∀x∈g.opens (olds++l) a,g.has x=true→x∈l:=by
 obtain ⟨h1,h2⟩:=h.all.closed (h.strong.clo (Nat.zero_le _) fun i _ _ hi=>absurd hi (by omega));refine ⟨fun a ha x hx hh=> ?_,h2⟩;obtain ⟨i,hi,e⟩:=List.getElem_of_mem ha;exact h1 i a x hi (by rw [List.getElem?_eq_getElem hi,e]) hx hh
def yB (a:Int):Bool:=decide (0<a)&&decide (a.tmod 2=1)
def GB (N:Nat)(m:DMemory):Gr:=⟨yB,fun a=>bN (ce m a),fun live a=>cM N (ce m a) live⟩
theorem mW (N:Nat)(a:Int):eu N a=some (yB a):=by
 unfold eu yB;cases decide (0<a)<;>cases decide (a.tmod 2=1)<;>rfl
theorem Dy (k:Nat):yB (2*(k:Int)+1)=true:=by
 unfold yB;rw [ng (by omega),decide_eq_true (by omega),decide_eq_true (by omega)];rfl
theorem xG (k:Nat):yB (2*(k:Int)+2)=false:=by
 unfold yB;rw [ng (by omega),decide_eq_false (p:=(2*(k:Int)+2)%2=1) (by omega),Bool.and_false]
structure Mt (m:DMemory) (met:List Int) (seen:List (Int×Bool)):Prop where
 nd:met.Nodup
 yng: ∀x∈met,yB x=true
 has: ∀x∈met,bK m x=true
 mem: ∀x,(lk seen x).getD false=decide (x∈met)
theorem Mt.len {m:DMemory}{roots:List DValue}(hs:Small m roots){met:List Int}{seen:List (Int×Bool)}(h:Mt m met seen):met.length≤1200:=va 1200 h.nd fun x hx=>⟨by have:=nQ (h.has x hx);omega,by have:=sE hs (h.has x hx);omega⟩
theorem Mt.nil (m:DMemory):Mt m [] []:=⟨List.nodup_nil,by simp,by simp,fun x=>by simp;rfl⟩
theorem Az (N:Nat){m:DMemory}{roots:List DValue}(hs:Small m roots)(kp:List Int){met:List Int}{seen:List (Int×Bool)}(nx:Int)(h:Mt m met seen)(a:Int)(ha:yB a=true→bK m a=true): ∃seen',cu N ⟨m,kp,met,seen,nx⟩ a=some ⟨m,kp,db yB met [a],seen',nx⟩∧Mt m (db yB met [a]) seen':=by
 have hlen:=h.len hs;unfold cu;rw [mW,bs]
 dsimp only
 rw [h.mem a];have hl:db yB met [a]=bif yB a&& !decide (a∈met) then met++ [a] else met:=rfl;rw [hl]
 cases hy:yB a with
 |false=>exact ⟨seen,rfl,h⟩
 | true=>
  by_cases hm:a∈met
  ·rw [decide_eq_true hm];exact ⟨seen,rfl,h⟩
  rw [decide_eq_false hm];refine ⟨pS seen a true,?_,?_⟩
  ·simp only [ct,bs,nf];rw [rF (by simp;omega)];rfl
  refine ⟨List.nodup_append.2 ⟨h.nd,by simp,fun x hx y hy e=>by rw [List.mem_singleton] at hy;subst hy;subst e;exact hm hx⟩,fun x hx=> ?_,fun x hx=> ?_,fun x=> ?_⟩
  ·rcases List.mem_append.1 hx with hx|hx
   ·exact h.yng x hx
   rw [List.mem_singleton] at hx;subst hx;exact hy
  ·rcases List.mem_append.1 hx with hx|hx
   ·exact h.has x hx
   rw [List.mem_singleton] at hx;subst hx;exact ha hy
  rw [C0];show _=decide (x∈met++ [a]);by_cases e:a=x
  ·rw [if_pos e,decide_eq_true (by simp [e])];rfl
  rw [if_neg e,h.mem x];exact eW ⟨fun hx=>List.mem_append_left _ hx,fun hx=>(List.mem_append.1 hx).elim id fun hx=>absurd (List.mem_singleton.1 hx).symm e⟩
theorem wq {ρ:Type}(N:Nat){m:DMemory}{roots:List DValue}(hs:Small m roots)(l:List Int)(hl:l.length<N)(hl2:l.length≤5000)(hh: ∀x∈l,yB x=true→bK m x=true)(L:Nat→Int→List DCell→List DCell→List Int→List Int→List (Int×Bool)→Int→Option ρ)(K:List DCell→List DCell→List Int→List Int→List (Int×Bool)→Int→Option ρ)
  (hrec: ∀k i Y O kp met seen nx,L (k+1) i Y O kp met seen nx=bif decide (i<(l.length:Int)) then ((aM l i).bind fun x=>(cu N (⟨(⟨Y,O⟩:DMemory),kp,met,seen,nx⟩:DMeeter) x).bind fun y=>bA (in64 (i+1)) (L k (i+1) y.m_.Young y.m_.Old y.kept_ y.met_ y.seen_ y.next_)) else K Y O kp met seen nx)
  (kp:List Int) {met:List Int} {seen:List (Int×Bool)} (nx:Int) (h:Mt m met seen) (R:ρ→Prop) (hk: ∀seen',Mt m (db yB met l) seen'→Sat (K m.Young m.Old kp (db yB met l) seen' nx) R):Sat (L N 0 m.Young m.Old kp met seen nx) R:=by
 refine cy (fun k i (s:List Int×List (Int×Bool))=>L k (i:Int) m.Young m.Old kp s.1 s.2 nx) l.length (fun i s=>Mt m s.1 s.2∧s.1=db yB met (l.take i)) R ?_ ?_ N 0 (met,seen) (by omega) (by omega) ⟨h,rfl⟩
 ·rintro k i ⟨mt,sn⟩ hi ⟨h1,h2⟩ go;simp only at h1 h2;show Sat (L (k+1) (i:Int) m.Young m.Old kp mt sn nx) R;obtain ⟨sn',e1,e2⟩:=Az N hs kp nx h1 l[i] (hh _ (List.getElem_mem _));have e1':cu N ⟨⟨m.Young,m.Old⟩,kp,mt,sn,nx⟩ l[i]=some ⟨m,kp,db yB mt [l[i]],sn',nx⟩:=e1;rw [hrec,cI (by omega),ct,bn hi,bs,e1',bs,r64 (by omega) (by omega)];exact go (db yB mt [l[i]],sn') ⟨e2,by show db yB mt [l[i]]=_;rw [bf hi,nL, ←h2]⟩
 rintro k ⟨mt,sn⟩ ⟨h1,h2⟩;simp only [List.take_length] at h1 h2;show Sat (L (k+1) _ m.Young m.Old kp mt sn nx) R;rw [hrec,cG (by omega),cf];subst h2;exact hk sn h1
theorem nJ (N:Nat){m:DMemory}{roots:List DValue}(hs:Small m roots)(kp met:List Int)(seen:List (Int×Bool))(nx:Int){a:Int}(ha:bK m a=true):bU N ⟨m,kp,met,seen,nx⟩ a=some (ce m a):=by
 have hy:=hs.young;have ho:=hs.old;unfold bU;rw [mW,bs];rcases mV ha with ⟨i,hi,rfl⟩|⟨i,hi,rfl⟩
 ·rw [Dy,ct,tc (by omega),show (2*(i:Int)+1) / 2=i by omega,r64 (by omega) (by omega),FJ m i hi,bn hi,bs]
 rw [xG,cf,tc (by omega),show (2*(i:Int)+2) / 2=(i:Int)+1 by omega,r64 (by omega) (by omega),r64 (by omega) (by omega),show (i:Int)+1 - 1=i by omega,tC m i hi,bn hi,bs]
def Whole (m:DMemory):Prop:= ∀a,bK m a=true→ ∀x∈dc (ce m a),bK m x=true
theorem Whole.leads {m:DMemory}(h:Whole m){a:Int}(ha:bK m a=true): ∀x∈bN (ce m a),bK m x=true:=fun x hx=>h a ha x (List.mem_append_left _ hx)
theorem Whole.opens {m:DMemory}(h:Whole m){N:Nat}{live:List Int}{a:Int}(ha:bK m a=true): ∀x∈cM N (ce m a) live,bK m x=true:=fun x hx=>by
 unfold cM at hx
 cases hw:ma N (ce m a) with
 |false=>rw [hw] at hx;cases hx
 |true=>
  rw [hw] at hx;obtain ⟨v,hv,hb,rfl⟩:=sw hx;exact h a ha _ (vO (List.mem_append_right _ hv) hb)
theorem tu (N:Nat)(hN:5000<N){m:DMemory}{roots:List DValue}(hs:Small m roots)(hw:Whole m)(kp:List Int){met:List Int}{seen:List (Int×Bool)}(h:Mt m met seen)(k:Nat)(hk:k≤met.length):
  Sat (dY N ⟨m,kp,met,seen,(k:Int)⟩) fun r=> ∃seen',r=⟨m,kp,r.met_,seen',(r.met_.length:Int)⟩∧Mt m r.met_ seen'∧Thr (GB N m) met k r.met_:=by
 unfold dY;refine lZ (fun f (s:List Int×List (Int×Bool)×Nat)=>minor_meeter_through_l7 N f m.Young m.Old kp s.1 s.2.1 (s.2.2:Int)) (fun s=>1300 - s.2.2) (fun s=>Mt m s.1 s.2.1∧s.2.2≤s.1.length∧ ∀r,Thr (GB N m) s.1 s.2.2 r→Thr (GB N m) met k r) _ ?_ N (met,seen,k) (by show 1300 - k<N;omega) ⟨h,hk,fun _ h=>h⟩;rintro f ⟨mt,sn,j⟩ ⟨h1,h3,h4⟩ go;show Sat (minor_meeter_through_l7 N (f+1) m.Young m.Old kp mt sn (j:Int)) _;simp only at h1 h3 h4;have hlen:=h1.len hs;rw [minor_meeter_through_l7.eq_2];by_cases hj:j<mt.length
 ·have hh:=h1.has _ (List.getElem_mem hj);have hsm:=hs.at_ mt[j];have e1:bU N ⟨⟨m.Young,m.Old⟩,kp,mt,sn,(j:Int)⟩ mt[j]=some (ce m mt[j]):=nJ N hs kp mt sn (j:Int) hh;have hll:=jl (ce m mt[j]);rw [cI (by omega),ct,bn hj,bs,e1,bs,lp N (by omega) _ (by omega) (by omega),bs]
  refine wq N hs (bN (ce m mt[j])) (by omega) (by omega) (fun x hx _=>hw.leads hh x hx) (minor_meeter_through_l31 N (minor_meeter_through_l7 N f) (bN (ce m mt[j]))) (ew N (minor_meeter_through_l7 N f)) (fun _ _ _ _ _ _ _ _=>by rw [minor_meeter_through_l31.eq_2]) kp (j:Int) h1 _ fun sn' h5=> ?_
  unfold ew;rw [r64 (by omega) (by omega)]
  have hge:mt.length≤(db yB mt (bN (ce m mt[j]))).length:=by
   obtain ⟨t,e, -⟩:=fB yB mt (bN (ce m mt[j]));rw [e,List.length_append];omega
  exact go (db yB mt (bN (ce m mt[j])),sn',j+1) (by show 1300 - (j+1)<1300 - j;omega) ⟨h5,by show j+1≤(db yB mt (bN (ce m mt[j]))).length;omega,fun r hr=>h4 r (.step (List.getElem?_eq_getElem hj) hr)⟩
 have:j=mt.length:=by omega
 subst this;rw [cG (by omega),cf];exact aS ⟨sn,rfl,h1,h4 _ (.done (Nat.le_refl _))⟩
theorem zb (N:Nat)(hN:5000<N){m:DMemory}{roots:List DValue}(hs:Small m roots)(kp:List Int){met:List Int}{seen:List (Int×Bool)}(nx:Int)(h:Mt m met seen):ec N ⟨m,kp,met,seen,nx⟩=some (bw m.Old.length++met):=by
 apply Sat.eq;have ho:=hs.old;have hlen:=h.len hs;unfold ec;refine cy (fun k i (s:List Int)=>minor_meeter_live_l9 N ⟨m,kp,met,seen,nx⟩ k s (i:Int)) m.Old.length (fun i s=>s=bw i) _ ?_ ?_ N 0 [] (by omega) (by omega) rfl
 ·rintro k i s hi rfl go;show Sat (minor_meeter_live_l9 N ⟨m,kp,met,seen,nx⟩ (k+1) (bw i) (i:Int)) _
  have hev:(bw i).length=i:=by unfold bw;simp
  rw [minor_meeter_live_l9.eq_2,cI (by show (i:Int)<(m.Old.length:Int);omega),ct,r64 (by omega) (by omega),r64 (by omega) (by omega),rF (by simp;omega),r64 (by omega) (by omega)];refine go _ ?_;unfold bw;rw [List.range_succ,List.map_append];rfl
 rintro k s rfl;show Sat (minor_meeter_live_l9 N ⟨m,kp,met,seen,nx⟩ (k+1) _ _) _
 have hev:(bw m.Old.length).length=m.Old.length:=by unfold bw;simp
 rw [minor_meeter_live_l9.eq_2,cG (by show (m.Old.length:Int)≤(m.Old.length:Int);omega),cf];unfold jj
 dsimp only
 rw [rF (by omega)];exact aS rfl
theorem Di (N:Nat)(a b:List Int)(ha:a.length≤100000)(hb:b.length≤100000):iy N a b=some (a++b):=by
 unfold iy lg ml ju kD;rw [r64 (by omega) (by omega),cG (a:=0+(a.length:Int)) (by omega),cf,r64 (by omega) (by omega),cG (a:=0+(a.length:Int)+(b.length:Int)) (by omega),cf,r64 (by omega) (by omega),r64 (by omega) (by omega),cf];by_cases h:0<a.length+b.length
 ·rw [cI (by omega),ct,iS ⟨by omega,by omega⟩,bs,rF (by simp;omega),rF (by simp;omega)];rfl
 rw [cG (by omega),cf,bs,rF (by simp;omega),rF (by simp;omega)];rfl
theorem D4 (N:Nat)(hN:5000<N){m:DMemory}{roots:List DValue}(hs:Small m roots)(hw:Whole m)(kp:List Int)(hk: ∀x∈kp,bK m x=true)(hkl:kp.length≤1200){met:List Int}{seen:List (Int×Bool)}(nx:Int)(h:Mt m met seen):
  Sat (eV N ⟨m,kp,met,seen,nx⟩) fun r=> ∃seen',r=(decide ((met.length:Int)<(r.2.met_.length:Int)),⟨m,kp,r.2.met_,seen',nx⟩)∧Mt m r.2.met_ seen'∧r.2.met_=nE (GB N m) (bw m.Old.length++met) met (kp++met):=by
 have hlen:=h.len hs;have ho:=hs.old
 have hev:(bw m.Old.length).length=m.Old.length:=by unfold bw;simp
 unfold eV;rw [zb N hN hs kp nx h,bs]
 dsimp only
 rw [Di N kp met (by omega) (by omega),bs]
 have hL:(bw m.Old.length++met).length≤5000:=by rw [List.length_append];omega
 have hC:(kp++met).length≤2400:=by rw [List.length_append];omega
 generalize hlv:bw m.Old.length++met=live at*
 have hcm: ∀x∈kp++met,bK m x=true:=fun x hx=>(List.mem_append.1 hx).elim (hk x) (h.has x)
 generalize hcc:kp++met=cs at*;refine cy (fun k i (s:List Int×List (Int×Bool))=>minor_meeter_open_l21 N ⟨m,kp,met,seen,nx⟩ cs live k (i:Int) m.Young m.Old kp s.1 s.2 nx) cs.length (fun i s=>Mt m s.1 s.2∧s.1=nE (GB N m) live met (cs.take i)) _ ?_ ?_ N 0 (met,seen) (by omega) (by omega) ⟨h,rfl⟩
 ·rintro k i ⟨mt,sn⟩ hi ⟨h1,h2⟩ go;simp only at h1 h2;show Sat (minor_meeter_open_l21 N ⟨m,kp,met,seen,nx⟩ cs live (k+1) (i:Int) m.Young m.Old kp mt sn nx) _;have hh:=hcm _ (List.getElem_mem hi);have hsm:=hs.at_ cs[i];have e1:bU N ⟨⟨m.Young,m.Old⟩,kp,mt,sn,nx⟩ cs[i]=some (ce m cs[i]):=nJ N hs kp mt sn nx hh;have hol:=yT N (ce m cs[i]) live;rw [minor_meeter_open_l21.eq_2,cI (by omega),ct,bn hi,bs,e1,bs,yQ N hN live (by omega) _ (by omega) (by omega),bs]
  refine wq N hs (cM N (ce m cs[i]) live) (by omega) (by omega) (fun x hx _=>hw.opens hh x hx) (minor_meeter_open_l43 N (minor_meeter_open_l21 N ⟨m,kp,met,seen,nx⟩ cs live k) ⟨m,kp,met,seen,nx⟩ cs (i:Int) (cM N (ce m cs[i]) live) live) (fE N (minor_meeter_open_l21 N ⟨m,kp,met,seen,nx⟩ cs live k) ⟨m,kp,met,seen,nx⟩ cs (i:Int) live) (fun _ _ _ _ _ _ _ _=>by rw [minor_meeter_open_l43.eq_2]) kp nx h1 _ fun sn' h5=> ?_
  unfold fE;rw [r64 (by omega) (by omega)];refine go (db yB mt (cM N (ce m cs[i]) live),sn') ⟨h5,?_⟩;show db yB mt (cM N (ce m cs[i]) live)=_;rw [bf hi,Ao, ←h2];rfl
 rintro k ⟨mt,sn⟩ ⟨h1,h2⟩;simp only [List.take_length] at h1 h2;show Sat (minor_meeter_open_l21 N ⟨m,kp,met,seen,nx⟩ cs live (k+1) _ m.Young m.Old kp mt sn nx) _;rw [minor_meeter_open_l21.eq_2,cG (by omega),cf];unfold ji;exact aS ⟨sn,rfl,h1,h2⟩
def yn (m:DMemory)(roots:List DValue)(kept:List Int):List Int:=cj roots++kept.flatMap fun a=>bN (ce m a)
theorem zi (N:Nat)(v:DValue):iA N v=some (v.N,bH v):=by
 unfold iA;rw [nM,bs]
theorem Gq (N:Nat)(hN:5000<N){m:DMemory}{roots:List DValue}(hs:Small m roots)(hw:Whole m)(hr: ∀x∈cj roots,bK m x=true)(kept:List Int)(hk: ∀x∈kept,bK m x=true)(hkl:kept.length≤1200):
  Sat (jk N m roots kept) fun r=> ∃seen nx b,r=⟨m,kept,r.met_,seen,nx⟩∧Mt m r.met_ seen∧IsMinor (GB N m) (bw m.Old.length) kept (yn m roots kept) b r.met_:=by
 have hrl:=hs.roots
 -- the passes
 have passes: ∀(b:List Int) (seen:List (Int×Bool)),Mt m b seen→Thr (GB N m) (db yB [] (yn m roots kept)) 0 b→Sat (minor_all_l104 N N m.Young m.Old kept b seen (b.length:Int)) fun r=> ∃seen nx b,r=⟨m,kept,r.met_,seen,nx⟩∧Mt m r.met_ seen∧IsMinor (GB N m) (bw m.Old.length) kept (yn m roots kept) b r.met_:=by
  intro b seen h hb;have h0:=h.len hs;refine lZ (fun f (s:List Int×List (Int×Bool))=>minor_all_l104 N f m.Young m.Old kept s.1 s.2 (s.1.length:Int)) (fun s=>1300 - s.1.length) (fun s=>Mt m s.1 s.2∧ ∀r,MOrd (GB N m) (bw m.Old.length) kept s.1 r→MOrd (GB N m) (bw m.Old.length) kept b r) _ ?_ N (b,seen) (by show 1300 - b.length<N;omega) ⟨h,fun _ h=>h⟩;rintro f ⟨mt,sn⟩ ⟨h1,h2⟩ go;simp only at h1 h2;show Sat (minor_all_l104 N (f+1) m.Young m.Old kept mt sn (mt.length:Int)) _;have hlen:=h1.len hs;obtain ⟨⟨p,x⟩,e0,sn',e1,h3,h4⟩:=D4 N hN hs hw kept hk hkl (mt.length:Int) h1;simp only at e1 h3 h4;obtain ⟨e1,e2⟩:=Prod.mk.inj e1;obtain ⟨t,ht⟩:=pB (GB N m) (bw m.Old.length++mt) mt (kept++mt);have hlen3:=h3.len hs;have e0':eV N ⟨⟨m.Young,m.Old⟩,kept,mt,sn,(mt.length:Int)⟩=some (p,x):=e0;rw [minor_all_l104.eq_2,e0',bs]
  dsimp only
  rw [e1];generalize hm':x.met_=mt' at*;subst e2
  refine dP (fun hlt=> ?_) fun hge=> ?_
  ·refine Sat.bind (tu N hN hs hw kept h3 mt.length (by rw [h4,ht,List.length_append];omega)) ?_;rintro r ⟨sn3,e3,h5,h6⟩;have hlen5:=h5.len hs;rw [e3]
   dsimp only
   refine go (r.met_,sn3) ?_ ⟨h5,fun r' hr'=>h2 r' (.step ?_ (by rw [←h4];exact h6) hr')⟩
   ·obtain ⟨t3,e4⟩:=h6.app;show 1300 - r.met_.length<1300 - mt.length
    have:mt'.length≤r.met_.length:=by rw [e4,List.length_append];omega
    omega
   rw [←h4];intro e;rw [e] at hlt;omega
  have e:mt'=mt:=by
   rw [ht] at h4;have h0:t=[]:=List.eq_nil_of_length_eq_zero (by rw [h4,List.length_append] at hge;omega);rw [h4,h0,List.append_nil]
  subst e;unfold pe;exact aS ⟨sn',(mt'.length:Int),b,rfl,h3,⟨hb,h2 _ (.done h4.symm)⟩⟩
 -- the kept cells
 have keptL: ∀(row:List Int) (seen:List (Int×Bool)),Mt m row seen→row=db yB [] (cj roots)→Sat (minor_all_l51 N kept N 0 m.Young m.Old kept row seen 0) fun r=> ∃seen nx b,r=⟨m,kept,r.met_,seen,nx⟩∧Mt m r.met_ seen∧IsMinor (GB N m) (bw m.Old.length) kept (yn m roots kept) b r.met_:=by
  intro row seen h hrow;refine cy (fun k i (s:List Int×List (Int×Bool))=>minor_all_l51 N kept k (i:Int) m.Young m.Old kept s.1 s.2 0) kept.length (fun i s=>Mt m s.1 s.2∧s.1=db yB [] (cj roots++(kept.take i).flatMap fun a=>bN (ce m a))) _ ?_ ?_ N 0 (row,seen) (by omega) (by omega) ⟨h,by simpa using hrow⟩
  ·rintro k i ⟨mt,sn⟩ hi ⟨h1,h2⟩ go;simp only at h1 h2;show Sat (minor_all_l51 N kept (k+1) (i:Int) m.Young m.Old kept mt sn 0) _;have hh:=hk _ (List.getElem_mem hi);have hsm:=hs.at_ kept[i];have e1:bU N ⟨⟨m.Young,m.Old⟩,kept,mt,sn,0⟩ kept[i]=some (ce m kept[i]):=nJ N hs kept mt sn 0 hh;have hll:=jl (ce m kept[i]);rw [minor_all_l51.eq_2,cI (by omega),ct,bn hi,bs,e1,bs,lp N (by omega) _ (by omega) (by omega),bs]
   refine wq N hs (bN (ce m kept[i])) (by omega) (by omega) (fun x hx _=>hw.leads hh x hx) (minor_all_l73 N (minor_all_l51 N kept k) kept (i:Int) (bN (ce m kept[i]))) (lG N (minor_all_l51 N kept k) kept (i:Int)) (fun _ _ _ _ _ _ _ _=>by rw [minor_all_l73.eq_2]) kept 0 h1 _ fun sn' h5=> ?_
   unfold lG;rw [r64 (by omega) (by omega)];refine go (db yB mt (bN (ce m kept[i])),sn') ⟨h5,?_⟩;show db yB mt (bN (ce m kept[i]))=_;rw [bf hi,List.flatMap_append, ←List.append_assoc,nL, ←h2];simp
  rintro k ⟨mt,sn⟩ ⟨h1,h2⟩;simp only [List.take_length] at h1 h2;show Sat (minor_all_l51 N kept (k+1) _ m.Young m.Old kept mt sn 0) _;rw [minor_all_l51.eq_2,cG (by omega),cf];unfold pf;refine Sat.bind (tu N hN hs hw kept h1 0 (Nat.zero_le _)) ?_;rintro r ⟨sn3,e3,h5,h6⟩;rw [e3]
  dsimp only
  exact passes r.met_ sn3 h5 (by rw [h2] at h6;exact h6)
 -- the roots
 unfold jk;refine cy (fun k i (s:List Int×List (Int×Bool))=>minor_all_l15 N roots kept k (i:Int) m.Young m.Old kept s.1 s.2 0) roots.length (fun i s=>Mt m s.1 s.2∧s.1=db yB [] (cj (roots.take i))) _ ?_ ?_ N 0 ([],[]) (by omega) (by omega) ⟨Mt.nil m,rfl⟩
 ·rintro k i ⟨mt,sn⟩ hi ⟨h1,h2⟩ go;simp only at h1 h2;show Sat (minor_all_l15 N roots kept (k+1) (i:Int) m.Young m.Old kept mt sn 0) _
  have hnext:db yB [] (cj (roots.take (i+1)))=db yB mt (cj [roots[i]]):=by
   rw [bf hi,sO,nL, ←h2]
  rw [minor_all_l15.eq_2,cI (by omega),ct,bn hi,bs,zi,bs]
  dsimp only
  unfold lH;cases hb:bH roots[i]
  ·rw [cf,r64 (by omega) (by omega)];refine go (mt,sn) ⟨h1,?_⟩;show mt=_;rw [hnext];simp [cj,hb,db]
  rw [ct];have hroot:bK m roots[i].N=true:=hr _ (lC.2 ⟨_,List.getElem_mem _,hb,rfl⟩)
  obtain ⟨sn',e1,e2⟩:=Az N hs kept 0 h1 roots[i].N fun _=>hroot
  have e1':cu N ⟨⟨m.Young,m.Old⟩,kept,mt,sn,0⟩ roots[i].N=_:=e1;rw [e1',bs]
  dsimp only
  rw [r64 (by omega) (by omega)];refine go (db yB mt [roots[i].N],sn') ⟨e2,?_⟩;show db yB mt [roots[i].N]=_;rw [hnext];simp [cj,hb]
 rintro k ⟨mt,sn⟩ ⟨h1,h2⟩;simp only [List.take_length] at h1 h2;show Sat (minor_all_l15 N roots kept (k+1) _ m.Young m.Old kept mt sn 0) _;rw [minor_all_l15.eq_2,cG (by omega),cf];unfold qh;exact keptL mt sn h1 h2
def CS (m:DMemory)(kept:List Int):Bool:=(List.range m.Old.length).all fun i=> !(dc (ce m (2*(i:Int)+2))).any yB||decide ((2*(i:Int)+2)∈kept)
def nN (m:DMemory)(kept:List Int):Bool:=kept.all (fun a=> !yB a&&bK m a)&&decide (kept.Pairwise (· < ·))
def yo (N:Nat)(m:DMemory):Bool:=(m.Young++m.Old).all (xe N m)
def CZ (N:Nat)(m:DMemory)(roots:List DValue)(kept:List Int):Bool:=fF m (cj roots)&&yo N m&&nN m kept&&CS m kept
theorem xb (N:Nat)(hN:2000<N)(c:DCell)(hS:c.Slots.length≤600)(hM:c.More.length≤600):fW N c=some (dc c):=by
 have h1:=jl c;have h2:=lP c;unfold fW;rw [lp N hN c (by omega) (by omega),bs,qZ N hN c (by omega) (by omega),bs,rF (by omega)];rfl
theorem xW (N:Nat)(f:Int→Option Bool)(p:Int→Bool)(l:List Int)(hl:l.length<N)(hl2:l.length≤5000)(hf: ∀x∈l,f x=some (p x)):bE N l f=some (l.any p):=by
 have key: ∀k i:Nat,l.length<k+i→i≤l.length→Sat (slices_IndexFunc_l3 N f l k (i:Int)) fun r=>decide (0≤r)=(l.drop i).any p:=by
  intro k
  induction k with
  |zero=>intro i h1 h2;omega
  | succ k ih=>
   intro i h1 h2;rw [slices_IndexFunc_l3.eq_2];by_cases hi:i<l.length
   ·have h3:=ih (i+1) (by omega) hi;rw [show (((i+1:Nat)):Int)=(i:Int)+1 by omega] at h3;rw [cI (by omega),ct,bn hi,bs,List.drop_eq_getElem_cons hi,List.any_cons,hf _ (List.getElem_mem _),bs,r64 (by omega) (by omega)];cases p l[i]
    ·exact h3
    exact aS (by rw [decide_eq_true (by omega)];rfl)
   rw [cG (by omega),cf,List.drop_eq_nil_of_le (by omega)];exact aS rfl
 obtain ⟨r,h1,h2⟩:=key N 0 (by omega) (by omega);have h1':slices_IndexFunc_l3 N f l N 0=some r:=h1;unfold bE gZ;rw [h1',bs,h2];rfl
theorem Kb (N:Nat)(f:DValue→Option Bool)(p:DValue→Bool)(l:List DValue)(hl:l.length<N)(hl2:l.length≤5000)(hf: ∀x∈l,f x=some (p x)):cx N l f=some (l.any p):=by
 have key: ∀k i:Nat,l.length<k+i→i≤l.length→Sat (slices_IndexFunc_Value_l3 N f l k (i:Int)) fun r=>decide (0≤r)=(l.drop i).any p:=by
  intro k
  induction k with
  |zero=>intro i h1 h2;omega
  | succ k ih=>
   intro i h1 h2;rw [slices_IndexFunc_Value_l3.eq_2];by_cases hi:i<l.length
   ·have h3:=ih (i+1) (by omega) hi;rw [show (((i+1:Nat)):Int)=(i:Int)+1 by omega] at h3;rw [cI (by omega),ct,bn hi,bs,List.drop_eq_getElem_cons hi,List.any_cons,hf _ (List.getElem_mem _),bs,r64 (by omega) (by omega)];cases p l[i]
    ·exact h3
    exact aS (by rw [decide_eq_true (by omega)];rfl)
   rw [cG (by omega),cf,List.drop_eq_nil_of_le (by omega)];exact aS rfl
 obtain ⟨r,h1,h2⟩:=key N 0 (by omega) (by omega);have h1':slices_IndexFunc_Value_l3 N f l N 0=some r:=h1;unfold cx gg;rw [h1',bs,h2];rfl
theorem Cj {α:Type}(p:α→Bool): ∀l:List α,l.any (fun x=> !p x)=!l.all p
 | []=>rfl
 |x::l=>by rw [List.any_cons,List.all_cons,Cj p l];cases p x<;>rfl
theorem BV (N:Nat)(a b:List DCell)(ha:a.length≤100000)(hb:b.length≤100000):ey N a b=some (a++b):=by
 unfold ey iL i9 fD ic;rw [r64 (by omega) (by omega),cG (a:=0+(a.length:Int)) (by omega),cf,r64 (by omega) (by omega),cG (a:=0+(a.length:Int)+(b.length:Int)) (by omega),cf,r64 (by omega) (by omega),r64 (by omega) (by omega),cf];by_cases h:0<a.length+b.length
 ·rw [cI (by omega),ct,iS ⟨by omega,by omega⟩,bs,rF (by simp;omega),rF (by simp;omega)];rfl
 rw [cG (by omega),cf,bs,rF (by simp;omega),rF (by simp;omega)];rfl
theorem DD (N:Nat)(hN:5000<N){m:DMemory}{roots:List DValue}(hs:Small m roots)(hw:W64 m):lF N m=some (yo N m):=by
 have h1:=hs.young;have h2:=hs.old;unfold lF yo;rw [BV N _ _ (by omega) (by omega),bs]
 have hl:(m.Young++m.Old).length≤1200:=by rw [List.length_append];omega
 refine zj (fun k i=>minor_sound_l8 N (m.Young++m.Old) m k i) (m.Young++m.Old) _ (fun k i h=> ?_) (fun k=> ?_) N (by omega)
 ·have hm:(m.Young++m.Old)[i]∈m.Young++m.Old:=List.getElem_mem _;have hc:=hs.cells _ hm;obtain ⟨⟨a1,a2⟩,a3,a4⟩:=vQ hs hw hm;rw [minor_sound_l8.eq_2,cI (by omega),ct,bn h,bs];generalize (m.Young++m.Old)[i]=c at*;obtain ⟨b,hb, -⟩:=wa N (by omega) c (by omega) (by omega)
  rw [rj N (by omega) _ (by omega) (by omega),hb,bs,xb N (by omega) c hc.1 hc.2,bs,xW N _ (fun x=> !bK m x) (dc c) (by unfold dc;rw [List.length_append];omega) (by unfold dc;rw [List.length_append];omega) (fun x hx=>by
   unfold ln
   rw [pO N m x ((List.mem_append.1 hx).elim (a2 x) (a4 x)),bs]),Cj]
  unfold xe;rw [hb,r64 (by omega) (by omega)]
  have e:(dc c).all (bK m)=(fF m (bN c)&&fF m (iO c)):=by unfold dc fF;rw [List.all_append]
  rw [e];cases b<;>cases fF m (bN c)&&fF m (iO c)<;>rfl
 rw [minor_sound_l8.eq_2,cG (by omega),cf];rfl
theorem Hh (l:List Int):decide (l.Pairwise (· < ·))=(List.range l.length).all fun i=>decide (i=0)||decide (l.getD (i - 1) 0<l.getD i 0):=by
 rw [Bool.eq_iff_iff,decide_eq_true_eq,List.all_eq_true];constructor
 ·intro h i hi;rw [List.mem_range] at hi;by_cases h0:i=0
  ·rw [decide_eq_true h0];rfl
  have:=List.pairwise_iff_getElem.1 h (i - 1) i (by omega) hi (by omega);rw [decide_eq_true (p:=l.getD (i - 1) 0<l.getD i 0) (by simpa [List.getD,hi,show i - 1<l.length by omega] using this),Bool.or_true]
 intro h
 refine List.pairwise_iff_getElem.2 fun i j hi hj hij=> ?_
 have step: ∀k,i+k+1<l.length→l[i]'hi<l.getD (i+k+1) 0:=by
  intro k
  induction k with
  |zero=>
   intro hk;have:=h (i+1) (List.mem_range.2 hk);rw [decide_eq_false (p:=i+1=0) (by omega),Bool.false_or,decide_eq_true_eq,Nat.add_sub_cancel] at this;simpa [List.getD,hi] using this
  |succ k ih=>
   intro hk;have h1:=ih (by omega);have:=h (i+k+1+1) (List.mem_range.2 (by omega));rw [decide_eq_false (p:=i+k+1+1=0) (by omega),Bool.false_or,decide_eq_true_eq,Nat.add_sub_cancel] at this;show l[i]'hi<l.getD (i+k+1+1) 0;omega
 have:=step (j - i - 1) (by omega);rw [show i+(j - i - 1)+1=j by omega] at this;simpa [List.getD,hj] using this
theorem AA (N:Nat)(hN:5000<N){m:DMemory}{roots:List DValue}(hs:Small m roots)(hw:W64 m)(hr: ∀v∈roots,in64 v.N)(kept:List Int)(hk:kept.length≤5000)(k64: ∀x∈kept,in64 x):ky N m roots kept=some (CZ N m roots kept):=by
 have h3:=hs.roots;have ho:=hs.old
 -- the old cells
 have olds:iH N kept m=some (CS m kept):=by
  unfold iH CS;have hlr:(List.range m.Old.length).length=m.Old.length:=List.length_range;refine zj (fun k i=>minor_may_l25 N m kept k i) (List.range m.Old.length) _ (fun k i h=> ?_) (fun k=> ?_) N (by omega)
  ·rw [hlr] at h;have hm:m.Old[i]∈m.Young++m.Old:=List.mem_append_right _ (List.getElem_mem _);have hc:=hs.cells _ hm;obtain ⟨⟨a1,a2⟩,a3,a4⟩:=vQ hs hw hm;rw [minor_may_l25.eq_2,cI (by omega),ct,bn h,bs,xb N (by omega) _ hc.1 hc.2,bs,xW N _ yB (dc m.Old[i]) (by unfold dc;rw [List.length_append];omega) (by unfold dc;rw [List.length_append];omega) (fun x _=>mW N x),bs,r64 (a:=2*(i:Int)) (by omega) (by omega),r64 (a:=2*(i:Int)+2) (by omega) (by omega),lK N hN kept hk,bs,r64 (by omega) (by omega),List.getElem_range,tC m i h];cases (dc m.Old[i]).any yB<;>cases decide ((2*(i:Int)+2)∈kept)<;>rfl
  rw [hlr,minor_may_l25.eq_2,cG (by omega),cf];rfl
 -- the kept addresses
 have hkept:minor_may_l11 N kept m N 0=bif nN m kept then iH N kept m else some false:=by
  have hlr:(List.range kept.length).length=kept.length:=List.length_range;have:=sC (fun k i=>minor_may_l11 N kept m k i) (List.range kept.length) (fun i=>(!yB (kept.getD i 0)&&bK m (kept.getD i 0))&&(decide (i=0)||decide (kept.getD (i - 1) 0<kept.getD i 0))) (some false) (iH N kept m) (fun k i h=> ?_) (fun k=> ?_) N (by omega)
  ·rw [this]
   have e:((List.range kept.length).all fun i=>(!yB (kept.getD i 0)&&bK m (kept.getD i 0))&&(decide (i=0)||decide (kept.getD (i - 1) 0<kept.getD i 0)))=nN m kept:=by
    unfold nN;rw [Hh]
    have e2:kept.all (fun a=> !yB a&&bK m a)=(List.range kept.length).all fun i=> !yB (kept.getD i 0)&&bK m (kept.getD i 0):=by
     rw [Bool.eq_iff_iff,List.all_eq_true,List.all_eq_true];constructor
     ·intro h i hi;rw [List.mem_range] at hi
      have:kept.getD i 0=kept[i]:=by simp [List.getD,hi]
      rw [this];exact h _ (List.getElem_mem _)
     intro h x hx;obtain ⟨i,hi,rfl⟩:=List.getElem_of_mem hx;have:=h i (List.mem_range.2 hi)
     rwa [show kept.getD i 0=kept[i] by simp [List.getD,hi]] at this
    rw [e2]
    induction List.range kept.length with
    |nil=>rfl
    |cons a l ih=>rw [List.all_cons,List.all_cons,List.all_cons,ih];cases (!yB (kept.getD a 0)&&bK m (kept.getD a 0))<;>cases (decide (a=0)||decide (kept.getD (a - 1) 0<kept.getD a 0))<;>simp
   rw [e]
  ·rw [hlr] at h
   have hg:kept.getD i 0=kept[i]:=by simp [List.getD,h]
   rw [minor_may_l11.eq_2,cI (by omega),ct,bn h,bs,mW,bs,pO N m _ (k64 _ (List.getElem_mem _)),r64 (a:=(i:Int)+1) (by omega) (by omega),List.getElem_range,hg];by_cases h0:i=0
   ·subst h0;rw [cG (a:=0) (b:=((0:Nat):Int)) (by omega)];cases yB kept[0]<;>cases bK m kept[0]<;>rfl
   have hp:aM kept ((i:Int) - 1)=some (kept.getD (i - 1) 0):=by
    have:=bn (xs:=kept) (i:=i - 1) (by omega);rw [show (((i - 1:Nat)):Int)=(i:Int) - 1 by omega] at this;rw [this];simp [List.getD,show i - 1<kept.length by omega]
   rw [cI (a:=0) (b:=(i:Int)) (by omega),ct,r64 (a:=(i:Int) - 1) (by omega) (by omega),hp,decide_eq_false h0];simp only [bs];by_cases hlt:kept.getD (i - 1) 0<kept[i]
   ·rw [HF hlt,decide_eq_true hlt];cases yB kept[i]<;>cases bK m kept[i]<;>rfl
   rw [HE (by omega),decide_eq_false hlt];cases yB kept[i]<;>cases bK m kept[i]<;>rfl
  rw [hlr,minor_may_l11.eq_2,cG (by omega),cf]
 have hroots:cx N roots (fun x=>kK N x m)=some (!fF m (cj roots)):=by
  rw [Kb N _ (fun v=> !(!bH v||bK m v.N)) roots (by omega) (by omega) (fun v hv=>by
   unfold kK;rw [zi,bs]
   dsimp only
   rw [pO N m _ (hr v hv),bs]
   cases bH v<;>cases bK m v.N<;>rfl),Cj]
  unfold fF cj;rw [all_map,zG]
 unfold ky CZ;rw [hroots,bs,DD N hN hs hw,bs,hkept,olds];cases fF m (cj roots)<;>cases yo N m<;>cases nN m kept<;>rfl
def Mf (c:DCell):DCell:=⟨c.Kind,c.Shape,c.Flags,c.Age,c.Slots.take 20,c.More.take 40⟩
def Lu (l:List DCell):List DCell:=(l.take 40).map Mf
def MF (m:DMemory):DMemory:=⟨Lu m.Young,Lu m.Old⟩
structure Few20 (m:DMemory) (roots:List DValue):Prop where
 young:m.Young.length≤40
 old:m.Old.length≤40
 roots:roots.length≤40
 cells: ∀c∈m.Young++m.Old,c.Slots.length≤20∧c.More.length≤40
def E6 (N:Nat)(m:DMemory)(roots:List DValue):Bool:=fF m (cj roots)&&yo N m
def tt (m:DMemory)(i:Nat):Bool:=(dc (ce m (2*(i:Int)+2))).any yB
def rT (m:DMemory):List Int:=((List.range m.Old.length).filter (tt m)).map fun i:Nat=>2*(i:Int)+2
theorem AC {m:DMemory}{x:Int}:x∈rT m↔ ∃i:Nat,i<m.Old.length∧tt m i=true∧x=2*(i:Int)+2:=by
 unfold rT;simp only [List.mem_map,List.mem_filter,List.mem_range];constructor
 ·rintro ⟨i,⟨h1,h2⟩,rfl⟩;exact ⟨i,h1,h2,rfl⟩
 rintro ⟨i,h1,h2,rfl⟩;exact ⟨i,⟨h1,h2⟩,rfl⟩
theorem Gw {m:DMemory}{x:Int}(h:x∈rT m):bK m x=true∧yB x=false:=by
 obtain ⟨i,h1, -,rfl⟩:=AC.1 h;exact ⟨by rw [wz];exact decide_eq_true h1,xG i⟩
theorem HI (m:DMemory):nN m (rT m)=true:=by
 unfold nN;rw [Bool.and_eq_true,decide_eq_true_eq,List.all_eq_true];refine ⟨fun x hx=> ?_,?_⟩
 ·obtain ⟨h1,h2⟩:=Gw hx;rw [h1,h2];rfl
 unfold rT;refine List.Pairwise.map _ (fun a b (h:a<b)=> ?_) ((List.pairwise_lt_range).filter _);omega
theorem fN {n:Nat}{x:Int}:x∈bw n↔ ∃i:Nat,i<n∧x=2*(i:Int)+2:=by
 unfold bw;simp only [List.mem_map,List.mem_range];constructor
 ·rintro ⟨i,h,rfl⟩;exact ⟨i,h,rfl⟩
 rintro ⟨i,h,rfl⟩;exact ⟨i,h,rfl⟩
def Ma (n:Nat):List DValue:=(List.range n).map fun i:Nat=>(⟨9,2*(i:Int)+2,⟨#[]⟩⟩:DValue)
theorem HK {m:DMemory}{a:Int}(h:bK m a=true)(hy:yB a=false): ∃i:Nat,i<m.Old.length∧a=2*(i:Int)+2:=by
 rcases mV h with ⟨i,hi,rfl⟩|h
 ·rw [Dy] at hy;cases hy
 exact h
theorem DX {N:Nat}{c:DCell}{l:List Int}{x:Int}(h:x∈cM N c l):x∈dc c:=by
 unfold cM at h
 cases hw:ma N c with
 |false=>rw [hw] at h;cases h
 |true=>
  rw [hw] at h;obtain ⟨v,hv,hb,rfl⟩:=sw h;exact vO (List.mem_append_right _ hv) hb
theorem zx {N:Nat}{m:DMemory}{roots:List DValue}(h:E6 N m roots=true):Whole m∧(∀x∈cj roots,bK m x=true)∧ ∀c∈m.Young++m.Old,xe N m c=true:=by
 unfold E6 at h;rw [Bool.and_eq_true] at h
 have h2: ∀c∈m.Young++m.Old,xe N m c=true:=fun c hc=>lN h.2 hc
 refine ⟨fun a ha x hx=> ?_,fun x hx=>lN h.1 hx,h2⟩
 have h3:=h2 (ce m a) (by
  unfold bK at ha;unfold ce
  cases hc:fI m a with
  |none=>rw [hc] at ha;cases ha
  |some c=>exact oc hc)
 unfold xe at h3;rw [Bool.and_eq_true,Bool.and_eq_true] at h3;rcases List.mem_append.1 hx with hx|hx
 ·exact lN h3.2.1 hx
 exact lN h3.2.2 hx
def uB (met to:List Int)(a:Int):Int:=if a∈met then to.getD (met.idxOf a) 0 else a
theorem EG {α:Type}{g:α→α}{l:List α}{i:Nat}(h:i<l.length):aM ((l.take i).map g++l.drop i) (i:Int)=some l[i]:=by
 have h1:i<((l.take i).map g++l.drop i).length:=by simp;omega
 rw [bn h1]
 congr 1
 rw [List.getElem_append_right (by simp;omega)];simp [Nat.min_eq_left (Nat.le_of_lt h)]
theorem EF {α:Type}{g:α→α}{l:List α}{i:Nat}(h:i<l.length):((l.take i).map g++l.drop i).set i (g l[i])=(l.take (i+1)).map g++l.drop (i+1):=by
 rw [bf h,List.drop_eq_getElem_cons h,List.map_append];rw [List.set_append,if_neg (by simp;omega)];simp [Nat.min_eq_left (Nat.le_of_lt h)];rw [List.drop_eq_getElem_cons h];rfl
theorem ut {α:Type}{g:α→α}{l:List α}{i:Nat}(h:i<l.length)(he:g l[i]=l[i]):(l.take i).map g++l.drop i=(l.take (i+1)).map g++l.drop (i+1):=by
 rw [bf h,List.drop_eq_getElem_cons h,List.map_append];simp [he]
def La (kv:List (Int×Int))(met to:List Int)(i:Nat):Prop:= ∀x,lk kv x=if x∈met.take i then some (uB met to x) else none
theorem wl {l:List Int}(hn:l.Nodup){i:Nat}(h:i<l.length):l.idxOf l[i]=i:=by
 have hm:l[i]∈l:=List.getElem_mem _;rcases Nat.lt_trichotomy (l.idxOf l[i]) i with h2|h2|h2
 ·exact absurd (jy hm) (List.pairwise_iff_getElem.1 (List.nodup_iff_pairwise_ne.1 hn) _ _ (lr hm) h h2)
 ·exact h2
 exact absurd (jy hm).symm (List.pairwise_iff_getElem.1 (List.nodup_iff_pairwise_ne.1 hn) _ _ h (lr hm) h2)
theorem yZ {l:List Int}(hn:l.Nodup){i:Nat}(h:i<l.length):l[i]∉l.take i:=fun hm=>by
 obtain ⟨j,hj,e⟩:=List.getElem_of_mem hm;rw [List.length_take] at hj;rw [List.getElem_take] at e;exact absurd e (List.pairwise_iff_getElem.1 (List.nodup_iff_pairwise_ne.1 hn) _ _ (by omega) h (by omega))
theorem xi (N:Nat)(hN:5000<N)(c:DCell)(hS:c.Slots.length≤4000)(hM:c.More.length≤4000)(met to:List Int)(hn:met.Nodup)(hl:to.length=met.length)(hml:met.length≤1200):ex N c met to=some (fk (uB met to) met c):=by
 apply Sat.eq
 have mv: ∀(kv:List (Int×Int)),La kv met to met.length→ ∀v:DValue,(lk kv v.N).isSome=decide (v.N∈met)∧(v.N∈met→bH v=true→(⟨v.Kind,(lk kv v.N).getD 0,v.S⟩:DValue)=bM (uB met to) met v):=fun kv hk v=>by
  rw [hk v.N,List.take_length];by_cases h:v.N∈met
  ·rw [if_pos h,decide_eq_true h];refine ⟨rfl,fun _ hb=> ?_⟩;rw [tY hb h];rfl
  rw [if_neg h,decide_eq_false h];exact ⟨rfl,fun h2=>absurd h2 h⟩
 have keep: ∀v:DValue,(v.N∉met∨bH v=false)→bM (uB met to) met v=v:=fun v h=>by
  unfold bM;rcases h with h|h
  ·rw [decide_eq_false h,Bool.and_false];rfl
  rw [h];rfl
 have copy:dx N c=some c:=by
  unfold dx cE;rw [rF (by simp only [List.length_nil];omega),rF (by simp only [List.length_nil];omega)];rfl
 have body: ∀kv:List (Int×Int),La kv met to met.length→Sat (lM N c kv) fun r=>r=fk (uB met to) met c:=by
  intro kv hk;unfold lM;rw [copy,bs];refine cy (fun k i (s:List DValue)=>cell_Moved_l30 N c kv k s (i:Int)) c.Slots.length (fun i s=>s=(c.Slots.take i).map (bM (uB met to) met)++c.Slots.drop i) _ ?_ ?_ N 0 c.Slots (by omega) (by omega) (by simp)
  ·rintro k i s hi rfl go;show Sat (cell_Moved_l30 N c kv (k+1) _ (i:Int)) _;obtain ⟨e1,e2⟩:=mv kv hk c.Slots[i];rw [cell_Moved_l30.eq_2,cI (by omega),ct,EG hi,bs,e1,mx];simp only [bs];unfold kX;rw [r64 (by omega) (by omega),r64 (by omega) (by omega)];by_cases hm:c.Slots[i].N∈met
   ·rw [decide_eq_true hm,ct,bs];cases hb:bH c.Slots[i]
    ·rw [cf];exact go _ (ut hi (keep _ (.inr hb)))
    rw [ct,e2 hm hb,Int.toNat_natCast];exact go _ (EF hi)
   rw [decide_eq_false hm,cf,bs,cf];exact go _ (ut hi (keep _ (.inl hm)))
  rintro k s rfl;show Sat (cell_Moved_l30 N c kv (k+1) _ _) _;rw [cell_Moved_l30.eq_2,cG (by omega),cf,List.take_length,List.drop_length,List.append_nil];unfold oa;refine cy (fun k i (s:List DValue)=>cell_Moved_l45 N c kv _ k s (i:Int)) c.More.length (fun i s=>s=(c.More.take i).map (bM (uB met to) met)++c.More.drop i) _ ?_ ?_ N 0 c.More (by omega) (by omega) (by simp)
  ·rintro k i s hi rfl go;show Sat (cell_Moved_l45 N c kv _ (k+1) _ (i:Int)) _;obtain ⟨e1,e2⟩:=mv kv hk c.More[i];rw [cell_Moved_l45.eq_2,cI (by omega),ct,EG hi,bs,e1,mx];simp only [bs];unfold kW;rw [r64 (by omega) (by omega),r64 (by omega) (by omega)];by_cases hm:c.More[i].N∈met
   ·rw [decide_eq_true hm,ct,bs];cases hb:bH c.More[i]
    ·rw [cf];exact go _ (ut hi (keep _ (.inr hb)))
    rw [ct,e2 hm hb,Int.toNat_natCast];exact go _ (EF hi)
   rw [decide_eq_false hm,cf,bs,cf];exact go _ (ut hi (keep _ (.inl hm)))
  rintro k s rfl;show Sat (cell_Moved_l45 N c kv _ (k+1) _ _) _;rw [cell_Moved_l45.eq_2,cG (by omega),cf,List.take_length,List.drop_length,List.append_nil];unfold nZ ob;exact aS rfl
 unfold ex;refine cy (fun k i (s:List (Int×Int))=>cell_Moved_l10 N met to c k s (i:Int)) met.length (fun i s=>La s met to i) _ ?_ ?_ N 0 [] (by omega) (by omega) (fun x=>rfl)
 ·rintro k i s hi h1 go;show Sat (cell_Moved_l10 N met to c (k+1) _ (i:Int)) _
  have hno:lk s met[i]=none:=by rw [h1,if_neg (yZ hn hi)]
  have hto:i<to.length:=by omega
  rw [cell_Moved_l10.eq_2,cI (by omega),ct,bn hi,bs,hno,Option.isSome_none,cf,cI (by omega),ct,bn hto,bs];unfold js;rw [r64 (by omega) (by omega)]
  refine go _ fun x=> ?_
  rw [C0,C0,h1 x,bf hi];by_cases e:met[i]=x
  ·subst e;rw [if_pos rfl,if_pos (List.mem_append_right _ (List.mem_singleton.2 rfl))];unfold uB;rw [if_pos (List.getElem_mem _),wl hn hi];simp [List.getD,hto]
  rw [if_neg e,if_neg e];by_cases hx:x∈met.take i
  ·rw [if_pos hx,if_pos (List.mem_append_left _ hx)]
  rw [if_neg hx,if_neg fun h2=>(List.mem_append.1 h2).elim hx fun h2=>e (List.mem_singleton.1 h2).symm]
 rintro k s h1;show Sat (cell_Moved_l10 N met to c (k+1) _ _) _;rw [cell_Moved_l10.eq_2,cG (by omega),cf];exact body s h1
theorem wZ (N:Nat)(hN:5000<N)(l:List DValue)(hl2:l.length≤4000)(met to:List Int)(hn:met.Nodup)(hl:to.length=met.length)(hml:met.length≤1200):gk N l met to=some (l.map (bM (uB met to) met)):=by
 unfold gk;rw [xi N hN _ (by simp) hl2 met to hn hl hml,bs];rfl
def eH (m:DMemory)(a:Int):Bool:=decide ((ce m a).Age=0)
def nD (p:Int→Bool):List Int→Nat→Nat→List Int
 | [],_,_=> []
 |a::l,s,o=>bif p a then (2*(s:Int)+1)::nD p l (s+1) o else (2*(o:Int)+2)::nD p l s (o+1)
theorem Al (p:Int→Bool)(a:Int)(l:List Int)(s o:Nat):nD p (a::l) s o=bif p a then (2*(s:Int)+1)::nD p l (s+1) o else (2*(o:Int)+2)::nD p l s (o+1):=rfl
theorem uR (p:Int→Bool): ∀(l:List Int) (s o:Nat),(nD p l s o).length=l.length
 | [],_,_=>rfl
 |a::l,s,o=>by unfold nD;cases p a<;>simp [uR p l]
theorem uS (p:Int→Bool): ∀(l l':List Int) (s o:Nat),nD p (l++l') s o=nD p l s o++nD p l' (s+(l.filter p).length) (o+(l.filter fun a=> !p a).length)
 | [],_,_,_=>by simp [nD]
 | a::l,l',s,o=>by
  rw [List.cons_append,Al,Al];cases h:p a
  ·simp only [cond_false];rw [uS p l l'];simp only [List.filter_cons,h,Bool.not_false,if_true,Bool.false_eq_true,if_false,List.length_cons,List.cons_append];rw [Nat.add_right_comm o 1];rfl
  simp only [cond_true];rw [uS p l l'];simp only [List.filter_cons,h,Bool.not_true,if_true,Bool.false_eq_true,if_false,List.length_cons,List.cons_append];rw [Nat.add_right_comm s 1];rfl
theorem yL (p:Int→Bool){l:List Int}{i:Nat}(h:i<l.length)(s o:Nat):(nD p l s o).getD i 0=bif p l[i] then 2*((s+((l.take i).filter p).length:Nat):Int)+1 else 2*((o+((l.take i).filter fun a=> !p a).length:Nat):Int)+2:=by
 have e:l=l.take i++(l[i]::l.drop (i+1)):=by rw [←List.drop_eq_getElem_cons h,List.take_append_drop]
 have e2:nD p l s o=nD p (l.take i) s o++nD p (l[i]::l.drop (i+1)) (s+((l.take i).filter p).length) (o+((l.take i).filter fun a=> !p a).length):=by
  rw [←uS, ←e]
 rw [e2]
 have hl:(nD p (l.take i) s o).length=i:=by rw [uR,List.length_take];omega
 unfold List.getD;rw [List.getElem?_append_right (by omega),hl,Nat.sub_self];unfold nD;cases p l[i]<;>rfl
theorem BF (N:Nat)(hN:5000<N){m:DMemory}{roots:List DValue}(hs:Small m roots)(kp:List Int){met:List Int}{seen:List (Int×Bool)}(nx:Int)(h:Mt m met seen):ej N ⟨m,kp,met,seen,nx⟩=some (nD (eH m) met 0 m.Old.length):=by
 have hml:=h.len hs;have ho:=hs.old;apply Sat.eq;unfold ej;refine cy (fun k i (s:List Int×Nat×Nat)=>minor_meeter_places_l9 N ⟨m,kp,met,seen,nx⟩ k s.1 (s.2.1:Int) (s.2.2:Int) (i:Int)) met.length (fun i s=>s.1=nD (eH m) (met.take i) 0 m.Old.length∧s.2.1=((met.take i).filter (eH m)).length∧s.2.2=m.Old.length+((met.take i).filter fun a=> !eH m a).length) _ ?_ ?_ N 0 ([],0,m.Old.length) (by show met.length<N+0;omega) (by omega) ⟨rfl,rfl,rfl⟩
 ·rintro k i ⟨s,a,b⟩ hi ⟨h1,h2,h3⟩ go;simp only at h1 h2 h3;have l1:((met.take i).filter (eH m)).length≤i:=Nat.le_trans (List.length_filter_le _ _) (by rw [List.length_take];omega);have l2:((met.take i).filter fun a=> !eH m a).length≤i:=Nat.le_trans (List.length_filter_le _ _) (by rw [List.length_take];omega)
  have hsl:s.length=i:=by rw [h1,uR,List.length_take];omega
  show Sat (minor_meeter_places_l9 N ⟨m,kp,met,seen,nx⟩ (k+1) s (a:Int) (b:Int) (i:Int)) _
  have hnext:nD (eH m) (met.take (i+1)) 0 m.Old.length=s++ [bif eH m met[i] then 2*(a:Int)+1 else 2*(b:Int)+2]:=by
   rw [bf hi,uS, ←h1,Nat.zero_add, ←h2, ←h3];unfold nD;cases eH m met[i]<;>rfl
  have hf1:((met.take (i+1)).filter (eH m)).length=a+(bif eH m met[i] then 1 else 0):=by
   rw [bf hi,List.filter_append,List.length_append, ←h2];cases hb:eH m met[i]<;>simp [hb]
  have hf2:((met.take (i+1)).filter fun a=> !eH m a).length+m.Old.length=b+(bif eH m met[i] then 0 else 1):=by
   rw [bf hi,List.filter_append,List.length_append,h3];cases hb:eH m met[i]<;>simp [hb]<;>omega
  have hcell:=nJ N hs kp met seen nx (h.has _ (List.getElem_mem hi));rw [minor_meeter_places_l9.eq_2]
  dsimp only
  rw [cI (by omega),ct,bn hi,bs,hcell,bs];unfold eK;have e:decide ((ce m met[i]).Age=0)=eH m met[i]:=rfl;rw [e,r64 (by omega) (by omega),r64 (by omega) (by omega),rF (by simp;omega),r64 (by omega) (by omega),r64 (by omega) (by omega),r64 (by omega) (by omega),r64 (by omega) (by omega),rF (by simp;omega),r64 (by omega) (by omega),r64 (by omega) (by omega)];cases hb:eH m met[i]
  ·rw [hb] at hnext hf1 hf2;rw [cf];exact go (s++ [2*(b:Int)+2],a,b+1) ⟨hnext.symm,hf1.symm,by show b+1=_;simp only [cond_false] at hf2;omega⟩
  rw [hb] at hnext hf1 hf2;rw [ct];exact go (s++ [2*(a:Int)+1],a+1,b) ⟨hnext.symm,hf1.symm,by show b=_;simp only [cond_true] at hf2;omega⟩
 rintro k ⟨s,a,b⟩ ⟨h1,h2,h3⟩;simp only [List.take_length] at h1 h2 h3;show Sat (minor_meeter_places_l9 N ⟨m,kp,met,seen,nx⟩ (k+1) s (a:Int) (b:Int) _) _;rw [minor_meeter_places_l9.eq_2]
 dsimp only
 rw [cG (by omega),cf];exact aS h1
theorem zF {lv:List Int}: ∀{l:List DValue},ld l=true→jt lv l→dR (fun x=>decide (x∈lv)) l=l
 | [],_,_=>rfl
 | [_],h,_=>by cases h
 |k::v::r,h,ha=>by
  rw [ir] at h;simp only [Bool.and_eq_true,decide_eq_true_eq] at h;have hk:k.N∈lv:=ha k (by simp) (by unfold bH;rw [h.1.1];rfl);rw [kA,decide_eq_true hk,cond_true,zF h.2 fun w hw=>ha w (by simp [hw])];rfl
theorem C3 {lv:List Int}(cb:DValue): ∀{l:List DValue},f3 l=true→jt lv l→dt lv l=l∧fx lv cb l=[]
 | [],_,_=>⟨rfl,rfl⟩
 | [_],h,_=>by cases h
 | [_,_],h,_=>by cases h
 | [_,_,_],h,_=>by cases h
 | t::a::k::s::r,h,ha=>by
  rw [eR] at h;simp only [Bool.and_eq_true,decide_eq_true_eq] at h;obtain ⟨⟨⟨h1, -⟩,h3,h4⟩,h5⟩:=h
  obtain ⟨i1,i2⟩:=C3 cb h5 fun w hw=>ha w (by simp [hw])
  have ht:t.N∈lv:=ha t (by simp) (by unfold bH;rw [h1];rfl)
  have hk:(decide (k.Kind=7)&& !decide (k.N∈lv))=false:=by
   by_cases hk7:k.Kind=7
   ·rw [decide_eq_true (ha k (by simp) (by unfold bH;rw [hk7];rfl)),Bool.not_true,Bool.and_false]
   rw [decide_eq_false hk7,Bool.false_and]
  rw [ko,lf,i1,i2,decide_eq_true ht,hk];exact ⟨rfl,rfl⟩
theorem CellOk.id {N:Nat}{lv f:List Int}{c:DCell}(h:CellOk N lv f c)(ha: ∀x∈dc c,x∈lv):ga N lv c=c∧ed lv c=[]:=by
 have hin:jt lv c.More:=fun v hv hb=>ha _ (vO (List.mem_append_right _ hv) hb)
 by_cases h8:c.Kind=8
 ·rw [h.clC8 h8,zF (h.ent2 h8) hin];exact ⟨rfl,by unfold ed;rw [decide_eq_false (by omega)];rfl⟩
 by_cases h10:c.Kind=10
 ·obtain ⟨-, -,h4⟩:=h.ent4 h10
  obtain ⟨i1,i2⟩:=C3 (lv:=lv) (c.More.headD iN) h4 fun v hv=>hin v (List.mem_of_mem_drop hv)
  rw [CellOk.clC10 h10,i1,List.take_append_drop];refine ⟨rfl,?_⟩;unfold ed nV;rw [decide_eq_true h10];exact i2
 exact ⟨CellOk.clC0 h8 h10,by unfold ed;rw [decide_eq_false h10];rfl⟩
theorem xa (N:Nat)(hN:5000<N){lv f:List Int}{c:DCell}(h:CellOk N lv f c)(hl:lv.length≤5000)(gone:List DValue)(hg:gone.length≤10000):gl N c lv gone=some (ga N lv c,gone++ed lv c):=by
 have hlen:=(lL N lv c).2;have hm:=h.more;unfold gl;by_cases h8:c.Kind=8
 ·rw [decide_eq_true h8,ct,zD N hN lv hl c h.slots h.more,h.wm,bs];unfold ga ed;rw [decide_eq_true h8,decide_eq_false (p:=c.Kind=10) (by omega),cond_true,cond_true,cond_false,List.append_nil]
 rw [decide_eq_false h8,cf];by_cases h10:c.Kind=10
 ·have e1:ga N lv c=(nV lv c).1:=by unfold ga;rw [decide_eq_false h8,decide_eq_true h10];rfl
  have e2:ed lv c=(nV lv c).2:=by unfold ed;rw [decide_eq_true h10];rfl
  rw [decide_eq_true h10,ct,tx N hN lv hl c h.slots h.more,h.fr,decide_eq_true h10,cond_true,bs, ←e1, ←e2,rF (by omega)]
 rw [decide_eq_false h10,cf,CellOk.clC0 h8 h10];unfold ed;rw [decide_eq_false h10,cond_false,List.append_nil]
structure MinCtx (N:Nat) (m:DMemory) (roots:List DValue) (kept met:List Int):Prop where
 big:5000<N
 small:Small m roots
 w64:W64 m
 r64: ∀v∈roots,in64 v.N
 tot:cv (fun a=>(ce m a).More.length) (vN m)≤3600
 klen:kept.length≤1200
 may:CZ N m roots kept=true
 prog: ∃seen nx,jk N m roots kept=some ⟨m,kept,met,seen,nx⟩∧Mt m met seen
 isM: ∃b,IsMinor (GB N m) (bw m.Old.length) kept (yn m roots kept) b met
theorem ze {N:Nat}{m:DMemory}{roots:List DValue}{kept:List Int}(h:CZ N m roots kept=true):E6 N m roots=true∧nN m kept=true∧CS m kept=true:=by
 unfold CZ at h;unfold E6;simp only [Bool.and_eq_true] at h⊢;exact ⟨h.1.1,h.1.2,h.2⟩
theorem zo {m:DMemory}{kept:List Int}(h:nN m kept=true){a:Int}(ha:a∈kept):bK m a=true∧yB a=false:=by
 unfold nN at h;rw [Bool.and_eq_true] at h;have:=lN h.1 ha;rw [Bool.and_eq_true] at this;exact ⟨this.2,by cases hy:yB a;rfl;rw [hy] at this;cases this.1⟩
theorem I6 {N:Nat}(hN:5000<N){m:DMemory}{roots:List DValue}(hs:Small m roots)(hw:W64 m)(hr: ∀v∈roots,in64 v.N)(ht:cv (fun a=>(ce m a).More.length) (vN m)≤3600){kept:List Int}(hk:kept.length≤1200)(hm:CZ N m roots kept=true): ∃met,MinCtx N m roots kept met:=by
 obtain ⟨h1,h2, -⟩:=ze hm;obtain ⟨g1,g2, -⟩:=zx h1;obtain ⟨r,e,seen,nx,b,e2,h3,h4⟩:=Gq N hN hs g1 g2 kept (fun x hx=>(zo h2 hx).1) hk;exact ⟨r.met_,hN,hs,hw,hr,ht,hk,hm,⟨seen,nx,by rw [e, ←e2],h3⟩,⟨b,h4⟩⟩
def gz (m:DMemory)(met:List Int):List Int:=bw m.Old.length++met
def zK (m:DMemory)(met:List Int):List Int:=nD (eH m) met 0 m.Old.length
def fz (m:DMemory)(met:List Int):Int→Int:=uB met (zK m met)
def nC (N:Nat)(m:DMemory)(met:List Int)(a:Int):DCell:=fk (fz m met) met (ga N (gz m met) (ce m a))
def nY (N:Nat)(m:DMemory)(met:List Int)(a:Int):DCell:=⟨(nC N m met a).Kind,(nC N m met a).Shape,(nC N m met a).Flags,1,(nC N m met a).Slots,(nC N m met a).More⟩
def lY (N:Nat)(m:DMemory)(met:List Int):DMemory:=⟨(met.filter (eH m)).map (nY N m met),(bw m.Old.length).map (nC N m met)++(met.filter fun a=> !eH m a).map (nY N m met)⟩
def qN (m:DMemory)(met:List Int):List DValue:=(gz m met).flatMap fun a=>ed (gz m met) (ce m a)
section
variable {N:Nat} {m:DMemory} {roots:List DValue} {kept met:List Int} (h:MinCtx N m roots kept met)
include h
theorem MinCtx.whole:Whole m:=(zx (ze h.may).1).1
theorem MinCtx.mt:met.Nodup∧(∀x∈met,yB x=true)∧ ∀x∈met,bK m x=true:=by
 obtain ⟨_,_, -,h2⟩:=h.prog;exact ⟨h2.nd,h2.yng,h2.has⟩
theorem MinCtx.mlen:met.length≤1200:=by
 obtain ⟨_,_, -,h2⟩:=h.prog;exact h2.len h.small
theorem MinCtx.f1has {a:Int}(ha:a∈gz m met):bK m a=true:=by
 unfold gz at ha;rcases List.mem_append.1 ha with ha|ha
 ·obtain ⟨i,hi,rfl⟩:=fN.1 ha;rw [wz];exact decide_eq_true hi
 exact h.mt.2.2 a ha
theorem MinCtx.keptOf {a:Int}(ha:a∈bw m.Old.length){x:Int}(hx:x∈dc (ce m a))(hy:yB x=true):a∈kept:=by
 obtain ⟨i,hi,rfl⟩:=fN.1 ha;have h3:=(ze h.may).2.2;unfold CS at h3;have:=lN h3 (List.mem_range.2 hi);rw [List.any_eq_true.2 ⟨x,hx,hy⟩] at this;simpa using this
theorem MinCtx.inF {a:Int}(ha:a∈gz m met){x:Int}(hx:bK m x=true)(hyx:yB x=true→x∈met):x∈gz m met:=by
 have _:=h;have _:=ha;unfold gz
 cases hy:yB x with
 |true=>exact List.mem_append_right _ (hyx hy)
 |false=>
  obtain ⟨i,hi,rfl⟩:=HK hx hy;exact List.mem_append_left _ (fN.2 ⟨i,hi,rfl⟩)
theorem MinCtx.cell {a:Int}(ha:a∈gz m met):CellOk N (gz m met) (gz m met) (ce m a):=by
 have hN:=h.big;have hh:=h.f1has ha;have hm:=qr hh;have hs:=h.small.cells _ hm;obtain ⟨b,hM⟩:=h.isM;obtain ⟨q1,q2⟩:=hM.closed;have hf:=(zx (ze h.may).1).2.2 _ hm;refine ⟨by omega,?_,hs.1,hs.2,fun x hx=> ?_,fun x hx=> ?_,fun x=>Iff.rfl⟩
 ·unfold xe at hf;rw [ns N (by omega) _ (by omega) (by omega),Bool.and_eq_true] at hf;exact hf.1
 ·refine h.inF ha (h.whole.leads hh x hx) fun hy=> ?_
  unfold gz at ha;rcases List.mem_append.1 ha with ha|ha
  ·exact hM.start (List.mem_append_right _ (List.mem_flatMap.2 ⟨a,h.keptOf ha (List.mem_append_left _ hx) hy,hx⟩)) hy
  exact q1 a ha x hx hy
 refine h.inF ha (h.whole.opens hh x hx) fun hy=> ?_
 refine q2 a ?_ x hx hy;unfold gz at ha;rcases List.mem_append.1 ha with ha|ha
 ·exact List.mem_append_left _ (h.keptOf ha (DX hx) hy)
 exact List.mem_append_right _ ha
theorem MinCtx.old {a:Int}(ha:a∈bw m.Old.length)(hk:a∉kept):ga N (gz m met) (ce m a)=ce m a∧ed (gz m met) (ce m a)=[]:=by
 have hf:a∈gz m met:=List.mem_append_left _ ha
 refine (h.cell hf).id fun x hx=>h.inF hf (h.whole a (h.f1has hf) x hx) fun hy=>absurd (h.keptOf ha hx hy) hk
theorem MinCtx.nd:(gz m met).Nodup:=by
 unfold gz;refine List.nodup_append.2 ⟨?_,h.mt.1,fun a ha b hb e=> ?_⟩
 ·exact (wE _).imp fun hab e=>by omega
 subst e;obtain ⟨i, -,rfl⟩:=fN.1 ha;have:=h.mt.2.1 _ hb;rw [xG] at this;cases this
theorem MinCtx.goneLen: ∀l:List Int,l.Nodup→(∀a∈l,a∈gz m met)→(l.flatMap fun a=>ed (gz m met) (ce m a)).length≤3600:=by
 intro l hn hl
 have h1:=lR (fun a=>(ce m a).More.length) hn fun a ha=>pF (h.f1has (hl a ha))
 have h2: ∀l:List Int,(l.flatMap fun a=>ed (gz m met) (ce m a)).length≤cv (fun a=>(ce m a).More.length) l:=fun l=>by
  induction l with
  |nil=>simp [cv]
  |cons a l ih=>
   have:=(lL N (gz m met) (ce m a)).2;rw [List.flatMap_cons,List.length_append,cv];omega
 have:=h2 l;have:=h.tot;omega
end
end Go.Proofs.YtmimkglhbmcokaaGreat
namespace Go.Proofs.YtmimkglhbmcokaaGreat
open Go.RowKit
theorem Ab {α β:Type}(f:α→List β){l:List α}{i:Nat}(h:i<l.length):(l.take (i+1)).flatMap f=(l.take i).flatMap f++f l[i]:=by
 rw [bf h,List.flatMap_append,List.flatMap_cons,List.flatMap_nil,List.append_nil]
theorem G3 {α β:Type}(f:α→β){l:List α}{i:Nat}(h:i<l.length):(l.take (i+1)).map f=(l.take i).map f++ [f l[i]]:=by
 rw [bf h,List.map_append];rfl
theorem wP {α:Type}(p:α→Bool){l:List α}{i:Nat}(h:i<l.length):(l.take (i+1)).filter p=(l.take i).filter p++(bif p l[i] then [l[i]] else []):=by
 rw [bf h,List.filter_append];cases hp:p l[i]<;>simp [hp]
section
variable {N:Nat} {m:DMemory} {roots:List DValue} {kept met:List Int} (h:MinCtx N m roots kept met)
include h
theorem MinCtx.f1len:(gz m met).length≤1800:=by
 have h1:=h.mlen;have h2:=h.small.old;unfold gz bw;rw [List.length_append,List.length_map,List.length_range];omega
theorem Hx:eh N m roots kept=some (lY N m met,roots.map (bM (fz m met) met),(qN m met).map (bM (fz m met) met),0):=by
 have hN:=h.big;have hs:=h.small;have hml:=h.mlen;have ho:=hs.old;have hrl:=hs.roots;have hfl:=h.f1len;obtain ⟨hnd,hyng,hhas⟩:=h.mt;obtain ⟨seen,nx,hp,hmt⟩:=h.prog;have hto:(zK m met).length=met.length:=uR _ _ _ _
 have hev:(bw m.Old.length).length=m.Old.length:=by unfold bw;simp
 obtain ⟨hfine,hkok, -⟩:=ze h.may
 have k64: ∀x∈kept,in64 x:=fun x hx=>xL hs (zo hkok hx).1
 have hkl:=h.klen;have hgl: ∀l:List Int,l.Nodup→(∀a∈l,a∈gz m met)→(l.flatMap fun a=>ed (gz m met) (ce m a)).length≤3600:=h.goneLen
 have tk: ∀i,((bw m.Old.length).take i).flatMap (fun a=>ed (gz m met) (ce m a))=((bw m.Old.length).take i).flatMap fun a=>ed (gz m met) (ce m a):=fun i=>rfl
 have g1: ∀i,(((bw m.Old.length).take i).flatMap fun a=>ed (gz m met) (ce m a)).length≤3600:=fun i=>hgl _ (List.Nodup.sublist (List.take_sublist _ _) (List.nodup_append.1 h.nd).1) fun a ha=>List.mem_append_left _ (List.mem_of_mem_take ha)
 have g2: ∀i,((bw m.Old.length++met.take i).flatMap fun a=>ed (gz m met) (ce m a)).length≤3600:=fun i=>hgl _ (List.Nodup.sublist (List.Sublist.append (List.Sublist.refl _) (List.take_sublist i met)) h.nd) fun a ha=>(List.mem_append.1 ha).elim (fun h=>List.mem_append_left _ h) fun h=>List.mem_append_right _ (List.mem_of_mem_take h)
 have moved: ∀a∈gz m met, ∀d:DCell,d.Slots.length≤600→d.More.length≤600→ex N d met (zK m met)=some (fk (fz m met) met d):=fun a _ d h1 h2=>xi N hN d (by omega) (by omega) met (zK m met) hnd hto hml
 -- the young cells
 have young: ∀O:List DCell,O.length≤600→Sat (minor_Collect_l71 N ⟨m,kept,met,seen,nx⟩ roots (zK m met) (gz m met) N ((bw m.Old.length).flatMap fun a=>ed (gz m met) (ce m a)) 0 [] O) fun r=>r=(⟨(met.filter (eH m)).map (nY N m met),O++(met.filter fun a=> !eH m a).map (nY N m met)⟩,roots.map (bM (fz m met) met),(qN m met).map (bM (fz m met) met),0):=by
  intro O hO;refine cy (fun k i (s:List DValue×List DCell×List DCell)=>minor_Collect_l71 N ⟨m,kept,met,seen,nx⟩ roots (zK m met) (gz m met) k s.1 (i:Int) s.2.1 s.2.2) met.length (fun i s=>s.1=(bw m.Old.length++met.take i).flatMap (fun a=>ed (gz m met) (ce m a))∧s.2.1=((met.take i).filter (eH m)).map (nY N m met)∧s.2.2=O++((met.take i).filter fun a=> !eH m a).map (nY N m met)) _ ?_ ?_ N 0 (_,[],O) (by omega) (by omega) ⟨by rw [List.take_zero,List.append_nil];rfl,rfl,by simp⟩
  ·rintro k i ⟨g,Y,Q⟩ hi ⟨h1,h2,h3⟩ go;simp only at h1 h2 h3;show Sat (minor_Collect_l71 N ⟨m,kept,met,seen,nx⟩ roots (zK m met) (gz m met) (k+1) g (i:Int) Y Q) _;have hgm:met[i]∈met:=List.getElem_mem hi;have hgf:met[i]∈gz m met:=List.mem_append_right _ hgm;have hc:=h.cell hgf;have hcl:=lL N (gz m met) (ce m met[i]);have hc1:=hc.slots;have hc2:=hc.more
   have hgt:g.length≤3600:=by rw [h1];exact g2 i
   have hYl:Y.length≤i:=by rw [h2,List.length_map];exact Nat.le_trans (List.length_filter_le _ _) (by rw [List.length_take];omega)
   have hQl:Q.length≤600+i:=by
    rw [h3,List.length_append,List.length_map];have:=List.length_filter_le (fun a=> !eH m a) (met.take i);rw [List.length_take] at this;omega
   have hti:i<(zK m met).length:=by omega
   have htv:(zK m met)[i]=bif eH m met[i] then 2*((0+((met.take i).filter (eH m)).length:Nat):Int)+1 else 2*((m.Old.length+((met.take i).filter fun a=> !eH m a).length:Nat):Int)+2:=by
    have:=yL (eH m) hi 0 m.Old.length;unfold List.getD at this;have e:(nD (eH m) met 0 m.Old.length)[i]? =some (zK m met)[i]:=List.getElem?_eq_getElem hti;rw [e] at this;exact this
   have hyt:yB (zK m met)[i]=eH m met[i]:=by
    rw [htv];cases eH m met[i]
    ·exact xG _
    exact Dy _
   rw [minor_Collect_l71.eq_2]
   dsimp only
   rw [cI (by omega),ct,bn hi,bs,nJ N hs kept met seen nx (h.f1has hgf),bs,xa N hN hc (by omega) g (by omega),bs]
   dsimp only
   rw [moved _ hgf _ (by omega) (by omega),bs,bn hti,bs,mW,bs,hyt];unfold iU;rw [r64 (by omega) (by omega),r64 (by omega) (by omega),rF (by simp;omega),rF (by simp;omega)]
   have hg':g++ed (gz m met) (ce m met[i])=(bw m.Old.length++met.take (i+1)).flatMap fun a=>ed (gz m met) (ce m a):=by
    rw [h1,List.flatMap_append,List.flatMap_append,Ab _ hi,List.append_assoc]
   have hf1:=wP (eH m) hi;have hf2:=wP (fun a=> !eH m a) hi;cases hb:eH m met[i]
   ·rw [hb] at hf1;simp only [hb,Bool.not_false,cond_true,cond_false,List.append_nil] at hf1 hf2;rw [cf];exact go (_,Y,_) ⟨hg',by show Y=_;rw [hf1];exact h2,by show Q++ [nY N m met met[i]]=_;rw [hf2,List.map_append,h3,List.append_assoc];rfl⟩
   rw [hb] at hf1;simp only [hb,Bool.not_true,cond_true,cond_false,List.append_nil] at hf1 hf2;rw [ct];exact go (_,_,Q) ⟨hg',by show Y++ [nY N m met met[i]]=_;rw [hf1,List.map_append,h2];rfl,by show Q=_;rw [hf2];exact h3⟩
  rintro k ⟨g,Y,Q⟩ ⟨h1,h2,h3⟩;simp only [List.take_length] at h1 h2 h3;show Sat (minor_Collect_l71 N ⟨m,kept,met,seen,nx⟩ roots (zK m met) (gz m met) (k+1) g _ Y Q) _
  have hgt:g.length≤3600:=by rw [h1];have:=g2 met.length;rwa [List.take_length] at this
  rw [minor_Collect_l71.eq_2]
  dsimp only
  rw [cG (by omega),cf];unfold kL
  dsimp only
  rw [wZ N hN roots (by omega) met (zK m met) hnd hto hml,bs,wZ N hN g (by omega) met (zK m met) hnd hto hml,bs,h2,h3];refine aS ?_;rw [h1];rfl
 apply Sat.eq;unfold eh;rw [AA N hN hs h.w64 h.r64 kept (by omega) k64,h.may,bs,nt,cf,hp,bs,BF N hN hs kept nx hmt,bs,zb N hN hs kept nx hmt,bs];refine cy (fun k i (s:List DValue×List DCell)=>minor_Collect_l28 N m roots kept (zK m met) ⟨m,kept,met,seen,nx⟩ k s.1 (gz m met) (i:Int) s.2) m.Old.length (fun i s=>s.1=((bw m.Old.length).take i).flatMap (fun a=>ed (gz m met) (ce m a))∧s.2=((bw m.Old.length).take i).map (nC N m met)) _ ?_ ?_ N 0 ([],[]) (by omega) (by omega) ⟨rfl,rfl⟩
 ·rintro k i ⟨g,O⟩ hi ⟨h1,h2⟩ go;simp only at h1 h2;show Sat (minor_Collect_l28 N m roots kept (zK m met) ⟨m,kept,met,seen,nx⟩ (k+1) g (gz m met) (i:Int) O) _
  have hie:i<(bw m.Old.length).length:=by omega
  have hei:(bw m.Old.length)[i]=2*(i:Int)+2:=wD hie;have hae:(2*(i:Int)+2)∈bw m.Old.length:=fN.2 ⟨i,hi,rfl⟩;have haf:(2*(i:Int)+2)∈gz m met:=List.mem_append_left _ hae;have hc:=h.cell haf;have hcl:=lL N (gz m met) (ce m (2*(i:Int)+2));have hc1:=hc.slots;have hc2:=hc.more
  have hgt:g.length≤3600:=by rw [h1];exact g1 i
  have hOl:O.length≤i:=by rw [h2,List.length_map,List.length_take];omega
  have hold:=h.old hae
  have n1:((bw m.Old.length).take (i+1)).flatMap (fun a=>ed (gz m met) (ce m a))=g++ed (gz m met) (ce m (2*(i:Int)+2)):=by rw [Ab _ hie,hei,h1]
  have n2:((bw m.Old.length).take (i+1)).map (nC N m met)=O++ [nC N m met (2*(i:Int)+2)]:=by rw [G3 _ hie,hei,h2]
  rw [tC m i hi] at hc hcl hc1 hc2 hold n1
  have hnc:nC N m met (2*(i:Int)+2)=fk (fz m met) met (ga N (gz m met) m.Old[i]):=by unfold nC;rw [tC m i hi]
  have body: ∀(kb:List DValue→List Int→Int→List DCell→Option (DMemory×List DValue×List DValue×Int)) (g':List DValue) (d:DCell),d.Slots.length≤600→d.More.length≤600→fX N kb m (i:Int) roots kept (zK m met) (gz m met) O ⟨m,kept,met,seen,nx⟩ g' d.Kind d.Shape d.Flags d.Age d.Slots d.More=kb g' (gz m met) ((i:Int)+1) (O++ [fk (fz m met) met d]):=by
   intro kb g' d d1 d2;have:=moved _ haf d d1 d2;unfold fX
   dsimp only
   have e:ex N ⟨d.Kind,d.Shape,d.Flags,d.Age,d.Slots,d.More⟩ met (zK m met)=some (fk (fz m met) met d):=this;rw [e,bs,rF (by simp;omega),r64 (by omega) (by omega)]
  rw [minor_Collect_l28.eq_2,cI (by omega),ct,bn hi,bs,r64 (by omega) (by omega),r64 (by omega) (by omega),lK N hN kept (by omega),bs];by_cases hk:(2*(i:Int)+2)∈kept
  ·rw [decide_eq_true hk,ct,xa N hN hc (by omega) g (by omega),bs]
   dsimp only
   rw [body _ _ _ (by omega) (by omega)];exact go (_,_) ⟨n1.symm,by rw [n2,hnc]⟩
  obtain ⟨o1,o2⟩:=hold hk;rw [decide_eq_false hk,cf,body _ _ _ (by omega) (by omega)];exact go (g,_) ⟨by rw [n1,o2,List.append_nil],by rw [n2,hnc,o1]⟩
 rintro k ⟨g,O⟩ ⟨h1,h2⟩;have etl:(bw m.Old.length).take m.Old.length=bw m.Old.length:=List.take_of_length_le (by omega);simp only [etl] at h1 h2;show Sat (minor_Collect_l28 N m roots kept (zK m met) ⟨m,kept,met,seen,nx⟩ (k+1) g (gz m met) _ O) _;rw [minor_Collect_l28.eq_2,cG (by omega),cf];unfold kM;rw [h1]
 have hOl:O.length≤600:=by rw [h2,List.length_map];omega
 have:=young O hOl;rw [h2] at this⊢;exact this
end
end Go.Proofs.YtmimkglhbmcokaaGreat
namespace Go.Proofs.YtmimkglhbmcokaaGreat
open Go.RowKit
theorem E1: ∀{A B:List Int} {x:Int},x∉A→(A++x::B).idxOf x=A.length
 | [],B,x,_=>by simp
 |a::A,B,x,h=>by
  have h1:a≠x:=fun e=>h (by simp [e])
  rw [List.cons_append,List.idxOf_cons,E1 fun hx=>h (by simp [hx])];have:(a==x)=false:=beq_eq_false_iff_ne.2 h1;rw [this];rfl
theorem C8 {l:List Int}(hn:l.Nodup)(p:Int→Bool){i:Nat}(h:i<l.length)(hp:p l[i]=true):(l.filter p).idxOf l[i]=((l.take i).filter p).length:=by
 have e:l.filter p=(l.take i).filter p++l[i]::(l.drop (i+1)).filter p:=by
  have e1:l=l.take i++(l[i]::l.drop (i+1)):=by rw [←List.drop_eq_getElem_cons h,List.take_append_drop]
  have e2:l.filter p=(l.take i).filter p++(l[i]::l.drop (i+1)).filter p:=by rw [←List.filter_append, ←e1]
  rw [e2,List.filter_cons,hp,if_pos rfl]
 rw [e]
 exact E1 fun hm=>yZ hn h (List.mem_filter.1 hm).1
def DI (c:DCell)(g:Int):DCell:=⟨c.Kind,c.Shape,c.Flags,g,c.Slots,c.More⟩
theorem Br {c:DCell}(h:cX c=true):cX (DI c 1)=true:=by
 unfold cX at h⊢;unfold DI;simp only [Bool.and_eq_true] at h⊢;obtain ⟨⟨⟨⟨⟨⟨⟨h1,h2⟩,h3⟩,h4⟩,h5⟩, -⟩, -⟩,h8⟩:=h;exact ⟨⟨⟨⟨⟨⟨⟨h1,h2⟩,h3⟩,h4⟩,h5⟩,rfl⟩,rfl⟩,h8⟩
structure VCell (N:Nat) (c:DCell):Prop where
 big:2000<N
 right:cX c=true
 slots:c.Slots.length≤600
 more:c.More.length≤600
section
variable {N:Nat} {m:DMemory} {roots:List DValue} {kept met:List Int} (h:MinCtx N m roots kept met)
include h
theorem MinCtx.rhoE {a:Int}(ha:a∈bw m.Old.length):fz m met a=a:=by
 have hn:a∉met:=fun hm=>(List.nodup_append.1 h.nd).2.2 a ha a hm rfl
 unfold fz uB;rw [if_neg hn]
theorem MinCtx.rhoY {a:Int}(ha:a∈met)(hp:eH m a=true):fz m met a=2*(((met.filter (eH m)).idxOf a:Nat):Int)+1:=by
 obtain ⟨i,hi,rfl⟩:=List.getElem_of_mem ha;unfold fz uB zK;rw [if_pos ha,wl h.mt.1 hi,yL _ hi,hp,C8 h.mt.1 _ hi hp,cond_true,Nat.zero_add]
theorem MinCtx.rhoO {a:Int}(ha:a∈met)(hp:eH m a=false):fz m met a=2*((m.Old.length+(met.filter fun a=> !eH m a).idxOf a:Nat):Int)+2:=by
 obtain ⟨i,hi,rfl⟩:=List.getElem_of_mem ha;unfold fz uB zK;rw [if_pos ha,wl h.mt.1 hi,yL _ hi,hp,C8 h.mt.1 (fun a=> !eH m a) hi (by rw [hp];rfl),cond_false]
theorem MinCtx.cases {a:Int}(ha:a∈gz m met):(a∈bw m.Old.length∧fz m met a=a)∨(a∈met∧eH m a=true∧a∈met.filter (eH m))∨(a∈met∧eH m a=false∧a∈met.filter fun a=> !eH m a):=by
 unfold gz at ha;rcases List.mem_append.1 ha with ha|ha
 ·exact .inl ⟨ha,h.rhoE ha⟩
 cases hp:eH m a with
 |true=>exact .inr (.inl ⟨ha,rfl,List.mem_filter.2 ⟨ha,hp⟩⟩)
 |false=>exact .inr (.inr ⟨ha,rfl,List.mem_filter.2 ⟨ha,by rw [hp];rfl⟩⟩)
theorem MinCtx.ren:Ren (fz m met) (gz m met):=by
 refine ⟨fun a b ha hb e=> ?_,fun a ha=> ?_⟩
 ·rcases h.cases ha with ⟨a1,a2⟩|⟨a1,a2,a3⟩|⟨a1,a2,a3⟩<;>rcases h.cases hb with ⟨b1,b2⟩|⟨b1,b2,b3⟩|⟨b1,b2,b3⟩
  ·rw [a2,b2] at e;exact e
  ·obtain ⟨i, -,rfl⟩:=fN.1 a1;rw [a2,h.rhoY b1 b2] at e;omega
  ·obtain ⟨i,hi,rfl⟩:=fN.1 a1;rw [a2,h.rhoO b1 b2] at e;omega
  ·obtain ⟨i, -,rfl⟩:=fN.1 b1;rw [b2,h.rhoY a1 a2] at e;omega
  ·rw [h.rhoY a1 a2,h.rhoY b1 b2] at e
   have e2:(met.filter (eH m)).idxOf a=(met.filter (eH m)).idxOf b:=by omega
   rw [←jy a3, ←jy b3];simp only [e2]
  ·rw [h.rhoY a1 a2,h.rhoO b1 b2] at e;omega
  ·obtain ⟨i,hi,rfl⟩:=fN.1 b1;rw [b2,h.rhoO a1 a2] at e;omega
  ·rw [h.rhoO a1 a2,h.rhoY b1 b2] at e;omega
  rw [h.rhoO a1 a2,h.rhoO b1 b2] at e
  have e2:(met.filter fun a=> !eH m a).idxOf a=(met.filter fun a=> !eH m a).idxOf b:=by omega
  rw [←jy a3, ←jy b3];simp only [e2]
 rcases h.cases ha with ⟨a1,a2⟩|⟨a1,a2,a3⟩|⟨a1,a2,a3⟩
 ·obtain ⟨i, -,rfl⟩:=fN.1 a1;omega
 ·rw [h.rhoY a1 a2];omega
 rw [h.rhoO a1 a2];omega
end
def Kc (N:Nat)(m:DMemory)(met:List Int)(a:Int):Int:=if a∈met then 1 else (nC N m met a).Age
def oV (N:Nat)(m:DMemory)(met:List Int)(a:Int):DCell:=DI (nC N m met a) (Kc N m met a)
theorem vb {m:DMemory}{met:List Int}(v:DValue):bM (fz m met) (gz m met) v=bM (fz m met) met v:=by
 unfold bM gz;cases hb:bH v
 ·rfl
 rw [Bool.true_and,Bool.true_and];by_cases h:v.N∈met
 ·rw [decide_eq_true h,decide_eq_true (List.mem_append_right _ h)]
 rw [decide_eq_false h]
 have e:fz m met v.N=v.N:=by unfold fz uB;rw [if_neg h]
 rw [e];cases decide (v.N∈bw m.Old.length++met)<;>rfl
theorem CV {m:DMemory}{met:List Int}(c:DCell):fk (fz m met) met c=fk (fz m met) (gz m met) c:=by
 unfold fk;rw [List.map_congr_left fun v _=>(vb v).symm,List.map_congr_left (l:=c.More) fun v _=>(vb v).symm]
section
variable {N:Nat} {m:DMemory} {roots:List DValue} {kept met:List Int} (h:MinCtx N m roots kept met)
include h
theorem MinCtx.cellE {a:Int}(ha:a∈bw m.Old.length):oV N m met a=nC N m met a:=by
 have hn:a∉met:=fun hm=>(List.nodup_append.1 h.nd).2.2 a ha a hm rfl
 unfold oV Kc;rw [if_neg hn];rfl
theorem H6 {a:Int}(ha:a∈met):oV N m met a=nY N m met a:=by
 have _:=h;unfold oV Kc;rw [if_pos ha];rfl
theorem MinCtx.okN {a:Int}(ha:a∈gz m met):VCell N (nC N m met a)∧VCell N (oV N m met a):=by
 have hN:=h.big;obtain ⟨g1,g2,g3, -⟩:=CellOk.new h.ren (h.cell ha);have e:nC N m met a=fk (fz m met) (gz m met) (ga N (gz m met) (ce m a)):=CV _;rw [←e] at g1 g2 g3;refine ⟨⟨by omega,g1,g2,g3⟩,by omega,?_,g2,g3⟩;unfold oV Kc;by_cases hm:a∈met
 ·rw [if_pos hm];exact Br g1
 rw [if_neg hm];exact g1
end
end Go.Proofs.YtmimkglhbmcokaaGreat
namespace Go.Proofs.YtmimkglhbmcokaaGreat
open Go.RowKit
theorem Ad {α:Type}(g:α→Nat)(p:α→Bool): ∀l:List α,cv g (l.filter p)+cv g (l.filter fun a=> !p a)=cv g l
 | []=>rfl
 |a::l=>by
  have ih:=Ad g p l;rw [List.filter_cons,List.filter_cons];cases h:p a
  ·simp only [Bool.false_eq_true,if_false,Bool.not_false,if_true,cv];omega
  simp only [Bool.false_eq_true,if_false,Bool.not_true,if_true,cv];omega
theorem ni {α:Type}{g h:α→Nat}: ∀{l:List α},(∀x∈l,g x=h x)→cv g l=cv h l
 | [],_=>rfl
 |a::l,hh=>by rw [cv,cv,hh a (by simp),ni fun x hx=>hh x (by simp [hx])]
theorem rc {α:Type}: ∀l:List α,cv (fun _=>1) l=l.length
 | []=>rfl
 |a::l=>by rw [cv,rc l,List.length_cons];omega
section
variable {N:Nat} {m:DMemory} {roots:List DValue} {kept met:List Int} (h:MinCtx N m roots kept met)
include h
theorem MinCtx.midSum (g:DCell→Nat):cv g (lY N m met).Young+cv g (lY N m met).Old=cv (fun a=>g (oV N m met a)) (gz m met):=by
 have e1:cv (fun a=>g (oV N m met a)) (bw m.Old.length)=cv (fun a=>g (nC N m met a)) (bw m.Old.length):=ni fun a ha=>by rw [h.cellE ha]
 have e2:cv (fun a=>g (oV N m met a)) met=cv (fun a=>g (nY N m met a)) met:=ni fun a ha=>by rw [H6 h ha]
 have e3:=Ad (fun a=>g (nY N m met a)) (eH m) met;unfold lY gz;simp only;rw [nj,nj,jT,jT,jT,e1,e2];omega
theorem MinCtx.midLe (g:DCell→Nat)(hg: ∀a∈gz m met,g (oV N m met a)≤g (ce m a)):cv g (lY N m met).Young+cv g (lY N m met).Old≤cv g m.Young+cv g m.Old:=by
 have h1:=lR (fun a=>g (ce m a)) h.nd fun a ha=>pF (h.f1has ha)
 have h2:=jT g (ce m) (vN m);rw [vM,nj] at h2;rw [h.midSum];have h3:=uw hg;omega
theorem MinCtx.cellLe {a:Int}(ha:a∈gz m met):(oV N m met a).Slots.length=(ce m a).Slots.length∧(oV N m met a).More.length≤(ce m a).More.length:=by
 have _:=h;have:=lL N (gz m met) (ce m a);show ((ga N (gz m met) (ce m a)).Slots.map _).length=_∧((ga N (gz m met) (ce m a)).More.map _).length≤_;rw [List.length_map,List.length_map];omega
theorem MinCtx.midCnt:(lY N m met).Young.length+(lY N m met).Old.length≤m.Young.length+m.Old.length:=by
 have:=h.midLe (fun _=>1) fun a _=>Nat.le_refl _
 rw [rc,rc,rc,rc] at this;exact this
theorem MinCtx.midMem {c:DCell}(hc:c∈(lY N m met).Young++(lY N m met).Old): ∃a∈gz m met,c=oV N m met a:=by
 unfold lY at hc;simp only [List.mem_append,List.mem_map,List.mem_filter] at hc;rcases hc with ⟨a,⟨h1, -⟩,rfl⟩|⟨a,h1,rfl⟩|⟨a,⟨h1, -⟩,rfl⟩
 ·exact ⟨a,List.mem_append_right _ h1,(H6 h h1).symm⟩
 ·exact ⟨a,List.mem_append_left _ h1,(h.cellE h1).symm⟩
 exact ⟨a,List.mem_append_right _ h1,(H6 h h1).symm⟩
theorem MinCtx.nowE:roots.map (bM (fz m met) met)=roots.map (bM (fz m met) (gz m met)):=by
 have _:=h
 exact List.map_congr_left fun v _=>(vb v).symm
theorem MinCtx.rho64 {a:Int}(ha:a∈gz m met):in64 (fz m met a):=by
 have h1:=h.mlen;have h2:=h.small.old
 have h3: ∀p:Int→Bool,(met.filter p).length≤1200:=fun p=>Nat.le_trans (List.length_filter_le _ _) h1
 unfold in64;rcases h.cases ha with ⟨a1,a2⟩|⟨a1,a2,a3⟩|⟨a1,a2,a3⟩
 ·obtain ⟨i,hi,rfl⟩:=fN.1 a1;rw [a2];omega
 ·have:=lr a3;have:=h3 (eH m);rw [h.rhoY a1 a2];omega
 have:=lr a3
 have:=h3 fun a=> !eH m a
 rw [h.rhoO a1 a2];omega
theorem MinCtx.mov64 {v:DValue}(hv:in64 v.N):in64 (bM (fz m met) (gz m met) v).N:=by
 unfold bM
 cases hb:bH v&&decide (v.N∈gz m met) with
 |false=>exact hv
 |true=>
  rw [Bool.and_eq_true,decide_eq_true_eq] at hb;exact h.rho64 hb.2
theorem MinCtx.now64: ∀v∈roots.map (bM (fz m met) (gz m met)),in64 v.N:=fun v hv=>by
 obtain ⟨w,hw,rfl⟩:=List.mem_map.1 hv;exact h.mov64 (h.r64 w hw)
theorem MinCtx.nCE (a:Int):nC N m met a=fk (fz m met) (gz m met) (ga N (gz m met) (ce m a)):=by
 have _:=h;exact CV _
theorem MinCtx.midW:W64 (lY N m met):=fun c hc v hv=>by
 obtain ⟨a,ha,rfl⟩:=h.midMem hc;have hv':v∈(nC N m met a).Slots++(nC N m met a).More:=hv;rw [h.nCE] at hv'
 have hv2:v∈((ga N (gz m met) (ce m a)).Slots++(ga N (gz m met) (ce m a)).More).map (bM (fz m met) (gz m met)):=by rw [List.map_append];exact hv'
 obtain ⟨w,hw,rfl⟩:=List.mem_map.1 hv2;refine h.mov64 ?_;rcases Fd hw with hw|rfl
 ·exact h.w64.at_ a w hw
 show in64 0;unfold in64;omega
theorem MinCtx.midS (hcnt:m.Young.length+m.Old.length≤600)(l:List DValue)(hl:l.length≤600):Small (lY N m met) l:=by
 have:=h.midCnt;refine ⟨by omega,by omega,hl,fun c hc=> ?_⟩;obtain ⟨a,ha,rfl⟩:=h.midMem hc;exact ⟨(h.okN ha).2.slots,(h.okN ha).2.more⟩
end
end Go.Proofs.YtmimkglhbmcokaaGreat
namespace Go.Proofs.YtmimkglhbmcokaaGreat
open Go.RowKit
theorem tg (N:Nat)(hN:5000<N)(c:DCell)(hS:c.Slots.length≤600)(hM:c.More.length≤600):jc N c=some ((dc c).any yB):=by
 have h1:=jl c;have h2:=lP c
 have hy: ∀x,jb N x=some (yB x):=fun x=>by
  unfold jb yB;cases decide (0<x)<;>cases decide (x.tmod 2=1)<;>rfl
 unfold jc dc;rw [lp N (by omega) c (by omega) (by omega),qZ N (by omega) c (by omega) (by omega),bs,bs,xW N _ yB (bN c) (by omega) (by omega) (fun x _=>hy x),xW N _ yB (iO c) (by omega) (by omega) (fun x _=>hy x),bs,bs,List.any_append];cases (bN c).any yB<;>cases (iO c).any yB<;>rfl
theorem GL {L:List (Int×Bool)}{a:Int}(h:a∉L.map (·.1)):wI L a=L:=by
 unfold wI;rcases Ed a L with ⟨i,c, -,h2⟩|⟨h1, -⟩
 ·exact absurd (List.mem_map.2 ⟨_,List.mem_of_getElem? h2,rfl⟩) h
 rw [h1]
theorem yw (N:Nat)(hN:5000<N){m:DMemory}{roots:List DValue}(hs:Small m roots): ∃kv,cc N ⟨[]⟩ m=some ⟨kv⟩∧kv.map Prod.fst=rT m:=by
 have ho:=hs.old
 have key:Sat (cc N ⟨[]⟩ m) fun r=>r.at_.map Prod.fst=rT m:=by
  unfold cc km;rw [bs];refine cy (fun k i (s:List (Int×Bool))=>remset_Set_Renew_l8 N m k (i:Int) s) m.Old.length (fun i s=>s.map Prod.fst=((List.range i).filter (tt m)).map (fun i:Nat=>2*(i:Int)+2)) _ ?_ ?_ N 0 [] (by omega) (by omega) rfl
  ·rintro k i s hi h1 go;show Sat (remset_Set_Renew_l8 N m (k+1) (i:Int) s) _;have hc:=hs.cells _ (List.mem_append_right m.Young (List.getElem_mem hi))
   have hnext:((List.range (i+1)).filter (tt m)).map (fun i:Nat=>2*(i:Int)+2)=((List.range i).filter (tt m)).map (fun i:Nat=>2*(i:Int)+2)++(bif tt m i then [2*(i:Int)+2] else []):=by
    rw [List.range_succ,List.filter_append,List.map_append];cases h:tt m i<;>simp [h]
   have hno:(2*(i:Int)+2)∉s.map Prod.fst:=by
    rw [h1];intro hm;obtain ⟨j,hj,e⟩:=List.mem_map.1 hm;have:=List.mem_range.1 (List.mem_filter.1 hj).1;omega
   have e:(dc m.Old[i]).any yB=tt m i:=by unfold tt;rw [tC m i hi]
   rw [remset_Set_Renew_l8.eq_2,cI (by omega),ct,bn hi,bs,r64 (by omega) (by omega),r64 (by omega) (by omega)];unfold dp gr kG;rw [tg N hN _ hc.1 hc.2,e,cI (by omega),ct,ng (by omega),mw (by omega)];simp only [bs,nt,cf];cases h:tt m i
   ·simp only [nf,ct,bs];rw [GL hno,r64 (by omega) (by omega)];exact go s (by rw [hnext,h,h1,cf,List.append_nil])
   simp only [nt,cf,bs];rw [r64 (by omega) (by omega)];refine go (pS s (2*(i:Int)+2) true) ?_;have:=uu s (2*(i:Int)+2) true;rw [if_neg hno] at this;rw [hnext,h,ct, ←h1];exact this
  rintro k s h1;show Sat (remset_Set_Renew_l8 N m (k+1) _ s) _;rw [remset_Set_Renew_l8.eq_2,cG (by omega),cf];exact aS h1
 obtain ⟨r,e,h⟩:=key;exact ⟨r.at_,e,h⟩
theorem HH (m:DMemory):(rT m).Pairwise (· < ·):=by
 have:=HI m;unfold nN at this;rw [Bool.and_eq_true,decide_eq_true_eq] at this;exact this.2
def gX (m:DMemory)(live f:List Int):List DValue:=f.flatMap fun a=>ed live (ce m a)
section
variable {N:Nat} {m:DMemory} {roots:List DValue} {live f:List Int} (h:CollCtx N m roots live f)
include h
theorem CollCtx.goneIn:jt f (gX m live f):=fun v hv hb=>by
 obtain ⟨a,ha,hv⟩:=List.mem_flatMap.1 hv;exact (h.cell ha).toldIn v hv hb
theorem CollCtx.gone64: ∀v∈(gX m live f).map (bM (fj f) f),in64 v.N:=fun v hv=>by
 have hl:=h.flen;obtain ⟨w,hw,rfl⟩:=List.mem_map.1 hv;refine wn (by omega) ?_;obtain ⟨a,ha,hw⟩:=List.mem_flatMap.1 hw;unfold ed at hw
 cases h10:decide ((ce m a).Kind=10) with
 |false=>rw [h10] at hw;cases hw
 | true=>
  rw [h10] at hw;rcases yi hw with rfl|hw
  ·cases hm:(ce m a).More with
   |nil=>show in64 0;unfold in64;omega
   |cons x r=>exact h.w64.at_ a x (List.mem_append_right _ (by rw [hm];simp))
  exact h.w64.at_ a w (List.mem_append_right _ (List.mem_of_mem_drop hw))
theorem CollCtx.nextTot:(roots.map (bM (fj f) f)++(gX m live f).map (bM (fj f) f)).length+wt (cq N m live f).Young+wt (cq N m live f).Old≤roots.length+wt m.Young+wt m.Old:=by
 have h1:=Cs h.lv;have e0:(cq N m live f).Young=[]:=rfl
 have e1:(cq N m live f).Old=f.map fun a=>fk (fj f) f (ga N live (ce m a)):=rfl
 rw [e0,e1,List.length_append,List.length_map,List.length_map];unfold gX;have e2:wt []=0:=rfl;omega
theorem CollCtx.again (hlen:(roots.map (bM (fj f) f)++(gX m live f).map (bM (fj f) f)).length≤600):
  CollCtx N (cq N m live f) (roots.map (bM (fj f) f)++(gX m live f).map (bM (fj f) f)) (bw f.length) (bw f.length)∧
  xh N (cq N m live f) (roots.map (bM (fj f) f)++(gX m live f).map (bM (fj f) f)) (bw f.length) (bw f.length)=⟨cq N m live f,roots.map (bM (fj f) f)++(gX m live f).map (bM (fj f) f),[]⟩:=by
 have hN:=h.big;have hs2:=h.nextS _ hlen;have w2:=h.nextW
 have hall:jt f (roots++gX m live f):=fun v hv hb=>(List.mem_append.1 hv).elim (fun hv=>h.rootIn v hv hb) fun hv=>h.goneIn v hv hb
 have r2: ∀v∈roots.map (bM (fj f) f)++(gX m live f).map (bM (fj f) f),in64 v.N:=fun v hv=>(List.mem_append.1 hv).elim (h.now64 v) (h.gone64 v)
 have tot2:Wtd (cq N m live f) (roots.map (bM (fj f) f)++(gX m live f).map (bM (fj f) f)):=by
  have h1:=h.nextTot;have h2:=h.tot.le;have h3:=h.flen6;refine ⟨by omega,?_⟩;show ([]:List DCell).length+(f.map fun a=>fk (fj f) f (ga N live (ce m a))).length≤600;rw [List.length_map];simpa using h3
 rw [←List.map_append] at hlen hs2 r2 tot2⊢;generalize hR:roots++gX m live f=R at*;obtain ⟨live2,f2,L2⟩:=EX N hN hs2 w2 r2;have L2':=L2;obtain ⟨b2,all2,i2,e2,ef2⟩:=L2'.ord;obtain ⟨b1,all1,i1,e1,ef1⟩:=h.lv.ord
 have hall1: ∀x,x∈all1↔x∈f:=fun x=>by rw [←h.mem x,e1];exact (mR all1 x).symm
 obtain ⟨c1,c2⟩:=i2.closed
 have roots2: ∀v∈R,bH v=true→fj f v.N∈all2:=fun v hv hb=>by
  have hf:=hall v hv hb
  have:fj f v.N∈cj (R.map (bM (fj f) f)):=by
   rw [Bc hall];exact List.mem_map.2 ⟨v.N,lC.2 ⟨v,hv,hb,rfl⟩,rfl⟩
  exact i2.sub (i2.roots this (rI hf))
 have hS:ClosedS (zt N m) (fun a=>a∈f∧fj f a∈all2):=by
  refine ⟨fun a ha x hx _=> ?_,fun row hrow a ha x hx _=> ?_⟩
  ·have hx':x∈bN (ce m a):=hx;have hxf:=(h.cell ha.1).leads x hx';refine ⟨hxf,?_⟩;rcases CellOk.strong (xH f) (h.cell ha.1) hx' with h1|⟨v,hv,hb,rfl⟩
   ·refine c1 (fj f a) ha.2 (fj f x) ?_ (rI hxf);show fj f x∈bN (ce (cq N m live f) (fj f a));rw [EU ha.1];exact h1
   exact roots2 v (by rw [←hR];exact List.mem_append_right _ (List.mem_flatMap.2 ⟨a,ha.1,hv⟩)) hb
  have hx':x∈cM N (ce m a) row:=hx;have hc:=h.cell ha.1;unfold cM at hx'
  cases hw:ma N (ce m a) with
  |false=>rw [hw] at hx';cases hx'
  | true=>
   rw [hw,cond_true] at hx'
   have h8:(ce m a).Kind=8:=by
    rw [hc.wm] at hw;exact of_decide_eq_true hw
   have hxf:x∈f:=by
    refine hc.opens x ?_;unfold cM;rw [hw,cond_true];exact yR (fun y hy=>decide_eq_true ((h.mem y).2 (hrow y (of_decide_eq_true hy)).1)) hx'
   refine ⟨hxf,c2 (fj f a) ha.2 (fj f x) ?_ (rI hxf)⟩;show fj f x∈cM N (ce (cq N m live f) (fj f a)) all2;rw [EU ha.1];obtain ⟨g1,g2,g3,g4⟩:=CellOk.new (xH f) hc;unfold cM;rw [tZ hc.big g1 g2 g3,g4,decide_eq_true h8,cond_true,hc.clC8 h8];exact Au hrow h.mem hxf (hc.ent2 h8) hx'
 have hin:=i1.in_ hS fun x hx _=>⟨h.root hx,by
  obtain ⟨v,hv,hb,rfl⟩:=lC.1 hx
  exact roots2 v (by rw [←hR];exact List.mem_append_left _ hv) hb⟩
 have hmem2: ∀y,y∈all2↔y∈bw f.length:=fun y=>by
  rw [←Bu h.lv.nd];constructor
  ·intro hy;obtain ⟨a,ha,rfl⟩:=Ay (i2.has.2 y hy) h.lv.nd;exact List.mem_map.2 ⟨a,ha,rfl⟩
  intro hy;obtain ⟨a,ha,rfl⟩:=List.mem_map.1 hy;exact (hin a ((hall1 a).2 ha)).2
 have el:live2=bw f.length:=by rw [e2];exact Cz i2.nodup.2 (wE _) hmem2
 have ef:f2=bw f.length:=by rw [ef2,el,AF]
 rw [el,ef] at L2
 have hev: ∀{x:Int},bK (cq N m live f) x=true→x∈bw f.length:=fun hx=>by
  obtain ⟨a,ha,rfl⟩:=Ay hx h.lv.nd;rw [←Bu h.lv.nd];exact List.mem_map.2 ⟨a,ha,rfl⟩
 have hOld: ∀c∈(cq N m live f).Young++(cq N m live f).Old,cX c=true∧ ∀x∈dc c,bK (cq N m live f) x=true:=fun c hc=>h.nextAddr hc
 refine ⟨⟨hN,hs2,tot2,w2,r2,L2,fun c hc=>(hOld c hc).1,fun c hc=>(hOld c hc).2,fun x hx=> ?_⟩,?_⟩
 ·obtain ⟨v,hv,hb,rfl⟩:=lC.1 hx;exact h.newHas hall hv hb
 unfold xh;rw [t7]
 have hcell: ∀y∈bw f.length,ga N (bw f.length) (ce (cq N m live f) y)=ce (cq N m live f) y∧ed (bw f.length) (ce (cq N m live f) y)=[]:=fun y hy=>by
  have hyh:bK (cq N m live f) y=true:=by
   rw [←Bu h.lv.nd] at hy;obtain ⟨a,ha,rfl⟩:=List.mem_map.1 hy;exact rI ha
  have hm:=qr hyh;obtain ⟨g1,g2⟩:=hOld _ hm;have hc:=hs2.cells _ hm
  exact H4 (by omega) g1 hc.1 hc.2 fun v hv hb=>hev (g2 _ (vO (List.mem_append_right _ hv) hb))
 have e1:((bw f.length).map fun a=>fk (fj (bw f.length)) (bw f.length) (ga N (bw f.length) (ce (cq N m live f) a)))=(cq N m live f).Old:=by
  have hol:(cq N m live f).Old.length=f.length:=by unfold cq;simp
  refine List.ext_getElem (by rw [hol];unfold bw;simp) fun i g1 g2=> ?_
  simp only [List.getElem_map];rw [Ee,(hcell _ (List.getElem_mem _)).1];rw [wD,tC _ _ g2]
 have e3:((bw f.length).flatMap fun a=>ed (bw f.length) (ce (cq N m live f) a))=[]:=by
  rw [List.flatMap_eq_nil_iff]
  exact fun y hy=>(hcell y hy).2
 rw [e1,e3];rfl
end
theorem GN {N:Nat}{m:DMemory}{roots:List DValue}{live f:List Int}(h:CollCtx N m roots live f):jS N m roots=0:=by
 have hN:=h.big;unfold jS
 have h1:(m.Young++m.Old).all (mm N)=true:=by
  rw [List.all_eq_true];intro c hc;have:=h.small.cells c hc;rw [CD (by omega) this.1 this.2];exact h.right c hc
 have h2:fF m ((m.Young++m.Old).flatMap dc++cj roots)=true:=by
  unfold fF;rw [List.all_eq_true];intro x hx;rcases List.mem_append.1 hx with hx|hx
  ·obtain ⟨c,hc,hx⟩:=List.mem_flatMap.1 hx;exact h.addr c hc x hx
  exact h.roots x hx
 rw [h1,h2];rfl
end Go.Proofs.YtmimkglhbmcokaaGreat
namespace Go.Proofs.YtmimkglhbmcokaaGreat
open Go.RowKit
theorem rP {α β γ:Type}(o:Option α)(f:α→Option β)(g:β→γ):(o.bind f).map g=o.bind fun x=>(f x).map g:=by cases o<;>rfl
theorem Hz {β γ:Type}(c:Prop)[Decidable c](o:Option β)(g:β→γ):(bA c o).map g=bA c (o.map g):=by unfold bA;split<;>rfl
theorem BJ {β γ:Type}(b:Bool)(x y:Option β)(g:β→γ):(bif b then x else y).map g=bif b then x.map g else y.map g:=by cases b<;>rfl
def LP:(DMemory×(List DValue)×(List DValue)×Int) ⊕ (DMemory×(List DValue)×(List DValue))→DMemory×(List DValue)×(List DValue)×Int
 | .inl x=>x
 | .inr x=>(x.1,x.2.1,x.2.2,0)
theorem KD (N:Nat)(m:DMemory)(roots:List DValue):df N m roots=(dZ N m roots).map LP:=by
 have e20:gx=iX:=rfl;have e27:gw=iW:=rfl;unfold df dZ;rw [e20,e27,rP]
 congr 1;funext y7
 rw [BJ];cases !decide (y7=0)
 ·simp only [cond_false,rP]
  congr 1;funext y13;congr 1;funext y18;congr 1;funext y22
  unfold mg;split
  ·simp only [rP]
   congr 1;funext y25;congr 1;funext y30
   split
   ·simp only [rP];rfl
   ·rfl
   ·rfl
   rfl
  ·rfl
  ·rfl
  rfl
 rfl
def LN:(DMemory×(List DValue)×(List DValue)) ⊕ (DMemory×(List DValue)×(List DValue))→DMemory×(List DValue)×(List DValue)×Int
 | .inl x=>(x.1,x.2.1,x.2.2,1)
 | .inr x=>(x.1,x.2.1,x.2.2,0)
theorem Hv (N:Nat)(a0:DMemory)(y13:DMeeter)(a1:List DValue)(y20 p26:List Int): ∀(k:Nat) (p72:List DValue) (p73:Int) (p74 p75:List DCell),minor_Collect_l71 N y13 a1 y20 p26 k p72 p73 p74 p75=(minor_Collect_k_l71 N y13 a1 y20 p26 a0 k p72 p73 p74 p75).map LN:=by
 intro k
 induction k with
 |zero=>intros;rfl
 |succ k ih=>
  intro p72 p73 p74 p75;rw [minor_Collect_l71.eq_2,minor_Collect_k_l71.eq_2];unfold iU gt kL jM;simp only [BJ,rP,Hz,ih];rfl
theorem Hw (N:Nat)(a0:DMemory)(a1:List DValue)(a2 y20:List Int)(y13:DMeeter): ∀(k:Nat) (p29:List DValue) (p30:List Int) (p31:Int) (p32:List DCell),minor_Collect_l28 N a0 a1 a2 y20 y13 k p29 p30 p31 p32=(minor_Collect_k_l28 N a0 a1 a2 y20 y13 k p29 p30 p31 p32).map LN:=by
 intro k
 induction k with
 |zero=>intros;rfl
 |succ k ih=>
  intro p29 p30 p31 p32;rw [minor_Collect_l28.eq_2,minor_Collect_k_l28.eq_2];unfold fX gu kM jN;simp only [BJ,rP,Hz,ih,Hv N a0]
theorem KA (N:Nat)(m:DMemory)(roots:List DValue)(kept:List Int):eh N m roots kept=(dr N m roots kept).map LN:=by
 unfold eh dr;rw [rP]
 congr 1;funext y7
 rw [BJ];cases !y7
 ·simp only [cond_false,rP,Hw]
 rfl
def mS (l:List DCell):Nat:=cv (fun c=>c.More.length) l
theorem mQ {α:Type}(n:Nat): ∀l:List α,cv (fun _=>n) l=n*l.length
 | []=>by simp [cv]
 |a::l=>by rw [cv,mQ n l,List.length_cons,Nat.mul_succ];omega
theorem yl {α:Type}(g:α→Nat)(x:α): ∀(l:List α) (i:Nat),cv g (l.set i x)≤cv g l+g x
 | [],_=>by simp [cv]
 |a::l,0=>by simp only [List.set_cons_zero,cv];omega
 |a::l,i+1=>by have:=yl g x l i;simp only [List.set_cons_succ,cv];omega
structure HInv (k:Nat) (g:DHeap):Prop where
 cnt:g.m_.Young.length+g.m_.Old.length≤k
 cells: ∀c∈g.m_.Young++g.m_.Old,c.Slots.length≤20∧c.More.length≤20
 sum:4*(g.roots_++g.pending_).length+3*(mS g.m_.Young+mS g.m_.Old)≤60*k
 w64:W64 g.m_
 r64: ∀v∈g.roots_++g.pending_,in64 v.N
 nd:(g.set_.at_.map Prod.fst).Nodup
 keys: ∀x∈g.set_.at_.map Prod.fst, ∃i:Nat,i<g.m_.Old.length∧x=2*(i:Int)+2
section
variable {k:Nat} {g:DHeap} (h:HInv k g)
include h
theorem HInv.up:HInv (k+1) g:=⟨by have:=h.cnt;omega,h.cells,by have:=h.sum;omega,h.w64,h.r64,h.nd,h.keys⟩
theorem HInv.small (hk:k≤40):Small g.m_ (g.roots_++g.pending_):=by
 have h1:=h.cnt;have h2:=h.sum;exact ⟨by omega,by omega,by omega,fun c hc=>by have:=h.cells c hc;omega⟩
theorem HInv.wtd (hk:k≤40):Wtd g.m_ (g.roots_++g.pending_):=by
 have h1:=h.cnt;have h2:=h.sum
 have hw: ∀l:List DCell,(∀c∈l,c∈g.m_.Young++g.m_.Old)→wt l≤41*l.length:=fun l hl=>by
  rw [Bi, ←mQ]
  exact uw fun c hc=>by have:=h.cells c (hl c hc);unfold wC;omega
 have h3:=hw g.m_.Young fun c hc=>List.mem_append_left _ hc
 have h4:=hw g.m_.Old fun c hc=>List.mem_append_right _ hc
 exact ⟨by omega,by omega⟩
theorem HInv.tot (hk:k≤40):cv (fun a=>(ce g.m_ a).More.length) (vN g.m_)≤3600:=by
 have h2:=jT (fun c:DCell=>c.More.length) (ce g.m_) (vN g.m_);rw [vM,nj] at h2;have h3:=h.sum;unfold mS at h3;omega
theorem HInv.withM {Y O:List DCell}{kv:List (Int×Bool)}{d:DCell}(hd:d.Slots.length≤20∧d.More.length≤20)(hd64: ∀v∈d.Slots++d.More,in64 v.N)(hY:Y.length+O.length≤k+1)(hc: ∀c∈Y++O,c∈g.m_.Young++g.m_.Old∨c=d)(hs:mS Y+mS O≤mS g.m_.Young+mS g.m_.Old+d.More.length)(nd:(kv.map Prod.fst).Nodup)(keys: ∀x∈kv.map Prod.fst, ∃i:Nat,i<O.length∧x=2*(i:Int)+2):HInv (k+1) ⟨⟨Y,O⟩,g.roots_,g.pending_,⟨kv⟩⟩:=by
 have h3:=h.sum;refine ⟨hY,fun c hm=> ?_,?_,fun c hm=> ?_,h.r64,nd,keys⟩
 ·rcases hc c hm with hm|rfl
  ·exact h.cells c hm
  exact hd
 ·show 4*(g.roots_++g.pending_).length+3*(mS Y+mS O)≤_;omega
 rcases hc c hm with hm|rfl
 ·exact h.w64 c hm
 exact hd64
theorem HInv.withR {r p:List DValue}(h1:4*(r++p).length≤4*(g.roots_++g.pending_).length+60)(h2: ∀v∈r++p,in64 v.N):HInv (k+1) ⟨g.m_,r,p,g.set_⟩:=by
 have h3:=h.sum;refine ⟨by have:=h.cnt;show g.m_.Young.length+g.m_.Old.length≤k+1;omega,h.cells,?_,h.w64,h2,h.nd,h.keys⟩;show 4*(r++p).length+3*(mS g.m_.Young+mS g.m_.Old)≤_;omega
theorem AE (N:Nat){a:Int}(ha:in64 a):eQ N g a=some (bK g.m_ a):=by
 have _:=h;unfold eQ aU;rw [bs,nf,ct,pO N _ _ ha];rfl
end
theorem xf {N:Nat}(hN:5000<N){c:DCell}(h1:c.Slots.length≤1000∧c.More.length≤1000):di N c=some (cX c):=by
 rw [rj N (by omega) c h1.1 h1.2,ns N (by omega) c h1.1 h1.2]
theorem EW {N k:Nat}(hN:5000<N){g:DHeap}(h:HInv k g)(hk:k<40){c:DCell}(h1:c.Slots.length≤20∧c.More.length≤20)(h2: ∀v∈c.Slots++c.More,in64 v.N):
  fq N g c=some (bif cX c then (2*(g.m_.Young.length:Int)+1,0,⟨⟨g.m_.Young++ [⟨c.Kind,c.Shape,c.Flags,0,c.Slots,c.More⟩],g.m_.Old⟩,g.roots_,g.pending_,g.set_⟩) else (0,51,g))∧HInv (k+1) (bif cX c then ⟨⟨g.m_.Young++ [⟨c.Kind,c.Shape,c.Flags,0,c.Slots,c.More⟩],g.m_.Old⟩,g.roots_,g.pending_,g.set_⟩ else g):=by
 have hc:=h.cnt;unfold fq aU;rw [bs,cf,xf hN (by omega),bs]
 cases cX c with
 |false=>exact ⟨rfl,h.up⟩
 | true=>
  have e:((g.m_.Young++ [(⟨c.Kind,c.Shape,c.Flags,0,c.Slots,c.More⟩:DCell)]).length:Int)=(g.m_.Young.length:Int)+1:=by simp
  rw [nt,cf,kz N c (by omega),bs,rF (by simp only [List.length_cons,List.length_nil];omega),e,r64 (by omega) (by omega),r64 (by omega) (by omega),ct,ct];refine ⟨?_,h.withM (d:=⟨c.Kind,c.Shape,c.Flags,0,c.Slots,c.More⟩) h1 h2 ?_ ?_ ?_ h.nd h.keys⟩
  ·rw [show 2*((g.m_.Young.length:Int)+1) - 1=2*(g.m_.Young.length:Int)+1 by omega]
  ·simp only [List.length_append,List.length_cons,List.length_nil];omega
  ·intro d hd;simp only [List.mem_append,List.mem_cons,List.not_mem_nil,or_false] at hd⊢;rcases hd with (hd|hd)|hd
   ·exact .inl (.inl hd)
   ·exact .inr hd
   exact .inl (.inr hd)
  unfold mS;rw [nj];simp only [cv];omega
def Gb (c:DCell)(a:Int):DCell:=⟨c.Kind,c.Shape,c.Flags,a,c.Slots,c.More⟩
def wY (kv:List (Int×Bool))(a:Int)(c:DCell):List (Int×Bool):=bif (dc c).any yB then pS kv a true else wI kv a
theorem Gi {N:Nat}(hN:5000<N){c:DCell}(h1:c.Slots.length≤600∧c.More.length≤600)(kv:List (Int×Bool))(i:Nat): ∃b,dp N ⟨kv⟩ (2*(i:Int)+2) c=some (b,⟨wY kv (2*(i:Int)+2) c⟩):=by
 unfold dp gr kG wY;rw [cI (by omega),ct,ng (by omega),mw (by omega),tg N hN c h1.1 h1.2];simp only [bs,nt,cf];cases (dc c).any yB
 ·exact ⟨false,rfl⟩
 exact ⟨true,rfl⟩
theorem Hr {kv:List (Int×Bool)}(h:(kv.map Prod.fst).Nodup)(a:Int)(c:DCell):((wY kv a c).map Prod.fst).Nodup:=by
 unfold wY;cases (dc c).any yB
 ·exact (AU h a).2.1
 show ((pS kv a true).map (·.1)).Nodup;rw [uu];split
 ·exact h
 rename_i hn
 exact List.nodup_append.2 ⟨h,by simp,fun x hx y hy=>by rintro rfl;exact hn (by rw [List.mem_singleton.1 hy] at hx;exact hx)⟩
theorem Gj {kv:List (Int×Bool)}(h:(kv.map Prod.fst).Nodup)(a:Int)(c:DCell)(x:Int):x∈(wY kv a c).map Prod.fst↔((dc c).any yB=true∧(x∈kv.map Prod.fst∨x=a))∨((dc c).any yB=false∧x∈kv.map Prod.fst∧x≠a):=by
 unfold wY;cases (dc c).any yB
 ·simp only [Bool.false_eq_true,false_and,false_or,true_and];exact (AU h a).1 x
 simp only [Bool.true_eq_false,false_and,or_false,true_and];show x∈(pS kv a true).map (·.1)↔(x∈kv.map (·.1)∨x=a);rw [uu];split
 ·rename_i hn
  exact ⟨.inl,fun hx=>hx.elim id fun e=>e▸hn⟩
 rw [List.mem_append,List.mem_singleton]
def IU (g:DHeap)(a:Int)(c:DCell):DHeap:=
 bif decide (a%2=1) then ⟨⟨g.m_.Young.set (a / 2).toNat (Gb c (ce g.m_ a).Age),g.m_.Old⟩,g.roots_,g.pending_,g.set_⟩
 else ⟨⟨g.m_.Young,g.m_.Old.set (a / 2 - 1).toNat (Gb c (ce g.m_ a).Age)⟩,g.roots_,g.pending_,⟨wY g.set_.at_ a c⟩⟩
theorem Hd {N k:Nat}(hN:5000<N){g:DHeap}(h:HInv k g)(hk:k<40){a:Int}(ha:in64 a){c:DCell}(h1:c.Slots.length≤20∧c.More.length≤20)(h2: ∀v∈c.Slots++c.More,in64 v.N):
  kf N g a c=some (bif !bK g.m_ a then (50,g) else bif !cX c then (51,g) else (0,IU g a c))∧HInv (k+1) (bif !bK g.m_ a then g else bif !cX c then g else IU g a c):=by
 have hc:=h.cnt;unfold kf aU;rw [bs,cf,AE h N ha,bs,xf hN (by omega),bs]
 cases hh:bK g.m_ a with
 |false=>exact ⟨rfl,h.up⟩
 | true=>
  cases cX c with
  |false=>exact ⟨rfl,h.up⟩
  | true=>
   rw [nt,cf,cf,cf,cf];unfold f0;rcases mV hh with ⟨i,hi,rfl⟩|⟨i,hi,rfl⟩
   ·have e1:(2*(i:Int)+1).tmod 2=1:=by rw [ng (by omega)];omega
    have e2:(2*(i:Int)+1).tdiv 2=i:=by rw [Int.tdiv_eq_ediv_of_nonneg (by omega)];omega
    have e3:(2*(i:Int)+1) / 2=i:=by omega
    have e4:(2*(i:Int)+1)%2=1:=by omega
    unfold IU;rw [e1,e2,e3,e4,decide_eq_true (p:=(1:Int)=1) rfl,decide_eq_false (p:=(1:Int)=0) (by omega),ct,ct,r64 (by omega) (by omega),bn hi,bs,bs]
    dsimp only [Af]
    rw [bn hi,bs,kz N c (by omega),bs,cf,FJ g.m_ i hi];unfold i3;refine ⟨by rw [List.set_set];rfl,h.withM (d:=Gb c g.m_.Young[i].Age) h1 h2 ?_ ?_ ?_ h.nd h.keys⟩
    ·rw [List.length_set];omega
    ·intro d hd;rcases List.mem_append.1 hd with hd|hd
     ·rcases List.mem_or_eq_of_mem_set hd with hd|hd
      ·exact .inl (List.mem_append_left _ hd)
      exact .inr hd
     exact .inl (List.mem_append_right _ hd)
    have:=yl (fun c:DCell=>c.More.length) (Gb c g.m_.Young[i].Age) g.m_.Young (i:Int).toNat;unfold mS;omega
   have e1:(2*(i:Int)+2).tmod 2=0:=by rw [ng (by omega)];omega
   have e2:(2*(i:Int)+2).tdiv 2=(i:Int)+1:=by rw [Int.tdiv_eq_ediv_of_nonneg (by omega)];omega
   have e3:(2*(i:Int)+2) / 2 - 1=i:=by omega
   have e4:(2*(i:Int)+2)%2=0:=by omega
   have e5:(i:Int)+1 - 1=i:=by omega
   obtain ⟨b,hb⟩:=Gi hN (c:=c) (by omega) g.set_.at_ i;have hb':dp N g.set_ (2*(i:Int)+2) c=some (b,⟨wY g.set_.at_ (2*(i:Int)+2) c⟩):=hb;unfold IU;rw [hb',e1,e2,e3,e4,e5,decide_eq_false (p:=(0:Int)=1) (by omega),decide_eq_true (p:=(0:Int)=0) rfl,cf,cf,r64 (by omega) (by omega),r64 (by omega) (by omega),bn hi,bs,bs]
   dsimp only [Af]
   rw [bn hi,bs,kz N c (by omega),bs,ct,bs,tC g.m_ i hi];unfold iZ;refine ⟨by rw [List.set_set];rfl,h.withM (d:=Gb c g.m_.Old[i].Age) h1 h2 ?_ ?_ ?_ (Hr h.nd _ _) ?_⟩
   ·rw [List.length_set];omega
   ·intro d hd;rcases List.mem_append.1 hd with hd|hd
    ·exact .inl (List.mem_append_left _ hd)
    rcases List.mem_or_eq_of_mem_set hd with hd|hd
    ·exact .inl (List.mem_append_right _ hd)
    exact .inr hd
   ·have:=yl (fun c:DCell=>c.More.length) (Gb c g.m_.Old[i].Age) g.m_.Old (i:Int).toNat;unfold mS;omega
   intro x hx;rw [List.length_set];rcases (Gj h.nd _ _ x).1 hx with ⟨-,hx|rfl⟩|⟨-,hx, -⟩
   ·exact h.keys x hx
   ·exact ⟨i,hi,rfl⟩
   exact h.keys x hx
theorem ER {N k:Nat}{g:DHeap}(h:HInv k g)(hk:k<40){v:DValue}(hv:in64 v.N):
  gH N g v=some ((g.roots_.length:Int),⟨g.m_,g.roots_++ [v],g.pending_,g.set_⟩)∧HInv (k+1) ⟨g.m_,g.roots_++ [v],g.pending_,g.set_⟩:=by
 have hs:=(h.small (by omega)).roots;rw [List.length_append] at hs
 have e:((g.roots_++ [v]).length:Int) - 1=(g.roots_.length:Int):=by simp
 unfold gH aU;rw [bs,cf,rF (by simp only [List.length_cons,List.length_nil];omega),e,r64 (by omega) (by omega)];refine ⟨rfl,h.withR ?_ fun w hw=> ?_⟩
 ·simp only [List.length_append,List.length_cons,List.length_nil];omega
 simp only [List.mem_append,List.mem_cons,List.not_mem_nil,or_false] at hw;rcases hw with (hw|rfl)|hw
 ·exact h.r64 w (List.mem_append_left _ hw)
 ·exact hv
 exact h.r64 w (List.mem_append_right _ hw)
def te (g:DHeap)(i:Int):Bool:=decide (0≤i)&&decide (i<(g.roots_.length:Int))
theorem Ak {g:DHeap}{i:Int}(h:te g i=true): ∃j:Nat,i=j∧j<g.roots_.length:=by
 unfold te at h;rw [Bool.and_eq_true,decide_eq_true_eq,decide_eq_true_eq] at h;exact ⟨i.toNat,by omega,by omega⟩
theorem F6 (N:Nat)(g:DHeap)(i:Int):fo N g i=some (bif te g i then g.roots_.getD i.toNat vZ else vZ):=by
 unfold fo aU
 cases hb:te g i with
 |true=>
  obtain ⟨j,rfl,hj⟩:=Ak hb;rw [bs,cf,bs,decide_eq_false (p:=(j:Int)<0) (by omega),cf,bs,decide_eq_false (p:=(g.roots_.length:Int)≤(j:Int)) (by omega),cf,bn hj,bs,ct,Int.toNat_natCast,List.getD_eq_getElem?_getD,List.getElem?_eq_getElem hj];rfl
 |false=>
  unfold te at hb;rw [bs,cf,bs,cf];by_cases h1:i<0
  ·rw [cI h1,ct,bs];rfl
  rw [decide_eq_false h1,cf,bs];rw [decide_eq_true (p:=(0:Int)≤i) (by omega),Bool.true_and,decide_eq_false_iff_not] at hb;rw [decide_eq_true (p:=(g.roots_.length:Int)≤i) (by omega)];rfl
theorem yq {N k:Nat}{g:DHeap}(h:HInv k g){i:Int}{v:DValue}(hv:in64 v.N):
  gy N g i v=some (bif te g i then (true,⟨g.m_,g.roots_.set i.toNat v,g.pending_,g.set_⟩) else (false,g))∧HInv (k+1) (bif te g i then ⟨g.m_,g.roots_.set i.toNat v,g.pending_,g.set_⟩ else g):=by
 unfold gy aU
 cases hb:te g i with
 | true=>
  obtain ⟨j,rfl,hj⟩:=Ak hb;rw [bs,cf,bs,decide_eq_false (p:=(j:Int)<0) (by omega),cf,bs,decide_eq_false (p:=(g.roots_.length:Int)≤(j:Int)) (by omega),cf,bn hj,bs,ct,ct];refine ⟨rfl,h.withR ?_ fun w hw=> ?_⟩
  ·simp only [List.length_append,List.length_set];omega
  rcases List.mem_append.1 hw with hw|hw
  ·rcases List.mem_or_eq_of_mem_set hw with hw|rfl
   ·exact h.r64 w (List.mem_append_left _ hw)
   exact hv
  exact h.r64 w (List.mem_append_right _ hw)
 |false=>
  refine ⟨?_,h.up⟩;unfold te at hb;rw [bs,cf,bs,cf];by_cases h1:i<0
  ·rw [cI h1,ct,bs];rfl
  rw [decide_eq_false h1,cf,bs];rw [decide_eq_true (p:=(0:Int)≤i) (by omega),Bool.true_and,decide_eq_false_iff_not] at hb;rw [decide_eq_true (p:=(g.roots_.length:Int)≤i) (by omega)];rfl
theorem Jb {N k:Nat}{g:DHeap}(h:HInv k g)(i:Int): ∃r,iC N g i=some r∧HInv (k+1) r:=by
 unfold iC aU;rw [bs,nf,ct,bs];by_cases h1:max i 0<(g.roots_.length:Int)
 ·rw [cI h1,ct,iS ⟨by omega,by omega⟩];refine ⟨_,rfl,h.withR ?_ fun w hw=> ?_⟩
  ·simp only [List.length_append,List.length_take];omega
  rcases List.mem_append.1 hw with hw|hw
  ·exact h.r64 w (List.mem_append_left _ (List.mem_of_mem_take hw))
  exact h.r64 w (List.mem_append_right _ hw)
 rw [decide_eq_false h1,cf];exact ⟨_,rfl,h.up⟩
theorem IW {N k:Nat}{g:DHeap}(h:HInv k g): ∃r,jP N g=some r∧HInv (k+1) r.2:=by
 refine ⟨(g.pending_,⟨g.m_,g.roots_,[],g.set_⟩),rfl,h.withR ?_ fun w hw=> ?_⟩
 ·simp only [List.length_append,List.length_nil];omega
 rw [List.append_nil] at hw;exact h.r64 w (List.mem_append_left _ hw)
theorem HJ {N k:Nat}{g:DHeap}(h:HInv k g){a:Int}(ha:in64 a):jo N g a=some (bif bK g.m_ a then (ce g.m_ a,true) else (⟨0,0,0,0,[],[]⟩,false)):=by
 unfold jo;rw [AE h N ha,bs]
 cases hh:bK g.m_ a with
 |false=>rfl
 | true=>
  have hc:=h.cells _ (qr hh);have hi64:in64 a:=ha;unfold f0;rcases mV hh with ⟨i,hi,rfl⟩|⟨i,hi,rfl⟩
  ·have e1:(2*(i:Int)+1).tmod 2=1:=by rw [ng (by omega)];omega
   have e2:(2*(i:Int)+1).tdiv 2=i:=by rw [Int.tdiv_eq_ediv_of_nonneg (by omega)];omega
   rw [FJ g.m_ i hi] at hc⊢;unfold in64 at hi64;rw [nt,cf,e1,e2,decide_eq_true (p:=(1:Int)=1) rfl,ct,r64 (by omega) (by omega),bn hi,bs,bs]
   dsimp only [Af]
   rw [bn hi,bs,kz N _ (by omega),bs];rfl
  have e1:(2*(i:Int)+2).tmod 2=0:=by rw [ng (by omega)];omega
  have e2:(2*(i:Int)+2).tdiv 2=(i:Int)+1:=by rw [Int.tdiv_eq_ediv_of_nonneg (by omega)];omega
  have e5:(i:Int)+1 - 1=i:=by omega
  rw [tC g.m_ i hi] at hc⊢;unfold in64 at hi64;rw [nt,cf,e1,e2,e5,decide_eq_false (p:=(0:Int)=1) (by omega),cf,r64 (by omega) (by omega),r64 (by omega) (by omega),bn hi,bs,bs]
  dsimp only [Af]
  rw [bn hi,bs,kz N _ (by omega),bs];rfl
end Go.Proofs.YtmimkglhbmcokaaGreat
namespace Go.Proofs.YtmimkglhbmcokaaGreat
open Go.RowKit
theorem EY (l:List Int)(cb:DValue): ∀xs:List DValue,4*(fx l cb xs).length+3*(dt l xs).length≤3*xs.length
 | []=>by simp [dt,fx]
 | [_]=>by simp [dt,fx]
 | [_,_]=>by simp [dt,fx]
 | [_,_,_]=>by simp [dt,fx]
 |t::h::k::s::r=>by
  have:=EY l cb r;unfold dt fx;cases decide (t.N∈l)<;>simp<;>omega
theorem H5 (N:Nat)(l:List Int)(c:DCell):4*(ed l c).length+3*(ga N l c).More.length≤3*c.More.length:=by
 have h1:=(lL N l c).2;by_cases h10:c.Kind=10
 ·have:=EY l (c.More.headD iN) (c.More.drop 1);unfold ga ed;rw [decide_eq_true h10,decide_eq_false (p:=c.Kind=8) (by omega)];show 4*(fx l (c.More.headD iN) (c.More.drop 1)).length+3*(c.More.take 1++dt l (c.More.drop 1)).length≤_;rw [List.length_append,List.length_take];rw [List.length_drop] at this;omega
 have e:ed l c=[]:=by unfold ed;rw [decide_eq_false h10];rfl
 rw [e] at h1⊢;simp only [List.length_nil] at h1⊢;omega
theorem uv {α:Type}(n:Nat)(g:α→Nat): ∀l:List α,cv (fun x=>n*g x) l=n*cv g l
 | []=>by simp [cv]
 |a::l=>by simp only [cv];rw [uv n g l,Nat.mul_add]
theorem KE (m:DMemory):cv (fun a=>(ce m a).More.length) (vN m)=mS m.Young+mS m.Old:=by
 have h3:=jT (fun c:DCell=>c.More.length) (ce m) (vN m);rw [vM,nj] at h3;exact h3.symm
theorem Kh {N:Nat}{m:DMemory}{lv f:List Int}(hn:f.Nodup)(hf: ∀a∈f,bK m a=true):4*(f.flatMap fun a=>ed lv (ce m a)).length+3*cv (fun a=>(ga N lv (ce m a)).More.length) f≤3*(mS m.Young+mS m.Old):=by
 rw [rY]
 have h1:cv (fun a=>4*(ed lv (ce m a)).length+3*(ga N lv (ce m a)).More.length) f≤cv (fun a=>3*(ce m a).More.length) f:=uw fun a _=>H5 N lv (ce m a)
 rw [ym,uv,uv,uv] at h1
 have h2:=lR (fun a=>(ce m a).More.length) hn fun a ha=>pF (hf a ha)
 rw [KE] at h2;omega
theorem Kv {m:DMemory}(hw:W64 m){lv:List Int}{a:Int}{v:DValue}(h:v∈ed lv (ce m a)):in64 v.N:=by
 unfold ed at h
 cases h10:decide ((ce m a).Kind=10) with
 |false=>rw [h10] at h;cases h
 | true=>
  rw [h10] at h;rcases yi h with rfl|h
  ·cases hm:(ce m a).More with
   |nil=>show in64 0;unfold in64;omega
   |cons x r=>exact hw.at_ a x (List.mem_append_right _ (by rw [hm];simp))
  exact hw.at_ a v (List.mem_append_right _ (List.mem_of_mem_drop h))
theorem sa (N:Nat)(a b:List DValue)(ha:a.length≤100000)(hb:b.length≤100000):ca N a b=some (a++b):=by
 unfold ca ib iK eX gF;rw [r64 (by omega) (by omega),cG (a:=0+(a.length:Int)) (by omega),cf,r64 (by omega) (by omega),cG (a:=0+(a.length:Int)+(b.length:Int)) (by omega),cf,r64 (by omega) (by omega),r64 (by omega) (by omega),cf];by_cases h:0<a.length+b.length
 ·rw [cI (by omega),ct,iS ⟨by omega,by omega⟩,bs,rF (by simp;omega),rF (by simp;omega)];rfl
 rw [cG (by omega),cf,bs,rF (by simp;omega),rF (by simp;omega)];rfl
theorem Ek (N:Nat)(a:List DValue)(ha:a.length≤100000):cE N a=some a:=by
 unfold cE;rw [rF (by simp;omega)];rfl
theorem xg (N:Nat)(l:List DCell)(hl:l.length<N)(h1:l.length≤600)(hc: ∀c∈l,c.Slots.length≤600∧c.More.length≤600):iB N l=some l:=by
 apply Sat.eq;unfold iB;refine cy (fun k i (s:List DCell)=>heap_copies_k_l4 N l k s (i:Int)) l.length (fun i s=>s=l.take i) _ ?_ ?_ N 0 [] (by omega) (by omega) (by simp)
 ·rintro k i s hi rfl go;show Sat (heap_copies_k_l4 N l (k+1) _ (i:Int)) _;rw [heap_copies_k_l4.eq_2,cI (by omega),ct,bn hi,bs,kz N _ (hc _ (List.getElem_mem hi)),bs,rF (by simp;omega),r64 (by omega) (by omega)];exact go _ (bf hi).symm
 rintro k s rfl;show Sat (heap_copies_k_l4 N l (k+1) _ (l.length:Int)) _;rw [heap_copies_k_l4.eq_2,cG (by omega),cf,List.take_length];exact aS rfl
theorem AD {N:Nat}(hN:5000<N){g:DHeap}{roots:List DValue}(h:Small g.m_ roots):fC N g=some (g.m_,g):=by
 have h1:=h.young;have h2:=h.old;unfold fC aU;rw [bs,cf,xg N _ (by omega) h1 (fun c hc=>h.cells c (List.mem_append_left _ hc)),bs,xg N _ (by omega) h2 (fun c hc=>h.cells c (List.mem_append_right _ hc)),bs]
section
variable {k:Nat} {g:DHeap} (h:HInv k g)
include h
theorem HInv.klen:g.set_.at_.length≤g.m_.Old.length:=by
 have h1:=lR (fun _=>1) h.nd (L:=bw g.m_.Old.length) fun x hx=>fN.2 (h.keys x hx)
 rw [mQ,mQ,List.length_map] at h1;unfold bw at h1;simp only [List.length_map,List.length_range] at h1;omega
theorem HInv.keysH {x:Int}(hx:x∈iY g.set_.at_):bK g.m_ x=true:=by
 obtain ⟨i,hi,rfl⟩:=h.keys x ((mR _ x).1 hx);rw [wz,decide_eq_true hi]
theorem HInv.kslen:(iY g.set_.at_).length≤g.m_.Old.length:=by
 have h1:=h.klen;have e:(iY g.set_.at_).length=(g.set_.at_.map Prod.fst).length:=po _;rw [e,List.length_map];omega
theorem Ea (N:Nat)(hk:k≤40):eI N g.set_=some (iY g.set_.at_):=by
 have h1:=h.klen;have h2:=(h.small hk).old;unfold eI rN mj;rw [bs,iS ⟨fun x hx=>xL (h.small hk) (by obtain ⟨i,hi,rfl⟩:=h.keys x hx;rw [wz,decide_eq_true hi]),h.nd,by show bY g.set_.at_.length;unfold bY;omega⟩,bs]
end
theorem C2 {m:DMemory}{kv:List (Int×Bool)}(h:kv.map Prod.fst=rT m):(kv.map Prod.fst).Nodup∧ ∀x∈kv.map Prod.fst, ∃i:Nat,i<m.Old.length∧x=2*(i:Int)+2:=by
 rw [h];refine ⟨(HH m).imp fun hab e=>by omega,fun x hx=> ?_⟩;obtain ⟨i,hi, -,e⟩:=AC.1 hx;exact ⟨i,hi,e⟩
theorem BE {N:Nat}(f:DValue→DValue)(r p gone:List DValue){R:Type}(F:List DValue→List DValue→Option R)(h1:r.length+p.length≤600)(h2:gone.length≤600):
  bA ((0:Int)≤(r.length:Int)∧0≤(r.length:Int).toNat∧(r.length:Int).toNat≤((r++p).map f).length) (bA ((0:Int)≤(r.length:Int)∧(r.length:Int).toNat≤((r++p).map f).length∧((r++p).map f).length≤((r++p).map f).length) ((cE N ((((r++p).map f).drop 0).take ((r.length:Int).toNat - 0))).bind fun y43=>(ca N ((((r++p).map f).drop ((r.length:Int).toNat)).take (((r++p).map f).length - (r.length:Int).toNat)) gone).bind fun y46=>F y43 y46))=F (r.map f) (p.map f++gone):=by
 have e1:(((r++p).map f).drop 0).take ((r.length:Int).toNat - 0)=r.map f:=by
  rw [List.drop_zero,Nat.sub_zero,Int.toNat_natCast,List.map_append,List.take_left' (by simp)]
 have e2:(((r++p).map f).drop ((r.length:Int).toNat)).take (((r++p).map f).length - (r.length:Int).toNat)=p.map f:=by
  rw [Int.toNat_natCast,List.map_append,List.drop_left' (by simp)];exact List.take_of_length_le (by simp)
 have hl:((r++p).map f).length=r.length+p.length:=by simp
 rw [iS ⟨by omega,by omega,by omega⟩,iS ⟨by omega,by omega,by omega⟩,e1,e2,Ek N _ (by simp;omega),bs,sa N _ _ (by simp;omega) (by omega),bs]
section
variable {N:Nat} {m:DMemory} {roots:List DValue} {kept met:List Int} (h:MinCtx N m roots kept met)
include h
theorem MinCtx.mid4:4*(qN m met).length+3*(mS (lY N m met).Young+mS (lY N m met).Old)≤3*(mS m.Young+mS m.Old):=by
 have h1:=Kh (N:=N) (lv:=gz m met) h.nd fun a ha=>h.f1has ha
 have h2:=h.midSum fun c=>c.More.length
 have h3:cv (fun a=>(oV N m met a).More.length) (gz m met)=cv (fun a=>(ga N (gz m met) (ce m a)).More.length) (gz m met):=ni fun a _=>by
  show ((ga N (gz m met) (ce m a)).More.map _).length=_;rw [List.length_map]
 unfold mS qN at*;omega
theorem MinCtx.gone64: ∀v∈(qN m met).map (bM (fz m met) met),in64 v.N:=fun v hv=>by
 obtain ⟨w,hw,rfl⟩:=List.mem_map.1 hv;rw [←vb];obtain ⟨a, -,hw⟩:=List.mem_flatMap.1 hw;exact h.mov64 (Kv h.w64 hw)
end
section
variable {N:Nat} {m:DMemory} {roots:List DValue} {live f:List Int} (h:CollCtx N m roots live f)
include h
theorem CollCtx.next4:4*(gX m live f).length+3*(mS (cq N m live f).Young+mS (cq N m live f).Old)≤3*(mS m.Young+mS m.Old):=by
 have h1:=Kh (N:=N) (lv:=live) h.lv.nd fun a ha=>h.lv.fhas ha
 have h3:mS (cq N m live f).Old=cv (fun a=>(ga N live (ce m a)).More.length) f:=by
  show cv (fun c:DCell=>c.More.length) (f.map fun a=>fk (fj f) f (ga N live (ce m a)))=_;rw [jT]
  exact ni fun a _=>by show ((ga N live (ce m a)).More.map _).length=_;rw [List.length_map]
 have h4:mS (cq N m live f).Young=0:=rfl;unfold gX at*;omega
theorem CollCtx.nextCnt:(cq N m live f).Old.length≤m.Young.length+m.Old.length:=by
 have h1:=lR (fun _=>1) h.lv.nd fun a ha=>pF (h.lv.fhas ha)
 rw [mQ,mQ] at h1;unfold vN at h1;unfold cq;simp only [List.length_append,List.length_map,List.length_range] at h1⊢;omega
theorem CollCtx.nextCell {c:DCell}(hc:c∈(cq N m live f).Young++(cq N m live f).Old): ∃a∈f,c.Slots.length=(ce m a).Slots.length∧c.More.length≤(ce m a).More.length:=by
 have _:=h
 have hc':c∈f.map fun a=>fk (fj f) f (ga N live (ce m a)):=hc
 obtain ⟨a,ha,rfl⟩:=List.mem_map.1 hc';have:=lL N live (ce m a);refine ⟨a,ha,?_,?_⟩
 ·show ((ga N live (ce m a)).Slots.map _).length=_;rw [List.length_map];exact this.1
 show ((ga N live (ce m a)).More.map _).length≤_;rw [List.length_map];omega
end
theorem KH {N k:Nat}(hN:5000<N){g:DHeap}(h:HInv k g)(hk:k≤40):
  (CZ N g.m_ (g.roots_++g.pending_) (iY g.set_.at_)=false∧dw N g=some (1,g))∨
  ∃met kv,MinCtx N g.m_ (g.roots_++g.pending_) (iY g.set_.at_) met∧kv.map Prod.fst=rT (lY N g.m_ met)∧
   dw N g=some (0,⟨lY N g.m_ met,g.roots_.map (bM (fz g.m_ met) met),g.pending_.map (bM (fz g.m_ met) met)++(qN g.m_ met).map (bM (fz g.m_ met) met),⟨kv⟩⟩)∧
   HInv k ⟨lY N g.m_ met,g.roots_.map (bM (fz g.m_ met) met),g.pending_.map (bM (fz g.m_ met) met)++(qN g.m_ met).map (bM (fz g.m_ met) met),⟨kv⟩⟩:=by
 have hs:=h.small hk;have hkl:=h.kslen;have ho:=hs.old;have hrl:=hs.roots;have hsum:=h.sum;have hcnt:=h.cnt;rw [List.length_append] at hrl hsum;have hm:=KA N g.m_ (g.roots_++g.pending_) (iY g.set_.at_)
 have head:dw N g=((dr N g.m_ (g.roots_++g.pending_) (iY g.set_.at_)).bind fun y13=>Af y13 (fun y13_0=>some (.inl (y13_0.1,y13_0.2.1,y13_0.2.2))) (fun y13_1=>some (.inr (y13_1.1,y13_1.2.1,y13_1.2.2)))).bind fun y26=>(Af y26 (fun y26_0:DMemory×(List DValue)×(List DValue)=>eC N g y26_0.1.Young y26_0.1.Old y26_0.2.1 y26_0.2.2) (fun y26_1:DMemory×(List DValue)×(List DValue)=>du N g y26_1.1.Young y26_1.1.Old y26_1.2.1 y26_1.2.2)).bind fun y9=>some (y9.1,y9.2):=by
  unfold dw eY jm aU;rw [bs,cf,sa N _ _ (by omega) (by omega),bs,Ea h N hk,bs,Option.bind_assoc]
 cases hmay:CZ N g.m_ (g.roots_++g.pending_) (iY g.set_.at_) with
 | false=>
  have e1:eh N g.m_ (g.roots_++g.pending_) (iY g.set_.at_)=some (⟨[],[]⟩,[],[],1):=by
   unfold eh;rw [AA N hN hs h.w64 h.r64 _ (by omega) (fun x hx=>xL hs (h.keysH hx)),hmay,bs,nf,ct]
  rw [e1] at hm;refine .inl ⟨rfl,?_⟩;rw [head]
  cases hc:dr N g.m_ (g.roots_++g.pending_) (iY g.set_.at_) with
  |none=>rw [hc] at hm;cases hm
  | some y=>
   rw [hc] at hm
   cases y with
   |inl y=>rfl
   |inr y=>
    have:=Option.some.inj hm;have:=congrArg (fun z:DMemory×(List DValue)×(List DValue)×Int=>z.2.2.2) this;exact absurd this (by show¬(1:Int)=0;omega)
 | true=>
  obtain ⟨met,c⟩:=I6 hN hs h.w64 h.r64 (h.tot hk) (kept:=iY g.set_.at_) (by omega) hmay;have h4:=c.mid4;have hmc:=c.midCnt;obtain ⟨kv,k1,k2⟩:=yw N hN (m:=lY N g.m_ met) (c.midS (by omega) [] (by simp));have hg:((qN g.m_ met).map (bM (fz g.m_ met) met)).length=(qN g.m_ met).length:=List.length_map _;refine .inr ⟨met,kv,c,k2,?_,?_⟩
  ·rw [Hx c] at hm;rw [head]
   have ek:dr N g.m_ (g.roots_++g.pending_) (iY g.set_.at_)=some (.inr (lY N g.m_ met,(g.roots_++g.pending_).map (bM (fz g.m_ met) met),(qN g.m_ met).map (bM (fz g.m_ met) met))):=by
    cases hc:dr N g.m_ (g.roots_++g.pending_) (iY g.set_.at_) with
    |none=>rw [hc] at hm;cases hm
    | some y=>
     rw [hc] at hm;have e:=Option.some.inj hm
     cases y with
     |inl y=>
      have:=congrArg (fun z:DMemory×(List DValue)×(List DValue)×Int=>z.2.2.2) e;exact absurd this (by show¬(0:Int)=1;omega)
     |inr y=>
      obtain ⟨y1,y2,y3⟩:=y;have e':=e;simp only [LN,Prod.mk.injEq,and_true] at e';obtain ⟨rfl,rfl,rfl⟩:=e';rfl
   rw [ek,bs]
   dsimp only [Af]
   rw [bs]
   dsimp only
   unfold du eB;rw [BE (N:=N) (bM (fz g.m_ met) met) g.roots_ g.pending_ _ _ (by omega) (by omega)];have k1':cc N g.set_ (⟨(lY N g.m_ met).Young,(lY N g.m_ met).Old⟩:DMemory)=some ⟨kv⟩:=k1;rw [k1',bs,bs]
  obtain ⟨n1,n2⟩:=C2 k2;refine ⟨by show (lY N g.m_ met).Young.length+(lY N g.m_ met).Old.length≤k;omega,fun d hd=> ?_,?_,c.midW,fun v hv=> ?_,n1,n2⟩
  ·obtain ⟨a,ha,rfl⟩:=c.midMem hd;have h1:=c.cellLe ha;have h2:=h.cells _ (qr (c.f1has ha));omega
  ·show 4*(g.roots_.map (bM (fz g.m_ met) met)++(g.pending_.map (bM (fz g.m_ met) met)++(qN g.m_ met).map (bM (fz g.m_ met) met))).length+3*(mS (lY N g.m_ met).Young+mS (lY N g.m_ met).Old)≤60*k;simp only [List.length_append,List.length_map];omega
  have hv':v∈(g.roots_++g.pending_).map (bM (fz g.m_ met) met)∨v∈(qN g.m_ met).map (bM (fz g.m_ met) met):=by
   rw [←List.mem_append,List.map_append,List.append_assoc];exact hv
  rcases hv' with hv'|hv'
  ·rw [c.nowE] at hv';exact c.now64 v hv'
  exact c.gone64 v hv'
theorem D9 {N k:Nat}(hN:5000<N){g:DHeap}(h:HInv k g)(hk:k≤40):
  (jS N g.m_ (g.roots_++g.pending_)≠0∧cW N g=some (jS N g.m_ (g.roots_++g.pending_),g))∨
  ∃live f kv,CollCtx N g.m_ (g.roots_++g.pending_) live f∧kv.map Prod.fst=rT (cq N g.m_ live f)∧
   cW N g=some (0,⟨cq N g.m_ live f,g.roots_.map (bM (fj f) f),g.pending_.map (bM (fj f) f)++(gX g.m_ live f).map (bM (fj f) f),⟨kv⟩⟩)∧
   HInv k ⟨cq N g.m_ live f,g.roots_.map (bM (fj f) f),g.pending_.map (bM (fj f) f)++(gX g.m_ live f).map (bM (fj f) f),⟨kv⟩⟩:=by
 have hs:=h.small hk;have hrl:=hs.roots;have hsum:=h.sum;have hcnt:=h.cnt;rw [List.length_append] at hrl hsum;obtain ⟨live,f,hl⟩:=EX N hN hs h.w64 h.r64;have hp:=BW N hN hs (h.wtd hk) h.w64 h.r64 hl;have hm:=KD N g.m_ (g.roots_++g.pending_);rw [hp] at hm;unfold H3 at hm
 have head:cW N g=((dZ N g.m_ (g.roots_++g.pending_)).bind fun y11=>Af y11 (fun y11_0=>some (.inl (y11_0.1,y11_0.2.1,y11_0.2.2.1,y11_0.2.2.2))) (fun y11_1=>some (.inr (y11_1.1,y11_1.2.1,y11_1.2.2)))).bind fun y27=>(Af y27 (fun y27_0:DMemory×(List DValue)×(List DValue)×Int=>cK N g y27_0.1.Young y27_0.1.Old y27_0.2.1 y27_0.2.2.1 y27_0.2.2.2) (fun y27_1:DMemory×(List DValue)×(List DValue)=>dv N g y27_1.1.Young y27_1.1.Old y27_1.2.1 y27_1.2.2)).bind fun y9=>some (y9.1,y9.2):=by
  unfold cW eZ jn aU;rw [bs,cf,sa N _ _ (by omega) (by omega),bs,Option.bind_assoc]
 by_cases h0: ¬jS N g.m_ (g.roots_++g.pending_)=0
 ·rw [fa h0,cond_false] at hm;refine .inl ⟨h0,?_⟩;rw [head]
  cases hc:dZ N g.m_ (g.roots_++g.pending_) with
  |none=>rw [hc] at hm;cases hm
  | some y=>
   rw [hc] at hm;have e:=congrArg (fun z:DMemory×(List DValue)×(List DValue)×Int=>z.2.2.2) (Option.some.inj hm)
   cases y with
   |inl y=>
    obtain ⟨y1,y2,y3,y4⟩:=y;have e':jS N g.m_ (g.roots_++g.pending_)=y4:=e;rw [bs]
    dsimp only [Af]
    rw [bs]
    dsimp only
    unfold cK;rw [←e',fa h0,nf,ct,bs]
   |inr y=>exact absurd e h0
 replace h0:jS N g.m_ (g.roots_++g.pending_)=0:=by omega
 rw [mw h0,cond_true] at hm;have c:=KP hN hs (h.wtd hk) h.w64 h.r64 hl h0;have h4:=c.next4;have hnc:=c.nextCnt;have h0n:(cq N g.m_ live f).Young.length=0:=rfl;obtain ⟨kv,k1,k2⟩:=yw N hN (m:=cq N g.m_ live f) (c.nextS [] (by simp));have k1':cc N g.set_ (⟨(cq N g.m_ live f).Young,(cq N g.m_ live f).Old⟩:DMemory)=some ⟨kv⟩:=k1;have hg:((gX g.m_ live f).map (bM (fj f) f)).length=(gX g.m_ live f).length:=List.length_map _;refine .inr ⟨live,f,kv,c,k2,?_,?_⟩
 ·rw [head]
  cases hc:dZ N g.m_ (g.roots_++g.pending_) with
  |none=>rw [hc] at hm;cases hm
  | some y=>
   rw [hc] at hm;have e:=Option.some.inj hm
   cases y with
   |inl y=>
    obtain ⟨y1,y2,y3,y4⟩:=y;simp only [LP,Prod.mk.injEq] at e;obtain ⟨rfl,rfl,rfl,rfl⟩:=e;rw [bs]
    dsimp only [Af]
    rw [bs]
    dsimp only
    unfold cK eE;rw [decide_eq_true (p:=(0:Int)=0) rfl,nt,cf];show Option.bind _ _=_;unfold xh
    dsimp only
    rw [BE (N:=N) (bM (fj f) f) g.roots_ g.pending_ _ _ (by omega) (by unfold gX at hg;rw [hg];unfold gX at h4;omega)];have k2':cc N g.set_ (⟨[],f.map fun a=>fk (fj f) f (ga N live (ce g.m_ a))⟩:DMemory)=some ⟨kv⟩:=k1;rw [k2',bs,bs];rfl
   |inr y=>
    obtain ⟨y1,y2,y3⟩:=y;simp only [LP,Prod.mk.injEq,and_true] at e;obtain ⟨rfl,rfl,rfl⟩:=e;rw [bs]
    dsimp only [Af]
    rw [bs]
    dsimp only
    unfold dv eD;unfold xh
    dsimp only
    rw [BE (N:=N) (bM (fj f) f) g.roots_ g.pending_ _ _ (by omega) (by unfold gX at hg;rw [hg];unfold gX at h4;omega)];have k2':cc N g.set_ (⟨[],f.map fun a=>fk (fj f) f (ga N live (ce g.m_ a))⟩:DMemory)=some ⟨kv⟩:=k1;rw [k2',bs,bs];rfl
 obtain ⟨n1,n2⟩:=C2 k2;refine ⟨by show (cq N g.m_ live f).Young.length+(cq N g.m_ live f).Old.length≤k;omega,fun d hd=> ?_,?_,c.nextW,fun v hv=> ?_,n1,n2⟩
 ·obtain ⟨a,ha,h1,h1'⟩:=c.nextCell hd;have h2:=h.cells _ (qr (c.lv.fhas ha));omega
 ·show 4*(g.roots_.map (bM (fj f) f)++(g.pending_.map (bM (fj f) f)++(gX g.m_ live f).map (bM (fj f) f))).length+3*(mS (cq N g.m_ live f).Young+mS (cq N g.m_ live f).Old)≤60*k;simp only [List.length_append,List.length_map];omega
 have hv':v∈(g.roots_++g.pending_).map (bM (fj f) f)∨v∈(gX g.m_ live f).map (bM (fj f) f):=by
  rw [←List.mem_append,List.map_append,List.append_assoc];exact hv
 rcases hv' with hv'|hv'
 ·exact c.now64 v hv'
 exact c.gone64 v hv'
end Go.Proofs.YtmimkglhbmcokaaGreat
namespace Go.Proofs.YtmimkglhbmcokaaGreat
open Go.RowKit
def LY (x:DOp):Prop:=in64 x.N∧in64 x.V.N∧ ∀v∈x.C.Slots++x.C.More,in64 v.N
def Lg (x:DOp):Bool:=decide (x.C.Slots.length≤20)&&decide (x.C.More.length≤20)
theorem IZ {l:List DOp}(h:Kr (fun z=>Bk z) l): ∀x∈l,LY x:=fun x hx=>by
 obtain ⟨-,h1,⟨-, -, -, -,s,t⟩,h3⟩:=h.2 x hx;refine ⟨h1,h3.2.1,fun v hv=> ?_⟩;rcases List.mem_append.1 hv with hv|hv
 ·exact (s.2 v hv).2.1
 exact (t.2 v hv).2.1
theorem LB {N k:Nat}(hN:5000<N){g:DHeap}(h:HInv k g)(hk:k<40){x:DOp}(hx:LY x)(hs:Lg x=true): ∃t g',uo N g x=some (t,g')∧HInv (k+1) g':=by
 obtain ⟨w1,w2,w3⟩:=hx;unfold Lg at hs;rw [Bool.and_eq_true,decide_eq_true_eq,decide_eq_true_eq] at hs;unfold uo eN
 cases decide (x.Kind=0) with
 |true=>
  rw [ct,(EW hN h hk hs w3).1,bs];have:=(EW hN h hk hs w3).2
  revert this
  cases cX x.C<;>exact fun this=>⟨_,_,rfl,this⟩
 |false=>
 rw [cf]
 cases decide (x.Kind=1) with
 |true=>
  rw [ct,(Hd hN h hk w1 hs w3).1,bs];have:=(Hd hN h hk w1 hs w3).2
  revert this
  cases bK g.m_ x.N<;>cases cX x.C<;>exact fun this=>⟨_,_,rfl,this⟩
 |false=>
 rw [cf]
 cases decide (x.Kind=2) with
 |true=>
  rw [ct,(ER h hk w2).1,bs];exact ⟨_,_,rfl,(ER (N:=N) h hk w2).2⟩
 |false=>
 rw [cf]
 cases decide (x.Kind=3) with
 |true=>
  rw [ct,(yq (i:=x.N) h w2).1,bs];have:=(yq (N:=N) (i:=x.N) h w2).2
  revert this
  cases te g x.N<;>exact fun this=>⟨_,_,rfl,this⟩
 |false=>
 rw [cf]
 cases decide (x.Kind=4) with
 |true=>
  obtain ⟨r,e,h'⟩:=Jb (N:=N) h x.N;rw [ct,e,bs];exact ⟨_,_,rfl,h'⟩
 |false=>
 rw [cf]
 cases decide (x.Kind=5) with
 |true=>
  rcases KH hN h (by omega) with ⟨-,e⟩|⟨met,kv, -, -,e,h'⟩
  ·rw [ct,e,bs];exact ⟨_,_,rfl,h.up⟩
  rw [ct,e,bs];exact ⟨_,_,rfl,h'.up⟩
 |false=>
 rw [cf]
 cases decide (x.Kind=6) with
 |true=>
  rcases D9 hN h (by omega) with ⟨-,e⟩|⟨live,f,kv, -, -,e,h'⟩
  ·rw [ct,e,bs];exact ⟨_,_,rfl,h.up⟩
  rw [ct,e,bs];exact ⟨_,_,rfl,h'.up⟩
 |false=>
 rw [cf]
 cases decide (x.Kind=7) with
 |true=>
  obtain ⟨r,e,h'⟩:=IW (N:=N) h;rw [ct,e,bs];exact ⟨_,_,rfl,h'⟩
 |false=>
 rw [cf]
 cases decide (x.Kind=8) with
 |true=>
  rw [ct,HJ h w1,bs];exact ⟨_,_,rfl,h.up⟩
 |false=>
  rw [cf,F6,bs];exact ⟨_,_,rfl,h.up⟩
theorem DE (N:Nat)(hN:5000<N)(l:List DOp):ot N l=some (decide (l.length≤40)&&l.all Lg):=by
 unfold ot;by_cases h:l.length≤40
 ·rw [cG (by omega),cf,decide_eq_true h,Bool.true_and];refine zj (fun k i=>w23_small_l4 N l k i) l Lg (fun m i hi=> ?_) (fun m=> ?_) N (by omega)
  ·show w23_small_l4 N l (m+1) (i:Int)=_;rw [w23_small_l4.eq_2,cI (by omega),ct,bn hi,bs,bs];unfold Lg;by_cases h1:l[i].C.Slots.length≤20
   ·rw [cG (by omega),cf,bs,decide_eq_true h1,Bool.true_and];by_cases h2:l[i].C.More.length≤20
    ·rw [cG (by omega),cf,decide_eq_true h2,ct,r64 (by omega) (by omega)]
    rw [cI (by omega),ct,decide_eq_false h2,cf]
   rw [cI (by omega),ct,bs,ct,decide_eq_false h1];rfl
  show w23_small_l4 N l (m+1) (l.length:Int)=_;rw [w23_small_l4.eq_2,cG (by omega),cf];rfl
 rw [cI (by omega),ct,decide_eq_false h];rfl
theorem I3:HInv 0 ⟨⟨[],[]⟩,[],[],⟨[]⟩⟩:=by
 refine ⟨Nat.le_refl _,fun c hc=> ?_,?_,fun c hc=> ?_,fun v hv=> ?_,by simp,fun x hx=> ?_⟩
 ·cases hc
 ·exact Nat.le_refl _
 ·cases hc
 ·cases hv
 cases hx
set_option maxRecDepth 100000 in
theorem Ch:lQ 6000=some true:=by kernel_rfl
theorem GF {k:Nat}{g:DHeap}(h:HInv k g)(hk:k≤40):iP 6000 g.m_.Young g.m_.Old g.roots_ g.pending_ g.set_.at_=some true:=by
 have hN:5000<6000:=by decide
 have eg:(⟨(⟨g.m_.Young,g.m_.Old⟩:DMemory),g.roots_,g.pending_,(⟨g.set_.at_⟩:DSet)⟩:DHeap)=g:=rfl;unfold iP;rw [eg];rcases D9 hN h hk with ⟨h0,e⟩|⟨live,f,kv,c,k2,e,h'⟩
 ·rw [e,bs,fa h0,nf,ct,Ch,bs]
 have hl:(g.roots_++g.pending_).map (bM (fj f) f)++(gX g.m_ live f).map (bM (fj f) f)=g.roots_.map (bM (fj f) f)++(g.pending_.map (bM (fj f) f)++(gX g.m_ live f).map (bM (fj f) f)):=by rw [List.map_append,List.append_assoc]
 have hs':=h'.small hk;have hrl:=hs'.roots;obtain ⟨c3,c4⟩:=c.again (by rw [hl];exact hrl);rw [hl] at c3 c4;have e1:((cq 6000 g.m_ live f).Young.length:Int)=0:=rfl;rw [e,bs,decide_eq_true (p:=(0:Int)=0) rfl,nt,cf,AD hN hs',bs]
 dsimp only
 rw [mw e1,nt,cf];rcases D9 hN h' hk with ⟨h0, -⟩|⟨live2,f2,kv2,c5, -,e5,h5⟩
 ·exact absurd (GN c3) h0
 obtain ⟨-, -, -, -,ef2⟩:=c5.lv.ord;have el:live2=bw f.length:=Option.some.inj (c5.lv.prog.symm.trans c3.lv.prog)
 have ef:f2=bw f.length:=by rw [ef2,el,AF]
 have en:cq 6000 (cq 6000 g.m_ live f) live2 f2=cq 6000 g.m_ live f:=by
  rw [el,ef];exact congrArg Coll.next c4
 have hsm:Small (cq 6000 (cq 6000 g.m_ live f) live2 f2) _:=h5.small hk;rw [e5,bs,decide_eq_true (p:=(0:Int)=0) rfl,nt,cf,AD hN hsm,bs]
 dsimp only
 have ho:(cq 6000 g.m_ live f).Old.length≤600:=hs'.old;rw [en,Jv 6000 _ _ (by omega) (by omega) (by decide) (fun c hc=>by have:=hs'.cells c (List.mem_append_right _ hc);omega),decide_eq_true rfl,bs,ct,Ch];rfl
theorem GE {l:List DOp}(hw: ∀x∈l,LY x):kc 6000 l=some true:=by
 unfold kc qi mJ;rw [bs,bs,DE 6000 (by decide),bs]
 cases hs:decide (l.length≤40)&&l.all Lg with
 |false=>rw [nf,ct,Ch];rfl
 | true=>
  rw [Bool.and_eq_true,decide_eq_true_eq] at hs;rw [nt,cf];apply Sat.eq;refine cy (fun k i (s:DHeap)=>w23_HeapFrees_l19 6000 l k (i:Int) s.m_.Young s.m_.Old s.roots_ s.pending_ s.set_.at_) l.length (fun i s=>HInv i s) _ ?_ ?_ 6000 0 ⟨⟨[],[]⟩,[],[],⟨[]⟩⟩ (by omega) (by omega) I3
  ·rintro k i s hi h go;show Sat (w23_HeapFrees_l19 6000 l (k+1) (i:Int) s.m_.Young s.m_.Old s.roots_ s.pending_ s.set_.at_) _;obtain ⟨t,g',e,h'⟩:=LB (N:=6000) (by decide) h (by omega) (hw _ (List.getElem_mem hi)) (lN hs.2 (List.getElem_mem hi));have eg:(⟨(⟨s.m_.Young,s.m_.Old⟩:DMemory),s.roots_,s.pending_,(⟨s.set_.at_⟩:DSet)⟩:DHeap)=s:=rfl;rw [w23_HeapFrees_l19.eq_2,cI (by omega),ct,bn hi,bs,eg,e,bs,r64 (by omega) (by omega)];exact go g' h'
  rintro k s h;show Sat (w23_HeapFrees_l19 6000 l (k+1) (l.length:Int) s.m_.Young s.m_.Old s.roots_ s.pending_ s.set_.at_) _;rw [w23_HeapFrees_l19.eq_2,cG (by omega),cf,GF h hs.1];exact aS rfl
theorem GD (l:List DOp)(hl:Kr (fun z=>Bk z) l):kc 6000 l=some true:=GE (IZ hl)
end Go.Proofs.YtmimkglhbmcokaaGreat