/- Merged texts: part 9. No conditions of their own. -/
import Derived.Test.YthepenpebkjdfaaGreatG1
import Derived.Test.YthepenpebkjdfaaGreatG8
import Derived.ProofKit
import Derived.Test.YthepenpebkjdfaaGreatG3
namespace Go.Proofs.YthepenpebkjdfaaGreat
section
open Go.RowKit
def Sat {ρ:Type}(m:Option ρ)(R:ρ->Prop):Prop:= ∃r,m=some r/\R r
theorem aA {ρ:Type}{x:ρ}{R:ρ->Prop}(h:R x):Sat (some x) R:=⟨x,rfl,h⟩
theorem MC {ρ:Type}{m:Option ρ}{x:ρ}{R:ρ->Prop}(e:m=some x)(h:R x):Sat m R:=⟨x,e,h⟩
theorem Sat.eq {ρ:Type}{m:Option ρ}{x:ρ}(h:Sat m (· =x)):m=some x:=by obtain ⟨r,h1,rfl⟩:=h;exact h1
theorem Sat.mono {ρ:Type}{m:Option ρ}{R Q:ρ->Prop}(h:Sat m R)(k: ∀x,R x->Q x):Sat m Q:=by obtain ⟨r,h1,h2⟩:=h;exact ⟨r,h1,k _ h2⟩
theorem Sat.bind {ρ σ:Type}{m:Option σ}{f:σ->Option ρ}{P:σ->Prop}{R:ρ->Prop}(h:Sat m P)(k: ∀x,P x->Sat (f x) R):Sat (m.bind f) R:=by obtain ⟨x,rfl,h2⟩:=h;exact k x h2
theorem rA {ρ:Type}{b:Bool}{x y:Option ρ}{R:ρ->Prop}(h1:b=true->Sat x R)(h2:b=false->Sat y R):Sat (bif b then x else y) R:=by cases b with|true=>exact h1 rfl|false=>exact h2 rfl
theorem dy {ρ:Type}{p:Prop}[Decidable p]{x y:Option ρ}{R:ρ->Prop}(h1:p->Sat x R)(h2: ¬p->Sat y R):Sat (bif decide p then x else y) R:=by
 by_cases h:p
 ·rw [Qs h];exact h1 h
 rw [Qt h];exact h2 h
theorem bs {ρ σ:Type}{x:σ}{f:σ->Option ρ}:(some x).bind f=f x:=Eq.trans rfl rfl
theorem ct {ρ:Type}{x y:ρ}:(bif true then x else y)=x:=Eq.trans rfl rfl
theorem cf {ρ:Type}{x y:ρ}:(bif false then x else y)=y:=Eq.trans rfl rfl
theorem nt:(!true)=false:=Eq.trans rfl rfl
theorem nf:(!false)=true:=Eq.trans rfl rfl
theorem bG {a b:Int}(h:a<b):decide (a<b)=true:=Qs h
theorem bH {a b:Int}(h:b<=a):decide (a<b)=false:=Qt U
theorem Kj {a b:Int}(h:a<=b):decide (a<=b)=true:=Qs h
theorem I8 {a b:Int}(h:b<a):decide (a<=b)=false:=Qt U
theorem kB {a b:Int}(h:a=b):decide (a=b)=true:=Qs h
theorem eJ {a b:Int}(h:a≠b):decide (a=b)=false:=Qt h
theorem gL {ρ:Type}{b:Prop}[Decidable b]{m:Option ρ}(h:b):aZ b m=m:=if_pos h
theorem r64 {ρ:Type}{a:Int}{m:Option ρ}(h1: -9000000000000000000<=a)(h2:a<=9000000000000000000):aZ (in64 a) m=m:=if_pos ⟨by omega,by omega⟩
theorem rF {ρ:Type}{n:Nat}{m:Option ρ}(h:n<=1000000):aZ (bi n) m=m:=if_pos (by unfold bi;omega)
theorem Ft {α:Type}{xs:List α}{i:Int}(h0:0<=i)(h1:i.toNat<xs.length):aw xs i=some xs[i.toNat]:=by
 unfold aw;rw [if_neg U,List.getElem?_eq_getElem h1]
theorem aC {α:Type}{xs:List α}{i:Nat}(h1:i<xs.length):aw xs (i:Int)=some xs[i]:=by
 unfold aw;rw [if_neg U,Int.toNat_natCast,List.getElem?_eq_getElem h1]
theorem bA {σ ρ:Type}(L:Nat->Nat->σ->Option ρ)(n:Nat)(Inv:Nat->σ->Prop)(R:ρ->Prop)
  (round: ∀m i s,i<n->Inv i s->(∀s',Inv (i+1) s'->Sat (L m (i+1) s') R)->Sat (L (m+1) i s) R)
  (fin: ∀m s,Inv n s->Sat (L (m+1) n s) R): ∀m i s,n<m+i->i<=n->Inv i s->Sat (L m i s) R
 |0,i,s,h,h2,_=>by omega
 |m+1,i,s,h,h2,hi=>by
  by_cases e:i=n
  ·subst e;exact fin m s hi
  exact round m i s U hi fun s' h'=>bA L n Inv R round fin m (i+1) s' U U h'
theorem ma {σ ρ:Type}(L:Nat->σ->Option ρ)(v:σ->Nat)(Inv:σ->Prop)(R:ρ->Prop)
  (round: ∀m s,Inv s->(∀s',v s'<v s->Inv s'->Sat (L m s') R)->Sat (L (m+1) s) R): ∀m s,v s<m->Inv s->Sat (L m s) R
 |0,_,h,_=>by omega
 |m+1,s,h,hi=>round m s hi fun s' h1 h2=>ma L v Inv R round m s' U h2
theorem aB {α:Type}{l:List α}{i:Nat}(h:i<l.length):l.take (i+1)=l.take i++ [l[i]]:=by
 rw [List.take_add_one,List.getElem?_eq_getElem h];rfl
theorem Im: ∀{a b:List Int},a.Pairwise (· < ·)->b.Pairwise (· < ·)->(∀x,x∈a↔x∈b)->a=b
 | [],[],_,_,_=>rfl
 | [],y::b,_,_,h=>by have:=(h y).2 (by simp);cases this
 |x::a,[],_,_,h=>by have:=(h x).1 (by simp);cases this
 | x::a,y::b,ha,hb,h=>by
  obtain ⟨ha1,ha2⟩:=List.pairwise_cons.1 ha;obtain ⟨hb1,hb2⟩:=List.pairwise_cons.1 hb
  have e:x=y:=by
   rcases List.mem_cons.1 ((h x).1 (by simp)) with e|h1
   ·exact e
   rcases List.mem_cons.1 ((h y).2 (by simp)) with e|h2
   ·exact e.symm
   have:=hb1 x h1;have:=ha1 y h2;omega
  subst e;rw [Im ha2 hb2 fun z=> ?_];constructor
  ·intro hz;rcases List.mem_cons.1 ((h z).1 (by simp [hz])) with e|h1
   ·subst e;exact absurd (ha1 z hz) U
   exact h1
  intro hz;rcases List.mem_cons.1 ((h z).2 (by simp [hz])) with e|h1
  ·subst e;exact absurd (hb1 z hz) U
  exact h1
theorem Hm {α β:Type}[DecidableEq α](a:α)(L:List (α×β)):(∃i b,fp a L 0=some (i,b)/\L[i]? =some (a,b))\/(fp a L 0=none/\a∉L.map (·.1)):=by
 cases h:fp a L 0 with
 | none=>exact .inr ⟨rfl,fun h1=>by
   obtain ⟨p,h2,h3⟩:=List.mem_map.1 h1
   exact (LB a L).1 h p h2 h3⟩
 |some q=>obtain ⟨i,b⟩:=q;exact .inl ⟨i,b,J,(H2 a L 0 i b h).2⟩
theorem yZ {α β:Type}[DecidableEq α](L:List (α×β))(a:α)(b:β):(za L a b).map (·.1)=if a∈L.map (·.1) then L.map (·.1) else L.map (·.1)++ [a]:=by
 unfold za;rcases Hm a L with ⟨i,c,h1,h2⟩|⟨h1,h2⟩
 ·have hm:a∈L.map (·.1):=List.mem_map.2 ⟨_,List.mem_of_getElem? h2,rfl⟩;rw [h1,if_pos hm];show (L.set i (a,b)).map (·.1)=_;rw [List.map_set];apply List.ext_getElem?;intro j;by_cases e:i=j
  ·subst e;have hlt:=(List.getElem?_eq_some_iff.1 h2).1;rw [List.getElem?_set_self (by simpa using hlt),List.getElem?_map,h2];rfl
  rw [List.getElem?_set_ne e]
 rw [h1,if_neg h2];show (L++ [(a,b)]).map (·.1)=_;rw [List.map_append];rfl
theorem K5 {α β:Type}[DecidableEq α](L:List (α×β))(a:α)(b:β)(x:α):x∈(za L a b).map (·.1)↔x=a\/x∈L.map (·.1):=by
 rw [yZ];split
 ·constructor
  ·exact .inr
  rintro (rfl|h)<;>assumption
 rw [List.mem_append,List.mem_singleton];exact Or.comm
theorem vL {α:Type}: ∀{l:List α} {i:Nat} {a:α},l.Nodup->l[i]? =some a-> ∀x,x∈l.eraseIdx i↔x∈l/\x≠a
 | [],_,_,_,h,_=>by simp at h
 |y::l,0,a,hn,h,x=>by
  simp only [List.getElem?_cons_zero,Option.some.injEq] at h;subst h;rw [List.eraseIdx_cons_zero];obtain ⟨h1, -⟩:=List.nodup_cons.1 hn;constructor
  ·intro hx;exact ⟨by simp [hx],fun e=>h1 (e▸hx)⟩
  rintro ⟨hx,hne⟩;rcases List.mem_cons.1 hx with e|hx
  ·exact absurd e hne
  exact hx
 | y::l,i+1,a,hn,h,x=>by
  simp only [List.getElem?_cons_succ] at h;obtain ⟨h1,h2⟩:=List.nodup_cons.1 hn;rw [List.eraseIdx_cons_succ,List.mem_cons,List.mem_cons,vL h2 h x];have ha:a∈l:=List.mem_of_getElem? h;constructor
  ·rintro (rfl|⟨h3,h4⟩)
   ·exact ⟨.inl J,fun e=>h1 (e▸ha)⟩
   exact ⟨.inr h3,h4⟩
  rintro ⟨rfl|h3,h4⟩
  ·exact .inl J
  exact .inr ⟨h3,h4⟩
theorem Ez {α β:Type}[DecidableEq α]{L:List (α×β)}(h:(L.map (·.1)).Nodup)(a:α):(∀x,x∈(AS L a).map (·.1)↔x∈L.map (·.1)/\x≠a)/\((AS L a).map (·.1)).Nodup/\(AS L a).length<=L.length:=by
 unfold AS;rcases Hm a L with ⟨i,c,h1,h2⟩|⟨h1,h2⟩
 ·rw [h1]
  have h3:(L.map (·.1))[i]? =some a:=by rw [List.getElem?_map,h2];rfl
  show (∀x,x∈(L.eraseIdx i).map (·.1)↔_)/\((L.eraseIdx i).map (·.1)).Nodup/\(L.eraseIdx i).length<=_;rw [<-AR];exact ⟨vL h h3,h.sublist (List.eraseIdx_sublist _ _),(List.eraseIdx_sublist _ _).length_le⟩
 rw [h1];exact ⟨fun x=>⟨fun hx=>⟨hx,fun e=>h2 (e▸hx)⟩,fun hx=>hx.1⟩,h,Nat.le_refl _⟩
theorem ja {α:Type}(xs:List α)(i:Nat):aw xs (i:Int)=xs[i]? :=by
 unfold aw;rw [if_neg U];simp
theorem BR {ρ:Type}{b:Prop}[Decidable b]{m:Option ρ}(h:b):aZ b m=m:=if_pos h
def bU (v:Qn):Bool:=decide (v.Kind=7)||decide (v.Kind=9)
def ls (k:Int)(i:Nat):Bool:=!decide (k=8)&&(!decide (k=10)||decide ((i:Int).tmod 2=0))
def pick (f:Nat->Qn->Bool):Nat->List Qn->List Int
 |_,[]=> []
 |i,v::l=>(bif f i v then [v.N] else [])++pick f (i+1) l
theorem la (f:Nat->Qn->Bool)(i:Nat)(v:Qn)(l:List Qn):pick f i (v::l)=(bif f i v then [v.N] else [])++pick f (i+1) l:=rfl
theorem zA (f:Nat->Qn->Bool): ∀(i:Nat) (l:List Qn),(pick f i l).length<=l.length
 |_,[]=>Nat.le_refl _
 |i,v::l=>by
  have:=zA f (i+1) l;unfold pick;cases f i v<;>simp<;>omega
theorem D0: ∀(i:Nat) (l:List Qn),pick (fun _ _=>false) i l=[]
 |_,[]=>rfl
 |i,v::l=>by unfold pick;simp [D0 (i+1) l]
theorem qI (N:Nat)(v:Qn):mG N v=some (bU v):=by
 unfold mG bU;cases decide (v.Kind=7)<;>rfl
theorem oh (N:Nat)(v:Qn):pi N v=some (bU v):=by
 unfold pi bU;cases decide (v.Kind=7)<;>rfl
theorem EG (N:Nat)(a b:Bool)(x:Qn)(p:List Int)(h:p.length<=5000):dn (fun x st=>eK N a x st) (b,x) (none,p)=some (true,(none,p++(bif (b==a)&&bU x then [x.N] else []))):=by
 unfold dn eK;simp only [qI,Option.bind_some];cases b==a
 ·simp
 cases bU x
 ·simp
 have:bi (p.length+ [x.N].length):=by unfold bi;simp only [List.length_cons,List.length_nil];omega
 simp only [cond_true,Option.bind_some,Bool.and_self];rw [BR this];rfl
theorem Iq (N:Nat)(a:Bool)(c:Ql)(hc:c.More.length<=1000)(K:Nat)(hK:K<=1000): ∀(m i:Nat) (p:List Int),c.More.length<m+i->i<=c.More.length->p.length<=K+i->kS N (dn (fun x st=>eK N a x st)) c m (i:Int) (none,p)=some (none,p++pick (fun i v=>(ls c.Kind i==a)&&bU v) i (c.More.drop i))
 |0,i,p,h,h2,_=>by omega
 | m+1,i,p,h,h2,h3=>by
  rw [kS.eq_2];by_cases hi:i<c.More.length
  ·rw [show (decide ((i:Int)<(c.More.length:Int)))=true from Qs U,ja,List.getElem?_eq_getElem hi,List.drop_eq_getElem_cons hi];simp only [cond_true,Option.bind_some]
   have hs:(bif !decide (c.Kind=8) then ((bif !decide (c.Kind=10) then (some true) else (some (decide ((i:Int).tmod 2=0)))).bind fun b22=>some b22) else (some false))=some (ls c.Kind i):=by
    unfold ls;cases decide (c.Kind=8)<;>cases decide (c.Kind=10)<;>rfl
   rw [hs];simp only [Option.bind_some];rw [EG N a _ _ _ U];rw [Option.bind_some]
   dsimp only
   rw [Bool.not_true,cond_false];rw [BR (by unfold in64;omega)]
   have hlen:(p++(bif (ls c.Kind i==a)&&bU c.More[i] then [c.More[i].N] else [])).length<=K+(i+1):=by
    cases (ls c.Kind i==a)&&bU c.More[i]<;>simp<;>omega
   have:=Iq N a c hc K hK m (i+1) _ U hi hlen;simp only [Int.natCast_add,Int.cast_ofNat_Int] at this;rw [this];rw [la,Qv]
  rw [show (decide ((i:Int)<(c.More.length:Int)))=false from Qt U,List.drop_eq_nil_of_le U];simp [pick]
theorem KR (N:Nat)(hN:2000<N)(a:Bool)(c:Ql)(hS:c.Slots.length<=1000)(hc:c.More.length<=1000): ∀(m i:Nat) (p:List Int),c.Slots.length<m+i->i<=c.Slots.length->p.length<=i->jR N (dn (fun x st=>eK N a x st)) c m (i:Int) (none,p)=some (none,(p++pick (fun _ v=>(true==a)&&bU v) i (c.Slots.drop i))++pick (fun i v=>(ls c.Kind i==a)&&bU v) 0 c.More)
 |0,i,p,h,h2,_=>by omega
 | m+1,i,p,h,h2,h3=>by
  rw [jR.eq_2];by_cases hi:i<c.Slots.length
  ·rw [show (decide ((i:Int)<(c.Slots.length:Int)))=true from Qs U,ja,List.getElem?_eq_getElem hi,List.drop_eq_getElem_cons hi];simp only [cond_true,Option.bind_some];rw [EG N a _ _ _ U];rw [Option.bind_some]
   dsimp only
   rw [Bool.not_true,cond_false];rw [BR (by unfold in64;omega)]
   have hlen:(p++(bif (true==a)&&bU c.Slots[i] then [c.Slots[i].N] else [])).length<=(i+1):=by
    cases (true==a)&&bU c.Slots[i]<;>simp<;>omega
   have:=KR N hN a c hS hc m (i+1) _ U hi hlen;simp only [Int.natCast_add,Int.cast_ofNat_Int] at this;rw [this];rw [la,Qv p]
  rw [show (decide ((i:Int)<(c.Slots.length:Int)))=false from Qt U,List.drop_eq_nil_of_le U];simp only [cond_false,se];have:=Iq N a c hc p.length U N 0 p U U U;simp only [Int.natCast_zero,Int.cast_ofNat_Int] at this;rw [this];simp [pick]
theorem xi (N:Nat)(hN:2000<N)(a:Bool)(c:Ql)(hS:c.Slots.length<=1000)(hc:c.More.length<=1000):jS N c a=some (pick (fun _ v=>(true==a)&&bU v) 0 c.Slots++pick (fun i v=>(ls c.Kind i==a)&&bU v) 0 c.More):=by
 unfold jS sf nk;have:=KR N hN a c hS hc N 0 [] U U (by simp);simp only [Int.natCast_zero,Int.cast_ofNat_Int] at this;rw [Option.bind_some,this,Option.bind_some];show some _=some _;simp
def lH (k:Int)(i:Nat):Bool:=decide (k=8)||(decide (k=10)&&(decide (0<(i:Int))&&decide ((((i:Int) - 1).tmod 4).tmod 2=0)))
theorem DP (N:Nat)(k:Int)(i:Nat)(hi:i<=5000):rM N k (i:Int)=some (lH k i):=by
 unfold rM lH;by_cases h1:k=8
 ·simp [h1]
 by_cases h2:k=10
 ·by_cases h3:(0:Int)<i
  ·subst h2;simp only [h3,decide_true,ct,bs,r64 (a:=(i:Int) - 1) U U,show decide ((10:Int)=8)=false from rfl,cf,Bool.false_or,Bool.true_and]
  subst h2;simp only [h3,decide_true,decide_false,ct,bs,show decide ((10:Int)=8)=false from rfl,cf,Bool.false_or,Bool.true_and,Bool.false_and]
 simp [h1,h2]
theorem Cq (N:Nat)(hN:2000<N)(c:Ql)(hS:c.Slots.length<=1000)(hc:c.More.length<=1000):dN N c=some (pick (fun _ v=>bU v) 0 c.Slots++pick (fun i v=> !lH c.Kind i&&bU v) 0 c.More):=by
 apply Sat.eq;unfold dN;refine bA (fun m i s=>iZ N c m s (i:Int)) c.Slots.length (fun i s=>s++pick (fun _ v=>bU v) i (c.Slots.drop i)=pick (fun _ v=>bU v) 0 c.Slots/\s.length<=i) _ ?_ ?_ N 0 [] U U ⟨by simp,by simp⟩
 ·rintro m i s hi ⟨h1,h2⟩ k;show Sat (iZ N c (m+1) s i) _;rw [List.drop_eq_getElem_cons hi,la] at h1;rw [iZ.eq_2,bG U,cond_true,aC hi,bs,oh,bs];simp only [bs];cases hh:bU c.Slots[i]
  all_goals
   simp only [hh,ct,cf,bs,QH] at h1⊢
   first
   |(unfold nh
     rw [r64 U U]
     exact k s ⟨h1,by omega⟩)
   |(rw [rF (by simp;omega)]
     unfold nh;rw [r64 U U]
     exact k _ ⟨by rw [Qv];exact h1,by simp;omega⟩)
 rintro m s ⟨h1,h2⟩;show Sat (iZ N c (m+1) s _) _;rw [List.drop_length] at h1
 have h1:s=pick (fun _ v=>bU v) 0 c.Slots:=by rw [<-h1];simp [pick]
 rw [iZ.eq_2,bH U,cond_false, <-h1];unfold uW;clear h1;refine bA (fun m i s=>gX N c m s (i:Int)) c.More.length (fun i t=>t++pick (fun i v=> !lH c.Kind i&&bU v) i (c.More.drop i)=s++pick (fun i v=> !lH c.Kind i&&bU v) 0 c.More/\t.length<=1000+i) _ ?_ ?_ N 0 s U U ⟨by simp,by omega⟩
 ·rintro m i s hi ⟨h1,h2⟩ k;show Sat (gX N c (m+1) s i) _;rw [List.drop_eq_getElem_cons hi,la] at h1;rw [gX.eq_2,bG U,cond_true,aC hi,bs,oh,bs,DP _ _ _ U];simp only [bs];cases hh:bU c.More[i]<;>cases hw:lH c.Kind i
  all_goals
   simp only [hh,hw,Bool.and_true,Bool.and_false,nt,nf,ct,cf,bs,QH] at h1⊢
   first
   |(unfold ng
     rw [r64 U U]
     exact k s ⟨h1,by omega⟩)
   |(rw [rF (by simp;omega)]
     unfold ng;rw [r64 U U]
     exact k _ ⟨by rw [Qv];exact h1,by simp;omega⟩)
 rintro m s ⟨h1,h2⟩;show Sat (gX N c (m+1) s _) _;rw [List.drop_length] at h1;rw [gX.eq_2,bH U,cond_false];exact aA (by rw [<-h1];simp [pick])
theorem AY (k:Int)(i:Nat):ls k i=!lH k i:=by
 unfold ls lH;by_cases h8:k=8
 ·subst h8;rfl
 by_cases h10:k=10
 ·subst h10;have e0:(i:Int).tmod 2=(i:Int)%2:=Int.tmod_eq_emod_of_nonneg U;by_cases hi:(0:Int)<i
  ·have e1:((i:Int) - 1).tmod 4=((i:Int) - 1)%4:=Int.tmod_eq_emod_of_nonneg U;have e2:(((i:Int) - 1)%4).tmod 2=(((i:Int) - 1)%4)%2:=Int.tmod_eq_emod_of_nonneg U;rw [e0,e1,e2];by_cases h:(i:Int)%2=0
   ·have h2: ¬(((i:Int) - 1)%4)%2=0:=by omega
    rw [Qs h,Qt h2,Qs hi];rfl
   have h2:(((i:Int) - 1)%4)%2=0:=by omega
   rw [Qt h,Qs h2,Qs hi];rfl
  have:i=0:=by omega
  subst this;rfl
 simp [h8,h10]
def bC (c:Ql):List Int:=pick (fun _ v=>bU v) 0 c.Slots++pick (fun i v=> !lH c.Kind i&&bU v) 0 c.More
theorem nI (N:Nat)(hN:2000<N)(c:Ql)(hS:c.Slots.length<=1000)(hc:c.More.length<=1000):fH N c=some (bC c):=by
 unfold fH bC;rw [xi N hN true c hS hc,bs]
 have e1:(fun (_:Nat) (v:Qn)=>(true==true)&&bU v)=fun _ v=>bU v:=by funext i v;rfl
 have e2:(fun (i:Nat) (v:Qn)=>(ls c.Kind i==true)&&bU v)=fun i v=> !lH c.Kind i&&bU v:=by funext i v;rw [AY];cases lH c.Kind i<;>rfl
 rw [e1,e2]
theorem my (N:Nat)(hN:2000<N)(c:Ql)(hS:c.Slots.length<=1000)(hc:c.More.length<=1000):dN N c=some (bC c):=Cq N hN c hS hc
theorem eH (c:Ql):(bC c).length<=c.Slots.length+c.More.length:=by
 unfold bC;have h1:=zA (fun _ v=>bU v) 0 c.Slots;have h2:=zA (fun i v=> !lH c.Kind i&&bU v) 0 c.More;rw [QC];omega
theorem zz {f:Nat->Qn->Bool}{x:Int}: ∀{i:Nat} {l:List Qn},x∈pick f i l-> ∃v∈l,v.N=x
 |_,[],h=>by cases h
 | i,v::l,h=>by
  rw [la,List.mem_append] at h;rcases h with h|h
  ·cases hf:f i v
   ·rw [hf] at h;cases h
   rw [hf] at h;exact ⟨v,by simp,(List.mem_singleton.1 h).symm⟩
  obtain ⟨w,h1,h2⟩:=zz h;exact ⟨w,by simp [h1],h2⟩
theorem C4 {c:Ql}{x:Int}(h:x∈bC c): ∃v∈c.Slots++c.More,v.N=x:=by
 unfold bC at h;rcases List.mem_append.1 h with h|h
 ·obtain ⟨v,h1,h2⟩:=zz h;exact ⟨v,by simp [h1],h2⟩
 obtain ⟨v,h1,h2⟩:=zz h;exact ⟨v,by simp [h1],h2⟩
def AW:Ql:=⟨0,0,0,0,[],[]⟩
def iG (m:Qg)(a:Int):Option Ql:=if a<1 then none else if a%2=1 then m.Young[((a - 1) / 2).toNat]? else m.Old[((a - 2) / 2).toNat]?
def bp (m:Qg)(a:Int):Bool:=(iG m a).isSome
def bK (m:Qg)(a:Int):Ql:=(iG m a).getD AW
structure Small (m:Qg) (roots:List Qn):Prop where
 young:m.Young.length<=600
 old:m.Old.length<=600
 roots:roots.length<=600
 cells: ∀c∈m.Young++m.Old,c.Slots.length<=600/\c.More.length<=600
theorem sk {m:Qg}{a:Int}{c:Ql}(h:iG m a=some c):c∈m.Young++m.Old:=by
 unfold iG at h;split at h
 ·cases h
 split at h
 ·exact Qw _ (List.mem_of_getElem? h)
 exact Qx _ (List.mem_of_getElem? h)
theorem Small.at_ {m:Qg}{roots:List Qn}(h:Small m roots)(a:Int):(bK m a).Slots.length<=600/\(bK m a).More.length<=600:=by
 unfold bK
 cases hc:iG m a with
 |none=>exact ⟨by simp [AW],by simp [AW]⟩
 |some c=>exact h.cells c (sk hc)
theorem qp {m:Qg}{a:Int}(h:bp m a=true):0<a:=by
 unfold bp iG at h;split at h
 ·cases h
 omega
theorem vt {m:Qg}{roots:List Qn}(hs:Small m roots){a:Int}(h:bp m a=true):a<=1200:=by
 have h1:=hs.young;have h2:=hs.old;unfold bp iG at h;split at h
 ·cases h
 split at h
 ·have:=(List.getElem?_eq_some_iff.1 (Option.isSome_iff_exists.1 h).choose_spec).1;omega
 have:=(List.getElem?_eq_some_iff.1 (Option.isSome_iff_exists.1 h).choose_spec).1;omega
theorem sC {a:Int}(h:0<=a):a.tdiv 2=a / 2:=Int.tdiv_eq_ediv_of_nonneg h
theorem o3 {a:Int}(h:0<=a):a.tmod 2=a%2:=Int.tmod_eq_emod_of_nonneg h
theorem rm {α:Type}(l:List α)(i:Nat):(l[i]?).isSome=decide ((i:Int)<(l.length:Int)):=by
 by_cases h:i<l.length
 ·rw [List.getElem?_eq_getElem h,Qs U];rfl
 rw [List.getElem?_eq_none U,Qt U];rfl
theorem sm (m:Qg)(a:Int):(a<1/\iG m a=none)\/(∃k:Nat,a=2*(k:Int)+1/\iG m a=m.Young[k]?)\/(∃k:Nat,a=2*(k:Int)+2/\iG m a=m.Old[k]?):=by
 by_cases h:a<1
 ·exact .inl ⟨h,by unfold iG;rw [if_pos h]⟩
 by_cases h2:a%2=1
 ·refine .inr (.inl ⟨((a - 1) / 2).toNat,by omega,?_⟩);unfold iG;rw [if_neg h,if_pos h2]
 refine .inr (.inr ⟨((a - 2) / 2).toNat,by omega,?_⟩);unfold iG;rw [if_neg h,if_neg h2]
theorem Iz {a:Int}(h:in64 a): -4611686018427387904<=a.tdiv 2/\a.tdiv 2<=4611686018427387904:=by
 unfold in64 at h;by_cases h0:0<=a
 ·rw [sC h0];omega
 have h1:(-a).tdiv 2= -(a.tdiv 2):=Int.neg_tdiv a 2;rw [sC U] at h1;omega
theorem CL (N:Nat)(m:Qg)(a:Int)(h:in64 a):Sat (mV N m a) fun r=>r.2.2=bp m a/\(bp m a=true->aw r.1 r.2.1=iG m a):=by
 have hd:=Iz h;unfold mV;rw [r64 U U];unfold om bp;rcases sm m a with ⟨h1,h2⟩|⟨k,h1,h2⟩|⟨k,h1,h2⟩
 ·rw [h2]
  refine dy (fun _=> ?_) fun _=> ?_
  ·rw [r64 U U,r64 U U,bH (a:=0) (b:=a) U,cf,bs];exact aA ⟨J,fun h=>by cases h⟩
  rw [bH (a:=0) (b:=a) U,cf,bs];exact aA ⟨J,fun h=>by cases h⟩
 ·subst h1;rw [h2,o3 U,sC U,eJ U,cf,bG U,ct,bs,show (2*(k:Int)+1) / 2=k by omega];exact aA ⟨(rm _ _).symm,fun _=>ja _ _⟩
 subst h1;rw [h2,o3 U,sC U,kB U,ct,bG U,ct,bs,show (2*(k:Int)+2) / 2 - 1=k by omega];rw [r64 U U,r64 U U];exact aA ⟨(rm _ _).symm,fun _=>ja _ _⟩
theorem uw (N:Nat)(m:Qg)(a:Int)(h:in64 a):iS N m a=some (bp m a):=by
 obtain ⟨r,h1,h2, -⟩:=CL N m a h;unfold iS;rw [h1,bs,h2]
theorem nZ (N:Nat)(c:Ql)(h:c.Slots.length<=600/\c.More.length<=600):dU N c=some c:=by
 unfold dU cT;rw [rF (by simp;omega),bs,rF (by simp;omega),bs];rfl
theorem FJ (N:Nat){m:Qg}{roots:List Qn}(hs:Small m roots)(a:Int)(h:in64 a):ki N m a=some (bK m a):=by
 obtain ⟨r,h1,h2,h3⟩:=CL N m a h;unfold ki bK;rw [h1,bs,h2];unfold bp at*
 cases hc:iG m a with
 |none=>rfl
 |some c=>
  have h4:=h3 (by rw [hc];rfl);rw [hc] at h4;have h5:=nZ N c (hs.cells c (sk hc));simp only [Option.isSome_some,nt,cf,h4,bs,h5];rfl
theorem vq (N:Nat)(m:Qg)(a:Int)(h:in64 a):jF N m a=some (bp m a):=by
 unfold in64 at h;unfold jF bp;rcases sm m a with ⟨h1,h2⟩|⟨k,h1,h2⟩|⟨k,h1,h2⟩
 ·rw [h2,bG h1];rfl
 ·subst h1;rw [h2,bH U,cf,o3 U,kB U,ct,sC U,show (2*(k:Int)+1 - 1) / 2=k by omega,rm];rw [gL (by unfold in64;omega),gL (by unfold in64;omega)]
 subst h1;rw [h2,bH U,cf,o3 U,eJ U,cf,sC U,show (2*(k:Int)+2 - 2) / 2=k by omega,rm];rw [gL (by unfold in64;omega),gL (by unfold in64;omega)]
theorem FI (N:Nat)(m:Qg)(a:Int)(h:in64 a):qe N m a=some (bK m a):=by
 have hh:=vq N m a h;unfold in64 at h;unfold qe bK;rw [hh,bs];unfold bp;rcases sm m a with ⟨h1,h2⟩|⟨k,h1,h2⟩|⟨k,h1,h2⟩
 ·rw [h2];rfl
 ·cases hc:m.Young[k]? with
  |none=>rw [h2,hc];rfl
  |some c=>
   rw [h2,hc];subst h1;simp only [Option.isSome_some,nt,cf];rw [o3 U,kB U,ct,sC U,show (2*(k:Int)+1 - 1) / 2=k by omega,ja,hc,bs];rw [gL (by unfold in64;omega),gL (by unfold in64;omega)];rfl
 cases hc:m.Old[k]? with
 |none=>rw [h2,hc];rfl
 |some c=>
  rw [h2,hc];subst h1;simp only [Option.isSome_some,nt,cf];rw [o3 U,eJ U,cf,sC U,show (2*(k:Int)+2 - 2) / 2=k by omega,ja,hc,bs];rw [gL (by unfold in64;omega),gL (by unfold in64;omega)];rfl
theorem Je (N:Nat)(k:Int):vD N k=iY N k:=by
 unfold vD iY jd;by_cases h1:k=1
 ·subst h1;rfl
 by_cases h2:k=2
 ·subst h2;rfl
 by_cases h3:k=3
 ·subst h3;rfl
 by_cases h6:k=6
 ·subst h6;rfl
 by_cases h8:k=8
 ·subst h8;rfl
 by_cases h9:k=9
 ·subst h9;rfl
 by_cases h10:k=10
 ·subst h10;rfl
 rw [eJ h1,eJ h2,eJ h3,eJ h6,eJ h8,eJ h9,eJ h10];rfl
theorem JF (N:Nat)(c:Ql):jc N c=gQ N c:=by
 unfold jc gQ;rw [Je];rfl
theorem MM (N:Nat)(v:Qn):vC N v=ig N v:=by
 unfold vC ig qr;by_cases h5:v.Kind=5
 ·rw [h5];rfl
 rw [eJ h5];simp only [cf];by_cases hr:v.Kind<0\/9<v.Kind
 ·have h2:v.Kind≠2:=by omega
  have h3:v.Kind≠3:=by omega
  have h6:v.Kind≠6:=by omega
  have h7:v.Kind≠7:=by omega
  have h9:v.Kind≠9:=by omega
  have e1:((bif decide (v.Kind<0) then (some true) else (some (decide (9<v.Kind)))):Option Bool)=some true:=by
   rcases hr with h|h
   ·rw [bG h];rfl
   rw [bG (a:=9) h];cases decide (v.Kind<0)<;>rfl
  rw [e1,bs,ct,eJ h2,eJ h3,eJ h6,eJ h7,eJ h9];simp only [cf]
  have e2:(((bif decide (v.N=0) then (some (decide (0<=v.Kind))) else (some false)).bind fun b14=>(bif b14 then (some (decide (v.Kind<=9))) else (some false)).bind fun b15=>some b15):Option Bool)=some false:=by
   cases decide (v.N=0)
   ·rfl
   rcases hr with h|h
   ·rw [I8 (a:=0) (b:=v.Kind) U];rfl
   rw [I8 (a:=v.Kind) (b:=9) U];cases decide (0<=v.Kind)<;>rfl
  rw [e2];cases s:(v.S.toList==(⟨#[]⟩:ByteArray).toList)<;>rfl
 have e1:((bif decide (v.Kind<0) then (some true) else (some (decide (9<v.Kind)))):Option Bool)=some false:=by
  rw [bH (a:=v.Kind) (b:=0) U,bH (a:=9) (b:=v.Kind) U];rfl
 rw [e1,bs,cf];cases hs:(v.S.toList==(⟨#[]⟩:ByteArray).toList)
 ·rfl
 simp only [nt,cf];by_cases h2:v.Kind=2
 ·rw [h2];rfl
 rw [eJ h2];simp only [cf];by_cases h3:v.Kind=3
 ·rw [h3];rfl
 rw [eJ h3];simp only [cf];by_cases h6:v.Kind=6
 ·rw [h6];rfl
 rw [eJ h6];simp only [cf];by_cases h7:v.Kind=7
 ·rw [h7];rfl
 rw [eJ h7];simp only [cf];by_cases h9:v.Kind=9
 ·rw [h9];rfl
 rw [eJ h9,Kj (a:=0) U,Kj (a:=v.Kind) U];cases decide (v.N=0)<;>rfl
theorem Ge (N:Nat)(v:Qn): ∃b,ig N v=some b:=by
 unfold ig;cases decide (v.Kind<0)<;>cases decide (9<v.Kind)<;>cases decide (v.Kind=5)<;>cases decide (v.N=0)<;>cases (v.S.toList==(⟨#[]⟩:ByteArray).toList)<;>cases decide (v.Kind=2)<;>cases decide (v.Kind=3)<;>cases decide ((-9007199254740992)<=v.N)<;>cases decide (v.Kind=6)<;>cases decide (v.Kind=7)<;>cases decide (v.Kind=9)<;>exact ⟨_,rfl⟩
theorem Af (N:Nat)(k:Nat)(hk:k=2\/k=4)(l:List Qn)(hl:l.length<=1000): ∀(m i:Nat),l.length<m+i->i<=l.length->(l.length - i)%k=0-> ∃b,eC N (k:Int) l m (i:Int)=some b/\
  iI N (dn (fun x st=>co N (k:Int) x st)) l (k:Int) m (i:Int) (none,())=some (bif b then (none,()) else (some .ret,()))
 |0,i,h,h2,_=>by omega
 | m + 1,i,h,h2,h3=>by
  by_cases hi:i<l.length
  ·have hik:i+k<=l.length:=by
    rcases hk with rfl|rfl<;>omega
   have hmin:(min (k:Int) (((l.drop (i:Int).toNat).take (l.length - (i:Int).toNat)).length:Int))=k:=by
    rw [QD,List.length_drop,Int.toNat_natCast];omega
   have hto:((i:Int)+(k:Int)).toNat=i+k:=by omega
   have hx: ∀j,j<k->aw ((l.drop i).take k) (j:Int)=l[i+j]? :=fun j hj=>by
    rw [ja,List.getElem?_take,if_pos hj,List.getElem?_drop]
   have hk0:=hx 0 U;have hk1:=hx 1 U;rw [List.getElem?_eq_getElem U] at hk0 hk1;have hl0:aw l (i:Int)=some l[i]:=aC hi
   have hl1:aw l ((i:Int)+1)=some (l[i+1]'U):=by
    have:=aC (xs:=l) (i:=i+1) U;simpa using this
   obtain ⟨b,hb1,hb2⟩:=Af N k hk l hl m (i+k) U hik (by rcases hk with rfl|rfl<;>omega);simp only [Int.natCast_add] at hb1 hb2
   have fin: ∀b',(bif b' then some false else aZ (in64 ((i:Int)+(k:Int))) (eC N (k:Int) l m ((i:Int)+(k:Int))))=some (bif b' then false else b):=fun b'=>by
    cases b'
    ·rw [cf,r64 U U,hb1];rfl
    rfl
   have fin2: ∀b':Bool,((bif b' then (some (some Exit.ret,())) else (some (none,())):Option (Option Exit×Unit)).map fun r=>(r.1.isNone,r))=some (!b',(bif b' then some Exit.ret else none,())):=fun b'=>by cases b'<;>rfl
   have goal: ∀b',((some (!b',((bif b' then some Exit.ret else none:Option Exit),())):Option (Bool×(Option Exit×Unit))).bind fun y14=>bif !y14.1 then (some y14.2) else (aZ (in64 ((i:Int)+(k:Int))) ((iI N (dn (fun x st=>co N (k:Int) x st)) l (k:Int) m) ((i:Int)+(k:Int)) y14.2)))=some (bif (bif b' then false else b) then (none,()) else (some .ret,())):=fun b'=>by
    cases b'
    ·rw [bs];simp only [nf,nt,cf];rw [r64 U U];exact hb2
    rfl
   have lift: ∀(x:List Qn) (b':Bool),co N (k:Int) x ()=(bif b' then (some (some Exit.ret,())) else (some (none,())))->dn (fun x st=>co N (k:Int) x st) x (none,())=some (!b',(bif b' then some Exit.ret else none,())):=fun x b' hb=>by
    unfold dn;simp only [hb];exact fin2 b'
   have key: ∃b',((aw l (i:Int)).bind fun x8=>(bif !decide (x8.Kind=7) then (some true) else (aZ (in64 ((i:Int)+1)) ((aw l ((i:Int)+1)).bind fun x11=>some (decide (x11.Kind=8))))).bind fun b9=>bif b9 then (some false) else ((bif decide ((k:Int)=4) then (aZ (in64 ((i:Int)+2)) ((aw l ((i:Int)+2)).bind fun x15=>(dA N x15 7).bind fun y16=>(bif !y16 then (some true) else (aZ (in64 ((i:Int)+3)) ((aw l ((i:Int)+3)).bind fun x19=>(fg N x19 0 9007199254740992).bind fun y20=>some (!y20)))).bind fun b17=>some b17)) else (some false)).bind fun b13=>bif b13 then (some false) else (aZ (in64 ((i:Int)+(k:Int))) ((eC N (k:Int) l m) ((i:Int)+(k:Int))))))=some (bif b' then false else b)/\co N (k:Int) ((l.drop i).take k) ()=(bif b' then (some (some Exit.ret,())) else (some (none,()))):=by
    unfold co;simp only [Int.cast_ofNat_Int,Int.natCast_zero,Int.natCast_one] at hk0 hk1;rw [hl0,bs,r64 (a:=(i:Int)+1) U U,hl1,bs];have hk0':aw ((l.drop i).take k) 0=some l[i]:=hk0;have hk1':aw ((l.drop i).take k) 1=some (l[i+1]'U):=hk1;simp only [hk0',bs,hk1'];cases h7:(!decide (l[i].Kind=7))
    ·simp only [cf,bs];cases h8:decide ((l[i+1]'U).Kind=8)
     ·simp only [cf];rcases hk with rfl|rfl
      ·simp only [show decide (((2:Nat):Int)=4)=false from rfl,cf,bs];have f:=fin false;rw [cf] at f;refine ⟨false,?_,J⟩;exact f
      have hk2:=hx 2 U;have hk3:=hx 3 U;rw [List.getElem?_eq_getElem U] at hk2 hk3;have hk2':aw ((l.drop i).take 4) 2=some (l[i+2]'U):=hk2;have hk3':aw ((l.drop i).take 4) 3=some (l[i+3]'U):=hk3
      have hl2:aw l ((i:Int)+2)=some (l[i+2]'U):=by
       have:=aC (xs:=l) (i:=i+2) U;simpa using this
      have hl3:aw l ((i:Int)+3)=some (l[i+3]'U):=by
       have:=aC (xs:=l) (i:=i+3) U;simpa using this
      simp only [show decide (((4:Nat):Int)=4)=true from rfl,ct];rw [r64 (a:=(i:Int)+2) U U,hl2,bs,hk2',bs,r64 (a:=(i:Int)+3) U U,hl3,bs,hk3']
      have en: ∀v,ia N v 7=dA N v 7:=fun v=>rfl
      have em: ∀v,ib N v 0 9007199254740992=fg N v 0 9007199254740992:=fun v=>rfl
      have hn: ∃b1,dA N (l[i+2]'U) 7=some b1:=by unfold dA;cases decide ((l[i+2]'U).Kind=0)<;>exact ⟨_,rfl⟩
      have hm: ∃b1,fg N (l[i+3]'U) 0 9007199254740992=some b1:=by unfold fg;cases decide ((l[i+3]'U).Kind=3)<;>cases decide (0<=(l[i+3]'U).N)<;>exact ⟨_,rfl⟩
      obtain ⟨b1,hn⟩:=hn;obtain ⟨b2,hm⟩:=hm;simp only [bs,en,em,hn,hm];cases b1
      ·simp only [nf,ct,bs];exact ⟨true,J,J⟩
      simp only [nt,cf,bs];exact ⟨!b2,fin (!b2),by cases b2<;>rfl⟩
     exact ⟨true,J,J⟩
    exact ⟨true,J,J⟩
   obtain ⟨b',e1,e2⟩:=key;refine ⟨bif b' then false else b,?_,?_⟩
   ·rw [eC.eq_2,bG U,ct];exact e1
   rw [iI.eq_2,bG U,ct,hmin,gL (show (0:Int)<=(i:Int)/\(i:Int).toNat<=l.length/\l.length<=l.length from ⟨by omega,by omega,Nat.le_refl _⟩),r64 (a:=(i:Int)+(k:Int)) U U,r64 (a:=(i:Int)+(k:Int)) U U];rw [gL (show (0:Int)<=(i:Int)/\(0:Int)<=(i:Int)+(k:Int)/\(i:Int).toNat<=((i:Int)+(k:Int)).toNat/\((i:Int)+(k:Int)).toNat<=l.length from ⟨by omega,by omega,by omega,by omega⟩),hto,Int.toNat_natCast,show i+k - i=k by omega,lift _ b' e2];exact goal b'
  rw [eC.eq_2,iI.eq_2,bH U,cf,cf];exact ⟨true,J,J⟩
theorem sa (N:Nat)(hN:2000<N)(k:Nat)(hk:k=2\/k=4)(l:List Qn)(hl:l.length<=1000): ∃b,dK N l (k:Int)=some b/\cU N l (k:Int)=some b/\(b=true->l.length%k=0):=by
 unfold dK cU
 have hk0:(k:Int)≠0:=by rcases hk with rfl|rfl<;>decide
 rw [gL hk0,gL hk0]
 have ht:(l.length:Int).tmod (k:Int)=((l.length%k:Nat):Int):=by
  rw [Int.tmod_eq_emod_of_nonneg U];rfl
 rw [ht];by_cases h:l.length%k=0
 ·rw [kB U];obtain ⟨b,h1,h2⟩:=Af N k hk l hl N 0 U U (by simpa using h)
  have e:kd N l (k:Int)=some ():=by
   unfold kd;rw [bH (by rcases hk with rfl|rfl<;>omega),cf]
  unfold ry;simp only [nt,cf,e,bs];have h1':eC N (k:Int) l N 0=some b:=h1;have h2':iI N (dn (fun x st=>co N (k:Int) x st)) l (k:Int) N 0 (none,())=some (bif b then (none,()) else (some .ret,())):=h2;rw [h1',h2',bs];exact ⟨b,by cases b<;>rfl,rfl,fun _=>h⟩
 rw [eJ U];exact ⟨false,J,J,fun h=>by cases h⟩
theorem Lp (N:Nat)(hN:2000<N)(c:Ql)(hc:c.More.length<=1000):jQ N c.Kind c.More=jl N c:=by
 obtain ⟨b2,h2,h2', -⟩:=sa N hN 2 (.inl rfl) c.More hc;obtain ⟨b4,h4,h4', -⟩:=sa N hN 4 (.inr rfl) ((c.More.drop ((1:Int).toNat)).take (c.More.length - (1:Int).toNat)) (by rw [QD,List.length_drop];omega);have e2:dK N c.More 2=cU N c.More 2:=h2.trans h2'.symm;have e4:dK N ((c.More.drop ((1:Int).toNat)).take (c.More.length - (1:Int).toNat)) 4=cU N ((c.More.drop ((1:Int).toNat)).take (c.More.length - (1:Int).toNat)) 4:=h4.trans h4'.symm;unfold jQ jl lD iX;rw [e2,e4];rfl
theorem Gf (N:Nat)(c:Ql)(b:Bool)(v:Qn): ∃y,ig N v=some y/\dn (fun x st=>fV N c x st) (b,v) (none,())=some (y,(bif y then none else some Exit.ret,())):=by
 obtain ⟨y,hy⟩:=Ge N v;refine ⟨y,hy,?_⟩;unfold dn fV;simp only [MM,hy,bs];cases y<;>rfl
theorem Cn (N:Nat)(c:Ql)(hc:c.More.length<=1000): ∀(m i:Nat),c.More.length<m+i->i<=c.More.length-> ∃b,kZ N c m (i:Int)=(bif b then cV N c else some false)/\
  kS N (dn (fun x st=>fV N c x st)) c m (i:Int) (none,())=some (bif b then none else some Exit.ret,())
 |0,i,h,h2=>by omega
 | m+1,i,h,h2=>by
  rw [kZ.eq_2,kS.eq_2];by_cases hi:i<c.More.length
  ·rw [bG U,ct,ct,aC hi,bs,bs]
   have hs:(bif !decide (c.Kind=8) then ((bif !decide (c.Kind=10) then (some true) else (some (decide ((i:Int).tmod 2=0)))).bind fun b22=>some b22) else (some false))=some (ls c.Kind i):=by
    unfold ls;cases decide (c.Kind=8)<;>cases decide (c.Kind=10)<;>rfl
   obtain ⟨y,h3,h4⟩:=Gf N c (ls c.Kind i) c.More[i];rw [hs,bs,h3,h4,bs,bs];cases y
   ·simp only [nf,nt,ct,cf];exact ⟨false,cf.symm,by rw [cf]⟩
   obtain ⟨b,h5,h6⟩:=Cn N c hc m (i+1) U hi;simp only [Int.natCast_add,Int.cast_ofNat_Int] at h5 h6;simp only [nt,cf,ct];rw [r64 U U,r64 U U];exact ⟨b,h5,h6⟩
  rw [bH U,cf,cf];exact ⟨true,ct.symm,by rw [ct]⟩
theorem sF (N:Nat)(hN:2000<N)(c:Ql)(hS:c.Slots.length<=1000)(hc:c.More.length<=1000): ∀(m i:Nat),c.Slots.length<m+i->i<=c.Slots.length-> ∃b,fx N c m (i:Int)=(bif b then cV N c else some false)/\
  jR N (dn (fun x st=>fV N c x st)) c m (i:Int) (none,())=some (bif b then none else some Exit.ret,())
 |0,i,h,h2=>by omega
 | m+1,i,h,h2=>by
  rw [fx.eq_2,jR.eq_2];by_cases hi:i<c.Slots.length
  ·rw [bG U,ct,ct,aC hi,bs,bs];obtain ⟨y,h3,h4⟩:=Gf N c true c.Slots[i];rw [h3,h4,bs,bs];cases y
   ·simp only [nf,nt,ct,cf];exact ⟨false,cf.symm,by rw [cf]⟩
   obtain ⟨b,h5,h6⟩:=sF N hN c hS hc m (i+1) U hi;simp only [Int.natCast_add,Int.cast_ofNat_Int] at h5 h6;simp only [nt,cf,ct];rw [r64 U U,r64 U U];exact ⟨b,h5,h6⟩
  rw [bH U,cf,cf];exact Cn N c hc N 0 U U
theorem wh (N:Nat)(hN:2000<N)(c:Ql)(hS:c.Slots.length<=1000)(hc:c.More.length<=1000):fF N c=cy N c:=by
 unfold fF cy nk
 have hAge:((bif !decide (c.Age=0) then (some (!decide (c.Age=1))) else (some false)).bind fun b10=>some b10)=(some (decide (c.Age<0)||decide (1<c.Age)):Option Bool):=by
  by_cases h0:c.Age=0
  ·rw [h0];rfl
  by_cases h1:c.Age=1
  ·rw [h1];rfl
  rw [eJ h0,eJ h1];by_cases h2:c.Age<0
  ·rw [bG h2];rfl
  rw [bG (a:=1) (b:=c.Age) U,bH (a:=c.Age) U];rfl
 obtain ⟨b,h1,h2⟩:=sF N hN c hS hc N 0 U U;have h1':fx N c N 0=(bif b then cV N c else some false):=h1;have h2':jR N (dn (fun x st=>fV N c x st)) c N 0 (none,())=some (bif b then none else some Exit.ret,()):=h2;have e:sf N c=some ():=rfl;rw [hAge,h1',h2',e]
 have tail:((some ()).bind fun (y12:Unit)=>(some ((bif b then none else some Exit.ret:Option Exit),())).bind fun y15=>qM y15.1 ((jc N c).bind fun y19=>(bif y19 then ((jQ N c.Kind c.More).bind fun y21=>some y21) else (some false)).bind fun b20=>some b20) (some false) (fun _=>none))=(bif b then cV N c else some false):=by
  cases b
  ·rfl
  rw [JF,Lp N hN c hc];rfl
 rw [tail];cases decide (c.Kind<1)<;>cases decide (11<c.Kind)<;>cases decide (c.Shape<0)<;>cases decide (c.Flags<0)<;>cases decide (63<c.Flags)<;>cases decide (c.Age<0)<;>cases decide (1<c.Age)<;>rfl
theorem JX {m:Option Bool}{x:Bool}:m=some x->(m.bind fun b=>some b)=some x:=fun h=>by rw [h];rfl
theorem G2 (N:Nat)(hN:2000<N)(c:Ql)(hS:c.Slots.length<=1000)(hc:c.More.length<=1000)(h8:c.Kind=8): ∃b,cy N c=some b/\(b=true->c.More.length%2=0):=by
 obtain ⟨b1,g1, -⟩:=sF N hN c hS hc N 0 U U;have g1':fx N c N 0=(bif b1 then cV N c else some false):=g1;obtain ⟨b2, -,h2,h3⟩:=sa N hN 2 (.inl rfl) c.More hc
 have hm:jl N c=some b2:=by
  unfold jl iX;rw [h8,bH U];show ((cU N c.More 2).bind fun y37=>some y37)=_;exact JX h2
 have hs: ∃b3,gQ N c=some b3:=by
  unfold gQ;rw [h8];have:iY N 8=some true:=rfl;rw [this,bs,ct,bs,ct];by_cases hl:1<=(c.Slots.length:Int)
  ·rw [Kj hl,ct,bs,Ft (xs:=c.Slots) (i:=0) U U,bs];cases decide ((c.Slots.length:Int)<=1025)
   ·exact ⟨_,J⟩
   cases decide (c.Slots[(0:Int).toNat].Kind=1)<;>exact ⟨_,rfl⟩
  rw [I8 U];exact ⟨_,J⟩
 obtain ⟨b3,hs⟩:=hs
 have hj:cV N c=some (b3&&b2):=by
  unfold cV;rw [hs,hm];cases b3<;>rfl
 unfold cy;rw [g1',hj]
 have fin: ∃b,((bif b1 then some (b3&&b2) else some false):Option Bool)=some b/\(b=true->c.More.length%2=0):=by
  cases b1
  ·exact ⟨false,J,fun h=>by cases h⟩
  exact ⟨b3&&b2,J,fun h=>h3 (by cases b3<;>cases b2<;>first|rfl|cases h)⟩
 obtain ⟨b,e1,e2⟩:=fin;rw [e1];have ff: ∃b',(some false:Option Bool)=some b'/\(b'=true->c.More.length%2=0):=⟨false,rfl,fun h=>by cases h⟩
 cases decide (c.Kind<1)<;>cases decide (11<c.Kind)<;>cases decide (c.Shape<0)<;>cases decide (c.Flags<0)<;>cases decide (63<c.Flags)<;>cases decide (c.Age<0)<;>cases decide (1<c.Age)<;>first|exact ff|exact ⟨b,rfl,e2⟩
def nL (N:Nat)(c:Ql):Bool:=decide (c.Kind=8)&&(cy N c).getD false
theorem Fo (N:Nat)(hN:2000<N)(c:Ql)(hS:c.Slots.length<=1000)(hc:c.More.length<=1000):wy N c=some (nL N c)/\tT N c=some (nL N c)/\(nL N c=true->c.More.length%2=0):=by
 unfold wy tT nL;rw [wh N hN c hS hc];by_cases h8:c.Kind=8
 ·obtain ⟨b,h1,h2⟩:=G2 N hN c hS hc h8;rw [h1,h8];exact ⟨J,J,h2⟩
 rw [eJ h8];exact ⟨J,J,fun h=>by cases h⟩
abbrev FK {ρ:Type}(m:Option ρ):Prop:=Sat m fun _=>True
theorem bJ {ρ:Type}(x:ρ):FK (some x):=aA trivial
theorem lr {ρ:Type}{b:Bool}{x y:Option ρ}(hx:b=true->FK x)(hy:b=false->FK y):FK (bif b then x else y):=rA hx hy
theorem zH (N:Nat)(v:Qn)(a b:Int):FK (fg N v a b):=by
 unfold fg
 refine Sat.bind (P:=fun _=>True) (lr (fun _=>bJ _) fun _=>bJ _) fun x _=>Sat.bind (P:=fun _=>True) (lr (fun _=>bJ _) fun _=>bJ _) fun y _=>bJ _
theorem wH (N:Nat)(v:Qn)(a:Int):FK (dA N v a):=by
 unfold dA
 exact Sat.bind (P:=fun _=>True) (lr (fun _=>bJ _) fun _=>bJ _) fun x _=>bJ _
theorem xt {c:Bool}{m:Option Bool}(h:c=true->FK m):FK (bif c then m else some false):=lr h fun _=>bJ _
theorem vX {l:List Qn}{i:Nat}{f:Qn->Option Bool}(hi:i<l.length)(h: ∀v,FK (f v)):FK ((aw l (i:Int)).bind f):=by
 rw [aC hi,bs];exact h _
theorem eA {m:Option Bool}{f:Bool->Option Bool}(h:FK m)(k: ∀b,FK (f b)):FK (m.bind f):=Sat.bind h fun b _=>k b
theorem re {m:Option Bool}{p:Prop}{f:Bool->Option Bool}(h:Sat m fun b=>b=true->p)(k: ∀b,(b=true->p)->FK (f b)):FK (m.bind f):=Sat.bind h k
theorem IF (N:Nat)(c:Ql):FK (gQ N c):=by
 unfold gQ
 have hp:FK (iY N c.Kind):=by
  unfold iY
  iterate 6 refine eA (lr (fun _=>bJ _) fun _=>bJ _) fun _=> ?_
  exact bJ _
 refine eA hp fun y=>eA (lr (fun _=>bJ _) fun _=>eA (lr (fun _=>bJ _) fun _=>bJ _) fun _=>bJ _) fun b=> ?_
 refine lr (fun _=> ?_) fun _=> ?_
 ·refine re (p:=0<c.Slots.length) (dy (fun h=>aA fun _=>by omega) fun _=>aA fun h=>by cases h) fun b hb=>eA (xt fun h=> ?_) fun _=>bJ _
  have h0:=hb h
  refine vX (i:=0) h0 fun v=>eA (lr (fun _=>bJ _) fun _=>vX (i:=0) h0 fun _=>bJ _) fun _=>bJ _
 refine lr (fun _=>bJ _) fun _=>eA (lr (fun _=>bJ _) fun _=>bJ _) fun _=>lr (fun _=>bJ _) fun _=>rA (fun _=> ?_) fun _=>bJ _
 refine re (p:=1<c.Slots.length) (dy (fun h=> ?_) fun _=>aA fun h=>by cases h) fun b hb=>eA (xt fun h=> ?_) fun _=>bJ _
 ·rw [show ((0:Int))=((0:Nat):Int) from rfl,aC U,bs];obtain ⟨x,hx, -⟩:=wH N c.Slots[0] 7
  rw [hx,bs];exact aA fun _=>by omega
 refine vX (i:=1) (hb h) fun v=>eA (wH N v 7) fun _=>bJ _
theorem Hu {l:List Qn}{i:Nat}{m:Qn->Option Bool}(hi:i<l.length)(h: ∀v,FK (m v)){p:Prop}(hp:p):Sat ((aw l (i:Int)).bind fun x=>(m x).bind fun y=>some y) fun b=>b=true->p:=by
 rw [aC hi,bs];obtain ⟨x,hx, -⟩:=h l[i]
 rw [hx,bs];exact aA fun _=>hp
def yR (c:Ql):Prop:=(c.Kind=8->c.More.length%2=0)/\(c.Kind=10->1<=c.More.length/\(c.More.length - 1)%4=0)
theorem J8 (N:Nat)(hN:2000<N)(c:Ql)(hc:c.More.length<=1000):Sat (jl N c) fun b=>b=true->yR c:=by
 have j6: ∀p,(p=true->c.Kind=1\/c.Kind=5)->Sat (iX N c p) fun b=>b=true->yR c:=by
  intro p hp
  have other: ∀{m:Option Bool},c.Kind≠8->c.Kind≠10->FK m->Sat m fun b=>b=true->yR c:=fun h8 h10 h=>h.mono fun _ _ _=>⟨fun e=>absurd e h8,fun e=>absurd e h10⟩
  unfold iX
  refine rA (fun h=>other (by rcases hp h with e|e<;>omega) (by rcases hp h with e|e<;>omega) (bJ _)) fun _=> ?_
  refine dy (fun hk=>other U U ?_) fun _=> ?_
  ·refine re (p:=1<c.More.length) (dy (fun h=>Hu (i:=0) U (fun v=>zH N v _ _) U) fun _=>aA fun h=>by cases h) fun b hb=>eA (xt fun h=>vX (i:=1) (hb h) fun v=>eA (wH N v 9) fun _=>bJ _) fun _=>bJ _
  refine dy (fun hk=>other U U ?_) fun _=> ?_
  ·refine re (p:=0<c.More.length) (dy (fun h=>aA fun _=>by omega) fun _=>aA fun h=>by cases h) fun b hb=>eA (xt fun h=>vX (i:=0) (hb h) fun v=>eA (wH N v 9) fun _=>bJ _) fun _=>bJ _
  refine dy (fun hk=>other U U ?_) fun _=> ?_
  ·refine re (p:=1<c.More.length) (dy (fun h=>Hu (i:=0) U (fun v=>zH N v _ _) U) fun _=>aA fun h=>by cases h) fun b hb=>eA (xt fun h=>vX (i:=1) (hb h) fun v=>eA (wH N v 9) fun _=>bJ _) fun _=>bJ _
  refine dy (fun hk=>other U U ?_) fun _=> ?_
  ·refine re (p:=3<c.More.length) (dy (fun h=>Hu (i:=2) U (fun v=>zH N v _ _) U) fun _=>aA fun h=>by cases h) fun b hb=>eA (xt fun h=>vX (i:=3) (hb h) fun v=>eA (zH N v _ _) fun _=>bJ _) fun _=>bJ _
  refine dy (fun hk=> ?_) fun hk8=> ?_
  ·obtain ⟨b, -,h2,h3⟩:=sa N hN 2 (.inl rfl) c.More hc;have h2':cU N c.More 2=some b:=h2;rw [h2',bs]
   exact aA fun hb=>⟨fun _=>h3 hb,fun e=>absurd e U⟩
  refine dy (fun hk=> ?_) fun hk10=> ?_
  ·refine Sat.bind (P:=fun b=>b=true->1<=c.More.length) (dy (fun h=> ?_) fun _=>aA fun h=>by cases h) fun b hb=> ?_
   ·rw [show ((0:Int))=((0:Nat):Int) from rfl,aC U,bs];exact aA fun _=>by omega
   refine Sat.bind (P:=fun b=>b=true->yR c) (rA (fun h=> ?_) fun _=>aA fun h=>by cases h) fun b' hb'=>aA hb'
   have h1:=hb h;rw [BR ⟨by omega,by show (1:Int).toNat<=_;exact h1,Nat.le_refl _⟩]
   have hl:((c.More.drop ((1:Int).toNat)).take (c.More.length - (1:Int).toNat)).length=c.More.length - 1:=by
    rw [QD,List.length_drop];show min (c.More.length - 1) (c.More.length - 1)=_;omega
   obtain ⟨b2, -,h2,h3⟩:=sa N hN 4 (.inr rfl) ((c.More.drop ((1:Int).toNat)).take (c.More.length - (1:Int).toNat)) (by rw [hl];omega);have h2':cU N ((c.More.drop ((1:Int).toNat)).take (c.More.length - (1:Int).toNat)) 4=some b2:=h2;rw [h2',bs]
   exact aA fun hb2=>⟨fun e=>absurd e U,fun _=>⟨h1,by have:=h3 hb2;rw [hl] at this;exact this⟩⟩
  refine dy (fun hk=>other U U ?_) fun _=>other hk8 hk10 (bJ _)
  refine eA ?_ fun _=>bJ _
  exact lr (fun h=>vX (i:=0) (by have:=of_decide_eq_true h;omega) fun v=>eA (zH N v _ _) fun _=>bJ _) fun _=>bJ _
 unfold jl
 refine dy (fun _=>aA fun h=>by cases h) fun _=>dy (fun hk=>aA fun _=>⟨fun e=>absurd e U,fun e=>absurd e U⟩) fun _=>dy (fun hk=>j6 _ fun _=> .inl hk) fun _=>j6 _ fun h=> .inr (of_decide_eq_true h)
theorem rj (N:Nat)(hN:2000<N)(c:Ql)(hS:c.Slots.length<=1000)(hc:c.More.length<=1000):Sat (cy N c) fun b=>b=true->yR c:=by
 obtain ⟨b1,g1, -⟩:=sF N hN c hS hc N 0 U U;have g1':fx N c N 0=(bif b1 then cV N c else some false):=g1
 have hj:Sat (cV N c) fun b=>b=true->yR c:=by
  unfold cV
  refine Sat.bind (IF N c) fun y _=> ?_
  refine Sat.bind (P:=fun b=>b=true->yR c) (rA (fun _=>Sat.bind (J8 N hN c hc) fun _ h=>aA h) fun _=>aA fun h=>by cases h) fun _ h=>aA h
 unfold cy;rw [g1']
 iterate 6 refine Sat.bind (P:=fun _=>True) (lr (fun _=>bJ _) fun _=>bJ _) fun _ _=> ?_
 refine rA (fun _=>aA fun h=>by cases h) fun _=>rA (fun _=>hj) fun _=>aA fun h=>by cases h
theorem lg {α ρ:Type}(L:Nat->Int->Option ρ)(l:List α)(p:α->Bool)(bad k:Option ρ)
  (step: ∀m (i:Nat) (h:i<l.length),L (m+1) (i:Int)=bif p l[i] then L m ((i:Int)+1) else bad)
  (fin: ∀m,L (m+1) (l.length:Int)=k) (N:Nat) (hN:l.length<N):L N 0=bif l.all p then k else bad:=by
 have key: ∀m i:Nat,l.length<m+i->i<=l.length->L m (i:Int)=bif (l.drop i).all p then k else bad:=by
  intro m
  induction m with
  |zero=>intro i h1 h2;omega
  | succ m ih=>
   intro i h1 h2;by_cases hi:i<l.length
   ·rw [step m i hi,List.drop_eq_getElem_cons hi,List.all_cons];have h3:=ih (i+1) U hi;rw [show (((i+1:Nat)):Int)=(i:Int)+1 by omega] at h3;rw [h3];cases p l[i]<;>rfl
   have e:i=l.length:=by omega
   subst e;rw [fin,List.drop_length];rfl
 have:=key N 0 U U;simpa using this
theorem qo {α:Type}(L:Nat->Int->Option Bool)(l:List α)(p:α->Bool)
  (step: ∀m (i:Nat) (h:i<l.length),L (m+1) (i:Int)=bif p l[i] then L m ((i:Int)+1) else some false)
  (fin: ∀m,L (m+1) (l.length:Int)=some true) (N:Nat) (hN:l.length<N):L N 0=some (l.all p):=by
 rw [lg L l p _ _ step fin N hN];cases l.all p<;>rfl
theorem Kg {α ρ:Type}[DecidableEq α](L:Nat->Int->Option ρ)(a b:List α)(bad k:Option ρ)(hl:a.length=b.length)
  (step: ∀m (i:Nat) (h:i<a.length) (h':i<b.length),L (m+1) (i:Int)=bif decide (a[i]=b[i]) then L m ((i:Int)+1) else bad)
  (fin: ∀m,L (m+1) (a.length:Int)=k) (N:Nat) (hN:a.length<N):L N 0=bif decide (a=b) then k else bad:=by
 have key: ∀m i:Nat,a.length<m+i->i<=a.length->L m (i:Int)=bif decide (a.drop i=b.drop i) then k else bad:=by
  intro m
  induction m with
  |zero=>intro i h1 h2;omega
  | succ m ih=>
   intro i h1 h2;by_cases hi:i<a.length
   ·have hi':i<b.length:=by omega
    rw [step m i hi hi',List.drop_eq_getElem_cons hi,List.drop_eq_getElem_cons hi'];have h3:=ih (i+1) U hi;rw [show (((i+1:Nat)):Int)=(i:Int)+1 by omega] at h3;rw [h3];by_cases e:a[i]=b[i]
    ·rw [Qs e,cond_true,e];by_cases e2:a.drop (i+1)=b.drop (i+1)
     ·rw [Qs e2,e2,Qs rfl]
     rw [Qt e2,Qt (fun h=>e2 (List.cons.inj h).2)]
    rw [Qt e,Qt (fun h=>e (List.cons.inj h).1)];rfl
   have e:i=a.length:=by omega
   subst e;rw [fin,List.drop_length,hl,List.drop_length,Qs rfl];rfl
 have:=key N 0 U U;simpa using this
theorem Ig {α:Type}[DecidableEq α](L:Nat->Int->Option Bool)(a b:List α)
  (step:a.length=b.length-> ∀m (i:Nat) (h:i<a.length) (h':i<b.length),L (m+1) (i:Int)=bif decide (a[i]=b[i]) then L m ((i:Int)+1) else some false)
  (fin: ∀m,L (m+1) (a.length:Int)=some true) (N:Nat) (hN:a.length<N):(bif !decide ((a.length:Int)=(b.length:Int)) then some false else L N 0)=some (decide (a=b)):=by
 by_cases hl:a.length=b.length
 ·rw [Qs (p:=((a.length:Int)=(b.length:Int))) U,nt,cf,Kg L a b (some false) (some true) hl (step hl) fin N hN];cases decide (a=b)<;>rfl
 rw [Qt (p:=((a.length:Int)=(b.length:Int))) U,nf,ct,Qt (fun e=>hl (by rw [e]))]
theorem all_map {α β:Type}(f:α->β)(p:β->Bool)(l:List α):(l.map f).all p=l.all fun x=>p (f x):=by rw [List.all_map];rfl
theorem yP {α:Type}(q p:α->Bool): ∀l:List α,(l.filter q).all p=l.all fun x=> !q x||p x
 | []=>rfl
 |x::l=>by
  rw [List.filter_cons,List.all_cons, <-yP q p l];cases h:q x<;>simp
def K2 {α β:Type}[DecidableEq α](a:α)(b:β):List (α×β)->List (α×β)
 | []=> [(a,b)]
 |p::l=>if p.1=a then (a,b)::l else p::K2 a b l
theorem K4 {α β:Type}[DecidableEq α](L:List (α×β))(a:α)(b:β):za L a b=K2 a b L:=by
 have key: ∀(L:List (α×β)) (j:Nat),(∃i c,fp a L j=some (i,c)/\j<=i/\L.set (i - j) (a,b)=K2 a b L)\/(fp a L j=none/\L++ [(a,b)]=K2 a b L):=by
  intro L
  induction L with
  |nil=>intro j;exact .inr ⟨J,J⟩
  | cons p l ih=>
   intro j;obtain ⟨x,y⟩:=p;by_cases e:a=x
   ·refine .inl ⟨j,y,by simp [fp,e],Nat.le_refl _,?_⟩;rw [Nat.sub_self];simp [K2,e]
   have e': ¬x=a:=fun h=>e h.symm
   rcases ih (j+1) with ⟨i,c,h1,h2,h3⟩|⟨h1,h2⟩
   ·refine .inl ⟨i,c,by simp [fp,e,h1],by omega,?_⟩;rw [show i - j=(i - (j+1))+1 by omega,List.set_cons_succ,h3];simp [K2,e']
   exact .inr ⟨by simp [fp,e,h1],by simp [K2,e',h2]⟩
 unfold za;rcases key L 0 with ⟨i,c,h1, -,h3⟩|⟨h1,h2⟩
 ·rw [h1];exact h3
 rw [h1];exact h2
theorem zP {α β:Type}[DecidableEq α](p:α×β)(l:List (α×β))(x:α):lk (p::l) x=if p.1=x then some p.2 else lk l x:=by
 unfold lk;rw [List.find?_cons];by_cases e:p.1=x<;>simp [e]
theorem Gg {α β:Type}[DecidableEq α](L:List (α×β))(a:α)(b:β)(x:α):lk (za L a b) x=if a=x then some b else lk L x:=by
 rw [K4]
 induction L with
 |nil=>rw [K2,zP]
 | cons p l ih=>
  unfold K2;by_cases e:p.1=a
  ·rw [if_pos e,zP,zP,e];by_cases e2:a=x<;>simp [e2]
  rw [if_neg e,zP,zP,ih];by_cases e2:p.1=x
  ·rw [if_pos e2,if_pos e2,if_neg (fun h=>e (by rw [e2,h]))]
  rw [if_neg e2,if_neg e2]
abbrev vZ:Qn:=⟨0,0,⟨#[]⟩⟩
def qJ (l:List Qn)(i:Nat):Qn:=l.getD i vZ
theorem kR {l:List Qn}{i:Nat}(h:i<l.length):aw l (i:Int)=some (qJ l i):=by
 rw [aC h];unfold qJ;simp [List.getD,h]
def ra (v:Qn):Bool:=(ig 0 v).getD false
theorem Gd (N:Nat)(v:Qn):ig N v=some (ra v):=by
 obtain ⟨b,hb⟩:=Ge 0 v;have e:ig N v=ig 0 v:=Eq.trans rfl rfl;unfold ra;rw [e,hb];rfl
def numB (v:Qn)(a b:Int):Bool:=decide (v.Kind=3)&&(decide (a<=v.N)&&decide (v.N<=b))
def noneB (v:Qn)(k:Int):Bool:=decide (v.Kind=0)||decide (v.Kind=k)
theorem wG (N:Nat)(v:Qn)(a b:Int):fg N v a b=some (numB v a b):=by
 unfold fg numB;cases decide (v.Kind=3)<;>cases decide (a<=v.N)<;>cases decide (v.N<=b)<;>rfl
theorem ul (N:Nat)(v:Qn)(k:Int):dA N v k=some (noneB v k):=by
 unfold dA noneB;cases decide (v.Kind=0)<;>cases decide (v.Kind=k)<;>rfl
def Fd (k:Int):Bool:=decide (k=1)||decide (k=2)||decide (k=3)||decide (k=6)||decide (k=8)||decide (k=9)||decide (k=10)
theorem G6 (N:Nat)(k:Int):iY N k=some (Fd k):=by
 unfold iY Fd;cases decide (k=1)<;>cases decide (k=2)<;>cases decide (k=3)<;>cases decide (k=6)<;>cases decide (k=8)<;>cases decide (k=9)<;>cases decide (k=10)<;>rfl
def qv (k sh fl:Int)(l:List Qn):Bool:=
 bif Fd k||(decide (k=7)&&decide (0<l.length)) then decide (1<=l.length)&&decide (l.length<=1025)&&(decide ((qJ l 0).Kind=1)||decide ((qJ l 0).Kind=7))
 else bif decide (k=7) then decide (sh=0) else bif !decide (sh=0)|| !decide (fl=0) then false else bif decide (k=5) then decide (l.length=2)&&noneB (qJ l 0) 7&&noneB (qJ l 1) 7 else decide (l.length=0)
theorem gt {p q:Prop}[Decidable p][Decidable q](h:p↔q):decide p=decide q:=by
 by_cases hp:p
 ·rw [Qs hp,Qs (h.1 hp)]
 rw [Qt hp,Qt fun hq=>hp (h.2 hq)]
theorem GW (N:Nat)(c:Ql):gQ N c=some (qv c.Kind c.Shape c.Flags c.Slots):=by
 unfold gQ qv;rw [G6,bs,gt (p:=(0:Int)<(c.Slots.length:Int)) (q:=0<c.Slots.length) U,gt (p:=(1:Int)<=(c.Slots.length:Int)) (q:=1<=c.Slots.length) U,gt (p:=(c.Slots.length:Int)<=1025) (q:=c.Slots.length<=1025) U,gt (p:=(c.Slots.length:Int)=2) (q:=c.Slots.length=2) U,gt (p:=(c.Slots.length:Int)=0) (q:=c.Slots.length=0) U]
 have hA: ∀b:Bool,((bif decide (1<=c.Slots.length) then some (decide (c.Slots.length<=1025)) else some false).bind fun b8=>(bif b8 then ((aw c.Slots 0).bind fun x10=>(bif decide (x10.Kind=1) then (some true) else ((aw c.Slots 0).bind fun x12=>some (decide (x12.Kind=7)))).bind fun b11=>some b11) else (some false)).bind fun b9=>some b9)=some (decide (1<=c.Slots.length)&&decide (c.Slots.length<=1025)&&(decide ((qJ c.Slots 0).Kind=1)||decide ((qJ c.Slots 0).Kind=7))):=fun _=>by
  by_cases h:1<=c.Slots.length
  ·have g:aw c.Slots 0=some (qJ c.Slots 0):=kR (i:=0) U;rw [Qs h,g];simp only [bs];cases decide (c.Slots.length<=1025)<;>cases decide ((qJ c.Slots 0).Kind=1)<;>cases decide ((qJ c.Slots 0).Kind=7)<;>rfl
  rw [Qt h];rfl
 have hB:((bif decide (c.Slots.length=2) then ((aw c.Slots 0).bind fun x18=>(dA N x18 7).bind fun y19=>some y19) else (some false)).bind fun b17=>(bif b17 then ((aw c.Slots 1).bind fun x21=>(dA N x21 7).bind fun y22=>some y22) else (some false)).bind fun b20=>some b20)=some (decide (c.Slots.length=2)&&noneB (qJ c.Slots 0) 7&&noneB (qJ c.Slots 1) 7):=by
  by_cases h:c.Slots.length=2
  ·have g:aw c.Slots 0=some (qJ c.Slots 0):=kR (i:=0) U;have g1:aw c.Slots 1=some (qJ c.Slots 1):=kR (i:=1) U;rw [Qs h,g,g1];simp only [bs,ul];cases noneB (qJ c.Slots 0) 7<;>cases noneB (qJ c.Slots 1) 7<;>rfl
  rw [Qt h];rfl
 rw [hA true,hB];cases Fd c.Kind<;>cases decide (c.Kind=7)<;>cases decide (0<c.Slots.length)<;>cases decide (c.Shape=0)<;>cases decide (c.Flags=0)<;>cases decide (c.Kind=5)<;>rfl
def sb:List Qn->Bool
 |k::v::r=>decide (k.Kind=7)&& !decide (v.Kind=8)&&sb r
 | [_]=>false
 | []=>true
def nX:List Qn->Bool
 |t::h::k::s::r=>decide (t.Kind=7)&& !decide (h.Kind=8)&&(noneB k 7&&numB s 0 9007199254740992)&&nX r
 | []=>true
 |_=>false
theorem pu (k v:Qn)(r:List Qn):sb (k::v::r)=(decide (k.Kind=7)&& !decide (v.Kind=8)&&sb r):=Eq.trans rfl rfl
theorem pt (t h k s:Qn)(r:List Qn):nX (t::h::k::s::r)=(decide (t.Kind=7)&& !decide (h.Kind=8)&&(noneB k 7&&numB s 0 9007199254740992)&&nX r):=Eq.trans rfl rfl
theorem Er: ∀{l:List Qn},sb l=true->l.length%2=0
 | [],_=>rfl
 | [_],h=>by cases h
 |k::v::r,h=>by
  rw [pu] at h;rw [QG] at h;have:=Er h.2;simp only [List.length_cons];omega
theorem Ep: ∀{l:List Qn},nX l=true->l.length%4=0
 | [],_=>rfl
 | [_],h=>by cases h
 | [_,_],h=>by cases h
 | [_,_,_],h=>by cases h
 |t::a::k::s::r,h=>by
  rw [pt] at h;rw [QG] at h;have:=Ep h.2;simp only [List.length_cons];omega
theorem xK {l r:List Qn}{i:Nat}{v:Qn}(h:l.drop i=v::r):aw l (i:Int)=some v/\l.drop (i+1)=r:=by
 have hl:i<l.length:=by
  rcases Nat.lt_or_ge i l.length with h1|h1
  ·exact h1
  rw [List.drop_eq_nil_of_le h1] at h;cases h
 rw [List.drop_eq_getElem_cons hl] at h;obtain ⟨e1,e2⟩:=List.cons.inj h;exact ⟨by rw [aC hl,e1],e2⟩
theorem Eu (N:Nat)(l:List Qn)(hl:l.length<=1000): ∀(m i:Nat),l.length<m+i->i<=l.length->(l.length - i)%2=0->eC N 2 l m (i:Int)=some (sb (l.drop i))
 |0,i,h,h2,_=>by omega
 | m+1,i,h,h2,h3=>by
  rw [eC.eq_2]
  match hd:l.drop i with
  | []=>
   have hi:l.length<=i:=by have:=congrArg List.length hd;rw [List.length_drop] at this;simp at this;omega
   rw [bH U,cf];rfl
  | [x]=>have:=congrArg List.length hd;rw [List.length_drop] at this;simp at this;omega
  |k::v::r=>
   have hlen:=congrArg List.length hd;rw [List.length_drop] at hlen;simp only [List.length_cons] at hlen;obtain ⟨g1,d1⟩:=xK hd;obtain ⟨g2,d2⟩:=xK d1;rw [show (((i+1:Nat)):Int)=(i:Int)+1 by omega] at g2;have ih:=Eu N l hl m (i+2) U U U;rw [show (((i+2:Nat)):Int)=(i:Int)+2 by omega,d2] at ih;rw [bG U,ct,g1,bs,r64 U U,g2,bs,Qt (p:=(2:Int)=4) (by decide),cf,bs,cf,r64 U U,ih];simp only [pu];cases decide (k.Kind=7)<;>cases decide (v.Kind=8)<;>rfl
theorem Es (N:Nat)(l:List Qn)(hl:l.length<=1000): ∀(m i:Nat),l.length<m+i->i<=l.length->(l.length - i)%4=0->eC N 4 l m (i:Int)=some (nX (l.drop i))
 |0,i,h,h2,_=>by omega
 | m+1,i,h,h2,h3=>by
  rw [eC.eq_2]
  match hd:l.drop i with
  | []=>
   have hi:l.length<=i:=by have:=congrArg List.length hd;rw [List.length_drop] at this;simp at this;omega
   rw [bH U,cf];rfl
  | [x]=>have:=congrArg List.length hd;rw [List.length_drop] at this;simp at this;omega
  | [x,y]=>have:=congrArg List.length hd;rw [List.length_drop] at this;simp at this;omega
  | [x,y,z]=>have:=congrArg List.length hd;rw [List.length_drop] at this;simp at this;omega
  |t::v::k::s::r=>
   have hlen:=congrArg List.length hd;rw [List.length_drop] at hlen;simp only [List.length_cons] at hlen;obtain ⟨g1,d1⟩:=xK hd;obtain ⟨g2,d2⟩:=xK d1;obtain ⟨g3,d3⟩:=xK d2;obtain ⟨g4,d4⟩:=xK d3;rw [show (((i+1:Nat)):Int)=(i:Int)+1 by omega] at g2;rw [show (((i+1+1:Nat)):Int)=(i:Int)+2 by omega] at g3;rw [show (((i+1+1+1:Nat)):Int)=(i:Int)+3 by omega] at g4;have ih:=Es N l hl m (i+4) U U U;rw [show (((i+4:Nat)):Int)=(i:Int)+4 by omega,d4] at ih;rw [bG U,ct,g1,bs,r64 U U,g2,bs,Qs (p:=(4:Int)=4) rfl,ct,r64 U U,g3,bs,ul,bs,r64 U U,g4,bs,wG,bs,r64 U U,ih];simp only [pt];cases decide (t.Kind=7)<;>cases decide (v.Kind=8)<;>cases noneB k 7<;>cases numB s 0 9007199254740992<;>rfl
theorem KA (N:Nat)(hN:2000<N)(l:List Qn)(hl:l.length<=1000):cU N l 2=some (sb l):=by
 unfold cU;rw [gL (by decide)]
 have e:(l.length:Int).tmod 2=((l.length%2:Nat):Int):=by rw [Int.tmod_eq_emod_of_nonneg U];omega
 rw [e];by_cases h:l.length%2=0
 ·rw [h,Qs (p:=((0:Nat):Int)=0) rfl,nt,cf];exact Eu N l hl N 0 U U U
 rw [Qt U,nf,ct]
 cases hb:sb l with
 |false=>rfl
 |true=>exact absurd (Er hb) h
theorem Kz (N:Nat)(hN:2000<N)(l:List Qn)(hl:l.length<=1000):cU N l 4=some (nX l):=by
 unfold cU;rw [gL (by decide)]
 have e:(l.length:Int).tmod 4=((l.length%4:Nat):Int):=by rw [Int.tmod_eq_emod_of_nonneg U];omega
 rw [e];by_cases h:l.length%4=0
 ·rw [h,Qs (p:=((0:Nat):Int)=0) rfl,nt,cf];exact Es N l hl N 0 U U U
 rw [Qt U,nf,ct]
 cases hb:nX l with
 |false=>rfl
 |true=>exact absurd (Ep hb) h
def rR (k:Int)(l:List Qn):Bool:=
 bif decide (k=2) then decide (l.length<=4096)
 else bif decide (k=1)||decide (k=5) then decide (l.length=0)
 else bif decide (k=3) then decide (l.length=3)&&numB (qJ l 0) 0 9007199254740992&&noneB (qJ l 1) 9
 else bif decide (k=4) then decide (1<=l.length)&&decide (l.length<=4097)&&noneB (qJ l 0) 9
 else bif decide (k=6) then decide (l.length=2)&&numB (qJ l 0) 0 3&&noneB (qJ l 1) 9
 else bif decide (k=7) then decide (4<=l.length)&&numB (qJ l 2) 0 1&&numB (qJ l 3) 0 9007199254740992
 else bif decide (k=8) then sb l
 else bif decide (k=10) then decide (1<=l.length)&&decide ((qJ l 0).Kind=7)&&nX (l.drop 1)
 else bif decide (k=9) then decide (2<=l.length)&&numB (qJ l 0) 0 2
 else true
theorem I3 (N:Nat)(hN:2000<N)(c:Ql)(hc:c.More.length<=1000):jl N c=some (rR c.Kind c.More):=by
 have h6: ∀p:Bool,p=(decide (c.Kind=1)||decide (c.Kind=5))->c.Kind≠2->iX N c p=some (rR c.Kind c.More):=by
  intro p hp h2;subst hp;unfold iX rR;rw [eJ h2,cf];rcases Bool.eq_false_or_eq_true (decide (c.Kind=1)||decide (c.Kind=5)) with h15|h15
  ·rw [h15,ct,ct,gt (p:=(c.More.length:Int)=0) (q:=c.More.length=0) U]
  rw [h15,cf,cf];by_cases k3:c.Kind=3
  ·rw [kB k3,ct,ct,gt (p:=(c.More.length:Int)=3) (q:=c.More.length=3) U];by_cases h:c.More.length=3
   ·have g0:aw c.More 0=some (qJ c.More 0):=kR (i:=0) U;have g1:aw c.More 1=some (qJ c.More 1):=kR (i:=1) U;rw [Qs h,g0,g1];simp only [bs,wG,ul];cases numB (qJ c.More 0) 0 9007199254740992<;>cases noneB (qJ c.More 1) 9<;>rfl
   rw [Qt h];rfl
  rw [eJ k3,cf,cf];by_cases k4:c.Kind=4
  ·rw [kB k4,ct,ct,gt (p:=(1:Int)<=(c.More.length:Int)) (q:=1<=c.More.length) U,gt (p:=(c.More.length:Int)<=4097) (q:=c.More.length<=4097) U];by_cases h:1<=c.More.length
   ·have g0:aw c.More 0=some (qJ c.More 0):=kR (i:=0) U;rw [Qs h,g0];simp only [bs,ul];cases decide (c.More.length<=4097)<;>cases noneB (qJ c.More 0) 9<;>rfl
   rw [Qt h];rfl
  rw [eJ k4,cf,cf];by_cases k6:c.Kind=6
  ·rw [kB k6,ct,ct,gt (p:=(c.More.length:Int)=2) (q:=c.More.length=2) U];by_cases h:c.More.length=2
   ·have g0:aw c.More 0=some (qJ c.More 0):=kR (i:=0) U;have g1:aw c.More 1=some (qJ c.More 1):=kR (i:=1) U;rw [Qs h,g0,g1];simp only [bs,wG,ul];cases numB (qJ c.More 0) 0 3<;>cases noneB (qJ c.More 1) 9<;>rfl
   rw [Qt h];rfl
  rw [eJ k6,cf,cf];by_cases k7:c.Kind=7
  ·rw [kB k7,ct,ct,gt (p:=(4:Int)<=(c.More.length:Int)) (q:=4<=c.More.length) U];by_cases h:4<=c.More.length
   ·have g2:aw c.More 2=some (qJ c.More 2):=kR (i:=2) U;have g3:aw c.More 3=some (qJ c.More 3):=kR (i:=3) U;rw [Qs h,g2,g3];simp only [bs,wG];cases numB (qJ c.More 2) 0 1<;>cases numB (qJ c.More 3) 0 9007199254740992<;>rfl
   rw [Qt h];rfl
  rw [eJ k7,cf,cf];by_cases k8:c.Kind=8
  ·rw [kB k8,ct,ct,KA N hN _ hc,bs]
  rw [eJ k8,cf,cf];by_cases k10:c.Kind=10
  ·rw [kB k10,ct,ct,gt (p:=(1:Int)<=(c.More.length:Int)) (q:=1<=c.More.length) U];by_cases h:1<=c.More.length
   ·have g0:aw c.More 0=some (qJ c.More 0):=kR (i:=0) U;have hd:((c.More.drop ((1:Int).toNat)).take (c.More.length - (1:Int).toNat))=c.More.drop 1:=List.take_of_length_le (by rw [List.length_drop];exact Nat.le_refl _);rw [Qs h,g0,hd,gL ⟨by omega,by show 1<=_;omega,Nat.le_refl _⟩,Kz N hN _ (by rw [List.length_drop];omega)];simp only [bs];cases decide ((qJ c.More 0).Kind=7)<;>cases nX (c.More.drop 1)<;>rfl
   rw [Qt h];rfl
  rw [eJ k10,cf,cf];by_cases k9:c.Kind=9
  ·rw [kB k9,ct,ct,gt (p:=(2:Int)<=(c.More.length:Int)) (q:=2<=c.More.length) U];by_cases h:2<=c.More.length
   ·have g0:aw c.More 0=some (qJ c.More 0):=kR (i:=0) U;rw [Qs h,g0];simp only [bs,wG];cases numB (qJ c.More 0) 0 2<;>rfl
   rw [Qt h];rfl
  rw [eJ k9,cf,cf]
 unfold jl;rw [bH U,cf];by_cases k2:c.Kind=2
 ·rw [kB k2,ct];unfold rR;rw [kB k2,ct,gt (p:=(c.More.length:Int)<=4096) (q:=c.More.length<=4096) U]
 rw [eJ k2,cf];by_cases k1:c.Kind=1
 ·rw [kB k1,ct];exact h6 _ (by rw [kB k1];rfl) k2
 rw [eJ k1,cf];exact h6 _ (by rw [eJ k1];rfl) k2
def cY (c:Ql):Bool:=
 (!decide (c.Kind<1)&& !decide (11<c.Kind)&& !decide (c.Shape<0)&& !decide (c.Flags<0)&& !decide (63<c.Flags)&& !decide (c.Age<0)&& !decide (1<c.Age))&&(c.Slots.all ra&&(c.More.all ra&&(qv c.Kind c.Shape c.Flags c.Slots&&rR c.Kind c.More)))
theorem nD (N:Nat)(hN:2000<N)(c:Ql)(hS:c.Slots.length<=1000)(hc:c.More.length<=1000):cy N c=some (cY c):=by
 have h19:cV N c=some (qv c.Kind c.Shape c.Flags c.Slots&&rR c.Kind c.More):=by
  unfold cV;rw [GW,I3 N hN c hc,bs];cases qv c.Kind c.Shape c.Flags c.Slots<;>rfl
 have h20:kZ N c N 0=some (c.More.all ra&&(qv c.Kind c.Shape c.Flags c.Slots&&rR c.Kind c.More)):=by
  rw [lg (fun k i=>kZ N c k i) c.More ra (some false) (some (qv c.Kind c.Shape c.Flags c.Slots&&rR c.Kind c.More)) (fun k i h=> ?_) (fun k=> ?_) N U]
  ·cases c.More.all ra<;>rfl
  ·rw [kZ.eq_2,bG U,ct,aC h,bs,Gd,bs,r64 U U];cases ra c.More[i]<;>rfl
  rw [kZ.eq_2,bH U,cf,h19]
 have h12:fx N c N 0=some (c.Slots.all ra&&(c.More.all ra&&(qv c.Kind c.Shape c.Flags c.Slots&&rR c.Kind c.More))):=by
  rw [lg (fun k i=>fx N c k i) c.Slots ra (some false) (some (c.More.all ra&&(qv c.Kind c.Shape c.Flags c.Slots&&rR c.Kind c.More))) (fun k i h=> ?_) (fun k=> ?_) N U]
  ·cases c.Slots.all ra<;>rfl
  ·rw [fx.eq_2,bG U,ct,aC h,bs,Gd,bs,r64 U U];cases ra c.Slots[i]<;>rfl
  rw [fx.eq_2,bH U,cf];unfold tH;exact h20
 unfold cy cY;rw [h12];cases decide (c.Kind<1)<;>cases decide (11<c.Kind)<;>cases decide (c.Shape<0)<;>cases decide (c.Flags<0)<;>cases decide (63<c.Flags)<;>cases decide (c.Age<0)<;>cases decide (1<c.Age)<;>rfl
theorem C7 (N:Nat)(x:Int)(l:List Int)(hl:l.length<=5000): ∀(m i:Nat),l.length<m+i->i<=l.length->Sat (kD N x l m (i:Int)) fun r=>decide (0<=r)=decide (x∈l.drop i)
 |0,i,h,h2=>by omega
 | m+1,i,h,h2=>by
  rw [kD.eq_2];by_cases hi:i<l.length
  ·rw [bG U,ct,aC hi,bs,List.drop_eq_getElem_cons hi]
   refine dy (fun e=> ?_) fun e=> ?_
   ·exact aA (by rw [Qs U,Qs];rw [e];exact List.mem_cons_self ..)
   rw [r64 U U];have:=C7 N x l hl m (i+1) U hi;simp only [Int.natCast_add,Int.cast_ofNat_Int] at this
   refine this.mono fun r hr=> ?_
   rw [hr];have:(x∈l[i]::l.drop (i+1))↔x∈l.drop (i+1):=⟨fun h=>(List.mem_cons.1 h).resolve_left (fun e2=>e e2),List.mem_cons_of_mem _⟩;rw [decide_eq_decide];exact this.symm
  rw [bH U,cf,List.drop_eq_nil_of_le U];exact aA (by simp)
theorem pP (N:Nat)(hN:6500<N)(l:List Int)(hl:l.length<=5000)(x:Int):dL N l x=some (decide (x∈l)):=by
 obtain ⟨r,h1,h2⟩:=C7 N x l hl N 0 U U;unfold dL rx;rw [show kD N x l N 0=some r from h1,bs,h2];rfl
theorem Kl (N:Nat)(hN:6500<N)(l:List Int)(hl:l.length<=5000)(x:Int):qi N x l=some (decide (x∈l)):=by
 apply Sat.eq;unfold qi
 have key: ∀(m i:Nat),l.length<m+i->i<=l.length->Sat (xB N x l m (i:Int)) (· =decide (x∈l.drop i)):=by
  intro m
  induction m with
  |zero=>intro i h h2;omega
  | succ m ih=>
   intro i h h2;rw [xB.eq_2];by_cases hi:i<l.length
   ·rw [bG U,ct,aC hi,bs,List.drop_eq_getElem_cons hi]
    refine dy (fun e=> ?_) fun e=> ?_
    ·exact aA (by rw [Qs];rw [e];exact List.mem_cons_self ..)
    rw [r64 U U];have:=ih (i+1) U hi;simp only [Int.natCast_add,Int.cast_ofNat_Int] at this
    refine this.mono fun r hr=> ?_
    rw [hr];have:(x∈l[i]::l.drop (i+1))↔x∈l.drop (i+1):=⟨fun h=>(List.mem_cons.1 h).resolve_left (fun e2=>e e2.symm),List.mem_cons_of_mem _⟩;rw [decide_eq_decide];exact this.symm
   rw [bH U,cf,List.drop_eq_nil_of_le U];exact aA (by simp)
 exact key N 0 U U
theorem Oq (N:Nat)(hN:6500<N)(l:List Int)(hl:l.length<=5000)(x:Int):zp N l x=some (decide (x∈l)):=by
 apply Sat.eq;unfold zp
 have key: ∀(m i:Nat),l.length<m+i->i<=l.length->Sat (xz N x l m (i:Int)) (· =decide (x∈l.drop i)):=by
  intro m
  induction m with
  |zero=>intro i h h2;omega
  | succ m ih=>
   intro i h h2;rw [xz.eq_2];by_cases hi:i<l.length
   ·rw [bG U,ct,aC hi,bs,List.drop_eq_getElem_cons hi]
    refine dy (fun e=> ?_) fun e=> ?_
    ·exact aA (by rw [Qs];rw [e];exact List.mem_cons_self ..)
    rw [r64 U U];have:=ih (i+1) U hi;simp only [Int.natCast_add,Int.cast_ofNat_Int] at this
    refine this.mono fun r hr=> ?_
    rw [hr];have:(x∈l[i]::l.drop (i+1))↔x∈l.drop (i+1):=⟨fun h=>(List.mem_cons.1 h).resolve_left (fun e2=>e e2.symm),List.mem_cons_of_mem _⟩;rw [decide_eq_decide];exact this.symm
   rw [bH U,cf,List.drop_eq_nil_of_le U];exact aA (by simp)
 exact key N 0 U U
def opens (p:Int->Bool):List Qn->List Int
 |k::v::l=>(bif bU v&&p k.N then [v.N] else [])++opens p l
 |_=> []
theorem rO (p:Int->Bool)(k v:Qn)(l:List Qn):opens p (k::v::l)=(bif bU v&&p k.N then [v.N] else [])++opens p l:=rfl
theorem D7 (p:Int->Bool): ∀l:List Qn,(opens p l).length<=l.length
 | []=>Nat.le_refl _
 | [_]=>Nat.zero_le _
 |k::v::l=>by
  have:=D7 p l;rw [rO,QC];cases bU v&&p k.N<;>simp<;>omega
theorem D6 {p:Int->Bool}{x:Int}: ∀{l:List Qn},x∈opens p l-> ∃v∈l,v.N=x
 | [],h=>by cases h
 | [_],h=>by cases h
 | k::v::l,h=>by
  rw [rO,List.mem_append] at h;rcases h with h|h
  ·cases hb:bU v&&p k.N
   ·rw [hb] at h;cases h
   rw [hb] at h;exact ⟨v,by simp,(List.mem_singleton.1 h).symm⟩
  obtain ⟨w,h1,h2⟩:=D6 h;exact ⟨w,by simp [h1],h2⟩
theorem F7 {p q:Int->Bool}(h: ∀x,p x=q x)(l:List Qn):opens p l=opens q l:=by rw [show p=q from funext h]
theorem rX (v:Qn):((bif decide (v.Kind=7) then (some true) else (some (decide (v.Kind=9)))):Option Bool)=some (bU v):=by unfold bU;cases decide (v.Kind=7)<;>rfl
def dJ (N:Nat)(c:Ql)(l:List Int):List Int:=bif nL N c then opens (fun x=>decide (x∈l)) c.More else []
theorem yE (N:Nat)(c:Ql)(l:List Int):(dJ N c l).length<=c.More.length:=by
 unfold dJ;cases nL N c
 ·exact Nat.zero_le _
 exact D7 _ _
theorem Ha {N:Nat}{c:Ql}{l:List Int}{x:Int}(h:x∈dJ N c l): ∃v∈c.Slots++c.More,v.N=x:=by
 unfold dJ at h;cases hw:nL N c
 ·rw [hw] at h;cases h
 rw [hw] at h;obtain ⟨v,h1,h2⟩:=D6 h;exact ⟨v,by simp [h1],h2⟩
theorem G8 (N:Nat)(hN:6500<N)(l:List Int)(hl:l.length<=5000)(k v:Qn)(s:List Int)(hs:s.length<=5000):dn (fun x st=>ir N l x st) (k,v) (none,s)=some (true,(none,s++(bif bU v&&decide (k.N∈l) then [v.N] else []))):=by
 unfold dn ir;simp only [rX,bs,pP N hN l hl];cases bU v
 ·simp only [cf,bs,Bool.false_and,List.append_nil];rfl
 simp only [ct,bs,Bool.true_and];cases decide (k.N∈l)
 ·simp only [cf,List.append_nil];rfl
 simp only [ct];rw [rF (by simp;omega)];rfl
theorem Ae (N:Nat)(hN:6500<N)(l:List Int)(hl:l.length<=5000)(c:Ql)(hc:c.More.length<=1000)(he:c.More.length%2=0): ∀(m i:Nat) (s:List Int),c.More.length<m+i->i<=c.More.length->i%2=0->s.length<=i->ed N (dn (fun x st=>ir N l x st)) c m (i:Int) (none,s)=some (none,s++opens (fun x=>decide (x∈l)) (c.More.drop i))
 |0,i,s,h,h2,_,_=>by omega
 | m+1,i,s,h,h2,h3,h4=>by
  rw [ed.eq_2,r64 (a:=(i:Int)+1) U U];by_cases hi:i<c.More.length
  ·have hi1:i+1<c.More.length:=by omega
   have hl1:aw c.More ((i:Int)+1)=some c.More[i+1]:=by
    have:=aC hi1;simpa using this
   rw [bG U,ct,aC hi,bs,r64 (a:=(i:Int)+1) U U,hl1,bs,G8 N hN l hl _ _ s U,bs];simp only [nt,cf];rw [r64 U U]
   have hlen:(s++(bif bU c.More[i+1]&&decide (c.More[i].N∈l) then [c.More[i+1].N] else [])).length<=i+2:=by
    cases bU c.More[i+1]&&decide (c.More[i].N∈l)<;>simp<;>omega
   have:=Ae N hN l hl c hc he m (i+2) _ U U U hlen;simp only [Int.natCast_add,Int.cast_ofNat_Int] at this;rw [this,List.drop_eq_getElem_cons hi,List.drop_eq_getElem_cons hi1,rO,Qv]
  rw [bH U,cf,List.drop_eq_nil_of_le U];simp [opens]
theorem CP (N:Nat)(hN:6500<N)(l:List Int)(hl:l.length<=5000)(c:Ql)(hS:c.Slots.length<=1000)(hc:c.More.length<=1000):oa N c l=some (dJ N c l):=by
 obtain ⟨-,h1,h2⟩:=Fo N U c hS hc;unfold oa dJ iO;rw [h1,bs];cases hw:nL N c
 ·rfl
 have e:lG N c=some ():=rfl;have:=Ae N hN l hl c hc (h2 hw) N 0 [] U U rfl (by simp);simp only [nt,cf,ct,e,bs];have h3:ed N (dn (fun x st=>ir N l x st)) c N 0 (none,[])=some (none,[]++opens (fun x=>decide (x∈l)) (c.More.drop 0)):=this;rw [h3,bs];rfl
theorem D5 (N:Nat)(hN:6500<N)(l:List Int)(hl:l.length<=5000)(c:Ql)(hS:c.Slots.length<=1000)(hc:c.More.length<=1000):qh N c l=some (dJ N c l):=by
 obtain ⟨h1, -,h2⟩:=Fo N U c hS hc;unfold qh dJ;cases hw:nL N c
 ·obtain ⟨n,rfl⟩: ∃n,N=n+1:=⟨N - 1,by omega⟩;rw [mu.eq_2,h1,bs,hw];simp only [cf,bs];rfl
 have he:=h2 hw
 have key: ∀(m i:Nat) (s:List Int),c.More.length<m+i->i<=c.More.length->i%2=0->s.length<=i->mu N l c m s (i:Int)=some (s++opens (fun x=>decide (x∈l)) (c.More.drop i)):=by
  intro m
  induction m with
  |zero=>intro i s h h2;omega
  | succ m ih=>
   intro i s h h2 h3 h4;rw [mu.eq_2,h1,bs,hw,ct,bs];by_cases hi:i<c.More.length
   ·have hi1:i+1<c.More.length:=by omega
    have hl1:aw c.More ((i:Int)+1)=some c.More[i+1]:=by
     have:=aC hi1;simpa using this
    rw [bG U,ct,r64 (a:=(i:Int)+1) U U,hl1,bs,aC hi,bs,Kl N hN l hl,bs];simp only [rX,bs]
    have hlen:(s++(bif bU c.More[i+1]&&decide (c.More[i].N∈l) then [c.More[i+1].N] else [])).length<=i+2:=by
     cases bU c.More[i+1]&&decide (c.More[i].N∈l)<;>simp<;>omega
    have:=ih (i+2) _ U U U hlen;simp only [Int.natCast_add,Int.cast_ofNat_Int] at this;rw [List.drop_eq_getElem_cons hi,List.drop_eq_getElem_cons hi1,rO, <-Qv, <-this];unfold pF;rw [r64 (a:=(i:Int)+2) U U,r64 (a:=(i:Int)+2) U U];cases decide (c.More[i].N∈l)
    ·simp only [cf,bs,Bool.and_false,List.append_nil]
    cases bU c.More[i+1]
    ·simp only [ct,cf,bs,Bool.and_true,List.append_nil]
    simp only [ct,bs,Bool.and_true];rw [rF (by simp;omega)]
   rw [bH U,cf,List.drop_eq_nil_of_le U];simp [opens,uU]
 have:=key N 0 [] U U rfl (by simp);simpa using this
theorem wI: ∀(b:Nat) {l:List Int},l.Nodup->(∀x∈l,1<=x/\x<=(b:Int))->l.length<=b
 |0,l,_,h=>by
  cases l with
  |nil=>exact Nat.le_refl _
  |cons x l=>have:=h x (by simp);omega
 | b+1,l,hn,h=>by
  have h1:=wI b (hn.erase ((b:Int)+1)) fun x hx=>by
   obtain ⟨h2,h3⟩:=hn.mem_erase_iff.1 hx;have:=h x h3;omega
  have h2:=List.length_erase (a:=(b:Int)+1) (l:=l);split at h2<;>omega
theorem MR (kv:List (Int×Unit))(a:Int):(lk kv a).isSome=decide (a∈kv.map (·.1)):=by
 unfold lk;rw [Bool.eq_iff_iff];simp [List.find?_isSome,List.mem_map]
def W64 (m:Qg):Prop:= ∀c∈m.Young++m.Old, ∀v∈c.Slots++c.More,in64 v.N
theorem W64.at_ {m:Qg}(h:W64 m)(a:Int): ∀v∈(bK m a).Slots++(bK m a).More,in64 v.N:=by
 unfold bK
 cases hc:iG m a with
 |none=>intro v hv;simp [AW] at hv
 |some c=>exact h c (sk hc)
structure Tr (m:Qg) (all:List Int) (met:List (Int×Unit)):Prop where
 nd:all.Nodup
 mem: ∀x,x∈met.map (·.1)↔x∈all
 has: ∀x∈all,bp m x=true
theorem Tr.len {m:Qg}{roots:List Qn}(hs:Small m roots){all:List Int}{met:List (Int×Unit)}(h:Tr m all met):all.length<=1200:=wI 1200 h.nd fun x hx=>⟨by have:=qp (h.has x hx);omega,by have:=vt hs (h.has x hx);omega⟩
theorem Tr.in64 {m:Qg}{roots:List Qn}(hs:Small m roots){all:List Int}{met:List (Int×Unit)}(h:Tr m all met){x:Int}(hx:x∈all):in64 x:=by
 have h1:=qp (h.has x hx);have h2:=vt hs (h.has x hx);unfold Go.Proofs.YthepenpebkjdfaaGreat.in64;omega
theorem Tr.add {m:Qg}{all:List Int}{met:List (Int×Unit)}(h:Tr m all met){x:Int}(hx:x∉all)(hh:bp m x=true):Tr m (all++ [x]) (za met x ()):=⟨List.nodup_append.2 ⟨h.nd,by simp,fun a ha b hb e=>by rw [List.mem_singleton] at hb;subst hb;subst e;exact hx ha⟩,fun y=>by
 rw [K5,List.mem_append,List.mem_singleton,h.mem y];exact Or.comm,fun y hy=>by
 rcases List.mem_append.1 hy with hy|hy
 ·exact h.has y hy
 ·rw [List.mem_singleton] at hy;subst hy;exact hh⟩
def PZ (m:Qg)(all:List Int)(k:Nat):Prop:= ∀(i:Nat) (a x:Int),i<k->all[i]? =some a->x∈bC (bK m a)->bp m x=true->x∈all
theorem Gh {m:Qg}{roots:List Qn}(hs:Small m roots)(hw:W64 m)(a:Int):(bC (bK m a)).length<=2000/\ ∀x∈bC (bK m a),in64 x:=by
 have h1:=hs.at_ a;have h2:=eH (bK m a);refine ⟨by omega,fun x hx=> ?_⟩;obtain ⟨v,h3,rfl⟩:=C4 hx;exact hw.at_ a v h3
structure Gr where
 has:Int->Bool
 leads:Int->List Int
 opens:List Int->Int->List Int
def dg (has:Int->Bool):List Int->List Int->List Int
 |row,[]=>row
 |row,x::l=>dg has (bif has x&& !decide (x∈row) then row++ [x] else row) l
inductive Thr (g:Gr):List Int->Nat->List Int->Prop
 |done {row:List Int} {k:Nat}:row.length<=k->Thr g row k row
 |step {row:List Int} {k:Nat} {a:Int} {r:List Int}:row[k]? =some a->Thr g (dg g.has row (g.leads a)) (k+1) r->Thr g row k r
def nS (g:Gr):List Int->List Int->List Int
 |row,[]=>row
 |row,a::avs=>nS g (dg g.has row (g.opens row a)) avs
inductive Ord (g:Gr):List Int->List Int->Prop
 |done {row:List Int}:nS g row row=row->Ord g row row
 |step {row r1 r:List Int}:nS g row row≠row->Thr g (nS g row row) row.length r1->Ord g r1 r->Ord g row r
structure IsOrder (g:Gr) (roots:List Int) (b l:List Int):Prop where
 strong:Thr g (dg g.has [] roots) 0 b
 all:Ord g b l
theorem gm (has:Int->Bool): ∀(row l:List Int), ∃t,dg has row l=row++t/\(∀x∈t,has x=true/\x∈l)
 |row,[]=>⟨[],by simp [dg],by simp⟩
 | row,x::l=>by
  unfold dg
  cases h:has x&& !decide (x∈row) with
  |false=>
   obtain ⟨t,h1,h2⟩:=gm has row l;exact ⟨t,h1,fun y hy=>⟨(h2 y hy).1,by simp [(h2 y hy).2]⟩⟩
  |true=>
   obtain ⟨t,h1,h2⟩:=gm has (row++ [x]) l;refine ⟨x::t,by rw [cond_true,h1];simp,fun y hy=> ?_⟩;rw [QG] at h;rcases List.mem_cons.1 hy with e|hy
   ·subst e;exact ⟨h.1,by simp⟩
   exact ⟨(h2 y hy).1,by simp [(h2 y hy).2]⟩
theorem oN (has:Int->Bool): ∀(row l l':List Int),dg has row (l++l')=dg has (dg has row l) l'
 |_,[],_=>rfl
 |row,x::l,l'=>by
  show dg has _ (l++l')=_;rw [oN has _ l l'];rfl
theorem nJ {has:Int->Bool}: ∀{row:List Int} (l:List Int),row.Nodup->(dg has row l).Nodup
 |_,[],h=>h
 | row,x::l,h=>by
  unfold dg
  cases h2:has x&& !decide (x∈row) with
  |false=>exact nJ l h
  |true=>
   rw [QG] at h2
   have hx:x∉row:=by simpa using h2.2
   exact nJ l (List.nodup_append.2 ⟨h,by simp,fun a ha b hb e=>by rw [List.mem_singleton] at hb;subst hb;subst e;exact hx ha⟩)
theorem wT {has:Int->Bool}: ∀(row l:List Int) {x:Int},x∈l->has x=true->x∈dg has row l
 | row,y::l,x,h,hx=>by
  unfold dg;rcases List.mem_cons.1 h with e|h
  ·subst e;obtain ⟨t,h1, -⟩:=gm has (bif has x&& !decide (x∈row) then row++ [x] else row) l;rw [h1];refine Qw _ ?_;rw [hx,Bool.true_and];by_cases hm:x∈row<;>simp [hm]
  exact wT _ l h hx
theorem ur {has:Int->Bool}{row l:List Int}{x:Int}(h:x∈dg has row l):x∈row\/(has x=true/\x∈l):=by
 obtain ⟨t,h1,h2⟩:=gm has row l;rw [h1] at h;rcases List.mem_append.1 h with h|h
 ·exact .inl h
 exact .inr (h2 x h)
theorem xC (g:Gr): ∀(row avs:List Int), ∃t,nS g row avs=row++t
 |row,[]=>⟨[],by simp [nS]⟩
 |row,a::avs=>by
  obtain ⟨t,h1, -⟩:=gm g.has row (g.opens row a);obtain ⟨t2,h2⟩:=xC g (dg g.has row (g.opens row a)) avs;exact ⟨t++t2,by unfold nS;rw [h2,h1,Qv]⟩
theorem AD (g:Gr): ∀(row avs bs:List Int),nS g row (avs++bs)=nS g (nS g row avs) bs
 |_,[],_=>rfl
 |row,a::avs,bs=>by
  show nS g _ (avs++bs)=_;rw [AD g _ avs bs];rfl
theorem Bi {g:Gr}: ∀{row:List Int} (avs:List Int),row.Nodup->(nS g row avs).Nodup
 |_,[],h=>h
 |_,_::avs,h=>Bi avs (nJ _ h)
theorem D1 {g:Gr}: ∀{row:List Int} (avs:List Int),(∀x∈row,g.has x=true)-> ∀x∈nS g row avs,g.has x=true
 |_,[],h=>h
 |_,_::avs,h=>D1 avs fun x hx=>(ur hx).elim (h x) (·.1)
theorem Thr.app {g:Gr}{row r:List Int}{k:Nat}(h:Thr g row k r): ∃t,r=row++t:=by
 induction h with
 |done _=>exact ⟨[],by simp⟩
 |step _ _ ih=>
  rename_i row _ a _ _ _
  obtain ⟨t,rfl⟩:=ih;obtain ⟨t2,h1, -⟩:=gm g.has row (g.leads a);exact ⟨t2++t,by rw [h1,Qv]⟩
theorem Thr.nodup {g:Gr}{row r:List Int}{k:Nat}(h:Thr g row k r)(hn:row.Nodup):r.Nodup:=by
 induction h with
 |done _=>exact hn
 |step _ _ ih=>exact ih (nJ _ hn)
theorem Thr.has {g:Gr}{row r:List Int}{k:Nat}(h:Thr g row k r)(hn: ∀x∈row,g.has x=true): ∀x∈r,g.has x=true:=by
 induction h with
 |done _=>exact hn
 |step _ _ ih=>exact ih fun x hx=>(ur hx).elim (hn x) (·.1)
theorem Thr.det {g:Gr}{row r r':List Int}{k:Nat}(h:Thr g row k r)(h':Thr g row k r'):r=r':=by
 induction h with
 |done hk=>
  cases h' with
  |done _=>rfl
  |step ha _=>rw [List.getElem?_eq_none hk] at ha;cases ha
 |step ha _ ih=>
  cases h' with
  |done hk=>rw [List.getElem?_eq_none hk] at ha;cases ha
  |step ha' h2=>rw [ha] at ha';cases ha';exact ih h2
theorem Ord.det {g:Gr}{row r r':List Int}(h:Ord g row r)(h':Ord g row r'):r=r':=by
 induction h with
 |done hk=>
  cases h' with
  |done _=>rfl
  |step ha _ _=>exact absurd hk ha
 |step ha h1 _ ih=>
  cases h' with
  |done hk=>exact absurd hk ha
  |step _ h1' h2=>exact ih (h1.det h1'▸h2)
theorem IsOrder.det {g:Gr}{roots b l b' l':List Int}(h:IsOrder g roots b l)(h':IsOrder g roots b' l'):b=b'/\l=l':=by
 obtain ⟨h1,h2⟩:=h;obtain ⟨h3,h4⟩:=h';have e:=h1.det h3;subst e;exact ⟨J,h2.det h4⟩
theorem Ord.nodup {g:Gr}{row r:List Int}(h:Ord g row r)(hn:row.Nodup):r.Nodup:=by
 induction h with
 |done _=>exact hn
 |step _ h1 _ ih=>exact ih (h1.nodup (Bi _ hn))
theorem Ord.has {g:Gr}{row r:List Int}(h:Ord g row r)(hn: ∀x∈row,g.has x=true): ∀x∈r,g.has x=true:=by
 induction h with
 |done _=>exact hn
 |step _ h1 _ ih=>exact ih (h1.has (D1 _ hn))
theorem IsOrder.nodup {g:Gr}{roots b l:List Int}(h:IsOrder g roots b l):b.Nodup/\l.Nodup:=
 have hb:=h.strong.nodup (nJ _ List.nodup_nil)
 ⟨hb,h.all.nodup hb⟩
theorem IsOrder.has {g:Gr}{roots b l:List Int}(h:IsOrder g roots b l):(∀x∈b,g.has x=true)/\ ∀x∈l,g.has x=true:=
 have hb:=h.strong.has fun x hx=>(ur hx).elim (fun h=>by cases h) (·.1)
 ⟨hb,h.all.has hb⟩
def CloG (g:Gr)(row:List Int)(k:Nat):Prop:= ∀(i:Nat) (a x:Int),i<k->row[i]? =some a->x∈g.leads a->g.has x=true->x∈row
theorem CloG.app {g:Gr}{row t:List Int}{k:Nat}(hk:k<=row.length)(h:CloG g row k):CloG g (row++t) k:=fun i a x hi ha hx hh=>by
 rw [List.getElem?_append_left U] at ha;exact Qw _ (h i a x hi ha hx hh)
theorem Thr.clo {g:Gr}{row r:List Int}{k:Nat}(h:Thr g row k r)(hk:k<=row.length)(hc:CloG g row k):CloG g r r.length:=by
 induction h with
 |done hk2=>intro i a x hi ha hx hh;exact hc i a x U ha hx hh
 | step ha _ ih=>
  rename_i row k a _ _
  have hlt:=(List.getElem?_eq_some_iff.1 ha).1;obtain ⟨t,h1, -⟩:=gm g.has row (g.leads a)
  refine ih (by rw [h1,QC];omega) fun i b x hi hb hx hh=> ?_
  by_cases e:i=k
  ·subst e;rw [h1,List.getElem?_append_left hlt,ha] at hb;cases hb;exact wT _ _ hx hh
  rw [h1] at hb⊢;exact (CloG.app hk hc (t:=t)) i b x U hb hx hh
theorem D2 {g:Gr}: ∀{row avs:List Int},nS g row avs=row-> ∀a∈avs, ∀x∈g.opens row a,g.has x=true->x∈row
 | row,b::avs,h,a,ha,x,hx,hh=>by
  have h1:dg g.has row (g.opens row b)=row:=by
   obtain ⟨t,e1, -⟩:=gm g.has row (g.opens row b);obtain ⟨t2,e2⟩:=xC g (dg g.has row (g.opens row b)) avs
   have h3:row++t++t2=row:=by rw [<-e1, <-e2];exact h
   have h4:=congrArg List.length h3;simp only [QC] at h4;have h5:t=[]:=List.eq_nil_of_length_eq_zero U;rw [e1,h5,List.append_nil]
  rcases List.mem_cons.1 ha with e|ha
  ·subst e;have:=wT row _ hx hh;rwa [h1] at this
  refine D2 (avs:=avs) ?_ a ha x hx hh;unfold nS at h;rw [h1] at h;exact h
theorem Ord.closed {g:Gr}{row r:List Int}(h:Ord g row r)(hc:CloG g row row.length):CloG g r r.length/\ ∀a∈r, ∀x∈g.opens r a,g.has x=true->x∈r:=by
 induction h with
 |done hp=>exact ⟨hc,D2 hp⟩
 |step _ h1 _ ih=>
  rename_i row _ _ _ _
  obtain ⟨t,e⟩:=xC g row row;refine ih (h1.clo (by rw [e,QC];omega) ?_);rw [e];exact hc.app (Nat.le_refl _)
theorem IsOrder.closed {g:Gr}{roots b l:List Int}(h:IsOrder g roots b l):(∀a∈l, ∀x∈g.leads a,g.has x=true->x∈l)/\ ∀a∈l, ∀x∈g.opens l a,g.has x=true->x∈l:=by
 obtain ⟨h1,h2⟩:=h.all.closed (h.strong.clo (Nat.zero_le _) fun i _ _ hi=>absurd hi U);refine ⟨fun a ha x hx hh=> ?_,h2⟩;obtain ⟨i,hi,e⟩:=List.getElem_of_mem ha;exact h1 i a x hi (by rw [List.getElem?_eq_getElem hi,e]) hx hh
structure ClosedS (g:Gr) (S:Int->Prop):Prop where
 leads: ∀a,S a-> ∀x∈g.leads a,g.has x=true->S x
 opens: ∀row:List Int,(∀x∈row,S x)-> ∀a,S a-> ∀x∈g.opens row a,g.has x=true->S x
def Dw (N:Nat)(m:Qg):Gr:=⟨bp m,fun a=>bC (bK m a),fun row a=>dJ N (bK m a) row⟩
def bn (l:List Qn):List Int:=(l.filter bU).map (·.N)
theorem uB (l l':List Qn):bn (l++l')=bn l++bn l':=by unfold bn;simp
theorem uA {l:List Qn}{x:Int}:x∈bn l↔ ∃v∈l,bU v=true/\v.N=x:=by
 unfold bn;simp only [List.mem_map,List.mem_filter];constructor
 ·rintro ⟨v,⟨h1,h2⟩,h3⟩;exact ⟨v,h1,h2,h3⟩
 rintro ⟨v,h1,h2,h3⟩;exact ⟨v,⟨h1,h2⟩,h3⟩
theorem Fm (N:Nat){m:Qg}{roots:List Qn}(hN:6500<N)(hs:Small m roots)(d:Int)(l:List Int)(hl:l.length<=2000)(h64: ∀x∈l,in64 x){all:List Int}{met:List (Int×Unit)}(ht:Tr m all met):
  Sat (d7 N ⟨m,all,met,d⟩ l) fun r=>r.m_=m/\r.done_=d/\Tr m r.all_ r.met_/\r.all_=dg (bp m) all l:=by
 unfold d7;refine bA (fun k i (s:List Int×List (Int×Unit))=>dq N l ⟨m,all,met,d⟩ k (i:Int) s.1 s.2) l.length (fun i s=>Tr m s.1 s.2/\s.1=dg (bp m) all (l.take i)) _ ?_ ?_ N 0 (all,met) U U ⟨ht,J⟩
 ·rintro k i ⟨al,mt⟩ hi ⟨h1,h2⟩ go;show Sat (dq N l ⟨m,all,met,d⟩ (k+1) i al mt) _;simp only at h1 h2;have hx64:=h64 l[i] (QI _)
  have hnext:dg (bp m) all (l.take (i+1))=(bif bp m l[i]&& !decide (l[i]∈al) then al++ [l[i]] else al):=by
   rw [aB hi,oN, <-h2];rfl
  rw [dq.eq_2,bG U,ct,aC hi,bs,MR];unfold iR;rw [r64 (a:=(i:Int)+1) U U,r64 (a:=(i:Int)+1) U U];by_cases hm:l[i]∈al
  ·rw [Qs ((h1.mem _).2 hm)];simp only [nt,cf,bs];exact go (al,mt) ⟨h1,by rw [hnext,Qs hm];simp⟩
  rw [Qt (fun h=>hm ((h1.mem _).1 h))];simp only [nf,ct,bs,uw N m _ hx64];cases hh:bp m l[i]
  ·simp only [cf];exact go (al,mt) ⟨h1,by rw [hnext,hh];rfl⟩
  simp only [ct];have hlen:=h1.len hs;rw [rF (by simp;omega)];exact go (al++ [l[i]],za mt l[i] ()) ⟨h1.add hm hh,by rw [hnext,hh,Qt hm];rfl⟩
 rintro k ⟨al,mt⟩ ⟨h1,h2⟩;show Sat (dq N l ⟨m,all,met,d⟩ (k+1) _ al mt) _;rw [dq.eq_2,bH U,cf];exact aA ⟨J,J,h1,by simpa using h2⟩
theorem AX (N:Nat)(hN:6500<N){m:Qg}{roots:List Qn}(hs:Small m roots)(hw:W64 m){all:List Int}{met:List (Int×Unit)}(ht:Tr m all met)(k:Nat)(hk:k<=all.length):
  Sat (gk N ⟨m,all,met,(k:Int)⟩) fun r=>r.m_=m/\r.done_=(r.all_.length:Int)/\Tr m r.all_ r.met_/\Thr (Dw N m) all k r.all_:=by
 unfold gk;refine ma (fun f (s:List Int×List (Int×Unit)×Nat)=>fJ N f m.Young m.Old s.1 s.2.1 (s.2.2:Int)) (fun s=>1300 - s.2.2) (fun s=>Tr m s.1 s.2.1/\s.2.2<=s.1.length/\ ∀r,Thr (Dw N m) s.1 s.2.2 r->Thr (Dw N m) all k r) _ ?_ N (all,met,k) (by show 1300 - k<N;omega) ⟨ht,hk,fun _ h=>h⟩;rintro f ⟨al,mt,j⟩ ⟨h1,h3,h4⟩ go;show Sat (fJ N (f+1) m.Young m.Old al mt (j:Int)) _;simp only at h1 h3 h4;have hlen:=h1.len hs;rw [fJ.eq_2];by_cases hj:j<al.length
 ·have hx:=QI hj;have hat:=FJ N hs al[j] (h1.in64 hs hx);have hsm:=hs.at_ al[j];obtain ⟨hl1,hl2⟩:=Gh hs hw al[j];rw [bG U,ct,aC hj,bs];have hat':ki N ⟨m.Young,m.Old⟩ al[j]=some (bK m al[j]):=hat;rw [hat',bs,nI N U _ U U,bs];refine Sat.bind (Fm N hN hs (j:Int) _ hl1 hl2 h1) ?_;rintro ⟨m',al',mt',d'⟩ ⟨e1,e2,h5,h6⟩;simp only at e1 e2 h5 h6;subst e1 e2;have hlen':=h5.len hs
  dsimp only
  rw [r64 U U]
  have hge:al.length<=al'.length:=by
   obtain ⟨t,e, -⟩:=gm (bp m') al (bC (bK m' al[j]));rw [h6,e,QC];omega
  have hgo:=go (al',mt',j+1) (by show 1300 - (j+1)<1300 - j;omega) ⟨h5,by show j+1<=al'.length;omega,fun r hr=>h4 r (.step (List.getElem?_eq_getElem hj) (by rw [h6] at hr;exact hr))⟩;simpa using hgo
 have:j=al.length:=by omega
 subst this;rw [bH U,cf];exact aA ⟨J,J,h1,h4 _ (.done (Nat.le_refl _))⟩
theorem Jq (N:Nat)(hN:6500<N){m:Qg}{roots:List Qn}(hs:Small m roots)(hw:W64 m)(hr: ∀v∈roots,in64 v.N):
  Sat (mW N m roots) fun r=>r.m_=m/\r.done_=(r.all_.length:Int)/\Tr m r.all_ r.met_/\Thr (Dw N m) (dg (bp m) [] (bn roots)) 0 r.all_:=by
 have hrl:=hs.roots;unfold mW;refine bA (fun k i (s:List Int×List (Int×Unit))=>iJ N roots k (i:Int) m.Young m.Old s.1 s.2 0) roots.length (fun i s=>Tr m s.1 s.2/\s.1=dg (bp m) [] (bn (roots.take i))) _ ?_ ?_ N 0 ([],[]) U U ⟨⟨by simp,by simp,by simp⟩,J⟩
 ·rintro k i ⟨al,mt⟩ hi ⟨h1,h2⟩ go;show Sat (iJ N roots (k+1) (i:Int) m.Young m.Old al mt 0) _;simp only at h1 h2;have hx64:=hr roots[i] (QI _)
  have ha:np N roots[i]=some (roots[i].N,bU roots[i]):=by
   unfold np;rw [rX,bs]
  have hnext:dg (bp m) [] (bn (roots.take (i+1)))=dg (bp m) al (bn [roots[i]]):=by
   rw [aB hi,uB,oN, <-h2]
  rw [iJ.eq_2,bG U,ct,aC hi,bs];unfold pa;rw [ha,bs];cases hb:bU roots[i]
  ·simp only [cf,bs];rw [r64 U U];refine go (al,mt) ⟨h1,?_⟩;rw [hnext];simp [bn,hb,dg]
  simp only [ct];obtain ⟨⟨m',al',mt',d'⟩,e0,e1,e2,h5,h6⟩:=Fm N hN hs 0 [roots[i].N] (by simp) (by intro x hx;rw [List.mem_singleton] at hx;subst hx;exact hx64) h1;simp only at e1 e2 h5 h6;subst e1 e2;have e0':d7 N ⟨⟨m'.Young,m'.Old⟩,al,mt,0⟩ [roots[i].N]=some ⟨m',al',mt',0⟩:=e0;rw [e0',bs,bs]
  dsimp only
  rw [r64 U U];refine go (al',mt') ⟨h5,?_⟩;show al'=_;rw [hnext,h6];simp [bn,hb]
 rintro k ⟨al,mt⟩ ⟨h1,h2⟩;show Sat (iJ N roots (k+1) _ m.Young m.Old al mt 0) _;rw [iJ.eq_2,bH U,cf];unfold rD;refine Sat.bind (AX N hN hs hw h1 0 (Nat.zero_le _)) ?_;rintro r ⟨e1,e2,h5,h6⟩;simp only [QF] at h2;exact aA ⟨e1,e2,h5,by rw [<-h2];exact h6⟩
theorem F6 (N:Nat){m:Qg}{roots:List Qn}(hs:Small m roots)(hw:W64 m)(a:Int)(l:List Int):(dJ N (bK m a) l).length<=2000/\ ∀x∈dJ N (bK m a) l,in64 x:=by
 have h1:=hs.at_ a;have h2:=yE N (bK m a) l;refine ⟨by omega,fun x hx=> ?_⟩;obtain ⟨v,h3,rfl⟩:=Ha hx;exact hw.at_ a v h3
theorem JU (N:Nat)(hN:6500<N){m:Qg}{roots:List Qn}(hs:Small m roots)(hw:W64 m){all:List Int}{met:List (Int×Unit)}(ht:Tr m all met)(d:Int):
  Sat (jD N ⟨m,all,met,d⟩) fun r=>r.2.m_=m/\r.2.done_=d/\Tr m r.2.all_ r.2.met_/\r.1=decide ((all.length:Int)<(r.2.all_.length:Int))/\r.2.all_=nS (Dw N m) all all:=by
 have hlen:=ht.len hs;unfold jD;refine bA (fun k i (s:List Int×List (Int×Unit))=>dz N ⟨m,all,met,d⟩ k (i:Int) m.Young m.Old s.1 s.2 d) all.length (fun i s=>Tr m s.1 s.2/\(∃t,s.1=all++t)/\s.1=nS (Dw N m) all (all.take i)) _ ?_ ?_ N 0 (all,met) U U ⟨ht,⟨[],by simp⟩,J⟩
 ·rintro k i ⟨al,mt⟩ hi ⟨h1,⟨t,h2⟩,h3⟩ go;show Sat (dz N ⟨m,all,met,d⟩ (k+1) (i:Int) m.Young m.Old al mt d) _;simp only at h1 h2 h3;have hlen1:=h1.len hs
  have htk:List.take all.length al=all:=by rw [h2,List.take_left'];rfl
  have hx:=QI hi;have hsm:=hs.at_ all[i];have hat:ki N ⟨m.Young,m.Old⟩ all[i]=some (bK m all[i]):=FJ N hs all[i] (ht.in64 hs hx)
  have hnext:nS (Dw N m) all (all.take (i+1))=dg (bp m) al (dJ N (bK m all[i]) al):=by
   rw [aB hi,AD, <-h3];rfl
  rw [dz.eq_2];simp only [QF];rw [bG U,ct,htk,aC hi,bs,hat,bs];unfold kg;by_cases h8:(bK m all[i]).Kind=8
  ·rw [kB h8,ct,CP N hN al U _ U U,bs];obtain ⟨hl1,hl2⟩:=F6 N hs hw all[i] al;obtain ⟨⟨m',al',mt',d'⟩,e0,e1,e2,h5,h6⟩:=Fm N hN hs d _ hl1 hl2 h1;simp only at e1 e2 h5 h6;subst e1 e2;have e0':d7 N ⟨⟨m'.Young,m'.Old⟩,al,mt,d'⟩ (dJ N (bK m' all[i]) al)=some ⟨m',al',mt',d'⟩:=e0;rw [e0',bs]
   dsimp only
   rw [r64 U U];obtain ⟨t',e', -⟩:=gm (bp m') al (dJ N (bK m' all[i]) al);exact go (al',mt') ⟨h5,⟨t++t',by show al'=_;rw [h6,e',h2,Qv]⟩,by show al'=_;rw [hnext,h6]⟩
  rw [eJ h8,cf,r64 U U];refine go (al,mt) ⟨h1,⟨t,h2⟩,?_⟩
  have h0:dJ N (bK m all[i]) al=[]:=by
   unfold dJ nL;rw [eJ h8];rfl
  show al=_;rw [hnext,h0];rfl
 rintro k ⟨al,mt⟩ ⟨h1,⟨t,h2⟩,h3⟩;show Sat (dz N ⟨m,all,met,d⟩ (k+1) _ m.Young m.Old al mt d) _;rw [dz.eq_2];simp only [QF] at h3⊢;rw [bH U,cf];exact aA ⟨J,J,h1,J,h3⟩
theorem IU (N:Nat)(hN:6500<N){m:Qg}{roots:List Qn}(hs:Small m roots)(hw:W64 m)(hr: ∀v∈roots,in64 v.N):
  ∃b all,IsOrder (Dw N m) (bn roots) b.all_ all/\all.length<=1200/\b.all_.length<=1200/\mW N m roots=some b/\kV N m roots=some all:=by
 obtain ⟨⟨m',al0,mt0,d0⟩,e0,e1,e2,h1,h2⟩:=Jq N hN hs hw hr;simp only at e1 e2 h1 h2;subst e1 e2;have hlen0:=h1.len hs
 have key:Sat (kV N m' roots) fun all=>Ord (Dw N m') al0 all/\all.length<=1200:=by
  unfold kV;rw [e0,bs];refine ma (fun f (s:List Int×List (Int×Unit))=>kH N f m'.Young m'.Old s.1 s.2 (s.1.length:Int)) (fun s=>1300 - s.1.length) (fun s=>Tr m' s.1 s.2/\ ∀r,Ord (Dw N m') s.1 r->Ord (Dw N m') al0 r) _ ?_ N (al0,mt0) (by show 1300 - al0.length<N;omega) ⟨h1,fun _ h=>h⟩;rintro f ⟨al,mt⟩ ⟨h4,h5⟩ go;show Sat (kH N (f+1) m'.Young m'.Old al mt (al.length:Int)) _;simp only at h4 h5;have hlen:=h4.len hs;rw [kH.eq_2];obtain ⟨⟨b,m2,al2,mt2,d2⟩,g0,g1,g2,g3,g5,g6⟩:=JU N hN hs hw h4 (al.length:Int);simp only at g1 g2 g3 g5 g6;subst g1 g2;have hlen2:=g3.len hs;have g0':jD N ⟨⟨m2.Young,m2.Old⟩,al,mt,(al.length:Int)⟩=some (b,⟨m2,al2,mt2,(al.length:Int)⟩):=g0;obtain ⟨t2,ht2⟩:=xC (Dw N m2) al al;rw [g0',bs]
  dsimp only
  rw [g5]
  refine dy (fun hlt=> ?_) fun hge=> ?_
  ·refine Sat.bind (AX N hN hs hw g3 al.length U) ?_;rintro ⟨m3,al3,mt3,d3⟩ ⟨k1,k2,k3,k4⟩;simp only at k1 k2 k3 k4;subst k1 k2;have hlen3:=k3.len hs;refine go (al3,mt3) ?_ ⟨k3,fun r h=>h5 r (.step ?_ (by rw [<-g6];exact k4) h)⟩
   ·show 1300 - al3.length<1300 - al.length;obtain ⟨t3,e3⟩:=k4.app
    have:al2.length<=al3.length:=by rw [e3,QC];omega
    omega
   rw [<-g6];intro e;rw [e] at hlt;omega
  have e:al2=al:=by
   rw [ht2] at g6;have h0:t2=[]:=List.eq_nil_of_length_eq_zero (by rw [g6,QC] at hge;omega);rw [g6,h0,List.append_nil]
  subst e;unfold qy;exact aA ⟨h5 _ (.done g6.symm),by omega⟩
 obtain ⟨all,k1,k2,k3⟩:=key;exact ⟨⟨m',al0,mt0,(al0.length:Int)⟩,all,⟨h2,k2⟩,k3,hlen0,e0,k1⟩
theorem ri (l:List Int)(x:Int):x∈jq l↔x∈l:=by unfold jq;exact List.mem_mergeSort
theorem Ar {l:List Int}(h:l.Nodup):(jq l).Pairwise (· < ·):=by
 have h1:(jq l).Pairwise fun a b=>decide (a<=b)=true:=List.pairwise_mergeSort (by intro a b c h1 h2;simp at*;omega) (by intro a b;simp;omega) l
 have h2:(jq l).Nodup:=(List.mergeSort_perm l _).nodup_iff.2 h;rw [List.nodup_iff_pairwise_ne] at h2;exact h1.imp₂ (fun a b h3 h4=>by simp at h3;omega) h2
theorem Ch {l s:List Int}(h:l.Nodup)(hs:s.Pairwise (· < ·))(he: ∀x,x∈l↔x∈s):jq l=s:=Im (Ar h) hs fun x=>(ri l x).trans (he x)
theorem IE (N:Nat)(l:List Int)(h:l.length<=5000):px N l=some (jq l):=by
 unfold px;rw [rF U]
def PN (n:Int):Qn:=⟨7,n,⟨#[]⟩⟩
def OR (l:List Qn):Ql:=⟨11,0,0,0,[],l⟩
def PR:Qg:=⟨[⟨11,0,0,0,[],[⟨7,3,⟨#[]⟩⟩,⟨7,2,⟨#[]⟩⟩]⟩,⟨11,0,0,0,[],[]⟩],[⟨11,0,0,0,[],[]⟩]⟩
def PP:Qg:=⟨[⟨8,0,0,0,[⟨1,0,⟨#[]⟩⟩],[⟨7,3,⟨#[]⟩⟩,⟨7,5,⟨#[]⟩⟩]⟩,⟨11,0,0,0,[],[]⟩,⟨11,0,0,0,[],[]⟩],[]⟩
theorem Lt {N:Nat}{m:Qg}{roots:List Qn}{l s:List Int}(h:kV N m roots=some l)(hl:l.length<=5000)(hs:jq l=s):mn N m roots=some s:=by
 unfold mn;rw [h,bs,IE N l hl,bs,hs]
structure Tq (m:Qg) (all:List Int):Prop where
 nd:all.Nodup
 has: ∀x∈all,bp m x=true
theorem Tq.len {m:Qg}{roots:List Qn}(hs:Small m roots){all:List Int}(h:Tq m all):all.length<=1200:=wI 1200 h.nd fun x hx=>⟨by have:=qp (h.has x hx);omega,by have:=vt hs (h.has x hx);omega⟩
theorem Tq.in64 {m:Qg}{roots:List Qn}(hs:Small m roots){all:List Int}(h:Tq m all){x:Int}(hx:x∈all):in64 x:=by
 have h1:=qp (h.has x hx);have h2:=vt hs (h.has x hx);unfold Go.Proofs.YthepenpebkjdfaaGreat.in64;omega
theorem Tq.lay {m:Qg}{all:List Int}(h:Tq m all)(l:List Int):Tq m (dg (bp m) all l):=⟨nJ l h.nd,fun x hx=>(ur hx).elim (h.has x) (·.1)⟩
theorem Ck (N:Nat){m:Qg}{roots:List Qn}(hN:6500<N)(hs:Small m roots)(l:List Int)(hl:l.length<=2000)(h64: ∀x∈l,in64 x){all:List Int}(ht:Tq m all):pf N m all l=some (dg (bp m) all l):=by
 apply Sat.eq;unfold pf;refine bA (fun k i (s:List Int)=>lT N l m k s (i:Int)) l.length (fun i s=>Tq m s/\s=dg (bp m) all (l.take i)) _ ?_ ?_ N 0 all U U ⟨ht,J⟩
 ·rintro k i s hi ⟨h0,h1⟩ go;show Sat (lT N l m (k+1) s (i:Int)) _;have hx64:=h64 l[i] (QI _);have hsl:=h0.len hs
  have hnext:dg (bp m) all (l.take (i+1))=(bif bp m l[i]&& !decide (l[i]∈s) then s++ [l[i]] else s):=by
   rw [aB hi,oN, <-h1];rfl
  have hT:Tq m (dg (bp m) all (l.take (i+1))):=ht.lay _;rw [lT.eq_2,bG U,ct];simp only [aC hi,bs,vq N m _ hx64,Oq N hN s U l[i]];unfold sS;cases hh:bp m l[i]
  ·simp only [cf,bs];rw [r64 U U];exact go s ⟨h0,by rw [hnext,hh];rfl⟩
  simp only [ct,bs];by_cases hm:l[i]∈s
  ·rw [Qs hm];simp only [nt,cf];rw [r64 U U];exact go s ⟨h0,by rw [hnext,hh,Qs hm];rfl⟩
  have e:dg (bp m) all (l.take (i+1))=s++ [l[i]]:=by rw [hnext,hh,Qt hm];rfl
  rw [Qt hm];simp only [nf,ct];rw [rF (by simp;omega),r64 U U];exact go (s++ [l[i]]) ⟨e▸hT,e.symm⟩
 rintro k s ⟨h0,h1⟩;show Sat (lT N l m (k+1) s _) _;rw [lT.eq_2,bH U,cf];exact aA (by simpa using h1)
theorem IM (N:Nat)(hN:6500<N)(l:List Qn)(hl:l.length<=2000):kL N l=some (bn l):=by
 apply Sat.eq;unfold kL;refine bA (fun k i (s:List Int)=>ee N l k s (i:Int)) l.length (fun i s=>s=bn (l.take i)) _ ?_ ?_ N 0 [] U U J
 ·rintro k i s hi h1 go;show Sat (ee N l (k+1) s (i:Int)) _
  have hsl:s.length<=2000:=by
   rw [h1];unfold bn;rw [QE];exact Nat.le_trans (List.length_filter_le _ _) (by rw [QD];omega)
  have hnext:bn (l.take (i+1))=s++bn [l[i]]:=by rw [aB hi,uB,h1]
  rw [ee.eq_2,bG U,ct];simp only [aC hi,bs,rX];unfold ms;cases hb:bU l[i]
  ·simp only [cf];rw [r64 U U];exact go s (by rw [hnext];simp [bn,hb])
  simp only [ct];rw [rF (by simp;omega),r64 U U];exact go (s++ [l[i].N]) (by rw [hnext];simp [bn,hb])
 rintro k s h1;show Sat (ee N l (k+1) s _) _;rw [ee.eq_2,bH U,cf];exact aA (by simpa using h1)
theorem ze (N:Nat)(hN:6500<N){m:Qg}{roots:List Qn}(hs:Small m roots)(hw:W64 m){all:List Int}(ht:Tq m all)(k:Nat)(hk:k<=all.length):
  Sat (jk N m all (k:Int)) fun r=>Tq m r/\Thr (Dw N m) all k r:=by
 unfold jk;refine ma (fun f (s:List Int×Nat)=>lR N m f s.1 (s.2:Int)) (fun s=>1300 - s.2) (fun s=>Tq m s.1/\s.2<=s.1.length/\ ∀r,Thr (Dw N m) s.1 s.2 r->Thr (Dw N m) all k r) _ ?_ N (all,k) (by show 1300 - k<N;omega) ⟨ht,hk,fun _ h=>h⟩;rintro f ⟨al,j⟩ ⟨h1,h3,h4⟩ go;show Sat (lR N m (f+1) al (j:Int)) _;simp only at h1 h3 h4;have hlen:=h1.len hs;rw [lR.eq_2];by_cases hj:j<al.length
 ·have hx:=QI hj;have hsm:=hs.at_ al[j];obtain ⟨hl1,hl2⟩:=Gh hs hw al[j];rw [bG U,ct,aC hj,bs,FI N m _ (h1.in64 hs hx),bs,my N U _ U U,bs,Ck N hN hs _ hl1 hl2 h1,bs,r64 U U]
  have hge:al.length<=(dg (bp m) al (bC (bK m al[j]))).length:=by
   obtain ⟨t,e, -⟩:=gm (bp m) al (bC (bK m al[j]));rw [e,QC];omega
  exact go (dg (bp m) al (bC (bK m al[j])),j+1) (by show 1300 - (j+1)<1300 - j;omega) ⟨h1.lay _,by show j+1<=(dg (bp m) al (bC (bK m al[j]))).length;omega,fun r hr=>h4 r (.step (List.getElem?_eq_getElem hj) hr)⟩
 have:j=al.length:=by omega
 subst this;rw [bH U,cf];exact aA ⟨h1,h4 _ (.done (Nat.le_refl _))⟩
theorem G0 (N:Nat)(hN:6500<N){m:Qg}{roots:List Qn}(hs:Small m roots)(hw:W64 m)(hr: ∀v∈roots,in64 v.N):
  ∃b all,IsOrder (Dw N m) (bn roots) b all/\qc N m roots=some all/\((kL N roots).bind fun y5=>(pf N m ([]:List Int) y5).bind fun y8=>jk N m y8 0)=some b:=by
 have hrl:=hs.roots;have ha:=IM N hN roots U
 have h64: ∀x∈bn roots,in64 x:=fun x hx=>by
  obtain ⟨v,h1, -,rfl⟩:=uA.1 hx;exact hr v h1
 have hal:(bn roots).length<=2000:=by
  unfold bn;rw [QE];exact Nat.le_trans (List.length_filter_le _ _) U
 have hT0:Tq m []:=⟨List.nodup_nil,by simp⟩;have hlay:=Ck N hN hs (bn roots) hal h64 hT0;obtain ⟨b,b0,b1,b2⟩:=ze N hN hs hw (hT0.lay (bn roots)) 0 (Nat.zero_le _);have b0':jk N m (dg (bp m) [] (bn roots)) 0=some b:=b0
 have key:Sat (qc N m roots) fun all=>Ord (Dw N m) b all:=by
  unfold qc;rw [ha,bs,hlay,bs,b0',bs];refine ma (fun f (s:List Int)=>ey N m f s) (fun s=>1300 - s.length) (fun s=>Tq m s/\ ∀r,Ord (Dw N m) s r->Ord (Dw N m) b r) _ ?_ N b (by show 1300 - b.length<N;omega) ⟨b1,fun _ h=>h⟩;rintro f al ⟨h4,h5⟩ go;show Sat (ey N m (f+1) al) _;have hlen:=h4.len hs;rw [ey.eq_2];refine bA (fun k i (s:List Int)=>kY N (ey N m f) al m k s (i:Int)) al.length (fun i s=>Tq m s/\(∃t,s=al++t)/\s=nS (Dw N m) al (al.take i)) _ ?_ ?_ N 0 al U U ⟨h4,⟨[],by simp⟩,J⟩
  ·rintro k i s hi ⟨h0,⟨t,h1⟩,h2⟩ go2;show Sat (kY N (ey N m f) al m (k+1) s (i:Int)) _;have hsl:=h0.len hs
   have hg:aw s (i:Int)=some al[i]:=by
    rw [ja,h1,List.getElem?_append_left hi,List.getElem?_eq_getElem hi]
   have hx:=QI hi;have hsm:=hs.at_ al[i];obtain ⟨hl1,hl2⟩:=F6 N hs hw al[i] s
   have hnext:nS (Dw N m) al (al.take (i+1))=dg (bp m) s (dJ N (bK m al[i]) s):=by
    rw [aB hi,AD, <-h2];rfl
   rw [kY.eq_2,bG U,ct,hg,bs,FI N m _ (h4.in64 hs hx),bs,D5 N hN s U _ U U,bs,Ck N hN hs _ hl1 hl2 h0,bs,r64 U U];obtain ⟨t',e', -⟩:=gm (bp m) s (dJ N (bK m al[i]) s);exact go2 _ ⟨h0.lay _,⟨t++t',by rw [e',h1,Qv]⟩,hnext.symm⟩
  rintro k s ⟨h0,⟨t,h1⟩,h2⟩;show Sat (kY N (ey N m f) al m (k+1) s _) _;have hsl:=h0.len hs;simp only [QF] at h2;rw [kY.eq_2,bH U,cf];unfold tC
  refine dy (fun he=> ?_) fun hne=> ?_
  ·have h6:t=[]:=List.eq_nil_of_length_eq_zero (by rw [h1,QC] at he;omega)
   have h7:s=al:=by rw [h1,h6,List.append_nil]
   exact aA (by rw [h7] at h2⊢;exact h5 _ (.done h2.symm))
  have hle:al.length<=s.length:=by rw [h1,QC];omega
  refine Sat.bind (ze N hN hs hw h0 al.length hle) fun r ⟨r1,r2⟩=> ?_
  obtain ⟨t3,e3⟩:=r2.app;have hl3:=r1.len hs;refine go r ?_ ⟨r1,fun r' hr'=>h5 r' (.step ?_ (by rw [<-h2];exact r2) hr')⟩
  ·show 1300 - r.length<1300 - al.length
   have:s.length<=r.length:=by rw [e3,QC];omega
   omega
  rw [<-h2];intro e;rw [e] at hne;omega
 obtain ⟨all,k1,k2⟩:=key;exact ⟨b,all,⟨b2,k2⟩,k1,by rw [ha,bs,hlay,bs];exact b0'⟩
theorem DQ: ∀{s:List Int} {k:Nat} (h:k+1<s.length),((s.set (k+1) (s[k]'U)).set k s[k+1]).Perm s
 |a::b::r,0,_=>List.Perm.swap a b r
 |a::r,k+1,h=>by
  have ih:=DQ (s:=r) (k:=k) (by simpa using h);simp only [List.set_cons_succ,List.getElem_cons_succ];exact ih.cons a
def OE (s:List Int)(i k:Nat):Prop:= ∀a b:Nat,a<b->b<=i->b≠k->s.getD a 0<=s.getD b 0
theorem zW (s:List Int)(i j:Nat)(x:Int)(hi:i<s.length):(s.set i x).getD j 0=if j=i then x else s.getD j 0:=by
 by_cases e:j=i
 ·subst e;simp [List.getD,hi]
 rw [if_neg e];simp only [List.getD];rw [List.getElem?_set_ne (fun h=>e h.symm)]
theorem xH (s:List Int)(i:Nat)(hi:i<s.length):s.getD i 0=s[i]:=by simp [List.getD,hi]
theorem G1 (N:Nat)(hN:6500<N)(l:List Int)(hl:l.length<=2000)(hn:l.Nodup):qU N l=some (jq l):=by
 apply Sat.eq;unfold qU;rw [rF (by simp;omega),QH]
 have fin: ∀s:List Int,s.Perm l->OE s (l.length - 1) l.length->s=jq l:=fun s hp hi=>by
  have hlen:=hp.length_eq;have hnd:s.Nodup:=hp.nodup_iff.2 hn;refine (Ch hn (List.pairwise_iff_getElem.2 fun a b ha hb hab=> ?_) fun x=>(hp.mem_iff).symm).symm;have h1:=hi a b hab U U;rw [xH s a ha,xH s b hb] at h1;have h2:=List.pairwise_iff_getElem.1 (List.nodup_iff_pairwise_ne.1 hnd) a b ha hb hab;omega
 by_cases h0:l.length=0
 ·have e:l=[]:=List.eq_nil_of_length_eq_zero h0;subst e;obtain ⟨n,rfl⟩: ∃n,N=n+1:=⟨N - 1,by omega⟩;rw [dX.eq_2,bH (by simp),cf];exact aA (by unfold jq;simp)
 refine bA (fun k i (s:List Int)=>dX N k s (i:Int)) l.length (fun i s=>s.Perm l/\OE s (i - 1) l.length) _ ?_ ?_ N 1 l U U ⟨List.Perm.refl _,fun a b h1 h2=>absurd h2 U⟩
 ·rintro f i s hi ⟨h1,h2⟩ go;show Sat (dX N (f+1) s (i:Int)) _;have hlen:=h1.length_eq;rw [dX.eq_2,hlen,bG U,ct]
  have hi0:i<=l.length:=by omega
  refine ma (fun k (st:List Int×Nat)=>lS N (dX N f) (i:Int) k st.1 (st.2:Int)) (fun st=>st.2) (fun st=>st.1.Perm l/\st.2<=i/\OE st.1 i st.2) _ ?_ N (s,i) (by show i<N;omega) ⟨h1,Nat.le_refl _,fun a b q1 q2 q3=>h2 a b q1 (by show b<=i - 1;simp only at q3;omega) U⟩;rintro k ⟨t,j⟩ ⟨g1,g2,g3⟩ go2;simp only at g1 g2 g3;show Sat (lS N (dX N f) (i:Int) (k+1) t (j:Int)) _;have hlt:=g1.length_eq
  have stop:(j=0\/t.getD (j - 1) 0<=t.getD j 0)->Sat (oz N (dX N f) (i:Int) t) (· =jq l):=fun hst=>by
   unfold oz;rw [r64 U U];refine go t ⟨g1,fun a b q1 q2 q3=> ?_⟩
   have q2':b<=i:=by omega
   by_cases e:b=j
   ·subst e;rcases hst with h|h
    ·omega
    by_cases e2:a=b - 1
    ·subst e2;exact h
    have:=g3 a (b - 1) U U U;omega
   exact g3 a b q1 q2' e
  rw [lS.eq_2];by_cases hj:0<j
  ·have hp:aw t ((j:Int) - 1)=some (t[j - 1]'U):=by
    have:=aC (xs:=t) (i:=j - 1) U;rw [show (((j - 1:Nat)):Int)=(j:Int) - 1 by omega] at this;exact this
   have hq:aw t (j:Int)=some (t[j]'U):=aC U;rw [bG U,ct,r64 U U,hp,bs,hq,bs,bs];by_cases hc:t[j]'U<t[j - 1]'U
   ·rw [bG hc,ct,bs,r64 (a:=(j:Int) - 1) U U,bs,bs,r64 (a:=(j:Int) - 1) U U]
    have hs2:aw (List.set t (j:Int).toNat (t[j - 1]'U)) ((j:Int) - 1)=some ((List.set t (j:Int).toNat (t[j - 1]'U))[j - 1]'(by simp;omega)):=by
     have:=aC (xs:=List.set t (j:Int).toNat (t[j - 1]'U)) (i:=j - 1) (by simp;omega);rw [show (((j - 1:Nat)):Int)=(j:Int) - 1 by omega] at this;exact this
    rw [hs2,bs,r64 (a:=(j:Int) - 1) U U,Int.toNat_natCast,show ((j:Int) - 1).toNat=j - 1 by omega,show (j:Int) - 1=((j - 1:Nat):Int) by omega];obtain ⟨q,rfl⟩: ∃q,j=q+1:=⟨j - 1,by omega⟩;simp only [Nat.add_sub_cancel] at*;refine go2 ((t.set (q+1) (t[q]'U)).set q (t[q+1]'U),q) (by show q<q+1;omega) ⟨(DQ U).trans g1,by show q<=i;omega,fun a b q1 q2 q3=> ?_⟩;have q3':b≠q:=q3;have hqa:=xH t q U;have hqb:=xH t (q+1) U;show ((t.set (q+1) (t[q]'U)).set q (t[q+1]'U)).getD a 0<=((t.set (q+1) (t[q]'U)).set q (t[q+1]'U)).getD b 0;rw [zW _ q _ _ (by simp;omega),zW _ q _ _ (by simp;omega),zW t (q+1) _ _ U,zW t (q+1) _ _ U,if_neg q3'];by_cases b1:b=q+1
    ·rw [if_pos b1];by_cases a1:a=q
     ·rw [if_pos a1];omega
     rw [if_neg a1,if_neg U, <-hqa];exact g3 a q U U U
    rw [if_neg b1];by_cases a1:a=q
    ·rw [if_pos a1, <-hqb];exact g3 (q+1) b U q2 b1
    rw [if_neg a1];by_cases a2:a=q+1
    ·rw [if_pos a2, <-hqa];exact g3 q b U q2 b1
    rw [if_neg a2];exact g3 a b q1 q2 b1
   rw [bH U,cf];refine stop (.inr ?_);rw [xH t (j - 1) U,xH t j U];omega
  rw [bH U,cf,bs,cf];exact stop (.inl U)
 rintro f s ⟨h1,h2⟩;show Sat (dX N (f+1) s _) _;rw [dX.eq_2,h1.length_eq,bH U,cf];unfold tz;exact aA (fin s h1 h2)
def db (c:Ql):List Int:=pick (fun i v=>lH c.Kind i&&bU v) 0 c.More
theorem sw (N:Nat)(hN:2000<N)(c:Ql)(hS:c.Slots.length<=1000)(hc:c.More.length<=1000):jo N c=some (db c):=by
 unfold jo db;rw [xi N hN false c hS hc,bs]
 have e1:(fun (_:Nat) (v:Qn)=>(true==false)&&bU v)=fun _ _=>false:=by funext i v;rfl
 have e2:(fun (i:Nat) (v:Qn)=>(ls c.Kind i==false)&&bU v)=fun i v=>lH c.Kind i&&bU v:=by funext i v;rw [AY];cases lH c.Kind i<;>rfl
 rw [e1,e2,D0,QH]
theorem iN (c:Ql):(db c).length<=c.More.length:=zA _ 0 c.More
theorem FN {c:Ql}{x:Int}(h:x∈db c): ∃v∈c.Slots++c.More,v.N=x:=by
 obtain ⟨v,h1,h2⟩:=zz h;exact ⟨v,Qx _ h1,h2⟩
theorem rp (N:Nat)(hN:2000<N)(c:Ql)(hc:c.More.length<=1000):gx N c=some (db c):=by
 apply Sat.eq;unfold gx db;refine bA (fun m i s=>gT N c m s (i:Int)) c.More.length (fun i t=>t++pick (fun i v=>lH c.Kind i&&bU v) i (c.More.drop i)=pick (fun i v=>lH c.Kind i&&bU v) 0 c.More/\t.length<=i) _ ?_ ?_ N 0 [] U U ⟨by simp,by simp⟩
 ·rintro m i s hi ⟨h1,h2⟩ k;show Sat (gT N c (m+1) s i) _;rw [List.drop_eq_getElem_cons hi,la] at h1;rw [gT.eq_2,bG U,ct,aC hi,bs,oh,bs,DP _ _ _ U];unfold oA;simp only [bs];rw [r64 (a:=(i:Int)+1) U U];cases hh:bU c.More[i]<;>cases hw:lH c.Kind i<;>simp only [hh,hw,Bool.and_true,Bool.and_false,Bool.and_self,ct,cf,bs,QH] at h1⊢
  ·rw [r64 U U];exact k s ⟨h1,by omega⟩
  ·rw [r64 U U];exact k s ⟨h1,by omega⟩
  ·rw [r64 U U];exact k s ⟨h1,by omega⟩
  rw [rF (by simp;omega)];exact k _ ⟨by rw [Qv];exact h1,by simp;omega⟩
 rintro m s ⟨h1,h2⟩;show Sat (gT N c (m+1) s _) _;rw [List.drop_length] at h1;rw [gT.eq_2,bH U,cf];exact aA (by rw [<-h1];simp [pick])
theorem HJ (N:Nat)(a b:List Qn)(ha:a.length<N)(ha2:a.length<=5000):fh N a b=some (decide (a=b)):=by
 unfold fh;refine Ig _ a b (fun hl m i h h'=> ?_) (fun m=> ?_) N ha
 ·rw [oB.eq_2,bG U,ct,aC h,bs,aC h',bs,r64 U U];cases decide (a[i]=b[i])<;>rfl
 rw [oB.eq_2,bH U,cf];rfl
theorem LU (a b:Ql):decide (a=b)=(decide (a.Kind=b.Kind)&&decide (a.Shape=b.Shape)&&decide (a.Flags=b.Flags)&&decide (a.Age=b.Age)&&decide (a.Slots=b.Slots)&&decide (a.More=b.More)):=by
 obtain ⟨a1,a2,a3,a4,a5,a6⟩:=a;obtain ⟨b1,b2,b3,b4,b5,b6⟩:=b;rw [Bool.eq_iff_iff];simp only [QG,decide_eq_true_eq,Ql.mk.injEq,and_assoc]
theorem Mh (N:Nat)(a b:Ql)(h1:a.Slots.length<N)(h2:a.Slots.length<=5000)(h3:a.More.length<N)(h4:a.More.length<=5000):rN N a b=some (decide (a=b)):=by
 unfold rN;rw [HJ N a.Slots b.Slots h1 h2,HJ N a.More b.More h3 h4,LU];simp only [bs];cases decide (a.Kind=b.Kind)<;>cases decide (a.Shape=b.Shape)<;>cases decide (a.Flags=b.Flags)<;>cases decide (a.Age=b.Age)<;>cases decide (a.Slots=b.Slots)<;>cases decide (a.More=b.More)<;>rfl
theorem Ik (N:Nat)(a b:List Ql)(ha:a.length<N)(ha2:a.length<=5000)(hN:6500<N)(hc: ∀c∈a,c.Slots.length<=5000/\c.More.length<=5000):qd N a b=some (decide (a=b)):=by
 unfold qd;refine Ig _ a b (fun hl m i h h'=> ?_) (fun m=> ?_) N ha
 ·have h1:=hc a[i] (QI _);rw [uS.eq_2,bG U,ct,aC h,bs,aC h',bs,Mh N _ _ U U U U,bs,r64 U U];cases decide (a[i]=b[i])<;>rfl
 rw [uS.eq_2,bH U,cf];rfl
def bZ (m:Qg)(l:List Int):Bool:=l.all (bp m)
def yq (N:Nat)(m:Qg)(c:Ql):Bool:=(cy N c).getD false&&(bZ m (bC c)&&bZ m (db c))
def N8 (N:Nat)(m:Qg)(roots:List Qn):Bool:=m.Young.all (yq N m)&&(m.Old.all (yq N m)&&bZ m (bn roots))
theorem o8 {m:Qg}{roots:List Qn}(hs:Small m roots)(hw:W64 m){c:Ql}(hc:c∈m.Young++m.Old):((bC c).length<=1200/\ ∀x∈bC c,in64 x)/\(db c).length<=1200/\ ∀x∈db c,in64 x:=by
 have h1:=hs.cells c hc;have h2:=eH c;have h3:=iN c;refine ⟨⟨by omega,fun x hx=> ?_⟩,by omega,fun x hx=> ?_⟩
 ·obtain ⟨v,h4,rfl⟩:=C4 hx;exact hw c hc v h4
 obtain ⟨v,h4,rfl⟩:=FN hx;exact hw c hc v h4
structure Bnd (B:Nat) (m:Qg) (roots:List Qn):Prop where
 young:m.Young.length<=B
 old:m.Old.length<=B
 roots:roots.length<=B
 cells: ∀c∈m.Young++m.Old,c.Slots.length<=B/\c.More.length<=B
def wt:List Ql->Nat
 | []=>0
 |c::l=>1+c.Slots.length+c.More.length+wt l
theorem yv: ∀a b:List Ql,wt (a++b)=wt a+wt b
 | [],b=>by simp [wt]
 |c::a,b=>by rw [List.cons_append,wt,wt,yv a b];omega
theorem K1 {l:List Ql}{i:Nat}(h:i<l.length):wt (l.take (i+1))=wt (l.take i)+(1+l[i].Slots.length+l[i].More.length):=by
 rw [aB h,yv];simp [wt]
def W6 (m:Qg)(roots:List Qn):Prop:=roots.length+wt m.Young+wt m.Old<=600
structure Wtd (m:Qg) (roots:List Qn):Prop where
 le:roots.length+wt m.Young+wt m.Old<=2900
 cnt:m.Young.length+m.Old.length<=600
def gi (p:Int->Bool):List Qn->List Qn
 |k::v::r=>(bif p k.N then [k,v] else [])++gi p r
 |_=> []
theorem Dn (p:Int->Bool): ∀l:List Qn,(gi p l).length<=l.length
 | []=>by simp [gi]
 | [_]=>by simp [gi]
 |k::v::r=>by
  have:=Dn p r;unfold gi;cases p k.N<;>simp<;>omega
theorem yM {p:Int->Bool}{x:Qn}: ∀{l:List Qn},x∈gi p l->x∈l
 | [],h=>by simp [gi] at h
 | [_],h=>by simp [gi] at h
 | k::v::r,h=>by
  unfold gi at h;rcases List.mem_append.1 h with h|h
  ·cases hp:p k.N with
   |false=>rw [hp] at h;cases h
   |true=>rw [hp] at h;simp at h;rcases h with h|h<;>simp [h]
  have:=yM h;simp [this]
def kC (N:Nat)(l:List Int)(c:Ql):Ql:=bif nL N c then ⟨c.Kind,c.Shape,c.Flags,c.Age,c.Slots,gi (fun x=>decide (x∈l)) c.More⟩ else c
theorem I9 (N:Nat)(hN:6500<N)(l:List Int)(hl:l.length<=5000)(y:Ql)(k v:Qn)(s:List Qn)(hs:s.length<=5000):dn (fun x st=>jf N (fun x=>iH N x l) y x st) (k,v) (none,s)=some (true,(none,s++(bif decide (k.N∈l) then [k,v] else []))):=by
 unfold dn jf iH;simp only [bs,pP N hN l hl];cases decide (k.N∈l)
 ·simp only [cf,List.append_nil];rfl
 simp only [ct];rw [rF (by simp;omega)];rfl
theorem Ed (N:Nat)(hN:6500<N)(l:List Int)(hl:l.length<=5000)(y c:Ql)(hc:c.More.length<=1000)(he:c.More.length%2=0): ∀(m i:Nat) (s:List Qn),c.More.length<m+i->i<=c.More.length->i%2=0->s.length<=i->ed N (dn (fun x st=>jf N (fun x=>iH N x l) y x st)) c m (i:Int) (none,s)=some (none,s++gi (fun x=>decide (x∈l)) (c.More.drop i))
 |0,i,s,h,h2,_,_=>by omega
 | m+1,i,s,h,h2,h3,h4=>by
  rw [ed.eq_2,r64 (a:=(i:Int)+1) U U];by_cases hi:i<c.More.length
  ·have hi1:i+1<c.More.length:=by omega
   have hl1:aw c.More ((i:Int)+1)=some c.More[i+1]:=by
    have:=aC hi1;simpa using this
   rw [bG U,ct,aC hi,bs,r64 (a:=(i:Int)+1) U U,hl1,bs,I9 N hN l hl y _ _ s U,bs];simp only [nt,cf];rw [r64 U U]
   have hlen:(s++(bif decide (c.More[i].N∈l) then [c.More[i],c.More[i+1]] else [])).length<=i+2:=by
    cases decide (c.More[i].N∈l)<;>simp<;>omega
   have:=Ed N hN l hl y c hc he m (i+2) _ U U U hlen;simp only [Int.natCast_add,Int.cast_ofNat_Int] at this;rw [this,List.drop_eq_getElem_cons hi,List.drop_eq_getElem_cons hi1,Qv];rfl
  rw [bH U,cf,List.drop_eq_nil_of_le U];simp [gi]
theorem Dm (N:Nat)(hN:6500<N)(l:List Int)(hl:l.length<=5000)(c:Ql)(hS:c.Slots.length<=600)(hc:c.More.length<=600):mh N c l=some (bif nL N c then kC N l c else AW):=by
 obtain ⟨-,h1,h2⟩:=Fo N U c U U;unfold mh vV iO kC;rw [h1,bs];cases hw:nL N c
 ·rfl
 have e:lG N c=some ():=rfl;have:=Ed N hN l hl c c U (h2 hw) N 0 [] U U rfl (by simp);simp only [nt,cf,ct,e,bs,nZ N c ⟨hS,hc⟩];have h3:ed N (dn (fun x st=>jf N (fun x=>iH N x l) c x st)) c N 0 (none,[])=some (none,[]++gi (fun x=>decide (x∈l)) (c.More.drop 0)):=this;rw [h3,bs];rfl
theorem Ht (N:Nat)(l:List Int)(c:Ql):(kC N l c).Slots.length=c.Slots.length/\(kC N l c).More.length<=c.More.length:=by
 unfold kC;cases nL N c
 ·exact ⟨J,Nat.le_refl _⟩
 exact ⟨J,Dn _ _⟩
theorem Hs {N:Nat}{l:List Int}{c:Ql}{v:Qn}(h:v∈(kC N l c).Slots++(kC N l c).More):v∈c.Slots++c.More:=by
 unfold kC at h;cases hw:nL N c
 ·rw [hw] at h;exact h
 rw [hw] at h;rcases List.mem_append.1 h with h|h
 ·exact Qw _ h
 exact Qx _ (yM h)
def wU (N:Nat)(c:Ql):Bool:=decide (c.Kind=10)&&(cy N c).getD false
def Mw (N:Nat)(c:Ql):Ql:=bif wU N c then ⟨c.Kind,c.Shape,c.Flags,c.Age,c.Slots,c.More.take 1⟩ else c
def OS (N:Nat)(m:Qg):Qg:=⟨m.Young.map (Mw N),m.Old.map (Mw N)⟩
theorem vm {m:Qg}{roots:List Qn}(hs:Small m roots){x:Int}(h:bp m x=true):in64 x:=by
 have h2:=qp h;have h3:=vt hs h;unfold in64;omega
def iD:Qn:=⟨0,0,⟨#[]⟩⟩
def eI (l:List Int):List Qn->List Qn
 |t::h::k::s::r=>(bif decide (t.N∈l) then [t,h,(bif decide (k.Kind=7)&& !decide (k.N∈l) then iD else k),s] else [])++eI l r
 |_=> []
def iP (l:List Int)(cb:Qn):List Qn->List Qn
 |t::h::_::s::r=>(bif decide (t.N∈l) then [] else [cb,h,s])++iP l cb r
 |_=> []
theorem vl (l:List Int)(t h k s:Qn)(r:List Qn):eI l (t::h::k::s::r)=(bif decide (t.N∈l) then [t,h,(bif decide (k.Kind=7)&& !decide (k.N∈l) then iD else k),s] else [])++eI l r:=Eq.trans rfl rfl
theorem yx (l:List Int)(cb t h k s:Qn)(r:List Qn):iP l cb (t::h::k::s::r)=(bif decide (t.N∈l) then [] else [cb,h,s])++iP l cb r:=Eq.trans rfl rfl
theorem Bv (p:Int->Bool)(k v:Qn)(r:List Qn):gi p (k::v::r)=(bif p k.N then [k,v] else [])++gi p r:=Eq.trans rfl rfl
theorem Kk (l:List Int)(cb:Qn): ∀xs:List Qn,(eI l xs).length+(iP l cb xs).length<=xs.length
 | []=>by simp [eI,iP]
 | [_]=>by simp [eI,iP]
 | [_,_]=>by simp [eI,iP]
 | [_,_,_]=>by simp [eI,iP]
 |t::h::k::s::r=>by
  have:=Kk l cb r;unfold eI iP;cases decide (t.N∈l)<;>simp<;>omega
def pw (l:List Int)(c:Ql):Ql×List Qn:=(⟨c.Kind,c.Shape,c.Flags,c.Age,c.Slots,c.More.take 1++eI l (c.More.drop 1)⟩,iP l (c.More.headD iD) (c.More.drop 1))
theorem four {l:List Qn}(h:4<=l.length): ∃t a k s r,l=t::a::k::s::r:=by
 match l,h with
 |t::a::k::s::r,_=>exact ⟨t,a,k,s,r,rfl⟩
theorem Gu (N:Nat)(hN:6500<N)(l:List Int)(p:List (Int×Bool))(hp: ∀x,(lk p x).getD false=decide (x∈l))(c y:Ql)(cb:Qn)(hcb:c.More[0]? =some cb)(hc:c.More.length<=1000): ∀(m i:Nat) (o t:List Qn),c.More.length<m+i->i<=c.More.length->(c.More.length - i)%4=0->o.length<=i->t.length<=i->fT N (dn (fun x st=>fq N c p y x st)) c m (i:Int) (none,(o,t))=some (none,(o++eI l (c.More.drop i),t++iP l cb (c.More.drop i)))
 |0,i,o,t,h,h2,_,_,_=>by omega
 | m +1,i,o,t,h,h2,h3,h4,h5=>by
  rw [fT.eq_2,r64 (a:=(i:Int)+4) U U];by_cases hi:i+4<=c.More.length
  ·obtain ⟨v1,v2,v3,v4,r,hd⟩:=four (l:=c.More.drop i) (by rw [List.length_drop];omega)
   have hd4:c.More.drop (i+4)=r:=by rw [<-List.drop_drop,hd];rfl
   have hx:(c.More.drop (i:Int).toNat).take (((i:Int)+4).toNat - (i:Int).toNat)=[v1,v2,v3,v4]:=by
    rw [Int.toNat_natCast,show ((i:Int)+4).toNat - i=4 by omega,hd];rfl
   have h0:aw c.More 0=some cb:=by
    have:=ja c.More 0;rw [hcb] at this;exact this
   have e0:aw [v1,v2,v3,v4] 0=some v1:=rfl;have e1:aw [v1,v2,v3,v4] 1=some v2:=rfl;have e2:aw [v1,v2,v3,v4] 2=some v3:=rfl;have e3:aw [v1,v2,v3,v4] 3=some v4:=rfl;rw [Kj U,ct,r64 U U,r64 U U,gL ⟨by omega,by omega,by omega,by omega⟩,hx]
   have hb:dn (fun x st=>fq N c p y x st) ((i:Int),[v1,v2,v3,v4]) (none,(o,t))=some (true,(none,(o++(bif decide (v1.N∈l) then [v1,v2,(bif decide (v3.Kind=7)&& !decide (v3.N∈l) then iD else v3),v4] else []),t++(bif decide (v1.N∈l) then [] else [cb,v2,v4])))):=by
    unfold dn fq;simp only [e0,e1,e2,e3,bs,hp,h0];unfold mE;simp only [e0,e1,e2,e3,bs];cases decide (v1.N∈l)
    ·simp only [nf,ct,cf,List.append_nil];rw [rF (by simp;omega)];rfl
    simp only [nt,ct,cf,List.append_nil];rw [rF (by simp;omega),rF (by simp;omega)];cases decide (v3.Kind=7)<;>cases decide (v3.N∈l)<;>rfl
   rw [hb,bs];simp only [nt,cf];rw [r64 U U];have:=Gu N hN l p hp c y cb hcb hc m (i+4) (o++(bif decide (v1.N∈l) then [v1,v2,(bif decide (v3.Kind=7)&& !decide (v3.N∈l) then iD else v3),v4] else [])) (t++(bif decide (v1.N∈l) then [] else [cb,v2,v4])) U hi U (by cases decide (v1.N∈l)<;>simp<;>omega) (by cases decide (v1.N∈l)<;>simp<;>omega);rw [show (((i+4:Nat)):Int)=(i:Int)+4 by omega] at this;rw [this,hd4,hd,Qv,Qv];rfl
  rw [I8 U,cf,List.drop_eq_nil_of_le U];simp [eI,iP]
theorem HY (N:Nat)(hN:2000<N)(c:Ql)(hS:c.Slots.length<=1000)(hc:c.More.length<=1000):tb N c=some (wU N c)/\(wU N c=true->1<=c.More.length/\(c.More.length - 1)%4=0):=by
 obtain ⟨b,hb,hb2⟩:=rj N hN c hS hc;unfold tb wU;rw [wh N hN c hS hc,hb];refine ⟨by cases decide (c.Kind=10)<;>cases b<;>rfl,fun h=> ?_⟩;rw [QG,decide_eq_true_eq] at h;exact (hb2 h.2).2 h.1
theorem yr (N:Nat)(hN:6500<N)(l:List Int)(hl:l.length<=5000)(c:Ql)(hS:c.Slots.length<=600)(hc:c.More.length<=600):jL N c l=some (bif wU N c then pw l c else (AW,[])):=by
 obtain ⟨h1,h2⟩:=HY N U c U U;unfold jL;rw [h1,bs];cases hw:wU N c
 ·rfl
 obtain ⟨g1,g2⟩:=h2 hw;simp only [nt,cf,ct]
 have hcb:c.More[0]? =some (c.More.headD iD):=by
  cases hm:c.More with
  |nil=>rw [hm] at g1;simp at g1
  |cons a r=>rfl
 apply Sat.eq;refine bA (fun k i (s:List (Int×Bool))=>im N l c k (i:Int) s) l.length (fun i s=> ∀x,(lk s x).getD false=decide (x∈l.take i)) _ ?_ ?_ N 0 [] U U (fun x=>by simp;rfl)
 ·intro k i s hi h3 go;show Sat (im N l c (k+1) (i:Int) s) _;rw [im.eq_2,bG U,ct,aC hi,bs,r64 U U]
  refine go _ fun x=> ?_
  rw [Gg,aB hi];by_cases e:l[i]=x
  ·rw [if_pos e,Qs (by simp [e])];rfl
  rw [if_neg e,h3 x];by_cases hm:x∈l.take i
  ·rw [Qs hm,Qs (Qw _ hm)]
  rw [Qt hm,Qt (by simp only [List.mem_append,List.mem_singleton];exact fun h=>h.elim hm fun h=>e h.symm)]
 intro k s h3;show Sat (im N l c (k+1) _ s) _;rw [QF] at h3;rw [im.eq_2,bH U,cf];unfold po tK cT pn mT
 have h0:aw c.More 0=some (c.More.headD iD):=by
  have:=ja c.More 0;rw [hcb] at this;exact this
 rw [rF (by simp;omega),bs,h0,bs,bs,bs];have:=Gu N hN l s h3 c ⟨c.Kind,c.Shape,c.Flags,c.Age,[]++c.Slots,[c.More.headD iD]⟩ _ hcb U N 1 [c.More.headD iD] [] U g1 g2 (by simp) (by simp);have this':fT N (dn (fun x st=>fq N c s ⟨c.Kind,c.Shape,c.Flags,c.Age,[]++c.Slots,[c.More.headD iD]⟩ x st)) c N 1 (none,([c.More.headD iD],[]))=_:=this;rw [this',bs];refine aA ?_
 have ht:c.More.take 1=[c.More.headD iD]:=by
  cases hm:c.More with
  |nil=>rw [hm] at g1;simp at g1
  |cons a r=>rfl
 unfold pw;rw [ht];rfl
def tf (a:Int):Bool:=decide (a.tmod 2=0)
def BJ (a:Int):Bool:=decide (a.tmod 2=1)
def ln (live:List Int):List Int:=live.filter tf++live.filter BJ
theorem xI {p:Int->Bool}: ∀{l:List Int} {i:Nat} (hi:i<l.length),p l[i]=true->(l.filter p)[((l.take i).filter p).length]? =some l[i]
 |x::l,0,hi,h=>by
  simp only [List.getElem_cons_zero] at h;simp [h]
 |x::l,i+1,hi,h=>by
  simp only [List.getElem_cons_succ] at h;have ih:=xI (l:=l) (i:=i) (by simpa using hi) h;rw [List.take_succ_cons]
  cases hx:p x with
  |true=>simp only [List.filter_cons,hx,if_true,List.length_cons,List.getElem?_cons_succ,List.getElem_cons_succ];exact ih
  |false=>simp only [List.filter_cons,hx,Bool.false_eq_true,if_false,List.getElem_cons_succ];exact ih
theorem Gv {p:Int->Bool}{l:List Int}{i:Nat}(hi:i<l.length):((l.take (i+1)).filter p).length=((l.take i).filter p).length+(bif p l[i] then 1 else 0):=by
 rw [aB hi,List.filter_append,QC];cases h:p l[i]<;>simp [h]
theorem CN (N:Nat){σ:Type}(φ:Int×Int->σ->Option (Option Exit×σ))(live:List Int)(hl:live.length<=2000)(hN:6500<N)(kb:Int->Int->Option Exit×σ->Option (Option Exit×σ))(b:Int)(p:Int->Bool)(hp: ∀a,p a=decide (a.tmod 2=b))(p6:Int)(h6:0<=p6/\p6<=2)(n0:Nat)(hn0:n0<=2000)
  (Inv:Nat->σ->Prop) (R:Option Exit×σ->Prop)
  (hstep: ∀i (hi:i<live.length) s,p live[i]=true->Inv (n0+((live.take i).filter p).length) s->Sat (φ (((n0+((live.take i).filter p).length:Nat):Int),live[i]) s) fun r=>r.1=none/\Inv (n0+((live.take i).filter p).length+1) r.2)
  (hk: ∀s,Inv (n0+(live.filter p).length) s->Sat (kb ((n0+(live.filter p).length:Nat):Int) (p6+1) (none,s)) R) (s:σ) (hs:Inv n0 s):Sat (df N kb (dn φ) b p6 live N (n0:Int) 0 (none,s)) R:=by
 have hfl: ∀i,((live.take i).filter p).length<=2000:=fun i=>Nat.le_trans (List.length_filter_le _ _) (by rw [QD];omega)
 refine bA (fun k i (st:Nat×σ)=>df N kb (dn φ) b p6 live k (st.1:Int) (i:Int) (none,st.2)) live.length (fun i st=>st.1=n0+((live.take i).filter p).length/\Inv st.1 st.2) _ ?_ ?_ N 0 (n0,s) U U ⟨by simp,hs⟩
 ·rintro k i ⟨n,st⟩ hi ⟨h1,h2⟩ go;simp only at h1 h2;have hb:=hfl i;show Sat (df N kb (dn φ) b p6 live (k+1) (n:Int) (i:Int) (none,st)) _;have hnx:=Gv (p:=p) hi;rw [df.eq_2,bG U,ct,aC hi,bs, <-hp];unfold ko;rw [r64 (a:=(i:Int)+1) U U];cases hq:p live[i]
  ·simp only [nf,ct];rw [hq] at hnx;have hg:=go (n,st) ⟨by show n=_;rw [hnx];exact h1,h2⟩
   first|rw [r64 (a:=(i:Int)+1) U U]|skip
   exact hg
  simp only [nt,cf];rw [hq] at hnx;obtain ⟨⟨e,s'⟩,g1,g2,g3⟩:=hstep i hi st hq (by rw [<-h1];exact h2);simp only at g2 g3;subst g2
  have hf:dn φ ((n:Int),live[i]) (none,st)=some (true,(none,s')):=by
   unfold dn;simp only;rw [h1,g1];rfl
  rw [hf,bs];simp only [nt,cf];rw [r64 (a:=(n:Int)+1) U U];have hg:=go (n+1,s') ⟨by show n+1=_;rw [hnx];show n+1=_+(_+1);omega,by show Inv (n+1) s';rw [h1];exact g3⟩
  first|rw [r64 (a:=(i:Int)+1) U U]|skip
  exact hg
 rintro k ⟨n,st⟩ ⟨h1,h2⟩;simp only [QF] at h1 h2;show Sat (df N kb (dn φ) b p6 live (k+1) (n:Int) _ (none,st)) _;rw [df.eq_2,bH U,cf];unfold oJ;rw [r64 U U,h1];exact hk st (by rw [<-h1];exact h2)
theorem CO (N:Nat){σ:Type}(φ:Int×Int->σ->Option (Option Exit×σ))(live:List Int)(hl:live.length<=2000)(hN:6500<N)
  (Inv:Nat->σ->Prop) (hstep: ∀n a s,(ln live)[n]? =some a->Inv n s->Sat (φ ((n:Int),a) s) fun r=>r.1=none/\Inv (n+1) r.2) (s:σ) (hs:Inv 0 s):Sat (fk N live (dn φ) (none,s)) fun r=>r.1=none/\Inv (ln live).length r.2:=by
 obtain ⟨k,rfl⟩: ∃k,N=k+3:=⟨N - 3,by omega⟩;have hev:(live.filter tf).length<=2000:=Nat.le_trans (List.length_filter_le _ _) hl;unfold fk;rw [eG.eq_2,show ((([0,1]:List Int).length:Int))=2 from rfl,bG U,ct,show aw ([0,1]:List Int) 0=some 0 from rfl,bs];refine CN (k+3) φ live hl U _ 0 tf (fun _=>J) 0 U 0 U Inv _ (fun i hi st hp hi2=> ?_) (fun st hst=> ?_) s hs
 ·refine hstep _ _ _ ?_ hi2;unfold ln;rw [List.getElem?_append_left]
  ·rw [Nat.zero_add];exact xI hi hp
  have:=(List.getElem?_eq_some_iff.1 (xI hi hp)).1;omega
 rw [eG.eq_2,show ((([0,1]:List Int).length:Int))=2 from rfl,bG U,ct,show aw ([0,1]:List Int) (0+1)=some 1 from rfl,bs];refine CN (k+3) φ live hl U _ 1 BJ (fun _=>J) (0+1) U (0+(live.filter tf).length) U Inv _ (fun i hi st hp hi2=> ?_) (fun st hst=> ?_) st hst
 ·refine hstep _ _ _ ?_ hi2;unfold ln;rw [List.getElem?_append_right U,show 0+(live.filter tf).length+((live.take i).filter BJ).length - (live.filter tf).length=((live.take i).filter BJ).length by omega];exact xI hi hp
 rw [eG.eq_2,show ((([0,1]:List Int).length:Int))=2 from rfl,bH U,cf];refine aA ⟨J,?_⟩;unfold ln;rw [QC]
 have e:0+(live.filter tf).length+(live.filter BJ).length=(live.filter tf).length+(live.filter BJ).length:=by omega
 rw [<-e];exact hst
def Ox (ha hb:Int->Bool)(A B:List Int)(v w:Qn):Bool:=
 bif !bU v|| !bU w then decide (v=w)
 else decide (v.Kind=w.Kind)&&(v.S.toList==w.S.toList)&&(bif !decide (v.N∈A)|| !decide (w.N∈B) then !decide (v.N∈A)&& !decide (w.N∈B)&&(ha v.N==hb w.N) else decide (A.idxOf v.N=B.idxOf w.N))
def KH (ha hb:Int->Bool)(A B:List Int)(x y:List Qn):Bool:=decide (x.length=y.length)&&(x.zip y).all fun p=>Ox ha hb A B p.1 p.2
def NN (ha hb:Int->Bool)(A B:List Int)(c d:Ql):Bool:=decide (c.Kind=d.Kind)&&decide (c.Shape=d.Shape)&&decide (c.Flags=d.Flags)&&KH ha hb A B c.Slots d.Slots&&KH ha hb A B c.More d.More
def OA (N:Nat)(a:Qg)(x:List Qn)(A:List Int)(b:Qg)(y:List Qn)(B:List Int):Bool:=
 decide (A.length=B.length)&&KH (bp a) (bp b) A B x y&&(A.zip B).all fun p=>NN (bp a) (bp b) A B (kC N A (bK a p.1)) (kC N B (bK b p.2))
def PG (kv:List (Int×Int))(l:List Int):Prop:= ∀x,lk kv x=if x∈l then some (l.idxOf x:Int) else none
structure SideOk (m:Qg) (x:List Qn) (A:List Int):Prop where
 small:Small m x
 w64:W64 m
 x64: ∀v∈x,in64 v.N
 len:A.length<=1200
 nd:A.Nodup
 has: ∀a∈A,bp m a=true
def yo (p:Int->Bool):List Qn->List Bool
 |k::_::r=>p k.N::yo p r
 |_=> []
theorem Ee (p:Int->Bool): ∀l:List Qn,l.length%2=0->2*(yo p l).length=l.length
 | [],_=>rfl
 | [_],h=>by simp at h
 |k::v::r,h=>by
  have:=Ee p r (by simp at h;omega);simp [yo];omega
theorem Cl (N:Nat)(hN:6500<N)(l:List Int)(hl:l.length<=5000)(c:Ql)(hc:c.More.length<=1000)(he:c.More.length%2=0): ∀(m i:Nat) (s:List Bool),c.More.length<m+i->i<=c.More.length->i%2=0->s.length<=i->nc N l c m s (i:Int)=pG N c (s++yo (fun x=>decide (x∈l)) (c.More.drop i))
 |0,i,s,h,h2,_,_=>by omega
 | m+1,i,s,h,h2,h3,h4=>by
  rw [nc.eq_2];by_cases hi:i<c.More.length
  ·have hi1:i+1<c.More.length:=by omega
   rw [bG U,ct,aC hi,bs,Kl N hN l hl,bs,rF (by simp;omega),r64 U U];have:=Cl N hN l hl c hc he m (i+2) (s++ [decide (c.More[i].N∈l)]) U U U (by simp;omega);rw [show (((i+2:Nat)):Int)=(i:Int)+2 by omega] at this;rw [this,List.drop_eq_getElem_cons hi,List.drop_eq_getElem_cons hi1,Qv];rfl
  rw [bH U,cf,List.drop_eq_nil_of_le U];simp [yo]
theorem Gl (p:Int->Bool): ∀(l:List Qn) (j:Nat) (h:2*j+1<l.length),(yo p l)[j]? =some (p (l[2*j]'U).N)
 |k::v::r,0,_=>rfl
 |k::v::r,j+1,h=>by
  have:=Gl p r j (by simp at h;omega);simp only [yo,List.getElem?_cons_succ];rw [this];simp only [show 2*(j+1)=2*j+1+1 by omega,List.getElem_cons_succ]
 | [_],j,h=>by simp at h
 | [],j,h=>by simp at h
theorem xZ (N:Nat)(p:Int->Bool)(c y:Ql)(hc:c.More.length<=1000)(he:c.More.length%2=0)(hN:6500<N): ∀(m j:Nat) (s:List Qn),c.More.length<2*(m+j)->2*j<=c.More.length->s.length<=2*j->gh N (yo p c.More) c y m (j:Int) s=qC N y (s++gi p (c.More.drop (2*j)))
 |0,j,s,h,h2,_=>by omega
 | m+1,j,s,h,h2,h3=>by
  have hk:=Ee p c.More he;rw [gh.eq_2];by_cases hj:2*j<c.More.length
  ·have hj1:2*j+1<c.More.length:=by omega
   have hjk:j<(yo p c.More).length:=by omega
   have e0:=Gl p c.More j hj1;rw [List.getElem?_eq_getElem hjk,Option.some.injEq] at e0;rw [bG U,ct,aC hjk,bs,e0]
   have g0:aw c.More (2*(j:Int))=some c.More[2*j]:=by
    have:=aC hj;rwa [show (((2*j:Nat)):Int)=2*(j:Int) by omega] at this
   have g1:aw c.More (2*(j:Int)+1)=some c.More[2*j+1]:=by
    have:=aC hj1;rwa [show (((2*j+1:Nat)):Int)=2*(j:Int)+1 by omega] at this
   unfold nr
   have step:=fun s' (hs':s'.length<=2*(j+1))=>xZ N p c y hc he hN m (j+1) s' U U hs'
   rw [show (((j+1:Nat)):Int)=(j:Int)+1 by omega] at step
   have hd:gi p (c.More.drop (2*j))=(bif p c.More[2*j].N then [c.More[2*j],c.More[2*j+1]] else [])++gi p (c.More.drop (2*(j+1))):=by
    rw [List.drop_eq_getElem_cons hj,List.drop_eq_getElem_cons hj1];rfl
   rw [hd];cases p c.More[2*j].N
   ·rw [cf,cf,r64 U U,step s U];rfl
   rw [ct,ct,r64 (a:=2*(j:Int)) U U,g0,bs,r64 (a:=2*(j:Int)) U U,r64 (a:=2*(j:Int)+1) U U,g1,bs,rF (by simp;omega),r64 U U,step _ (by simp;omega),Qv]
  rw [bH U,cf,List.drop_eq_nil_of_le U];simp [gi]
theorem EE (N:Nat)(hN:6500<N)(l:List Int)(hl:l.length<=5000)(c:Ql)(hS:c.Slots.length<=600)(hc:c.More.length<=600):qj N c l=some (bif nL N c then kC N l c else AW):=by
 obtain ⟨h1, -,h2⟩:=Fo N U c U U;unfold qj kC;rw [h1,bs];cases hw:nL N c
 ·rfl
 have e1:=Cl N hN l hl c U (h2 hw) N 0 [] U U rfl (by simp);have e2:=xZ N (fun x=>decide (x∈l)) c c U (h2 hw) hN N 0 [] U U (by simp);have e1':nc N l c N [] 0=_:=e1;have e2':gh N (yo (fun x=>decide (x∈l)) c.More) c c N 0 []=_:=e2
 have ec:qX N c=some c:=by
  unfold qX;rw [rF (by simp;omega),rF (by simp;omega)];rfl
 simp only [nt,cf,ct];rw [e1'];unfold pG tD;rw [ec,bs];simp only [List.drop_zero,QH];rw [e2'];rfl
def bI (c:Ql):List Int:=bC c++db c
def mN (N:Nat)(c:Ql):Bool:=(cy N c).getD false
theorem Js (c:Ql):(bI c).length<=c.Slots.length+2*c.More.length:=by
 have h1:=eH c;have h2:=iN c;unfold bI;rw [QC];omega
theorem xb: ∀l:List Ql,(l.flatMap bI).length<=2*wt l
 | []=>by simp [wt]
 |c::l=>by
  have h1:=xb l;have h2:=Js c;rw [List.flatMap_cons,QC,wt];omega
theorem Hc (N:Nat)(m:Qg)(l:List Int)(hl:l.length<N)(hl2:l.length<=6000)(h64: ∀x∈l,in64 x):bW N l (fun x=>ii N x m)=some (!bZ m l):=by
 have key: ∀k i:Nat,l.length<k+i->i<=l.length->Sat (dI N (fun x=>ii N x m) l k (i:Int)) fun r=>decide (0<=r)=!(l.drop i).all (bp m):=by
  intro k
  induction k with
  |zero=>intro i h1 h2;omega
  | succ k ih=>
   intro i h1 h2;rw [dI.eq_2];by_cases hi:i<l.length
   ·have h3:=ih (i+1) U hi;rw [show (((i+1:Nat)):Int)=(i:Int)+1 by omega] at h3;rw [bG U,ct,aC hi,bs,List.drop_eq_getElem_cons hi,List.all_cons];unfold ii;rw [uw N m _ (h64 _ (QI _)),bs,bs,r64 U U];cases bp m l[i]
    ·exact aA (by rw [Qs U];rfl)
    exact h3
   rw [bH U,cf,List.drop_eq_nil_of_le U];exact aA J
 obtain ⟨r,h1,h2⟩:=key N 0 U U;have h1':dI N (fun x=>ii N x m) l N 0=some r:=h1;unfold bW jX;rw [h1',bs,h2];unfold bZ;simp
def iF (N:Nat)(m:Qg)(roots:List Qn):Int:=
 bif (m.Young++m.Old).all (mN N) then bif bZ m ((m.Young++m.Old).flatMap bI++bn roots) then 0 else 50 else 51
theorem Dp (N:Nat)(hN:6500<N){m:Qg}{roots:List Qn}(hs:Small m roots)(ht:Wtd m roots)(hw:W64 m)(hr: ∀v∈roots,in64 v.N):lf N m roots=some (iF N m roots):=by
 have hle:=ht.le;have h1:=hs.young;have h2:=hs.old;have h3:=hs.roots
 have a64: ∀(l:List Ql),(∀c∈l,c∈m.Young++m.Old)-> ∀x∈l.flatMap bI,in64 x:=fun l hl x hx=>by
  obtain ⟨c,hc,hx⟩:=List.mem_flatMap.1 hx;obtain ⟨⟨-,g1⟩, -,g2⟩:=o8 hs hw (hl c hc);exact (List.mem_append.1 hx).elim (g1 x) (g2 x)
 have r64': ∀x∈bn roots,in64 x:=fun x hx=>by
  obtain ⟨v,h1, -,rfl⟩:=uA.1 hx;exact hr v h1
 have hal: ∀k,(bn (roots.take k)).length<=roots.length:=fun k=>by
  unfold bn;rw [QE];exact Nat.le_trans (List.length_filter_le _ _) (by rw [QD];omega)
 -- the roots
 have hroots: ∀q:List Int,q.length+roots.length<=5800->(∀x∈q,in64 x)->oL N roots m q=some (bif bZ m (q++bn roots) then 0 else 50):=by
  intro q hq q64;apply Sat.eq;unfold oL;refine bA (fun k i (s:List Int)=>eX N roots m k s (i:Int)) roots.length (fun i s=>s=q++bn (roots.take i)) _ ?_ ?_ N 0 q U U (by simp [bn])
  ·rintro k i s hi h1 go;show Sat (eX N roots m (k+1) s (i:Int)) _
   have hnext:q++bn (roots.take (i+1))=s++bn [roots[i]]:=by rw [aB hi,uB,h1,Qv]
   have hsl:s.length<=5800:=by have:=hal i;rw [h1,QC];omega
   rw [eX.eq_2,bG U,ct,aC hi,bs,rX,bs];unfold nu;cases hb:bU roots[i]
   ·rw [cf,r64 U U];exact go s (by rw [hnext];simp [bn,hb])
   rw [ct,rF (by simp;omega),r64 U U];exact go _ (by rw [hnext];simp [bn,hb])
  rintro k s h1;show Sat (eX N roots m (k+1) s _) _;rw [QF] at h1
  have hsl:s.length<=5800:=by have:=hal roots.length;rw [QF] at this;rw [h1,QC];omega
  rw [eX.eq_2,bH U,cf];unfold qE;rw [Hc N m s U U (fun x hx=>by rw [h1] at hx;exact (List.mem_append.1 hx).elim (q64 x) (r64' x)),bs, <-h1];cases bZ m s<;>exact aA rfl
 -- one row
 have row: ∀(kb:List Int->Int->Option Int) (p:Int) (l:List Ql) (q:List Int),in64 (p+1)->l.length<=600->wt l<=2900->(∀c∈l,c∈m.Young++m.Old)->q.length<=6000->kO N kb m p l roots N q 0=bif l.all (mN N) then kb (q++l.flatMap bI) (p+1) else some 51:=by
  intro kb p l q hp hll hl hl2 hq
  have key: ∀(k i:Nat),l.length<k+i->i<=l.length->kO N kb m p l roots k (q++(l.take i).flatMap bI) (i:Int)=bif (l.drop i).all (mN N) then kb (q++l.flatMap bI) (p+1) else some 51:=by
   intro k
   induction k with
   |zero=>intro i h1 h2;omega
   | succ k ih=>
    intro i h4 h5;have hfl:=xb (l.take i)
    have hwt:wt (l.take i)<=wt l:=by
     have:=yv (l.take i) (l.drop i);rw [List.take_append_drop] at this;omega
    by_cases hi:i<l.length
    ·have hm:=hl2 l[i] (QI _);have hc:=hs.cells _ hm;have hwi:=K1 hi
     have hwt2:wt (l.take (i+1))<=wt l:=by
      have:=yv (l.take (i+1)) (l.drop (i+1));rw [List.take_append_drop] at this;omega
     obtain ⟨b,hb, -⟩:=rj N U l[i] U U
     have hrc:mN N l[i]=b:=by unfold mN;rw [hb];rfl
     have e1:=eH l[i];have e2:=iN l[i];have h6:=ih (i+1) U hi;rw [show (((i+1:Nat)):Int)=(i:Int)+1 by omega] at h6;rw [kO.eq_2,bG U,ct,aC hi,bs,wh N U _ U U,hb,bs,nI N U _ U U,bs,QC,rF U,sw N U _ U U,bs,QC,QC,rF U,r64 U U]
     have hap:q++(l.take i).flatMap bI++bC l[i]++db l[i]=q++(l.take (i+1)).flatMap bI:=by
      rw [aB hi,List.flatMap_append];simp [bI,Qv]
     rw [hap,h6,List.drop_eq_getElem_cons hi,List.all_cons,hrc];cases b<;>rfl
    have e:i=l.length:=by omega
    subst e;rw [kO.eq_2,bH U,cf,List.drop_length,QF];unfold qF;rw [gL hp];rfl
  have:=key N 0 U U;simpa using this
 have hwy:wt m.Young<=2900:=by omega
 have hwo:wt m.Old<=2900:=by omega
 have hfy:=xb m.Young;have hfo:=xb m.Old;obtain ⟨k,rfl⟩: ∃k,N=k+3:=⟨N - 3,by omega⟩;unfold lf iF;rw [lZ.eq_2,show ((([m.Young,m.Old]:List Qy).length:Int))=2 from rfl,bG U,ct,show aw ([m.Young,m.Old]:List Qy) 0=some m.Young from rfl,bs,row _ 0 m.Young [] (by unfold in64;omega) h1 hwy (fun c hc=>Qw _ hc) (by simp)];rw [lZ.eq_2,show ((([m.Young,m.Old]:List Qy).length:Int))=2 from rfl,bG U,ct,show aw ([m.Young,m.Old]:List Qy) (0+1)=some m.Old from rfl,bs,QH,row _ (0+1) m.Old (m.Young.flatMap bI) (by unfold in64;omega) h2 hwo (fun c hc=>Qx _ hc) U]
 rw [lZ.eq_2,show ((([m.Young,m.Old]:List Qy).length:Int))=2 from rfl,bH U,cf,hroots _ (by rw [QC];omega) (fun x hx=>by
  rw [<-List.flatMap_append] at hx
  exact a64 _ (fun c hc=>hc) x hx),List.all_append,List.flatMap_append]
 cases m.Young.all (mN (k+3))<;>cases m.Old.all (mN (k+3))<;>rfl
def o6 (f:List Int)(a:Int):Int:=2*((f.idxOf a:Nat):Int)+2
def bX (ρ:Int->Int)(f:List Int)(v:Qn):Qn:=bif bU v&&decide (v.N∈f) then ⟨v.Kind,ρ v.N,v.S⟩ else v
def iC (ρ:Int->Int)(f:List Int)(c:Ql):Ql:=⟨c.Kind,c.Shape,c.Flags,c.Age,c.Slots.map (bX ρ f),c.More.map (bX ρ f)⟩
def RhoM (kv:List (Int×Int))(f:List Int):Prop:= ∀x,lk kv x=if x∈f then some (o6 f x) else none
theorem vc (N:Nat)(hN:6500<N)(l:List Qn)(hl:l.length<=6000)(kv:List (Int×Int))(f:List Int)(hk:RhoM kv f):dZ N l kv=some (l.map (bX (o6 f) f)):=by
 apply Sat.eq;unfold dZ;refine bA (fun k i (s:List Qn)=>fO N l kv k s (i:Int)) l.length (fun i s=>s=(l.take i).map (bX (o6 f) f)) _ ?_ ?_ N 0 [] U U J
 ·rintro k i s hi h1 go;show Sat (fO N l kv (k+1) s (i:Int)) _
  have hsl:s.length<=i:=by rw [h1,QE,QD];omega
  have hnext:(l.take (i+1)).map (bX (o6 f) f)=s++ [bX (o6 f) f l[i]]:=by rw [aB hi,List.map_append,h1];rfl
  rw [fO.eq_2,bG U,ct,aC hi,bs,hk l[i].N,rX];unfold ns;by_cases hm:l[i].N∈f
  ·rw [if_pos hm];simp only [bs,Option.isSome_some,ct];cases hb:bU l[i]
   ·rw [cf,rF (by simp;omega),r64 U U];refine go _ ?_;rw [hnext];unfold bX;rw [hb];rfl
   rw [ct,rF (by simp;omega),r64 U U];refine go _ ?_;rw [hnext];unfold bX;rw [hb,Qs hm];rfl
  rw [if_neg hm];simp only [bs,Option.isSome_none,cf];rw [rF (by simp;omega),r64 U U];refine go _ ?_;rw [hnext];unfold bX;rw [Qt hm,Bool.and_false];rfl
 rintro k s h1;show Sat (fO N l kv (k+1) s _) _;rw [fO.eq_2,bH U,cf];exact aA (by rw [h1,QF])
def iq (N:Nat)(l:List Int)(c:Ql):Ql:=bif decide (c.Kind=8) then kC N l c else bif decide (c.Kind=10) then (pw l c).1 else c
def dG (l:List Int)(c:Ql):List Qn:=bif decide (c.Kind=10) then (pw l c).2 else []
theorem mF (N:Nat)(l:List Int)(c:Ql):(iq N l c).Slots.length=c.Slots.length/\(iq N l c).More.length+(dG l c).length<=c.More.length:=by
 unfold iq dG;by_cases h8:c.Kind=8
 ·rw [Qs h8,Qt (p:=c.Kind=10) U];have:=Ht N l c;simp only [cond_true,cond_false,List.length_nil];omega
 rw [Qt h8];by_cases h10:c.Kind=10
 ·rw [Qs h10];have:=Kk l (c.More.headD iD) (c.More.drop 1);rw [List.length_drop] at this;unfold pw;refine ⟨J,?_⟩;show (c.More.take 1++eI l (c.More.drop 1)).length+(iP l (c.More.headD iD) (c.More.drop 1)).length<=c.More.length;rw [QC,QD]
  cases hm:c.More with
  |nil=>rw [hm] at this;simp [eI,iP]
  |cons a r=>rw [hm] at this;simp only [List.length_cons] at this⊢;omega
 rw [Qt h10];simp
theorem RhoM.nil:RhoM [] []:=fun x=>rfl
theorem RhoM.add {kv:List (Int×Int)}{i:Nat}{f:List Int}(hi:i<f.length)(h:RhoM kv (f.take i))(hn:f.Nodup):RhoM (za kv f[i] (2*(i:Int)+2)) (f.take (i+1)):=by
 intro x
 have hlen:(f.take i).length=i:=by rw [QD];omega
 have hni:f[i]∉f.take i:=by
  intro hm;obtain ⟨j,hj,e⟩:=List.getElem_of_mem hm;rw [QD] at hj;rw [List.getElem_take] at e;exact List.pairwise_iff_getElem.1 (List.nodup_iff_pairwise_ne.1 hn) j i U hi U e
 rw [Gg,aB hi];unfold o6;rw [List.idxOf_append];by_cases e:f[i]=x
 ·rw [if_pos e, <-e,if_pos (Qx _ (by simp)),if_neg hni];simp [hlen]
 rw [if_neg e,h x];by_cases hm:x∈f.take i
 ·rw [if_pos hm,if_pos (Qw _ hm),if_pos hm];rfl
 rw [if_neg hm,if_neg (by simp only [List.mem_append,List.mem_singleton];exact fun hh=>hh.elim hm fun hh=>e hh.symm)]
structure Coll where
 next:Qg
 now:List Qn
 gone:List Qn
def Dk (N:Nat)(m:Qg)(roots:List Qn)(live f:List Int):Coll:=
 ⟨⟨[],f.map fun a=>iC (o6 f) f (iq N live (bK m a))⟩,roots.map (bX (o6 f) f),(f.flatMap fun a=>dG live (bK m a)).map (bX (o6 f) f)⟩
structure Mild (g:Qn->Qn):Prop where
 z:g vZ=vZ
 kind: ∀v,(g v).Kind=v.Kind
 num: ∀v,v.Kind=3->g v=v
 may: ∀v,ra v=true->ra (g v)=true
section
variable {g:Qn->Qn} (h:Mild g)
include h
theorem Mild.at_ (l:List Qn)(i:Nat):qJ (l.map g) i=g (qJ l i):=by
 unfold qJ;simp only [List.getD,List.getElem?_map]
 cases l[i]? with
 |none=>exact h.z.symm
 |some v=>rfl
theorem Mild.numB (v:Qn)(a b:Int):Go.Proofs.YthepenpebkjdfaaGreat.numB (g v) a b=Go.Proofs.YthepenpebkjdfaaGreat.numB v a b:=by
 unfold Go.Proofs.YthepenpebkjdfaaGreat.numB;by_cases h3:v.Kind=3
 ·rw [h.num v h3]
 rw [h.kind,Qt h3];rfl
theorem Mild.noneB (v:Qn)(k:Int):Go.Proofs.YthepenpebkjdfaaGreat.noneB (g v) k=Go.Proofs.YthepenpebkjdfaaGreat.noneB v k:=by
 unfold Go.Proofs.YthepenpebkjdfaaGreat.noneB;rw [h.kind]
theorem Mild.ent2: ∀l:List Qn,sb (l.map g)=sb l
 | []=>rfl
 | [_]=>rfl
 |k::v::r=>by
  simp only [List.map_cons];simp only [pu];rw [h.kind,h.kind,Mild.ent2 r]
theorem Mild.ent4: ∀l:List Qn,nX (l.map g)=nX l
 | []=>rfl
 | [_]=>rfl
 | [_,_]=>rfl
 | [_,_,_]=>rfl
 |t::v::k::s::r=>by
  simp only [List.map_cons];simp only [pt];rw [h.kind,h.kind,h.noneB,h.numB,Mild.ent4 r]
theorem Mild.slots (k sh fl:Int)(l:List Qn):qv k sh fl (l.map g)=qv k sh fl l:=by
 unfold qv;simp only [QE,h.at_,h.kind,h.noneB]
theorem Mild.more (k:Int)(l:List Qn):rR k (l.map g)=rR k l:=by
 unfold rR;rw [<-List.map_drop,h.ent2,h.ent4];simp only [QE,h.at_,h.kind,h.noneB,h.numB]
theorem Mild.all {l:List Qn}(hl:l.all ra=true):(l.map g).all ra=true:=by
 rw [List.all_eq_true] at hl⊢;intro v hv;obtain ⟨w,hw,rfl⟩:=List.mem_map.1 hv;exact h.may w (hl w hw)
theorem Mild.right {c:Ql}(hc:cY c=true):cY ⟨c.Kind,c.Shape,c.Flags,c.Age,c.Slots.map g,c.More.map g⟩=true:=by
 unfold cY at hc⊢;simp only [QG] at hc;obtain ⟨h1,h2,h3,h4,h5⟩:=hc;simp only [h.slots,h.more,h.all h2,h.all h3,h4,h5,Bool.and_true];simp only [QG];exact h1
end
theorem HT {v:Qn}(hb:bU v=true):ra v=((v.S.toList==(⟨#[]⟩:ByteArray).toList)&&decide (1<=v.N)):=by
 have hk:v.Kind=7\/v.Kind=9:=by
  unfold bU at hb;rw [Bool.or_eq_true,decide_eq_true_eq,decide_eq_true_eq] at hb;exact hb
 unfold ra ig;rcases hk with hk|hk<;>rw [hk]<;>cases (v.S.toList==(⟨#[]⟩:ByteArray).toList)<;>rfl
structure Ren (ρ:Int->Int) (f:List Int):Prop where
 inj: ∀a b,a∈f->b∈f->ρ a=ρ b->a=b
 pos: ∀a∈f,1<=ρ a
theorem J7 {ρ:Int->Int}{f:List Int}(hρ:Ren ρ f):Mild (bX ρ f) where
 z:=rfl
 kind v:=by unfold bX;cases bU v&&decide (v.N∈f)<;>rfl
 num v h:=by
  have:bU v=false:=by unfold bU;rw [h];rfl
  unfold bX;rw [this];rfl
 may v h:=by
  cases hb:bU v&&decide (v.N∈f) with
  |false=>unfold bX;rw [hb];exact h
  |true=>
   have hb0:=(QG _ _▸hb:bU v=true/\decide (v.N∈f)=true);have hb1:=hb0.1
   have e:bX ρ f v=⟨v.Kind,ρ v.N,v.S⟩:=by unfold bX;rw [hb];rfl
   have hb2:bU (⟨v.Kind,ρ v.N,v.S⟩:Qn)=true:=hb1;rw [e,HT hb2];rw [HT hb1,QG] at h;rw [QG];exact ⟨h.1,Qs (hρ.pos _ (of_decide_eq_true hb0.2))⟩
theorem I2 {ρ:Int->Int}{f:List Int}(hρ:Ren ρ f){c:Ql}(h:cY c=true):cY (iC ρ f c)=true:=(J7 hρ).right h
theorem wg {c:Ql}(h:cY c=true):c.Slots.all ra=true/\c.More.all ra=true/\rR c.Kind c.More=true:=by
 unfold cY at h;simp only [QG] at h;exact ⟨h.2.1,h.2.2.1,h.2.2.2.2⟩
theorem Cm {c:Ql}(h:cY c=true){m:List Qn}(h1:m.all ra=true)(h2:rR c.Kind m=true):cY ⟨c.Kind,c.Shape,c.Flags,c.Age,c.Slots,m⟩=true:=by
 unfold cY at h⊢;simp only [QG] at h;obtain ⟨g1,g2,g3,g4,g5⟩:=h;simp only [g2,h1,g4,h2,Bool.and_true];simp only [QG];exact g1
theorem Dh (p:Int->Bool): ∀{l:List Qn},sb l=true->sb (gi p l)=true
 | [],_=>rfl
 | [_],h=>by cases h
 |k::v::r,h=>by
  rw [pu] at h;rw [QG] at h;have ih:=Dh p h.2;simp only [Bv];cases p k.N
  ·exact ih
  show sb (k::v::gi p r)=true;simp only [pu];rw [h.1,ih];rfl
theorem Et (lv:List Int): ∀{l:List Qn},nX l=true->nX (eI lv l)=true
 | [],_=>rfl
 | [_],h=>by cases h
 | [_,_],h=>by cases h
 | [_,_,_],h=>by cases h
 | t::v::k::s::r,h=>by
  rw [pt] at h;rw [QG,QG,QG,QG] at h;obtain ⟨⟨⟨h1,h2⟩,h3,h4⟩,h5⟩:=h;have ih:=Et lv h5;simp only [vl];cases decide (t.N∈lv)
  ·exact ih
  show nX (t::v::(bif decide (k.Kind=7)&& !decide (k.N∈lv) then iD else k)::s::eI lv r)=true;simp only [pt]
  have h6:noneB (bif decide (k.Kind=7)&& !decide (k.N∈lv) then iD else k) 7=true:=by
   cases decide (k.Kind=7)&& !decide (k.N∈lv)
   ·exact h3
   rfl
  rw [h1,h2,h6,h4,ih];rfl
theorem C6 (lv:List Int){x:Qn}: ∀{l:List Qn},x∈eI lv l->x∈l\/x=iD
 | [],h=>by simp [eI] at h
 | [_],h=>by simp [eI] at h
 | [_,_],h=>by simp [eI] at h
 | [_,_,_],h=>by simp [eI] at h
 | t::v::k::s::r,h=>by
  simp only [vl] at h;rcases List.mem_append.1 h with h|h
  ·cases hd:decide (t.N∈lv) with
   |false=>rw [hd] at h;cases h
   |true=>
    rw [hd] at h
    cases hk:decide (k.Kind=7)&& !decide (k.N∈lv) with
    |false=>rw [hk] at h;simp at h;rcases h with h|h|h|h<;>subst h<;>simp
    |true=>rw [hk] at h;simp at h;rcases h with h|h|h|h<;>subst h<;>simp
  rcases C6 lv h with h|h
  ·exact .inl (by simp [h])
  exact .inr h
theorem Kd:ra iD=true:=by kernel_rfl
theorem Jo (N:Nat)(lv:List Int){c:Ql}(h:cY c=true):cY (iq N lv c)=true:=by
 obtain ⟨h1,h2,h3⟩:=wg h;unfold iq;by_cases h8:c.Kind=8
 ·rw [kB h8,cond_true];unfold kC;cases nL N c
  ·exact h
  refine Cm h (m:=gi (fun x=>decide (x∈lv)) c.More) ?_ ?_
  ·rw [List.all_eq_true] at h2⊢
   exact fun v hv=>h2 v (yM hv)
  rw [h8] at h3⊢;exact Dh _ h3
 rw [eJ h8,cond_false];by_cases h10:c.Kind=10
 ·rw [kB h10,cond_true];rw [h10] at h3;have h3':(decide (1<=c.More.length)&&decide ((qJ c.More 0).Kind=7)&&nX (c.More.drop 1))=true:=h3;simp only [QG,decide_eq_true_eq] at h3';obtain ⟨⟨g1,g2⟩,g3⟩:=h3';refine Cm h (m:=c.More.take 1++eI lv (c.More.drop 1)) ?_ ?_
  ·rw [List.all_eq_true] at h2⊢;intro v hv;rcases List.mem_append.1 hv with hv|hv
   ·exact h2 v (List.mem_of_mem_take hv)
   rcases C6 lv hv with hv|rfl
   ·exact h2 v (List.mem_of_mem_drop hv)
   exact Kd
  rw [h10];show (decide (1<=(c.More.take 1++eI lv (c.More.drop 1)).length)&&decide ((qJ (c.More.take 1++eI lv (c.More.drop 1)) 0).Kind=7)&&nX ((c.More.take 1++eI lv (c.More.drop 1)).drop 1))=true
  obtain ⟨a,r,hr⟩: ∃a r,c.More=a::r:=by
   cases hm:c.More with
   |nil=>rw [hm] at g1;simp at g1
   |cons a r=>exact ⟨a,r,rfl⟩
  rw [hr] at g2 g3⊢;have e1:(a::r).take 1++eI lv ((a::r).drop 1)=a::eI lv r:=rfl;rw [e1];have g3':nX r=true:=g3;have g2':a.Kind=7:=g2;simp only [QG,decide_eq_true_eq];exact ⟨⟨by simp,g2'⟩,Et lv g3'⟩
 rw [eJ h10,cond_false];exact h
end
section
open Go.RowKit
structure MapG (g g':Gr) (ρ:Int->Int) (S:Int->Prop):Prop where
 inj: ∀a b,S a->S b->ρ a=ρ b->a=b
 has: ∀a,S a->g.has a=true/\g'.has (ρ a)=true
 leads: ∀a,S a->g'.leads (ρ a)=(g.leads a).map ρ/\ ∀x∈g.leads a,S x
 opens: ∀row a,(∀x∈row,S x)->S a->g'.opens (row.map ρ) (ρ a)=(g.opens row a).map ρ/\ ∀x∈g.opens row a,S x
def cA {α:Type}(g:α->Nat):List α->Nat
 | []=>0
 |a::l=>g a+cA g l
theorem rv {α:Type}(g:α->Nat): ∀a b:List α,cA g (a++b)=cA g a+cA g b
 | [],b=>by simp [cA]
 |c::a,b=>by rw [List.cons_append,cA,cA,rv g a b];omega
theorem IC {α:Type}(g:α->Nat){a b:List α}(h:a.Perm b):cA g a=cA g b:=by
 induction h with
 |nil=>rfl
 |cons x _ ih=>rw [cA,cA,ih]
 |swap x y l=>rw [cA,cA,cA,cA];omega
 |trans _ _ h1 h2=>rw [h1,h2]
theorem pT (g:Int->Nat): ∀{l L:List Int},l.Nodup->(∀x∈l,x∈L)->cA g l<=cA g L
 | [],_,_,_=>Nat.zero_le _
 |a::l,L,hn,hs=>by
  obtain ⟨h1,h2⟩:=List.nodup_cons.1 hn;have hp:=List.perm_cons_erase (hs a (by simp));rw [IC g hp,cA,cA]
  have:=pT g (l:=l) (L:=L.erase a) h2 fun x hx=>(List.mem_erase_of_ne (fun e:x=a=>h1 (by rw [<-e];exact hx))).2 (hs x (by simp [hx]))
  omega
theorem mU {α β:Type}(g:β->Nat)(f:α->β): ∀l:List α,cA g (l.map f)=cA (fun x=>g (f x)) l
 | []=>rfl
 |x::l=>by rw [List.map_cons,cA,cA,mU g f l]
theorem zc {α:Type}{g h:α->Nat}: ∀{l:List α},(∀x∈l,g x<=h x)->cA g l<=cA h l
 | [],_=>Nat.le_refl _
 |x::l,hh=>by
  rw [cA,cA];have h1:=hh x (by simp)
  have h2:=zc (l:=l) fun y hy=>hh y (by simp [hy])
  omega
theorem xc {α β:Type}(f:α->List β): ∀l:List α,(l.flatMap f).length=cA (fun x=>(f x).length) l
 | []=>rfl
 |x::l=>by rw [List.flatMap_cons,QC,cA,xc f l]
theorem Cg {α:Type}(g h:α->Nat): ∀l:List α,cA (fun x=>g x+h x) l=cA g l+cA h l
 | []=>rfl
 |x::l=>by rw [cA,cA,cA,Cg g h l];omega
def wC (c:Ql):Nat:=1+c.Slots.length+c.More.length
theorem EN: ∀l:List Ql,wt l=cA wC l
 | []=>rfl
 |c::l=>by rw [wt,cA,EN l];rfl
def yQ (m:Qg):List Int:=(List.range m.Young.length).map (fun i:Nat=>2*(i:Int)+1)++(List.range m.Old.length).map (fun i:Nat=>2*(i:Int)+2)
theorem yu (m:Qg)(i:Nat)(h:i<m.Young.length):bK m (2*(i:Int)+1)=m.Young[i]:=by
 unfold bK iG;rw [if_neg U,if_pos U,show ((2*(i:Int)+1 - 1) / 2).toNat=i by omega,List.getElem?_eq_getElem h];rfl
theorem nl (m:Qg)(i:Nat)(h:i<m.Old.length):bK m (2*(i:Int)+2)=m.Old[i]:=by
 unfold bK iG;rw [if_neg U,if_neg U,show ((2*(i:Int)+2 - 2) / 2).toNat=i by omega,List.getElem?_eq_getElem h];rfl
theorem Hj (m:Qg)(i:Nat):bp m (2*(i:Int)+1)=decide (i<m.Young.length):=by
 unfold bp iG;rw [if_neg U,if_pos U,show ((2*(i:Int)+1 - 1) / 2).toNat=i by omega];by_cases h:i<m.Young.length
 ·rw [List.getElem?_eq_getElem h,Qs h];rfl
 rw [List.getElem?_eq_none U,Qt h];rfl
theorem xa (m:Qg)(i:Nat):bp m (2*(i:Int)+2)=decide (i<m.Old.length):=by
 unfold bp iG;rw [if_neg U,if_neg U,show ((2*(i:Int)+2 - 2) / 2).toNat=i by omega];by_cases h:i<m.Old.length
 ·rw [List.getElem?_eq_getElem h,Qs h];rfl
 rw [List.getElem?_eq_none U,Qt h];rfl
theorem Al (m:Qg):(yQ m).map (bK m)=m.Young++m.Old:=by
 unfold yQ;rw [List.map_append,List.map_map,List.map_map]
 congr 1
 ·refine List.ext_getElem (by simp) fun i h1 h2=> ?_
  simp only [List.getElem_map,List.getElem_range,Function.comp];exact yu m i h2
 refine List.ext_getElem (by simp) fun i h1 h2=> ?_
 simp only [List.getElem_map,List.getElem_range,Function.comp];exact nl m i h2
theorem il {m:Qg}{a:Int}(h:bp m a=true):(∃i:Nat,i<m.Young.length/\a=2*(i:Int)+1)\/ ∃i:Nat,i<m.Old.length/\a=2*(i:Int)+2:=by
 rcases sm m a with ⟨h1,h2⟩|⟨k,h1, -⟩|⟨k,h1, -⟩
 ·unfold bp at h;rw [h2] at h;cases h
 ·subst h1;rw [Hj] at h;exact .inl ⟨k,of_decide_eq_true h,J⟩
 subst h1;rw [xa] at h;exact .inr ⟨k,of_decide_eq_true h,J⟩
theorem uo {m:Qg}{a:Int}(h:bp m a=true):a∈yQ m:=by
 unfold yQ;rcases il h with ⟨i,h1,rfl⟩|⟨i,h1,rfl⟩
 ·exact Qw _ (List.mem_map.2 ⟨i,List.mem_range.2 h1,J⟩)
 exact Qx _ (List.mem_map.2 ⟨i,List.mem_range.2 h1,J⟩)
theorem JC {m:Qg}{l:List Int}(hn:l.Nodup)(hh: ∀a∈l,bp m a=true):cA (fun a=>wC (bK m a)) l<=wt m.Young+wt m.Old:=by
 have h1:=pT (fun a=>wC (bK m a)) hn fun a ha=>uo (hh a ha)
 have h2:=mU wC (bK m) (yQ m);rw [Al, <-EN,yv] at h2;omega
theorem tq {m:Qg}{a:Int}(h:bp m a=true):bK m a∈m.Young++m.Old:=by
 unfold bp at h;unfold bK
 cases hc:iG m a with
 |none=>rw [hc] at h;cases h
 |some c=>exact sk hc
def PQ:Qg:=⟨[⟨11,0,0,0,[],[⟨7,2,⟨#[]⟩⟩]⟩,⟨11,0,0,0,[],[]⟩],[⟨11,0,0,0,[],[]⟩,⟨11,0,0,0,[],[]⟩]⟩
def PS:Qg:=⟨[],[⟨10,0,0,0,[⟨1,0,⟨#[]⟩⟩],[⟨7,4,⟨#[]⟩⟩,⟨7,6,⟨#[]⟩⟩,⟨7,8,⟨#[]⟩⟩,⟨0,0,⟨#[]⟩⟩,⟨3,7,⟨#[]⟩⟩]⟩,⟨11,0,0,0,[],[]⟩,⟨11,0,0,0,[],[]⟩,⟨11,0,0,0,[],[]⟩]⟩
theorem FQ {a:Int}(h:0<a):a.tmod 2=0\/a.tmod 2=1:=by
 rw [o3 U];omega
theorem Hd {live:List Int}(hp: ∀a∈live,0<a)(a:Int):a∈ln live↔a∈live:=by
 unfold ln tf BJ;rw [List.mem_append,List.mem_filter,List.mem_filter,decide_eq_true_eq,decide_eq_true_eq];constructor
 ·rintro (h|h)<;>exact h.1
 intro h;rcases FQ (hp a h) with h2|h2
 ·exact .inl ⟨h,h2⟩
 exact .inr ⟨h,h2⟩
theorem CW: ∀{live:List Int},(∀a∈live,0<a)->(ln live).length=live.length
 | [],_=>rfl
 | a::l,hp=>by
  have ih:=CW (live:=l) fun b hb=>hp b (by simp [hb])
  unfold ln at ih⊢;rw [QC] at ih⊢;rcases FQ (hp a (by simp)) with h|h
  ·have e1:tf a=true:=Qs h;have e2:BJ a=false:=Qt U;simp only [List.filter_cons,e1,e2,if_true,Bool.false_eq_true,if_false,List.length_cons];omega
  have e1:tf a=false:=Qt U;have e2:BJ a=true:=Qs h;simp only [List.filter_cons,e1,e2,if_true,Bool.false_eq_true,if_false,List.length_cons];omega
theorem IY {live:List Int}(h:live.Pairwise (· < ·)):(ln live).Pairwise fun a b=> ¬(a.tmod 2=1/\b.tmod 2=0)/\(a.tmod 2=b.tmod 2->a<b):=by
 have hev: ∀a∈live.filter tf,a.tmod 2=0:=fun a ha=>of_decide_eq_true (List.mem_filter.1 ha).2
 have hod: ∀a∈live.filter BJ,a.tmod 2=1:=fun a ha=>of_decide_eq_true (List.mem_filter.1 ha).2
 unfold ln;refine List.pairwise_append.2 ⟨(h.filter _).imp_of_mem fun {a b} ha hb hlt=>⟨fun hh=> ?_,fun _=>hlt⟩,(h.filter _).imp_of_mem fun {a b} ha hb hlt=>⟨fun hh=> ?_,fun _=>hlt⟩,fun a ha b hb=>⟨fun hh=> ?_,fun hh=> ?_⟩⟩
 ·have:=hev a ha;omega
 ·have:=hod b hb;omega
 ·have:=hev a ha;omega
 have:=hev a ha;have:=hod b hb;omega
theorem pR {α:Type}{p:α->Bool}{l:List α}(h:l.all p=true){x:α}(hx:x∈l):p x=true:=List.all_eq_true.1 h x hx
theorem AT {N:Nat}{m:Qg}{roots:List Qn}(h:iF N m roots=0):(∀c∈m.Young++m.Old,mN N c=true)/\(∀c∈m.Young++m.Old, ∀x∈bI c,bp m x=true)/\ ∀x∈bn roots,bp m x=true:=by
 unfold iF at h
 cases h1:(m.Young++m.Old).all (mN N) with
 |false=>rw [h1] at h;cases h
 | true=>
  rw [h1] at h
  cases h2:bZ m ((m.Young++m.Old).flatMap bI++bn roots) with
  |false=>rw [h2] at h;cases h
  |true=>
   unfold bZ at h2;refine ⟨fun c hc=>pR h1 hc,fun c hc x hx=>pR h2 (Qw _ (List.mem_flatMap.2 ⟨c,hc,hx⟩)),fun x hx=>pR h2 (Qx _ hx)⟩
structure Live (N:Nat) (m:Qg) (roots:List Qn) (live f:List Int):Prop where
 ord: ∃b all,IsOrder (Dw N m) (bn roots) b all/\live=jq all/\f=ln live
 prog:mn N m roots=some live
 ref:pg N m roots=some live
 mem: ∀a,a∈f↔a∈live
 len:f.length=live.length
 small:live.length<=1200
 nd:f.Nodup
 asc:live.Pairwise (· < ·)
 has: ∀a∈live,bp m a=true
theorem IZ {live:List Int}(h:live.Pairwise (· < ·)):(ln live).Nodup:=by
 rw [List.nodup_iff_pairwise_ne]
 refine (IY h).imp fun {a b} hab e=> ?_
 have:=hab.2 (by rw [e]);omega
theorem HV (N:Nat)(hN:6500<N){m:Qg}{roots:List Qn}(hs:Small m roots)(hw:W64 m)(hr: ∀v∈roots,in64 v.N): ∃live f,Live N m roots live f:=by
 obtain ⟨bg,all,ho,hlen, -, -,o0⟩:=IU N hN hs hw hr;obtain ⟨b',all',ho',r0, -⟩:=G0 N hN hs hw hr;obtain ⟨-,e2⟩:=ho.det ho';subst e2;have hll:(jq all).length=all.length:=tV all;have hmem:=ri all;have hasc:=Ar ho.nodup.2
 have hhas: ∀a∈jq all,bp m a=true:=fun a ha=>ho.has.2 a ((hmem a).1 ha)
 have hpos: ∀a∈jq all,0<a:=fun a ha=>qp (hhas a ha)
 refine ⟨jq all,ln (jq all),⟨⟨_,all,ho,J,J⟩,Lt o0 U J,?_,Hd hpos,CW hpos,by omega,IZ hasc,hasc,hhas⟩⟩;unfold pg;rw [r0,bs,G1 N hN all U ho.nodup.2,bs]
theorem Live.fhas {N:Nat}{m:Qg}{roots:List Qn}{live f:List Int}(h:Live N m roots live f){a:Int}(ha:a∈f):bp m a=true:=h.has a ((h.mem a).1 ha)
theorem JB {N:Nat}{m:Qg}{roots:List Qn}{live f:List Int}(h:Live N m roots live f):(f.flatMap fun a=>dG live (bK m a)).length+wt (f.map fun a=>iC (o6 f) f (iq N live (bK m a)))<=wt m.Young+wt m.Old:=by
 have h1:=JC h.nd fun a ha=>h.fhas ha
 rw [xc,EN,mU, <-Cg];refine Nat.le_trans (zc fun a ha=> ?_) h1;have:=mF N live (bK m a);unfold wC iC;simp only [QE];omega
theorem rf {N:Nat}{m:Qg}{roots:List Qn}{live f:List Int}(h:Live N m roots live f)(n:Nat):((f.take n).flatMap fun a=>dG live (bK m a)).length<=wt m.Young+wt m.Old:=by
 have h1:=JB h
 have h2:(f.flatMap fun a=>dG live (bK m a))=((f.take n).flatMap fun a=>dG live (bK m a))++((f.drop n).flatMap fun a=>dG live (bK m a)):=by rw [<-List.flatMap_append,List.take_append_drop]
 rw [h2,QC] at h1;omega
def yt (N:Nat)(m:Qg)(roots:List Qn)(live f:List Int):Qg×List Qn×List Qn×Int:=
 bif decide (iF N m roots=0) then ((Dk N m roots live f).next,(Dk N m roots live f).now,(Dk N m roots live f).gone,0) else (⟨[],[]⟩,[],[],iF N m roots)
theorem FE (N:Nat)(hN:6500<N){m:Qg}{roots:List Qn}(hs:Small m roots)(ht:Wtd m roots)(hw:W64 m)(hr: ∀v∈roots,in64 v.N){live f:List Int}(hl:Live N m roots live f):nv N m roots=some (yt N m roots live f):=by
 apply Sat.eq;have hle:=ht.le;have hlen:=hl.small;have hfl:=hl.len;unfold nv yt;rw [Dp N hN hs ht hw hr,bs];by_cases h0: ¬iF N m roots=0
 ·rw [eJ h0];exact aA J
 replace h0:iF N m roots=0:=by omega
 rw [kB h0];simp only [nt,cf,ct];obtain ⟨c1,c2,c3⟩:=AT h0;obtain ⟨_,_,_,hlv,hff⟩:=hl.ord;rw [hl.prog,bs];unfold ld;rw [bs];refine Sat.bind (CO N (fun x st=>ly N roots m live x st) live U hN (fun n s=>RhoM s (f.take n)) ?_ [] ?_) ?_
 ·intro n a s ha h1;rw [<-hff] at ha;have hn:=(List.getElem?_eq_some_iff.1 ha).1;rw [List.getElem?_eq_getElem hn,Option.some.injEq] at ha;unfold ly;simp only;rw [r64 U U,r64 U U];refine aA ⟨J,?_⟩;rw [<-ha];exact h1.add hn hl.nd
 ·simpa using RhoM.nil
 rintro ⟨e,kv⟩ ⟨g1,g2⟩;simp only at g1 g2;subst g1;rw [<-hff,QF] at g2;unfold qM;simp only [bs]
 have hG: ∀a∈f,(iq N live (bK m a)).Slots.length<=600/\(iq N live (bK m a)).More.length<=600:=fun a ha=>by
  have h1:=mF N live (bK m a);have h2:=hs.at_ a;omega
 refine Sat.bind (CO N (fun x st=>lx N roots m live (none,kv) x st) live U hN (fun n s=>s.1=(f.take n).map (fun a=>iC (o6 f) f (iq N live (bK m a)))/\s.2=(f.take n).flatMap fun a=>dG live (bK m a)) ?_ ([],[]) ⟨by simp,by simp⟩) ?_
 ·rintro n a ⟨p,q⟩ ha ⟨h1,h2⟩;rw [<-hff] at ha;simp only at h1 h2;have hn:=(List.getElem?_eq_some_iff.1 ha).1;have ham:a∈f:=List.mem_of_getElem? ha;rw [List.getElem?_eq_getElem hn,Option.some.injEq] at ha
  have hpl:p.length<=2000:=by rw [h1,QE,QD];omega
  have hql:q.length<=2900:=by have:=rf hl n;rw [h2];omega
  have hq2:=rf hl (n+1);have hat:=FJ N hs a (vm hs (hl.fhas ham));have hsm:=hs.at_ a;have hrt:=c1 _ (tq (hl.fhas ham));have hc:=hG a ham;rw [aB hn,ha,List.flatMap_append, <-h2,QC] at hq2;simp only [List.flatMap_cons,List.flatMap_nil,List.append_nil] at hq2
  -- the last part
  have last: ∀q',q'=q++dG live (bK m a)->Sat (i7 N roots m p live (none,kv) q' (iq N live (bK m a)).Kind (iq N live (bK m a)).Shape (iq N live (bK m a)).Flags (iq N live (bK m a)).Age (iq N live (bK m a)).Slots (iq N live (bK m a)).More) fun r=>r.1=none/\r.2.1=(f.take (n+1)).map (fun a=>iC (o6 f) f (iq N live (bK m a)))/\r.2.2=(f.take (n+1)).flatMap fun a=>dG live (bK m a):=by
   intro q' hq';unfold i7;rw [vc N hN _ U kv f g2,bs,vc N hN _ U kv f g2,bs,rF (by simp;omega)];refine aA ⟨J,?_,?_⟩
   ·rw [aB hn,List.map_append, <-h1,ha];rfl
   rw [aB hn,List.flatMap_append, <-h2,ha,hq'];simp
  unfold lx;simp only;rw [hat,bs];unfold iq dG at last;unfold dG at hq2;by_cases h8:(bK m a).Kind=8
  ·have hwm:nL N (bK m a)=true:=by unfold nL;rw [Qs h8];exact hrt
   rw [kB h8,ct,Dm N hN live U _ hsm.1 hsm.2,bs,hwm,ct];rw [Qs h8,Qt (p:=(bK m a).Kind=10) U] at last;simp only [cond_true,cond_false,List.append_nil] at last;exact last q J
  by_cases h10:(bK m a).Kind=10
  ·have hwm:wU N (bK m a)=true:=by unfold wU;rw [Qs h10];exact hrt
   rw [eJ h8,cf,kB h10,ct,yr N hN live U _ hsm.1 hsm.2,bs,hwm,ct];rw [Qs h10] at hq2;rw [Qt h8,Qs h10] at last;simp only [cond_true,cond_false] at last hq2;rw [rF U];exact last _ J
  rw [eJ h8,cf,eJ h10,cf];rw [Qt h8,Qt h10] at last;simp only [cond_true,cond_false,List.append_nil] at last;exact last q J
 rintro ⟨e,p,q⟩ ⟨g1,g3,g4⟩;simp only at g1 g3 g4;subst g1;rw [<-hff,QF] at g3 g4;have hrl:=hs.roots
 have hql:q.length<=2900:=by have:=rf hl f.length;rw [QF] at this;rw [g4];omega
 simp only;rw [vc N hN _ U kv f g2,bs,vc N hN _ U kv f g2,bs];refine aA ?_;unfold Dk;rw [g3,g4]
theorem yJ {f:List Int}{a:Int}(h:a∈f):f.idxOf a<f.length:=List.idxOf_lt_length_iff.2 h
theorem sW {f:List Int}{a:Int}(h:a∈f):f[f.idxOf a]'(yJ h)=a:=List.getElem_idxOf (yJ h)
theorem K9 {f:List Int}{a b:Int}(ha:a∈f)(hb:b∈f)(h:o6 f a=o6 f b):a=b:=by
 unfold o6 at h
 have e:f.idxOf a=f.idxOf b:=by omega
 have h1:=sW ha;have h2:=sW hb;rw [<-h1, <-h2]
 congr 1
theorem K8 (f:List Int):Ren (o6 f) f:=⟨fun _ _ h1 h2 h3=>K9 h1 h2 h3,fun a _=>by unfold o6;omega⟩
theorem MK {ρ:Int->Int}{f:List Int}{v:Qn}(h1:bU v=true)(h2:v.N∈f):bX ρ f v=⟨v.Kind,ρ v.N,v.S⟩:=by
 unfold bX;rw [h1,Qs h2];rfl
theorem BS {F:Nat->Qn->Bool}: ∀{i:Nat} {l:List Qn} {j:Nat} {v:Qn},l[j]? =some v->F (i+j) v=true->v.N∈pick F i l
 |i,w::l,0,v,h,hF=>by
  simp only [List.getElem?_cons_zero,Option.some.injEq] at h;subst h;rw [la];rw [Nat.add_zero] at hF;rw [hF];simp
 |i,w::l,j+1,v,h,hF=>by
  simp only [List.getElem?_cons_succ] at h;rw [la];exact Qx _ (BS (i:=i+1) h (by rw [show i+1+j=i+(j+1) by omega];exact hF))
 |i,[],j,v,h,_=>by simp at h
def yT (f:List Int)(l:List Qn):Prop:= ∀v∈l,bU v=true->v.N∈f
theorem JE {f:List Int}{c:Ql}(h: ∀x∈bC c,x∈f):yT f c.Slots:=fun v hv hb=>by
 obtain ⟨j,hj,e⟩:=List.getElem_of_mem hv;refine h _ (Qw _ (BS (j:=j) (by rw [List.getElem?_eq_getElem hj,e]) hb))
theorem Lo {f:List Int}{c:Ql}(h: ∀x∈bC c,x∈f){j:Nat}{v:Qn}(hj:c.More[j]? =some v)(hw:lH c.Kind j=false)(hb:bU v=true):v.N∈f:=
 h _ (Qx _ (BS (j:=j) hj (by rw [Nat.zero_add,hw,hb];rfl)))
structure CellOk (N:Nat) (lv f:List Int) (c:Ql):Prop where
 big:2000<N
 right:cY c=true
 slots:c.Slots.length<=600
 more:c.More.length<=600
 leads: ∀x∈bC c,x∈f
 opens: ∀x∈dJ N c lv,x∈f
 mem: ∀x,x∈lv↔x∈f
theorem Hh {N:Nat}(hN:2000<N){c:Ql}(h:cY c=true)(hS:c.Slots.length<=600)(hM:c.More.length<=600):nL N c=decide (c.Kind=8):=by
 unfold nL;rw [nD N hN c U U,h];cases decide (c.Kind=8)<;>rfl
theorem Hi {N:Nat}(hN:2000<N){c:Ql}(h:cY c=true)(hS:c.Slots.length<=600)(hM:c.More.length<=600):wU N c=decide (c.Kind=10):=by
 unfold wU;rw [nD N hN c U U,h];cases decide (c.Kind=10)<;>rfl
theorem FW {N:Nat}(hN:2000<N){c:Ql}(hS:c.Slots.length<=600)(hM:c.More.length<=600):mN N c=cY c:=by
 unfold mN;rw [nD N hN c U U];rfl
section
variable {N:Nat} {ρ:Int->Int} {lv f:List Int} {c:Ql}
theorem KK:(iq N lv c).Kind=c.Kind/\(iq N lv c).Shape=c.Shape/\(iq N lv c).Flags=c.Flags/\(iq N lv c).Slots=c.Slots:=by
 unfold iq kC;cases decide (c.Kind=8)<;>cases decide (c.Kind=10)<;>cases nL N c<;>exact ⟨rfl,rfl,rfl,rfl⟩
theorem CellOk.new (hρ:Ren ρ f)(h:CellOk N lv f c):cY (iC ρ f (iq N lv c))=true/\(iC ρ f (iq N lv c)).Slots.length<=600/\(iC ρ f (iq N lv c)).More.length<=600/\(iC ρ f (iq N lv c)).Kind=c.Kind:=by
 have h1:=mF N lv c;have h2:=h.slots;have h3:=h.more;exact ⟨I2 hρ (Jo N lv h.right),by unfold iC;simp only [QE];omega,by unfold iC;simp only [QE];omega,KK.1⟩
theorem CellOk.ent2 (h:CellOk N lv f c)(h8:c.Kind=8):sb c.More=true:=by
 have:=(wg h.right).2.2;rw [h8] at this;exact this
theorem CellOk.ent4 (h:CellOk N lv f c)(h10:c.Kind=10):1<=c.More.length/\(qJ c.More 0).Kind=7/\nX (c.More.drop 1)=true:=by
 have:=(wg h.right).2.2;rw [h10] at this;have h3':(decide (1<=c.More.length)&&decide ((qJ c.More 0).Kind=7)&&nX (c.More.drop 1))=true:=this;simp only [QG,decide_eq_true_eq] at h3';exact ⟨h3'.1.1,h3'.1.2,h3'.2⟩
theorem CellOk.wm (h:CellOk N lv f c):nL N c=decide (c.Kind=8):=Hh h.big h.right h.slots h.more
theorem CellOk.fr (h:CellOk N lv f c):wU N c=decide (c.Kind=10):=Hi h.big h.right h.slots h.more
theorem CellOk.clC8 (h:CellOk N lv f c)(h8:c.Kind=8):iq N lv c=⟨c.Kind,c.Shape,c.Flags,c.Age,c.Slots,gi (fun x=>decide (x∈lv)) c.More⟩:=by
 unfold iq kC;rw [h.wm,Qs h8];rfl
theorem CellOk.clC10 (h10:c.Kind=10):iq N lv c=⟨c.Kind,c.Shape,c.Flags,c.Age,c.Slots,c.More.take 1++eI lv (c.More.drop 1)⟩:=by
 unfold iq;rw [Qt (p:=c.Kind=8) U,Qs h10];rfl
theorem CellOk.clC0 (h8:c.Kind≠8)(h10:c.Kind≠10):iq N lv c=c:=by
 unfold iq;rw [Qt h8,Qt h10];rfl
end
end
section
open Go.RowKit
theorem BY {c:Ql}{v:Qn}(hv:v∈c.Slots++c.More)(hb:bU v=true):v.N∈bI c:=by
 unfold bI;rcases List.mem_append.1 hv with hv|hv
 ·exact Qw _ (JE (f:=bC c) (fun x hx=>hx) v hv hb)
 obtain ⟨j,hj,e⟩:=List.getElem_of_mem hv
 cases hw:lH c.Kind j with
 |false=>exact Qw _ (Lo (f:=bC c) (fun x hx=>hx) (by rw [List.getElem?_eq_getElem hj,e]) hw hb)
 |true=>exact Qx _ (BS (j:=j) (by rw [List.getElem?_eq_getElem hj,e]) (by rw [Nat.zero_add,hw,hb];rfl))
theorem xD {p:Int->Bool}{x:Int}: ∀{l:List Qn},x∈opens p l-> ∃v∈l,bU v=true/\v.N=x
 | [],h=>by simp [opens] at h
 | [_],h=>by simp [opens] at h
 | k::v::l,h=>by
  rw [rO] at h;rcases List.mem_append.1 h with h|h
  ·cases hv:bU v&&p k.N with
   |false=>rw [hv] at h;cases h
   |true=>
    rw [hv] at h;rw [QG] at hv;exact ⟨v,by simp,hv.1,(List.mem_singleton.1 h).symm⟩
  obtain ⟨w,h1,h2⟩:=xD h;exact ⟨w,by simp [h1],h2⟩
structure CollCtx (N:Nat) (m:Qg) (roots:List Qn) (live f:List Int):Prop where
 big:6500<N
 small:Small m roots
 tot:Wtd m roots
 w64:W64 m
 r64: ∀v∈roots,in64 v.N
 lv:Live N m roots live f
 right: ∀c∈m.Young++m.Old,cY c=true
 addr: ∀c∈m.Young++m.Old, ∀x∈bI c,bp m x=true
 roots: ∀x∈bn roots,bp m x=true
theorem Nd {N:Nat}(hN:6500<N){m:Qg}{roots:List Qn}(hs:Small m roots)(ht:Wtd m roots)(hw:W64 m)(hr: ∀v∈roots,in64 v.N){live f:List Int}(hl:Live N m roots live f)(h0:iF N m roots=0):CollCtx N m roots live f:=by
 obtain ⟨h1,h2,h3⟩:=AT h0;exact ⟨hN,hs,ht,hw,hr,hl,fun c hc=>by have:=hs.cells c hc;rw [<-FW (N:=N) U this.1 this.2];exact h1 c hc,h2,h3⟩
section
variable {N:Nat} {m:Qg} {roots:List Qn} {live f:List Int} (h:CollCtx N m roots live f)
include h
theorem CollCtx.mem (x:Int):x∈live↔x∈f:=(h.lv.mem x).symm
theorem CollCtx.cell {a:Int}(ha:a∈f):CellOk N live f (bK m a):=by
 have hm:=tq (h.lv.fhas ha);obtain ⟨b,all,ho,hlv, -⟩:=h.lv.ord
 have hall: ∀x,x∈all↔x∈f:=fun x=>by rw [<-h.mem x,hlv];exact (ri all x).symm
 obtain ⟨q1,q2⟩:=ho.closed;have hs:=h.small.cells _ hm;have hN:=h.big;refine ⟨by omega,h.right _ hm,hs.1,hs.2,fun x hx=> ?_,fun x hx=> ?_,h.mem⟩
 ·exact (hall x).1 (q1 a ((hall a).2 ha) x hx (h.addr _ hm x (Qw _ hx)))
 have e:dJ N (bK m a) live=dJ N (bK m a) all:=by
  unfold dJ;rw [F7 (q:=fun x=>decide (x∈all)) fun x=>gt (by rw [h.mem x];exact (hall x).symm)]
 rw [e] at hx;refine (hall x).1 (q2 a ((hall a).2 ha) x hx ?_);unfold dJ at hx
 cases hw:nL N (bK m a) with
 |false=>rw [hw] at hx;cases hx
 |true=>
  rw [hw] at hx;obtain ⟨v,hv,hb,rfl⟩:=xD hx;exact h.addr _ hm _ (BY (Qx _ hv) hb)
end
def kM (N:Nat)(m:Qg)(live f:List Int):Qg:=⟨[],f.map fun a=>iC (o6 f) f (iq N live (bK m a))⟩
def Pm (N:Nat)(m:Qg)(live f:List Int)(a:Int):Ql:=iC (o6 f) f (iq N live (bK m a))
theorem AG {f:List Int}{v:Qn}(hf:f.length<=100000)(hv:in64 v.N):in64 (bX (o6 f) f v).N:=by
 unfold bX
 cases hb:bU v&&decide (v.N∈f) with
 |false=>exact hv
 |true=>
  rw [QG,decide_eq_true_eq] at hb;have:=yJ hb.2;show in64 (o6 f v.N);unfold o6 in64;omega
theorem Ij {N:Nat}{lv:List Int}{c:Ql}{v:Qn}(hv:v∈(iq N lv c).Slots++(iq N lv c).More):v∈c.Slots++c.More\/v=iD:=by
 unfold iq at hv
 cases h8:decide (c.Kind=8) with
 |true=>rw [h8] at hv;exact .inl (Hs hv)
 | false=>
  rw [h8] at hv
  cases h10:decide (c.Kind=10) with
  |false=>rw [h10] at hv;exact .inl hv
  |true=>
   rw [h10] at hv;have hv':v∈c.Slots++(c.More.take 1++eI lv (c.More.drop 1)):=hv;rcases List.mem_append.1 hv' with hv'|hv'
   ·exact .inl (Qw _ hv')
   rcases List.mem_append.1 hv' with hv'|hv'
   ·exact .inl (Qx _ (List.mem_of_mem_take hv'))
   rcases C6 lv hv' with hv'|hv'
   ·exact .inl (Qx _ (List.mem_of_mem_drop hv'))
   exact .inr hv'
theorem Ce {lv:List Int}{cb v:Qn}: ∀{l:List Qn},v∈iP lv cb l->v=cb\/v∈l
 | [],h=>by simp [iP] at h
 | [_],h=>by simp [iP] at h
 | [_,_],h=>by simp [iP] at h
 | [_,_,_],h=>by simp [iP] at h
 | t::a::k::s::r,h=>by
  simp only [yx] at h;rcases List.mem_append.1 h with h|h
  ·cases hd:decide (t.N∈lv) with
   |true=>rw [hd] at h;cases h
   |false=>rw [hd] at h;simp at h;rcases h with h|h|h<;>subst h<;>simp
  rcases Ce h with h|h
  ·exact .inl h
  exact .inr (by simp [h])
section
variable {N:Nat} {m:Qg} {roots:List Qn} {live f:List Int} (h:CollCtx N m roots live f)
include h
theorem CollCtx.flen:f.length<=1200:=by rw [h.lv.len];exact h.lv.small
theorem CollCtx.flen6:f.length<=600:=by
 have h1:=pT (fun _=>1) h.lv.nd fun a ha=>uo (h.lv.fhas ha)
 have h2: ∀l:List Int,cA (fun _=>1) l=l.length:=fun l=>by
  induction l with
  |nil=>rfl
  |cons x l ih=>rw [cA,ih,List.length_cons];omega
 rw [h2,h2] at h1;have h3:=h.tot.cnt;unfold yQ at h1;simp only [QC,QE,List.length_range] at h1;omega
theorem CollCtx.nextW:W64 (kM N m live f):=fun c hc v hv=>by
 have hl:=h.flen
 have hc':c∈f.map fun a=>iC (o6 f) f (iq N live (bK m a)):=hc
 obtain ⟨a,ha,rfl⟩:=List.mem_map.1 hc'
 have hv':v∈((iq N live (bK m a)).Slots++(iq N live (bK m a)).More).map (bX (o6 f) f):=by rw [List.map_append];exact hv
 obtain ⟨w,hw,rfl⟩:=List.mem_map.1 hv';refine AG U ?_;rcases Ij hw with hw|rfl
 ·exact h.w64.at_ a w hw
 show in64 0;unfold in64;omega
theorem CollCtx.nextS (l:List Qn)(hl:l.length<=600):Small (kM N m live f) l:=by
 refine ⟨Nat.zero_le _,?_,hl,fun c hc=> ?_⟩
 ·unfold kM;simp only [QE];exact h.flen6
 have hc':c∈f.map fun a=>iC (o6 f) f (iq N live (bK m a)):=hc
 obtain ⟨a,ha,rfl⟩:=List.mem_map.1 hc';obtain ⟨-,g2,g3, -⟩:=(CellOk.new (K8 f) (h.cell ha));exact ⟨g2,g3⟩
end
theorem zB {F:Nat->Qn->Bool}{x:Int}(hB: ∀i v,F i v=true->bU v=true): ∀{i:Nat} {l:List Qn},x∈pick F i l-> ∃v∈l,bU v=true/\v.N=x
 |_,[],h=>by cases h
 | i,v::l,h=>by
  rw [la] at h;rcases List.mem_append.1 h with h|h
  ·cases hf:F i v with
   |false=>rw [hf] at h;cases h
   |true=>rw [hf] at h;exact ⟨v,by simp,hB i v hf,(List.mem_singleton.1 h).symm⟩
  obtain ⟨w,g1,g2⟩:=zB hB h;exact ⟨w,by simp [g1],g2⟩
theorem Jt {c:Ql}{x:Int}(h:x∈bI c): ∃v∈c.Slots++c.More,bU v=true/\v.N=x:=by
 unfold bI bC db at h;rcases List.mem_append.1 h with h|h
 ·rcases List.mem_append.1 h with h|h
  ·obtain ⟨v,g1,g2⟩:=zB (fun _ _ h=>h) h;exact ⟨v,Qw _ g1,g2⟩
  obtain ⟨v,g1,g2⟩:=zB (fun i v h=>((QG _ _).mp h).2) h;exact ⟨v,Qx _ g1,g2⟩
 obtain ⟨v,g1,g2⟩:=zB (fun i v h=>((QG _ _).mp h).2) h;exact ⟨v,Qx _ g1,g2⟩
section
variable {N:Nat} {m:Qg} {roots:List Qn} {live f:List Int} (h:CollCtx N m roots live f)
include h
theorem CollCtx.now64: ∀v∈roots.map (bX (o6 f) f),in64 v.N:=fun v hv=>by
 have hl:=h.flen;obtain ⟨w,hw,rfl⟩:=List.mem_map.1 hv;exact AG U (h.r64 w hw)
end
end
section
open Go.RowKit
def bz (n:Nat):List Int:=(List.range n).map fun i:Nat=>2*(i:Int)+2
theorem Jj (n:Nat):(bz n).Pairwise (· < ·):=by
 unfold bz;rw [List.pairwise_map]
 exact List.pairwise_lt_range.imp fun h=>by omega
theorem Ei {n i:Nat}(h:i<(bz n).length):(bz n)[i]=2*(i:Int)+2:=by simp [bz]
end
end Go.Proofs.YthepenpebkjdfaaGreat