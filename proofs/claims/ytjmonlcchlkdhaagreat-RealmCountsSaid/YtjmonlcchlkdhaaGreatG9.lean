/- Merged texts: part 9. No conditions of their own. -/
import Derived.Test.YtjmonlcchlkdhaaGreatG2
import Derived.Test.YtjmonlcchlkdhaaGreatG8
import Derived.Test.YtjmonlcchlkdhaaGreatG1
import Derived.ProofKit
namespace Go.Proofs.YtjmonlcchlkdhaaGreat
section
open Go.RowKit Go.ChangeShapes Go.WideShapes Go.Deep
theorem To:type_of% Tryz.underlying29:=Tryz.underlying29
theorem Tn:type_of% Tryz.underlying53:=Tryz.underlying53
def Fe (x:Tp):Prop:=(in64 x.Ui)/\(in64 x.N)/\(in64 x.M)/\(x.S.size<=reachBytes)/\(Qp (fun a1=>in64 a1) x.L)
set_option maxRecDepth 100000 in
theorem KM:Ks Ua 53 HD Fe:=fun {_ enc w base spare held _ cs y} h hw=>by
 obtain ⟨xs,m, -,hy,hl,hx,hf⟩:=DataW.trod_struct Tn h
 have hc:Tryz.prog.cellsOf 53=5:=by kernel_rfl
 rw [hc] at hl
 match cs,hl,hf with
 | [c0,c1,c2,c3,c4],_,hf=>
  have k0:DataW.trod enc Ua w base spare held m 3 (List.take (Tryz.prog.cellsOf 3) (List.drop 0 [c0,c1,c2,c3,c4]))=xs[0]? :=hf 0 _ rfl
  have z0:Tryz.prog.cellsOf 3=1:=by kernel_rfl
  simp only [z0,List.drop_succ_cons,List.drop_zero,List.take_succ_cons,List.take_zero] at k0
  have l0:0<xs.length:=by rw [hx];decide
  obtain ⟨a0,r0,w0⟩:=(Rdr.w (oD hU)) (k0.trans (List.getElem?_eq_getElem l0)) (i6 Tn hy hw (i:=0) rfl (List.getElem?_eq_getElem l0));have k1:DataW.trod enc Ua w base spare held m 3 (List.take (Tryz.prog.cellsOf 3) (List.drop 1 [c0,c1,c2,c3,c4]))=xs[1]? :=hf 1 _ rfl
  have z1:Tryz.prog.cellsOf 3=1:=by kernel_rfl
  simp only [z1,List.drop_succ_cons,List.drop_zero,List.take_succ_cons,List.take_zero] at k1
  have l1:1<xs.length:=by rw [hx];decide
  obtain ⟨a1,r1,w1⟩:=(Rdr.w (oD hU)) (k1.trans (List.getElem?_eq_getElem l1)) (i6 Tn hy hw (i:=1) rfl (List.getElem?_eq_getElem l1));have k2:DataW.trod enc Ua w base spare held m 3 (List.take (Tryz.prog.cellsOf 3) (List.drop 2 [c0,c1,c2,c3,c4]))=xs[2]? :=hf 2 _ rfl
  have z2:Tryz.prog.cellsOf 3=1:=by kernel_rfl
  simp only [z2,List.drop_succ_cons,List.drop_zero,List.take_succ_cons,List.take_zero] at k2
  have l2:2<xs.length:=by rw [hx];decide
  obtain ⟨a2,r2,w2⟩:=(Rdr.w (oD hU)) (k2.trans (List.getElem?_eq_getElem l2)) (i6 Tn hy hw (i:=2) rfl (List.getElem?_eq_getElem l2));have k3:DataW.trod enc Ua w base spare held m 9 (List.take (Tryz.prog.cellsOf 9) (List.drop 3 [c0,c1,c2,c3,c4]))=xs[3]? :=hf 3 _ rfl
  have z3:Tryz.prog.cellsOf 9=1:=by kernel_rfl
  simp only [z3,List.drop_succ_cons,List.drop_zero,List.take_succ_cons,List.take_zero] at k3
  have l3:3<xs.length:=by rw [hx];decide
  obtain ⟨a3,r3,w3⟩:=(KL Te) (k3.trans (List.getElem?_eq_getElem l3)) (i6 Tn hy hw (i:=3) rfl (List.getElem?_eq_getElem l3));have k4:DataW.trod enc Ua w base spare held m 39 (List.take (Tryz.prog.cellsOf 39) (List.drop 4 [c0,c1,c2,c3,c4]))=xs[4]? :=hf 4 _ rfl
  have z4:Tryz.prog.cellsOf 39=1:=by kernel_rfl
  simp only [z4,List.drop_succ_cons,List.drop_zero,List.take_succ_cons,List.take_zero] at k4
  have l4:4<xs.length:=by rw [hx];decide
  obtain ⟨a4,r4,w4⟩:=(Iy t5 I (by decide) (of_decide_eq_true I) (Rdr.w (oD hU))) (k4.trans (List.getElem?_eq_getElem l4)) (i6 Tn hy hw (i:=4) rfl (List.getElem?_eq_getElem l4));obtain ⟨rfl, -⟩:=List.cons.inj (show [c0]=[_] from r0);obtain ⟨rfl, -⟩:=List.cons.inj (show [c1]=[_] from r1);obtain ⟨rfl, -⟩:=List.cons.inj (show [c2]=[_] from r2);obtain ⟨rfl, -⟩:=List.cons.inj (show [c3]=[_] from r3);obtain ⟨v4,e4,b4⟩:=r4;obtain ⟨rfl, -⟩:=List.cons.inj e4;obtain ⟨A4,q4,rfl,d4⟩:=b4;have b4:SlR (dg .i64) _ _ (.slice A4 a4.length q4) a4:=⟨_,_,rfl,d4⟩;exact ⟨⟨a0,a1,a2,a3,a4⟩,⟨_,_,_,J,b4⟩,⟨w0,w1,w2,w3,w4⟩⟩
def Cu (x:Tx):Prop:=(in64 x.UD)/\(in64 x.Uu)/\(in64 x.Uq)/\(in64 x.Ut)/\(in64 x.Uj)/\(in64 x.UC)/\(in64 x.UE)
set_option maxRecDepth 100000 in
theorem Fq:Ks Ua 29 Gm Cu:=fun {_ enc w base spare held _ cs y} h hw=>by
 obtain ⟨xs,m, -,hy,hl,hx,hf⟩:=DataW.trod_struct To h
 have hc:Tryz.prog.cellsOf 29=7:=by kernel_rfl
 rw [hc] at hl
 match cs,hl,hf with
 | [c0,c1,c2,c3,c4,c5,c6],_,hf=>
  have k0:DataW.trod enc Ua w base spare held m 3 (List.take (Tryz.prog.cellsOf 3) (List.drop 0 [c0,c1,c2,c3,c4,c5,c6]))=xs[0]? :=hf 0 _ rfl
  have z0:Tryz.prog.cellsOf 3=1:=by kernel_rfl
  simp only [z0,List.drop_succ_cons,List.drop_zero,List.take_succ_cons,List.take_zero] at k0
  have l0:0<xs.length:=by rw [hx];decide
  obtain ⟨a0,r0,w0⟩:=(Rdr.w (oD hU)) (k0.trans (List.getElem?_eq_getElem l0)) (i6 To hy hw (i:=0) rfl (List.getElem?_eq_getElem l0));have k1:DataW.trod enc Ua w base spare held m 3 (List.take (Tryz.prog.cellsOf 3) (List.drop 1 [c0,c1,c2,c3,c4,c5,c6]))=xs[1]? :=hf 1 _ rfl
  have z1:Tryz.prog.cellsOf 3=1:=by kernel_rfl
  simp only [z1,List.drop_succ_cons,List.drop_zero,List.take_succ_cons,List.take_zero] at k1
  have l1:1<xs.length:=by rw [hx];decide
  obtain ⟨a1,r1,w1⟩:=(Rdr.w (oD hU)) (k1.trans (List.getElem?_eq_getElem l1)) (i6 To hy hw (i:=1) rfl (List.getElem?_eq_getElem l1));have k2:DataW.trod enc Ua w base spare held m 3 (List.take (Tryz.prog.cellsOf 3) (List.drop 2 [c0,c1,c2,c3,c4,c5,c6]))=xs[2]? :=hf 2 _ rfl
  have z2:Tryz.prog.cellsOf 3=1:=by kernel_rfl
  simp only [z2,List.drop_succ_cons,List.drop_zero,List.take_succ_cons,List.take_zero] at k2
  have l2:2<xs.length:=by rw [hx];decide
  obtain ⟨a2,r2,w2⟩:=(Rdr.w (oD hU)) (k2.trans (List.getElem?_eq_getElem l2)) (i6 To hy hw (i:=2) rfl (List.getElem?_eq_getElem l2));have k3:DataW.trod enc Ua w base spare held m 3 (List.take (Tryz.prog.cellsOf 3) (List.drop 3 [c0,c1,c2,c3,c4,c5,c6]))=xs[3]? :=hf 3 _ rfl
  have z3:Tryz.prog.cellsOf 3=1:=by kernel_rfl
  simp only [z3,List.drop_succ_cons,List.drop_zero,List.take_succ_cons,List.take_zero] at k3
  have l3:3<xs.length:=by rw [hx];decide
  obtain ⟨a3,r3,w3⟩:=(Rdr.w (oD hU)) (k3.trans (List.getElem?_eq_getElem l3)) (i6 To hy hw (i:=3) rfl (List.getElem?_eq_getElem l3));have k4:DataW.trod enc Ua w base spare held m 3 (List.take (Tryz.prog.cellsOf 3) (List.drop 4 [c0,c1,c2,c3,c4,c5,c6]))=xs[4]? :=hf 4 _ rfl
  have z4:Tryz.prog.cellsOf 3=1:=by kernel_rfl
  simp only [z4,List.drop_succ_cons,List.drop_zero,List.take_succ_cons,List.take_zero] at k4
  have l4:4<xs.length:=by rw [hx];decide
  obtain ⟨a4,r4,w4⟩:=(Rdr.w (oD hU)) (k4.trans (List.getElem?_eq_getElem l4)) (i6 To hy hw (i:=4) rfl (List.getElem?_eq_getElem l4));have k5:DataW.trod enc Ua w base spare held m 3 (List.take (Tryz.prog.cellsOf 3) (List.drop 5 [c0,c1,c2,c3,c4,c5,c6]))=xs[5]? :=hf 5 _ rfl
  have z5:Tryz.prog.cellsOf 3=1:=by kernel_rfl
  simp only [z5,List.drop_succ_cons,List.drop_zero,List.take_succ_cons,List.take_zero] at k5
  have l5:5<xs.length:=by rw [hx];decide
  obtain ⟨a5,r5,w5⟩:=(Rdr.w (oD hU)) (k5.trans (List.getElem?_eq_getElem l5)) (i6 To hy hw (i:=5) rfl (List.getElem?_eq_getElem l5));have k6:DataW.trod enc Ua w base spare held m 3 (List.take (Tryz.prog.cellsOf 3) (List.drop 6 [c0,c1,c2,c3,c4,c5,c6]))=xs[6]? :=hf 6 _ rfl
  have z6:Tryz.prog.cellsOf 3=1:=by kernel_rfl
  simp only [z6,List.drop_succ_cons,List.drop_zero,List.take_succ_cons,List.take_zero] at k6
  have l6:6<xs.length:=by rw [hx];decide
  obtain ⟨a6,r6,w6⟩:=(Rdr.w (oD hU)) (k6.trans (List.getElem?_eq_getElem l6)) (i6 To hy hw (i:=6) rfl (List.getElem?_eq_getElem l6));obtain ⟨rfl, -⟩:=List.cons.inj (show [c0]=[_] from r0);obtain ⟨rfl, -⟩:=List.cons.inj (show [c1]=[_] from r1);obtain ⟨rfl, -⟩:=List.cons.inj (show [c2]=[_] from r2);obtain ⟨rfl, -⟩:=List.cons.inj (show [c3]=[_] from r3);obtain ⟨rfl, -⟩:=List.cons.inj (show [c4]=[_] from r4);obtain ⟨rfl, -⟩:=List.cons.inj (show [c5]=[_] from r5);obtain ⟨rfl, -⟩:=List.cons.inj (show [c6]=[_] from r6);exact ⟨⟨a0,a1,a2,a3,a4,a5,a6⟩,J,⟨w0,w1,w2,w3,w4,w5,w6⟩⟩
set_option maxRecDepth 100000 in
theorem Pw {H:Type}{enc:TypeId×Value->H}{W:World}{r:Reach}{b0:Nat}{base:Nat}{spare:Nat->Bool}{held:Bool}{v:Value}{d:DataW H}{p:List MemPlace}
  (hv:Value.okWide Ua W r b0 50 v) (h:DataW.Trod enc Ua W base spare held 50 v d p) (hz:Light Ua 50 d): ∃(m:List Tp) (Aq_0:Option Addr) (nq_0 cq_0:Nat),v=U Aq_0 nq_0 cq_0/\(Qp (fun a1=>Fe a1) m)/\(jL HD (U Aq_0 nq_0 cq_0) m).ok (fun _=>False) (fun q=>q<W.heap.size) W:=by
 obtain ⟨A,n,c,rfl⟩:=okWide_slice t9 hv;obtain ⟨fuel,hf⟩:=h;obtain ⟨m,⟨u,e,h1⟩,hw⟩:=(Iy t9 I (by decide) (of_decide_eq_true I) KM) hf hz;obtain ⟨rfl, -⟩:=List.cons.inj (show [_]=[_] from e);exact ⟨m,A,n,c,J,hw,h1⟩
set_option maxRecDepth 100000 in
theorem Px {H:Type}{enc:TypeId×Value->H}{W:World}{r:Reach}{b0:Nat}{base:Nat}{spare:Nat->Bool}{held:Bool}{v:Value}{d:DataW H}{p:List MemPlace}
  (hv:Value.okWide Ua W r b0 29 v) (h:DataW.Trod enc Ua W base spare held 29 v d p) (hz:Light Ua 29 d): ∃(m:Tx),v=.agg #[.int .i64 m.UD,.int .i64 m.Uu,.int .i64 m.Uq,.int .i64 m.Ut,.int .i64 m.Uj,.int .i64 m.UC,.int .i64 m.UE]/\(Cu m):=by
 obtain ⟨cs,rfl, -⟩:=okWide_struct To hv;obtain ⟨fuel,hf⟩:=h;obtain ⟨m,e,hw⟩:=Fq hf hz;obtain ⟨l⟩:=cs;have hx:l=[.int .i64 m.UD,.int .i64 m.Uu,.int .i64 m.Uq,.int .i64 m.Ut,.int .i64 m.Uj,.int .i64 m.UC,.int .i64 m.UE]:=e;exact ⟨m,by rw [hx],hw⟩
open Go.RowKit
def Sat {ρ:Type}(m:Option ρ)(R:ρ->Prop):Prop:= ∃r,m=some r/\R r
theorem ax {ρ:Type}{x:ρ}{R:ρ->Prop}(h:R x):Sat (some x) R:=⟨x,rfl,h⟩
theorem Sat.eq {ρ:Type}{m:Option ρ}{x:ρ}(h:Sat m (· =x)):m=some x:=by obtain ⟨r,h1,rfl⟩:=h;exact h1
theorem Sat.mono {ρ:Type}{m:Option ρ}{R Q:ρ->Prop}(h:Sat m R)(k: ∀x,R x->Q x):Sat m Q:=by obtain ⟨r,h1,h2⟩:=h;exact ⟨r,h1,k _ h2⟩
theorem Sat.bind {ρ σ:Type}{m:Option σ}{f:σ->Option ρ}{P:σ->Prop}{R:ρ->Prop}(h:Sat m P)(k: ∀x,P x->Sat (f x) R):Sat (m.bind f) R:=by obtain ⟨x,rfl,h2⟩:=h;exact k x h2
theorem rK {ρ:Type}{b:Bool}{x y:Option ρ}{R:ρ->Prop}(h1:b=true->Sat x R)(h2:b=false->Sat y R):Sat (bif b then x else y) R:=by cases b with|true=>exact h1 rfl|false=>exact h2 rfl
theorem dO {ρ:Type}{p:Prop}[Decidable p]{x y:Option ρ}{R:ρ->Prop}(h1:p->Sat x R)(h2: ¬p->Sat y R):Sat (bif decide p then x else y) R:=by
 by_cases h:p
 ·rw [TP h];exact h1 h
 rw [TQ h];exact h2 h
theorem bs {ρ σ:Type}{x:σ}{f:σ->Option ρ}:(some x).bind f=f x:=Eq.trans rfl rfl
theorem ct {ρ:Type}{x y:ρ}:(bif true then x else y)=x:=Eq.trans rfl rfl
theorem cf {ρ:Type}{x y:ρ}:(bif false then x else y)=y:=Eq.trans rfl rfl
theorem nt:(!true)=false:=Eq.trans rfl rfl
theorem nf:(!false)=true:=Eq.trans rfl rfl
theorem cu {a b:Int}(h:a<b):decide (a<b)=true:=TP h
theorem cn {a b:Int}(h:b<=a):decide (a<b)=false:=TQ V
theorem Lu {a b:Int}(h:a<=b):decide (a<=b)=true:=TP h
theorem Lv {a b:Int}(h:b<a):decide (a<=b)=false:=TQ V
theorem o5 {a b:Int}(h:a=b):decide (a=b)=true:=TP h
theorem io {a b:Int}(h:a≠b):decide (a=b)=false:=TQ h
theorem dE {ρ:Type}{b:Prop}[Decidable b]{m:Option ρ}(h:b):be b m=m:=if_pos h
theorem r64 {ρ:Type}{a:Int}{m:Option ρ}(h1: -9000000000000000000<=a)(h2:a<=9000000000000000000):be (in64 a) m=m:=if_pos ⟨by omega,by omega⟩
theorem rF {ρ:Type}{n:Nat}{m:Option ρ}(h:n<=1000000):be (bJ n) m=m:=if_pos (by unfold bJ;omega)
theorem FM {α:Type}{xs:List α}{i:Int}(h0:0<=i)(h1:i.toNat<xs.length):aw xs i=some xs[i.toNat]:=by
 unfold aw;rw [if_neg V,List.getElem?_eq_getElem h1]
theorem aL {α:Type}{xs:List α}{i:Nat}(h1:i<xs.length):aw xs (i:Int)=some xs[i]:=by
 unfold aw;rw [if_neg V,Int.toNat_natCast,List.getElem?_eq_getElem h1]
theorem cN {σ ρ:Type}(L:Nat->Nat->σ->Option ρ)(n:Nat)(Inv:Nat->σ->Prop)(R:ρ->Prop)
  (round: ∀m i s,i<n->Inv i s->(∀s',Inv (i+1) s'->Sat (L m (i+1) s') R)->Sat (L (m+1) i s) R)
  (fin: ∀m s,Inv n s->Sat (L (m+1) n s) R): ∀m i s,n<m+i->i<=n->Inv i s->Sat (L m i s) R
 |0,i,s,h,h2,_=>by omega
 |m+1,i,s,h,h2,hi=>by
  by_cases e:i=n
  ·subst e;exact fin m s hi
  exact round m i s V hi fun s' h'=>cN L n Inv R round fin m (i+1) s' V V h'
theorem oT {σ ρ:Type}(L:Nat->σ->Option ρ)(v:σ->Nat)(Inv:σ->Prop)(R:ρ->Prop)
  (round: ∀m s,Inv s->(∀s',v s'<v s->Inv s'->Sat (L m s') R)->Sat (L (m+1) s) R): ∀m s,v s<m->Inv s->Sat (L m s) R
 |0,_,h,_=>by omega
 |m+1,s,h,hi=>round m s hi fun s' h1 h2=>oT L v Inv R round m s' V h2
theorem aW {α:Type}{l:List α}{i:Nat}(h:i<l.length):l.take (i+1)=l.take i++ [l[i]]:=by
 rw [List.take_add_one,List.getElem?_eq_getElem h];rfl
theorem Je: ∀{a b:List Int},a.Pairwise (· < ·)->b.Pairwise (· < ·)->(∀x,x∈a↔x∈b)->a=b
 | [],[],_,_,_=>rfl
 | [],y::b,_,_,h=>by have:=(h y).2 (by simp);cases this
 |x::a,[],_,_,h=>by have:=(h x).1 (by simp);cases this
 | x::a,y::b,ha,hb,h=>by
  obtain ⟨ha1,ha2⟩:=List.pairwise_cons.1 ha;obtain ⟨a1,a2⟩:=List.pairwise_cons.1 hb
  have e:x=y:=by
   rcases List.mem_cons.1 ((h x).1 (by simp)) with e|h1
   ·exact e
   rcases List.mem_cons.1 ((h y).2 (by simp)) with e|h2
   ·exact e.symm
   have:=a1 x h1;have:=ha1 y h2;omega
  subst e;rw [Je ha2 a2 fun z=> ?_];constructor
  ·intro hz;rcases List.mem_cons.1 ((h z).1 (by simp [hz])) with e|h1
   ·subst e;exact absurd (ha1 z hz) V
   exact h1
  intro hz;rcases List.mem_cons.1 ((h z).2 (by simp [hz])) with e|h1
  ·subst e;exact absurd (a1 z hz) V
  exact h1
theorem H0 {α β:Type}[DecidableEq α](a:α)(L:List (α×β)):(∃i b,fp a L 0=some (i,b)/\L[i]? =some (a,b))\/(fp a L 0=none/\a∉L.map (·.1)):=by
 cases h:fp a L 0 with
 | none=>exact .inr ⟨rfl,fun h1=>by
   obtain ⟨p,h2,h3⟩:=List.mem_map.1 h1
   exact (NA a L).1 h p h2 h3⟩
 |some q=>obtain ⟨i,b⟩:=q;exact .inl ⟨i,b,J,(IU a L 0 i b h).2⟩
theorem zk {α β:Type}[DecidableEq α](L:List (α×β))(a:α)(b:β):(yy L a b).map (·.1)=if a∈L.map (·.1) then L.map (·.1) else L.map (·.1)++ [a]:=by
 unfold yy;rcases H0 a L with ⟨i,c,h1,h2⟩|⟨h1,h2⟩
 ·have hm:a∈L.map (·.1):=List.mem_map.2 ⟨_,List.mem_of_getElem? h2,rfl⟩;rw [h1,if_pos hm];show (L.set i (a,b)).map (·.1)=_;rw [List.map_set];apply List.ext_getElem?;intro j;by_cases e:i=j
  ·subst e;have hlt:=(List.getElem?_eq_some_iff.1 h2).1;rw [List.getElem?_set_self (by simpa using hlt),List.getElem?_map,h2];rfl
  rw [List.getElem?_set_ne e]
 rw [h1,if_neg h2];show (L++ [(a,b)]).map (·.1)=_;rw [List.map_append];rfl
theorem MO {α β:Type}[DecidableEq α](L:List (α×β))(a:α)(b:β)(x:α):x∈(yy L a b).map (·.1)↔x=a\/x∈L.map (·.1):=by
 rw [zk];split
 ·constructor
  ·exact .inr
  rintro (rfl|h)<;>assumption
 rw [List.mem_append,List.mem_singleton];exact Or.comm
theorem vC {α:Type}: ∀{l:List α} {i:Nat} {a:α},l.Nodup->l[i]? =some a-> ∀x,x∈l.eraseIdx i↔x∈l/\x≠a
 | [],_,_,_,h,_=>by simp at h
 |y::l,0,a,hn,h,x=>by
  simp only [List.getElem?_cons_zero,Option.some.injEq] at h;subst h;rw [List.eraseIdx_cons_zero];obtain ⟨h1, -⟩:=List.nodup_cons.1 hn;constructor
  ·intro hx;exact ⟨by simp [hx],fun e=>h1 (e▸hx)⟩
  rintro ⟨hx,hne⟩;rcases List.mem_cons.1 hx with e|hx
  ·exact absurd e hne
  exact hx
 | y::l,i+1,a,hn,h,x=>by
  simp only [List.getElem?_cons_succ] at h;obtain ⟨h1,h2⟩:=List.nodup_cons.1 hn;rw [List.eraseIdx_cons_succ,List.mem_cons,List.mem_cons,vC h2 h x];have ha:a∈l:=List.mem_of_getElem? h;constructor
  ·rintro (rfl|⟨h3,h4⟩)
   ·exact ⟨.inl J,fun e=>h1 (e▸ha)⟩
   exact ⟨.inr h3,h4⟩
  rintro ⟨rfl|h3,h4⟩
  ·exact .inl J
  exact .inr ⟨h3,h4⟩
theorem EY {α β:Type}[DecidableEq α]{L:List (α×β)}(h:(L.map (·.1)).Nodup)(a:α):(∀x,x∈(Bm L a).map (·.1)↔x∈L.map (·.1)/\x≠a)/\((Bm L a).map (·.1)).Nodup/\(Bm L a).length<=L.length:=by
 unfold Bm;rcases H0 a L with ⟨i,c,h1,h2⟩|⟨h1,h2⟩
 ·rw [h1]
  have h3:(L.map (·.1))[i]? =some a:=by rw [List.getElem?_map,h2];rfl
  show (∀x,x∈(L.eraseIdx i).map (·.1)↔_)/\((L.eraseIdx i).map (·.1)).Nodup/\(L.eraseIdx i).length<=_;rw [<-Bl];exact ⟨vC h h3,h.sublist (List.eraseIdx_sublist _ _),(List.eraseIdx_sublist _ _).length_le⟩
 rw [h1];exact ⟨fun x=>⟨fun hx=>⟨hx,fun e=>h2 (e▸hx)⟩,fun hx=>hx.1⟩,h,Nat.le_refl _⟩
theorem nv {α:Type}(xs:List α)(i:Nat):aw xs (i:Int)=xs[i]? :=by
 unfold aw;rw [if_neg V];simp
theorem Ci {ρ:Type}{b:Prop}[Decidable b]{m:Option ρ}(h:b):be b m=m:=if_pos h
def bm (v:Ty):Bool:=decide (v.Ui=7)||decide (v.Ui=9)
def lI (k:Int)(i:Nat):Bool:=!decide (k=8)&&(!decide (k=10)||decide ((i:Int).tmod 2=0))
def pick (f:Nat->Ty->Bool):Nat->List Ty->List Int
 |_,[]=> []
 |i,v::l=>(bif f i v then [v.N] else [])++pick f (i+1) l
theorem oc (f:Nat->Ty->Bool)(i:Nat)(v:Ty)(l:List Ty):pick f i (v::l)=(bif f i v then [v.N] else [])++pick f (i+1) l:=rfl
theorem zC (f:Nat->Ty->Bool): ∀(i:Nat) (l:List Ty),(pick f i l).length<=l.length
 |_,[]=>Nat.le_refl _
 |i,v::l=>by
  have:=zC f (i+1) l;unfold pick;cases f i v<;>simp<;>omega
theorem Ep: ∀(i:Nat) (l:List Ty),pick (fun _ _=>false) i l=[]
 |_,[]=>rfl
 |i,v::l=>by unfold pick;simp [Ep (i+1) l]
theorem qA (N:Nat)(v:Ty):mR N v=some (bm v):=by
 unfold mR bm;cases decide (v.Ui=7)<;>rfl
theorem zq (N:Nat)(v:Ty):xw N v=some (bm v):=by
 unfold xw bm;cases decide (v.Ui=7)<;>rfl
theorem E4 (N:Nat)(a b:Bool)(x:Ty)(p:List Int)(h:p.length<=5000):cY (fun x st=>eZ N a x st) (b,x) (none,p)=some (true,(none,p++(bif (b==a)&&bm x then [x.N] else []))):=by
 unfold cY eZ;simp only [qA,Option.bind_some];cases b==a
 ·simp
 cases bm x
 ·simp
 have:bJ (p.length+ [x.N].length):=by unfold bJ;simp only [List.length_cons,List.length_nil];omega
 simp only [cond_true,Option.bind_some,Bool.and_self];rw [Ci this];rfl
theorem Jg (N:Nat)(a:Bool)(c:TB)(hc:c.Um.length<=1000)(K:Nat)(hK:K<=1000): ∀(m i:Nat) (p:List Int),c.Um.length<m+i->i<=c.Um.length->p.length<=K+i->lj N (cY (fun x st=>eZ N a x st)) c m (i:Int) (none,p)=some (none,p++pick (fun i v=>(lI c.Ui i==a)&&bm v) i (c.Um.drop i))
 |0,i,p,h,h2,_=>by omega
 | m+1,i,p,h,h2,h3=>by
  rw [lj.eq_2];by_cases hi:i<c.Um.length
  ·rw [show (decide ((i:Int)<(c.Um.length:Int)))=true from TP V,nv,List.getElem?_eq_getElem hi,List.drop_eq_getElem_cons hi];simp only [cond_true,Option.bind_some]
   have hs:(bif !decide (c.Ui=8) then ((bif !decide (c.Ui=10) then (some true) else (some (decide ((i:Int).tmod 2=0)))).bind fun a1=>some a1) else (some false))=some (lI c.Ui i):=by
    unfold lI;cases decide (c.Ui=8)<;>cases decide (c.Ui=10)<;>rfl
   rw [hs];simp only [Option.bind_some];rw [E4 N a _ _ _ V];rw [Option.bind_some]
   dsimp only
   rw [Bool.not_true,cond_false];rw [Ci (by unfold in64;omega)]
   have hlen:(p++(bif (lI c.Ui i==a)&&bm c.Um[i] then [c.Um[i].N] else [])).length<=K+(i+1):=by
    cases (lI c.Ui i==a)&&bm c.Um[i]<;>simp<;>omega
   have:=Jg N a c hc K hK m (i+1) _ V hi hlen;simp only [Int.natCast_add,Int.cast_ofNat_Int] at this;rw [this];rw [oc,TS]
  rw [show (decide ((i:Int)<(c.Um.length:Int)))=false from TQ V,List.drop_eq_nil_of_le V];simp [pick]
theorem MA (N:Nat)(hN:2000<N)(a:Bool)(c:TB)(hS:c.Uo.length<=1000)(hc:c.Um.length<=1000): ∀(m i:Nat) (p:List Int),c.Uo.length<m+i->i<=c.Uo.length->p.length<=i->ky N (cY (fun x st=>eZ N a x st)) c m (i:Int) (none,p)=some (none,(p++pick (fun _ v=>(true==a)&&bm v) i (c.Uo.drop i))++pick (fun i v=>(lI c.Ui i==a)&&bm v) 0 c.Um)
 |0,i,p,h,h2,_=>by omega
 | m+1,i,p,h,h2,h3=>by
  rw [ky.eq_2];by_cases hi:i<c.Uo.length
  ·rw [show (decide ((i:Int)<(c.Uo.length:Int)))=true from TP V,nv,List.getElem?_eq_getElem hi,List.drop_eq_getElem_cons hi];simp only [cond_true,Option.bind_some];rw [E4 N a _ _ _ V];rw [Option.bind_some]
   dsimp only
   rw [Bool.not_true,cond_false];rw [Ci (by unfold in64;omega)]
   have hlen:(p++(bif (true==a)&&bm c.Uo[i] then [c.Uo[i].N] else [])).length<=(i+1):=by
    cases (true==a)&&bm c.Uo[i]<;>simp<;>omega
   have:=MA N hN a c hS hc m (i+1) _ V hi hlen;simp only [Int.natCast_add,Int.cast_ofNat_Int] at this;rw [this];rw [oc,TS p]
  rw [show (decide ((i:Int)<(c.Uo.length:Int)))=false from TQ V,List.drop_eq_nil_of_le V];simp only [cond_false,sv];have:=Jg N a c hc p.length V N 0 p V V V;simp only [Int.natCast_zero,Int.cast_ofNat_Int] at this;rw [this];simp [pick]
theorem xg (N:Nat)(hN:2000<N)(a:Bool)(c:TB)(hS:c.Uo.length<=1000)(hc:c.Um.length<=1000):kz N c a=some (pick (fun _ v=>(true==a)&&bm v) 0 c.Uo++pick (fun i v=>(lI c.Ui i==a)&&bm v) 0 c.Um):=by
 unfold kz sw nz;have:=MA N hN a c hS hc N 0 [] V V (by simp);simp only [Int.natCast_zero,Int.cast_ofNat_Int] at this;rw [Option.bind_some,this,Option.bind_some];show some _=some _;simp
def nl (k:Int)(i:Nat):Bool:=decide (k=8)||(decide (k=10)&&(decide (0<(i:Int))&&decide ((((i:Int) - 1).tmod 4).tmod 2=0)))
theorem Jj (N:Nat)(k:Int)(i:Nat)(hi:i<=5000):yJ N k (i:Int)=some (nl k i):=by
 unfold yJ nl;by_cases h1:k=8
 ·simp [h1]
 by_cases h2:k=10
 ·by_cases h3:(0:Int)<i
  ·subst h2;simp only [h3,decide_true,ct,bs,r64 (a:=(i:Int) - 1) V V,show decide ((10:Int)=8)=false from rfl,cf,Bool.false_or,Bool.true_and]
  subst h2;simp only [h3,decide_true,decide_false,ct,bs,show decide ((10:Int)=8)=false from rfl,cf,Bool.false_or,Bool.true_and,Bool.false_and]
 simp [h1,h2]
theorem CO (N:Nat)(hN:2000<N)(c:TB)(hS:c.Uo.length<=1000)(hc:c.Um.length<=1000):ta N c=some (pick (fun _ v=>bm v) 0 c.Uo++pick (fun i v=> !nl c.Ui i&&bm v) 0 c.Um):=by
 apply Sat.eq;unfold ta;refine cN (fun m i s=>mK N c m s (i:Int)) c.Uo.length (fun i s=>s++pick (fun _ v=>bm v) i (c.Uo.drop i)=pick (fun _ v=>bm v) 0 c.Uo/\s.length<=i) _ ?_ ?_ N 0 [] V V ⟨by simp,by simp⟩
 ·rintro m i s hi ⟨h1,h2⟩ k;show Sat (mK N c (m+1) s i) _;rw [List.drop_eq_getElem_cons hi,oc] at h1;rw [mK.eq_2,cu V,cond_true,aL hi,bs,zq,bs];simp only [bs];cases hh:bm c.Uo[i]
  all_goals
   simp only [hh,ct,cf,bs,Ug] at h1⊢
   first
   |(unfold pG
     rw [r64 V V]
     exact k s ⟨h1,by omega⟩)
   |(rw [rF (by simp;omega)]
     unfold pG;rw [r64 V V]
     exact k _ ⟨by rw [TS];exact h1,by simp;omega⟩)
 rintro m s ⟨h1,h2⟩;show Sat (mK N c (m+1) s _) _;rw [List.drop_length] at h1
 have h1:s=pick (fun _ v=>bm v) 0 c.Uo:=by rw [<-h1];simp [pick]
 rw [mK.eq_2,cn V,cond_false, <-h1];unfold zy;clear h1;refine cN (fun m i s=>lp N c m s (i:Int)) c.Um.length (fun i t=>t++pick (fun i v=> !nl c.Ui i&&bm v) i (c.Um.drop i)=s++pick (fun i v=> !nl c.Ui i&&bm v) 0 c.Um/\t.length<=1000+i) _ ?_ ?_ N 0 s V V ⟨by simp,by omega⟩
 ·rintro m i s hi ⟨h1,h2⟩ k;show Sat (lp N c (m+1) s i) _;rw [List.drop_eq_getElem_cons hi,oc] at h1;rw [lp.eq_2,cu V,cond_true,aL hi,bs,zq,bs,Jj _ _ _ V];simp only [bs];cases hh:bm c.Um[i]<;>cases hw:nl c.Ui i
  all_goals
   simp only [hh,hw,Bool.and_true,Bool.and_false,nt,nf,ct,cf,bs,Ug] at h1⊢
   first
   |(unfold pF
     rw [r64 V V]
     exact k s ⟨h1,by omega⟩)
   |(rw [rF (by simp;omega)]
     unfold pF;rw [r64 V V]
     exact k _ ⟨by rw [TS];exact h1,by simp;omega⟩)
 rintro m s ⟨h1,h2⟩;show Sat (lp N c (m+1) s _) _;rw [List.drop_length] at h1;rw [lp.eq_2,cn V,cond_false];exact ax (by rw [<-h1];simp [pick])
theorem Bx (k:Int)(i:Nat):lI k i=!nl k i:=by
 unfold lI nl;by_cases h8:k=8
 ·subst h8;rfl
 by_cases h10:k=10
 ·subst h10;have e0:(i:Int).tmod 2=(i:Int)%2:=Int.tmod_eq_emod_of_nonneg V;by_cases hi:(0:Int)<i
  ·have e1:((i:Int) - 1).tmod 4=((i:Int) - 1)%4:=Int.tmod_eq_emod_of_nonneg V;have e2:(((i:Int) - 1)%4).tmod 2=(((i:Int) - 1)%4)%2:=Int.tmod_eq_emod_of_nonneg V;rw [e0,e1,e2];by_cases h:(i:Int)%2=0
   ·have h2: ¬(((i:Int) - 1)%4)%2=0:=by omega
    rw [TP h,TQ h2,TP hi];rfl
   have h2:(((i:Int) - 1)%4)%2=0:=by omega
   rw [TQ h,TP h2,TP hi];rfl
  have:i=0:=by omega
  subst this;rfl
 simp [h8,h10]
def co (c:TB):List Int:=pick (fun _ v=>bm v) 0 c.Uo++pick (fun i v=> !nl c.Ui i&&bm v) 0 c.Um
theorem nT (N:Nat)(hN:2000<N)(c:TB)(hS:c.Uo.length<=1000)(hc:c.Um.length<=1000):f0 N c=some (co c):=by
 unfold f0 co;rw [xg N hN true c hS hc,bs]
 have e1:(fun (_:Nat) (v:Ty)=>(true==true)&&bm v)=fun _ v=>bm v:=by funext i v;rfl
 have e2:(fun (i:Nat) (v:Ty)=>(lI c.Ui i==true)&&bm v)=fun i v=> !nl c.Ui i&&bm v:=by funext i v;rw [Bx];cases nl c.Ui i<;>rfl
 rw [e1,e2]
theorem JY (N:Nat)(hN:2000<N)(c:TB)(hS:c.Uo.length<=1000)(hc:c.Um.length<=1000):ta N c=some (co c):=CO N hN c hS hc
theorem kU (c:TB):(co c).length<=c.Uo.length+c.Um.length:=by
 unfold co;have h1:=zC (fun _ v=>bm v) 0 c.Uo;have h2:=zC (fun i v=> !nl c.Ui i&&bm v) 0 c.Um;rw [Ub];omega
theorem zB {f:Nat->Ty->Bool}{x:Int}: ∀{i:Nat} {l:List Ty},x∈pick f i l-> ∃v∈l,v.N=x
 |_,[],h=>by cases h
 | i,v::l,h=>by
  rw [oc,List.mem_append] at h;rcases h with h|h
  ·cases hf:f i v
   ·rw [hf] at h;cases h
   rw [hf] at h;exact ⟨v,by simp,(List.mem_singleton.1 h).symm⟩
  obtain ⟨w,h1,h2⟩:=zB h;exact ⟨w,by simp [h1],h2⟩
theorem Do {c:TB}{x:Int}(h:x∈co c): ∃v∈c.Uo++c.Um,v.N=x:=by
 unfold co at h;rcases List.mem_append.1 h with h|h
 ·obtain ⟨v,h1,h2⟩:=zB h;exact ⟨v,by simp [h1],h2⟩
 obtain ⟨v,h1,h2⟩:=zB h;exact ⟨v,by simp [h1],h2⟩
def Eg:TB:=⟨0,0,0,0,[],[]⟩
def i3 (m:TM)(a:Int):Option TB:=if a<1 then none else if a%2=1 then m.Uj[((a - 1) / 2).toNat]? else m.Ul[((a - 2) / 2).toNat]?
def aJ (m:TM)(a:Int):Bool:=(i3 m a).isSome
def bw (m:TM)(a:Int):TB:=(i3 m a).getD Eg
structure Small (m:TM) (roots:List Ty):Prop where
 young:m.Uj.length<=600
 old:m.Ul.length<=600
 roots:roots.length<=600
 cells: ∀c∈m.Uj++m.Ul,c.Uo.length<=600/\c.Um.length<=600
theorem sD {m:TM}{a:Int}{c:TB}(h:i3 m a=some c):c∈m.Uj++m.Ul:=by
 unfold i3 at h;split at h
 ·cases h
 split at h
 ·exact TT _ (List.mem_of_getElem? h)
 exact TU _ (List.mem_of_getElem? h)
theorem Small.at_ {m:TM}{roots:List Ty}(h:Small m roots)(a:Int):(bw m a).Uo.length<=600/\(bw m a).Um.length<=600:=by
 unfold bw
 cases hc:i3 m a with
 |none=>exact ⟨by simp [Eg],by simp [Eg]⟩
 |some c=>exact h.cells c (sD hc)
theorem qb {m:TM}{a:Int}(h:aJ m a=true):0<a:=by
 unfold aJ i3 at h;split at h
 ·cases h
 omega
theorem xF {m:TM}{roots:List Ty}(hs:Small m roots){a:Int}(h:aJ m a=true):a<=1200:=by
 have h1:=hs.young;have h2:=hs.old;unfold aJ i3 at h;split at h
 ·cases h
 split at h
 ·have:=(List.getElem?_eq_some_iff.1 (Option.isSome_iff_exists.1 h).choose_spec).1;omega
 have:=(List.getElem?_eq_some_iff.1 (Option.isSome_iff_exists.1 h).choose_spec).1;omega
theorem yf {a:Int}(h:0<=a):a.tdiv 2=a / 2:=Int.tdiv_eq_ediv_of_nonneg h
theorem qE {a:Int}(h:0<=a):a.tmod 2=a%2:=Int.tmod_eq_emod_of_nonneg h
theorem xE {α:Type}(l:List α)(i:Nat):(l[i]?).isSome=decide ((i:Int)<(l.length:Int)):=by
 by_cases h:i<l.length
 ·rw [List.getElem?_eq_getElem h,TP V];rfl
 rw [List.getElem?_eq_none V,TQ V];rfl
theorem vm (m:TM)(a:Int):(a<1/\i3 m a=none)\/(∃k:Nat,a=2*(k:Int)+1/\i3 m a=m.Uj[k]?)\/(∃k:Nat,a=2*(k:Int)+2/\i3 m a=m.Ul[k]?):=by
 by_cases h:a<1
 ·exact .inl ⟨h,by unfold i3;rw [if_pos h]⟩
 by_cases h2:a%2=1
 ·refine .inr (.inl ⟨((a - 1) / 2).toNat,by omega,?_⟩);unfold i3;rw [if_neg h,if_pos h2]
 refine .inr (.inr ⟨((a - 2) / 2).toNat,by omega,?_⟩);unfold i3;rw [if_neg h,if_neg h2]
theorem Jl {a:Int}(h:in64 a): -4611686018427387904<=a.tdiv 2/\a.tdiv 2<=4611686018427387904:=by
 unfold in64 at h;by_cases h0:0<=a
 ·rw [yf h0];omega
 have h1:(-a).tdiv 2= -(a.tdiv 2):=Int.neg_tdiv a 2;rw [yf V] at h1;omega
theorem C4 (N:Nat)(m:TM)(a:Int)(h:in64 a):Sat (np N m a) fun r=>r.2.2=aJ m a/\(aJ m a=true->aw r.1 r.2.1=i3 m a):=by
 have hd:=Jl h;unfold np;rw [r64 V V];unfold oB aJ;rcases vm m a with ⟨h1,h2⟩|⟨k,h1,h2⟩|⟨k,h1,h2⟩
 ·rw [h2]
  refine dO (fun _=> ?_) fun _=> ?_
  ·rw [r64 V V,r64 V V,cn (a:=0) (b:=a) V,cf,bs];exact ax ⟨J,fun h=>by cases h⟩
  rw [cn (a:=0) (b:=a) V,cf,bs];exact ax ⟨J,fun h=>by cases h⟩
 ·subst h1;rw [h2,qE V,yf V,io V,cf,cu V,ct,bs,show (2*(k:Int)+1) / 2=k by omega];exact ax ⟨(xE _ _).symm,fun _=>nv _ _⟩
 subst h1;rw [h2,qE V,yf V,o5 V,ct,cu V,ct,bs,show (2*(k:Int)+2) / 2 - 1=k by omega];rw [r64 V V,r64 V V];exact ax ⟨(xE _ _).symm,fun _=>nv _ _⟩
theorem uo (N:Nat)(m:TM)(a:Int)(h:in64 a):jq N m a=some (aJ m a):=by
 obtain ⟨r,h1,h2, -⟩:=C4 N m a h;unfold jq;rw [h1,bs,h2]
theorem px (N:Nat)(c:TB)(h:c.Uo.length<=600/\c.Um.length<=600):eG N c=some c:=by
 unfold eG cI;rw [rF (by simp;omega),bs,rF (by simp;omega),bs];rfl
theorem F3 (N:Nat){m:TM}{roots:List Ty}(hs:Small m roots)(a:Int)(h:in64 a):kP N m a=some (bw m a):=by
 obtain ⟨r,h1,h2,h3⟩:=C4 N m a h;unfold kP bw;rw [h1,bs,h2];unfold aJ at*
 cases hc:i3 m a with
 |none=>rfl
 |some c=>
  have h4:=h3 (by rw [hc];rfl);rw [hc] at h4;have h5:=px N c (hs.cells c (sD hc));simp only [Option.isSome_some,nt,cf,h4,bs,h5];rfl
theorem IR (N:Nat)(m:TM)(a:Int)(h:in64 a):xv N m a=some (aJ m a):=by
 unfold in64 at h;unfold xv aJ;rcases vm m a with ⟨h1,h2⟩|⟨k,h1,h2⟩|⟨k,h1,h2⟩
 ·rw [h2,cu h1];rfl
 ·subst h1;rw [h2,cn V,cf,qE V,o5 V,ct,yf V,show (2*(k:Int)+1 - 1) / 2=k by omega,xE];rw [dE (by unfold in64;omega),dE (by unfold in64;omega)]
 subst h1;rw [h2,cn V,cf,qE V,io V,cf,yf V,show (2*(k:Int)+2 - 2) / 2=k by omega,xE];rw [dE (by unfold in64;omega),dE (by unfold in64;omega)]
theorem Mu (N:Nat)(m:TM)(a:Int)(h:in64 a):zw N m a=some (bw m a):=by
 have hh:=IR N m a h;unfold in64 at h;unfold zw bw;rw [hh,bs];unfold aJ;rcases vm m a with ⟨h1,h2⟩|⟨k,h1,h2⟩|⟨k,h1,h2⟩
 ·rw [h2];rfl
 ·cases hc:m.Uj[k]? with
  |none=>rw [h2,hc];rfl
  |some c=>
   rw [h2,hc];subst h1;simp only [Option.isSome_some,nt,cf];rw [qE V,o5 V,ct,yf V,show (2*(k:Int)+1 - 1) / 2=k by omega,nv,hc,bs];rw [dE (by unfold in64;omega),dE (by unfold in64;omega)];rfl
 cases hc:m.Ul[k]? with
 |none=>rw [h2,hc];rfl
 |some c=>
  rw [h2,hc];subst h1;simp only [Option.isSome_some,nt,cf];rw [qE V,io V,cf,yf V,show (2*(k:Int)+2 - 2) / 2=k by omega,nv,hc,bs];rw [dE (by unfold in64;omega),dE (by unfold in64;omega)];rfl
theorem J2 (N:Nat)(k:Int):vl N k=kC N k:=by
 unfold vl kC jz;by_cases h1:k=1
 ·subst h1;rfl
 by_cases h2:k=2
 ·subst h2;rfl
 by_cases h3:k=3
 ·subst h3;rfl
 by_cases h6:k=6
 ·subst h6;rfl
 by_cases h8:k=8
 ·subst h8;rfl
 by_cases h9:k=9
 ·subst h9;rfl
 by_cases h10:k=10
 ·subst h10;rfl
 rw [io h1,io h2,io h3,io h6,io h8,io h9,io h10];rfl
theorem KH (N:Nat)(c:TB):jy N c=jr N c:=by
 unfold jy jr;rw [J2];rfl
theorem Pc (N:Nat)(v:Ty):vj N v=dp N v:=by
 unfold vj dp qd;by_cases h5:v.Ui=5
 ·rw [h5];rfl
 rw [io h5];simp only [cf];by_cases hr:v.Ui<0\/9<v.Ui
 ·have h2:v.Ui≠2:=by omega
  have h3:v.Ui≠3:=by omega
  have h6:v.Ui≠6:=by omega
  have h7:v.Ui≠7:=by omega
  have h9:v.Ui≠9:=by omega
  have e1:((bif decide (v.Ui<0) then (some true) else (some (decide (9<v.Ui)))):Option Bool)=some true:=by
   rcases hr with h|h
   ·rw [cu h];rfl
   rw [cu (a:=9) h];cases decide (v.Ui<0)<;>rfl
  rw [e1,bs,ct,io h2,io h3,io h6,io h7,io h9];simp only [cf]
  have e2:(((bif decide (v.N=0) then (some (decide (0<=v.Ui))) else (some false)).bind fun a1=>(bif a1 then (some (decide (v.Ui<=9))) else (some false)).bind fun a2=>some a2):Option Bool)=some false:=by
   cases decide (v.N=0)
   ·rfl
   rcases hr with h|h
   ·rw [Lv (a:=0) (b:=v.Ui) V];rfl
   rw [Lv (a:=v.Ui) (b:=9) V];cases decide (0<=v.Ui)<;>rfl
  rw [e2];cases s:(v.S.toList==(⟨#[]⟩:ByteArray).toList)<;>rfl
 have e1:((bif decide (v.Ui<0) then (some true) else (some (decide (9<v.Ui)))):Option Bool)=some false:=by
  rw [cn (a:=v.Ui) (b:=0) V,cn (a:=9) (b:=v.Ui) V];rfl
 rw [e1,bs,cf];cases hs:(v.S.toList==(⟨#[]⟩:ByteArray).toList)
 ·rfl
 simp only [nt,cf];by_cases h2:v.Ui=2
 ·rw [h2];rfl
 rw [io h2];simp only [cf];by_cases h3:v.Ui=3
 ·rw [h3];rfl
 rw [io h3];simp only [cf];by_cases h6:v.Ui=6
 ·rw [h6];rfl
 rw [io h6];simp only [cf];by_cases h7:v.Ui=7
 ·rw [h7];rfl
 rw [io h7];simp only [cf];by_cases h9:v.Ui=9
 ·rw [h9];rfl
 rw [io h9,Lu (a:=0) V,Lu (a:=v.Ui) V];cases decide (v.N=0)<;>rfl
theorem GA (N:Nat)(v:Ty): ∃b,dp N v=some b:=by
 unfold dp;cases decide (v.Ui<0)<;>cases decide (9<v.Ui)<;>cases decide (v.Ui=5)<;>cases decide (v.N=0)<;>cases (v.S.toList==(⟨#[]⟩:ByteArray).toList)<;>cases decide (v.Ui=2)<;>cases decide (v.Ui=3)<;>cases decide ((-9007199254740992)<=v.N)<;>cases decide (v.Ui=6)<;>cases decide (v.Ui=7)<;>cases decide (v.Ui=9)<;>exact ⟨_,rfl⟩
theorem Ap (N:Nat)(k:Nat)(hk:k=2\/k=4)(l:List Ty)(hl:l.length<=1000): ∀(m i:Nat),l.length<m+i->i<=l.length->(l.length - i)%k=0-> ∃b,gi N (k:Int) l m (i:Int)=some b/\
  i9 N (cY (fun x st=>bY N (k:Int) x st)) l (k:Int) m (i:Int) (none,())=some (bif b then (none,()) else (some .ret,()))
 |0,i,h,h2,_=>by omega
 | m + 1,i,h,h2,h3=>by
  by_cases hi:i<l.length
  ·have hik:i+k<=l.length:=by
    rcases hk with rfl|rfl<;>omega
   have hmin:(min (k:Int) (((l.drop (i:Int).toNat).take (l.length - (i:Int).toNat)).length:Int))=k:=by
    rw [Uc,List.length_drop,Int.toNat_natCast];omega
   have hto:((i:Int)+(k:Int)).toNat=i+k:=by omega
   have hx: ∀j,j<k->aw ((l.drop i).take k) (j:Int)=l[i+j]? :=fun j hj=>by
    rw [nv,List.getElem?_take,if_pos hj,List.getElem?_drop]
   have a1:=hx 0 V;have a2:=hx 1 V;rw [List.getElem?_eq_getElem V] at a1 a2;have b4:aw l (i:Int)=some l[i]:=aL hi
   have b5:aw l ((i:Int)+1)=some (l[i+1]'V):=by
    have:=aL (xs:=l) (i:=i+1) V;simpa using this
   obtain ⟨b,a7,a8⟩:=Ap N k hk l hl m (i+k) V hik (by rcases hk with rfl|rfl<;>omega);simp only [Int.natCast_add] at a7 a8
   have fin: ∀b',(bif b' then some false else be (in64 ((i:Int)+(k:Int))) (gi N (k:Int) l m ((i:Int)+(k:Int))))=some (bif b' then false else b):=fun b'=>by
    cases b'
    ·rw [cf,r64 V V,a7];rfl
    rfl
   have fin2: ∀b':Bool,((bif b' then (some (some Exit.ret,())) else (some (none,())):Option (Option Exit×Unit)).map fun r=>(r.1.isNone,r))=some (!b',(bif b' then some Exit.ret else none,())):=fun b'=>by cases b'<;>rfl
   have goal: ∀b',((some (!b',((bif b' then some Exit.ret else none:Option Exit),())):Option (Bool×(Option Exit×Unit))).bind fun a6=>bif !a6.1 then (some a6.2) else (be (in64 ((i:Int)+(k:Int))) ((i9 N (cY (fun x st=>bY N (k:Int) x st)) l (k:Int) m) ((i:Int)+(k:Int)) a6.2)))=some (bif (bif b' then false else b) then (none,()) else (some .ret,())):=fun b'=>by
    cases b'
    ·rw [bs];simp only [nf,nt,cf];rw [r64 V V];exact a8
    rfl
   have lift: ∀(x:List Ty) (b':Bool),bY N (k:Int) x ()=(bif b' then (some (some Exit.ret,())) else (some (none,())))->cY (fun x st=>bY N (k:Int) x st) x (none,())=some (!b',(bif b' then some Exit.ret else none,())):=fun x b' hb=>by
    unfold cY;simp only [hb];exact fin2 b'
   have key: ∃b',((aw l (i:Int)).bind fun x8=>(bif !decide (x8.Ui=7) then (some true) else (be (in64 ((i:Int)+1)) ((aw l ((i:Int)+1)).bind fun b6=>some (decide (b6.Ui=8))))).bind fun b9=>bif b9 then (some false) else ((bif decide ((k:Int)=4) then (be (in64 ((i:Int)+2)) ((aw l ((i:Int)+2)).bind fun b7=>(dJ N b7 7).bind fun b8=>(bif !b8 then (some true) else (be (in64 ((i:Int)+3)) ((aw l ((i:Int)+3)).bind fun c0=>(gx N c0 0 9007199254740992).bind fun c5=>some (!c5)))).bind fun c6=>some c6)) else (some false)).bind fun c7=>bif c7 then (some false) else (be (in64 ((i:Int)+(k:Int))) ((gi N (k:Int) l m) ((i:Int)+(k:Int))))))=some (bif b' then false else b)/\bY N (k:Int) ((l.drop i).take k) ()=(bif b' then (some (some Exit.ret,())) else (some (none,()))):=by
    unfold bY;simp only [Int.cast_ofNat_Int,Int.natCast_zero,Int.natCast_one] at a1 a2;rw [b4,bs,r64 (a:=(i:Int)+1) V V,b5,bs];have hk0':aw ((l.drop i).take k) 0=some l[i]:=a1;have hk1':aw ((l.drop i).take k) 1=some (l[i+1]'V):=a2;simp only [hk0',bs,hk1'];cases h7:(!decide (l[i].Ui=7))
    ·simp only [cf,bs];cases h8:decide ((l[i+1]'V).Ui=8)
     ·simp only [cf];rcases hk with rfl|rfl
      ·simp only [show decide (((2:Nat):Int)=4)=false from rfl,cf,bs];have f:=fin false;rw [cf] at f;refine ⟨false,?_,J⟩;exact f
      have b0:=hx 2 V;have b3:=hx 3 V;rw [List.getElem?_eq_getElem V] at b0 b3;have hk2':aw ((l.drop i).take 4) 2=some (l[i+2]'V):=b0;have hk3':aw ((l.drop i).take 4) 3=some (l[i+3]'V):=b3
      have c8:aw l ((i:Int)+2)=some (l[i+2]'V):=by
       have:=aL (xs:=l) (i:=i+2) V;simpa using this
      have c9:aw l ((i:Int)+3)=some (l[i+3]'V):=by
       have:=aL (xs:=l) (i:=i+3) V;simpa using this
      simp only [show decide (((4:Nat):Int)=4)=true from rfl,ct];rw [r64 (a:=(i:Int)+2) V V,c8,bs,hk2',bs,r64 (a:=(i:Int)+3) V V,c9,bs,hk3']
      have en: ∀v,iy N v 7=dJ N v 7:=fun v=>rfl
      have em: ∀v,iz N v 0 9007199254740992=gx N v 0 9007199254740992:=fun v=>rfl
      have hn: ∃b1,dJ N (l[i+2]'V) 7=some b1:=by unfold dJ;cases decide ((l[i+2]'V).Ui=0)<;>exact ⟨_,rfl⟩
      have hm: ∃b1,gx N (l[i+3]'V) 0 9007199254740992=some b1:=by unfold gx;cases decide ((l[i+3]'V).Ui=3)<;>cases decide (0<=(l[i+3]'V).N)<;>exact ⟨_,rfl⟩
      obtain ⟨b1,hn⟩:=hn;obtain ⟨b2,hm⟩:=hm;simp only [bs,en,em,hn,hm];cases b1
      ·simp only [nf,ct,bs];exact ⟨true,J,J⟩
      simp only [nt,cf,bs];exact ⟨!b2,fin (!b2),by cases b2<;>rfl⟩
     exact ⟨true,J,J⟩
    exact ⟨true,J,J⟩
   obtain ⟨b',e1,e2⟩:=key;refine ⟨bif b' then false else b,?_,?_⟩
   ·rw [gi.eq_2,cu V,ct];exact e1
   rw [i9.eq_2,cu V,ct,hmin,dE (show (0:Int)<=(i:Int)/\(i:Int).toNat<=l.length/\l.length<=l.length from ⟨by omega,by omega,Nat.le_refl _⟩),r64 (a:=(i:Int)+(k:Int)) V V,r64 (a:=(i:Int)+(k:Int)) V V];rw [dE (show (0:Int)<=(i:Int)/\(0:Int)<=(i:Int)+(k:Int)/\(i:Int).toNat<=((i:Int)+(k:Int)).toNat/\((i:Int)+(k:Int)).toNat<=l.length from ⟨by omega,by omega,by omega,by omega⟩),hto,Int.toNat_natCast,show i+k - i=k by omega,lift _ b' e2];exact goal b'
  rw [gi.eq_2,i9.eq_2,cn V,cf,cf];exact ⟨true,J,J⟩
theorem sq (N:Nat)(hN:2000<N)(k:Nat)(hk:k=2\/k=4)(l:List Ty)(hl:l.length<=1000): ∃b,dM N l (k:Int)=some b/\dh N l (k:Int)=some b/\(b=true->l.length%k=0):=by
 unfold dM dh
 have a1:(k:Int)≠0:=by rcases hk with rfl|rfl<;>decide
 rw [dE a1,dE a1]
 have ht:(l.length:Int).tmod (k:Int)=((l.length%k:Nat):Int):=by
  rw [Int.tmod_eq_emod_of_nonneg V];rfl
 rw [ht];by_cases h:l.length%k=0
 ·rw [o5 V];obtain ⟨b,h1,h2⟩:=Ap N k hk l hl N 0 V V (by simpa using h)
  have e:kI N l (k:Int)=some ():=by
   unfold kI;rw [cn (by rcases hk with rfl|rfl<;>omega),cf]
  unfold rH;simp only [nt,cf,e,bs];have h1':gi N (k:Int) l N 0=some b:=h1;have h2':i9 N (cY (fun x st=>bY N (k:Int) x st)) l (k:Int) N 0 (none,())=some (bif b then (none,()) else (some .ret,())):=h2;rw [h1',h2',bs];exact ⟨b,by cases b<;>rfl,rfl,fun _=>h⟩
 rw [io V];exact ⟨false,J,J,fun h=>by cases h⟩
theorem Nl (N:Nat)(hN:2000<N)(c:TB)(hc:c.Um.length<=1000):kx N c.Ui c.Um=kR N c:=by
 obtain ⟨b2,h2,h2', -⟩:=sq N hN 2 (.inl rfl) c.Um hc;obtain ⟨b4,h4,h4', -⟩:=sq N hN 4 (.inr rfl) ((c.Um.drop ((1:Int).toNat)).take (c.Um.length - (1:Int).toNat)) (by rw [Uc,List.length_drop];omega);have e2:dM N c.Um 2=dh N c.Um 2:=h2.trans h2'.symm;have e4:dM N ((c.Um.drop ((1:Int).toNat)).take (c.Um.length - (1:Int).toNat)) 4=dh N ((c.Um.drop ((1:Int).toNat)).take (c.Um.length - (1:Int).toNat)) 4:=h4.trans h4'.symm;unfold kx kR lV kB;rw [e2,e4];rfl
theorem GB (N:Nat)(c:TB)(b:Bool)(v:Ty): ∃y,dp N v=some y/\cY (fun x st=>gt N c x st) (b,v) (none,())=some (y,(bif y then none else some Exit.ret,())):=by
 obtain ⟨y,hy⟩:=GA N v;refine ⟨y,hy,?_⟩;unfold cY gt;simp only [Pc,hy,bs];cases y<;>rfl
theorem CK (N:Nat)(c:TB)(hc:c.Um.length<=1000): ∀(m i:Nat),c.Um.length<m+i->i<=c.Um.length-> ∃b,ns N c m (i:Int)=(bif b then di N c else some false)/\
  lj N (cY (fun x st=>gt N c x st)) c m (i:Int) (none,())=some (bif b then none else some Exit.ret,())
 |0,i,h,h2=>by omega
 | m+1,i,h,h2=>by
  rw [ns.eq_2,lj.eq_2];by_cases hi:i<c.Um.length
  ·rw [cu V,ct,ct,aL hi,bs,bs]
   have hs:(bif !decide (c.Ui=8) then ((bif !decide (c.Ui=10) then (some true) else (some (decide ((i:Int).tmod 2=0)))).bind fun a1=>some a1) else (some false))=some (lI c.Ui i):=by
    unfold lI;cases decide (c.Ui=8)<;>cases decide (c.Ui=10)<;>rfl
   obtain ⟨y,h3,h4⟩:=GB N c (lI c.Ui i) c.Um[i];rw [hs,bs,h3,h4,bs,bs];cases y
   ·simp only [nf,nt,ct,cf];exact ⟨false,cf.symm,by rw [cf]⟩
   obtain ⟨b,h5,h6⟩:=CK N c hc m (i+1) V hi;simp only [Int.natCast_add,Int.cast_ofNat_Int] at h5 h6;simp only [nt,cf,ct];rw [r64 V V,r64 V V];exact ⟨b,h5,h6⟩
  rw [cn V,cf,cf];exact ⟨true,ct.symm,by rw [ct]⟩
theorem sS (N:Nat)(hN:2000<N)(c:TB)(hS:c.Uo.length<=1000)(hc:c.Um.length<=1000): ∀(m i:Nat),c.Uo.length<m+i->i<=c.Uo.length-> ∃b,iu N c m (i:Int)=(bif b then di N c else some false)/\
  ky N (cY (fun x st=>gt N c x st)) c m (i:Int) (none,())=some (bif b then none else some Exit.ret,())
 |0,i,h,h2=>by omega
 | m+1,i,h,h2=>by
  rw [iu.eq_2,ky.eq_2];by_cases hi:i<c.Uo.length
  ·rw [cu V,ct,ct,aL hi,bs,bs];obtain ⟨y,h3,h4⟩:=GB N c true c.Uo[i];rw [h3,h4,bs,bs];cases y
   ·simp only [nf,nt,ct,cf];exact ⟨false,cf.symm,by rw [cf]⟩
   obtain ⟨b,h5,h6⟩:=sS N hN c hS hc m (i+1) V hi;simp only [Int.natCast_add,Int.cast_ofNat_Int] at h5 h6;simp only [nt,cf,ct];rw [r64 V V,r64 V V];exact ⟨b,h5,h6⟩
  rw [cn V,cf,cf];exact CK N c hc N 0 V V
theorem wj (N:Nat)(hN:2000<N)(c:TB)(hS:c.Uo.length<=1000)(hc:c.Um.length<=1000):fY N c=eB N c:=by
 unfold fY eB nz
 have hAge:((bif !decide (c.Ux=0) then (some (!decide (c.Ux=1))) else (some false)).bind fun a1=>some a1)=(some (decide (c.Ux<0)||decide (1<c.Ux)):Option Bool):=by
  by_cases h0:c.Ux=0
  ·rw [h0];rfl
  by_cases h1:c.Ux=1
  ·rw [h1];rfl
  rw [io h0,io h1];by_cases h2:c.Ux<0
  ·rw [cu h2];rfl
  rw [cu (a:=1) (b:=c.Ux) V,cn (a:=c.Ux) V];rfl
 obtain ⟨b,h1,h2⟩:=sS N hN c hS hc N 0 V V;have h1':iu N c N 0=(bif b then di N c else some false):=h1;have h2':ky N (cY (fun x st=>gt N c x st)) c N 0 (none,())=some (bif b then none else some Exit.ret,()):=h2;have e:sw N c=some ():=rfl;rw [hAge,h1',h2',e]
 have tail:((some ()).bind fun (b0:Unit)=>(some ((bif b then none else some Exit.ret:Option Exit),())).bind fun a2=>qP a2.1 ((jy N c).bind fun a6=>(bif a6 then ((kx N c.Ui c.Um).bind fun a7=>some a7) else (some false)).bind fun a8=>some a8) (some false) (fun _=>none))=(bif b then di N c else some false):=by
  cases b
  ·rfl
  rw [KH,Nl N hN c hc];rfl
 rw [tail];cases decide (c.Ui<1)<;>cases decide (11<c.Ui)<;>cases decide (c.Uw<0)<;>cases decide (c.Uv<0)<;>cases decide (63<c.Uv)<;>cases decide (c.Ux<0)<;>cases decide (1<c.Ux)<;>rfl
theorem KX {m:Option Bool}{x:Bool}:m=some x->(m.bind fun b=>some b)=some x:=fun h=>by rw [h];rfl
theorem HA (N:Nat)(hN:2000<N)(c:TB)(hS:c.Uo.length<=1000)(hc:c.Um.length<=1000)(h8:c.Ui=8): ∃b,eB N c=some b/\(b=true->c.Um.length%2=0):=by
 obtain ⟨b1,g1, -⟩:=sS N hN c hS hc N 0 V V;have g1':iu N c N 0=(bif b1 then di N c else some false):=g1;obtain ⟨b2, -,h2,h3⟩:=sq N hN 2 (.inl rfl) c.Um hc
 have hm:kR N c=some b2:=by
  unfold kR kB;rw [h8,cn V];show ((dh N c.Um 2).bind fun a1=>some a1)=_;exact KX h2
 have hs: ∃b3,jr N c=some b3:=by
  unfold jr;rw [h8];have:kC N 8=some true:=rfl;rw [this,bs,ct,bs,ct];by_cases hl:1<=(c.Uo.length:Int)
  ·rw [Lu hl,ct,bs,FM (xs:=c.Uo) (i:=0) V V,bs];cases decide ((c.Uo.length:Int)<=1025)
   ·exact ⟨_,J⟩
   cases decide (c.Uo[(0:Int).toNat].Ui=1)<;>exact ⟨_,rfl⟩
  rw [Lv V];exact ⟨_,J⟩
 obtain ⟨b3,hs⟩:=hs
 have hj:di N c=some (b3&&b2):=by
  unfold di;rw [hs,hm];cases b3<;>rfl
 unfold eB;rw [g1',hj]
 have fin: ∃b,((bif b1 then some (b3&&b2) else some false):Option Bool)=some b/\(b=true->c.Um.length%2=0):=by
  cases b1
  ·exact ⟨false,J,fun h=>by cases h⟩
  exact ⟨b3&&b2,J,fun h=>h3 (by cases b3<;>cases b2<;>first|rfl|cases h)⟩
 obtain ⟨b,e1,e2⟩:=fin;rw [e1];have ff: ∃b',(some false:Option Bool)=some b'/\(b'=true->c.Um.length%2=0):=⟨false,rfl,fun h=>by cases h⟩
 cases decide (c.Ui<1)<;>cases decide (11<c.Ui)<;>cases decide (c.Uw<0)<;>cases decide (c.Uv<0)<;>cases decide (63<c.Uv)<;>cases decide (c.Ux<0)<;>cases decide (1<c.Ux)<;>first|exact ff|exact ⟨b,rfl,e2⟩
def qx (N:Nat)(c:TB):Bool:=decide (c.Ui=8)&&(eB N c).getD false
theorem HU (N:Nat)(hN:2000<N)(c:TB)(hS:c.Uo.length<=1000)(hc:c.Um.length<=1000):C0 N c=some (qx N c)/\tO N c=some (qx N c)/\(qx N c=true->c.Um.length%2=0):=by
 unfold C0 tO qx;rw [wj N hN c hS hc];by_cases h8:c.Ui=8
 ·obtain ⟨b,h1,h2⟩:=HA N hN c hS hc h8;rw [h1,h8];exact ⟨J,J,h2⟩
 rw [io h8];exact ⟨J,J,fun h=>by cases h⟩
abbrev F4 {ρ:Type}(m:Option ρ):Prop:=Sat m fun _=>True
theorem bq {ρ:Type}(x:ρ):F4 (some x):=ax trivial
theorem lH {ρ:Type}{b:Bool}{x y:Option ρ}(hx:b=true->F4 x)(hy:b=false->F4 y):F4 (bif b then x else y):=rK hx hy
theorem zJ (N:Nat)(v:Ty)(a b:Int):F4 (gx N v a b):=by
 unfold gx
 refine Sat.bind (P:=fun _=>True) (lH (fun _=>bq _) fun _=>bq _) fun x _=>Sat.bind (P:=fun _=>True) (lH (fun _=>bq _) fun _=>bq _) fun y _=>bq _
theorem wI (N:Nat)(v:Ty)(a:Int):F4 (dJ N v a):=by
 unfold dJ
 exact Sat.bind (P:=fun _=>True) (lH (fun _=>bq _) fun _=>bq _) fun x _=>bq _
theorem xm {c:Bool}{m:Option Bool}(h:c=true->F4 m):F4 (bif c then m else some false):=lH h fun _=>bq _
theorem vW {l:List Ty}{i:Nat}{f:Ty->Option Bool}(hi:i<l.length)(h: ∀v,F4 (f v)):F4 ((aw l (i:Int)).bind f):=by
 rw [aL hi,bs];exact h _
theorem eP {m:Option Bool}{f:Bool->Option Bool}(h:F4 m)(k: ∀b,F4 (f b)):F4 (m.bind f):=Sat.bind h fun b _=>k b
theorem rm {m:Option Bool}{p:Prop}{f:Bool->Option Bool}(h:Sat m fun b=>b=true->p)(k: ∀b,(b=true->p)->F4 (f b)):F4 (m.bind f):=Sat.bind h k
theorem Jr (N:Nat)(c:TB):F4 (jr N c):=by
 unfold jr
 have hp:F4 (kC N c.Ui):=by
  unfold kC
  iterate 6 refine eP (lH (fun _=>bq _) fun _=>bq _) fun _=> ?_
  exact bq _
 refine eP hp fun y=>eP (lH (fun _=>bq _) fun _=>eP (lH (fun _=>bq _) fun _=>bq _) fun _=>bq _) fun b=> ?_
 refine lH (fun _=> ?_) fun _=> ?_
 ·refine rm (p:=0<c.Uo.length) (dO (fun h=>ax fun _=>by omega) fun _=>ax fun h=>by cases h) fun b hb=>eP (xm fun h=> ?_) fun _=>bq _
  have h0:=hb h
  refine vW (i:=0) h0 fun v=>eP (lH (fun _=>bq _) fun _=>vW (i:=0) h0 fun _=>bq _) fun _=>bq _
 refine lH (fun _=>bq _) fun _=>eP (lH (fun _=>bq _) fun _=>bq _) fun _=>lH (fun _=>bq _) fun _=>rK (fun _=> ?_) fun _=>bq _
 refine rm (p:=1<c.Uo.length) (dO (fun h=> ?_) fun _=>ax fun h=>by cases h) fun b hb=>eP (xm fun h=> ?_) fun _=>bq _
 ·rw [show ((0:Int))=((0:Nat):Int) from rfl,aL V,bs];obtain ⟨x,hx, -⟩:=wI N c.Uo[0] 7
  rw [hx,bs];exact ax fun _=>by omega
 refine vW (i:=1) (hb h) fun v=>eP (wI N v 7) fun _=>bq _
theorem Ie {l:List Ty}{i:Nat}{m:Ty->Option Bool}(hi:i<l.length)(h: ∀v,F4 (m v)){p:Prop}(hp:p):Sat ((aw l (i:Int)).bind fun x=>(m x).bind fun y=>some y) fun b=>b=true->p:=by
 rw [aL hi,bs];obtain ⟨x,hx, -⟩:=h l[i]
 rw [hx,bs];exact ax fun _=>hp
def zd (c:TB):Prop:=(c.Ui=8->c.Um.length%2=0)/\(c.Ui=10->1<=c.Um.length/\(c.Um.length - 1)%4=0)
theorem Lc (N:Nat)(hN:2000<N)(c:TB)(hc:c.Um.length<=1000):Sat (kR N c) fun b=>b=true->zd c:=by
 have j6: ∀p,(p=true->c.Ui=1\/c.Ui=5)->Sat (kB N c p) fun b=>b=true->zd c:=by
  intro p hp
  have other: ∀{m:Option Bool},c.Ui≠8->c.Ui≠10->F4 m->Sat m fun b=>b=true->zd c:=fun h8 h10 h=>h.mono fun _ _ _=>⟨fun e=>absurd e h8,fun e=>absurd e h10⟩
  unfold kB
  refine rK (fun h=>other (by rcases hp h with e|e<;>omega) (by rcases hp h with e|e<;>omega) (bq _)) fun _=> ?_
  refine dO (fun hk=>other V V ?_) fun _=> ?_
  ·refine rm (p:=1<c.Um.length) (dO (fun h=>Ie (i:=0) V (fun v=>zJ N v _ _) V) fun _=>ax fun h=>by cases h) fun b hb=>eP (xm fun h=>vW (i:=1) (hb h) fun v=>eP (wI N v 9) fun _=>bq _) fun _=>bq _
  refine dO (fun hk=>other V V ?_) fun _=> ?_
  ·refine rm (p:=0<c.Um.length) (dO (fun h=>ax fun _=>by omega) fun _=>ax fun h=>by cases h) fun b hb=>eP (xm fun h=>vW (i:=0) (hb h) fun v=>eP (wI N v 9) fun _=>bq _) fun _=>bq _
  refine dO (fun hk=>other V V ?_) fun _=> ?_
  ·refine rm (p:=1<c.Um.length) (dO (fun h=>Ie (i:=0) V (fun v=>zJ N v _ _) V) fun _=>ax fun h=>by cases h) fun b hb=>eP (xm fun h=>vW (i:=1) (hb h) fun v=>eP (wI N v 9) fun _=>bq _) fun _=>bq _
  refine dO (fun hk=>other V V ?_) fun _=> ?_
  ·refine rm (p:=3<c.Um.length) (dO (fun h=>Ie (i:=2) V (fun v=>zJ N v _ _) V) fun _=>ax fun h=>by cases h) fun b hb=>eP (xm fun h=>vW (i:=3) (hb h) fun v=>eP (zJ N v _ _) fun _=>bq _) fun _=>bq _
  refine dO (fun hk=> ?_) fun a2=> ?_
  ·obtain ⟨b, -,h2,h3⟩:=sq N hN 2 (.inl rfl) c.Um hc;have h2':dh N c.Um 2=some b:=h2;rw [h2',bs]
   exact ax fun hb=>⟨fun _=>h3 hb,fun e=>absurd e V⟩
  refine dO (fun hk=> ?_) fun a1=> ?_
  ·refine Sat.bind (P:=fun b=>b=true->1<=c.Um.length) (dO (fun h=> ?_) fun _=>ax fun h=>by cases h) fun b hb=> ?_
   ·rw [show ((0:Int))=((0:Nat):Int) from rfl,aL V,bs];exact ax fun _=>by omega
   refine Sat.bind (P:=fun b=>b=true->zd c) (rK (fun h=> ?_) fun _=>ax fun h=>by cases h) fun b' hb'=>ax hb'
   have h1:=hb h;rw [Ci ⟨by omega,by show (1:Int).toNat<=_;exact h1,Nat.le_refl _⟩]
   have hl:((c.Um.drop ((1:Int).toNat)).take (c.Um.length - (1:Int).toNat)).length=c.Um.length - 1:=by
    rw [Uc,List.length_drop];show min (c.Um.length - 1) (c.Um.length - 1)=_;omega
   obtain ⟨b2, -,h2,h3⟩:=sq N hN 4 (.inr rfl) ((c.Um.drop ((1:Int).toNat)).take (c.Um.length - (1:Int).toNat)) (by rw [hl];omega);have h2':dh N ((c.Um.drop ((1:Int).toNat)).take (c.Um.length - (1:Int).toNat)) 4=some b2:=h2;rw [h2',bs]
   exact ax fun a6=>⟨fun e=>absurd e V,fun _=>⟨h1,by have:=h3 a6;rw [hl] at this;exact this⟩⟩
  refine dO (fun hk=>other V V ?_) fun _=>other a2 a1 (bq _)
  refine eP ?_ fun _=>bq _
  exact lH (fun h=>vW (i:=0) (by have:=of_decide_eq_true h;omega) fun v=>eP (zJ N v _ _) fun _=>bq _) fun _=>bq _
 unfold kR
 refine dO (fun _=>ax fun h=>by cases h) fun _=>dO (fun hk=>ax fun _=>⟨fun e=>absurd e V,fun e=>absurd e V⟩) fun _=>dO (fun hk=>j6 _ fun _=> .inl hk) fun _=>j6 _ fun h=> .inr (of_decide_eq_true h)
theorem AN (N:Nat)(hN:2000<N)(c:TB)(hS:c.Uo.length<=1000)(hc:c.Um.length<=1000):Sat (eB N c) fun b=>b=true->zd c:=by
 obtain ⟨b1,g1, -⟩:=sS N hN c hS hc N 0 V V;have g1':iu N c N 0=(bif b1 then di N c else some false):=g1
 have hj:Sat (di N c) fun b=>b=true->zd c:=by
  unfold di
  refine Sat.bind (Jr N c) fun y _=> ?_
  refine Sat.bind (P:=fun b=>b=true->zd c) (rK (fun _=>Sat.bind (Lc N hN c hc) fun _ h=>ax h) fun _=>ax fun h=>by cases h) fun _ h=>ax h
 unfold eB;rw [g1']
 iterate 6 refine Sat.bind (P:=fun _=>True) (lH (fun _=>bq _) fun _=>bq _) fun _ _=> ?_
 refine rK (fun _=>ax fun h=>by cases h) fun _=>rK (fun _=>hj) fun _=>ax fun h=>by cases h
theorem xB {α ρ:Type}(L:Nat->Int->Option ρ)(l:List α)(p:α->Bool)(bad k:Option ρ)
  (step: ∀m (i:Nat) (h:i<l.length),L (m+1) (i:Int)=bif p l[i] then L m ((i:Int)+1) else bad)
  (fin: ∀m,L (m+1) (l.length:Int)=k) (N:Nat) (hN:l.length<N):L N 0=bif l.all p then k else bad:=by
 have key: ∀m i:Nat,l.length<m+i->i<=l.length->L m (i:Int)=bif (l.drop i).all p then k else bad:=by
  intro m
  induction m with
  |zero=>intro i h1 h2;omega
  | succ m ih=>
   intro i h1 h2;by_cases hi:i<l.length
   ·rw [step m i hi,List.drop_eq_getElem_cons hi,List.all_cons];have h3:=ih (i+1) V hi;rw [show (((i+1:Nat)):Int)=(i:Int)+1 by omega] at h3;rw [h3];cases p l[i]<;>rfl
   have e:i=l.length:=by omega
   subst e;rw [fin,List.drop_length];rfl
 have:=key N 0 V V;simpa using this
theorem GC {α:Type}(L:Nat->Int->Option Bool)(l:List α)(p:α->Bool)
  (step: ∀m (i:Nat) (h:i<l.length),L (m+1) (i:Int)=bif p l[i] then L m ((i:Int)+1) else some false)
  (fin: ∀m,L (m+1) (l.length:Int)=some true) (N:Nat) (hN:l.length<N):L N 0=some (l.all p):=by
 rw [xB L l p _ _ step fin N hN];cases l.all p<;>rfl
theorem all_map {α β:Type}(f:α->β)(p:β->Bool)(l:List α):(l.map f).all p=l.all fun x=>p (f x):=by rw [List.all_map];rfl
theorem DV {α:Type}(q p:α->Bool): ∀l:List α,(l.filter q).all p=l.all fun x=> !q x||p x
 | []=>rfl
 |x::l=>by
  rw [List.filter_cons,List.all_cons, <-DV q p l];cases h:q x<;>simp
def MM {α β:Type}[DecidableEq α](a:α)(b:β):List (α×β)->List (α×β)
 | []=> [(a,b)]
 |p::l=>if p.1=a then (a,b)::l else p::MM a b l
theorem MN {α β:Type}[DecidableEq α](L:List (α×β))(a:α)(b:β):yy L a b=MM a b L:=by
 have key: ∀(L:List (α×β)) (j:Nat),(∃i c,fp a L j=some (i,c)/\j<=i/\L.set (i - j) (a,b)=MM a b L)\/(fp a L j=none/\L++ [(a,b)]=MM a b L):=by
  intro L
  induction L with
  |nil=>intro j;exact .inr ⟨J,J⟩
  | cons p l ih=>
   intro j;obtain ⟨x,y⟩:=p;by_cases e:a=x
   ·refine .inl ⟨j,y,by simp [fp,e],Nat.le_refl _,?_⟩;rw [Nat.sub_self];simp [MM,e]
   have e': ¬x=a:=fun h=>e h.symm
   rcases ih (j+1) with ⟨i,c,h1,h2,h3⟩|⟨h1,h2⟩
   ·refine .inl ⟨i,c,by simp [fp,e,h1],by omega,?_⟩;rw [show i - j=(i - (j+1))+1 by omega,List.set_cons_succ,h3];simp [MM,e']
   exact .inr ⟨by simp [fp,e,h1],by simp [MM,e',h2]⟩
 unfold yy;rcases key L 0 with ⟨i,c,h1, -,h3⟩|⟨h1,h2⟩
 ·rw [h1];exact h3
 rw [h1];exact h2
theorem zS {α β:Type}[DecidableEq α](p:α×β)(l:List (α×β))(x:α):lk (p::l) x=if p.1=x then some p.2 else lk l x:=by
 unfold lk;rw [List.find?_cons];by_cases e:p.1=x<;>simp [e]
theorem GD {α β:Type}[DecidableEq α](L:List (α×β))(a:α)(b:β)(x:α):lk (yy L a b) x=if a=x then some b else lk L x:=by
 rw [MN]
 induction L with
 |nil=>rw [MM,zS]
 | cons p l ih=>
  unfold MM;by_cases e:p.1=a
  ·rw [if_pos e,zS,zS,e];by_cases e2:a=x<;>simp [e2]
  rw [if_neg e,zS,zS,ih];by_cases e2:p.1=x
  ·rw [if_pos e2,if_pos e2,if_neg (fun h=>e (by rw [e2,h]))]
  rw [if_neg e2,if_neg e2]
abbrev vZ:Ty:=⟨0,0,⟨#[]⟩⟩
def qB (l:List Ty)(i:Nat):Ty:=l.getD i vZ
theorem li {l:List Ty}{i:Nat}(h:i<l.length):aw l (i:Int)=some (qB l i):=by
 rw [aL h];unfold qB;simp [List.getD,h]
def lf (v:Ty):Bool:=(dp 0 v).getD false
theorem Gz (N:Nat)(v:Ty):dp N v=some (lf v):=by
 obtain ⟨b,hb⟩:=GA 0 v;have e:dp N v=dp 0 v:=Eq.trans rfl rfl;unfold lf;rw [e,hb];rfl
def numB (v:Ty)(a b:Int):Bool:=decide (v.Ui=3)&&(decide (a<=v.N)&&decide (v.N<=b))
def noneB (v:Ty)(k:Int):Bool:=decide (v.Ui=0)||decide (v.Ui=k)
theorem wH (N:Nat)(v:Ty)(a b:Int):gx N v a b=some (numB v a b):=by
 unfold gx numB;cases decide (v.Ui=3)<;>cases decide (a<=v.N)<;>cases decide (v.N<=b)<;>rfl
theorem ui (N:Nat)(v:Ty)(k:Int):dJ N v k=some (noneB v k):=by
 unfold dJ noneB;cases decide (v.Ui=0)<;>cases decide (v.Ui=k)<;>rfl
def Ft (k:Int):Bool:=decide (k=1)||decide (k=2)||decide (k=3)||decide (k=6)||decide (k=8)||decide (k=9)||decide (k=10)
theorem HG (N:Nat)(k:Int):kC N k=some (Ft k):=by
 unfold kC Ft;cases decide (k=1)<;>cases decide (k=2)<;>cases decide (k=3)<;>cases decide (k=6)<;>cases decide (k=8)<;>cases decide (k=9)<;>cases decide (k=10)<;>rfl
def qm (k sh fl:Int)(l:List Ty):Bool:=
 bif Ft k||(decide (k=7)&&decide (0<l.length)) then decide (1<=l.length)&&decide (l.length<=1025)&&(decide ((qB l 0).Ui=1)||decide ((qB l 0).Ui=7))
 else bif decide (k=7) then decide (sh=0) else bif !decide (sh=0)|| !decide (fl=0) then false else bif decide (k=5) then decide (l.length=2)&&noneB (qB l 0) 7&&noneB (qB l 1) 7 else decide (l.length=0)
theorem ic {p q:Prop}[Decidable p][Decidable q](h:p↔q):decide p=decide q:=by
 by_cases hp:p
 ·rw [TP hp,TP (h.1 hp)]
 rw [TQ hp,TQ fun hq=>hp (h.2 hq)]
theorem Hv (N:Nat)(c:TB):jr N c=some (qm c.Ui c.Uw c.Uv c.Uo):=by
 unfold jr qm;rw [HG,bs,ic (p:=(0:Int)<(c.Uo.length:Int)) (q:=0<c.Uo.length) V,ic (p:=(1:Int)<=(c.Uo.length:Int)) (q:=1<=c.Uo.length) V,ic (p:=(c.Uo.length:Int)<=1025) (q:=c.Uo.length<=1025) V,ic (p:=(c.Uo.length:Int)=2) (q:=c.Uo.length=2) V,ic (p:=(c.Uo.length:Int)=0) (q:=c.Uo.length=0) V]
 have hA: ∀b:Bool,((bif decide (1<=c.Uo.length) then some (decide (c.Uo.length<=1025)) else some false).bind fun b8=>(bif b8 then ((aw c.Uo 0).bind fun a1=>(bif decide (a1.Ui=1) then (some true) else ((aw c.Uo 0).bind fun a2=>some (decide (a2.Ui=7)))).bind fun a6=>some a6) else (some false)).bind fun b9=>some b9)=some (decide (1<=c.Uo.length)&&decide (c.Uo.length<=1025)&&(decide ((qB c.Uo 0).Ui=1)||decide ((qB c.Uo 0).Ui=7))):=fun _=>by
  by_cases h:1<=c.Uo.length
  ·have g:aw c.Uo 0=some (qB c.Uo 0):=li (i:=0) V;rw [TP h,g];simp only [bs];cases decide (c.Uo.length<=1025)<;>cases decide ((qB c.Uo 0).Ui=1)<;>cases decide ((qB c.Uo 0).Ui=7)<;>rfl
  rw [TQ h];rfl
 have hB:((bif decide (c.Uo.length=2) then ((aw c.Uo 0).bind fun a7=>(dJ N a7 7).bind fun a8=>some a8) else (some false)).bind fun b0=>(bif b0 then ((aw c.Uo 1).bind fun b1=>(dJ N b1 7).bind fun b2=>some b2) else (some false)).bind fun b3=>some b3)=some (decide (c.Uo.length=2)&&noneB (qB c.Uo 0) 7&&noneB (qB c.Uo 1) 7):=by
  by_cases h:c.Uo.length=2
  ·have g:aw c.Uo 0=some (qB c.Uo 0):=li (i:=0) V;have g1:aw c.Uo 1=some (qB c.Uo 1):=li (i:=1) V;rw [TP h,g,g1];simp only [bs,ui];cases noneB (qB c.Uo 0) 7<;>cases noneB (qB c.Uo 1) 7<;>rfl
  rw [TQ h];rfl
 rw [hA true,hB];cases Ft c.Ui<;>cases decide (c.Ui=7)<;>cases decide (0<c.Uo.length)<;>cases decide (c.Uw=0)<;>cases decide (c.Uv=0)<;>cases decide (c.Ui=5)<;>rfl
def qO:List Ty->Bool
 |k::v::r=>decide (k.Ui=7)&& !decide (v.Ui=8)&&qO r
 | [_]=>false
 | []=>true
def mW:List Ty->Bool
 |t::h::k::s::r=>decide (t.Ui=7)&& !decide (h.Ui=8)&&(noneB k 7&&numB s 0 9007199254740992)&&mW r
 | []=>true
 |_=>false
theorem nW (k v:Ty)(r:List Ty):qO (k::v::r)=(decide (k.Ui=7)&& !decide (v.Ui=8)&&qO r):=Eq.trans rfl rfl
theorem nV (t h k s:Ty)(r:List Ty):mW (t::h::k::s::r)=(decide (t.Ui=7)&& !decide (h.Ui=8)&&(noneB k 7&&numB s 0 9007199254740992)&&mW r):=Eq.trans rfl rfl
theorem ES: ∀{l:List Ty},qO l=true->l.length%2=0
 | [],_=>rfl
 | [_],h=>by cases h
 |k::v::r,h=>by
  rw [nW] at h;rw [Uf] at h;have:=ES h.2;simp only [List.length_cons];omega
theorem ER: ∀{l:List Ty},mW l=true->l.length%4=0
 | [],_=>rfl
 | [_],h=>by cases h
 | [_,_],h=>by cases h
 | [_,_,_],h=>by cases h
 |t::a::k::s::r,h=>by
  rw [nV] at h;rw [Uf] at h;have:=ER h.2;simp only [List.length_cons];omega
theorem xP {l r:List Ty}{i:Nat}{v:Ty}(h:l.drop i=v::r):aw l (i:Int)=some v/\l.drop (i+1)=r:=by
 have hl:i<l.length:=by
  rcases Nat.lt_or_ge i l.length with h1|h1
  ·exact h1
  rw [List.drop_eq_nil_of_le h1] at h;cases h
 rw [List.drop_eq_getElem_cons hl] at h;obtain ⟨e1,e2⟩:=List.cons.inj h;exact ⟨by rw [aL hl,e1],e2⟩
theorem EV (N:Nat)(l:List Ty)(hl:l.length<=1000): ∀(m i:Nat),l.length<m+i->i<=l.length->(l.length - i)%2=0->gi N 2 l m (i:Int)=some (qO (l.drop i))
 |0,i,h,h2,_=>by omega
 | m+1,i,h,h2,h3=>by
  rw [gi.eq_2]
  match hd:l.drop i with
  | []=>
   have hi:l.length<=i:=by have:=congrArg List.length hd;rw [List.length_drop] at this;simp at this;omega
   rw [cn V,cf];rfl
  | [x]=>have:=congrArg List.length hd;rw [List.length_drop] at this;simp at this;omega
  |k::v::r=>
   have hlen:=congrArg List.length hd;rw [List.length_drop] at hlen;simp only [List.length_cons] at hlen;obtain ⟨g1,d1⟩:=xP hd;obtain ⟨g2,d2⟩:=xP d1;rw [show (((i+1:Nat)):Int)=(i:Int)+1 by omega] at g2;have ih:=EV N l hl m (i+2) V V V;rw [show (((i+2:Nat)):Int)=(i:Int)+2 by omega,d2] at ih;rw [cu V,ct,g1,bs,r64 V V,g2,bs,TQ (p:=(2:Int)=4) (by decide),cf,bs,cf,r64 V V,ih];simp only [nW];cases decide (k.Ui=7)<;>cases decide (v.Ui=8)<;>rfl
theorem ET (N:Nat)(l:List Ty)(hl:l.length<=1000): ∀(m i:Nat),l.length<m+i->i<=l.length->(l.length - i)%4=0->gi N 4 l m (i:Int)=some (mW (l.drop i))
 |0,i,h,h2,_=>by omega
 | m+1,i,h,h2,h3=>by
  rw [gi.eq_2]
  match hd:l.drop i with
  | []=>
   have hi:l.length<=i:=by have:=congrArg List.length hd;rw [List.length_drop] at this;simp at this;omega
   rw [cn V,cf];rfl
  | [x]=>have:=congrArg List.length hd;rw [List.length_drop] at this;simp at this;omega
  | [x,y]=>have:=congrArg List.length hd;rw [List.length_drop] at this;simp at this;omega
  | [x,y,z]=>have:=congrArg List.length hd;rw [List.length_drop] at this;simp at this;omega
  |t::v::k::s::r=>
   have hlen:=congrArg List.length hd;rw [List.length_drop] at hlen;simp only [List.length_cons] at hlen;obtain ⟨g1,d1⟩:=xP hd;obtain ⟨g2,d2⟩:=xP d1;obtain ⟨g3,d3⟩:=xP d2;obtain ⟨g4,d4⟩:=xP d3;rw [show (((i+1:Nat)):Int)=(i:Int)+1 by omega] at g2;rw [show (((i+1+1:Nat)):Int)=(i:Int)+2 by omega] at g3;rw [show (((i+1+1+1:Nat)):Int)=(i:Int)+3 by omega] at g4;have ih:=ET N l hl m (i+4) V V V;rw [show (((i+4:Nat)):Int)=(i:Int)+4 by omega,d4] at ih;rw [cu V,ct,g1,bs,r64 V V,g2,bs,TP (p:=(4:Int)=4) rfl,ct,r64 V V,g3,bs,ui,bs,r64 V V,g4,bs,wH,bs,r64 V V,ih];simp only [nV];cases decide (t.Ui=7)<;>cases decide (v.Ui=8)<;>cases noneB k 7<;>cases numB s 0 9007199254740992<;>rfl
theorem Ma (N:Nat)(hN:2000<N)(l:List Ty)(hl:l.length<=1000):dh N l 2=some (qO l):=by
 unfold dh;rw [dE (by decide)]
 have e:(l.length:Int).tmod 2=((l.length%2:Nat):Int):=by rw [Int.tmod_eq_emod_of_nonneg V];omega
 rw [e];by_cases h:l.length%2=0
 ·rw [h,TP (p:=((0:Nat):Int)=0) rfl,nt,cf];exact EV N l hl N 0 V V V
 rw [TQ V,nf,ct]
 cases hb:qO l with
 |false=>rfl
 |true=>exact absurd (ES hb) h
theorem LZ (N:Nat)(hN:2000<N)(l:List Ty)(hl:l.length<=1000):dh N l 4=some (mW l):=by
 unfold dh;rw [dE (by decide)]
 have e:(l.length:Int).tmod 4=((l.length%4:Nat):Int):=by rw [Int.tmod_eq_emod_of_nonneg V];omega
 rw [e];by_cases h:l.length%4=0
 ·rw [h,TP (p:=((0:Nat):Int)=0) rfl,nt,cf];exact ET N l hl N 0 V V V
 rw [TQ V,nf,ct]
 cases hb:mW l with
 |false=>rfl
 |true=>exact absurd (ER hb) h
def rY (k:Int)(l:List Ty):Bool:=
 bif decide (k=2) then decide (l.length<=4096)
 else bif decide (k=1)||decide (k=5) then decide (l.length=0)
 else bif decide (k=3) then decide (l.length=3)&&numB (qB l 0) 0 9007199254740992&&noneB (qB l 1) 9
 else bif decide (k=4) then decide (1<=l.length)&&decide (l.length<=4097)&&noneB (qB l 0) 9
 else bif decide (k=6) then decide (l.length=2)&&numB (qB l 0) 0 3&&noneB (qB l 1) 9
 else bif decide (k=7) then decide (4<=l.length)&&numB (qB l 2) 0 1&&numB (qB l 3) 0 9007199254740992
 else bif decide (k=8) then qO l
 else bif decide (k=10) then decide (1<=l.length)&&decide ((qB l 0).Ui=7)&&mW (l.drop 1)
 else bif decide (k=9) then decide (2<=l.length)&&numB (qB l 0) 0 2
 else true
theorem JR (N:Nat)(hN:2000<N)(c:TB)(hc:c.Um.length<=1000):kR N c=some (rY c.Ui c.Um):=by
 have h6: ∀p:Bool,p=(decide (c.Ui=1)||decide (c.Ui=5))->c.Ui≠2->kB N c p=some (rY c.Ui c.Um):=by
  intro p hp h2;subst hp;unfold kB rY;rw [io h2,cf];rcases Bool.eq_false_or_eq_true (decide (c.Ui=1)||decide (c.Ui=5)) with h15|h15
  ·rw [h15,ct,ct,ic (p:=(c.Um.length:Int)=0) (q:=c.Um.length=0) V]
  rw [h15,cf,cf];by_cases k3:c.Ui=3
  ·rw [o5 k3,ct,ct,ic (p:=(c.Um.length:Int)=3) (q:=c.Um.length=3) V];by_cases h:c.Um.length=3
   ·have g0:aw c.Um 0=some (qB c.Um 0):=li (i:=0) V;have g1:aw c.Um 1=some (qB c.Um 1):=li (i:=1) V;rw [TP h,g0,g1];simp only [bs,wH,ui];cases numB (qB c.Um 0) 0 9007199254740992<;>cases noneB (qB c.Um 1) 9<;>rfl
   rw [TQ h];rfl
  rw [io k3,cf,cf];by_cases k4:c.Ui=4
  ·rw [o5 k4,ct,ct,ic (p:=(1:Int)<=(c.Um.length:Int)) (q:=1<=c.Um.length) V,ic (p:=(c.Um.length:Int)<=4097) (q:=c.Um.length<=4097) V];by_cases h:1<=c.Um.length
   ·have g0:aw c.Um 0=some (qB c.Um 0):=li (i:=0) V;rw [TP h,g0];simp only [bs,ui];cases decide (c.Um.length<=4097)<;>cases noneB (qB c.Um 0) 9<;>rfl
   rw [TQ h];rfl
  rw [io k4,cf,cf];by_cases k6:c.Ui=6
  ·rw [o5 k6,ct,ct,ic (p:=(c.Um.length:Int)=2) (q:=c.Um.length=2) V];by_cases h:c.Um.length=2
   ·have g0:aw c.Um 0=some (qB c.Um 0):=li (i:=0) V;have g1:aw c.Um 1=some (qB c.Um 1):=li (i:=1) V;rw [TP h,g0,g1];simp only [bs,wH,ui];cases numB (qB c.Um 0) 0 3<;>cases noneB (qB c.Um 1) 9<;>rfl
   rw [TQ h];rfl
  rw [io k6,cf,cf];by_cases k7:c.Ui=7
  ·rw [o5 k7,ct,ct,ic (p:=(4:Int)<=(c.Um.length:Int)) (q:=4<=c.Um.length) V];by_cases h:4<=c.Um.length
   ·have g2:aw c.Um 2=some (qB c.Um 2):=li (i:=2) V;have g3:aw c.Um 3=some (qB c.Um 3):=li (i:=3) V;rw [TP h,g2,g3];simp only [bs,wH];cases numB (qB c.Um 2) 0 1<;>cases numB (qB c.Um 3) 0 9007199254740992<;>rfl
   rw [TQ h];rfl
  rw [io k7,cf,cf];by_cases k8:c.Ui=8
  ·rw [o5 k8,ct,ct,Ma N hN _ hc,bs]
  rw [io k8,cf,cf];by_cases a1:c.Ui=10
  ·rw [o5 a1,ct,ct,ic (p:=(1:Int)<=(c.Um.length:Int)) (q:=1<=c.Um.length) V];by_cases h:1<=c.Um.length
   ·have g0:aw c.Um 0=some (qB c.Um 0):=li (i:=0) V;have hd:((c.Um.drop ((1:Int).toNat)).take (c.Um.length - (1:Int).toNat))=c.Um.drop 1:=List.take_of_length_le (by rw [List.length_drop];exact Nat.le_refl _);rw [TP h,g0,hd,dE ⟨by omega,by show 1<=_;omega,Nat.le_refl _⟩,LZ N hN _ (by rw [List.length_drop];omega)];simp only [bs];cases decide ((qB c.Um 0).Ui=7)<;>cases mW (c.Um.drop 1)<;>rfl
   rw [TQ h];rfl
  rw [io a1,cf,cf];by_cases k9:c.Ui=9
  ·rw [o5 k9,ct,ct,ic (p:=(2:Int)<=(c.Um.length:Int)) (q:=2<=c.Um.length) V];by_cases h:2<=c.Um.length
   ·have g0:aw c.Um 0=some (qB c.Um 0):=li (i:=0) V;rw [TP h,g0];simp only [bs,wH];cases numB (qB c.Um 0) 0 2<;>rfl
   rw [TQ h];rfl
  rw [io k9,cf,cf]
 unfold kR;rw [cn V,cf];by_cases k2:c.Ui=2
 ·rw [o5 k2,ct];unfold rY;rw [o5 k2,ct,ic (p:=(c.Um.length:Int)<=4096) (q:=c.Um.length<=4096) V]
 rw [io k2,cf];by_cases k1:c.Ui=1
 ·rw [o5 k1,ct];exact h6 _ (by rw [o5 k1];rfl) k2
 rw [io k1,cf];exact h6 _ (by rw [io k1];rfl) k2
def bx (c:TB):Bool:=
 (!decide (c.Ui<1)&& !decide (11<c.Ui)&& !decide (c.Uw<0)&& !decide (c.Uv<0)&& !decide (63<c.Uv)&& !decide (c.Ux<0)&& !decide (1<c.Ux))&&(c.Uo.all lf&&(c.Um.all lf&&(qm c.Ui c.Uw c.Uv c.Uo&&rY c.Ui c.Um)))
theorem ph (N:Nat)(hN:2000<N)(c:TB)(hS:c.Uo.length<=1000)(hc:c.Um.length<=1000):eB N c=some (bx c):=by
 have h19:di N c=some (qm c.Ui c.Uw c.Uv c.Uo&&rY c.Ui c.Um):=by
  unfold di;rw [Hv,JR N hN c hc,bs];cases qm c.Ui c.Uw c.Uv c.Uo<;>rfl
 have h20:ns N c N 0=some (c.Um.all lf&&(qm c.Ui c.Uw c.Uv c.Uo&&rY c.Ui c.Um)):=by
  rw [xB (fun k i=>ns N c k i) c.Um lf (some false) (some (qm c.Ui c.Uw c.Uv c.Uo&&rY c.Ui c.Um)) (fun k i h=> ?_) (fun k=> ?_) N V]
  ·cases c.Um.all lf<;>rfl
  ·rw [ns.eq_2,cu V,ct,aL h,bs,Gz,bs,r64 V V];cases lf c.Um[i]<;>rfl
  rw [ns.eq_2,cn V,cf,h19]
 have h12:iu N c N 0=some (c.Uo.all lf&&(c.Um.all lf&&(qm c.Ui c.Uw c.Uv c.Uo&&rY c.Ui c.Um))):=by
  rw [xB (fun k i=>iu N c k i) c.Uo lf (some false) (some (c.Um.all lf&&(qm c.Ui c.Uw c.Uv c.Uo&&rY c.Ui c.Um))) (fun k i h=> ?_) (fun k=> ?_) N V]
  ·cases c.Uo.all lf<;>rfl
  ·rw [iu.eq_2,cu V,ct,aL h,bs,Gz,bs,r64 V V];cases lf c.Uo[i]<;>rfl
  rw [iu.eq_2,cn V,cf];unfold yn;exact h20
 unfold eB bx;rw [h12];cases decide (c.Ui<1)<;>cases decide (11<c.Ui)<;>cases decide (c.Uw<0)<;>cases decide (c.Uv<0)<;>cases decide (63<c.Uv)<;>cases decide (c.Ux<0)<;>cases decide (1<c.Ux)<;>rfl
theorem Du (N:Nat)(x:Int)(l:List Int)(hl:l.length<=5000): ∀(m i:Nat),l.length<m+i->i<=l.length->Sat (kX N x l m (i:Int)) fun r=>decide (0<=r)=decide (x∈l.drop i)
 |0,i,h,h2=>by omega
 | m+1,i,h,h2=>by
  rw [kX.eq_2];by_cases hi:i<l.length
  ·rw [cu V,ct,aL hi,bs,List.drop_eq_getElem_cons hi]
   refine dO (fun e=> ?_) fun e=> ?_
   ·exact ax (by rw [TP V,TP];rw [e];exact List.mem_cons_self ..)
   rw [r64 V V];have:=Du N x l hl m (i+1) V hi;simp only [Int.natCast_add,Int.cast_ofNat_Int] at this
   refine this.mono fun r hr=> ?_
   rw [hr];have:(x∈l[i]::l.drop (i+1))↔x∈l.drop (i+1):=⟨fun h=>(List.mem_cons.1 h).resolve_left (fun e2=>e e2),List.mem_cons_of_mem _⟩;rw [decide_eq_decide];exact this.symm
  rw [cn V,cf,List.drop_eq_nil_of_le V];exact ax (by simp)
theorem pN (N:Nat)(hN:6500<N)(l:List Int)(hl:l.length<=5000)(x:Int):dN N l x=some (decide (x∈l)):=by
 obtain ⟨r,h1,h2⟩:=Du N x l hl N 0 V V;unfold dN rG;rw [show kX N x l N 0=some r from h1,bs,h2];rfl
theorem Rb (N:Nat)(hN:6500<N)(l:List Int)(hl:l.length<=5000)(x:Int):C1 N x l=some (decide (x∈l)):=by
 apply Sat.eq;unfold C1
 have key: ∀(m i:Nat),l.length<m+i->i<=l.length->Sat (AS N x l m (i:Int)) (· =decide (x∈l.drop i)):=by
  intro m
  induction m with
  |zero=>intro i h h2;omega
  | succ m ih=>
   intro i h h2;rw [AS.eq_2];by_cases hi:i<l.length
   ·rw [cu V,ct,aL hi,bs,List.drop_eq_getElem_cons hi]
    refine dO (fun e=> ?_) fun e=> ?_
    ·exact ax (by rw [TP];rw [e];exact List.mem_cons_self ..)
    rw [r64 V V];have:=ih (i+1) V hi;simp only [Int.natCast_add,Int.cast_ofNat_Int] at this
    refine this.mono fun r hr=> ?_
    rw [hr];have:(x∈l[i]::l.drop (i+1))↔x∈l.drop (i+1):=⟨fun h=>(List.mem_cons.1 h).resolve_left (fun e2=>e e2.symm),List.mem_cons_of_mem _⟩;rw [decide_eq_decide];exact this.symm
   rw [cn V,cf,List.drop_eq_nil_of_le V];exact ax (by simp)
 exact key N 0 V V
theorem Ra (N:Nat)(hN:6500<N)(l:List Int)(hl:l.length<=5000)(x:Int):CZ N l x=some (decide (x∈l)):=by
 apply Sat.eq;unfold CZ
 have key: ∀(m i:Nat),l.length<m+i->i<=l.length->Sat (AR N x l m (i:Int)) (· =decide (x∈l.drop i)):=by
  intro m
  induction m with
  |zero=>intro i h h2;omega
  | succ m ih=>
   intro i h h2;rw [AR.eq_2];by_cases hi:i<l.length
   ·rw [cu V,ct,aL hi,bs,List.drop_eq_getElem_cons hi]
    refine dO (fun e=> ?_) fun e=> ?_
    ·exact ax (by rw [TP];rw [e];exact List.mem_cons_self ..)
    rw [r64 V V];have:=ih (i+1) V hi;simp only [Int.natCast_add,Int.cast_ofNat_Int] at this
    refine this.mono fun r hr=> ?_
    rw [hr];have:(x∈l[i]::l.drop (i+1))↔x∈l.drop (i+1):=⟨fun h=>(List.mem_cons.1 h).resolve_left (fun e2=>e e2.symm),List.mem_cons_of_mem _⟩;rw [decide_eq_decide];exact this.symm
   rw [cn V,cf,List.drop_eq_nil_of_le V];exact ax (by simp)
 exact key N 0 V V
def opens (p:Int->Bool):List Ty->List Int
 |k::v::l=>(bif bm v&&p k.N then [v.N] else [])++opens p l
 |_=> []
theorem pm (p:Int->Bool)(k v:Ty)(l:List Ty):opens p (k::v::l)=(bif bm v&&p k.N then [v.N] else [])++opens p l:=rfl
theorem EA (p:Int->Bool): ∀l:List Ty,(opens p l).length<=l.length
 | []=>Nat.le_refl _
 | [_]=>Nat.zero_le _
 |k::v::l=>by
  have:=EA p l;rw [pm,Ub];cases bm v&&p k.N<;>simp<;>omega
theorem Ez {p:Int->Bool}{x:Int}: ∀{l:List Ty},x∈opens p l-> ∃v∈l,v.N=x
 | [],h=>by cases h
 | [_],h=>by cases h
 | k::v::l,h=>by
  rw [pm,List.mem_append] at h;rcases h with h|h
  ·cases hb:bm v&&p k.N
   ·rw [hb] at h;cases h
   rw [hb] at h;exact ⟨v,by simp,(List.mem_singleton.1 h).symm⟩
  obtain ⟨w,h1,h2⟩:=Ez h;exact ⟨w,by simp [h1],h2⟩
theorem Gs {p q:Int->Bool}(h: ∀x,p x=q x)(l:List Ty):opens p l=opens q l:=by rw [show p=q from funext h]
theorem sb (v:Ty):((bif decide (v.Ui=7) then (some true) else (some (decide (v.Ui=9)))):Option Bool)=some (bm v):=by unfold bm;cases decide (v.Ui=7)<;>rfl
def dK (N:Nat)(c:TB)(l:List Int):List Int:=bif qx N c then opens (fun x=>decide (x∈l)) c.Um else []
theorem C8 (N:Nat)(c:TB)(l:List Int):(dK N c l).length<=c.Um.length:=by
 unfold dK;cases qx N c
 ·exact Nat.zero_le _
 exact EA _ _
theorem HK {N:Nat}{c:TB}{l:List Int}{x:Int}(h:x∈dK N c l): ∃v∈c.Uo++c.Um,v.N=x:=by
 unfold dK at h;cases hw:qx N c
 ·rw [hw] at h;cases h
 rw [hw] at h;obtain ⟨v,h1,h2⟩:=Ez h;exact ⟨v,by simp [h1],h2⟩
theorem HI (N:Nat)(hN:6500<N)(l:List Int)(hl:l.length<=5000)(k v:Ty)(s:List Int)(hs:s.length<=5000):cY (fun x st=>iG N l x st) (k,v) (none,s)=some (true,(none,s++(bif bm v&&decide (k.N∈l) then [v.N] else []))):=by
 unfold cY iG;simp only [sb,bs,pN N hN l hl];cases bm v
 ·simp only [cf,bs,Bool.false_and,List.append_nil];rfl
 simp only [ct,bs,Bool.true_and];cases decide (k.N∈l)
 ·simp only [cf,List.append_nil];rfl
 simp only [ct];rw [rF (by simp;omega)];rfl
theorem Ao (N:Nat)(hN:6500<N)(l:List Int)(hl:l.length<=5000)(c:TB)(hc:c.Um.length<=1000)(he:c.Um.length%2=0): ∀(m i:Nat) (s:List Int),c.Um.length<m+i->i<=c.Um.length->i%2=0->s.length<=i->ey N (cY (fun x st=>iG N l x st)) c m (i:Int) (none,s)=some (none,s++opens (fun x=>decide (x∈l)) (c.Um.drop i))
 |0,i,s,h,h2,_,_=>by omega
 | m+1,i,s,h,h2,h3,h4=>by
  rw [ey.eq_2,r64 (a:=(i:Int)+1) V V];by_cases hi:i<c.Um.length
  ·have hi1:i+1<c.Um.length:=by omega
   have a1:aw c.Um ((i:Int)+1)=some c.Um[i+1]:=by
    have:=aL hi1;simpa using this
   rw [cu V,ct,aL hi,bs,r64 (a:=(i:Int)+1) V V,a1,bs,HI N hN l hl _ _ s V,bs];simp only [nt,cf];rw [r64 V V]
   have hlen:(s++(bif bm c.Um[i+1]&&decide (c.Um[i].N∈l) then [c.Um[i+1].N] else [])).length<=i+2:=by
    cases bm c.Um[i+1]&&decide (c.Um[i].N∈l)<;>simp<;>omega
   have:=Ao N hN l hl c hc he m (i+2) _ V V V hlen;simp only [Int.natCast_add,Int.cast_ofNat_Int] at this;rw [this,List.drop_eq_getElem_cons hi,List.drop_eq_getElem_cons hi1,pm,TS]
  rw [cn V,cf,List.drop_eq_nil_of_le V];simp [opens]
theorem C7 (N:Nat)(hN:6500<N)(l:List Int)(hl:l.length<=5000)(c:TB)(hS:c.Uo.length<=1000)(hc:c.Um.length<=1000):oo N c l=some (dK N c l):=by
 obtain ⟨-,h1,h2⟩:=HU N V c hS hc;unfold oo dK jd;rw [h1,bs];cases hw:qx N c
 ·rfl
 have e:lX N c=some ():=rfl;have:=Ao N hN l hl c hc (h2 hw) N 0 [] V V rfl (by simp);simp only [nt,cf,ct,e,bs];have h3:ey N (cY (fun x st=>iG N l x st)) c N 0 (none,[])=some (none,[]++opens (fun x=>decide (x∈l)) (c.Um.drop 0)):=this;rw [h3,bs];rfl
theorem JJ (N:Nat)(hN:6500<N)(l:List Int)(hl:l.length<=5000)(c:TB)(hS:c.Uo.length<=1000)(hc:c.Um.length<=1000):wF N c l=some (dK N c l):=by
 obtain ⟨h1, -,h2⟩:=HU N V c hS hc;unfold wF dK;cases hw:qx N c
 ·obtain ⟨n,rfl⟩: ∃n,N=n+1:=⟨N - 1,by omega⟩;rw [rf.eq_2,h1,bs,hw];simp only [cf,bs];rfl
 have he:=h2 hw
 have key: ∀(m i:Nat) (s:List Int),c.Um.length<m+i->i<=c.Um.length->i%2=0->s.length<=i->rf N l c m s (i:Int)=some (s++opens (fun x=>decide (x∈l)) (c.Um.drop i)):=by
  intro m
  induction m with
  |zero=>intro i s h h2;omega
  | succ m ih=>
   intro i s h h2 h3 h4;rw [rf.eq_2,h1,bs,hw,ct,bs];by_cases hi:i<c.Um.length
   ·have hi1:i+1<c.Um.length:=by omega
    have a1:aw c.Um ((i:Int)+1)=some c.Um[i+1]:=by
     have:=aL hi1;simpa using this
    rw [cu V,ct,r64 (a:=(i:Int)+1) V V,a1,bs,aL hi,bs,Rb N hN l hl,bs];simp only [sb,bs]
    have hlen:(s++(bif bm c.Um[i+1]&&decide (c.Um[i].N∈l) then [c.Um[i+1].N] else [])).length<=i+2:=by
     cases bm c.Um[i+1]&&decide (c.Um[i].N∈l)<;>simp<;>omega
    have:=ih (i+2) _ V V V hlen;simp only [Int.natCast_add,Int.cast_ofNat_Int] at this;rw [List.drop_eq_getElem_cons hi,List.drop_eq_getElem_cons hi1,pm, <-TS, <-this];unfold tx;rw [r64 (a:=(i:Int)+2) V V,r64 (a:=(i:Int)+2) V V];cases decide (c.Um[i].N∈l)
    ·simp only [cf,bs,Bool.and_false,List.append_nil]
    cases bm c.Um[i+1]
    ·simp only [ct,cf,bs,Bool.and_true,List.append_nil]
    simp only [ct,bs,Bool.and_true];rw [rF (by simp;omega)]
   rw [cn V,cf,List.drop_eq_nil_of_le V];simp [opens,zx]
 have:=key N 0 [] V V rfl (by simp);simpa using this
theorem zL: ∀(b:Nat) {l:List Int},l.Nodup->(∀x∈l,1<=x/\x<=(b:Int))->l.length<=b
 |0,l,_,h=>by
  cases l with
  |nil=>exact Nat.le_refl _
  |cons x l=>have:=h x (by simp);omega
 | b+1,l,hn,h=>by
  have h1:=zL b (hn.erase ((b:Int)+1)) fun x hx=>by
   obtain ⟨h2,h3⟩:=hn.mem_erase_iff.1 hx;have:=h x h3;omega
  have h2:=List.length_erase (a:=(b:Int)+1) (l:=l);split at h2<;>omega
theorem Pf (kv:List (Int×Unit))(a:Int):(lk kv a).isSome=decide (a∈kv.map (·.1)):=by
 unfold lk;rw [Bool.eq_iff_iff];simp [List.find?_isSome,List.mem_map]
def W64 (m:TM):Prop:= ∀c∈m.Uj++m.Ul, ∀v∈c.Uo++c.Um,in64 v.N
theorem W64.at_ {m:TM}(h:W64 m)(a:Int): ∀v∈(bw m a).Uo++(bw m a).Um,in64 v.N:=by
 unfold bw
 cases hc:i3 m a with
 |none=>intro v hv;simp [Eg] at hv
 |some c=>exact h c (sD hc)
structure Tr (m:TM) (all:List Int) (met:List (Int×Unit)):Prop where
 nd:all.Nodup
 mem: ∀x,x∈met.map (·.1)↔x∈all
 has: ∀x∈all,aJ m x=true
theorem Tr.len {m:TM}{roots:List Ty}(hs:Small m roots){all:List Int}{met:List (Int×Unit)}(h:Tr m all met):all.length<=1200:=zL 1200 h.nd fun x hx=>⟨by have:=qb (h.has x hx);omega,by have:=xF hs (h.has x hx);omega⟩
theorem Tr.in64 {m:TM}{roots:List Ty}(hs:Small m roots){all:List Int}{met:List (Int×Unit)}(h:Tr m all met){x:Int}(hx:x∈all):in64 x:=by
 have h1:=qb (h.has x hx);have h2:=xF hs (h.has x hx);unfold Go.Proofs.YtjmonlcchlkdhaaGreat.in64;omega
theorem Tr.add {m:TM}{all:List Int}{met:List (Int×Unit)}(h:Tr m all met){x:Int}(hx:x∉all)(hh:aJ m x=true):Tr m (all++ [x]) (yy met x ()):=⟨List.nodup_append.2 ⟨h.nd,by simp,fun a ha b hb e=>by rw [List.mem_singleton] at hb;subst hb;subst e;exact hx ha⟩,fun y=>by
 rw [MO,List.mem_append,List.mem_singleton,h.mem y];exact Or.comm,fun y hy=>by
 rcases List.mem_append.1 hy with hy|hy
 ·exact h.has y hy
 ·rw [List.mem_singleton] at hy;subst hy;exact hh⟩
def SX (m:TM)(all:List Int)(k:Nat):Prop:= ∀(i:Nat) (a x:Int),i<k->all[i]? =some a->x∈co (bw m a)->aJ m x=true->x∈all
theorem GE {m:TM}{roots:List Ty}(hs:Small m roots)(hw:W64 m)(a:Int):(co (bw m a)).length<=2000/\ ∀x∈co (bw m a),in64 x:=by
 have h1:=hs.at_ a;have h2:=kU (bw m a);refine ⟨by omega,fun x hx=> ?_⟩;obtain ⟨v,h3,rfl⟩:=Do hx;exact hw.at_ a v h3
structure Gr where
 has:Int->Bool
 leads:Int->List Int
 opens:List Int->Int->List Int
def dB (has:Int->Bool):List Int->List Int->List Int
 |row,[]=>row
 |row,x::l=>dB has (bif has x&& !decide (x∈row) then row++ [x] else row) l
inductive Thr (g:Gr):List Int->Nat->List Int->Prop
 |done {row:List Int} {k:Nat}:row.length<=k->Thr g row k row
 |step {row:List Int} {k:Nat} {a:Int} {r:List Int}:row[k]? =some a->Thr g (dB g.has row (g.leads a)) (k+1) r->Thr g row k r
def od (g:Gr):List Int->List Int->List Int
 |row,[]=>row
 |row,a::avs=>od g (dB g.has row (g.opens row a)) avs
inductive Ord (g:Gr):List Int->List Int->Prop
 |done {row:List Int}:od g row row=row->Ord g row row
 |step {row r1 r:List Int}:od g row row≠row->Thr g (od g row row) row.length r1->Ord g r1 r->Ord g row r
structure IsOrder (g:Gr) (roots:List Int) (b l:List Int):Prop where
 strong:Thr g (dB g.has [] roots) 0 b
 all:Ord g b l
theorem iL (has:Int->Bool): ∀(row l:List Int), ∃t,dB has row l=row++t/\(∀x∈t,has x=true/\x∈l)
 |row,[]=>⟨[],by simp [dB],by simp⟩
 | row,x::l=>by
  unfold dB
  cases h:has x&& !decide (x∈row) with
  |false=>
   obtain ⟨t,h1,h2⟩:=iL has row l;exact ⟨t,h1,fun y hy=>⟨(h2 y hy).1,by simp [(h2 y hy).2]⟩⟩
  |true=>
   obtain ⟨t,h1,h2⟩:=iL has (row++ [x]) l;refine ⟨x::t,by rw [cond_true,h1];simp,fun y hy=> ?_⟩;rw [Uf] at h;rcases List.mem_cons.1 hy with e|hy
   ·subst e;exact ⟨h.1,by simp⟩
   exact ⟨(h2 y hy).1,by simp [(h2 y hy).2]⟩
theorem sa (has:Int->Bool): ∀(row l l':List Int),dB has row (l++l')=dB has (dB has row l) l'
 |_,[],_=>rfl
 |row,x::l,l'=>by
  show dB has _ (l++l')=_;rw [sa has _ l l'];rfl
theorem po {has:Int->Bool}: ∀{row:List Int} (l:List Int),row.Nodup->(dB has row l).Nodup
 |_,[],h=>h
 | row,x::l,h=>by
  unfold dB
  cases h2:has x&& !decide (x∈row) with
  |false=>exact po l h
  |true=>
   rw [Uf] at h2
   have hx:x∉row:=by simpa using h2.2
   exact po l (List.nodup_append.2 ⟨h,by simp,fun a ha b hb e=>by rw [List.mem_singleton] at hb;subst hb;subst e;exact hx ha⟩)
theorem um {has:Int->Bool}: ∀(row l:List Int) {x:Int},x∈l->has x=true->x∈dB has row l
 | row,y::l,x,h,hx=>by
  unfold dB;rcases List.mem_cons.1 h with e|h
  ·subst e;obtain ⟨t,h1, -⟩:=iL has (bif has x&& !decide (x∈row) then row++ [x] else row) l;rw [h1];refine TT _ ?_;rw [hx,Bool.true_and];by_cases hm:x∈row<;>simp [hm]
  exact um _ l h hx
theorem zV {has:Int->Bool}{row l:List Int}{x:Int}(h:x∈dB has row l):x∈row\/(has x=true/\x∈l):=by
 obtain ⟨t,h1,h2⟩:=iL has row l;rw [h1] at h;rcases List.mem_append.1 h with h|h
 ·exact .inl h
 exact .inr (h2 x h)
theorem ug (g:Gr): ∀(row avs:List Int), ∃t,od g row avs=row++t
 |row,[]=>⟨[],by simp [od]⟩
 |row,a::avs=>by
  obtain ⟨t,h1, -⟩:=iL g.has row (g.opens row a);obtain ⟨t2,h2⟩:=ug g (dB g.has row (g.opens row a)) avs;exact ⟨t++t2,by unfold od;rw [h2,h1,TS]⟩
theorem AT (g:Gr): ∀(row avs bs:List Int),od g row (avs++bs)=od g (od g row avs) bs
 |_,[],_=>rfl
 |row,a::avs,bs=>by
  show od g _ (avs++bs)=_;rw [AT g _ avs bs];rfl
theorem BC {g:Gr}: ∀{row:List Int} (avs:List Int),row.Nodup->(od g row avs).Nodup
 |_,[],h=>h
 |_,_::avs,h=>BC avs (po _ h)
theorem Er {g:Gr}: ∀{row:List Int} (avs:List Int),(∀x∈row,g.has x=true)-> ∀x∈od g row avs,g.has x=true
 |_,[],h=>h
 |_,_::avs,h=>Er avs fun x hx=>(zV hx).elim (h x) (·.1)
theorem Thr.app {g:Gr}{row r:List Int}{k:Nat}(h:Thr g row k r): ∃t,r=row++t:=by
 induction h with
 |done _=>exact ⟨[],by simp⟩
 |step _ _ ih=>
  rename_i row _ a _ _ _
  obtain ⟨t,rfl⟩:=ih;obtain ⟨t2,h1, -⟩:=iL g.has row (g.leads a);exact ⟨t2++t,by rw [h1,TS]⟩
theorem Thr.nodup {g:Gr}{row r:List Int}{k:Nat}(h:Thr g row k r)(hn:row.Nodup):r.Nodup:=by
 induction h with
 |done _=>exact hn
 |step _ _ ih=>exact ih (po _ hn)
theorem Thr.has {g:Gr}{row r:List Int}{k:Nat}(h:Thr g row k r)(hn: ∀x∈row,g.has x=true): ∀x∈r,g.has x=true:=by
 induction h with
 |done _=>exact hn
 |step _ _ ih=>exact ih fun x hx=>(zV hx).elim (hn x) (·.1)
theorem Thr.det {g:Gr}{row r r':List Int}{k:Nat}(h:Thr g row k r)(h':Thr g row k r'):r=r':=by
 induction h with
 |done hk=>
  cases h' with
  |done _=>rfl
  |step ha _=>rw [List.getElem?_eq_none hk] at ha;cases ha
 |step ha _ ih=>
  cases h' with
  |done hk=>rw [List.getElem?_eq_none hk] at ha;cases ha
  |step ha' h2=>rw [ha] at ha';cases ha';exact ih h2
theorem Ord.det {g:Gr}{row r r':List Int}(h:Ord g row r)(h':Ord g row r'):r=r':=by
 induction h with
 |done hk=>
  cases h' with
  |done _=>rfl
  |step ha _ _=>exact absurd hk ha
 |step ha h1 _ ih=>
  cases h' with
  |done hk=>exact absurd hk ha
  |step _ h1' h2=>exact ih (h1.det h1'▸h2)
theorem IsOrder.det {g:Gr}{roots b l b' l':List Int}(h:IsOrder g roots b l)(h':IsOrder g roots b' l'):b=b'/\l=l':=by
 obtain ⟨h1,h2⟩:=h;obtain ⟨h3,h4⟩:=h';have e:=h1.det h3;subst e;exact ⟨J,h2.det h4⟩
theorem Ord.app {g:Gr}{row r:List Int}(h:Ord g row r): ∃t,r=row++t:=by
 induction h with
 |done _=>exact ⟨[],by simp⟩
 |step _ h1 _ ih=>
  rename_i row r1 _ _ _
  obtain ⟨t,rfl⟩:=ih;obtain ⟨t1,rfl⟩:=h1.app;obtain ⟨t2,h2⟩:=ug g row row;exact ⟨t2++t1++t,by rw [h2];simp [TS]⟩
theorem Ord.nodup {g:Gr}{row r:List Int}(h:Ord g row r)(hn:row.Nodup):r.Nodup:=by
 induction h with
 |done _=>exact hn
 |step _ h1 _ ih=>exact ih (h1.nodup (BC _ hn))
theorem Ord.has {g:Gr}{row r:List Int}(h:Ord g row r)(hn: ∀x∈row,g.has x=true): ∀x∈r,g.has x=true:=by
 induction h with
 |done _=>exact hn
 |step _ h1 _ ih=>exact ih (h1.has (Er _ hn))
theorem IsOrder.nodup {g:Gr}{roots b l:List Int}(h:IsOrder g roots b l):b.Nodup/\l.Nodup:=
 have hb:=h.strong.nodup (po _ List.nodup_nil)
 ⟨hb,h.all.nodup hb⟩
theorem IsOrder.has {g:Gr}{roots b l:List Int}(h:IsOrder g roots b l):(∀x∈b,g.has x=true)/\ ∀x∈l,g.has x=true:=
 have hb:=h.strong.has fun x hx=>(zV hx).elim (fun h=>by cases h) (·.1)
 ⟨hb,h.all.has hb⟩
theorem IsOrder.sub {g:Gr}{roots b l:List Int}(h:IsOrder g roots b l){x:Int}(hx:x∈b):x∈l:=by
 obtain ⟨t,e⟩:=h.all.app;rw [e];exact TT _ hx
theorem IsOrder.roots {g:Gr}{roots b l:List Int}(h:IsOrder g roots b l){x:Int}(hx:x∈roots)(hh:g.has x=true):x∈b:=by
 obtain ⟨t,e⟩:=h.strong.app;rw [e];exact TT _ (um _ _ hx hh)
def CloG (g:Gr)(row:List Int)(k:Nat):Prop:= ∀(i:Nat) (a x:Int),i<k->row[i]? =some a->x∈g.leads a->g.has x=true->x∈row
theorem CloG.app {g:Gr}{row t:List Int}{k:Nat}(hk:k<=row.length)(h:CloG g row k):CloG g (row++t) k:=fun i a x hi ha hx hh=>by
 rw [List.getElem?_append_left V] at ha;exact TT _ (h i a x hi ha hx hh)
theorem Thr.clo {g:Gr}{row r:List Int}{k:Nat}(h:Thr g row k r)(hk:k<=row.length)(hc:CloG g row k):CloG g r r.length:=by
 induction h with
 |done a1=>intro i a x hi ha hx hh;exact hc i a x V ha hx hh
 | step ha _ ih=>
  rename_i row k a _ _
  have hlt:=(List.getElem?_eq_some_iff.1 ha).1;obtain ⟨t,h1, -⟩:=iL g.has row (g.leads a)
  refine ih (by rw [h1,Ub];omega) fun i b x hi hb hx hh=> ?_
  by_cases e:i=k
  ·subst e;rw [h1,List.getElem?_append_left hlt,ha] at hb;cases hb;exact um _ _ hx hh
  rw [h1] at hb⊢;exact (CloG.app hk hc (t:=t)) i b x V hb hx hh
theorem Es {g:Gr}: ∀{row avs:List Int},od g row avs=row-> ∀a∈avs, ∀x∈g.opens row a,g.has x=true->x∈row
 | row,b::avs,h,a,ha,x,hx,hh=>by
  have h1:dB g.has row (g.opens row b)=row:=by
   obtain ⟨t,e1, -⟩:=iL g.has row (g.opens row b);obtain ⟨t2,e2⟩:=ug g (dB g.has row (g.opens row b)) avs
   have h3:row++t++t2=row:=by rw [<-e1, <-e2];exact h
   have h4:=congrArg List.length h3;simp only [Ub] at h4;have h5:t=[]:=List.eq_nil_of_length_eq_zero V;rw [e1,h5,List.append_nil]
  rcases List.mem_cons.1 ha with e|ha
  ·subst e;have:=um row _ hx hh;rwa [h1] at this
  refine Es (avs:=avs) ?_ a ha x hx hh;unfold od at h;rw [h1] at h;exact h
theorem Ord.closed {g:Gr}{row r:List Int}(h:Ord g row r)(hc:CloG g row row.length):CloG g r r.length/\ ∀a∈r, ∀x∈g.opens r a,g.has x=true->x∈r:=by
 induction h with
 |done hp=>exact ⟨hc,Es hp⟩
 |step _ h1 _ ih=>
  rename_i row _ _ _ _
  obtain ⟨t,e⟩:=ug g row row;refine ih (h1.clo (by rw [e,Ub];omega) ?_);rw [e];exact hc.app (Nat.le_refl _)
theorem IsOrder.closed {g:Gr}{roots b l:List Int}(h:IsOrder g roots b l):(∀a∈l, ∀x∈g.leads a,g.has x=true->x∈l)/\ ∀a∈l, ∀x∈g.opens l a,g.has x=true->x∈l:=by
 obtain ⟨h1,h2⟩:=h.all.closed (h.strong.clo (Nat.zero_le _) fun i _ _ hi=>absurd hi V);refine ⟨fun a ha x hx hh=> ?_,h2⟩;obtain ⟨i,hi,e⟩:=List.getElem_of_mem ha;exact h1 i a x hi (by rw [List.getElem?_eq_getElem hi,e]) hx hh
structure ClosedS (g:Gr) (S:Int->Prop):Prop where
 leads: ∀a,S a-> ∀x∈g.leads a,g.has x=true->S x
 opens: ∀row:List Int,(∀x∈row,S x)-> ∀a,S a-> ∀x∈g.opens row a,g.has x=true->S x
def DZ (N:Nat)(m:TM):Gr:=⟨aJ m,fun a=>co (bw m a),fun row a=>dK N (bw m a) row⟩
def bN (l:List Ty):List Int:=(l.filter bm).map (·.N)
theorem xQ (l l':List Ty):bN (l++l')=bN l++bN l':=by unfold bN;simp
theorem lw {l:List Ty}{x:Int}:x∈bN l↔ ∃v∈l,bm v=true/\v.N=x:=by
 unfold bN;simp only [List.mem_map,List.mem_filter];constructor
 ·rintro ⟨v,⟨h1,h2⟩,h3⟩;exact ⟨v,h1,h2,h3⟩
 rintro ⟨v,h1,h2,h3⟩;exact ⟨v,⟨h1,h2⟩,h3⟩
theorem FD (N:Nat){m:TM}{roots:List Ty}(hN:6500<N)(hs:Small m roots)(d:Int)(l:List Int)(hl:l.length<=2000)(h64: ∀x∈l,in64 x){all:List Int}{met:List (Int×Unit)}(ht:Tr m all met):
  Sat (ew N ⟨m,all,met,d⟩ l) fun r=>r.m_=m/\r.Vc=d/\Tr m r.US r.UM/\r.US=dB (aJ m) all l:=by
 unfold ew;refine cN (fun k i (s:List Int×List (Int×Unit))=>df N l ⟨m,all,met,d⟩ k (i:Int) s.1 s.2) l.length (fun i s=>Tr m s.1 s.2/\s.1=dB (aJ m) all (l.take i)) _ ?_ ?_ N 0 (all,met) V V ⟨ht,J⟩
 ·rintro k i ⟨al,mt⟩ hi ⟨h1,h2⟩ go;show Sat (df N l ⟨m,all,met,d⟩ (k+1) i al mt) _;simp only at h1 h2;have a1:=h64 l[i] (Uh _)
  have hnext:dB (aJ m) all (l.take (i+1))=(bif aJ m l[i]&& !decide (l[i]∈al) then al++ [l[i]] else al):=by
   rw [aW hi,sa, <-h2];rfl
  rw [df.eq_2,cu V,ct,aL hi,bs,Pf];unfold jp;rw [r64 (a:=(i:Int)+1) V V,r64 (a:=(i:Int)+1) V V];by_cases hm:l[i]∈al
  ·rw [TP ((h1.mem _).2 hm)];simp only [nt,cf,bs];exact go (al,mt) ⟨h1,by rw [hnext,TP hm];simp⟩
  rw [TQ (fun h=>hm ((h1.mem _).1 h))];simp only [nf,ct,bs,uo N m _ a1];cases hh:aJ m l[i]
  ·simp only [cf];exact go (al,mt) ⟨h1,by rw [hnext,hh];rfl⟩
  simp only [ct];have hlen:=h1.len hs;rw [rF (by simp;omega)];exact go (al++ [l[i]],yy mt l[i] ()) ⟨h1.add hm hh,by rw [hnext,hh,TQ hm];rfl⟩
 rintro k ⟨al,mt⟩ ⟨h1,h2⟩;show Sat (df N l ⟨m,all,met,d⟩ (k+1) _ al mt) _;rw [df.eq_2,cn V,cf];exact ax ⟨J,J,h1,by simpa using h2⟩
theorem Bv (N:Nat)(hN:6500<N){m:TM}{roots:List Ty}(hs:Small m roots)(hw:W64 m){all:List Int}{met:List (Int×Unit)}(ht:Tr m all met)(k:Nat)(hk:k<=all.length):
  Sat (gT N ⟨m,all,met,(k:Int)⟩) fun r=>r.m_=m/\r.Vc=(r.US.length:Int)/\Tr m r.US r.UM/\Thr (DZ N m) all k r.US:=by
 unfold gT;refine oT (fun f (s:List Int×List (Int×Unit)×Nat)=>gh N f m.Uj m.Ul s.1 s.2.1 (s.2.2:Int)) (fun s=>1300 - s.2.2) (fun s=>Tr m s.1 s.2.1/\s.2.2<=s.1.length/\ ∀r,Thr (DZ N m) s.1 s.2.2 r->Thr (DZ N m) all k r) _ ?_ N (all,met,k) (by show 1300 - k<N;omega) ⟨ht,hk,fun _ h=>h⟩;rintro f ⟨al,mt,j⟩ ⟨h1,h3,h4⟩ go;show Sat (gh N (f+1) m.Uj m.Ul al mt (j:Int)) _;simp only at h1 h3 h4;have hlen:=h1.len hs;rw [gh.eq_2];by_cases hj:j<al.length
 ·have hx:=Uh hj;have hat:=F3 N hs al[j] (h1.in64 hs hx);have hsm:=hs.at_ al[j];obtain ⟨a1,a2⟩:=GE hs hw al[j];rw [cu V,ct,aL hj,bs];have hat':kP N ⟨m.Uj,m.Ul⟩ al[j]=some (bw m al[j]):=hat;rw [hat',bs,nT N V _ V V,bs];refine Sat.bind (FD N hN hs (j:Int) _ a1 a2 h1) ?_;rintro ⟨m',al',mt',d'⟩ ⟨e1,e2,h5,h6⟩;simp only at e1 e2 h5 h6;subst e1 e2;have hlen':=h5.len hs
  dsimp only
  rw [r64 V V]
  have hge:al.length<=al'.length:=by
   obtain ⟨t,e, -⟩:=iL (aJ m') al (co (bw m' al[j]));rw [h6,e,Ub];omega
  have hgo:=go (al',mt',j+1) (by show 1300 - (j+1)<1300 - j;omega) ⟨h5,by show j+1<=al'.length;omega,fun r hr=>h4 r (.step (List.getElem?_eq_getElem hj) (by rw [h6] at hr;exact hr))⟩;simpa using hgo
 have:j=al.length:=by omega
 subst this;rw [cn V,cf];exact ax ⟨J,J,h1,h4 _ (.done (Nat.le_refl _))⟩
theorem Kp (N:Nat)(hN:6500<N){m:TM}{roots:List Ty}(hs:Small m roots)(hw:W64 m)(hr: ∀v∈roots,in64 v.N):
  Sat (nq N m roots) fun r=>r.m_=m/\r.Vc=(r.US.length:Int)/\Tr m r.US r.UM/\Thr (DZ N m) (dB (aJ m) [] (bN roots)) 0 r.US:=by
 have hrl:=hs.roots;unfold nq;refine cN (fun k i (s:List Int×List (Int×Unit))=>ja N roots k (i:Int) m.Uj m.Ul s.1 s.2 0) roots.length (fun i s=>Tr m s.1 s.2/\s.1=dB (aJ m) [] (bN (roots.take i))) _ ?_ ?_ N 0 ([],[]) V V ⟨⟨by simp,by simp,by simp⟩,J⟩
 ·rintro k i ⟨al,mt⟩ hi ⟨h1,h2⟩ go;show Sat (ja N roots (k+1) (i:Int) m.Uj m.Ul al mt 0) _;simp only at h1 h2;have a1:=hr roots[i] (Uh _)
  have ha:nF N roots[i]=some (roots[i].N,bm roots[i]):=by
   unfold nF;rw [sb,bs]
  have hnext:dB (aJ m) [] (bN (roots.take (i+1)))=dB (aJ m) al (bN [roots[i]]):=by
   rw [aW hi,xQ,sa, <-h2]
  rw [ja.eq_2,cu V,ct,aL hi,bs];unfold pi;rw [ha,bs];cases hb:bm roots[i]
  ·simp only [cf,bs];rw [r64 V V];refine go (al,mt) ⟨h1,?_⟩;rw [hnext];simp [bN,hb,dB]
  simp only [ct];obtain ⟨⟨m',al',mt',d'⟩,e0,e1,e2,h5,h6⟩:=FD N hN hs 0 [roots[i].N] (by simp) (by intro x hx;rw [List.mem_singleton] at hx;subst hx;exact a1) h1;simp only at e1 e2 h5 h6;subst e1 e2;have e0':ew N ⟨⟨m'.Uj,m'.Ul⟩,al,mt,0⟩ [roots[i].N]=some ⟨m',al',mt',0⟩:=e0;rw [e0',bs,bs]
  dsimp only
  rw [r64 V V];refine go (al',mt') ⟨h5,?_⟩;show al'=_;rw [hnext,h6];simp [bN,hb]
 rintro k ⟨al,mt⟩ ⟨h1,h2⟩;show Sat (ja N roots (k+1) _ m.Uj m.Ul al mt 0) _;rw [ja.eq_2,cn V,cf];unfold rP;refine Sat.bind (Bv N hN hs hw h1 0 (Nat.zero_le _)) ?_;rintro r ⟨e1,e2,h5,h6⟩;simp only [Ue] at h2;exact ax ⟨e1,e2,h5,by rw [<-h2];exact h6⟩
theorem Gq (N:Nat){m:TM}{roots:List Ty}(hs:Small m roots)(hw:W64 m)(a:Int)(l:List Int):(dK N (bw m a) l).length<=2000/\ ∀x∈dK N (bw m a) l,in64 x:=by
 have h1:=hs.at_ a;have h2:=C8 N (bw m a) l;refine ⟨by omega,fun x hx=> ?_⟩;obtain ⟨v,h3,rfl⟩:=HK hx;exact hw.at_ a v h3
theorem KT (N:Nat)(hN:6500<N){m:TM}{roots:List Ty}(hs:Small m roots)(hw:W64 m){all:List Int}{met:List (Int×Unit)}(ht:Tr m all met)(d:Int):
  Sat (kh N ⟨m,all,met,d⟩) fun r=>r.2.m_=m/\r.2.Vc=d/\Tr m r.2.US r.2.UM/\r.1=decide ((all.length:Int)<(r.2.US.length:Int))/\r.2.US=od (DZ N m) all all:=by
 have hlen:=ht.len hs;unfold kh;refine cN (fun k i (s:List Int×List (Int×Unit))=>dx N ⟨m,all,met,d⟩ k (i:Int) m.Uj m.Ul s.1 s.2 d) all.length (fun i s=>Tr m s.1 s.2/\(∃t,s.1=all++t)/\s.1=od (DZ N m) all (all.take i)) _ ?_ ?_ N 0 (all,met) V V ⟨ht,⟨[],by simp⟩,J⟩
 ·rintro k i ⟨al,mt⟩ hi ⟨h1,⟨t,h2⟩,h3⟩ go;show Sat (dx N ⟨m,all,met,d⟩ (k+1) (i:Int) m.Uj m.Ul al mt d) _;simp only at h1 h2 h3;have hlen1:=h1.len hs
  have htk:List.take all.length al=all:=by rw [h2,List.take_left'];rfl
  have hx:=Uh hi;have hsm:=hs.at_ all[i];have hat:kP N ⟨m.Uj,m.Ul⟩ all[i]=some (bw m all[i]):=F3 N hs all[i] (ht.in64 hs hx)
  have hnext:od (DZ N m) all (all.take (i+1))=dB (aJ m) al (dK N (bw m all[i]) al):=by
   rw [aW hi,AT, <-h3];rfl
  rw [dx.eq_2];simp only [Ue];rw [cu V,ct,htk,aL hi,bs,hat,bs];unfold kN;by_cases h8:(bw m all[i]).Ui=8
  ·rw [o5 h8,ct,C7 N hN al V _ V V,bs];obtain ⟨a1,a2⟩:=Gq N hs hw all[i] al;obtain ⟨⟨m',al',mt',d'⟩,e0,e1,e2,h5,h6⟩:=FD N hN hs d _ a1 a2 h1;simp only at e1 e2 h5 h6;subst e1 e2;have e0':ew N ⟨⟨m'.Uj,m'.Ul⟩,al,mt,d'⟩ (dK N (bw m' all[i]) al)=some ⟨m',al',mt',d'⟩:=e0;rw [e0',bs]
   dsimp only
   rw [r64 V V];obtain ⟨t',e', -⟩:=iL (aJ m') al (dK N (bw m' all[i]) al);exact go (al',mt') ⟨h5,⟨t++t',by show al'=_;rw [h6,e',h2,TS]⟩,by show al'=_;rw [hnext,h6]⟩
  rw [io h8,cf,r64 V V];refine go (al,mt) ⟨h1,⟨t,h2⟩,?_⟩
  have h0:dK N (bw m all[i]) al=[]:=by
   unfold dK qx;rw [io h8];rfl
  show al=_;rw [hnext,h0];rfl
 rintro k ⟨al,mt⟩ ⟨h1,⟨t,h2⟩,h3⟩;show Sat (dx N ⟨m,all,met,d⟩ (k+1) _ m.Uj m.Ul al mt d) _;rw [dx.eq_2];simp only [Ue] at h3⊢;rw [cn V,cf];exact ax ⟨J,J,h1,J,h3⟩
theorem JI (N:Nat)(hN:6500<N){m:TM}{roots:List Ty}(hs:Small m roots)(hw:W64 m)(hr: ∀v∈roots,in64 v.N):
  ∃b all,IsOrder (DZ N m) (bN roots) b.US all/\all.length<=1200/\b.US.length<=1200/\nq N m roots=some b/\lm N m roots=some all:=by
 obtain ⟨⟨m',al0,mt0,d0⟩,e0,e1,e2,h1,h2⟩:=Kp N hN hs hw hr;simp only at e1 e2 h1 h2;subst e1 e2;have hlen0:=h1.len hs
 have key:Sat (lm N m' roots) fun all=>Ord (DZ N m') al0 all/\all.length<=1200:=by
  unfold lm;rw [e0,bs];refine oT (fun f (s:List Int×List (Int×Unit))=>lb N f m'.Uj m'.Ul s.1 s.2 (s.1.length:Int)) (fun s=>1300 - s.1.length) (fun s=>Tr m' s.1 s.2/\ ∀r,Ord (DZ N m') s.1 r->Ord (DZ N m') al0 r) _ ?_ N (al0,mt0) (by show 1300 - al0.length<N;omega) ⟨h1,fun _ h=>h⟩;rintro f ⟨al,mt⟩ ⟨h4,h5⟩ go;show Sat (lb N (f+1) m'.Uj m'.Ul al mt (al.length:Int)) _;simp only at h4 h5;have hlen:=h4.len hs;rw [lb.eq_2];obtain ⟨⟨b,m2,al2,mt2,d2⟩,g0,g1,g2,g3,g5,g6⟩:=KT N hN hs hw h4 (al.length:Int);simp only at g1 g2 g3 g5 g6;subst g1 g2;have hlen2:=g3.len hs;have g0':kh N ⟨⟨m2.Uj,m2.Ul⟩,al,mt,(al.length:Int)⟩=some (b,⟨m2,al2,mt2,(al.length:Int)⟩):=g0;obtain ⟨t2,ht2⟩:=ug (DZ N m2) al al;rw [g0',bs]
  dsimp only
  rw [g5]
  refine dO (fun hlt=> ?_) fun hge=> ?_
  ·refine Sat.bind (Bv N hN hs hw g3 al.length V) ?_;rintro ⟨m3,al3,mt3,d3⟩ ⟨k1,k2,k3,k4⟩;simp only at k1 k2 k3 k4;subst k1 k2;have hlen3:=k3.len hs;refine go (al3,mt3) ?_ ⟨k3,fun r h=>h5 r (.step ?_ (by rw [<-g6];exact k4) h)⟩
   ·show 1300 - al3.length<1300 - al.length;obtain ⟨t3,e3⟩:=k4.app
    have:al2.length<=al3.length:=by rw [e3,Ub];omega
    omega
   rw [<-g6];intro e;rw [e] at hlt;omega
  have e:al2=al:=by
   rw [ht2] at g6;have h0:t2=[]:=List.eq_nil_of_length_eq_zero (by rw [g6,Ub] at hge;omega);rw [g6,h0,List.append_nil]
  subst e;unfold qt;exact ax ⟨h5 _ (.done g6.symm),by omega⟩
 obtain ⟨all,k1,k2,k3⟩:=key;exact ⟨⟨m',al0,mt0,(al0.length:Int)⟩,all,⟨h2,k2⟩,k3,hlen0,e0,k1⟩
theorem pe (l:List Int)(x:Int):x∈jK l↔x∈l:=by unfold jK;exact List.mem_mergeSort
theorem AI {l:List Int}(h:l.Nodup):(jK l).Pairwise (· < ·):=by
 have h1:(jK l).Pairwise fun a b=>decide (a<=b)=true:=List.pairwise_mergeSort (by intro a b c h1 h2;simp at*;omega) (by intro a b;simp;omega) l
 have h2:(jK l).Nodup:=(List.mergeSort_perm l _).nodup_iff.2 h;rw [List.nodup_iff_pairwise_ne] at h2;exact h1.imp₂ (fun a b h3 h4=>by simp at h3;omega) h2
theorem CE {l s:List Int}(h:l.Nodup)(hs:s.Pairwise (· < ·))(he: ∀x,x∈l↔x∈s):jK l=s:=Je (AI h) hs fun x=>(pe l x).trans (he x)
theorem Jq (N:Nat)(l:List Int)(h:l.length<=5000):pD N l=some (jK l):=by
 unfold pD;rw [rF V]
def SL (n:Int):Ty:=⟨7,n,⟨#[]⟩⟩
def RO (l:List Ty):TB:=⟨11,0,0,0,[],l⟩
def SP:TM:=⟨[⟨11,0,0,0,[],[⟨7,3,⟨#[]⟩⟩,⟨7,2,⟨#[]⟩⟩]⟩,⟨11,0,0,0,[],[]⟩],[⟨11,0,0,0,[],[]⟩]⟩
def SN:TM:=⟨[⟨8,0,0,0,[⟨1,0,⟨#[]⟩⟩],[⟨7,3,⟨#[]⟩⟩,⟨7,5,⟨#[]⟩⟩]⟩,⟨11,0,0,0,[],[]⟩,⟨11,0,0,0,[],[]⟩],[]⟩
theorem Ns {N:Nat}{m:TM}{roots:List Ty}{l s:List Int}(h:lm N m roots=some l)(hl:l.length<=5000)(hs:jK l=s):mH N m roots=some s:=by
 unfold mH;rw [h,bs,Jq N l hl,bs,hs]
structure Tq (m:TM) (all:List Int):Prop where
 nd:all.Nodup
 has: ∀x∈all,aJ m x=true
theorem Tq.len {m:TM}{roots:List Ty}(hs:Small m roots){all:List Int}(h:Tq m all):all.length<=1200:=zL 1200 h.nd fun x hx=>⟨by have:=qb (h.has x hx);omega,by have:=xF hs (h.has x hx);omega⟩
theorem Tq.in64 {m:TM}{roots:List Ty}(hs:Small m roots){all:List Int}(h:Tq m all){x:Int}(hx:x∈all):in64 x:=by
 have h1:=qb (h.has x hx);have h2:=xF hs (h.has x hx);unfold Go.Proofs.YtjmonlcchlkdhaaGreat.in64;omega
theorem Tq.lay {m:TM}{all:List Int}(h:Tq m all)(l:List Int):Tq m (dB (aJ m) all l):=⟨po l h.nd,fun x hx=>(zV hx).elim (h.has x) (·.1)⟩
theorem CI (N:Nat){m:TM}{roots:List Ty}(hN:6500<N)(hs:Small m roots)(l:List Int)(hl:l.length<=2000)(h64: ∀x∈l,in64 x){all:List Int}(ht:Tq m all):rn N m all l=some (dB (aJ m) all l):=by
 apply Sat.eq;unfold rn;refine cN (fun k i (s:List Int)=>pj N l m k s (i:Int)) l.length (fun i s=>Tq m s/\s=dB (aJ m) all (l.take i)) _ ?_ ?_ N 0 all V V ⟨ht,J⟩
 ·rintro k i s hi ⟨h0,h1⟩ go;show Sat (pj N l m (k+1) s (i:Int)) _;have a1:=h64 l[i] (Uh _);have hsl:=h0.len hs
  have hnext:dB (aJ m) all (l.take (i+1))=(bif aJ m l[i]&& !decide (l[i]∈s) then s++ [l[i]] else s):=by
   rw [aW hi,sa, <-h1];rfl
  have hT:Tq m (dB (aJ m) all (l.take (i+1))):=ht.lay _;rw [pj.eq_2,cu V,ct];simp only [aL hi,bs,IR N m _ a1,Ra N hN s V l[i]];unfold wE;cases hh:aJ m l[i]
  ·simp only [cf,bs];rw [r64 V V];exact go s ⟨h0,by rw [hnext,hh];rfl⟩
  simp only [ct,bs];by_cases hm:l[i]∈s
  ·rw [TP hm];simp only [nt,cf];rw [r64 V V];exact go s ⟨h0,by rw [hnext,hh,TP hm];rfl⟩
  have e:dB (aJ m) all (l.take (i+1))=s++ [l[i]]:=by rw [hnext,hh,TQ hm];rfl
  rw [TQ hm];simp only [nf,ct];rw [rF (by simp;omega),r64 V V];exact go (s++ [l[i]]) ⟨e▸hT,e.symm⟩
 rintro k s ⟨h0,h1⟩;show Sat (pj N l m (k+1) s _) _;rw [pj.eq_2,cn V,cf];exact ax (by simpa using h1)
theorem JB (N:Nat)(hN:6500<N)(l:List Ty)(hl:l.length<=2000):nG N l=some (bN l):=by
 apply Sat.eq;unfold nG;refine cN (fun k i (s:List Int)=>iB N l k s (i:Int)) l.length (fun i s=>s=bN (l.take i)) _ ?_ ?_ N 0 [] V V J
 ·rintro k i s hi h1 go;show Sat (iB N l (k+1) s (i:Int)) _
  have hsl:s.length<=2000:=by
   rw [h1];unfold bN;rw [Ud];exact Nat.le_trans (List.length_filter_le _ _) (by rw [Uc];omega)
  have hnext:bN (l.take (i+1))=s++bN [l[i]]:=by rw [aW hi,xQ,h1]
  rw [iB.eq_2,cu V,ct];simp only [aL hi,bs,sb];unfold pk;cases hb:bm l[i]
  ·simp only [cf];rw [r64 V V];exact go s (by rw [hnext];simp [bN,hb])
  simp only [ct];rw [rF (by simp;omega),r64 V V];exact go (s++ [l[i].N]) (by rw [hnext];simp [bN,hb])
 rintro k s h1;show Sat (iB N l (k+1) s _) _;rw [iB.eq_2,cn V,cf];exact ax (by simpa using h1)
theorem zn (N:Nat)(hN:6500<N){m:TM}{roots:List Ty}(hs:Small m roots)(hw:W64 m){all:List Int}(ht:Tq m all)(k:Nat)(hk:k<=all.length):
  Sat (ln N m all (k:Int)) fun r=>Tq m r/\Thr (DZ N m) all k r:=by
 unfold ln;refine oT (fun f (s:List Int×Nat)=>oF N m f s.1 (s.2:Int)) (fun s=>1300 - s.2) (fun s=>Tq m s.1/\s.2<=s.1.length/\ ∀r,Thr (DZ N m) s.1 s.2 r->Thr (DZ N m) all k r) _ ?_ N (all,k) (by show 1300 - k<N;omega) ⟨ht,hk,fun _ h=>h⟩;rintro f ⟨al,j⟩ ⟨h1,h3,h4⟩ go;show Sat (oF N m (f+1) al (j:Int)) _;simp only at h1 h3 h4;have hlen:=h1.len hs;rw [oF.eq_2];by_cases hj:j<al.length
 ·have hx:=Uh hj;have hsm:=hs.at_ al[j];obtain ⟨a1,a2⟩:=GE hs hw al[j];rw [cu V,ct,aL hj,bs,Mu N m _ (h1.in64 hs hx),bs,JY N V _ V V,bs,CI N hN hs _ a1 a2 h1,bs,r64 V V]
  have hge:al.length<=(dB (aJ m) al (co (bw m al[j]))).length:=by
   obtain ⟨t,e, -⟩:=iL (aJ m) al (co (bw m al[j]));rw [e,Ub];omega
  exact go (dB (aJ m) al (co (bw m al[j])),j+1) (by show 1300 - (j+1)<1300 - j;omega) ⟨h1.lay _,by show j+1<=(dB (aJ m) al (co (bw m al[j]))).length;omega,fun r hr=>h4 r (.step (List.getElem?_eq_getElem hj) hr)⟩
 have:j=al.length:=by omega
 subst this;rw [cn V,cf];exact ax ⟨h1,h4 _ (.done (Nat.le_refl _))⟩
theorem Hy (N:Nat)(hN:6500<N){m:TM}{roots:List Ty}(hs:Small m roots)(hw:W64 m)(hr: ∀v∈roots,in64 v.N):
  ∃b all,IsOrder (DZ N m) (bN roots) b all/\sX N m roots=some all/\((nG N roots).bind fun y5=>(rn N m ([]:List Int) y5).bind fun y8=>ln N m y8 0)=some b:=by
 have hrl:=hs.roots;have ha:=JB N hN roots V
 have h64: ∀x∈bN roots,in64 x:=fun x hx=>by
  obtain ⟨v,h1, -,rfl⟩:=lw.1 hx;exact hr v h1
 have hal:(bN roots).length<=2000:=by
  unfold bN;rw [Ud];exact Nat.le_trans (List.length_filter_le _ _) V
 have hT0:Tq m []:=⟨List.nodup_nil,by simp⟩;have hlay:=CI N hN hs (bN roots) hal h64 hT0;obtain ⟨b,b0,b1,b2⟩:=zn N hN hs hw (hT0.lay (bN roots)) 0 (Nat.zero_le _);have b0':ln N m (dB (aJ m) [] (bN roots)) 0=some b:=b0
 have key:Sat (sX N m roots) fun all=>Ord (DZ N m) b all:=by
  unfold sX;rw [ha,bs,hlay,bs,b0',bs];refine oT (fun f (s:List Int)=>jE N m f s) (fun s=>1300 - s.length) (fun s=>Tq m s/\ ∀r,Ord (DZ N m) s r->Ord (DZ N m) b r) _ ?_ N b (by show 1300 - b.length<N;omega) ⟨b1,fun _ h=>h⟩;rintro f al ⟨h4,h5⟩ go;show Sat (jE N m (f+1) al) _;have hlen:=h4.len hs;rw [jE.eq_2];refine cN (fun k i (s:List Int)=>nr N (jE N m f) al m k s (i:Int)) al.length (fun i s=>Tq m s/\(∃t,s=al++t)/\s=od (DZ N m) al (al.take i)) _ ?_ ?_ N 0 al V V ⟨h4,⟨[],by simp⟩,J⟩
  ·rintro k i s hi ⟨h0,⟨t,h1⟩,h2⟩ go2;show Sat (nr N (jE N m f) al m (k+1) s (i:Int)) _;have hsl:=h0.len hs
   have hg:aw s (i:Int)=some al[i]:=by
    rw [nv,h1,List.getElem?_append_left hi,List.getElem?_eq_getElem hi]
   have hx:=Uh hi;have hsm:=hs.at_ al[i];obtain ⟨a1,a2⟩:=Gq N hs hw al[i] s
   have hnext:od (DZ N m) al (al.take (i+1))=dB (aJ m) s (dK N (bw m al[i]) s):=by
    rw [aW hi,AT, <-h2];rfl
   rw [nr.eq_2,cu V,ct,hg,bs,Mu N m _ (h4.in64 hs hx),bs,JJ N hN s V _ V V,bs,CI N hN hs _ a1 a2 h0,bs,r64 V V];obtain ⟨t',e', -⟩:=iL (aJ m) s (dK N (bw m al[i]) s);exact go2 _ ⟨h0.lay _,⟨t++t',by rw [e',h1,TS]⟩,hnext.symm⟩
  rintro k s ⟨h0,⟨t,h1⟩,h2⟩;show Sat (nr N (jE N m f) al m (k+1) s _) _;have hsl:=h0.len hs;simp only [Ue] at h2;rw [nr.eq_2,cn V,cf];unfold ym
  refine dO (fun he=> ?_) fun hne=> ?_
  ·have h6:t=[]:=List.eq_nil_of_length_eq_zero (by rw [h1,Ub] at he;omega)
   have h7:s=al:=by rw [h1,h6,List.append_nil]
   exact ax (by rw [h7] at h2⊢;exact h5 _ (.done h2.symm))
  have hle:al.length<=s.length:=by rw [h1,Ub];omega
  refine Sat.bind (zn N hN hs hw h0 al.length hle) fun r ⟨r1,r2⟩=> ?_
  obtain ⟨t3,e3⟩:=r2.app;have a6:=r1.len hs;refine go r ?_ ⟨r1,fun r' hr'=>h5 r' (.step ?_ (by rw [<-h2];exact r2) hr')⟩
  ·show 1300 - r.length<1300 - al.length
   have:s.length<=r.length:=by rw [e3,Ub];omega
   omega
  rw [<-h2];intro e;rw [e] at hne;omega
 obtain ⟨all,k1,k2⟩:=key;exact ⟨b,all,⟨b2,k2⟩,k1,by rw [ha,bs,hlay,bs];exact b0'⟩
theorem Ei: ∀{s:List Int} {k:Nat} (h:k+1<s.length),((s.set (k+1) (s[k]'V)).set k s[k+1]).Perm s
 |a::b::r,0,_=>List.Perm.swap a b r
 |a::r,k+1,h=>by
  have ih:=Ei (s:=r) (k:=k) (by simpa using h);simp only [List.set_cons_succ,List.getElem_cons_succ];exact ih.cons a
def Rr (s:List Int)(i k:Nat):Prop:= ∀a b:Nat,a<b->b<=i->b≠k->s.getD a 0<=s.getD b 0
theorem z8 (s:List Int)(i j:Nat)(x:Int)(hi:i<s.length):(s.set i x).getD j 0=if j=i then x else s.getD j 0:=by
 by_cases e:j=i
 ·subst e;simp [List.getD,hi]
 rw [if_neg e];simp only [List.getD];rw [List.getElem?_set_ne (fun h=>e h.symm)]
theorem xG (s:List Int)(i:Nat)(hi:i<s.length):s.getD i 0=s[i]:=by simp [List.getD,hi]
theorem Hz (N:Nat)(hN:6500<N)(l:List Int)(hl:l.length<=2000)(hn:l.Nodup):uK N l=some (jK l):=by
 apply Sat.eq;unfold uK;rw [rF (by simp;omega),Ug]
 have fin: ∀s:List Int,s.Perm l->Rr s (l.length - 1) l.length->s=jK l:=fun s hp hi=>by
  have hlen:=hp.length_eq;have hnd:s.Nodup:=hp.nodup_iff.2 hn;refine (CE hn (List.pairwise_iff_getElem.2 fun a b ha hb hab=> ?_) fun x=>(hp.mem_iff).symm).symm;have h1:=hi a b hab V V;rw [xG s a ha,xG s b hb] at h1;have h2:=List.pairwise_iff_getElem.1 (List.nodup_iff_pairwise_ne.1 hnd) a b ha hb hab;omega
 by_cases h0:l.length=0
 ·have e:l=[]:=List.eq_nil_of_length_eq_zero h0;subst e;obtain ⟨n,rfl⟩: ∃n,N=n+1:=⟨N - 1,by omega⟩;rw [ir.eq_2,cn (by simp),cf];exact ax (by unfold jK;simp)
 refine cN (fun k i (s:List Int)=>ir N k s (i:Int)) l.length (fun i s=>s.Perm l/\Rr s (i - 1) l.length) _ ?_ ?_ N 1 l V V ⟨List.Perm.refl _,fun a b h1 h2=>absurd h2 V⟩
 ·rintro f i s hi ⟨h1,h2⟩ go;show Sat (ir N (f+1) s (i:Int)) _;have hlen:=h1.length_eq;rw [ir.eq_2,hlen,cu V,ct]
  have hi0:i<=l.length:=by omega
  refine oT (fun k (st:List Int×Nat)=>oG N (ir N f) (i:Int) k st.1 (st.2:Int)) (fun st=>st.2) (fun st=>st.1.Perm l/\st.2<=i/\Rr st.1 i st.2) _ ?_ N (s,i) (by show i<N;omega) ⟨h1,Nat.le_refl _,fun a b q1 q2 q3=>h2 a b q1 (by show b<=i - 1;simp only at q3;omega) V⟩;rintro k ⟨t,j⟩ ⟨g1,g2,g3⟩ go2;simp only at g1 g2 g3;show Sat (oG N (ir N f) (i:Int) (k+1) t (j:Int)) _;have hlt:=g1.length_eq
  have stop:(j=0\/t.getD (j - 1) 0<=t.getD j 0)->Sat (rT N (ir N f) (i:Int) t) (· =jK l):=fun hst=>by
   unfold rT;rw [r64 V V];refine go t ⟨g1,fun a b q1 q2 q3=> ?_⟩
   have q2':b<=i:=by omega
   by_cases e:b=j
   ·subst e;rcases hst with h|h
    ·omega
    by_cases e2:a=b - 1
    ·subst e2;exact h
    have:=g3 a (b - 1) V V V;omega
   exact g3 a b q1 q2' e
  rw [oG.eq_2];by_cases hj:0<j
  ·have hp:aw t ((j:Int) - 1)=some (t[j - 1]'V):=by
    have:=aL (xs:=t) (i:=j - 1) V;rw [show (((j - 1:Nat)):Int)=(j:Int) - 1 by omega] at this;exact this
   have hq:aw t (j:Int)=some (t[j]'V):=aL V;rw [cu V,ct,r64 V V,hp,bs,hq,bs,bs];by_cases hc:t[j]'V<t[j - 1]'V
   ·rw [cu hc,ct,bs,r64 (a:=(j:Int) - 1) V V,bs,bs,r64 (a:=(j:Int) - 1) V V]
    have hs2:aw (List.set t (j:Int).toNat (t[j - 1]'V)) ((j:Int) - 1)=some ((List.set t (j:Int).toNat (t[j - 1]'V))[j - 1]'(by simp;omega)):=by
     have:=aL (xs:=List.set t (j:Int).toNat (t[j - 1]'V)) (i:=j - 1) (by simp;omega);rw [show (((j - 1:Nat)):Int)=(j:Int) - 1 by omega] at this;exact this
    rw [hs2,bs,r64 (a:=(j:Int) - 1) V V,Int.toNat_natCast,show ((j:Int) - 1).toNat=j - 1 by omega,show (j:Int) - 1=((j - 1:Nat):Int) by omega];obtain ⟨q,rfl⟩: ∃q,j=q+1:=⟨j - 1,by omega⟩;simp only [Nat.add_sub_cancel] at*;refine go2 ((t.set (q+1) (t[q]'V)).set q (t[q+1]'V),q) (by show q<q+1;omega) ⟨(Ei V).trans g1,by show q<=i;omega,fun a b q1 q2 q3=> ?_⟩;have q3':b≠q:=q3;have hqa:=xG t q V;have hqb:=xG t (q+1) V;show ((t.set (q+1) (t[q]'V)).set q (t[q+1]'V)).getD a 0<=((t.set (q+1) (t[q]'V)).set q (t[q+1]'V)).getD b 0;rw [z8 _ q _ _ (by simp;omega),z8 _ q _ _ (by simp;omega),z8 t (q+1) _ _ V,z8 t (q+1) _ _ V,if_neg q3'];by_cases b1:b=q+1
    ·rw [if_pos b1];by_cases a1:a=q
     ·rw [if_pos a1];omega
     rw [if_neg a1,if_neg V, <-hqa];exact g3 a q V V V
    rw [if_neg b1];by_cases a1:a=q
    ·rw [if_pos a1, <-hqb];exact g3 (q+1) b V q2 b1
    rw [if_neg a1];by_cases a2:a=q+1
    ·rw [if_pos a2, <-hqa];exact g3 q b V q2 b1
    rw [if_neg a2];exact g3 a b q1 q2 b1
   rw [cn V,cf];refine stop (.inr ?_);rw [xG t (j - 1) V,xG t j V];omega
  rw [cn V,cf,bs,cf];exact stop (.inl V)
 rintro f s ⟨h1,h2⟩;show Sat (ir N (f+1) s _) _;rw [ir.eq_2,h1.length_eq,cn V,cf];unfold yl;exact ax (fin s h1 h2)
def lF (c:TB):List Int:=pick (fun i v=>nl c.Ui i&&bm v) 0 c.Um
theorem sL (N:Nat)(hN:2000<N)(c:TB)(hS:c.Uo.length<=1000)(hc:c.Um.length<=1000):jH N c=some (lF c):=by
 unfold jH lF;rw [xg N hN false c hS hc,bs]
 have e1:(fun (_:Nat) (v:Ty)=>(true==false)&&bm v)=fun _ _=>false:=by funext i v;rfl
 have e2:(fun (i:Nat) (v:Ty)=>(lI c.Ui i==false)&&bm v)=fun i v=>nl c.Ui i&&bm v:=by funext i v;rw [Bx];cases nl c.Ui i<;>rfl
 rw [e1,e2,Ep,Ug]
theorem nZ (c:TB):(lF c).length<=c.Um.length:=zC _ 0 c.Um
theorem F9 {c:TB}{x:Int}(h:x∈lF c): ∃v∈c.Uo++c.Um,v.N=x:=by
 obtain ⟨v,h1,h2⟩:=zB h;exact ⟨v,TU _ h1,h2⟩
def dn (m:TM)(l:List Int):Bool:=l.all (aJ m)
def Ae (N:Nat)(m:TM)(c:TB):Bool:=(eB N c).getD false&&(dn m (co c)&&dn m (lF c))
def QW (N:Nat)(m:TM)(roots:List Ty):Bool:=m.Uj.all (Ae N m)&&(m.Ul.all (Ae N m)&&dn m (bN roots))
theorem AC {m:TM}{roots:List Ty}(hs:Small m roots)(hw:W64 m){c:TB}(hc:c∈m.Uj++m.Ul):((co c).length<=1200/\ ∀x∈co c,in64 x)/\(lF c).length<=1200/\ ∀x∈lF c,in64 x:=by
 have h1:=hs.cells c hc;have h2:=kU c;have h3:=nZ c;refine ⟨⟨by omega,fun x hx=> ?_⟩,by omega,fun x hx=> ?_⟩
 ·obtain ⟨v,h4,rfl⟩:=Do hx;exact hw c hc v h4
 obtain ⟨v,h4,rfl⟩:=F9 hx;exact hw c hc v h4
structure Bnd (B:Nat) (m:TM) (roots:List Ty):Prop where
 young:m.Uj.length<=B
 old:m.Ul.length<=B
 roots:roots.length<=B
 cells: ∀c∈m.Uj++m.Ul,c.Uo.length<=B/\c.Um.length<=B
def wt:List TB->Nat
 | []=>0
 |c::l=>1+c.Uo.length+c.Um.length+wt l
theorem Ct: ∀a b:List TB,wt (a++b)=wt a+wt b
 | [],b=>by simp [wt]
 |c::a,b=>by rw [List.cons_append,wt,wt,Ct a b];omega
theorem ML {l:List TB}{i:Nat}(h:i<l.length):wt (l.take (i+1))=wt (l.take i)+(1+l[i].Uo.length+l[i].Um.length):=by
 rw [aW h,Ct];simp [wt]
def W6 (m:TM)(roots:List Ty):Prop:=roots.length+wt m.Uj+wt m.Ul<=600
structure Wtd (m:TM) (roots:List Ty):Prop where
 le:roots.length+wt m.Uj+wt m.Ul<=2900
 cnt:m.Uj.length+m.Ul.length<=600
def iN (p:Int->Bool):List Ty->List Ty
 |k::v::r=>(bif p k.N then [k,v] else [])++iN p r
 |_=> []
theorem DR (p:Int->Bool): ∀l:List Ty,(iN p l).length<=l.length
 | []=>by simp [iN]
 | [_]=>by simp [iN]
 |k::v::r=>by
  have:=DR p r;unfold iN;cases p k.N<;>simp<;>omega
theorem yZ {p:Int->Bool}{x:Ty}: ∀{l:List Ty},x∈iN p l->x∈l
 | [],h=>by simp [iN] at h
 | [_],h=>by simp [iN] at h
 | k::v::r,h=>by
  unfold iN at h;rcases List.mem_append.1 h with h|h
  ·cases hp:p k.N with
   |false=>rw [hp] at h;cases h
   |true=>rw [hp] at h;simp at h;rcases h with h|h<;>simp [h]
  have:=yZ h;simp [this]
def oY (N:Nat)(l:List Int)(c:TB):TB:=bif qx N c then ⟨c.Ui,c.Uw,c.Uv,c.Ux,c.Uo,iN (fun x=>decide (x∈l)) c.Um⟩ else c
theorem JZ (N:Nat)(hN:6500<N)(l:List Int)(hl:l.length<=5000)(y:TB)(k v:Ty)(s:List Ty)(hs:s.length<=5000):cY (fun x st=>jB N (fun x=>i7 N x l) y x st) (k,v) (none,s)=some (true,(none,s++(bif decide (k.N∈l) then [k,v] else []))):=by
 unfold cY jB i7;simp only [bs,pN N hN l hl];cases decide (k.N∈l)
 ·simp only [cf,List.append_nil];rfl
 simp only [ct];rw [rF (by simp;omega)];rfl
theorem EI (N:Nat)(hN:6500<N)(l:List Int)(hl:l.length<=5000)(y c:TB)(hc:c.Um.length<=1000)(he:c.Um.length%2=0): ∀(m i:Nat) (s:List Ty),c.Um.length<m+i->i<=c.Um.length->i%2=0->s.length<=i->ey N (cY (fun x st=>jB N (fun x=>i7 N x l) y x st)) c m (i:Int) (none,s)=some (none,s++iN (fun x=>decide (x∈l)) (c.Um.drop i))
 |0,i,s,h,h2,_,_=>by omega
 | m+1,i,s,h,h2,h3,h4=>by
  rw [ey.eq_2,r64 (a:=(i:Int)+1) V V];by_cases hi:i<c.Um.length
  ·have hi1:i+1<c.Um.length:=by omega
   have a1:aw c.Um ((i:Int)+1)=some c.Um[i+1]:=by
    have:=aL hi1;simpa using this
   rw [cu V,ct,aL hi,bs,r64 (a:=(i:Int)+1) V V,a1,bs,JZ N hN l hl y _ _ s V,bs];simp only [nt,cf];rw [r64 V V]
   have hlen:(s++(bif decide (c.Um[i].N∈l) then [c.Um[i],c.Um[i+1]] else [])).length<=i+2:=by
    cases decide (c.Um[i].N∈l)<;>simp<;>omega
   have:=EI N hN l hl y c hc he m (i+2) _ V V V hlen;simp only [Int.natCast_add,Int.cast_ofNat_Int] at this;rw [this,List.drop_eq_getElem_cons hi,List.drop_eq_getElem_cons hi1,TS];rfl
  rw [cn V,cf,List.drop_eq_nil_of_le V];simp [iN]
theorem DQ (N:Nat)(hN:6500<N)(l:List Int)(hl:l.length<=5000)(c:TB)(hS:c.Uo.length<=600)(hc:c.Um.length<=600):mE N c l=some (bif qx N c then oY N l c else Eg):=by
 obtain ⟨-,h1,h2⟩:=HU N V c V V;unfold mE vT jd oY;rw [h1,bs];cases hw:qx N c
 ·rfl
 have e:lX N c=some ():=rfl;have:=EI N hN l hl c c V (h2 hw) N 0 [] V V rfl (by simp);simp only [nt,cf,ct,e,bs,px N c ⟨hS,hc⟩];have h3:ey N (cY (fun x st=>jB N (fun x=>i7 N x l) c x st)) c N 0 (none,[])=some (none,[]++iN (fun x=>decide (x∈l)) (c.Um.drop 0)):=this;rw [h3,bs];rfl
theorem H9 (N:Nat)(l:List Int)(c:TB):(oY N l c).Uo.length=c.Uo.length/\(oY N l c).Um.length<=c.Um.length:=by
 unfold oY;cases qx N c
 ·exact ⟨J,Nat.le_refl _⟩
 exact ⟨J,DR _ _⟩
theorem H8 {N:Nat}{l:List Int}{c:TB}{v:Ty}(h:v∈(oY N l c).Uo++(oY N l c).Um):v∈c.Uo++c.Um:=by
 unfold oY at h;cases hw:qx N c
 ·rw [hw] at h;exact h
 rw [hw] at h;rcases List.mem_append.1 h with h|h
 ·exact TT _ h
 exact TU _ (yZ h)
def Dt (N:Nat)(c:TB):Bool:=decide (c.Ui=10)&&(eB N c).getD false
def OM (N:Nat)(c:TB):TB:=bif Dt N c then ⟨c.Ui,c.Uw,c.Uv,c.Ux,c.Uo,c.Um.take 1⟩ else c
def RP (N:Nat)(m:TM):TM:=⟨m.Uj.map (OM N),m.Ul.map (OM N)⟩
theorem uW {m:TM}{roots:List Ty}(hs:Small m roots){x:Int}(h:aJ m x=true):in64 x:=by
 have h2:=qb h;have h3:=xF hs h;unfold in64;omega
def lE:Ty:=⟨0,0,⟨#[]⟩⟩
def eE (l:List Int):List Ty->List Ty
 |t::h::k::s::r=>(bif decide (t.N∈l) then [t,h,(bif decide (k.Ui=7)&& !decide (k.N∈l) then lE else k),s] else [])++eE l r
 |_=> []
def mT (l:List Int)(cb:Ty):List Ty->List Ty
 |t::h::_::s::r=>(bif decide (t.N∈l) then [] else [cb,h,s])++mT l cb r
 |_=> []
theorem uU (l:List Int)(t h k s:Ty)(r:List Ty):eE l (t::h::k::s::r)=(bif decide (t.N∈l) then [t,h,(bif decide (k.Ui=7)&& !decide (k.N∈l) then lE else k),s] else [])++eE l r:=Eq.trans rfl rfl
theorem Hq (l:List Int)(cb t h k s:Ty)(r:List Ty):mT l cb (t::h::k::s::r)=(bif decide (t.N∈l) then [] else [cb,h,s])++mT l cb r:=Eq.trans rfl rfl
theorem xb (p:Int->Bool)(k v:Ty)(r:List Ty):iN p (k::v::r)=(bif p k.N then [k,v] else [])++iN p r:=Eq.trans rfl rfl
theorem Lw (l:List Int)(cb:Ty): ∀xs:List Ty,(eE l xs).length+(mT l cb xs).length<=xs.length
 | []=>by simp [eE,mT]
 | [_]=>by simp [eE,mT]
 | [_,_]=>by simp [eE,mT]
 | [_,_,_]=>by simp [eE,mT]
 |t::h::k::s::r=>by
  have:=Lw l cb r;unfold eE mT;cases decide (t.N∈l)<;>simp<;>omega
def xc (l:List Int)(c:TB):TB×List Ty:=(⟨c.Ui,c.Uw,c.Uv,c.Ux,c.Uo,c.Um.take 1++eE l (c.Um.drop 1)⟩,mT l (c.Um.headD lE) (c.Um.drop 1))
theorem four {l:List Ty}(h:4<=l.length): ∃t a k s r,l=t::a::k::s::r:=by
 match l,h with
 |t::a::k::s::r,_=>exact ⟨t,a,k,s,r,rfl⟩
theorem GP (N:Nat)(hN:6500<N)(l:List Int)(p:List (Int×Bool))(hp: ∀x,(lk p x).getD false=decide (x∈l))(c y:TB)(cb:Ty)(hcb:c.Um[0]? =some cb)(hc:c.Um.length<=1000): ∀(m i:Nat) (o t:List Ty),c.Um.length<m+i->i<=c.Um.length->(c.Um.length - i)%4=0->o.length<=i->t.length<=i->gq N (cY (fun x st=>fO N c p y x st)) c m (i:Int) (none,(o,t))=some (none,(o++eE l (c.Um.drop i),t++mT l cb (c.Um.drop i)))
 |0,i,o,t,h,h2,_,_,_=>by omega
 | m +1,i,o,t,h,h2,h3,h4,h5=>by
  rw [gq.eq_2,r64 (a:=(i:Int)+4) V V];by_cases hi:i+4<=c.Um.length
  ·obtain ⟨v1,v2,v3,v4,r,hd⟩:=four (l:=c.Um.drop i) (by rw [List.length_drop];omega)
   have hd4:c.Um.drop (i+4)=r:=by rw [<-List.drop_drop,hd];rfl
   have hx:(c.Um.drop (i:Int).toNat).take (((i:Int)+4).toNat - (i:Int).toNat)=[v1,v2,v3,v4]:=by
    rw [Int.toNat_natCast,show ((i:Int)+4).toNat - i=4 by omega,hd];rfl
   have h0:aw c.Um 0=some cb:=by
    have:=nv c.Um 0;rw [hcb] at this;exact this
   have e0:aw [v1,v2,v3,v4] 0=some v1:=rfl;have e1:aw [v1,v2,v3,v4] 1=some v2:=rfl;have e2:aw [v1,v2,v3,v4] 2=some v3:=rfl;have e3:aw [v1,v2,v3,v4] 3=some v4:=rfl;rw [Lu V,ct,r64 V V,r64 V V,dE ⟨by omega,by omega,by omega,by omega⟩,hx]
   have hb:cY (fun x st=>fO N c p y x st) ((i:Int),[v1,v2,v3,v4]) (none,(o,t))=some (true,(none,(o++(bif decide (v1.N∈l) then [v1,v2,(bif decide (v3.Ui=7)&& !decide (v3.N∈l) then lE else v3),v4] else []),t++(bif decide (v1.N∈l) then [] else [cb,v2,v4])))):=by
    unfold cY fO;simp only [e0,e1,e2,e3,bs,hp,h0];unfold mQ;simp only [e0,e1,e2,e3,bs];cases decide (v1.N∈l)
    ·simp only [nf,ct,cf,List.append_nil];rw [rF (by simp;omega)];rfl
    simp only [nt,ct,cf,List.append_nil];rw [rF (by simp;omega),rF (by simp;omega)];cases decide (v3.Ui=7)<;>cases decide (v3.N∈l)<;>rfl
   rw [hb,bs];simp only [nt,cf];rw [r64 V V];have:=GP N hN l p hp c y cb hcb hc m (i+4) (o++(bif decide (v1.N∈l) then [v1,v2,(bif decide (v3.Ui=7)&& !decide (v3.N∈l) then lE else v3),v4] else [])) (t++(bif decide (v1.N∈l) then [] else [cb,v2,v4])) V hi V (by cases decide (v1.N∈l)<;>simp<;>omega) (by cases decide (v1.N∈l)<;>simp<;>omega);rw [show (((i+4:Nat)):Int)=(i:Int)+4 by omega] at this;rw [this,hd4,hd,TS,TS];rfl
  rw [Lv V,cf,List.drop_eq_nil_of_le V];simp [eE,mT]
theorem Nu (N:Nat)(hN:2000<N)(c:TB)(hS:c.Uo.length<=1000)(hc:c.Um.length<=1000):te N c=some (Dt N c)/\(Dt N c=true->1<=c.Um.length/\(c.Um.length - 1)%4=0):=by
 obtain ⟨b,hb,a1⟩:=AN N hN c hS hc;unfold te Dt;rw [wj N hN c hS hc,hb];refine ⟨by cases decide (c.Ui=10)<;>cases b<;>rfl,fun h=> ?_⟩;rw [Uf,decide_eq_true_eq] at h;exact (a1 h.2).2 h.1
theorem yu (N:Nat)(hN:6500<N)(l:List Int)(hl:l.length<=5000)(c:TB)(hS:c.Uo.length<=600)(hc:c.Um.length<=600):kq N c l=some (bif Dt N c then xc l c else (Eg,[])):=by
 obtain ⟨h1,h2⟩:=Nu N V c V V;unfold kq;rw [h1,bs];cases hw:Dt N c
 ·rfl
 obtain ⟨g1,g2⟩:=h2 hw;simp only [nt,cf,ct]
 have hcb:c.Um[0]? =some (c.Um.headD lE):=by
  cases hm:c.Um with
  |nil=>rw [hm] at g1;simp at g1
  |cons a r=>rfl
 apply Sat.eq;refine cN (fun k i (s:List (Int×Bool))=>iE N l c k (i:Int) s) l.length (fun i s=> ∀x,(lk s x).getD false=decide (x∈l.take i)) _ ?_ ?_ N 0 [] V V (fun x=>by simp;rfl)
 ·intro k i s hi h3 go;show Sat (iE N l c (k+1) (i:Int) s) _;rw [iE.eq_2,cu V,ct,aL hi,bs,r64 V V]
  refine go _ fun x=> ?_
  rw [GD,aW hi];by_cases e:l[i]=x
  ·rw [if_pos e,TP (by simp [e])];rfl
  rw [if_neg e,h3 x];by_cases hm:x∈l.take i
  ·rw [TP hm,TP (TT _ hm)]
  rw [TQ hm,TQ (by simp only [List.mem_append,List.mem_singleton];exact fun h=>h.elim hm fun h=>e h.symm)]
 intro k s h3;show Sat (iE N l c (k+1) _ s) _;rw [Ue] at h3;rw [iE.eq_2,cn V,cf];unfold pw tI cI pv nh
 have h0:aw c.Um 0=some (c.Um.headD lE):=by
  have:=nv c.Um 0;rw [hcb] at this;exact this
 rw [rF (by simp;omega),bs,h0,bs,bs,bs];have:=GP N hN l s h3 c ⟨c.Ui,c.Uw,c.Uv,c.Ux,[]++c.Uo,[c.Um.headD lE]⟩ _ hcb V N 1 [c.Um.headD lE] [] V g1 g2 (by simp) (by simp);have this':gq N (cY (fun x st=>fO N c s ⟨c.Ui,c.Uw,c.Uv,c.Ux,[]++c.Uo,[c.Um.headD lE]⟩ x st)) c N 1 (none,([c.Um.headD lE],[]))=_:=this;rw [this',bs];refine ax ?_
 have ht:c.Um.take 1=[c.Um.headD lE]:=by
  cases hm:c.Um with
  |nil=>rw [hm] at g1;simp at g1
  |cons a r=>rfl
 unfold xc;rw [ht];rfl
def vG (a:Int):Bool:=decide (a.tmod 2=0)
def Ea (a:Int):Bool:=decide (a.tmod 2=1)
def oI (live:List Int):List Int:=live.filter vG++live.filter Ea
theorem xH {p:Int->Bool}: ∀{l:List Int} {i:Nat} (hi:i<l.length),p l[i]=true->(l.filter p)[((l.take i).filter p).length]? =some l[i]
 |x::l,0,hi,h=>by
  simp only [List.getElem_cons_zero] at h;simp [h]
 |x::l,i+1,hi,h=>by
  simp only [List.getElem_cons_succ] at h;have ih:=xH (l:=l) (i:=i) (by simpa using hi) h;rw [List.take_succ_cons]
  cases hx:p x with
  |true=>simp only [List.filter_cons,hx,if_true,List.length_cons,List.getElem?_cons_succ,List.getElem_cons_succ];exact ih
  |false=>simp only [List.filter_cons,hx,Bool.false_eq_true,if_false,List.getElem_cons_succ];exact ih
theorem GQ {p:Int->Bool}{l:List Int}{i:Nat}(hi:i<l.length):((l.take (i+1)).filter p).length=((l.take i).filter p).length+(bif p l[i] then 1 else 0):=by
 rw [aW hi,List.filter_append,Ub];cases h:p l[i]<;>simp [h]
theorem C5 (N:Nat){σ:Type}(φ:Int×Int->σ->Option (Option Exit×σ))(live:List Int)(hl:live.length<=2000)(hN:6500<N)(kb:Int->Int->Option Exit×σ->Option (Option Exit×σ))(b:Int)(p:Int->Bool)(hp: ∀a,p a=decide (a.tmod 2=b))(p6:Int)(h6:0<=p6/\p6<=2)(n0:Nat)(hn0:n0<=2000)
  (Inv:Nat->σ->Prop) (R:Option Exit×σ->Prop)
  (hstep: ∀i (hi:i<live.length) s,p live[i]=true->Inv (n0+((live.take i).filter p).length) s->Sat (φ (((n0+((live.take i).filter p).length:Nat):Int),live[i]) s) fun r=>r.1=none/\Inv (n0+((live.take i).filter p).length+1) r.2)
  (hk: ∀s,Inv (n0+(live.filter p).length) s->Sat (kb ((n0+(live.filter p).length:Nat):Int) (p6+1) (none,s)) R) (s:σ) (hs:Inv n0 s):Sat (cR N kb (cY φ) b p6 live N (n0:Int) 0 (none,s)) R:=by
 have hfl: ∀i,((live.take i).filter p).length<=2000:=fun i=>Nat.le_trans (List.length_filter_le _ _) (by rw [Uc];omega)
 refine cN (fun k i (st:Nat×σ)=>cR N kb (cY φ) b p6 live k (st.1:Int) (i:Int) (none,st.2)) live.length (fun i st=>st.1=n0+((live.take i).filter p).length/\Inv st.1 st.2) _ ?_ ?_ N 0 (n0,s) V V ⟨by simp,hs⟩
 ·rintro k i ⟨n,st⟩ hi ⟨h1,h2⟩ go;simp only at h1 h2;have hb:=hfl i;show Sat (cR N kb (cY φ) b p6 live (k+1) (n:Int) (i:Int) (none,st)) _;have hnx:=GQ (p:=p) hi;rw [cR.eq_2,cu V,ct,aL hi,bs, <-hp];unfold kT;rw [r64 (a:=(i:Int)+1) V V];cases hq:p live[i]
  ·simp only [nf,ct];rw [hq] at hnx;have hg:=go (n,st) ⟨by show n=_;rw [hnx];exact h1,h2⟩
   first|rw [r64 (a:=(i:Int)+1) V V]|skip
   exact hg
  simp only [nt,cf];rw [hq] at hnx;obtain ⟨⟨e,s'⟩,g1,g2,g3⟩:=hstep i hi st hq (by rw [<-h1];exact h2);simp only at g2 g3;subst g2
  have hf:cY φ ((n:Int),live[i]) (none,st)=some (true,(none,s')):=by
   unfold cY;simp only;rw [h1,g1];rfl
  rw [hf,bs];simp only [nt,cf];rw [r64 (a:=(n:Int)+1) V V];have hg:=go (n+1,s') ⟨by show n+1=_;rw [hnx];show n+1=_+(_+1);omega,by show Inv (n+1) s';rw [h1];exact g3⟩
  first|rw [r64 (a:=(i:Int)+1) V V]|skip
  exact hg
 rintro k ⟨n,st⟩ ⟨h1,h2⟩;simp only [Ue] at h1 h2;show Sat (cR N kb (cY φ) b p6 live (k+1) (n:Int) _ (none,st)) _;rw [cR.eq_2,cn V,cf];unfold oO;rw [r64 V V,h1];exact hk st (by rw [<-h1];exact h2)
theorem C6 (N:Nat){σ:Type}(φ:Int×Int->σ->Option (Option Exit×σ))(live:List Int)(hl:live.length<=2000)(hN:6500<N)
  (Inv:Nat->σ->Prop) (hstep: ∀n a s,(oI live)[n]? =some a->Inv n s->Sat (φ ((n:Int),a) s) fun r=>r.1=none/\Inv (n+1) r.2) (s:σ) (hs:Inv 0 s):Sat (fL N live (cY φ) (none,s)) fun r=>r.1=none/\Inv (oI live).length r.2:=by
 obtain ⟨k,rfl⟩: ∃k,N=k+3:=⟨N - 3,by omega⟩;have hev:(live.filter vG).length<=2000:=Nat.le_trans (List.length_filter_le _ _) hl;unfold fL;rw [eX.eq_2,show ((([0,1]:List Int).length:Int))=2 from rfl,cu V,ct,show aw ([0,1]:List Int) 0=some 0 from rfl,bs];refine C5 (k+3) φ live hl V _ 0 vG (fun _=>J) 0 V 0 V Inv _ (fun i hi st hp hi2=> ?_) (fun st hst=> ?_) s hs
 ·refine hstep _ _ _ ?_ hi2;unfold oI;rw [List.getElem?_append_left]
  ·rw [Nat.zero_add];exact xH hi hp
  have:=(List.getElem?_eq_some_iff.1 (xH hi hp)).1;omega
 rw [eX.eq_2,show ((([0,1]:List Int).length:Int))=2 from rfl,cu V,ct,show aw ([0,1]:List Int) (0+1)=some 1 from rfl,bs];refine C5 (k+3) φ live hl V _ 1 Ea (fun _=>J) (0+1) V (0+(live.filter vG).length) V Inv _ (fun i hi st hp hi2=> ?_) (fun st hst=> ?_) st hst
 ·refine hstep _ _ _ ?_ hi2;unfold oI;rw [List.getElem?_append_right V,show 0+(live.filter vG).length+((live.take i).filter Ea).length - (live.filter vG).length=((live.take i).filter Ea).length by omega];exact xH hi hp
 rw [eX.eq_2,show ((([0,1]:List Int).length:Int))=2 from rfl,cn V,cf];refine ax ⟨J,?_⟩;unfold oI;rw [Ub]
 have e:0+(live.filter vG).length+(live.filter Ea).length=(live.filter vG).length+(live.filter Ea).length:=by omega
 rw [<-e];exact hst
def Rh (ha hb:Int->Bool)(A B:List Int)(v w:Ty):Bool:=
 bif !bm v|| !bm w then decide (v=w)
 else decide (v.Ui=w.Ui)&&(v.S.toList==w.S.toList)&&(bif !decide (v.N∈A)|| !decide (w.N∈B) then !decide (v.N∈A)&& !decide (w.N∈B)&&(ha v.N==hb w.N) else decide (A.idxOf v.N=B.idxOf w.N))
def Mi (ha hb:Int->Bool)(A B:List Int)(x y:List Ty):Bool:=decide (x.length=y.length)&&(x.zip y).all fun p=>Rh ha hb A B p.1 p.2
def Qo (ha hb:Int->Bool)(A B:List Int)(c d:TB):Bool:=decide (c.Ui=d.Ui)&&decide (c.Uw=d.Uw)&&decide (c.Uv=d.Uv)&&Mi ha hb A B c.Uo d.Uo&&Mi ha hb A B c.Um d.Um
def Rl (N:Nat)(a:TM)(x:List Ty)(A:List Int)(b:TM)(y:List Ty)(B:List Int):Bool:=
 decide (A.length=B.length)&&Mi (aJ a) (aJ b) A B x y&&(A.zip B).all fun p=>Qo (aJ a) (aJ b) A B (oY N A (bw a p.1)) (oY N B (bw b p.2))
def SE (kv:List (Int×Int))(l:List Int):Prop:= ∀x,lk kv x=if x∈l then some (l.idxOf x:Int) else none
structure SideOk (m:TM) (x:List Ty) (A:List Int):Prop where
 small:Small m x
 w64:W64 m
 x64: ∀v∈x,in64 v.N
 len:A.length<=1200
 nd:A.Nodup
 has: ∀a∈A,aJ m a=true
theorem J3 {v w:Ty}(h:v.Ui=w.Ui):bm v=bm w:=by unfold bm;rw [h]
def P8 (p:Int->Bool):List Ty->List Bool
 |k::_::r=>p k.N::P8 p r
 |_=> []
def bZ (c:TB):List Int:=co c++lF c
def qp (N:Nat)(c:TB):Bool:=(eB N c).getD false
theorem Kr (c:TB):(bZ c).length<=c.Uo.length+2*c.Um.length:=by
 have h1:=kU c;have h2:=nZ c;unfold bZ;rw [Ub];omega
theorem Aa: ∀l:List TB,(l.flatMap bZ).length<=2*wt l
 | []=>by simp [wt]
 |c::l=>by
  have h1:=Aa l;have h2:=Kr c;rw [List.flatMap_cons,Ub,wt];omega
theorem HP (N:Nat)(m:TM)(l:List Int)(hl:l.length<N)(a1:l.length<=6000)(h64: ∀x∈l,in64 x):bF N l (fun x=>iC N x m)=some (!dn m l):=by
 have key: ∀k i:Nat,l.length<k+i->i<=l.length->Sat (dG N (fun x=>iC N x m) l k (i:Int)) fun r=>decide (0<=r)=!(l.drop i).all (aJ m):=by
  intro k
  induction k with
  |zero=>intro i h1 h2;omega
  | succ k ih=>
   intro i h1 h2;rw [dG.eq_2];by_cases hi:i<l.length
   ·have h3:=ih (i+1) V hi;rw [show (((i+1:Nat)):Int)=(i:Int)+1 by omega] at h3;rw [cu V,ct,aL hi,bs,List.drop_eq_getElem_cons hi,List.all_cons];unfold iC;rw [uo N m _ (h64 _ (Uh _)),bs,bs,r64 V V];cases aJ m l[i]
    ·exact ax (by rw [TP V];rfl)
    exact h3
   rw [cn V,cf,List.drop_eq_nil_of_le V];exact ax J
 obtain ⟨r,h1,h2⟩:=key N 0 V V;have h1':dG N (fun x=>iC N x m) l N 0=some r:=h1;unfold bF kE;rw [h1',bs,h2];unfold dn;simp
def nj (N:Nat)(m:TM)(roots:List Ty):Int:=
 bif (m.Uj++m.Ul).all (qp N) then bif dn m ((m.Uj++m.Ul).flatMap bZ++bN roots) then 0 else 50 else 51
theorem DT (N:Nat)(hN:6500<N){m:TM}{roots:List Ty}(hs:Small m roots)(ht:Wtd m roots)(hw:W64 m)(hr: ∀v∈roots,in64 v.N):ls N m roots=some (nj N m roots):=by
 have hle:=ht.le;have h1:=hs.young;have h2:=hs.old;have h3:=hs.roots
 have a64: ∀(l:List TB),(∀c∈l,c∈m.Uj++m.Ul)-> ∀x∈l.flatMap bZ,in64 x:=fun l hl x hx=>by
  obtain ⟨c,hc,hx⟩:=List.mem_flatMap.1 hx;obtain ⟨⟨-,g1⟩, -,g2⟩:=AC hs hw (hl c hc);exact (List.mem_append.1 hx).elim (g1 x) (g2 x)
 have r64': ∀x∈bN roots,in64 x:=fun x hx=>by
  obtain ⟨v,h1, -,rfl⟩:=lw.1 hx;exact hr v h1
 have hal: ∀k,(bN (roots.take k)).length<=roots.length:=fun k=>by
  unfold bN;rw [Ud];exact Nat.le_trans (List.length_filter_le _ _) (by rw [Uc];omega)
 -- the roots
 have hroots: ∀q:List Int,q.length+roots.length<=5800->(∀x∈q,in64 x)->oQ N roots m q=some (bif dn m (q++bN roots) then 0 else 50):=by
  intro q hq a1;apply Sat.eq;unfold oQ;refine cN (fun k i (s:List Int)=>fz N roots m k s (i:Int)) roots.length (fun i s=>s=q++bN (roots.take i)) _ ?_ ?_ N 0 q V V (by simp [bN])
  ·rintro k i s hi h1 go;show Sat (fz N roots m (k+1) s (i:Int)) _
   have hnext:q++bN (roots.take (i+1))=s++bN [roots[i]]:=by rw [aW hi,xQ,h1,TS]
   have hsl:s.length<=5800:=by have:=hal i;rw [h1,Ub];omega
   rw [fz.eq_2,cu V,ct,aL hi,bs,sb,bs];unfold nI;cases hb:bm roots[i]
   ·rw [cf,r64 V V];exact go s (by rw [hnext];simp [bN,hb])
   rw [ct,rF (by simp;omega),r64 V V];exact go _ (by rw [hnext];simp [bN,hb])
  rintro k s h1;show Sat (fz N roots m (k+1) s _) _;rw [Ue] at h1
  have hsl:s.length<=5800:=by have:=hal roots.length;rw [Ue] at this;rw [h1,Ub];omega
  rw [fz.eq_2,cn V,cf];unfold qv;rw [HP N m s V V (fun x hx=>by rw [h1] at hx;exact (List.mem_append.1 hx).elim (a1 x) (r64' x)),bs, <-h1];cases dn m s<;>exact ax rfl
 -- one row
 have row: ∀(kb:List Int->Int->Option Int) (p:Int) (l:List TB) (q:List Int),in64 (p+1)->l.length<=600->wt l<=2900->(∀c∈l,c∈m.Uj++m.Ul)->q.length<=6000->lg N kb m p l roots N q 0=bif l.all (qp N) then kb (q++l.flatMap bZ) (p+1) else some 51:=by
  intro kb p l q hp hll hl a2 hq
  have key: ∀(k i:Nat),l.length<k+i->i<=l.length->lg N kb m p l roots k (q++(l.take i).flatMap bZ) (i:Int)=bif (l.drop i).all (qp N) then kb (q++l.flatMap bZ) (p+1) else some 51:=by
   intro k
   induction k with
   |zero=>intro i h1 h2;omega
   | succ k ih=>
    intro i h4 h5;have hfl:=Aa (l.take i)
    have hwt:wt (l.take i)<=wt l:=by
     have:=Ct (l.take i) (l.drop i);rw [List.take_append_drop] at this;omega
    by_cases hi:i<l.length
    ·have hm:=a2 l[i] (Uh _);have hc:=hs.cells _ hm;have hwi:=ML hi
     have hwt2:wt (l.take (i+1))<=wt l:=by
      have:=Ct (l.take (i+1)) (l.drop (i+1));rw [List.take_append_drop] at this;omega
     obtain ⟨b,hb, -⟩:=AN N V l[i] V V
     have hrc:qp N l[i]=b:=by unfold qp;rw [hb];rfl
     have e1:=kU l[i];have e2:=nZ l[i];have h6:=ih (i+1) V hi;rw [show (((i+1:Nat)):Int)=(i:Int)+1 by omega] at h6;rw [lg.eq_2,cu V,ct,aL hi,bs,wj N V _ V V,hb,bs,nT N V _ V V,bs,Ub,rF V,sL N V _ V V,bs,Ub,Ub,rF V,r64 V V]
     have hap:q++(l.take i).flatMap bZ++co l[i]++lF l[i]=q++(l.take (i+1)).flatMap bZ:=by
      rw [aW hi,List.flatMap_append];simp [bZ,TS]
     rw [hap,h6,List.drop_eq_getElem_cons hi,List.all_cons,hrc];cases b<;>rfl
    have e:i=l.length:=by omega
    subst e;rw [lg.eq_2,cn V,cf,List.drop_length,Ue];unfold qw;rw [dE hp];rfl
  have:=key N 0 V V;simpa using this
 have hwy:wt m.Uj<=2900:=by omega
 have hwo:wt m.Ul<=2900:=by omega
 have hfy:=Aa m.Uj;have hfo:=Aa m.Ul;obtain ⟨k,rfl⟩: ∃k,N=k+3:=⟨N - 3,by omega⟩;unfold ls nj;rw [ms.eq_2,show ((([m.Uj,m.Ul]:List TV).length:Int))=2 from rfl,cu V,ct,show aw ([m.Uj,m.Ul]:List TV) 0=some m.Uj from rfl,bs,row _ 0 m.Uj [] (by unfold in64;omega) h1 hwy (fun c hc=>TT _ hc) (by simp)];rw [ms.eq_2,show ((([m.Uj,m.Ul]:List TV).length:Int))=2 from rfl,cu V,ct,show aw ([m.Uj,m.Ul]:List TV) (0+1)=some m.Ul from rfl,bs,Ug,row _ (0+1) m.Ul (m.Uj.flatMap bZ) (by unfold in64;omega) h2 hwo (fun c hc=>TU _ hc) V]
 rw [ms.eq_2,show ((([m.Uj,m.Ul]:List TV).length:Int))=2 from rfl,cn V,cf,hroots _ (by rw [Ub];omega) (fun x hx=>by
  rw [<-List.flatMap_append] at hx
  exact a64 _ (fun c hc=>hc) x hx),List.all_append,List.flatMap_append]
 cases m.Uj.all (qp (k+3))<;>cases m.Ul.all (qp (k+3))<;>rfl
def qX (f:List Int)(a:Int):Int:=2*((f.idxOf a:Nat):Int)+2
def cW (ρ:Int->Int)(f:List Int)(v:Ty):Ty:=bif bm v&&decide (v.N∈f) then ⟨v.Ui,ρ v.N,v.S⟩ else v
def kS (ρ:Int->Int)(f:List Int)(c:TB):TB:=⟨c.Ui,c.Uw,c.Uv,c.Ux,c.Uo.map (cW ρ f),c.Um.map (cW ρ f)⟩
def RhoM (kv:List (Int×Int))(f:List Int):Prop:= ∀x,lk kv x=if x∈f then some (qX f x) else none
theorem uO (N:Nat)(hN:6500<N)(l:List Ty)(hl:l.length<=6000)(kv:List (Int×Int))(f:List Int)(hk:RhoM kv f):eu N l kv=some (l.map (cW (qX f) f)):=by
 apply Sat.eq;unfold eu;refine cN (fun k i (s:List Ty)=>gl N l kv k s (i:Int)) l.length (fun i s=>s=(l.take i).map (cW (qX f) f)) _ ?_ ?_ N 0 [] V V J
 ·rintro k i s hi h1 go;show Sat (gl N l kv (k+1) s (i:Int)) _
  have hsl:s.length<=i:=by rw [h1,Ud,Uc];omega
  have hnext:(l.take (i+1)).map (cW (qX f) f)=s++ [cW (qX f) f l[i]]:=by rw [aW hi,List.map_append,h1];rfl
  rw [gl.eq_2,cu V,ct,aL hi,bs,hk l[i].N,sb];unfold nH;by_cases hm:l[i].N∈f
  ·rw [if_pos hm];simp only [bs,Option.isSome_some,ct];cases hb:bm l[i]
   ·rw [cf,rF (by simp;omega),r64 V V];refine go _ ?_;rw [hnext];unfold cW;rw [hb];rfl
   rw [ct,rF (by simp;omega),r64 V V];refine go _ ?_;rw [hnext];unfold cW;rw [hb,TP hm];rfl
  rw [if_neg hm];simp only [bs,Option.isSome_none,cf];rw [rF (by simp;omega),r64 V V];refine go _ ?_;rw [hnext];unfold cW;rw [TQ hm,Bool.and_false];rfl
 rintro k s h1;show Sat (gl N l kv (k+1) s _) _;rw [gl.eq_2,cn V,cf];exact ax (by rw [h1,Ue])
def lC (N:Nat)(l:List Int)(c:TB):TB:=bif decide (c.Ui=8) then oY N l c else bif decide (c.Ui=10) then (xc l c).1 else c
def iI (l:List Int)(c:TB):List Ty:=bif decide (c.Ui=10) then (xc l c).2 else []
theorem ri (N:Nat)(l:List Int)(c:TB):(lC N l c).Uo.length=c.Uo.length/\(lC N l c).Um.length+(iI l c).length<=c.Um.length:=by
 unfold lC iI;by_cases h8:c.Ui=8
 ·rw [TP h8,TQ (p:=c.Ui=10) V];have:=H9 N l c;simp only [cond_true,cond_false,List.length_nil];omega
 rw [TQ h8];by_cases h10:c.Ui=10
 ·rw [TP h10];have:=Lw l (c.Um.headD lE) (c.Um.drop 1);rw [List.length_drop] at this;unfold xc;refine ⟨J,?_⟩;show (c.Um.take 1++eE l (c.Um.drop 1)).length+(mT l (c.Um.headD lE) (c.Um.drop 1)).length<=c.Um.length;rw [Ub,Uc]
  cases hm:c.Um with
  |nil=>rw [hm] at this;simp [eE,mT]
  |cons a r=>rw [hm] at this;simp only [List.length_cons] at this⊢;omega
 rw [TQ h10];simp
theorem RhoM.nil:RhoM [] []:=fun x=>rfl
theorem RhoM.add {kv:List (Int×Int)}{i:Nat}{f:List Int}(hi:i<f.length)(h:RhoM kv (f.take i))(hn:f.Nodup):RhoM (yy kv f[i] (2*(i:Int)+2)) (f.take (i+1)):=by
 intro x
 have hlen:(f.take i).length=i:=by rw [Uc];omega
 have hni:f[i]∉f.take i:=by
  intro hm;obtain ⟨j,hj,e⟩:=List.getElem_of_mem hm;rw [Uc] at hj;rw [List.getElem_take] at e;exact List.pairwise_iff_getElem.1 (List.nodup_iff_pairwise_ne.1 hn) j i V hi V e
 rw [GD,aW hi];unfold qX;rw [List.idxOf_append];by_cases e:f[i]=x
 ·rw [if_pos e, <-e,if_pos (TU _ (by simp)),if_neg hni];simp [hlen]
 rw [if_neg e,h x];by_cases hm:x∈f.take i
 ·rw [if_pos hm,if_pos (TT _ hm),if_pos hm];rfl
 rw [if_neg hm,if_neg (by simp only [List.mem_append,List.mem_singleton];exact fun hh=>hh.elim hm fun hh=>e hh.symm)]
structure Coll where
 next:TM
 now:List Ty
 gone:List Ty
def G6 (N:Nat)(m:TM)(roots:List Ty)(live f:List Int):Coll:=
 ⟨⟨[],f.map fun a=>kS (qX f) f (lC N live (bw m a))⟩,roots.map (cW (qX f) f),(f.flatMap fun a=>iI live (bw m a)).map (cW (qX f) f)⟩
structure Mild (g:Ty->Ty):Prop where
 z:g vZ=vZ
 kind: ∀v,(g v).Ui=v.Ui
 num: ∀v,v.Ui=3->g v=v
 may: ∀v,lf v=true->lf (g v)=true
section
variable {g:Ty->Ty} (h:Mild g)
include h
theorem Mild.at_ (l:List Ty)(i:Nat):qB (l.map g) i=g (qB l i):=by
 unfold qB;simp only [List.getD,List.getElem?_map]
 cases l[i]? with
 |none=>exact h.z.symm
 |some v=>rfl
theorem Mild.numB (v:Ty)(a b:Int):Go.Proofs.YtjmonlcchlkdhaaGreat.numB (g v) a b=Go.Proofs.YtjmonlcchlkdhaaGreat.numB v a b:=by
 unfold Go.Proofs.YtjmonlcchlkdhaaGreat.numB;by_cases h3:v.Ui=3
 ·rw [h.num v h3]
 rw [h.kind,TQ h3];rfl
theorem Mild.noneB (v:Ty)(k:Int):Go.Proofs.YtjmonlcchlkdhaaGreat.noneB (g v) k=Go.Proofs.YtjmonlcchlkdhaaGreat.noneB v k:=by
 unfold Go.Proofs.YtjmonlcchlkdhaaGreat.noneB;rw [h.kind]
theorem Mild.ent2: ∀l:List Ty,qO (l.map g)=qO l
 | []=>rfl
 | [_]=>rfl
 |k::v::r=>by
  simp only [List.map_cons];simp only [nW];rw [h.kind,h.kind,Mild.ent2 r]
theorem Mild.ent4: ∀l:List Ty,mW (l.map g)=mW l
 | []=>rfl
 | [_]=>rfl
 | [_,_]=>rfl
 | [_,_,_]=>rfl
 |t::v::k::s::r=>by
  simp only [List.map_cons];simp only [nV];rw [h.kind,h.kind,h.noneB,h.numB,Mild.ent4 r]
theorem Mild.slots (k sh fl:Int)(l:List Ty):qm k sh fl (l.map g)=qm k sh fl l:=by
 unfold qm;simp only [Ud,h.at_,h.kind,h.noneB]
theorem Mild.more (k:Int)(l:List Ty):rY k (l.map g)=rY k l:=by
 unfold rY;rw [<-List.map_drop,h.ent2,h.ent4];simp only [Ud,h.at_,h.kind,h.noneB,h.numB]
theorem Mild.all {l:List Ty}(hl:l.all lf=true):(l.map g).all lf=true:=by
 rw [List.all_eq_true] at hl⊢;intro v hv;obtain ⟨w,hw,rfl⟩:=List.mem_map.1 hv;exact h.may w (hl w hw)
theorem Mild.right {c:TB}(hc:bx c=true):bx ⟨c.Ui,c.Uw,c.Uv,c.Ux,c.Uo.map g,c.Um.map g⟩=true:=by
 unfold bx at hc⊢;simp only [Uf] at hc;obtain ⟨h1,h2,h3,h4,h5⟩:=hc;simp only [h.slots,h.more,h.all h2,h.all h3,h4,h5,Bool.and_true];simp only [Uf];exact h1
end
theorem IJ {v:Ty}(hb:bm v=true):lf v=((v.S.toList==(⟨#[]⟩:ByteArray).toList)&&decide (1<=v.N)):=by
 have hk:v.Ui=7\/v.Ui=9:=by
  unfold bm at hb;rw [Bool.or_eq_true,decide_eq_true_eq,decide_eq_true_eq] at hb;exact hb
 unfold lf dp;rcases hk with hk|hk<;>rw [hk]<;>cases (v.S.toList==(⟨#[]⟩:ByteArray).toList)<;>rfl
structure Ren (ρ:Int->Int) (f:List Int):Prop where
 inj: ∀a b,a∈f->b∈f->ρ a=ρ b->a=b
 pos: ∀a∈f,1<=ρ a
theorem Lb {ρ:Int->Int}{f:List Int}(hρ:Ren ρ f):Mild (cW ρ f) where
 z:=rfl
 kind v:=by unfold cW;cases bm v&&decide (v.N∈f)<;>rfl
 num v h:=by
  have:bm v=false:=by unfold bm;rw [h];rfl
  unfold cW;rw [this];rfl
 may v h:=by
  cases hb:bm v&&decide (v.N∈f) with
  |false=>unfold cW;rw [hb];exact h
  |true=>
   have a1:=(Uf _ _▸hb:bm v=true/\decide (v.N∈f)=true);have a2:=a1.1
   have e:cW ρ f v=⟨v.Ui,ρ v.N,v.S⟩:=by unfold cW;rw [hb];rfl
   have a6:bm (⟨v.Ui,ρ v.N,v.S⟩:Ty)=true:=a2;rw [e,IJ a6];rw [IJ a2,Uf] at h;rw [Uf];exact ⟨h.1,TP (hρ.pos _ (of_decide_eq_true a1.2))⟩
theorem JQ {ρ:Int->Int}{f:List Int}(hρ:Ren ρ f){c:TB}(h:bx c=true):bx (kS ρ f c)=true:=(Lb hρ).right h
theorem wi {c:TB}(h:bx c=true):c.Uo.all lf=true/\c.Um.all lf=true/\rY c.Ui c.Um=true:=by
 unfold bx at h;simp only [Uf] at h;exact ⟨h.2.1,h.2.2.1,h.2.2.2.2⟩
theorem CJ {c:TB}(h:bx c=true){m:List Ty}(h1:m.all lf=true)(h2:rY c.Ui m=true):bx ⟨c.Ui,c.Uw,c.Uv,c.Ux,c.Uo,m⟩=true:=by
 unfold bx at h⊢;simp only [Uf] at h;obtain ⟨g1,g2,g3,g4,g5⟩:=h;simp only [g2,h1,g4,h2,Bool.and_true];simp only [Uf];exact g1
theorem DJ (p:Int->Bool): ∀{l:List Ty},qO l=true->qO (iN p l)=true
 | [],_=>rfl
 | [_],h=>by cases h
 |k::v::r,h=>by
  rw [nW] at h;rw [Uf] at h;have ih:=DJ p h.2;simp only [xb];cases p k.N
  ·exact ih
  show qO (k::v::iN p r)=true;simp only [nW];rw [h.1,ih];rfl
theorem EU (lv:List Int): ∀{l:List Ty},mW l=true->mW (eE lv l)=true
 | [],_=>rfl
 | [_],h=>by cases h
 | [_,_],h=>by cases h
 | [_,_,_],h=>by cases h
 | t::v::k::s::r,h=>by
  rw [nV] at h;rw [Uf,Uf,Uf,Uf] at h;obtain ⟨⟨⟨h1,h2⟩,h3,h4⟩,h5⟩:=h;have ih:=EU lv h5;simp only [uU];cases decide (t.N∈lv)
  ·exact ih
  show mW (t::v::(bif decide (k.Ui=7)&& !decide (k.N∈lv) then lE else k)::s::eE lv r)=true;simp only [nV]
  have h6:noneB (bif decide (k.Ui=7)&& !decide (k.N∈lv) then lE else k) 7=true:=by
   cases decide (k.Ui=7)&& !decide (k.N∈lv)
   ·exact h3
   rfl
  rw [h1,h2,h6,h4,ih];rfl
theorem Dq (lv:List Int){x:Ty}: ∀{l:List Ty},x∈eE lv l->x∈l\/x=lE
 | [],h=>by simp [eE] at h
 | [_],h=>by simp [eE] at h
 | [_,_],h=>by simp [eE] at h
 | [_,_,_],h=>by simp [eE] at h
 | t::v::k::s::r,h=>by
  simp only [uU] at h;rcases List.mem_append.1 h with h|h
  ·cases hd:decide (t.N∈lv) with
   |false=>rw [hd] at h;cases h
   |true=>
    rw [hd] at h
    cases hk:decide (k.Ui=7)&& !decide (k.N∈lv) with
    |false=>rw [hk] at h;simp at h;rcases h with h|h|h|h<;>subst h<;>simp
    |true=>rw [hk] at h;simp at h;rcases h with h|h|h|h<;>subst h<;>simp
  rcases Dq lv h with h|h
  ·exact .inl (by simp [h])
  exact .inr h
theorem Lk:lf lE=true:=by kernel_rfl
theorem Kn (N:Nat)(lv:List Int){c:TB}(h:bx c=true):bx (lC N lv c)=true:=by
 obtain ⟨h1,h2,h3⟩:=wi h;unfold lC;by_cases h8:c.Ui=8
 ·rw [o5 h8,cond_true];unfold oY;cases qx N c
  ·exact h
  refine CJ h (m:=iN (fun x=>decide (x∈lv)) c.Um) ?_ ?_
  ·rw [List.all_eq_true] at h2⊢
   exact fun v hv=>h2 v (yZ hv)
  rw [h8] at h3⊢;exact DJ _ h3
 rw [io h8,cond_false];by_cases h10:c.Ui=10
 ·rw [o5 h10,cond_true];rw [h10] at h3;have h3':(decide (1<=c.Um.length)&&decide ((qB c.Um 0).Ui=7)&&mW (c.Um.drop 1))=true:=h3;simp only [Uf,decide_eq_true_eq] at h3';obtain ⟨⟨g1,g2⟩,g3⟩:=h3';refine CJ h (m:=c.Um.take 1++eE lv (c.Um.drop 1)) ?_ ?_
  ·rw [List.all_eq_true] at h2⊢;intro v hv;rcases List.mem_append.1 hv with hv|hv
   ·exact h2 v (List.mem_of_mem_take hv)
   rcases Dq lv hv with hv|rfl
   ·exact h2 v (List.mem_of_mem_drop hv)
   exact Lk
  rw [h10];show (decide (1<=(c.Um.take 1++eE lv (c.Um.drop 1)).length)&&decide ((qB (c.Um.take 1++eE lv (c.Um.drop 1)) 0).Ui=7)&&mW ((c.Um.take 1++eE lv (c.Um.drop 1)).drop 1))=true
  obtain ⟨a,r,hr⟩: ∃a r,c.Um=a::r:=by
   cases hm:c.Um with
   |nil=>rw [hm] at g1;simp at g1
   |cons a r=>exact ⟨a,r,rfl⟩
  rw [hr] at g2 g3⊢;have e1:(a::r).take 1++eE lv ((a::r).drop 1)=a::eE lv r:=rfl;rw [e1];have g3':mW r=true:=g3;have g2':a.Ui=7:=g2;simp only [Uf,decide_eq_true_eq];exact ⟨⟨by simp,g2'⟩,EU lv g3'⟩
 rw [io h10,cond_false];exact h
end
section
open Go.RowKit
structure MapG (g g':Gr) (ρ:Int->Int) (S:Int->Prop):Prop where
 inj: ∀a b,S a->S b->ρ a=ρ b->a=b
 has: ∀a,S a->g.has a=true/\g'.has (ρ a)=true
 leads: ∀a,S a->g'.leads (ρ a)=(g.leads a).map ρ/\ ∀x∈g.leads a,S x
 opens: ∀row a,(∀x∈row,S x)->S a->g'.opens (row.map ρ) (ρ a)=(g.opens row a).map ρ/\ ∀x∈g.opens row a,S x
def bW {α:Type}(g:α->Nat):List α->Nat
 | []=>0
 |a::l=>g a+bW g l
theorem rD {α:Type}(g:α->Nat): ∀a b:List α,bW g (a++b)=bW g a+bW g b
 | [],b=>by simp [bW]
 |c::a,b=>by rw [List.cons_append,bW,bW,rD g a b];omega
theorem Jo {α:Type}(g:α->Nat){a b:List α}(h:a.Perm b):bW g a=bW g b:=by
 induction h with
 |nil=>rfl
 |cons x _ ih=>rw [bW,bW,ih]
 |swap x y l=>rw [bW,bW,bW,bW];omega
 |trans _ _ h1 h2=>rw [h1,h2]
theorem pR (g:Int->Nat): ∀{l L:List Int},l.Nodup->(∀x∈l,x∈L)->bW g l<=bW g L
 | [],_,_,_=>Nat.zero_le _
 |a::l,L,hn,hs=>by
  obtain ⟨h1,h2⟩:=List.nodup_cons.1 hn;have hp:=List.perm_cons_erase (hs a (by simp));rw [Jo g hp,bW,bW]
  have:=pR g (l:=l) (L:=L.erase a) h2 fun x hx=>(List.mem_erase_of_ne (fun e:x=a=>h1 (by rw [<-e];exact hx))).2 (hs x (by simp [hx]))
  omega
theorem oq {α β:Type}(g:β->Nat)(f:α->β): ∀l:List α,bW g (l.map f)=bW (fun x=>g (f x)) l
 | []=>rfl
 |x::l=>by rw [List.map_cons,bW,bW,oq g f l]
theorem xo {α:Type}{g h:α->Nat}: ∀{l:List α},(∀x∈l,g x<=h x)->bW g l<=bW h l
 | [],_=>Nat.le_refl _
 |x::l,hh=>by
  rw [bW,bW];have h1:=hh x (by simp)
  have h2:=xo (l:=l) fun y hy=>hh y (by simp [hy])
  omega
theorem wW {α β:Type}(f:α->List β): ∀l:List α,(l.flatMap f).length=bW (fun x=>(f x).length) l
 | []=>rfl
 |x::l=>by rw [List.flatMap_cons,Ub,bW,wW f l]
theorem CC {α:Type}(g h:α->Nat): ∀l:List α,bW (fun x=>g x+h x) l=bW g l+bW h l
 | []=>rfl
 |x::l=>by rw [bW,bW,bW,CC g h l];omega
def wC (c:TB):Nat:=1+c.Uo.length+c.Um.length
theorem uy: ∀l:List TB,wt l=bW wC l
 | []=>rfl
 |c::l=>by rw [wt,bW,uy l];rfl
def Bq (m:TM):List Int:=(List.range m.Uj.length).map (fun i:Nat=>2*(i:Int)+1)++(List.range m.Ul.length).map (fun i:Nat=>2*(i:Int)+2)
theorem qQ (m:TM)(i:Nat)(h:i<m.Uj.length):bw m (2*(i:Int)+1)=m.Uj[i]:=by
 unfold bw i3;rw [if_neg V,if_pos V,show ((2*(i:Int)+1 - 1) / 2).toNat=i by omega,List.getElem?_eq_getElem h];rfl
theorem oh (m:TM)(i:Nat)(h:i<m.Ul.length):bw m (2*(i:Int)+2)=m.Ul[i]:=by
 unfold bw i3;rw [if_neg V,if_neg V,show ((2*(i:Int)+2 - 2) / 2).toNat=i by omega,List.getElem?_eq_getElem h];rfl
theorem uX (m:TM)(i:Nat):aJ m (2*(i:Int)+1)=decide (i<m.Uj.length):=by
 unfold aJ i3;rw [if_neg V,if_pos V,show ((2*(i:Int)+1 - 1) / 2).toNat=i by omega];by_cases h:i<m.Uj.length
 ·rw [List.getElem?_eq_getElem h,TP h];rfl
 rw [List.getElem?_eq_none V,TQ h];rfl
theorem pq (m:TM)(i:Nat):aJ m (2*(i:Int)+2)=decide (i<m.Ul.length):=by
 unfold aJ i3;rw [if_neg V,if_neg V,show ((2*(i:Int)+2 - 2) / 2).toNat=i by omega];by_cases h:i<m.Ul.length
 ·rw [List.getElem?_eq_getElem h,TP h];rfl
 rw [List.getElem?_eq_none V,TQ h];rfl
theorem DW (m:TM):(Bq m).map (bw m)=m.Uj++m.Ul:=by
 unfold Bq;rw [List.map_append,List.map_map,List.map_map]
 congr 1
 ·refine List.ext_getElem (by simp) fun i h1 h2=> ?_
  simp only [List.getElem_map,List.getElem_range,Function.comp];exact qQ m i h2
 refine List.ext_getElem (by simp) fun i h1 h2=> ?_
 simp only [List.getElem_map,List.getElem_range,Function.comp];exact oh m i h2
theorem fM {m:TM}{a:Int}(h:aJ m a=true):(∃i:Nat,i<m.Uj.length/\a=2*(i:Int)+1)\/ ∃i:Nat,i<m.Ul.length/\a=2*(i:Int)+2:=by
 rcases vm m a with ⟨h1,h2⟩|⟨k,h1, -⟩|⟨k,h1, -⟩
 ·unfold aJ at h;rw [h2] at h;cases h
 ·subst h1;rw [uX] at h;exact .inl ⟨k,of_decide_eq_true h,J⟩
 subst h1;rw [pq] at h;exact .inr ⟨k,of_decide_eq_true h,J⟩
theorem uk {m:TM}{a:Int}(h:aJ m a=true):a∈Bq m:=by
 unfold Bq;rcases fM h with ⟨i,h1,rfl⟩|⟨i,h1,rfl⟩
 ·exact TT _ (List.mem_map.2 ⟨i,List.mem_range.2 h1,J⟩)
 exact TU _ (List.mem_map.2 ⟨i,List.mem_range.2 h1,J⟩)
theorem KF {m:TM}{l:List Int}(hn:l.Nodup)(hh: ∀a∈l,aJ m a=true):bW (fun a=>wC (bw m a)) l<=wt m.Uj+wt m.Ul:=by
 have h1:=pR (fun a=>wC (bw m a)) hn fun a ha=>uk (hh a ha)
 have h2:=oq wC (bw m) (Bq m);rw [DW, <-uy,Ct] at h2;omega
theorem eJ {m:TM}{a:Int}(h:aJ m a=true):bw m a∈m.Uj++m.Ul:=by
 unfold aJ at h;unfold bw
 cases hc:i3 m a with
 |none=>rw [hc] at h;cases h
 |some c=>exact sD hc
def SO:TM:=⟨[⟨11,0,0,0,[],[⟨7,2,⟨#[]⟩⟩]⟩,⟨11,0,0,0,[],[]⟩],[⟨11,0,0,0,[],[]⟩,⟨11,0,0,0,[],[]⟩]⟩
def SQ:TM:=⟨[],[⟨10,0,0,0,[⟨1,0,⟨#[]⟩⟩],[⟨7,4,⟨#[]⟩⟩,⟨7,6,⟨#[]⟩⟩,⟨7,8,⟨#[]⟩⟩,⟨0,0,⟨#[]⟩⟩,⟨3,7,⟨#[]⟩⟩]⟩,⟨11,0,0,0,[],[]⟩,⟨11,0,0,0,[],[]⟩,⟨11,0,0,0,[],[]⟩]⟩
theorem Gf {a:Int}(h:0<a):a.tmod 2=0\/a.tmod 2=1:=by
 rw [qE V];omega
theorem HQ {live:List Int}(hp: ∀a∈live,0<a)(a:Int):a∈oI live↔a∈live:=by
 unfold oI vG Ea;rw [List.mem_append,List.mem_filter,List.mem_filter,decide_eq_true_eq,decide_eq_true_eq];constructor
 ·rintro (h|h)<;>exact h.1
 intro h;rcases Gf (hp a h) with h2|h2
 ·exact .inl ⟨h,h2⟩
 exact .inr ⟨h,h2⟩
theorem De: ∀{live:List Int},(∀a∈live,0<a)->(oI live).length=live.length
 | [],_=>rfl
 | a::l,hp=>by
  have ih:=De (live:=l) fun b hb=>hp b (by simp [hb])
  unfold oI at ih⊢;rw [Ub] at ih⊢;rcases Gf (hp a (by simp)) with h|h
  ·have e1:vG a=true:=TP h;have e2:Ea a=false:=TQ V;simp only [List.filter_cons,e1,e2,if_true,Bool.false_eq_true,if_false,List.length_cons];omega
  have e1:vG a=false:=TQ V;have e2:Ea a=true:=TP h;simp only [List.filter_cons,e1,e2,if_true,Bool.false_eq_true,if_false,List.length_cons];omega
theorem JN {live:List Int}(h:live.Pairwise (· < ·)):(oI live).Pairwise fun a b=> ¬(a.tmod 2=1/\b.tmod 2=0)/\(a.tmod 2=b.tmod 2->a<b):=by
 have hev: ∀a∈live.filter vG,a.tmod 2=0:=fun a ha=>of_decide_eq_true (List.mem_filter.1 ha).2
 have hod: ∀a∈live.filter Ea,a.tmod 2=1:=fun a ha=>of_decide_eq_true (List.mem_filter.1 ha).2
 unfold oI;refine List.pairwise_append.2 ⟨(h.filter _).imp_of_mem fun {a b} ha hb hlt=>⟨fun hh=> ?_,fun _=>hlt⟩,(h.filter _).imp_of_mem fun {a b} ha hb hlt=>⟨fun hh=> ?_,fun _=>hlt⟩,fun a ha b hb=>⟨fun hh=> ?_,fun hh=> ?_⟩⟩
 ·have:=hev a ha;omega
 ·have:=hod b hb;omega
 ·have:=hev a ha;omega
 have:=hev a ha;have:=hod b hb;omega
theorem rj {α:Type}{p:α->Bool}{l:List α}(h:l.all p=true){x:α}(hx:x∈l):p x=true:=List.all_eq_true.1 h x hx
theorem E1 {N:Nat}{m:TM}{roots:List Ty}(h:nj N m roots=0):(∀c∈m.Uj++m.Ul,qp N c=true)/\(∀c∈m.Uj++m.Ul, ∀x∈bZ c,aJ m x=true)/\ ∀x∈bN roots,aJ m x=true:=by
 unfold nj at h
 cases h1:(m.Uj++m.Ul).all (qp N) with
 |false=>rw [h1] at h;cases h
 | true=>
  rw [h1] at h
  cases h2:dn m ((m.Uj++m.Ul).flatMap bZ++bN roots) with
  |false=>rw [h2] at h;cases h
  |true=>
   unfold dn at h2;refine ⟨fun c hc=>rj h1 hc,fun c hc x hx=>rj h2 (TT _ (List.mem_flatMap.2 ⟨c,hc,hx⟩)),fun x hx=>rj h2 (TU _ hx)⟩
structure Live (N:Nat) (m:TM) (roots:List Ty) (live f:List Int):Prop where
 ord: ∃b all,IsOrder (DZ N m) (bN roots) b all/\live=jK all/\f=oI live
 prog:mH N m roots=some live
 ref:CY N m roots=some live
 mem: ∀a,a∈f↔a∈live
 len:f.length=live.length
 small:live.length<=1200
 nd:f.Nodup
 asc:live.Pairwise (· < ·)
 has: ∀a∈live,aJ m a=true
theorem JO {live:List Int}(h:live.Pairwise (· < ·)):(oI live).Nodup:=by
 rw [List.nodup_iff_pairwise_ne]
 refine (JN h).imp fun {a b} hab e=> ?_
 have:=hab.2 (by rw [e]);omega
theorem Nr (N:Nat)(hN:6500<N){m:TM}{roots:List Ty}(hs:Small m roots)(hw:W64 m)(hr: ∀v∈roots,in64 v.N): ∃live f,Live N m roots live f:=by
 obtain ⟨bg,all,ho,hlen, -, -,o0⟩:=JI N hN hs hw hr;obtain ⟨b',all',ho',r0, -⟩:=Hy N hN hs hw hr;obtain ⟨-,e2⟩:=ho.det ho';subst e2;have hll:(jK all).length=all.length:=tS all;have hmem:=pe all;have hasc:=AI ho.nodup.2
 have hhas: ∀a∈jK all,aJ m a=true:=fun a ha=>ho.has.2 a ((hmem a).1 ha)
 have hpos: ∀a∈jK all,0<a:=fun a ha=>qb (hhas a ha)
 refine ⟨jK all,oI (jK all),⟨⟨_,all,ho,J,J⟩,Ns o0 V J,?_,HQ hpos,De hpos,by omega,JO hasc,hasc,hhas⟩⟩;unfold CY;rw [r0,bs,Hz N hN all V ho.nodup.2,bs]
theorem Live.fhas {N:Nat}{m:TM}{roots:List Ty}{live f:List Int}(h:Live N m roots live f){a:Int}(ha:a∈f):aJ m a=true:=h.has a ((h.mem a).1 ha)
theorem Ge {N:Nat}{m:TM}{roots:List Ty}{live f:List Int}(h:Live N m roots live f):(f.flatMap fun a=>iI live (bw m a)).length+wt (f.map fun a=>kS (qX f) f (lC N live (bw m a)))<=wt m.Uj+wt m.Ul:=by
 have h1:=KF h.nd fun a ha=>h.fhas ha
 rw [wW,uy,oq, <-CC];refine Nat.le_trans (xo fun a ha=> ?_) h1;have:=ri N live (bw m a);unfold wC kS;simp only [Ud];omega
theorem AF {N:Nat}{m:TM}{roots:List Ty}{live f:List Int}(h:Live N m roots live f)(n:Nat):((f.take n).flatMap fun a=>iI live (bw m a)).length<=wt m.Uj+wt m.Ul:=by
 have h1:=Ge h
 have h2:(f.flatMap fun a=>iI live (bw m a))=((f.take n).flatMap fun a=>iI live (bw m a))++((f.drop n).flatMap fun a=>iI live (bw m a)):=by rw [<-List.flatMap_append,List.take_append_drop]
 rw [h2,Ub] at h1;omega
def Mj (N:Nat)(m:TM)(roots:List Ty)(live f:List Int):TM×List Ty×List Ty×Int:=
 bif decide (nj N m roots=0) then ((G6 N m roots live f).next,(G6 N m roots live f).now,(G6 N m roots live f).gone,0) else (⟨[],[]⟩,[],[],nj N m roots)
theorem FX (N:Nat)(hN:6500<N){m:TM}{roots:List Ty}(hs:Small m roots)(ht:Wtd m roots)(hw:W64 m)(hr: ∀v∈roots,in64 v.N){live f:List Int}(hl:Live N m roots live f):nJ N m roots=some (Mj N m roots live f):=by
 apply Sat.eq;have hle:=ht.le;have hlen:=hl.small;have hfl:=hl.len;unfold nJ Mj;rw [DT N hN hs ht hw hr,bs];by_cases h0: ¬nj N m roots=0
 ·rw [io h0];exact ax J
 replace h0:nj N m roots=0:=by omega
 rw [o5 h0];simp only [nt,cf,ct];obtain ⟨c1,c2,c3⟩:=E1 h0;obtain ⟨_,_,_,hlv,hff⟩:=hl.ord;rw [hl.prog,bs];unfold lr;rw [bs];refine Sat.bind (C6 N (fun x st=>lQ N roots m live x st) live V hN (fun n s=>RhoM s (f.take n)) ?_ [] ?_) ?_
 ·intro n a s ha h1;rw [<-hff] at ha;have hn:=(List.getElem?_eq_some_iff.1 ha).1;rw [List.getElem?_eq_getElem hn,Option.some.injEq] at ha;unfold lQ;simp only;rw [r64 V V,r64 V V];refine ax ⟨J,?_⟩;rw [<-ha];exact h1.add hn hl.nd
 ·simpa using RhoM.nil
 rintro ⟨e,kv⟩ ⟨g1,g2⟩;simp only at g1 g2;subst g1;rw [<-hff,Ue] at g2;unfold qP;simp only [bs]
 have hG: ∀a∈f,(lC N live (bw m a)).Uo.length<=600/\(lC N live (bw m a)).Um.length<=600:=fun a ha=>by
  have h1:=ri N live (bw m a);have h2:=hs.at_ a;omega
 refine Sat.bind (C6 N (fun x st=>lP N roots m live (none,kv) x st) live V hN (fun n s=>s.1=(f.take n).map (fun a=>kS (qX f) f (lC N live (bw m a)))/\s.2=(f.take n).flatMap fun a=>iI live (bw m a)) ?_ ([],[]) ⟨by simp,by simp⟩) ?_
 ·rintro n a ⟨p,q⟩ ha ⟨h1,h2⟩;rw [<-hff] at ha;simp only at h1 h2;have hn:=(List.getElem?_eq_some_iff.1 ha).1;have ham:a∈f:=List.mem_of_getElem? ha;rw [List.getElem?_eq_getElem hn,Option.some.injEq] at ha
  have hpl:p.length<=2000:=by rw [h1,Ud,Uc];omega
  have hql:q.length<=2900:=by have:=AF hl n;rw [h2];omega
  have hq2:=AF hl (n+1);have hat:=F3 N hs a (uW hs (hl.fhas ham));have hsm:=hs.at_ a;have hrt:=c1 _ (eJ (hl.fhas ham));have hc:=hG a ham;rw [aW hn,ha,List.flatMap_append, <-h2,Ub] at hq2;simp only [List.flatMap_cons,List.flatMap_nil,List.append_nil] at hq2
  -- the last part
  have last: ∀q',q'=q++iI live (bw m a)->Sat (jw N roots m p live (none,kv) q' (lC N live (bw m a)).Ui (lC N live (bw m a)).Uw (lC N live (bw m a)).Uv (lC N live (bw m a)).Ux (lC N live (bw m a)).Uo (lC N live (bw m a)).Um) fun r=>r.1=none/\r.2.1=(f.take (n+1)).map (fun a=>kS (qX f) f (lC N live (bw m a)))/\r.2.2=(f.take (n+1)).flatMap fun a=>iI live (bw m a):=by
   intro q' hq';unfold jw;rw [uO N hN _ V kv f g2,bs,uO N hN _ V kv f g2,bs,rF (by simp;omega)];refine ax ⟨J,?_,?_⟩
   ·rw [aW hn,List.map_append, <-h1,ha];rfl
   rw [aW hn,List.flatMap_append, <-h2,ha,hq'];simp
  unfold lP;simp only;rw [hat,bs];unfold lC iI at last;unfold iI at hq2;by_cases h8:(bw m a).Ui=8
  ·have hwm:qx N (bw m a)=true:=by unfold qx;rw [TP h8];exact hrt
   rw [o5 h8,ct,DQ N hN live V _ hsm.1 hsm.2,bs,hwm,ct];rw [TP h8,TQ (p:=(bw m a).Ui=10) V] at last;simp only [cond_true,cond_false,List.append_nil] at last;exact last q J
  by_cases h10:(bw m a).Ui=10
  ·have hwm:Dt N (bw m a)=true:=by unfold Dt;rw [TP h10];exact hrt
   rw [io h8,cf,o5 h10,ct,yu N hN live V _ hsm.1 hsm.2,bs,hwm,ct];rw [TP h10] at hq2;rw [TQ h8,TP h10] at last;simp only [cond_true,cond_false] at last hq2;rw [rF V];exact last _ J
  rw [io h8,cf,io h10,cf];rw [TQ h8,TQ h10] at last;simp only [cond_true,cond_false,List.append_nil] at last;exact last q J
 rintro ⟨e,p,q⟩ ⟨g1,g3,g4⟩;simp only at g1 g3 g4;subst g1;rw [<-hff,Ue] at g3 g4;have hrl:=hs.roots
 have hql:q.length<=2900:=by have:=AF hl f.length;rw [Ue] at this;rw [g4];omega
 simp only;rw [uO N hN _ V kv f g2,bs,uO N hN _ V kv f g2,bs];refine ax ?_;unfold G6;rw [g3,g4]
theorem tG {f:List Int}{a:Int}(h:a∈f):f.idxOf a<f.length:=List.idxOf_lt_length_iff.2 h
theorem pM {f:List Int}{a:Int}(h:a∈f):f[f.idxOf a]'(tG h)=a:=List.getElem_idxOf (tG h)
theorem Iw {f:List Int}{a b:Int}(ha:a∈f)(hb:b∈f)(h:qX f a=qX f b):a=b:=by
 unfold qX at h
 have e:f.idxOf a=f.idxOf b:=by omega
 have h1:=pM ha;have h2:=pM hb;rw [<-h1, <-h2]
 congr 1
theorem Iv (f:List Int):Ren (qX f) f:=⟨fun _ _ h1 h2 h3=>Iw h1 h2 h3,fun a _=>by unfold qX;omega⟩
theorem Ck (ρ:Int->Int)(f:List Int)(v:Ty):bm (cW ρ f v)=bm v:=J3 (by unfold cW;cases bm v&&decide (v.N∈f)<;>rfl)
theorem AV {ρ:Int->Int}{f:List Int}{v:Ty}(h1:bm v=true)(h2:v.N∈f):cW ρ f v=⟨v.Ui,ρ v.N,v.S⟩:=by
 unfold cW;rw [h1,TP h2];rfl
theorem II {ρ:Int->Int}{f:List Int}{v:Ty}(h1:bm v=false):cW ρ f v=v:=by
 unfold cW;rw [h1];rfl
theorem Cj {F:Nat->Ty->Bool}: ∀{i:Nat} {l:List Ty} {j:Nat} {v:Ty},l[j]? =some v->F (i+j) v=true->v.N∈pick F i l
 |i,w::l,0,v,h,hF=>by
  simp only [List.getElem?_cons_zero,Option.some.injEq] at h;subst h;rw [oc];rw [Nat.add_zero] at hF;rw [hF];simp
 |i,w::l,j+1,v,h,hF=>by
  simp only [List.getElem?_cons_succ] at h;rw [oc];exact TU _ (Cj (i:=i+1) h (by rw [show i+1+j=i+(j+1) by omega];exact hF))
 |i,[],j,v,h,_=>by simp at h
def i5 (f:List Int)(l:List Ty):Prop:= ∀v∈l,bm v=true->v.N∈f
theorem Gj {f:List Int}{c:TB}(h: ∀x∈co c,x∈f):i5 f c.Uo:=fun v hv hb=>by
 obtain ⟨j,hj,e⟩:=List.getElem_of_mem hv;refine h _ (TT _ (Cj (j:=j) (by rw [List.getElem?_eq_getElem hj,e]) hb))
theorem Cl {f:List Int}{c:TB}(h: ∀x∈co c,x∈f){j:Nat}{v:Ty}(hj:c.Um[j]? =some v)(hw:nl c.Ui j=false)(hb:bm v=true):v.N∈f:=
 h _ (TU _ (Cj (j:=j) hj (by rw [Nat.zero_add,hw,hb];rfl)))
theorem Hm {k:Int}(h8:k≠8)(h10:k≠10)(i:Nat):nl k i=false:=by
 unfold nl;rw [io h8,io h10];rfl
theorem E0 {lv f:List Int}(hlv: ∀x,x∈lv↔x∈f): ∀{l:List Ty},qO l=true->(∀x∈opens (fun x=>decide (x∈lv)) l,x∈f)->i5 f (iN (fun x=>decide (x∈lv)) l)
 | [],_,_=>fun v hv=>by simp [iN] at hv
 | [_],h,_=>by cases h
 | k::v::r,h,ho=>by
  rw [nW] at h;rw [Uf] at h;rw [pm] at ho
  have ih:=E0 hlv h.2 fun x hx=>ho x (TU _ hx)
  intro w hw hb;simp only [xb] at hw;rcases List.mem_append.1 hw with hw|hw
  ·cases hd:decide (k.N∈lv) with
   |false=>rw [hd] at hw;cases hw
   |true=>
    rw [hd] at hw;simp only [cond_true,List.mem_cons,List.not_mem_nil,or_false] at hw;rcases hw with rfl|rfl
    ·exact (hlv _).1 (of_decide_eq_true hd)
    exact ho _ (TT _ (by rw [hb,hd];simp))
  exact ih w hw hb
theorem IM {lv f:List Int}(hlv: ∀x,x∈lv↔x∈f): ∀{l:List Ty},mW l=true->(∀j v,l[4*j+1]? =some v->bm v=true->v.N∈f)->i5 f (eE lv l)
 | [],_,_=>fun v hv=>by simp [eE] at hv
 | [_],h,_=>by cases h
 | [_,_],h,_=>by cases h
 | [_,_,_],h,_=>by cases h
 | t ::a::k::s::r,h,ho=>by
  rw [nV] at h;simp only [Uf,decide_eq_true_eq] at h;obtain ⟨⟨⟨h1, -⟩,h3,h4⟩,h5⟩:=h
  have ih:=IM hlv h5 fun j v hj hb=>ho (j+1) v (by rw [show 4*(j+1)+1=4*j+1+4 by omega];simpa using hj) hb
  intro w hw hb;simp only [uU] at hw;rcases List.mem_append.1 hw with hw|hw
  ·cases hd:decide (t.N∈lv) with
   |false=>rw [hd] at hw;cases hw
   | true=>
    rw [hd] at hw;simp only [cond_true,List.mem_cons,List.not_mem_nil,or_false] at hw;rcases hw with rfl|rfl|rfl|rfl
    ·exact (hlv _).1 (of_decide_eq_true hd)
    ·exact ho 0 w J hb
    ·cases hk:decide (k.Ui=7)&& !decide (k.N∈lv) with
     |true=>rw [hk] at hb;cases hb
     | false=>
      rw [hk] at hb;simp only [cond_false] at hb⊢
      have a1:k.Ui=7:=by
       unfold noneB at h3;rw [Bool.or_eq_true,decide_eq_true_eq,decide_eq_true_eq] at h3;rcases h3 with h3|h3
       ·unfold bm at hb;rw [h3] at hb;cases hb
       exact h3
      rw [TP a1,Bool.true_and] at hk;exact (hlv _).1 (by by_cases hm:k.N∈lv;exact hm;rw [TQ hm] at hk;cases hk)
    have:w.Ui=3:=by
     unfold numB at h4;rw [Uf,decide_eq_true_eq] at h4;exact h4.1
    unfold bm at hb;rw [this] at hb;cases hb
  exact ih w hw hb
structure CellOk (N:Nat) (lv f:List Int) (c:TB):Prop where
 big:2000<N
 right:bx c=true
 slots:c.Uo.length<=600
 more:c.Um.length<=600
 leads: ∀x∈co c,x∈f
 opens: ∀x∈dK N c lv,x∈f
 mem: ∀x,x∈lv↔x∈f
theorem HV {N:Nat}(hN:2000<N){c:TB}(h:bx c=true)(hS:c.Uo.length<=600)(hM:c.Um.length<=600):qx N c=decide (c.Ui=8):=by
 unfold qx;rw [ph N hN c V V,h];cases decide (c.Ui=8)<;>rfl
theorem HW {N:Nat}(hN:2000<N){c:TB}(h:bx c=true)(hS:c.Uo.length<=600)(hM:c.Um.length<=600):Dt N c=decide (c.Ui=10):=by
 unfold Dt;rw [ph N hN c V V,h];cases decide (c.Ui=10)<;>rfl
theorem Gl {N:Nat}(hN:2000<N){c:TB}(hS:c.Uo.length<=600)(hM:c.Um.length<=600):qp N c=bx c:=by
 unfold qp;rw [ph N hN c V V];rfl
section
variable {N:Nat} {ρ:Int->Int} {lv f:List Int} {c:TB}
theorem G8:(lC N lv c).Ui=c.Ui/\(lC N lv c).Uw=c.Uw/\(lC N lv c).Uv=c.Uv/\(lC N lv c).Uo=c.Uo:=by
 unfold lC oY;cases decide (c.Ui=8)<;>cases decide (c.Ui=10)<;>cases qx N c<;>exact ⟨rfl,rfl,rfl,rfl⟩
theorem CellOk.new (hρ:Ren ρ f)(h:CellOk N lv f c):bx (kS ρ f (lC N lv c))=true/\(kS ρ f (lC N lv c)).Uo.length<=600/\(kS ρ f (lC N lv c)).Um.length<=600/\(kS ρ f (lC N lv c)).Ui=c.Ui:=by
 have h1:=ri N lv c;have h2:=h.slots;have h3:=h.more;exact ⟨JQ hρ (Kn N lv h.right),by unfold kS;simp only [Ud];omega,by unfold kS;simp only [Ud];omega,G8.1⟩
theorem CellOk.ent2 (h:CellOk N lv f c)(h8:c.Ui=8):qO c.Um=true:=by
 have:=(wi h.right).2.2;rw [h8] at this;exact this
theorem CellOk.ent4 (h:CellOk N lv f c)(h10:c.Ui=10):1<=c.Um.length/\(qB c.Um 0).Ui=7/\mW (c.Um.drop 1)=true:=by
 have:=(wi h.right).2.2;rw [h10] at this;have h3':(decide (1<=c.Um.length)&&decide ((qB c.Um 0).Ui=7)&&mW (c.Um.drop 1))=true:=this;simp only [Uf,decide_eq_true_eq] at h3';exact ⟨h3'.1.1,h3'.1.2,h3'.2⟩
theorem CellOk.wm (h:CellOk N lv f c):qx N c=decide (c.Ui=8):=HV h.big h.right h.slots h.more
theorem CellOk.fr (h:CellOk N lv f c):Dt N c=decide (c.Ui=10):=HW h.big h.right h.slots h.more
theorem CellOk.clC8 (h:CellOk N lv f c)(h8:c.Ui=8):lC N lv c=⟨c.Ui,c.Uw,c.Uv,c.Ux,c.Uo,iN (fun x=>decide (x∈lv)) c.Um⟩:=by
 unfold lC oY;rw [h.wm,TP h8];rfl
theorem CellOk.clC10 (h10:c.Ui=10):lC N lv c=⟨c.Ui,c.Uw,c.Uv,c.Ux,c.Uo,c.Um.take 1++eE lv (c.Um.drop 1)⟩:=by
 unfold lC;rw [TQ (p:=c.Ui=8) V,TP h10];rfl
theorem CellOk.clC0 (h8:c.Ui≠8)(h10:c.Ui≠10):lC N lv c=c:=by
 unfold lC;rw [TQ h8,TQ h10];rfl
theorem CellOk.inC (h:CellOk N lv f c):i5 f (lC N lv c).Uo/\i5 f (lC N lv c).Um:=by
 refine ⟨by rw [G8.2.2.2];exact Gj h.leads,?_⟩;by_cases h8:c.Ui=8
 ·rw [h.clC8 h8];have ho:=h.opens;unfold dK at ho;rw [h.wm,TP h8,cond_true] at ho;exact E0 h.mem (h.ent2 h8) ho
 by_cases h10:c.Ui=10
 ·rw [CellOk.clC10 h10];obtain ⟨q1,q2,q3⟩:=h.ent4 h10
  obtain ⟨a,r,hr⟩: ∃a r,c.Um=a::r:=by
   cases hm:c.Um with
   |nil=>rw [hm] at q1;simp at q1
   |cons a r=>exact ⟨a,r,rfl⟩
  rw [hr] at q3;have q3':mW r=true:=q3;intro v hv hb
  have hv':v=a\/v∈eE lv r:=by
   have:v∈a::eE lv r:=by rw [hr] at hv;exact hv
   exact List.mem_cons.1 this
  rcases hv' with rfl|hv'
  ·refine Cl h.leads (j:=0) (by rw [hr];rfl) ?_ hb;unfold nl;rw [h10];rfl
  refine IM h.mem q3' (fun j w hj hw=>Cl h.leads (j:=4*j+2) (by rw [hr,show 4*j+2=(4*j+1)+1 by omega,List.getElem?_cons_succ];exact hj) ?_ hw) v hv' hb;unfold nl;rw [h10]
  have e1:(((4*j+2:Nat):Int) - 1).tmod 4=1:=by rw [Int.tmod_eq_emod_of_nonneg V];omega
  have e2:((1:Int)).tmod 2=1:=rfl;rw [e1,e2];cases decide ((0:Int)<((4*j+2:Nat):Int))<;>rfl
 rw [CellOk.clC0 h8 h10];intro v hv hb;obtain ⟨j,hj,e⟩:=List.getElem_of_mem hv;exact Cl h.leads (j:=j) (by rw [List.getElem?_eq_getElem hj,e]) (Hm h8 h10 j) hb
end
end
section
open Go.RowKit
end
end Go.Proofs.YtjmonlcchlkdhaaGreat