/- Merged texts: part 2. No conditions of their own. -/
import Derived.Test.YtjmonlcchlkdhaaGreatG1
import Derived.SizedLaws
import Derived.OpenShut
import Derived.Lib.AppendZeros
import Derived.LoopNIn
import Derived.KernelRfl
import Derived.Shelf.Small.Wraps
import Derived.Shelf.Sort.Plain
import Derived.Shelf.Slices.Turned
import Derived.Shelf.Slices.In.SortNone
import Derived.Test.YtjmonlcchlkdhaaGreatProg
import Derived.Lib.OwnBridge
import Derived.Shelf.SlIterI.Nil
import Derived.Shelf.SortM.Plain
import Derived.Shelf.SortM.SortNone
import Derived.Shelf.SlGeneric
import Derived.Ground.GgzProg
import Derived.Ground.SlgmProg
namespace Go.Proofs.YtjmonlcchlkdhaaGreat
section
noncomputable abbrev Ua:=Tryz.prog
theorem hU:type_of% Tryz.underlying3:=Tryz.underlying3
variable {A0:Option Addr} {M1:Nat}
open Go.RowKit Go.ChangeShapes Go.WideShapes Go.Deep
def Rdr {α:Type}(P:Program)(t:TypeId)(R:Rep α)(wf:α->Prop):Prop:= ∀{H:Type} {enc:TypeId×Value->H} {w:World} {base:Nat} {spare:Nat->Bool} {held:Bool} {n:Nat} {cs:List Value} {y:DataW H×List MemPlace},DataW.trod enc P w base spare held n t cs=some y-> ∃a,R.rel (fun q=>q<w.heap.size) w cs a/\wf a
theorem FI {a:Int}(h:(Lit.int .i64 a).wf=true):in64 a:=by
 have e1:IntKind.i64.min= -9223372036854775808:=rfl;have e2:IntKind.i64.max=9223372036854775807:=rfl;unfold Lit.wf at h;simp only [e1,e2,Uf,decide_eq_true_eq] at h;exact h
theorem oD {P:Program}{t:TypeId}(ht:P.underlying t=some (.int .i64)):Rdr P t (dg .i64) in64:=fun h=>by
 obtain ⟨a,r,hw⟩:=DataW.trod_int ht h;exact ⟨a,r,by first|exact FI hw|exact FI hw.1|exact FI hw.2⟩
theorem yg {α:Type}{R:Rep α}{S:Nat->Prop}{w:World}{b o:Nat}: ∀(k:Nat) (vss:List (List Value)) (xs:List α),All2 (R.rel S w) vss xs->(∀(i:Nat) (vs:List Value),vss[i]? =some vs->CellsAt w b (o+(k+i)*R.sz) vs)->CellsAt w b (o+k*R.sz) vss.flatten
 |_,_,_,.nil,_=>fun j u hj=>by simp at hj
 | k,_,_,.cons (a:=a) (l:=l) h1 h2,hc=>fun j u hj=>by
  rw [List.flatten_cons] at hj;by_cases hlt:j<a.length
  ·rw [List.getElem?_append_left hlt] at hj;have:=hc 0 a rfl j u hj;simpa using this
  rw [List.getElem?_append_right V] at hj;have h3:=yg (k+1) _ _ h2 (fun i vs hi=>by have:=hc (i+1) vs (by simpa using hi);rwa [show k+1+i=k+(i+1) by omega]);have h4:=h3 _ _ hj;rw [R.len h1] at h4 hlt;rw [show o+k*R.sz+j=o+(k+1)*R.sz+(j - R.sz) by rw [Nat.add_mul];omega];exact h4
theorem Br {α:Type}{R:List Value->α->Prop}: ∀{n:Nat} (f:_root_.Fin n->List Value) (g:_root_.Fin n->α),(∀i,R (f i) (g i))->All2 R (List.ofFn f) (List.ofFn g)
 |0,_,_,_=>by simp;exact .nil
 |n+1,f,g,h=>by rw [List.ofFn_succ,List.ofFn_succ];exact .cons (h 0) (Br _ _ fun i=>h i.succ)
theorem Ht {w:World}{L:List Chunk}{c:Chunk}(h: ∃T,SepT (L++ [D8 w]) T (fun q=>q<w.heap.size) w)(hc:c.ok (fun _=>False) (fun q=>q<w.heap.size) w): ∃T,SepT ((c::L)++ [D8 w]) T (fun q=>q<w.heap.size) w:=by
 obtain ⟨T,h⟩:=h;obtain ⟨T',h'⟩:=SepL.facts [c] h (hP hc aD);exact ⟨T',h'⟩
theorem Jp (w:World): ∃T,SepT ([]++ [D8 w]) T (fun q=>q<w.heap.size) w:=⟨fun _ _=>False,fun {i c} hi=>by
 cases i with
 |zero=>simp only [Ug,List.getElem?_cons_zero,Option.some.injEq] at hi;subst hi;exact ⟨Ext.refl w,fun _ h=>h⟩
 |succ i=>simp at hi,fun _ h=>h.elim,fun h=>h.elim,fun h=>h.elim,fun h=>h⟩
theorem FZ {P:Program}{f:FuncId}{args:List Value}{L:List Chunk}{w:World}(h:Okc P f args L fun u post=>u=.bool true/\post=[])(hs: ∃T,SepT (L++ [D8 w]) T (fun q=>q<w.heap.size) w):Calls P f args.toArray w fun e w'=>e=.returned (.bool true)/\Ext w w':=by
 obtain ⟨T,hT⟩:=hs;refine (h [D8 w] w ⟨T,_,hT⟩).mono ?_;rintro e w' ⟨u,post,rfl,h2,rfl,rfl⟩;obtain ⟨T2,S2,h3, -⟩:=SepL.get h2 (i:=0) (c:=D8 w) rfl;exact ⟨J,h3⟩
end
section
variable {A0:Option Addr} {M1:Nat}
open Go.RowKit Go.ChangeShapes Go.WideShapes Go.Deep
structure Light {H:Type} (P:Program) (t:TypeId) (d:DataW H):Prop where
 le: ∀n∈d.weights P t,n<=reachBytes
def Ks {α:Type}(P:Program)(t:TypeId)(R:Rep α)(wf:α->Prop):Prop:= ∀{H:Type} {enc:TypeId×Value->H} {w:World} {base:Nat} {spare:Nat->Bool} {held:Bool} {n:Nat} {cs:List Value} {y:DataW H×List MemPlace},DataW.trod enc P w base spare held n t cs=some y->Light P t y.1-> ∃a,R.rel (fun q=>q<w.heap.size) w cs a/\wf a
def Qp {α:Type}(wf:α->Prop)(xs:List α):Prop:=xs.length<=reachBytes/\ ∀x∈xs,wf x
theorem Rdr.w {α:Type}{P:Program}{t:TypeId}{R:Rep α}{wf:α->Prop}(h:Rdr P t R wf):Ks P t R wf:=fun h1 _=>h h1
theorem KL {P:Program}{t:TypeId}(ht:P.underlying t=some .string):Ks P t qu (fun s=>s.size<=reachBytes):=fun h hw=>by
 obtain ⟨a,r,rfl, -⟩:=DataW.trod_string ht h;refine ⟨a,r,hw.le a.size ?_⟩;show a.size∈DataW.weights P t (.lit (.string a.data.toList));unfold DataW.weights;exact List.mem_singleton.2 J
theorem vS {H:Type}{P:Program}{e:TypeId}: ∀{l:List (DataW H)} {d:DataW H},d∈l-> ∀n∈d.weights P e,n∈DataW.weightsAll P e l
 |d::l,d',h,n,hn=>by
  unfold DataW.weightsAll;rcases List.mem_cons.1 h with rfl|h
  ·exact TT _ hn
  exact TU _ (vS h n hn)
theorem i6 {H:Type}{P:Program}{t:TypeId}{fs:Array Field}(ht:P.underlying t=some (.struct fs)){xs:List (DataW H×List MemPlace)}{pl:List MemPlace}{y0:DataW H×List MemPlace}(hy:y0=(.agg (xs.map (·.1)),pl))(h:Light P t y0.1){i:Nat}{f:Field}(hf:fs[i]? =some f){y:DataW H×List MemPlace}(hx:xs[i]? =some y):Light P f.type y.1:=⟨fun n hn=>by
 subst hy;refine h.le n ?_;show n∈DataW.weights P t (.agg (xs.map (·.1)));unfold DataW.weights;rw [ht]
 exact DataW.weights_mem_each (j:=i) (t:=f.type) (d:=y.1) (by simp [hf]) (by simp [hx]) n hn⟩
theorem Iy {P:Program}{α:Type}{R:Rep α}{wf:α->Prop}{t e:TypeId}(ht:P.underlying t=some (.slice e))(hsz:P.cellsOf e=R.sz)(hpos:0<R.sz)(hb:0<P.bytesOf e)(he:Ks P e R wf):Ks P t R.sl (Qp wf):=fun {H enc w base spare held n cs y} h hw=>by
 rcases open_slice ht h with ⟨rfl, -⟩|⟨a,len,cap,m,n,D,Pl,rfl,a1,hl,hm,hmm,hy,hi⟩
 ·exact ⟨[],⟨_,J,Fj _ _ _⟩,Nat.zero_le _,fun _ h=>by cases h⟩
 have hlm:len<=m:=by rw [hmm];split<;>omega
 rw [hsz] at hi
 have hwt:((List.range len).map D).length*P.bytesOf e<=reachBytes/\ ∀i,i<len->Light P e (D i):=by
  rw [hy] at hw;have hw': ∀n∈DataW.weights P t (.slice ((List.range len).map D) ((List.range (m - len)).map fun j=>D (len+j))),n<=reachBytes:=hw.le;unfold DataW.weights at hw';rw [ht] at hw';simp only at hw';refine ⟨Nat.le_trans (Nat.mul_le_mul_right _ (Nat.le_add_right _ _)) (hw' _ (List.mem_cons_self ..)),fun i hi=>⟨fun n hn=>hw' n (List.mem_cons_of_mem _ (TT _ (vS (List.mem_map.2 ⟨i,List.mem_range.2 hi,J⟩) n hn)))⟩⟩
 rw [Ud,List.length_range] at hwt
 have key: ∀i:_root_.Fin len, ∃q:List Value×α,w.cells? base (a.add (i*R.sz)) R.sz=some q.1/\R.rel (fun q=>q<w.heap.size) w q.1 q.2/\wf q.2:=fun i=>by
  obtain ⟨cs',h1,h2⟩:=hi i V;obtain ⟨a',h3,h4⟩:=he h2 (hwt.2 i i.2);exact ⟨(cs',a'),h1,h3,h4⟩
 let f:_root_.Fin len->List Value×α:=fun i=>Classical.choose (key i)
 have hf: ∀i:_root_.Fin len,w.cells? base (a.add (i*R.sz)) R.sz=some (f i).1/\R.rel (fun q=>q<w.heap.size) w (f i).1 (f i).2/\wf (f i).2:=fun i=>Classical.choose_spec (key i)
 have hlen:(List.ofFn fun i=>(f i).2).length=len:=by simp
 unfold maxLen at hm;refine ⟨List.ofFn fun i=>(f i).2,⟨_,J,some a,cap,by rw [hlen],by rw [hlen];exact hl,hm,fun h0=> ?_⟩,?_,fun x hx=> ?_⟩
 ·rw [hlen] at h0;obtain ⟨-,a2,Pj⟩:=World.cells?_some (hf ⟨0,h0⟩).1;have hc0:=Pj 0 hpos;have hll:(f ⟨0,h0⟩).1.length=R.sz:=R.len (hf ⟨0,h0⟩).2.1;have hz:(f ⟨0,h0⟩).1[0]? =some ((f ⟨0,h0⟩).1[0]'V):=List.getElem?_eq_getElem V;rw [hz] at hc0
  have ha0:(a.add ((⟨0,h0⟩:_root_.Fin len)*R.sz)).add 0=a:=by simp [Addr.add]
  rw [ha0] at hc0;have ha:=D7 hc0;refine ⟨a.block,a.off,List.ofFn fun i=>(f i).1,by rw [<-ha],block_lt_of_cell hc0,block_lt_of_cell hc0,Br _ _ fun i=>(hf i).2.1,?_⟩
  have hall:=Br (R:=R.rel (fun q=>q<w.heap.size) w) (fun i=>(f i).1) (fun i=>(f i).2) fun i=>(hf i).2.1
  have:=yg (b:=a.block) (o:=a.off) 0 _ _ hall (fun i vs hi=>by
   have hil:i<len:=by have:=(List.getElem?_eq_some_iff.1 hi).1;simpa using this
   have hvs:vs=(f ⟨i,hil⟩).1:=by
    rw [List.getElem?_ofFn] at hi;simp [hil] at hi;exact hi.symm
   subst hvs;obtain ⟨-,a6,hat1⟩:=World.cells?_some (hf ⟨i,hil⟩).1;intro j u hu
   have hj:j<R.sz:=by rw [<-R.len (hf ⟨i,hil⟩).2.1];exact (List.getElem?_eq_some_iff.1 hu).1
   have h3:=hat1 j hj;rw [hu,ha,E7,E7] at h3;rw [Nat.zero_add]
   exact h3)
  simpa using this
 ·rw [hlen];exact Nat.le_trans (Nat.le_mul_of_pos_right _ hb) hwt.1
 obtain ⟨i,rfl⟩:=List.mem_ofFn.1 hx;exact (hf i).2.2
end
section
variable {A0:Option Addr} {M1:Nat}
open Go.RowKit
def qP {ρ:Type}(e:Option Exit)(n r:Option ρ)(x:Nat->Option ρ):Option ρ:=match e with
 |none=>n
 |some .ret=>r
 |some (.exit i)=>x i
 |some _=>none
theorem pQ {K:K3}{e:Exit}{s:bG}{L':List Chunk}(L:List Chunk)(h:L'=L)(k:K e s L):K e s L':=h▸k
theorem Ji {X:Cx}{K K':K3}{s:bG}{L:List Chunk}{c:Code}(h:Wq X c K' s L)(hk: ∀e s L,K' e s L-> ∃(ι:Type) (Q:ι->List Chunk),L=[jM Q]/\ ∀x,K e s (Q x)):Wq X c K s L:=fun H Ds a w ha hd hw=>wpIn_mono (h H Ds a w ha hd hw) fun e a' w' ⟨s',L',Ds',h1,h2,h3,h4⟩=>by
 obtain ⟨ι,Q,rfl,h5⟩:=hk _ _ _ h4;obtain ⟨x,hx⟩:=lZ h3;exact ⟨s',Q x,Ds',h1,h2,by simpa using hx,h5 x⟩
theorem ux {α σ ι ρ:Type}{X:Cx}{K:K3}{s:bG}{g:Operand}{ps:List Nat}{assign body:Code}{gf:FuncId}{caps:Array Value}{en:α->List Value}(φ:α->σ->Option (Option Exit×σ))(Q:σ->ι->List Chunk)(pre:List Chunk)(σ₀:σ)(x₀:ι){je:Option Exit}{σr:σ}{L:List Chunk}{id:Nat}{vn vr:Option ρ}{vx:Nat->Option ρ}{v:ρ}
  (hr:X.r=none) (hg:bC s g=some (.func (.func gf) #[] caps)) (hf:iP X.P gf) (hps:ps.all (fun p=>Nat.ble (p+1) X.n)=true) (hen: ∀x,(en x).length=ps.length)
  (hit: ∀l (G:(Option Exit×σ)->List Chunk),tp X.P l G en (cY φ)->Okc X.P gf (.func (.yield l) #[] #[]::caps.toList) (pre++G (none,σ₀)) fun _ post=>post=G (je,σr))
  (hL:Cv L (pre++Q σ₀ x₀)) (h:qP je vn vr vx=some v)
  (hbody: ∀l x σ₁ je' σ₂ z,φ x σ₁=some (je',σ₂)->Wq ⟨X.P,X.n,some l⟩ assign (nx (fun s1 L1=>Wq ⟨X.P,X.n,some l⟩ body (RK je' [jM (Q σ₂)]) s1 L1) fun _ _ _=>False) (An ps (en x) s) (Q σ₁ z))
  (hn: ∀z,vn=some v->bk id K .normal s (Q σr z)) (hret: ∀z,vr=some v->bk id K .ret s (Q σr z)) (hx: ∀i z,vx i=some v->bk id K (.exit i) s (Q σr z)):
  Wq X (.block id (.rangeFunc g ps.toArray assign body)) K s L:=by
 refine tq (Ji (K':=fun e s' L'=>s'=s/\L'=[jM (Q σr)]/\ ∀z,bk id K e s (Q σr z)) ?_ ?_)
 ·refine Ox φ (fun q=> [jM (Q q)]) pre σ₀ hr hg hf hps hen hit ?_ ?_ ?_ ?_
  ·exact hL.trans (su pre (gr x₀ J))
  ·intro l x σ₁ je' σ₂ hφ
   exact MD fun z=>hbody l x σ₁ je' σ₂ z hφ
  ·intro hj;rw [hj] at h;exact ⟨J,J,fun z=>hn z h⟩
  intro e he;rw [he] at h
  cases e with
  |ret=>exact ⟨rfl,rfl,rfl,fun z=>hret z h⟩
  |exit i=>exact ⟨rfl,rfl,rfl,fun z=>hx i z h⟩
  |_=>cases h
 rintro e s' L' ⟨rfl,rfl,h3⟩;exact ⟨ι,Q σr,J,h3⟩
theorem Ih {L L':List Chunk}{s:bG}(h:Cv L L'):RK (some .ret) L' .ret s L:=⟨.inr ⟨rfl,rfl⟩,h⟩
theorem Cf {L L':List Chunk}{s:bG}(h:Cv L L'):RK none L' .normal s L:=⟨.inl ⟨rfl,rfl⟩,h⟩
def t6 (P:Program)(L:List Chunk)(s:bG)(r:ResultVar)(v:Value):Prop:=match r with
 | .tmp t=>jO s t=some v
 | .cell t ty=> ∃b,jO s t=some (.pointer (some ⟨b,0,none⟩))/\ ∀Z w,Sp Z L w->(loadVar ty ⟨b,0,none⟩).run P w=.ok v w
def QN:List Value->Value
 | [v]=>v
 |vs=> .tuple vs.toArray
def CL (tm:Array Value)(r:ResultVar):Sem Value:=match r with
 | .tmp t=>pure (tm.getD t undef)
 | .cell a t=>do loadVar t (<-asAddr (tm.getD a undef))
theorem HC (fn:Func)(tm:Array Value):results fn tm=(do let vs<-fn.results.mapM (CL tm);pure (if h:vs.size=1 then vs[0] else .tuple vs)):=rfl
theorem BA {X:Cx}{s:bG}{a:Act}(ha:Fx X s a){L Z:List Chunk}{w:World}(hw:Sp Z L w): ∀{rs:List ResultVar} {vs:List Value},All2 (t6 X.P L s) rs vs->(rs.mapM (CL a.tmps)).run X.P w=.ok vs w
 |_,_,.nil=>by simp
 | r::rs,_,.cons (b:=vr) h1 h2=>by
  have ih:=BA ha hw h2
  have h3:(CL a.tmps r).run X.P w=.ok vr w:=by
   cases r with
   |tmp t=>
    have e:=ha.at_ t _ h1;unfold CL;simp only [Sem.run_pure,e]
   |cell t ty=>
    obtain ⟨b,e1,e2⟩:=h1;have e:=ha.at_ t _ e1;unfold CL;simp only [e,asAddr,Sem.run_bind,Sem.run_pure,Result.andThen_ok,e2 _ _ hw]
  rw [List.mapM_cons,Sem.run_bind,h3,Result.andThen_ok,Sem.run_bind,ih,Result.andThen_ok,Sem.run_pure]
theorem fR {X:Cx}{fn:Func}{R:Value->List Chunk->Prop}{s:bG}{L L2:List Chunk}{rs:List ResultVar}{vs:List Value}{v:Value}(hr:fn.results=rs.toArray)(h:All2 (t6 X.P L s) rs vs)(hv:QN vs=v)(hc:Cv L L2)(hR:R v L2):Kv X fn R .ret s L:=fun a ha=>⟨v,L2,fun Z w hw=>by
 have h1:=BA ha hw h;rw [HC,hr,Sem.run_bind];simp only [List.mapM_toArray]
 have h2:(List.toArray<$>rs.mapM (CL a.tmps)).run X.P w=.ok vs.toArray w:=by
  show ((rs.mapM (CL a.tmps))>>=fun l=>pure l.toArray).run X.P w=_;rw [Sem.run_bind,h1,Result.andThen_ok,Sem.run_pure]
 rw [h2,Result.andThen_ok,Sem.run_pure];subst hv
 match vs with
 | []=>rfl
 | [v]=>rfl
 |_::_::_=>simp [QN],hc,hR⟩
theorem pg {P:Program}{L:List Chunk}{s:bG}{t:Nat}{v:Value}(h:jO s t=some v):t6 P L s (.tmp t) v:=h
theorem bo {P:Program}{L:List Chunk}{s:bG}{t ty bt b:Nat}{cs:List Value}(i:Nat)(hi:L[i]? =some (ab b bt cs))(hl:jO s t=some (.pointer (some ⟨b,0,none⟩)))(hu:Ef P ty cs.length=true):t6 P L s (.cell t ty) (.agg cs.toArray):=⟨b,hl,fun Z w hw=>by
 obtain ⟨T,S, -,h⟩:=hw.get (bB hi)
 exact Ek hu h.all⟩
theorem Jw {P:Program}{t:TypeId}{a:Addr}{v:Value}{w:World}(hu:fK P t=true)(hc:w.cell? a=some v):(loadVar t a).run P w=.ok v w:=by
 have h1:(isAgg t).run P w=.ok false w:=by
  unfold fK at hu;unfold isAgg
  cases hq:P.underlying t with
  |none=>rw [hq] at hu;cases hu
  |some u=>rw [hq] at hu;rw [Sem.run_bind,run_underlying hq];cases u<;>first|rfl|(cases hu)
 simp only [loadVar,Sem.run_bind,Sem.run_pure,Result.andThen_ok,h1,Bool.false_eq_true,if_false,run_load,hc]
theorem Fo {P:Program}{L:List Chunk}{s:bG}{t ty bt b:Nat}{v:Value}(i:Nat)(hi:L[i]? =some (ab b bt [v]))(hl:jO s t=some (.pointer (some ⟨b,0,none⟩)))(hu:fK P ty=true):t6 P L s (.cell t ty) v:=⟨b,hl,fun Z w hw=>by
 obtain ⟨T,S, -,h⟩:=hw.get (bB hi)
 exact Jw hu (h.at (by simp))⟩
section
variable {P:Program} {s:bG} {L:List Chunk} {d:Option Nat} {ty:TypeId} {pos:String} {af:Array Edge} {gd:Option (Nat×Bool)}
theorem yt {sz:Nat}: ∀{vss:List (List Value)},(∀r∈vss,r.length=sz)-> ∀{k:Nat} {r:List Value},vss[k]? =some r-> ∀r':List Value,vss.flatten=vss.flatten.take (k*sz)++r++vss.flatten.drop (k*sz+sz)/\(vss.set k r').flatten=vss.flatten.take (k*sz)++r'++vss.flatten.drop (k*sz+sz)
 | [],_,k,r,h,_=>by simp at h
 |a::l,hl,0,r,h,r'=>by
  simp only [List.getElem?_cons_zero,Option.some.injEq] at h;subst h;have e:=hl a (by simp);simp [<-e]
 |a::l,hl,k+1,r,h,r'=>by
  simp only [List.getElem?_cons_succ] at h;obtain ⟨h1,h2⟩:=yt (fun x hx=>hl x (by simp [hx])) h r';have e:=hl a (by simp)
  have e1:(k+1)*sz=a.length+k*sz:=by rw [e,Nat.add_mul];omega
  have e2: ∀m:Nat,(a++l.flatten).take (a.length+m)=a++l.flatten.take m:=fun m=>by rw [List.take_append,List.take_of_length_le V,Nat.add_sub_cancel_left]
  have e3: ∀m:Nat,(a++l.flatten).drop (a.length+m)=l.flatten.drop m:=fun m=>by rw [List.drop_append,List.drop_eq_nil_of_le V,Nat.add_sub_cancel_left,Ug]
  rw [List.set_cons_succ,List.flatten_cons,List.flatten_cons,e1,h2,Nat.add_assoc,e2,e3];refine ⟨?_,by simp only [TS]⟩
  conv=>lhs;rw [h1]
  simp only [TS]
theorem KJ {α:Type}{R:Rep α}{S:Nat->Prop}{w:World}{vss:List (List Value)}{xs:List α}(h:All2 (R.rel S w) vss xs): ∀r∈vss,r.length=R.sz:=by
 induction h with
 |nil=>intro r hr;cases hr
 |cons h1 _ ih=>
  intro r hr;rcases List.mem_cons.1 hr with rfl|hr
  ·exact R.len h1
  exact ih r hr
theorem O1 (cs us:List Value)(o:Nat)(h:o+us.length<=cs.length):(ow cs.toArray o us).toList=cs.take o++us++cs.drop (o+us.length):=ID cs us o h
theorem rp {α:Type}{R:Rep α}{e:TypeId}{t:TypeId}{x y:Operand}{v u:Value}{us:List Value}{xs:List α}{k off:Nat}{z:α}(i:Nat)(hi:L[i]? =some (eK R e v xs))(hx:bC s x=some (da v k R.sz off))(hy:bC s y=some u)(hv:u.cells.toList=us)(hs:lJ P t us.length=true)(h1:us.all (·.oneCell')=true)(hk:k<xs.length)(hle:Nat.ble (off+us.length) R.sz=true)
  (hrel: ∀S w vs xk,xs[k]? =some xk->R.rel S w vs xk->Ro L S w->R.rel S w (vs.take off++us++vs.drop (off+us.length)) z):OpX P s L ⟨d,.store t x y,ty,pos,af,gd⟩ fun _ L'=>L'=L.set i (eK R e v (xs.set k z)):=fun ρ hρ Z w hw=>by
 obtain ⟨T,S,hT⟩:=hw;obtain ⟨vss,g1,g2⟩:=hT.ok (bB hi);have hle:=Nat.le_of_ble_eq_true hle;rcases g2 with ⟨g2,g3⟩|⟨h0, -⟩
 rotate_left
 ·omega
 rcases g2.2 with ⟨rfl,h0⟩|⟨g,cap,cur,rfl,q1,q2,q3,q4,q5,q6⟩
 ·omega
 obtain ⟨xk,hxk⟩: ∃xk,xs[k]? =some xk:=⟨_,List.getElem?_eq_getElem hk⟩;obtain ⟨vs,hvs,hr⟩:=g1.get hxk;have hl:=R.len hr
 have hlen:k*R.sz+R.sz<=xs.length*R.sz:=by rw [<-Nat.succ_mul];exact Nat.mul_le_mul_right _ hk
 have hcap0:cap*R.sz<=cur.size:=by
  obtain ⟨c0,h1, -,h3⟩:=q5;rw [h3];exact Nat.mul_le_mul_right _ h1
 have hcap:xs.length*R.sz<=cap*R.sz:=Nat.mul_le_mul_right _ q3
 have hx':bC s x=some (.pointer (some ⟨g,k*R.sz+off,none⟩)):=by rw [hx];simp [da]
 obtain ⟨w',e1,e2,e3⟩:=kK (P:=P) (t:=e) us w g (k*R.sz+off) 0 cur q2 V h1;have hz:=hrel S w vs xk hxk hr hT.ros.app;have hfl:=yt (KJ g1) hvs (vs.take off++us++vs.drop (off+us.length));refine .inr (.inl ⟨w',L.set i (eK R e (.slice (some ⟨g,0,none⟩) xs.length cap) (xs.set k z)),?_,?_,J⟩)
 ·unfold execOp
  have hcs:u.cells=us.toArray:=by rw [<-hv]
  simp only [hρ x _ hx',hρ y _ hy,Instr.storeAt,Instr.sureAddr,storeVar,Sem.run_bind,Sem.run_pure,Result.andThen_ok,kg hs w,hcs,List.size_toArray,ne_eq,not_true,if_false,e1]
 have hfin:SepL ((L++Z).set i (eK R e (.slice (some ⟨g,0,none⟩) xs.length cap) (xs.set k z))) w':=by
  refine hT.upd (bB hi) (T':=T i) (Agr.of_fr e2 fun q hq e=>hq (e▸g3 g J)) (fun _=> .inl) (fun q hq=>Nat.lt_of_lt_of_le (hT.lt hq) e2.size) ?_
  have hS:Agr S w w':=Agr.of_fr e2 fun q hq e=>hT.ro (g3 g rfl) (e▸hq)
  refine ⟨vss.set k (vs.take off++us++vs.drop (off+us.length)),(g1.imp fun _ _=>R.loc hS).set (R.loc hS hz) k,.inl ⟨?_,g3⟩⟩;rw [List.length_set]
  have hnew:((vss.set k (vs.take off++us++vs.drop (off+us.length))).flatten).length=xs.length*R.sz:=by
   have:=rL (R:=R) (S:=S) (w:=w) (g1.set hz k);rw [this,List.length_set]
  refine ⟨hnew,.inr ⟨g,cap,_,J,Nat.zero_le _,e3,q3,q4,by rw [Fu];exact q5,?_⟩⟩
  have hcur:cur=cur.toList.toArray:=by simp
  have hsz:k*R.sz+off+us.length<=cur.toList.length:=by simp;omega
  rw [Nat.add_zero,hcur,O1 _ _ _ hsz,hfl.2];have hF:vss.flatten=cur.toList.take (xs.length*R.sz):=q6.symm;have hFl:vss.flatten.length=xs.length*R.sz:=g2.1;apply List.ext_getElem?;intro j;have hvl:vs.length=R.sz:=hl
  have key: ∀j',j'<R.sz->vs[j']? =vss.flatten[k*R.sz+j']? :=fun j' hj'=>by
   have h5:vs[j']? =some (vs[j']'V):=List.getElem?_eq_getElem V;rw [h5];exact (ua g1 hvs h5).symm
  by_cases hj:j<xs.length*R.sz
  ·rw [List.getElem?_take,if_pos hj];by_cases c1:j<k*R.sz
   ·rw [TS,List.getElem?_append_left (by rw [Uc];simp;omega),List.getElem?_take,if_pos V,TS,List.getElem?_append_left (by rw [Uc];omega),List.getElem?_take,if_pos c1,hF,List.getElem?_take,if_pos hj]
   by_cases c2:j<k*R.sz+off
   ·rw [TS,List.getElem?_append_left (by rw [Uc];simp;omega),List.getElem?_take,if_pos c2];rw [TS,List.getElem?_append_right (by rw [Uc];omega),Uc,show min (k*R.sz) vss.flatten.length=k*R.sz by omega];rw [TS,TS,List.getElem?_append_left (by rw [Uc];omega),List.getElem?_take,if_pos V,key _ V,show k*R.sz+(j - k*R.sz)=j by omega,hF,List.getElem?_take,if_pos hj]
   by_cases c3:j<k*R.sz+off+us.length
   ·rw [TS,List.getElem?_append_right (by rw [Uc];simp;omega),Uc,show min (k*R.sz+off) cur.toList.length=k*R.sz+off by omega,List.getElem?_append_left V];rw [TS,List.getElem?_append_right (by rw [Uc];omega),Uc,show min (k*R.sz) vss.flatten.length=k*R.sz by omega];rw [TS,TS,List.getElem?_append_right (by rw [Uc];omega),Uc,show min off vs.length=off by omega,List.getElem?_append_left V]
    congr 1;omega
   rw [TS,List.getElem?_append_right (by rw [Uc];simp;omega),Uc,show min (k*R.sz+off) cur.toList.length=k*R.sz+off by omega,List.getElem?_append_right V,List.getElem?_drop];rw [TS,List.getElem?_append_right (by rw [Uc];omega),Uc,show min (k*R.sz) vss.flatten.length=k*R.sz by omega];rw [TS,TS,List.getElem?_append_right (by rw [Uc];omega),Uc,show min off vs.length=off by omega,List.getElem?_append_right V];by_cases c4:j<k*R.sz+R.sz
   ·rw [List.getElem?_append_left (by rw [List.length_drop];omega),List.getElem?_drop,key _ V,hF,List.getElem?_take,if_pos V]
    congr 1;omega
   rw [List.getElem?_append_right (by rw [List.length_drop];omega),List.length_drop,List.getElem?_drop,hF,List.getElem?_take,if_pos V]
   congr 1;omega
  rw [List.getElem?_take,if_neg hj];refine (List.getElem?_eq_none ?_).symm;rw [<-hfl.2,hnew];omega
 rw [pu Z hi] at hfin;exact hfin
theorem BD {α β:Type}{ek:α->Value}{ev:β->Value}{t kt et:TypeId}{x:Operand}{n:Int}(hx:bC s x=some (.int .i64 n))(ht:P.underlying t=some (.map kt et)):OpX P s L ⟨d,.makeMap t (some x),ty,pos,af,gd⟩ fun u L'=> ∃m,u=.map (some m)/\L'=am ek ev m ([]:List (α×β))::L:=fun ρ hρ Z w hw=>by
 refine .inl ⟨.map (some w.heap.size),w.alloc (.map #[] 0),am ek ev w.heap.size []::L,?_,SepL.new hw (Agr.of_ext ((Ext.refl w).alloc _)) fun _ S _=>⟨(· =w.heap.size),fun q hq=>by subst hq;simp,rfl, #[],0,heap_alloc_new w _,by simp,by simp,by simp⟩,_,J,J⟩;unfold execOp;simp only [Option.map_some,hρ x _ hx,Instr.makeMap,Sem.run_bind,run_underlying ht,Result.andThen_ok,asInt];rfl
theorem t8 {P:Program}{w:World}{m c:Nat}{code:BoundsCode}(h:m<=c):(Instr.sliceBound (.int .i64 (m:Int)) c code).run P w=.ok m w:=by
 unfold Instr.sliceBound;simp only [asIntOf,Sem.run_bind,Sem.run_pure,Result.andThen_ok];rw [if_pos ⟨by omega,by omega⟩];simp
theorem EP {C:World->Prop}{t e sz:Nat}{x y z:Operand}{A:Option Addr}{n c:Nat}{h m:Nat}(hx:bC s x=some (.slice A n c))(hu:P.underlying t=some (.slice e))(hs:lJ P e sz=true)(hh:bC s y=some (.int .i64 (h:Int)))(hm:bC s z=some (.int .i64 (m:Int)))(h1:h<=m)(h2:m<=c):Ev P s C ⟨d,.slice t x none (some y) (some z),ty,pos,af,gd⟩ (.slice (if m=0 then A else A.map (·.add 0)) h m):=fun ρ hρ w _=>by
 unfold execOp;simp only [Option.map_some,Option.map_none,hρ x _ hx,hρ y _ hh,hρ z _ hm,Instr.sliceAt,Instr.slice,Instr.sliceBounds,Sem.run_bind,run_underlying hu,Result.andThen_ok,t8 h2,t8 h1,kg hs w,Sem.run_pure,Nat.zero_mul];rfl
end
def mx {α:Type}(R:Rep α)(e:TypeId)(v:Value)(xs:List α)(vw:Value)(k:Nat):Chunk where
 ok T S w:= ∃vss,All2 (R.rel S w) vss xs/\((ownsX w e R.sz v xs.length vss.flatten/\ ∀q,v.ownBlock=some q->T q)\/(xs.length=0/\ ∃A,v=.slice A 0 0))/\k<=xs.length/\ ∃A cv,vw=.slice A k cv/\k<=cv/\cv<=9223372036854775807/\(0<k-> ∃b,A=some ⟨b,0,none⟩/\T b/\b<w.heap.size/\CellsAt w b 0 (vss.take k).flatten)
 loc:=fun h ⟨vss,h1,h2,h3,A,cv,h4,h7,h5,h6⟩=>⟨vss,h1.imp fun _ _=>R.loc (h.mono fun _=> .inr),h2.imp (fun ⟨h2,h3⟩=>⟨Ew h2 h fun q hq=> .inl (h3 q hq),h3⟩) id,h3,A,cv,h4,h7,h5,fun h0=>by
  obtain ⟨b,g1,g2,g3,g4⟩:=h6 h0
  exact ⟨b,g1,g2,Nat.lt_of_lt_of_le g3 h.size,g4.agr h (.inl g2) g3⟩⟩
 mono:=fun h ⟨vss,h1,h2,h3⟩=>⟨vss,h1.imp fun _ _=>R.mono h,h2,h3⟩
 ro:=false
 dup:=fun h=>Bool.noConfusion h
theorem Dy {α:Type}{R:Rep α}{e:TypeId}{v:Value}{xs:List α}{vw:Value}{k:Nat}{T S:Nat->Prop}{w:World}(h:(mx R e v xs vw k).ok T S w):(eK R e v xs).ok T S w:=by
 obtain ⟨vss,h1,h2, -⟩:=h;exact ⟨vss,h1,h2⟩
theorem G2 {α:Type}{R:Rep α}{e:TypeId}{v:Value}{xs:List α}{vw:Value}{k:Nat}:Fb R v xs (mx R e v xs vw k):=fun T S w h=>aB T S w (Dy h)
theorem DK {α:Type}{R:Rep α}{e:TypeId}{v:Value}{xs:List α}{vw:Value}{k:Nat}:Fb R vw (xs.take k) (mx R e v xs vw k):=fun T S w ⟨vss,h1,_,h3,A,cv,h4,h7,h5,h6⟩=>by
 have hl:(xs.take k).length=k:=by rw [Uc];omega
 refine ⟨A,cv,by rw [hl];exact h4,by omega,h5,fun h0=> ?_⟩;rw [hl] at h0;obtain ⟨b,g1,g2,g3,g4⟩:=h6 h0;exact ⟨b,0,vss.take k,g1,h1.take k,g4⟩
theorem Mf {α:Type}{R:Rep α}{e:TypeId}{v:Value}{xs:List α}{L:List Chunk}(i:Nat)(hi:L[i]? =some (eK R e v xs)):Cv L (L.set i (mx R e v xs (U none 0 0) 0)):=fun Z w h=>by
 have h1:=h.weak (bB hi) (d:=mx R e v xs (U none 0 0) 0) fun T S ⟨vss,h1,h2⟩=>⟨vss,h1,h2,Nat.zero_le _,none,0,rfl,Nat.le_refl _,by omega,fun h=>absurd h V⟩
 rw [pu Z hi] at h1;exact h1
theorem Km {α:Type}{R:Rep α}{e:TypeId}{v:Value}{xs:List α}{vw:Value}{k:Nat}{L:List Chunk}(i:Nat)(hi:L[i]? =some (mx R e v xs vw k)):Cv L (L.set i (eK R e v xs)):=fun Z w h=>by
 have h1:=h.weak (bB hi) (d:=eK R e v xs) fun T S h=>Dy h
 rw [pu Z hi] at h1;exact h1
section
variable {P:Program} {s:bG} {L:List Chunk} {d:Option Nat} {ty:TypeId} {pos:String} {af:Array Edge} {gd:Option (Nat×Bool)}
theorem Nc {α:Type}{R:Rep α}{t e sz:Nat}{x y z:Operand}{v vw:Value}{xs:List α}{k n:Nat}(i:Nat)(hi:L[i]? =some (mx R e v xs vw k))(hx:bC s x=some v)(hu:P.underlying t=some (.slice e))(hs:lJ P e sz=true)(hsz:R.sz=sz)(hh:bC s y=some (.int .i64 (n:Int)))(hm:bC s z=some (.int .i64 (n:Int)))(h1:n<=xs.length):OpX P s L ⟨d,.slice t x none (some y) (some z),ty,pos,af,gd⟩ fun u L'=> ∃A,u=.slice A n n/\L'=L.set i (mx R e v xs (.slice A n n) n):=fun ρ hρ Z w hw=>by
 have hw0:=hw;obtain ⟨T,S,hT⟩:=hw;obtain ⟨vss,g1,g2,g3⟩:=hT.ok (bB hi);obtain ⟨A,c,rfl,q1,q2, -⟩:=G2 _ _ _ (hT.ok (bB hi));have hrun:=EP (C:=fun _=>True) (d:=d) (ty:=ty) (pos:=pos) (af:=af) (gd:=gd) hx hu hs hh hm (Nat.le_refl _) V ρ hρ w trivial;refine .inl ⟨_,w,L.set i (mx R e (.slice A xs.length c) xs (.slice (if n=0 then A else A.map (·.add 0)) n n) n),hrun,?_,_,J,J⟩
 have hfin:SepL ((L++Z).set i (mx R e (.slice A xs.length c) xs (.slice (if n=0 then A else A.map (·.add 0)) n n) n)) w:=by
  refine hw0.weak (bB hi) fun T S ⟨vss,g1,g2,g3⟩=>⟨vss,g1,g2,h1,_,_,J,Nat.le_refl _,by omega,fun h0=> ?_⟩
  rw [if_neg V];rcases g2 with ⟨g2,g4⟩|⟨h9, -⟩
  ·rcases g2.2 with ⟨e1,h9⟩|⟨g,cap,cur,e1,p1,p2,p3,p4,p5,p6⟩
   ·omega
   injection e1 with e1 e2 e3
   subst e1;refine ⟨g,by simp [nL],g4 g rfl,Blk.lt (t:=e) (cs:=cur) p2,?_⟩;have h5:=mL (cap:=cap) p2 p6;rw [<-List.take_append_drop n vss,List.flatten_append] at h5;exact h5.left
  omega
 rw [pu Z hi] at hfin;exact hfin
theorem HL {α:Type}{R:Rep α}{x y:Operand}{t e:TypeId}{v v2 vw:Value}{k:Nat}{xs ys:List α}{c2:Chunk}{sz by_:Nat}(i j:Nat)(hi:L[i]? =some (mx R e v xs vw k))(hj:L[j]? =some c2)(he:Fb R v2 ys c2)(hx:bC s x=some v)(hy:bC s y=some v2)(ht:P.underlying t=some (.slice e))(hz:sK P e sz by_=true)(hsz:R.sz=sz)(hby:Nat.ble by_ 127=true)(hb:xs.length+ys.length<=1099511627776):OpX P s L ⟨d,.call ⟨.builtin .append, #[x,y], #[t,t]⟩,ty,pos,af,gd⟩ fun u L'=> ∃A n c,u=.slice A n c/\L'=L.set i (mx R e (.slice A n c) (xs++ys) vw k):=fun ρ hρ Z w hw=>by
 have hbuilt:=iq (P:=P) (ρ:=ρ) (d:=d) (ty:=ty) (pos:=pos) (af:=af) (gd:=gd) (b:=.append) (xs:=[x,y]) (ats:= #[t,t]) (vs:=[v,v2]) (by simp [hρ x _ hx,hρ y _ hy]) w
 have hby':=Nat.le_of_ble_eq_true hby
 unfold sK at hz
 cases hinfo:P.info? e with
 |none=>rw [hinfo] at hz;cases hz
 | some inf=>
  rw [hinfo] at hz;simp only [Uf] at hz;obtain ⟨⟨⟨q2,q3⟩,q4⟩,q5⟩:=hz
  cases hzz:inf.zero with
  |none=>rw [hzz] at q4;cases q4
  | some z=>
   rw [hzz] at q4;have e2:=Nat.eq_of_beq_eq_true q2;have e3:=Nat.eq_of_beq_eq_true q3;have e4:=Nat.eq_of_beq_eq_true q4
   have e5:0<sz:=by have h6:1<=sz:=(by simpa [Nat.blt] using q5);omega
   have hsB:lJ P e sz=true:=by unfold lJ;rw [hinfo];exact q2
   subst hsz;have hw0:=hw;obtain ⟨T,S,hT⟩:=hw;have hc2:=hT.ok (bB hj);obtain ⟨vss1,g1,g2,g3,Aw,cw,rfl,g7,g5,g6⟩:=hT.ok (bB hi);obtain ⟨A1,cap1,rfl,p1,p2,p3⟩:=G2 _ _ _ (hT.ok (bB hi));obtain ⟨A2,cap2,rfl,k2,k3,k4⟩:=he _ _ _ hc2
   have hown0:xs.length=0\/ ∃g cur,A1=some ⟨g,0,none⟩/\w.heap[g]? =some (.cells cur e (0,0))/\(∃c0,cap1<=c0/\c0<=maxLen/\cur.size=c0*R.sz)/\cur.toList.take (xs.length*R.sz)=vss1.flatten/\T i g/\cap1<=maxLen:=by
    rcases g2 with ⟨g2,g4⟩|⟨h9, -⟩
    ·rcases g2.2 with ⟨-,h9⟩|⟨g,cap,cur,e1,r1,r2,r3,r4,r5,r6⟩
     ·exact .inl h9
     injection e1 with e1 e2 e3
     subst e1 e3;exact .inr ⟨g,cur,J,r2,r5,r6,g4 g J,r4⟩
    exact .inl h9
   have hlen1:=rL g1;rcases Nat.eq_zero_or_pos ys.length with h0|h0
   ·-- nothing is appended
    have hys:ys=[]:=List.eq_nil_of_length_eq_zero h0;subst hys;refine .inl ⟨.slice A1 xs.length cap1,w,L,?_,hw0,A1,_,cap1,J,?_⟩
    ·rw [hbuilt];simp only [builtin,Sem.run_bind]
     have r1':(Builtin.append_ #[t,t] ty [Value.slice A1 xs.length cap1,.slice A2 ([]:List α).length cap2].toArray).run P w=.ok (.slice A1 xs.length cap1) w:=by
      unfold Builtin.append_;simp only [List.getElem?_toArray,List.getElem?_cons_zero,List.getElem?_cons_succ];rw [Sem.run_bind,run_underlying ht,Result.andThen_ok]
      dsimp only
      rw [Sem.run_bind,kg hsB,Result.andThen_ok];rw [Sem.run_bind,run_underlying ht,Result.andThen_ok]
      dsimp only
      rw [Sem.run_bind,Sem.run_pure,Result.andThen_ok];simp only [Bool.false_eq_true,if_false,Bool.not_false,if_true];have h1:(Builtin.lenOf (.slice A2 ([]:List α).length cap2)).run P w=.ok 0 w:=rfl;rw [Sem.run_bind,h1,Result.andThen_ok];rw [if_pos V];rw [Sem.run_bind,List.length_nil,sg _ w A2 cap2,Result.andThen_ok]
      cases A1 with
      |none=>rfl
      |some a=>simp [storeCells]
     rw [r1'];rfl
    apply List.ext_getElem?;intro q;by_cases e:i=q
    ·subst e;rw [List.getElem?_set_self (List.getElem?_eq_some_iff.1 hi).1,hi,List.append_nil]
    rw [List.getElem?_set_ne e]
   obtain ⟨b,o,vss2,rfl,k5,k6⟩:=k4 h0;have hm:(xs.length+ys.length)*by_<=140737488355328:=Nat.le_trans (Nat.mul_le_mul hb hby') (by decide);have a2:=rL k5
   have hn2: ∀j u,vss2.flatten[j]? =some u->w.cell? ((⟨b,o,none⟩:Addr).add j)=some u:=fun j u hj=>by rw [nL];exact k6 j u hj
   have hlen:(vss1.flatten++vss2.flatten).length=(xs.length+ys.length)*R.sz:=by rw [Ub,hlen1,a2,Nat.add_mul]
   have hfl:vss1.flatten++vss2.flatten=(vss1++vss2).flatten:=by rw [List.flatten_append]
   -- the new row in new memory
   have fin: ∀(v':Value) (w':World),(Builtin.append_ #[t,t] ty #[.slice A1 xs.length cap1,.slice (some ⟨b,o,none⟩) ys.length cap2]).run P w=.ok v' w'->(∃A c,v'=.slice A (xs.length+ys.length) c)->ownsX w' e R.sz v' (xs.length+ys.length) (vss1.flatten++vss2.flatten)->Agr (fun q=> ¬T i q) w w'->(∀q,v'.ownBlock=some q->T i q\/w.heap.size<=q)->(0<k-> ∀b',Aw=some ⟨b',0,none⟩->CellsAt w b' 0 (vss1.take k).flatten->CellsAt w' b' 0 (vss1.take k).flatten)->
     ∃v w' L',(execOp ρ ⟨d,.call ⟨.builtin .append, #[x,y], #[t,t]⟩,ty,pos,af,gd⟩).run P w=.ok (.value v) w'/\Sp Z L' w'/\ ∃A n c,v=.slice A n c/\L'=L.set i (mx R e (.slice A n c) (xs++ys) (.slice Aw k cw) k):=by
    rintro v' w' r1 ⟨A',c',rfl⟩ r2 r3 hnew hvw;refine ⟨_,w',L.set i (mx R e (.slice A' (xs.length+ys.length) c') (xs++ys) (.slice Aw k cw) k),?_,?_,A',_,c',J,J⟩
    ·rw [hbuilt];simp only [builtin,Sem.run_bind];have r1':(Builtin.append_ #[t,t] ty [Value.slice A1 xs.length cap1,.slice (some ⟨b,o,none⟩) ys.length cap2].toArray).run P w=.ok (.slice A' (xs.length+ys.length) c') w':=r1;rw [r1'];rfl
    have hfin:SepL ((L++Z).set i (mx R e (.slice A' (xs.length+ys.length) c') (xs++ys) (.slice Aw k cw) k)) w':=by
     refine hT.upd (bB hi) (T':=fun q=>T i q\/(Value.slice A' (xs.length+ys.length) c').ownBlock=some q) r3 (fun q hq=>hq.elim .inl (hnew q)) (fun q hq=>hq.elim (fun hq=>Nat.lt_of_lt_of_le (hT.lt hq) r3.size) fun hq=>ownsX.lt r2 q hq) ?_
     have hS:Agr S w w':=r3.mono fun q hq hn=>hT.ro hn hq
     refine ⟨vss1++vss2,(g1.imp fun _ _=>R.loc hS).append (k5.imp fun _ _=>R.loc hS),.inl ⟨by rw [List.flatten_append,Ub];exact r2,fun _ h=> .inr h⟩,by rw [Ub];omega,Aw,cw,rfl,g7,g5,fun a6=> ?_⟩;obtain ⟨b',t1,t2,t3,t4⟩:=g6 a6;refine ⟨b',t1,.inl t2,Nat.lt_of_lt_of_le t3 r3.size,?_⟩;rw [List.take_append_of_le_length (by rw [g1.length];exact g3)];exact hvw a6 b' t1 t4
    rw [pu Z hi] at hfin;exact hfin
   have grown: ∀(old:Nat),let w':=w.drew.alloc (.cells (vss1.flatten.toArray++vss2.flatten.toArray++Builtin.zeroCells z.cells (grownCap w (xs.length+ys.length) old e - (xs.length+ys.length))) e)
     w'.ownsRow 0 e R.sz (.slice (some ⟨w.heap.size,0,none⟩) (xs.length+ys.length) (grownCap w (xs.length+ys.length) old e)) (xs.length+ys.length) (vss1.flatten++vss2.flatten)/\Agr (fun _=>True) w w':=by
    intro old;have hge:=grownCap_ge w (xs.length+ys.length) old e;have hcm:grownCap w (xs.length+ys.length) old e<=maxLen:=grownCap_le_maxLen w _ old e (by unfold maxLen;omega);refine ⟨⟨hlen,.inr ⟨w.heap.size,_,_,J,Nat.zero_le _,heap_alloc_new w.drew _,hge,hcm,?_,?_⟩⟩,⟨J,J,J,by simp,fun q hq _=>heap_alloc_old w.drew _ hq⟩⟩
    ·simp only [Array.size_append,List.size_toArray,size_zeroCells,e4,hlen1,a2, <-Nat.add_mul]
     congr 1
     omega
    simp only [Array.toList_append,TS];rw [<-TS, <-hlen];exact List.take_left
   by_cases a7:xs.length=0
   ·-- the old slice has no elements
    have hv0:vss1.flatten=[]:=List.eq_nil_of_length_eq_zero (by rw [hlen1,a7];simp)
    have a6:k=0:=by omega
    by_cases hroom:xs.length+ys.length<=cap1
    ·rcases g2 with ⟨g2,g4⟩|⟨-,A9,h9⟩
     ·rcases g2.2 with ⟨e1, -⟩|⟨g,cap,cur,e1,r1,r2,r3,r4,r5,r6⟩
      ·injection e1 with _ _ e1;omega
      injection e1 with e1 _ e3'
      subst e1 e3';obtain ⟨v',w',r1,r2,r3, -⟩:=My w inf z R.sz by_ (ty:=ty) ht hinfo hzz e2 e3 e4 e5 g2 ⟨b,o,none⟩ ys.length cap2 vss2.flatten a2 hn2 (List.all_eq_true.1 (wg k5)) h0 (by unfold maxLen;omega) hm
      have hsh: ∃A c,v'=.slice A (xs.length+ys.length) c:=by
       rcases r2.2 with ⟨rfl,h9⟩|⟨g,cap,cur,rfl, -⟩
       ·omega
       exact ⟨_,_,J⟩
      exact .inl (fin v' w' r1 hsh r2 ⟨r3.os,r3.tape,r3.output,r3.size,fun q hq hn=>r3.block q hq fun e=>hn (g4 q e.symm)⟩ (fun q hq=>by
       rcases E5 ht r1 with h|⟨q',h,h'⟩
       ·rw [h] at hq;cases hq;exact .inl (g4 _ J)
       ·rw [h] at hq;cases hq;exact .inr h') fun h=>absurd h V)
     injection h9 with _ _ h9;omega
    -- new memory
    cases A1 with
    | none=>
     have hr:=run_append_nil (P:=P) w t ty e inf z ht hinfo hzz ⟨b,o,none⟩ ys.length cap2 vss2.flatten (by rw [e2];exact a2) hn2 h0 V (by rw [e3];have hm':ys.length*by_<=140737488355328:=Nat.le_trans (Nat.mul_le_mul_right _ V) hm;omega);have hgr:=grown 0
     have hcap0:cap1=0:=by
      rcases g2 with ⟨g2, -⟩|⟨-,A9,h9⟩
      ·rcases g2.2 with ⟨e1, -⟩|⟨g,cap,cur,e1, -⟩
       ·injection e1
       injection e1 with e1;cases e1
      injection h9
     simp only [a7,hcap0,hv0,Nat.zero_add,Ug,Array.empty_append] at hgr fin⊢;exact .inl (fin _ _ hr ⟨_,_,J⟩ (.of hgr.1) (hgr.2.mono fun _ _=>trivial) (fun q hq=>by cases hq;exact .inr (Nat.le_refl _)) fun h=>absurd h V)
    |some a1=>
     have hr:=run_append_grow (P:=P) w t ty e inf z ht hinfo hzz a1 xs.length cap1 [] (by rw [a7];simp) (fun j u hj=>by simp at hj) ⟨b,o,none⟩ ys.length cap2 vss2.flatten (by rw [e2];exact a2) hn2 V V (by rw [e3];exact growslice_fits V hm);have hgr:=grown cap1;rw [hv0] at hgr fin;exact .inl (fin _ _ hr ⟨_,_,J⟩ (.of hgr.1) (hgr.2.mono fun _ _=>trivial) (fun q hq=>by cases hq;exact .inr (Nat.le_refl _)) fun h=>absurd h V)
   obtain ⟨g,cur,rfl,c1,c3,c4,c5,c6⟩:=hown0.resolve_left a7;have holds:CellsAt w g 0 vss1.flatten:=mL (cap:=cap1) c1 c4;by_cases hroom:xs.length+ys.length<=cap1
   ·have hg2:ownsX w e R.sz (.slice (some ⟨g,0,none⟩) xs.length cap1) xs.length vss1.flatten:=⟨hlen1,.inr ⟨g,cap1,cur,rfl,Nat.zero_le _,c1,p1,c6,c3,c4⟩⟩;obtain ⟨c0,c7,c8,c9⟩:=c3
    have hfit:xs.length*inf.size+vss2.flatten.length<=cur.size:=by rw [a2,e2,c9, <-Nat.add_mul];exact Nat.mul_le_mul_right _ V
    have hr:=run_append_room (P:=P) w t ty e inf ht hinfo g xs.length cap1 cur c1 ⟨b,o,none⟩ ys.length cap2 vss2.flatten (by rw [e2];exact a2) hn2 (List.all_eq_true.1 (wg k5)) hroom hfit;obtain ⟨v',w',r1,r2,r3, -⟩:=My w inf z R.sz by_ (ty:=ty) ht hinfo hzz e2 e3 e4 e5 hg2 ⟨b,o,none⟩ ys.length cap2 vss2.flatten a2 hn2 (List.all_eq_true.1 (wg k5)) h0 (by unfold maxLen;omega) hm;have heq:=r1.symm.trans hr;simp only [Result.ok.injEq] at heq;obtain ⟨hv', -⟩:=heq;subst hv';refine .inl (fin _ w' r1 ⟨_,_,J⟩ r2 ⟨r3.os,r3.tape,r3.output,r3.size,fun q hq hn=>r3.block q hq fun e=>hn (by cases e;exact c5)⟩ (fun q hq=>by cases hq;exact .inl c5) fun a6 b' hb' hc=> ?_);by_cases hbg:b'=g
    ·subst hbg;rcases r2.2 with ⟨e9, -⟩|⟨g',cap',cur',e9, -,d2, -, -, -,d6⟩
     ·cases e9
     injection e9 with e9
     injection e9 with e9
     injection e9 with e9
     subst e9;have h5:CellsAt w' b' 0 (vss1.flatten++vss2.flatten):=mL (cap:=cap') d2 d6;have h6:=h5.left;rw [<-List.take_append_drop k vss1,List.flatten_append] at h6;exact h6.left
    intro j u hj;have:=hc j u hj
    have hlt:b'<w.heap.size:=by
     rcases Nat.lt_or_ge b' w.heap.size with h|h
     ·exact h
     exfalso;rw [World.cell?,Array.getElem?_eq_none (by exact h)] at this;cases this
    rw [<-this];exact World.cell?_of_block (r3.block b' hlt fun e=>hbg (by cases e;rfl))
   have hr:=run_append_grow (P:=P) w t ty e inf z ht hinfo hzz ⟨g,0,none⟩ xs.length cap1 vss1.flatten (by rw [e2];exact hlen1) (fun j u hj=>by rw [nL];exact holds j u hj) ⟨b,o,none⟩ ys.length cap2 vss2.flatten (by rw [e2];exact a2) hn2 V V (by rw [e3];exact growslice_fits V hm);have hgr:=grown cap1;refine .inl (fin _ _ hr ⟨_,_,J⟩ (.of hgr.1) (hgr.2.mono fun _ _=>trivial) (fun q hq=>by cases hq;exact .inr (Nat.le_refl _)) fun a6 b' hb' hc=> ?_);obtain ⟨b'',t1,t2,t3,t4⟩:=g6 a6
   have hbb:b''=b':=by rw [t1] at hb';injection hb' with hb';injection hb'
   subst hbb;exact hc.agr hgr.2 trivial t3
end
end
section
variable {A0:Option Addr} {M1:Nat}
open Go.RowKit
def KQ (p:Prop):Chunk where
 ok _ _ _:=p
 loc:=fun _ h=>h
 mono:=fun _ h=>h
 ro:=true
 dup:=fun _ _ _ _ h=>h
theorem MU {L Z:List Chunk}{w:World}{p:Prop}(h:Sp Z L w)(i:Nat)(hi:L[i]? =some (KQ p)):p:=by
 obtain ⟨T,S,h⟩:=h.get (bB hi);exact h
theorem I9 {L:List Chunk}{p:Prop}(hp:p):Cv L (KQ p::L):=fun Z w h=>SepL.fact0 h fun _=>hp
inductive Rch (ops:Array Oper):Nat->Nat->Prop
 |one {j:Nat} {o:Oper} {e:Edge}:ops[j]? =some o->e∈o.after->Region.binds .any e=true->Rch ops j e.on
 |more {j k:Nat} {o:Oper} {e:Edge}:Rch ops j k->ops[k]? =some o->e∈o.after->Region.binds .any e=true->Rch ops j e.on
def Cs (ops:Array Oper)(listed:Array Bool):Prop:= ∀k o e,listed.getD k false=true->ops[k]? =some o->e∈o.after->Region.binds .any e=true->listed.getD e.on false=true
theorem yH {ops:Array Oper}{listed:Array Bool}{j i:Nat}(hc:Cs ops listed)(hr:j∈Region.ready .any ops listed)(h:Rch ops j i):listed.getD i false=true:=by
 induction h with
 |one ho he hb=>obtain ⟨_,o',ho',hall⟩:=mem_ready.1 hr;rw [ho] at ho';cases ho';exact hall _ he hb
 |more _ ho he hb ih=>exact hc _ _ _ ih ho he hb
theorem sd {listed:Array Bool}{i k:Nat}(h:(listed.setIfInBounds i true).getD k false=true):k=i\/listed.getD k false=true:=by
 by_cases e:i=k
 ·exact .inl e.symm
 rw [getD_set_ne false e] at h;exact .inr h
theorem H7 {ops:Array Oper}{listed:Array Bool}{j:Nat}(hc:Cs ops listed)(hr:j∈Region.ready .any ops listed):Cs ops (listed.setIfInBounds j true):=by
 intro k o e hk ho he hb;rcases sd hk with e1|hk
 ·subst e1;obtain ⟨_,o',ho',hall⟩:=mem_ready.1 hr;rw [ho] at ho';cases ho';exact getD_set_true (hall _ he hb)
 exact getD_set_true (hc _ _ _ hk ho he hb)
def zG (ops:Array Oper)(k:Nat):List Nat:=match ops[k]? with
 |some o=>(o.after.toList.filter (Region.binds .any)).map (·.on)
 |none=> []
def KI (ops:Array Oper)(R:List Nat)(k:Nat):List Nat:=if R.contains k then zG ops k++R else R
def AP (ops:Array Oper)(t:Nat):List Nat:=(List.range t).reverse.foldl (KI ops) (zG ops t)
theorem Db {ops:Array Oper}{k x:Nat}(h:x∈zG ops k): ∃o e,ops[k]? =some o/\e∈o.after/\Region.binds .any e=true/\e.on=x:=by
 unfold zG at h;split at h
 ·rename_i o ho
  obtain ⟨e,he,rfl⟩:=List.mem_map.1 h;obtain ⟨h1,h2⟩:=List.mem_filter.1 he;exact ⟨o,e,ho,by simpa using h1,h2,rfl⟩
 cases h
theorem wz {ops:Array Oper}{t:Nat}: ∀x∈AP ops t,Rch ops t x:=by
 unfold AP
 have key: ∀(l:List Nat) (R:List Nat),(∀x∈R,Rch ops t x)-> ∀x∈l.foldl (KI ops) R,Rch ops t x:=by
  intro l
  induction l with
  |nil=>intro R h;exact h
  | cons k l ih=>
   intro R h
   refine ih _ fun x hx=> ?_
   unfold KI at hx;split at hx
   ·rename_i hk
    rcases List.mem_append.1 hx with h1|h1
    ·obtain ⟨o,e,ho,he,hb,rfl⟩:=Db h1;exact .more (h k (by simpa using hk)) ho he hb
    exact h x h1
   exact h x hx
 refine key _ _ fun x hx=> ?_
 obtain ⟨o,e,ho,he,hb,rfl⟩:=Db hx;exact .one ho he hb
def OpAt (P:Program)(ρ:Operand->Value)(o:Oper)(R:Value->List Chunk->Prop)(Z:List Chunk)(w:World):Prop:=
  (∃v w' L',(execOp ρ o).run P w=.ok (.value v) w'/\Sp Z L' w'/\R v L')\/
  (∃w' L',(execOp ρ o).run P w=.ok .skip w'/\Sp Z L' w'/\R undef L')\/
  (∃f args,(execOp ρ o).run P w=.ok (.enter f args) w/\Calls P f args w fun e w'=> ∃v L',e=.returned v/\Sp Z L' w'/\R v L')\/
  (∃l f tmps assign body,(execOp ρ o).run P w=.ok (.round l f tmps assign body) w/\RoundIn Fence.wide 0 P l f tmps assign body w fun e w'=> ∃v L',e=.returned v/\Sp Z L' w'/\R v L')
def MS (P:Program)(ops:Array Oper)(s:bG)(L:List Chunk)(o:Oper)(A:Value->List Chunk):Prop:= ∀Z w,Sp Z L w->(bn ops s o=some true/\ ∀ρ:Operand->Value,(∀x u,bC s x=some u->ρ x=u)->OpAt P ρ o (fun u L'=>Cv L' (A u++L)) Z w)\/(bn ops s o=some false/\Sp Z (A undef++L) w)
section
variable {P:Program} {ops:Array Oper} {s:bG} {L:List Chunk} {o:Oper} {A:Value->List Chunk}
end
def Hj (X:Cx)(ops:Array Oper)(K:K3)(fuel:Nat)(listed:Array Bool)(s:bG)(L:List Chunk):Prop:= ∀(H:List Chunk) (Ds:List Nat) (a:Act) (w:World),Fx X s a->a.defers=Ds.map vH->Sp (Ds.map cr++H) L w->wpAnyIn (Cg X.r) 0 X.P .any ops (xi X H (yp K)) fuel listed a w
section
variable {X:Cx} {ops:Array Oper} {K:K3} {s:bG} {L:List Chunk} {fuel:Nat} {listed:Array Bool} {d:Nat} {op:Op} {ty:TypeId} {pos:String} {af:Array Edge} {gd:Option (Nat×Bool)}
theorem lD (hr:Region.ready .any ops listed=[])(h:K .normal s L):Hj X ops K fuel listed s L:=by
 intro H Ds a w ha hds hw;have hq:xi X H (yp K) .normal a w:=⟨s,L,Ds,ha,hds,hw,rfl,h⟩
 cases fuel with
 |zero=>exact ⟨hr,hq⟩
 |succ n=>exact ⟨fun _=>hq,by rw [hr];simp⟩
theorem nD {t:bG}{L':List Chunk}(h:Hj X ops K fuel listed t L')(hs:AB s t)(hl:Cv L L'):Hj X ops K fuel listed s L:=fun H Ds a w ha hds hw=>h H Ds a w (ha.sub hs) hds (hl _ _ hw)
theorem Qq (i:Nat){o:Oper}{R:Value->List Chunk->Prop}(hi:ops[i]? =some o)(hr:Region.ready .any ops listed=[i])(h:OpX X.P s L o R)(hn:ij o=true)(hg:bn ops s o=some true)(hd:EX X.n o.dst=true)(k: ∀v L',R v L'->Hj X ops K fuel (listed.setIfInBounds i true) (putE o.dst v s) L'):Hj X ops K (fuel+1) listed s L:=
 fun H Ds a w ha hds hw=>⟨fun h=>absurd (hr.symm.trans h) (by simp),fun j hj=>by
  rw [hr,List.mem_singleton] at hj;subst hj;unfold wpOpIn;rw [hi];simp only [eL ha hg,if_true]
  exact h.wpIn hn ha hw fun v L' w' h1 h2=>k v L' h1 H Ds _ _ (ha.putE v hd) ((put_defers _ _ _).trans hds) h2⟩
theorem pa (i:Nat){R:Value->List Chunk->Prop}(hi:ops[i]? =some ⟨some d,op,ty,pos,af,gd⟩)(hr:Region.ready .any ops listed=[i])(h:OpX X.P s L ⟨some d,op,ty,pos,af,gd⟩ R)(hn:ij ⟨some d,op,ty,pos,af,gd⟩=true)(hg:bn ops s ⟨some d,op,ty,pos,af,gd⟩=some true)(hd:Nat.ble (d+1) X.n=true)(k: ∀v L',R v L'->Hj X ops K fuel (listed.setIfInBounds i true) ((d,v)::s) L'):Hj X ops K (fuel+1) listed s L:=Qq i hi hr h hn hg hd k
theorem vI (i:Nat){R:Value->List Chunk->Prop}(hi:ops[i]? =some ⟨none,op,ty,pos,af,gd⟩)(hr:Region.ready .any ops listed=[i])(h:OpX X.P s L ⟨none,op,ty,pos,af,gd⟩ R)(hn:ij ⟨none,op,ty,pos,af,gd⟩=true)(hg:bn ops s ⟨none,op,ty,pos,af,gd⟩=some true)(k: ∀v L',R v L'->Hj X ops K fuel (listed.setIfInBounds i true) s L'):Hj X ops K (fuel+1) listed s L:=Qq i hi hr h hn hg rfl k
theorem zc (i:Nat){v:Value}(hi:ops[i]? =some ⟨some d,op,ty,pos,af,gd⟩)(hr:Region.ready .any ops listed=[i])(h:Ev X.P s (fun _=>True) ⟨some d,op,ty,pos,af,gd⟩ v)(hn:ij ⟨some d,op,ty,pos,af,gd⟩=true)(hg:bn ops s ⟨some d,op,ty,pos,af,gd⟩=some true)(hd:Nat.ble (d+1) X.n=true)(k:Hj X ops K fuel (listed.setIfInBounds i true) ((d,v)::s) L):Hj X ops K (fuel+1) listed s L:=pa i hi hr (KZ h) hn hg hd fun _ _ ⟨e1,e2⟩=>by subst e1 e2;exact k
end
def DY (m:Nat)(listed:Array Bool):List Nat:=(List.range m).filter fun i=>listed.getD i false
def P3 (ops:Array Oper)(m:Nat)(qs:List Nat)(ds:List Nat)(pr:List (List Nat))(s:bG)(n:Nat):Bool:=
 Region.noSelect ops&&qs.all (fun q=>(match ops[q]? with|some o=>(List.range ops.size).all fun j=>Nat.beq j q||(zG ops j).contains q||(AP ops q).contains j||(match ops[j]? with|some oj=>o.apart ops oj|none=>true)|none=>false))&&K9 ops&&decide (m<=ops.size)&&decide (ds.length=m)&&decide ds.Nodup&&ds.all (fun d=>Nat.ble (d+1) n&&s.all fun p=> !Nat.beq p.1 d)
 &&(List.range m).all (fun i=>(match ops[i]? with|some o=>o.dst==ds[i]? |none=>false)&&(pr.getD i []).all (fun k=>(AP ops i).contains k&&Nat.blt k m)&&decide (pr.getD i []).Nodup&&(zG ops i).all fun k=>Nat.blt k i)
 &&(List.range ops.size).all (fun t=>Nat.blt t m||(List.range m).all fun i=>qs.contains i||(AP ops t).contains i)
def Ec (ds:List Nat)(val:Nat->Value)(ix:List Nat)(s:bG):bG:=ix.map (fun i=>(ds.getD i 0,val i))++s
def BP (As:List (Value->List Chunk))(val:Nat->Value)(ix:List Nat)(L:List Chunk):List Chunk:=(ix.flatMap fun i=>(As.getD i fun _=> []) (val i))++L
theorem zQ: ∀(a b:bG) (k:Nat) (v:Value),jO (a++b) k=some v->jO a k=some v\/(jO b k=some v)
 | [],_,_,_,h=> .inr h
 |(d,u)::a,b,k,v,h=>by
  rw [List.cons_append,km] at h;rw [km];split at h
  ·rename_i e;rw [if_pos e];exact .inl h
  rename_i e
  rw [if_neg e];exact zQ a b k v h
theorem ul: ∀(a:bG) (k:Nat) (v:Value),jO a k=some v->(k,v)∈a
 | [],_,_,h=>by cases h
 |(d,u)::a,k,v,h=>by
  rw [km] at h;split at h
  ·rename_i e;cases h;subst e;simp
  simp [ul a k v h]
theorem OpAt.wpIn {X:Cx}{o:Oper}{R:Value->List Chunk->Prop}{Z:List Chunk}{a:Act}{w:World}(h:OpAt X.P a.eval o R Z w)(hn:ij o=true)
  {K:Act->World->Prop} {Q:Exit->Act->World->Prop} (hK: ∀v L' w',R v L'->Sp Z L' w'->K (a.put o.dst v) w'):o.wpIn (Cg X.r) 0 X.P a w K Q:=by
 refine ⟨fun _ _=>trivial,?_⟩
 have e:o.semAt (Cg X.r).round a.eval=execOp a.eval o:=Oper.semAt_eq _ _ _ fun c hc=>by unfold ij at hn;rw [hc] at hn;cases hn
 rw [e];rcases h with ⟨v,w',L',h1,h2,h3⟩|⟨w',L',h1,h2,h3⟩|⟨f,args,h1,h2⟩|⟨l,f,tmps,assign,body,h1,h2⟩
 ·rw [h1];exact hK _ _ _ h3 h2
 ·rw [h1];exact hK _ _ _ h3 h2
 ·rw [h1];refine ⟨(by intro h;cases h),?_⟩;have h3:CallsIn (Cg X.r) (0 - 1) X.P f args w _:=callsIn_wide.2 h2;refine h3.mono ?_;rintro e w' ⟨v,L',rfl,h4,h5⟩;exact hK _ _ _ h5 h4
 rw [h1];refine ⟨(by intro h;cases h),?_⟩;have h3:RoundIn (Cg X.r) (0 - 1) X.P l f tmps assign body w _:=h2;refine h3.mono ?_;rintro e w' ⟨v,L',rfl,h4,h5⟩;exact hK _ _ _ h5 h4
theorem me: ∀(ix:List Nat) (l:Array Bool),(rJ l ix).size=l.size
 | [],_=>rfl
 |i::ix,l=>by show (rJ (l.setIfInBounds i true) ix).size=_;rw [me ix];simp
theorem yC: ∀(ix:List Nat) (l:Array Bool) (k:Nat),k<l.size->(rJ l ix).getD k false=(l.getD k false||ix.contains k)
 | [],_,_,_=>by simp [rJ]
 | i::ix,l,k,hk=>by
  show (rJ (l.setIfInBounds i true) ix).getD k false=_;rw [yC ix _ k (by simpa using hk)];by_cases e:i=k
  ·subst e;simp [hk]
  rw [getD_set_ne false e];simp [show¬k=i from fun h=>e h.symm]
theorem oS {m:Nat}{listed:Array Bool}{i:Nat}:i∈DY m listed↔i<m/\listed.getD i false=true:=by unfold DY;simp
theorem lst_nodup {m:Nat}{listed:Array Bool}:(DY m listed).Nodup:=List.nodup_range.filter _
theorem Cp {As:List (Value->List Chunk)}{val:Nat->Value}{a b:List Nat}(h:a.Perm b):(a.flatMap fun i=>(As.getD i fun _=> []) (val i)).Perm (b.flatMap fun i=>(As.getD i fun _=> []) (val i)):=h.flatMap_right _
theorem Mz {r:Option Nat}{P:Program}{ops:Array Oper}{Q:Exit->Act->World->Prop}: ∀(fuel:Nat) (listed:Array Bool) (a:Act) (w:World),wpAnyIn (Cg r) 0 P .any ops Q fuel listed a w->Fd r P ops Q (fun _=>True) fuel listed a w
 |0,_,_,_,h=>h
 |fuel+1,listed,a,w,h=>⟨h.1,fun i hi=>wpOpIn_mono (fun a w hh=> .inl ⟨trivial,Mz fuel _ a w hh⟩) (h.2 i hi)⟩
def QS (P:Program)(ops:Array Oper)(s:bG)(L:List Chunk)(o:Oper)(A:Value->List Chunk):Prop:= ∀Z w,Sp Z L w-> ∃v,bn ops s o=some true/\Ev P s (fun _=>True) o v/\Sp Z (A v++L) w
def Rp (P:Program)(ops:Array Oper)(s:bG)(L L0:List Chunk)(o:Oper)(A:Value->List Chunk):Prop:= ∀Z w,Sp Z L w-> ∃v,bn ops s o=some true/\Ev P s (fun _=>True) o v/\Sp Z (A v++L0) w
theorem DX {P:Program}{ops:Array Oper}{s:bG}{L L0:List Chunk}{o:Oper}{A:Value->List Chunk}{v:Value}(h:Ev P s (fun _=>True) o v)(hg:bn ops s o=some true)(k:Cv L (A v++L0)):Rp P ops s L L0 o A:=fun _ _ hw=>⟨v,hg,h,k _ _ hw⟩
theorem ee {p:Nat->Oper->Prop}{ops:Array Oper}: ∀(i:Nat) (o:Oper),i<0->ops[i]? =some o->p i o:=fun i o h=>by omega
theorem ae {p:Nat->Oper->Prop}{ops:Array Oper}{n:Nat}{o':Oper}(ho:ops[n]? =some o')(h2:p n o')(h1: ∀(i:Nat) (o:Oper),i<n->ops[i]? =some o->p i o): ∀(i:Nat) (o:Oper),i<n+1->ops[i]? =some o->p i o:=fun i o hi h=>by
 by_cases e:i=n
 ·subst e;rw [ho] at h;cases h;exact h2
 exact h1 i o V h
theorem lA {p:Nat->Oper->Prop}{ops:Array Oper}{m:Nat}: ∀q∈([]:List Nat), ∀(o:Oper),q<m->ops[q]? =some o->p q o:=fun q h=>by cases h
theorem uL {p:Nat->Oper->Prop}{ops:Array Oper}{m q':Nat}{qs:List Nat}{o':Oper}(ho:ops[q']? =some o')(h2:p q' o')(h1: ∀q∈qs, ∀(o:Oper),q<m->ops[q]? =some o->p q o): ∀q∈q'::qs, ∀(o:Oper),q<m->ops[q]? =some o->p q o:=fun q hq o hm h=>by
 rcases List.mem_cons.1 hq with e|hq
 ·subst e;rw [ho] at h;cases h;exact h2
 exact h1 q hq o hm h
def Ow (P:Program)(ops:Array Oper)(s:bG)(L L0:List Chunk)(o:Oper)(A:Value->List Chunk):Prop:= ∀Z w,Sp Z L w->(bn ops s o=some true/\ ∀ρ:Operand->Value,(∀x u,bC s x=some u->ρ x=u)->OpAt P ρ o (fun u L'=>Cv L' (A u++L0)) Z w)\/(bn ops s o=some false/\Sp Z (A undef++L0) w)
section
variable {P:Program} {ops:Array Oper} {s:bG} {L L0:List Chunk} {o:Oper} {A:Value->List Chunk}
theorem ON {α:Type}{R:Rep α}{v:Value}{xs:List α}{k:Nat}{x:α}{Q:List Value->List Chunk->Prop}(i:Nat)(hi:L[i]? =some (jL R v xs))(hx:xs[k]? =some x)(ho:BR R x Q)(h: ∀vs cs,Q vs cs->Ow P ops s (Cb (da v k R.sz 0) vs::(cs++L)) L0 o A):Ow P ops s L L0 o A:=fun Z w hw=>by
 obtain ⟨vs,cs,h1,h2⟩:=AM hw hi hx ho;exact h vs cs h1 Z w h2
theorem uv {R:Value->List Chunk->Prop}(h:OpX P s L o R)(hg:bn ops s o=some true)(k: ∀u L',R u L'->Cv L' (A u++L0)):Ow P ops s L L0 o A:=fun Z w hw=> .inl ⟨hg,fun ρ hρ=>by
 rcases h ρ hρ Z w hw with ⟨v,w',L',h1,h2,h3⟩|⟨w',L',h1,h2,h3⟩|⟨f,args,h1,h2⟩|⟨l,f,t,a,b,h1,h2⟩
 ·exact .inl ⟨v,w',L',h1,h2,k _ _ h3⟩
 ·exact .inr (.inl ⟨w',L',h1,h2,k _ _ h3⟩)
 ·exact .inr (.inr (.inl ⟨f,args,h1,h2.mono fun e w' ⟨v,L',g1,g2,g3⟩=>⟨v,L',g1,g2,k _ _ g3⟩⟩))
 ·exact .inr (.inr (.inr ⟨l,f,t,a,b,h1,h2.mono fun e w' ⟨v,L',g1,g2,g3⟩=>⟨v,L',g1,g2,k _ _ g3⟩⟩))⟩
theorem bU {v:Value}(h:Ev P s (fun _=>True) o v)(hg:bn ops s o=some true)(k:Cv L (A v++L0)):Ow P ops s L L0 o A:=uv (KZ h) hg fun u L' ⟨e1,e2⟩=>by subst e1 e2;exact k
theorem dy {v:Value}(h:Rd P s L o v)(hg:bn ops s o=some true)(k:Cv L (A v++L0)):Ow P ops s L L0 o A:=uv (yo h) hg fun u L' ⟨e1,e2⟩=>by subst e1 e2;exact k
end
def cl (u:Value)(k:Nat):Value:=u.cells.getD k undef
def tl (u:Value)(k:Nat):Value:=match u with| .tuple vs=>vs.getD k undef|_=>undef
def pb (u:Value):Nat:=match u with| .pointer (some a)=>a.block|_=>0
def mb (u:Value):Nat:=match u with| .map (some m)=>m|_=>0
end
section
variable {A0:Option Addr} {M1:Nat}
open Go.RowKit
section
variable {P:Program} {s:bG} {C:World->Prop} {d:Option Nat} {ty:TypeId} {pos:String} {af:Array Edge} {gd:Option (Nat×Bool)}
theorem Jv {t e:TypeId}(ht:P.underlying t=some (.slice e))(A:Option Addr)(n c:Nat)(w:World):(Op.equal t (.slice A n c) (U none 0 0)).run P w=.ok A.isNone w:=by
 show (Op.equalIn (9999+1) t (.slice A n c) (U none 0 0)).run P w=_;unfold Op.equalIn;rw [Sem.run_bind,run_underlying ht,Result.andThen_ok];cases A<;>rfl
theorem G0 {t e u:TypeId}{x:Operand}{A:Option Addr}{n c:Nat}(hx:bC s x=some (.slice A n c))(ht:P.underlying t=some (.slice e)):Ev P s C ⟨d,.binOp .eql t x (.const (U none 0 0)) u,ty,pos,af,gd⟩ (.bool A.isNone):=
 fP hx rfl fun w=>by
  rw [Sem.run_bind];show (binOp .eql t (.slice A n c) (U none 0 0)).run P w=_;have h1:(Op.equal t (.slice A n c) (U none 0 0)).run P w=.ok A.isNone w:=Jv ht A n c w;simp only [binOp,Sem.run_bind,h1,Result.andThen_ok];rfl
theorem Po {t u:TypeId}{x y:Operand}{k k2:IntKind}{a b:Int}(hx:bC s x=some (.int k a))(hy:bC s y=some (.int k b))(ht:P.underlying t=some (.int k2))(hu:P.underlying u=some (.int k2)):Ev P s C ⟨d,.call ⟨.builtin .min, #[x,y], #[t,u]⟩,ty,pos,af,gd⟩ (.int k (min a b)):=fun ρ hρ w _=>by
 rw [iq (P:=P) (ρ:=ρ) (xs:=[x,y]) (vs:=[.int k a,.int k b]) (by simp [hρ x _ hx,hρ y _ hy]) w]
 have e:(if b<a then b else a)=min a b:=by rw [Int.min_def];split<;>split<;>omega
 cases k<;>simp [builtin,Builtin.min_,Builtin.min2,e]
theorem LT {t u:TypeId}{x y:Operand}{k k2:IntKind}{a b:Int}(hx:bC s x=some (.int k a))(hy:bC s y=some (.int k b))(ht:P.underlying t=some (.int k2))(hu:P.underlying u=some (.int k2)):Ev P s C ⟨d,.call ⟨.builtin .max, #[x,y], #[t,u]⟩,ty,pos,af,gd⟩ (.int k (max a b)):=fun ρ hρ w _=>by
 rw [iq (P:=P) (ρ:=ρ) (xs:=[x,y]) (vs:=[.int k a,.int k b]) (by simp [hρ x _ hx,hρ y _ hy]) w]
 have e:(if a<b then b else a)=max a b:=by rw [Int.max_def];split<;>split<;>omega
 cases k<;>simp [builtin,Builtin.max_,Builtin.max2,e]
theorem xO {t e:TypeId}{x:Operand}(hx:bC s x=some (U none 0 0))(ht:P.underlying t=some (.slice e)):Ev P s C ⟨d,.call ⟨.builtin .cap, #[x], #[t]⟩,ty,pos,af,gd⟩ (.int .i64 0):=fun ρ hρ w _=>by
 rw [iq (P:=P) (ρ:=ρ) (xs:=[x]) (vs:=[U none 0 0]) (by simp [hρ x _ hx]) w];simp [builtin,Builtin.cap_,run_underlying ht,goInt]
end
def ST (P:Program)(s:bG)(L:List Chunk)(o:Oper)(v:Value):Prop:= ∀Z w,Sp Z L w->Ev P s (fun _=>True) o v
section
variable {P:Program} {s:bG} {L:List Chunk} {d:Option Nat} {ty:TypeId} {pos:String} {af:Array Edge} {gd:Option (Nat×Bool)}
end
theorem LB {α β:Type}{P:Program}{v:Value}{G:List Chunk}{en:α->List Value}{ev:β->Value}{φ:α->Option β}(h:Ik P v G en ev φ):v.cells.toList=[v]:=by obtain ⟨_,f,bs,caps,rfl,_⟩:=h;rfl
theorem Au {a b:ByteArray}:a.toList=b.toList↔a=b:=by
 constructor
 ·intro h;rw [ByteArray.toList_eq,ByteArray.toList_eq] at h;exact WideShapes.bytes_inj h
 rintro rfl;rfl
theorem OA {X:Cx}{K:K3}{s:bG}{L:List Chunk}{cd:Code}{α:Type}{R:Rep α}{A:Option Addr}{n c:Nat}{xs:List α}{ch:Chunk}(i:Nat)(hi:L[i]? =some ch)(he:Fb R (.slice A n c) xs ch)(hA:A.isNone=true)(k:xs=[]->Wq X cd K s L):Wq X cd K s L:=fun H Ds a w ha hd hw=>by
 obtain ⟨T,S,h⟩:=hw.get (bB hi);obtain ⟨A',cap,e,h1,h2,h3⟩:=he _ _ _ h
 have hx:xs=[]:=by
  rcases Nat.eq_zero_or_pos xs.length with h0|h0
  ·exact List.eq_nil_of_length_eq_zero h0
  obtain ⟨b,o,vss,e2, -⟩:=h3 h0
  injection e with e
  rw [e,e2] at hA;cases hA
 exact k hx H Ds a w ha hd hw
section
variable {P:Program} {s:bG} {L:List Chunk} {d:Option Nat} {ty:TypeId} {pos:String} {af:Array Edge} {gd:Option (Nat×Bool)}
theorem gj {f:FuncId}{x:Operand}{xs:List Operand}{ats:Array TypeId}{vs us:List Value}{caps:Array Value}{pre rest:List Chunk}{R:Value->List Chunk->Prop}(hc:Okc P f us pre R)(hf:iP P f)(hx:bC s x=some (.func (.func f) #[] caps))(hv:Eb s xs=some vs)(hu:vs++caps.toList=us)(hL:Cv L (pre++rest)):OpX P s L ⟨d,.call ⟨.value x,xs.toArray,ats⟩,ty,pos,af,gd⟩ fun u L'=> ∃post,R u post/\L'=post++rest:=fun ρ hρ Z w hw=>by
 subst hu;refine .inr (.inr (.inl ⟨f,_,t7 hf (lU hρ hv) (hρ _ _ hx),?_⟩))
 have h1:Sp (rest++Z) pre w:=by have:=hL Z w hw;unfold Sp at*;simpa only [TS] using this
 refine (hc _ w h1).mono ?_;rintro e w' ⟨v,post,rfl,h2,h3⟩;exact ⟨v,post++rest,J,by unfold Sp at*;simpa only [TS] using h2,post,h3,rfl⟩
theorem mN {f:FuncId}{x:Operand}{xs:List Operand}{ats:Array TypeId}{vs us:List Value}{caps:Array Value}{pre:List Chunk}{R:Value->List Chunk->Prop}(hc:Okc P f us pre R)(hf:iP P f)(hx:bC s x=some (.func (.func f) #[] caps))(hv:Eb s xs=some vs)(hu:vs++caps.toList=us)(hp: ∀c∈pre,ze L c)(hfr: ∀v post,R v post-> ∀c∈post,jP c):OpX P s L ⟨d,.call ⟨.value x,xs.toArray,ats⟩,ty,pos,af,gd⟩ fun u L'=> ∃post,R u post/\L'=post++L:=fun ρ hρ Z w hw=>by
 subst hu;refine .inr (.inr (.inl ⟨f,_,t7 hf (lU hρ hv) (hρ _ _ hx),?_⟩));refine (zI hc hp hfr Z w hw).mono ?_;rintro e w' ⟨v,post,rfl,h2,h3⟩;exact ⟨v,post++L,J,h2,post,h3,J⟩
end
theorem JX {α:Type}{R:Rep α}{e:TypeId}{v vw:Value}{xs:List α}{k i:Nat}{L:List Chunk}(hi:L[i]? =some (mx R e v xs vw k)):ze L (jL R v xs):=fun T S w h=>by
 obtain ⟨vss,h1,h2⟩:=Dy (h.ok hi);rcases h2 with ⟨h2, -⟩|⟨h0,A,rfl⟩
 ·rcases h2.2 with ⟨rfl,h0⟩|⟨g,cap,cur,rfl,g1,g2,g3,g4,g5,g6⟩
  ·exact ⟨none,0,by rw [h0],by omega,by omega,fun h=>absurd h V⟩
  exact ⟨_,cap,J,g3,by unfold maxLen at g4;omega,fun _=>⟨g,0,vss,rfl,Blk.lt (t:=e) (cs:=cur) g2,Blk.lt (t:=e) (cs:=cur) g2,h1.imp fun _ _=>R.mono fun _ hq=>h.lts hq,mL (cap:=cap) g2 g6⟩⟩
 exact ⟨A,0,by rw [h0],by omega,by omega,fun h=>absurd h V⟩
end
section
variable {A0:Option Addr} {M1:Nat}
open Go.RowKit
def uu {α σ:Type}(P:Program)(l:Nat)(G:σ->List Chunk)(Q:α->List Value->List Chunk->Prop)(φ:α->σ->Option (Bool×σ)):Prop:=
 ∀x σ₁ b σ₂,φ x σ₁=some (b,σ₂)-> ∀vs cs,Q x vs cs-> ∀Z w,Sp Z (cs++G σ₁) w-> ∃fn tmps assign body,(Instr.yield l vs.toArray).run P w=.ok (.round l fn tmps assign body) w/\RoundIn Fence.wide 0 P l fn tmps assign body w fun e w'=>e=.returned (.bool b)/\Sp Z (G σ₂) w'
section
variable {P:Program} {s:bG} {d:Option Nat} {ty:TypeId} {pos:String} {af:Array Edge} {gd:Option (Nat×Bool)}
theorem EB {α σ:Type}{l:Nat}{G:σ->List Chunk}(E:List Chunk){Q:α->List Value->List Chunk->Prop}{φ:α->σ->Option (Bool×σ)}{a:α}{σ₁:σ}{y:Bool×σ}{x:Operand}{xs:List Operand}{ats:Array TypeId}{vs:List Value}{cs:List Chunk}(hY:uu P l G Q φ)(hr:φ a σ₁=some y)(hx:bC s x=some (.func (.yield l) #[] #[]))(hv:Eb s xs=some vs)(hq:Q a vs cs)(hd:Cv (E++G σ₁) (cs++(E++G σ₁))):OpX P s (E++G σ₁) ⟨d,.call ⟨.value x,xs.toArray,ats⟩,ty,pos,af,gd⟩ fun u L'=>u=.bool y.1/\L'=E++G y.2:=fun ρ hρ Z2 w hw=>by
 obtain ⟨b,σ₂⟩:=y;have h0:=hd Z2 w hw
 have h1:Sp (E++Z2) (cs++G σ₁) w:=by
  have h2:SepL ((cs++(E++G σ₁))++Z2) w:=h0;refine SepL.perm h2 ?_;simp only [TS];exact List.Perm.append_left cs (List.perm_append_comm_assoc _ _ _)
 obtain ⟨fn,tmps,assign,body,h2,h3⟩:=hY a σ₁ b σ₂ hr vs cs hq _ w h1;refine .inr (.inr (.inr ⟨l,fn,tmps,assign,body,?_,?_⟩))
 ·unfold execOp;simp only [resolve,hρ x _ hx,Deferred.ofValue,List.map_toArray,lU hρ hv];simp only [invoke,Sem.run_bind,Sem.run_pure,Result.andThen_ok];simpa using h2
 refine h3.mono ?_;rintro e w' ⟨rfl,h4⟩;refine ⟨_,_,J,?_,J,J⟩;have h5:SepL (G σ₂++(E++Z2)) w':=h4;refine SepL.perm h5 ?_;simp only [TS];exact List.perm_append_comm_assoc _ _ _
end
theorem Kt {ι:Type}{Q:ι->List Chunk}{X:Cx}{K:K3}{s:bG}{c:Code}(cs:List Chunk)(h: ∀x,Wq X c K s (cs++Q x)):Wq X c K s (cs++ [jM Q]):=fun H Ds a w ha hd hw=>by
 have h1:Sp (cs++(Ds.map cr++H)) [jM Q] w:=by
  refine SepL.perm hw ?_;simp only [TS];exact List.perm_append_comm_assoc _ _ _
 obtain ⟨x,hx⟩:=lZ h1
 have h2:Sp (Ds.map cr++H) (cs++Q x) w:=by
  refine SepL.perm hx ?_;simp only [TS,Ug];exact List.perm_append_comm_assoc _ _ _
 exact h x H Ds a w ha hd h2
theorem Ku {α σ:Type}{X:Cx}{K:K3}{s:bG}{g:Operand}{ps:List Nat}{assign body:Code}{gf:FuncId}{caps:Array Value}{Q:α->List Value->List Chunk->Prop}(φ:α->σ->Option (Option Exit×σ))(E:σ->List Chunk)(pre:List Chunk)(σ₀:σ){je:Option Exit}{σr:σ}{L:List Chunk}
  (hr:X.r=none) (hg:bC s g=some (.func (.func gf) #[] caps)) (hf:iP X.P gf) (hps:ps.all (fun p=>Nat.ble (p+1) X.n)=true) (hen: ∀x vs cs,Q x vs cs->vs.length=ps.length)
  (hit: ∀l (G:(Option Exit×σ)->List Chunk),uu X.P l G Q (cY φ)->Okc X.P gf (.func (.yield l) #[] #[]::caps.toList) (pre++G (none,σ₀)) fun _ post=>post=G (je,σr))
  (hL:Cv L (pre++E σ₀))
  (hbody: ∀l x σ₁ je' σ₂,φ x σ₁=some (je',σ₂)-> ∀vs cs,Q x vs cs->Wq ⟨X.P,X.n,some l⟩ assign (nx (fun s1 L1=>Wq ⟨X.P,X.n,some l⟩ body (RK je' (E σ₂)) s1 L1) fun _ _ _=>False) (An ps vs s) (cs++E σ₁))
  (hdone:je=none->K .normal s (E σr)) (hleft: ∀e,je=some e->(ve e).isSome=true/\K e s (E σr)):
  Wq X (.rangeFunc g ps.toArray assign body) K s L:=by
 intro H Ds a w ha hds hw;obtain ⟨P,n,r⟩:=X;simp only at hr hf hps hit hbody;subst hr;refine wpIn_rangeFunc ?_;intro fn hfn;have hev:a.eval g=.func (.func gf) #[] caps:=ha.eval hg
 obtain ⟨rec_,hrec⟩: ∃rec_:Option Exit->LoopState->Loop,rec_=fun j st=>{state:=st,pending:=j.bind ve,fn,tmps:=a.tmps,params:=ps.toArray,assign,body,defers:=w.heap.size}:=⟨_,rfl⟩
 obtain ⟨stOf,hst⟩: ∃stOf:Option Exit->LoopState,stOf=fun j=>if j.isNone then .ready else .done:=⟨_,rfl⟩
 obtain ⟨l,hl⟩: ∃l,l=w.heap.size+1:=⟨_,rfl⟩;obtain ⟨W1,hW1⟩: ∃W1,(w.alloc (.deferred (some []))).alloc (.loop (rec_ none .ready))=W1:=⟨_,rfl⟩
 have hY:uu P l (fun q=>la l (rec_ q.1 (stOf q.1))::E q.2) Q (cY φ):=by
  rintro x ⟨j₁,σ₁⟩ b ⟨j₂,σ₂⟩ hx vs cs hq Z w1 hw1;unfold cY at hx
  cases j₁ with
  |some e=>cases hx
  | none=>
   simp only at hx
   cases hφ:φ x σ₁ with
   |none=>rw [hφ] at hx;cases hx
   | some y=>
    rw [hφ] at hx;simp only [Option.map_some,Option.some.injEq,Prod.mk.injEq] at hx;obtain ⟨hb,hy⟩:=hx;subst hb hy
    have h0:SepL (cs++(la l (rec_ none .ready)::(E σ₁++Z))) w1:=by
     have:stOf none=.ready:=by rw [hst];rfl
     simp only [this] at hw1;unfold Sp at hw1;simpa only [TS,List.cons_append] using hw1
    have a6:=sT h0;have hy:=run_yield (P:=P) (args:=vs.toArray) a6 (by rw [hrec];simp [hen x vs cs hq]);refine ⟨_,_,_,_,hy,roundIn_of_wpIn (F:=Fence.wide) trivial ?_⟩
    have hfx:Fx ⟨P,n,some l⟩ (An ps vs s) ⟨((rec_ none .ready).params.zip vs.toArray).foldl (fun t (p:Nat×Value)=>t.setIfInBounds p.1 p.2) (rec_ none .ready).tmps,[]⟩:=by
     have h1:=FO (X:=⟨P,n,some l⟩) (ds:=[]) (ps.zip vs) s a.tmps (by
      rw [List.all_eq_true] at hps⊢;intro p hp
      exact hps p.1 (List.of_mem_zip hp).1) ⟨ha.size,ha.at_⟩
     have e:(((rec_ none .ready).params.zip vs.toArray).foldl (fun t (p:Nat×Value)=>t.setIfInBounds p.1 p.2) (rec_ none .ready).tmps)=(ps.zip vs).foldl (fun t (p:Nat×Value)=>t.setIfInBounds p.1 p.2) a.tmps:=by
      rw [hrec];simp
     rw [e];exact h1
    have hsp:Sp (([]:List Nat).map cr++(la l (rec_ none .ready)::Z)) (cs++E σ₁) w1:=h0.perm (by simpa only [TS,List.map_nil,Ug] using List.Perm.append_left cs List.perm_middle.symm);have hrun:=hbody l x σ₁ j₂ σ₂ hφ vs cs hq (la l (rec_ none .ready)::Z) [] _ w1 hfx rfl hsp
    have hasg:(rec_ none .ready).assign=assign:=by rw [hrec]
    have hbdy:(rec_ none .ready).body=body:=by rw [hrec]
    rw [hasg,hbdy];refine wpIn_mono hrun ?_;rintro e a1 w2 ⟨s1,L1,Ds1,g1,g2,g3,g4⟩
    cases e with
    | normal=>
     have g3':SepL ((L1++Ds1.map cr)++(la l (rec_ none .ready)::Z)) w2:=by unfold Sp at g3;simpa only [TS] using g3
     have a7:=sT g3';have hbusy:=xr (r':={rec_ none .ready with state:=.busy}) g3';refine ⟨_,run_beginRound a7 (by rw [hrec]),?_⟩
     have a8:Sp (Ds1.map cr++(la l {rec_ none .ready with state:=.busy}::Z)) L1 (w2.putObj l (.loop {rec_ none .ready with state:=.busy})):=by unfold Sp;simpa only [TS] using hbusy
     refine wpIn_mono (g4 (la l {rec_ none .ready with state:=.busy}::Z) Ds1 a1 _ g1 g2 a8) ?_;rintro e3 a3 w3 ⟨s3,L3,Ds3,k1,k2,k3,k4,k5⟩
     have k3':SepL ((L3++Ds3.map cr)++(la l {rec_ none .ready with state:=.busy}::Z)) w3:=by unfold Sp at k3;simpa only [TS] using k3
     have b0:=sT k3'
     have fin: ∀(j:Option Exit) (jump:Option Code),jump=j.bind ve->jump.isNone=j.isNone->j₂=j-> ∃v w',(Instr.endRound l jump).run P w3=.ok v w'/\(Ending.returned v=.returned (.bool j₂.isNone)/\Sp Z (la l (rec_ j₂ (stOf j₂))::E σ₂) w'):=by
      intro j jump hj1 hj2 hj3;subst hj3;refine ⟨_,_,run_endRound jump b0,by rw [hj2],?_⟩
      have e:({{rec_ none .ready with state:=.busy} with state:=if jump.isNone then LoopState.ready else LoopState.done,pending:=jump}:Loop)=rec_ j₂ (stOf j₂):=by
       rw [hrec,hst,hj2,hj1]
      rw [e];have h6:=xr (r':=rec_ j₂ (stOf j₂)) k3'
      have h7:SepL (L3++(la l (rec_ j₂ (stOf j₂))::Z)) (w3.putObj l (.loop (rec_ j₂ (stOf j₂)))):=by
       have h8:SepL (Ds3.map cr++(L3++(la l (rec_ j₂ (stOf j₂))::Z))) (w3.putObj l (.loop (rec_ j₂ (stOf j₂)))):=h6.perm (by
        rw [<-TS]
        exact List.Perm.append_right _ List.perm_append_comm)
       exact h8.dropL
      have h9:=k5 (la l (rec_ j₂ (stOf j₂))::Z) _ h7;unfold Sp at h9⊢;exact h9.perm List.perm_middle
     rcases k4 with ⟨h10,rfl⟩|⟨h10,h11⟩
     ·exact fin none none J J h10
     cases e3 with
     |ret=>exact fin (some .ret) (some .ret) rfl rfl h10
     |exit i=>exact fin (some (.exit i)) (some (.exit i)) rfl rfl h10
     |_=>cases h11
    |_=>exact g4.elim
 have hdeep:SepL (la l (rec_ none .ready)::cr w.heap.size::((pre++E σ₀)++(Ds.map cr++H))) W1:=by
  have h1:SepL ((pre++E σ₀)++(Ds.map cr++H)) w:=hL _ _ hw
  have h2:SepL (cr w.heap.size::((pre++E σ₀)++(Ds.map cr++H))) (w.alloc (.deferred (some []))):=h1.new (Agr.of_ext ((Ext.refl w).alloc _)) fun _ S _=>⟨(· =w.heap.size),fun q hq=>by subst hq;simp,rfl,World.alloc_heap_new w _⟩
  rw [<-hW1]
  refine h2.new (Agr.of_ext ((Ext.refl _).alloc _)) fun _ S _=>⟨(· =l),fun q hq=>by subst hq;rw [hl];simp,rfl,?_⟩
  have:=World.alloc_heap_new (w.alloc (.deferred (some []))) (.loop (rec_ none .ready));rw [World.size_alloc] at this;rw [hl];exact this
 have hstn:stOf none=.ready:=by rw [hst];rfl
 have hstart:Sp (cr w.heap.size::(Ds.map cr++H)) (pre++(la l (rec_ none (stOf none))::E σ₀)) W1:=by
  rw [hstn];refine hdeep.perm ?_;refine (List.Perm.swap _ _ _).trans ?_;refine List.Perm.trans ?_ List.perm_middle.symm;refine List.Perm.cons _ ?_;rw [<-List.cons_append];exact List.Perm.append_right _ List.perm_middle.symm
 obtain ⟨fnc,hfn1,a2,hn1⟩:=hf
 have hn': ¬fnc.name= "runtime.NumGoroutine" :=by simpa using hn1
 have hb': ¬fnc.body=none:=by intro h;rw [h] at a2;cases a2
 refine ⟨l,[{target:=.collected w.heap.size,args:= #[]}],W1,{target:=.fn (.func gf) caps,args:= #[.func (.yield l) #[] #[]]},W1,gf,(.func (.yield l) #[] #[]::caps.toList).toArray,W1,?_,?_,fun _ _=>trivial,?_,(by intro h;cases h),?_⟩
 ·rw [<-hW1,hl,hrec];exact run_enterLoop_outer _ _ _ _ _
 ·simp only [resolve,hev];simp [Deferred.ofValue,Act.eval]
 ·simp [invoke,callFunc,hfn1,hb',hn',Sem.run_bind]
 have h1:=hit l _ hY _ W1 hstart;refine (callsIn_wide.2 h1:CallsIn Fence.wide (0 - 1) P gf _ W1 _).mono ?_;rintro e w3 ⟨v,post,rfl,h2,rfl⟩;have h2':SepL ([]++(la l (rec_ je (stOf je))::(E σr++(cr w.heap.size::(Ds.map cr++H))))) w3:=h2;have hk:=sT h2';refine ⟨_,_,run_endLoop hk (by rw [hrec,hst];cases je<;>simp),?_⟩;have h3:=xr (r':={rec_ je (stOf je) with state:=.exhausted}) h2';generalize w3.putObj l (.loop {rec_ je (stOf je) with state:=.exhausted})=w4 at h3⊢
 have h4:Sp ((w.heap.size::Ds).map cr++H) (E σr) w4:=by
  have h5:SepL ([la l {rec_ je (stOf je) with state:=.exhausted}]++(E σr++(cr w.heap.size::(Ds.map cr++H)))) _:=h3;have h6:=h5.dropL;unfold Sp;simpa using h6
 have hfin: ∀e,K e s (E σr)->xi ⟨P,n,none⟩ H K e {a with defers:=[{target:=.collected w.heap.size,args:= #[]}]++a.defers} w4:=fun e he=>⟨s,E σr,w.heap.size::Ds,⟨ha.size,ha.at_⟩,by simp [hds,vH],h4,he⟩
 cases hje:je with
 |none=>
  have:(rec_ je (stOf je)).pending=none:=by rw [hrec,hje];rfl
  rw [<-hje,this];exact hfin .normal (hdone hje)
 |some e=>
  obtain ⟨h7,h8⟩:=hleft e hje
  have:(rec_ je (stOf je)).pending=ve e:=by rw [hrec,hje];rfl
  rw [<-hje,this]
  cases e with
  |ret=>exact wpIn_ret (hfin .ret h8)
  |exit i=>exact wpIn_exit (hfin (.exit i) h8)
  |_=>cases h7
theorem E9 {α σ ι ρ:Type}{X:Cx}{K:K3}{s:bG}{g:Operand}{ps:List Nat}{assign body:Code}{gf:FuncId}{caps:Array Value}{R:α->List Value->List Chunk->Prop}(φ:α->σ->Option (Option Exit×σ))(Q:σ->ι->List Chunk)(pre:List Chunk)(σ₀:σ)(x₀:ι){je:Option Exit}{σr:σ}{L:List Chunk}{id:Nat}{vn vr:Option ρ}{vx:Nat->Option ρ}{v:ρ}
  (hr:X.r=none) (hg:bC s g=some (.func (.func gf) #[] caps)) (hf:iP X.P gf) (hps:ps.all (fun p=>Nat.ble (p+1) X.n)=true) (hen: ∀x vs cs,R x vs cs->vs.length=ps.length)
  (hit: ∀l (G:(Option Exit×σ)->List Chunk),uu X.P l G R (cY φ)->Okc X.P gf (.func (.yield l) #[] #[]::caps.toList) (pre++G (none,σ₀)) fun _ post=>post=G (je,σr))
  (hL:Cv L (pre++Q σ₀ x₀)) (h:qP je vn vr vx=some v)
  (hbody: ∀l x σ₁ je' σ₂ z,φ x σ₁=some (je',σ₂)-> ∀vs cs,R x vs cs->Wq ⟨X.P,X.n,some l⟩ assign (nx (fun s1 L1=>Wq ⟨X.P,X.n,some l⟩ body (RK je' [jM (Q σ₂)]) s1 L1) fun _ _ _=>False) (An ps vs s) (cs++Q σ₁ z))
  (hn: ∀z,vn=some v->bk id K .normal s (Q σr z)) (hret: ∀z,vr=some v->bk id K .ret s (Q σr z)) (hx: ∀i z,vx i=some v->bk id K (.exit i) s (Q σr z)):
  Wq X (.block id (.rangeFunc g ps.toArray assign body)) K s L:=by
 refine tq (Ji (K':=fun e s' L'=>s'=s/\L'=[jM (Q σr)]/\ ∀z,bk id K e s (Q σr z)) ?_ ?_)
 ·refine Ku φ (fun q=> [jM (Q q)]) pre σ₀ hr hg hf hps hen hit ?_ ?_ ?_ ?_
  ·exact hL.trans (su pre (gr x₀ J))
  ·intro l x σ₁ je' σ₂ hφ vs cs hq
   exact Kt cs fun z=>hbody l x σ₁ je' σ₂ z hφ vs cs hq
  ·intro hj;rw [hj] at h;exact ⟨J,J,fun z=>hn z h⟩
  intro e he;rw [he] at h
  cases e with
  |ret=>exact ⟨rfl,rfl,rfl,fun z=>hret z h⟩
  |exit i=>exact ⟨rfl,rfl,rfl,fun z=>hx i z h⟩
  |_=>cases h
 rintro e s' L' ⟨rfl,rfl,h3⟩;exact ⟨ι,Q σr,J,h3⟩
theorem SlR.recap {α:Type}{R:Rep α}{S:Nat->Prop}{w:World}{A1 A2:Option Addr}{n1 n2 c1 c2:Nat}{ys:List α}(h:SlR R S w (U A1 n1 c1) ys)(hn:n2=ys.length)(hA:0<ys.length->A2=A1)(h1:ys.length<=c2)(h2:c2<=9223372036854775807):SlR R S w (U A2 n2 c2) ys:=by
 obtain ⟨A,c,e,g1,g2,g3⟩:=h
 injection e with e1 e2 e3
 subst e1 e3 hn;exact ⟨_,_,J,h1,h2,fun h0=>by rw [hA h0];exact g3 h0⟩
theorem H5 {α:Type}{R:Rep α}{L Z:List Chunk}{w:World}{A:Option Addr}{n c:Nat}{xs:List α}(hw:Sp Z L w){i:Nat}(hi:L[i]? =some (jL R (.slice A n c) xs)){l h:Nat}(h1:l<=h)(h2:h<=xs.length):Sp Z (jL R (.slice (vd A h l R.sz) (h - l) (h - l)) ((xs.drop l).take (h - l))::L) w:=by
 obtain ⟨T,S,hT⟩:=hw;have hs1:SlR R S w (.slice A n c) xs:=hT.ok (bB hi)
 have hl:((xs.drop l).take (h - l)).length=h - l:=by rw [Uc,List.length_drop];omega
 have hb:=hs1;obtain ⟨A2,c2,e2,g1,g2, -⟩:=hb
 injection e2 with q1 q2 q3
 subst q1 q2 q3
 obtain ⟨T',h'⟩:=SepL.facts [jL R (.slice (vd A h l R.sz) (h - l) (h - l)) ((xs.drop l).take (h - l))] hT (fun c hc=>by
  simp only [List.mem_singleton] at hc;subst hc;refine SlR.recap (hs1.cut l h h1 h2) hl.symm (fun h0=> ?_) V V;rw [hl] at h0;unfold vd
  rw [if_neg V,if_neg V])
 exact ⟨T',S,h'⟩
theorem MH {α:Type}{R:Rep α}{X:Cx}{ops:Array Oper}{K:K3}{s:bG}{L:List Chunk}{ol:List Oper}{A:Option Addr}{n c:Nat}{xs:List α}(i:Nat)(hi:L[i]? =some (jL R (.slice A n c) xs)){l h:Nat}(h1:l<=h)(h2:h<=xs.length)(k: ∀A' n' c',A'=vd A h l R.sz/\n'=h - l/\c'=h - l->bT X ops ol K s (jL R (.slice A' n' c') ((xs.drop l).take (h - l))::L)):bT X ops ol K s L:=fun H Ds a w ha hd hw=>k _ _ _ ⟨rfl,rfl,rfl⟩ H Ds a w ha hd (H5 hw hi h1 h2)
section
variable {P:Program} {s:bG} {L:List Chunk} {d:Option Nat} {ty:TypeId} {pos:String} {af:Array Edge} {gd:Option (Nat×Bool)}
theorem Of {C:World->Prop}{t e sz:Nat}{x o y z:Operand}{A:Option Addr}{n c:Nat}{l h:Nat}(hx:bC s x=some (.slice A n c))(hu:P.underlying t=some (.slice e))(hs:lJ P e sz=true)(hl:bC s o=some (.int .i64 (l:Int)))(hh:bC s y=some (.int .i64 (h:Int)))(hm:bC s z=some (.int .i64 (h:Int)))(h1:l<=h)(h2:h<=c):Ev P s C ⟨d,.slice t x (some o) (some y) (some z),ty,pos,af,gd⟩ (.slice (vd A h l sz) (h - l) (h - l)):=fun ρ hρ w _=>by
 unfold execOp;simp only [Option.map_some,Option.map_none,hρ x _ hx,hρ o _ hl,hρ y _ hh,hρ z _ hm,Instr.sliceAt,Instr.slice,Instr.sliceBounds,Sem.run_bind,run_underlying hu,Result.andThen_ok,t8 h2,t8 h1,t8 (Nat.le_refl h),kg hs w,Sem.run_pure];rfl
theorem IA {α:Type}{R:Rep α}{t e sz:Nat}{x o y z:Operand}{A A':Option Addr}{n c n' c':Nat}{xs:List α}{l h:Nat}(i:Nat)(hL:L[i]? =some (jL R (.slice A n c) xs))(he:A'=vd A h l R.sz/\n'=h - l/\c'=h - l)(hx:bC s x=some (.slice A n c))(hu:P.underlying t=some (.slice e))(hs:lJ P e sz=true)(hsz:R.sz=sz)
  (hl:bC s o=some (.int .i64 (l:Int))) (hh:bC s y=some (.int .i64 (h:Int))) (hm:bC s z=some (.int .i64 (h:Int))) (h1:l<=h) (h2:h<=xs.length):Rd P s L ⟨d,.slice t x (some o) (some y) (some z),ty,pos,af,gd⟩ (.slice A' n' c'):=fun Z w hw=>by
 obtain ⟨rfl,rfl,rfl⟩:=he;subst hsz;obtain ⟨T,S,A2,c2,e2,g1, -⟩:=hw.get (bB hL)
 injection e2 with q1 q2 q3
 subst q1 q2 q3;exact Of hx hu hs hl hh hm h1 V
end
end
section
variable {A0:Option Addr} {M1:Nat}
open Go.RowKit
section
variable {α β:Type} [DecidableEq α] {ek:α->Value} {ev:β->Value}
def SW (w:World)(m:Nat)(ek:α->Value)(ev:β->Value)(kv:List (α×β))(a:α)(s:Nat):Prop:=
 ∃es clk,w.heap[m]? =some (.map es clk)/\es.toList.map (fun e=>(e.key,e.val))=kv.map (fun p=>(ek p.1,ev p.2))/\es.toList.Pairwise (fun a b=>a.born<b.born)/\(∀e∈es.toList,e.born<clk)/\ ∃q e b,es[q]? =some e/\e.born=s/\e.key=ek a/\fp a kv 0=some (q,b)
def Sz (kv:List (α×β))(a:α)(z:β):List (α×β):=match fp a kv 0 with
 |some _=>kv
 |none=>kv++ [(a,z)]
variable {P:Program} {s:bG} {L:List Chunk} {d:Option Nat} {ty t kt et:TypeId} {pos:String} {af:Array Edge} {gd:Option (Nat×Bool)}
end
end
section
variable {A0:Option Addr} {M1:Nat}
open Go.RowKit
theorem G4 {L:List Chunk}: ∀(cs:List Chunk),Cv (cs++L) L
 | []=>ad _
 |_::cs=>cv_tl.trans (G4 cs)
inductive Asn:Type 1
 |aV (v:Value)
 |aX1 {ι0:Type} (v:ι0->Value) (ch:ι0->List Chunk)
 |aX2 {ι0 ι1:Type} (v:ι0->ι1->Value) (ch:ι0->ι1->List Chunk)
 |aX3 {ι0 ι1 ι2:Type} (v:ι0->ι1->ι2->Value) (ch:ι0->ι1->ι2->List Chunk)
 |aX4 {ι0 ι1 ι2 ι3:Type} (v:ι0->ι1->ι2->ι3->Value) (ch:ι0->ι1->ι2->ι3->List Chunk)
 |aX5 {ι0 ι1 ι2 ι3 ι4:Type} (v:ι0->ι1->ι2->ι3->ι4->Value) (ch:ι0->ι1->ι2->ι3->ι4->List Chunk)
 |aX6 {ι0 ι1 ι2 ι3 ι4 ι5:Type} (v:ι0->ι1->ι2->ι3->ι4->ι5->Value) (ch:ι0->ι1->ι2->ι3->ι4->ι5->List Chunk)
 |aX7 {ι0 ι1 ι2 ι3 ι4 ι5 ι6:Type} (v:ι0->ι1->ι2->ι3->ι4->ι5->ι6->Value) (ch:ι0->ι1->ι2->ι3->ι4->ι5->ι6->List Chunk)
 |aX8 {ι0 ι1 ι2 ι3 ι4 ι5 ι6 ι7:Type} (v:ι0->ι1->ι2->ι3->ι4->ι5->ι6->ι7->Value) (ch:ι0->ι1->ι2->ι3->ι4->ι5->ι6->ι7->List Chunk)
 |aX9 {ι0 ι1 ι2 ι3 ι4 ι5 ι6 ι7 ι8:Type} (v:ι0->ι1->ι2->ι3->ι4->ι5->ι6->ι7->ι8->Value) (ch:ι0->ι1->ι2->ι3->ι4->ι5->ι6->ι7->ι8->List Chunk)
 |aX10 {ι0 ι1 ι2 ι3 ι4 ι5 ι6 ι7 ι8 ι9:Type} (v:ι0->ι1->ι2->ι3->ι4->ι5->ι6->ι7->ι8->ι9->Value) (ch:ι0->ι1->ι2->ι3->ι4->ι5->ι6->ι7->ι8->ι9->List Chunk)
 |aX11 {ι0 ι1 ι2 ι3 ι4 ι5 ι6 ι7 ι8 ι9 ι10:Type} (v:ι0->ι1->ι2->ι3->ι4->ι5->ι6->ι7->ι8->ι9->ι10->Value) (ch:ι0->ι1->ι2->ι3->ι4->ι5->ι6->ι7->ι8->ι9->ι10->List Chunk)
 |aX12 {ι0 ι1 ι2 ι3 ι4 ι5 ι6 ι7 ι8 ι9 ι10 ι11:Type} (v:ι0->ι1->ι2->ι3->ι4->ι5->ι6->ι7->ι8->ι9->ι10->ι11->Value) (ch:ι0->ι1->ι2->ι3->ι4->ι5->ι6->ι7->ι8->ι9->ι10->ι11->List Chunk)
 |aX15 {ι0 ι1 ι2 ι3 ι4 ι5 ι6 ι7 ι8 ι9 ι10 ι11 ι12 ι13 ι14:Type} (v:ι0->ι1->ι2->ι3->ι4->ι5->ι6->ι7->ι8->ι9->ι10->ι11->ι12->ι13->ι14->Value) (ch:ι0->ι1->ι2->ι3->ι4->ι5->ι6->ι7->ι8->ι9->ι10->ι11->ι12->ι13->ι14->List Chunk)
 |aX21 {ι0 ι1 ι2 ι3 ι4 ι5 ι6 ι7 ι8 ι9 ι10 ι11 ι12 ι13 ι14 ι15 ι16 ι17 ι18 ι19 ι20:Type} (v:ι0->ι1->ι2->ι3->ι4->ι5->ι6->ι7->ι8->ι9->ι10->ι11->ι12->ι13->ι14->ι15->ι16->ι17->ι18->ι19->ι20->Value) (ch:ι0->ι1->ι2->ι3->ι4->ι5->ι6->ι7->ι8->ι9->ι10->ι11->ι12->ι13->ι14->ι15->ι16->ι17->ι18->ι19->ι20->List Chunk)
namespace Asn
def full:Asn->Value->List Chunk
 |aV v,u=> [KQ (u=v)]
 | @aX1 ι0 v ch,u=> [jM fun x:{x:ι0 // u=v x}=>ch x.1]
 | @aX2 ι0 ι1 v ch,u=> [jM fun x:{x:ι0×ι1 // u=v x.1 x.2}=>ch x.1.1 x.1.2]
 | @aX3 ι0 ι1 ι2 v ch,u=> [jM fun x:{x:ι0×ι1×ι2 // u=v x.1 x.2.1 x.2.2}=>ch x.1.1 x.1.2.1 x.1.2.2]
 | @aX4 ι0 ι1 ι2 ι3 v ch,u=> [jM fun x:{x:ι0×ι1×ι2×ι3 // u=v x.1 x.2.1 x.2.2.1 x.2.2.2}=>ch x.1.1 x.1.2.1 x.1.2.2.1 x.1.2.2.2]
 | @aX5 ι0 ι1 ι2 ι3 ι4 v ch,u=> [jM fun x:{x:ι0×ι1×ι2×ι3×ι4 // u=v x.1 x.2.1 x.2.2.1 x.2.2.2.1 x.2.2.2.2}=>ch x.1.1 x.1.2.1 x.1.2.2.1 x.1.2.2.2.1 x.1.2.2.2.2]
 | @aX6 ι0 ι1 ι2 ι3 ι4 ι5 v ch,u=> [jM fun x:{x:ι0×ι1×ι2×ι3×ι4×ι5 // u=v x.1 x.2.1 x.2.2.1 x.2.2.2.1 x.2.2.2.2.1 x.2.2.2.2.2}=>ch x.1.1 x.1.2.1 x.1.2.2.1 x.1.2.2.2.1 x.1.2.2.2.2.1 x.1.2.2.2.2.2]
 | @aX7 ι0 ι1 ι2 ι3 ι4 ι5 ι6 v ch,u=> [jM fun x:{x:ι0×ι1×ι2×ι3×ι4×ι5×ι6 // u=v x.1 x.2.1 x.2.2.1 x.2.2.2.1 x.2.2.2.2.1 x.2.2.2.2.2.1 x.2.2.2.2.2.2}=>ch x.1.1 x.1.2.1 x.1.2.2.1 x.1.2.2.2.1 x.1.2.2.2.2.1 x.1.2.2.2.2.2.1 x.1.2.2.2.2.2.2]
 | @aX8 ι0 ι1 ι2 ι3 ι4 ι5 ι6 ι7 v ch,u=> [jM fun x:{x:ι0×ι1×ι2×ι3×ι4×ι5×ι6×ι7 // u=v x.1 x.2.1 x.2.2.1 x.2.2.2.1 x.2.2.2.2.1 x.2.2.2.2.2.1 x.2.2.2.2.2.2.1 x.2.2.2.2.2.2.2}=>ch x.1.1 x.1.2.1 x.1.2.2.1 x.1.2.2.2.1 x.1.2.2.2.2.1 x.1.2.2.2.2.2.1 x.1.2.2.2.2.2.2.1 x.1.2.2.2.2.2.2.2]
 | @aX9 ι0 ι1 ι2 ι3 ι4 ι5 ι6 ι7 ι8 v ch,u=> [jM fun x:{x:ι0×ι1×ι2×ι3×ι4×ι5×ι6×ι7×ι8 // u=v x.1 x.2.1 x.2.2.1 x.2.2.2.1 x.2.2.2.2.1 x.2.2.2.2.2.1 x.2.2.2.2.2.2.1 x.2.2.2.2.2.2.2.1 x.2.2.2.2.2.2.2.2}=>ch x.1.1 x.1.2.1 x.1.2.2.1 x.1.2.2.2.1 x.1.2.2.2.2.1 x.1.2.2.2.2.2.1 x.1.2.2.2.2.2.2.1 x.1.2.2.2.2.2.2.2.1 x.1.2.2.2.2.2.2.2.2]
 | @aX10 ι0 ι1 ι2 ι3 ι4 ι5 ι6 ι7 ι8 ι9 v ch,u=> [jM fun x:{x:ι0×ι1×ι2×ι3×ι4×ι5×ι6×ι7×ι8×ι9 // u=v x.1 x.2.1 x.2.2.1 x.2.2.2.1 x.2.2.2.2.1 x.2.2.2.2.2.1 x.2.2.2.2.2.2.1 x.2.2.2.2.2.2.2.1 x.2.2.2.2.2.2.2.2.1 x.2.2.2.2.2.2.2.2.2}=>ch x.1.1 x.1.2.1 x.1.2.2.1 x.1.2.2.2.1 x.1.2.2.2.2.1 x.1.2.2.2.2.2.1 x.1.2.2.2.2.2.2.1 x.1.2.2.2.2.2.2.2.1 x.1.2.2.2.2.2.2.2.2.1 x.1.2.2.2.2.2.2.2.2.2]
 | @aX11 ι0 ι1 ι2 ι3 ι4 ι5 ι6 ι7 ι8 ι9 ι10 v ch,u=> [jM fun x:{x:ι0×ι1×ι2×ι3×ι4×ι5×ι6×ι7×ι8×ι9×ι10 // u=v x.1 x.2.1 x.2.2.1 x.2.2.2.1 x.2.2.2.2.1 x.2.2.2.2.2.1 x.2.2.2.2.2.2.1 x.2.2.2.2.2.2.2.1 x.2.2.2.2.2.2.2.2.1 x.2.2.2.2.2.2.2.2.2.1 x.2.2.2.2.2.2.2.2.2.2}=>ch x.1.1 x.1.2.1 x.1.2.2.1 x.1.2.2.2.1 x.1.2.2.2.2.1 x.1.2.2.2.2.2.1 x.1.2.2.2.2.2.2.1 x.1.2.2.2.2.2.2.2.1 x.1.2.2.2.2.2.2.2.2.1 x.1.2.2.2.2.2.2.2.2.2.1 x.1.2.2.2.2.2.2.2.2.2.2]
 | @aX12 ι0 ι1 ι2 ι3 ι4 ι5 ι6 ι7 ι8 ι9 ι10 ι11 v ch,u=> [jM fun x:{x:ι0×ι1×ι2×ι3×ι4×ι5×ι6×ι7×ι8×ι9×ι10×ι11 // u=v x.1 x.2.1 x.2.2.1 x.2.2.2.1 x.2.2.2.2.1 x.2.2.2.2.2.1 x.2.2.2.2.2.2.1 x.2.2.2.2.2.2.2.1 x.2.2.2.2.2.2.2.2.1 x.2.2.2.2.2.2.2.2.2.1 x.2.2.2.2.2.2.2.2.2.2.1 x.2.2.2.2.2.2.2.2.2.2.2}=>ch x.1.1 x.1.2.1 x.1.2.2.1 x.1.2.2.2.1 x.1.2.2.2.2.1 x.1.2.2.2.2.2.1 x.1.2.2.2.2.2.2.1 x.1.2.2.2.2.2.2.2.1 x.1.2.2.2.2.2.2.2.2.1 x.1.2.2.2.2.2.2.2.2.2.1 x.1.2.2.2.2.2.2.2.2.2.2.1 x.1.2.2.2.2.2.2.2.2.2.2.2]
 | @aX15 ι0 ι1 ι2 ι3 ι4 ι5 ι6 ι7 ι8 ι9 ι10 ι11 ι12 ι13 ι14 v ch,u=> [jM fun x:{x:ι0×ι1×ι2×ι3×ι4×ι5×ι6×ι7×ι8×ι9×ι10×ι11×ι12×ι13×ι14 // u=v x.1 x.2.1 x.2.2.1 x.2.2.2.1 x.2.2.2.2.1 x.2.2.2.2.2.1 x.2.2.2.2.2.2.1 x.2.2.2.2.2.2.2.1 x.2.2.2.2.2.2.2.2.1 x.2.2.2.2.2.2.2.2.2.1 x.2.2.2.2.2.2.2.2.2.2.1 x.2.2.2.2.2.2.2.2.2.2.2.1 x.2.2.2.2.2.2.2.2.2.2.2.2.1 x.2.2.2.2.2.2.2.2.2.2.2.2.2.1 x.2.2.2.2.2.2.2.2.2.2.2.2.2.2}=>ch x.1.1 x.1.2.1 x.1.2.2.1 x.1.2.2.2.1 x.1.2.2.2.2.1 x.1.2.2.2.2.2.1 x.1.2.2.2.2.2.2.1 x.1.2.2.2.2.2.2.2.1 x.1.2.2.2.2.2.2.2.2.1 x.1.2.2.2.2.2.2.2.2.2.1 x.1.2.2.2.2.2.2.2.2.2.2.1 x.1.2.2.2.2.2.2.2.2.2.2.2.1 x.1.2.2.2.2.2.2.2.2.2.2.2.2.1 x.1.2.2.2.2.2.2.2.2.2.2.2.2.2.1 x.1.2.2.2.2.2.2.2.2.2.2.2.2.2.2]
 | @aX21 ι0 ι1 ι2 ι3 ι4 ι5 ι6 ι7 ι8 ι9 ι10 ι11 ι12 ι13 ι14 ι15 ι16 ι17 ι18 ι19 ι20 v ch,u=> [jM fun x:{x:ι0×ι1×ι2×ι3×ι4×ι5×ι6×ι7×ι8×ι9×ι10×ι11×ι12×ι13×ι14×ι15×ι16×ι17×ι18×ι19×ι20 // u=v x.1 x.2.1 x.2.2.1 x.2.2.2.1 x.2.2.2.2.1 x.2.2.2.2.2.1 x.2.2.2.2.2.2.1 x.2.2.2.2.2.2.2.1 x.2.2.2.2.2.2.2.2.1 x.2.2.2.2.2.2.2.2.2.1 x.2.2.2.2.2.2.2.2.2.2.1 x.2.2.2.2.2.2.2.2.2.2.2.1 x.2.2.2.2.2.2.2.2.2.2.2.2.1 x.2.2.2.2.2.2.2.2.2.2.2.2.2.1 x.2.2.2.2.2.2.2.2.2.2.2.2.2.2.1 x.2.2.2.2.2.2.2.2.2.2.2.2.2.2.2.1 x.2.2.2.2.2.2.2.2.2.2.2.2.2.2.2.2.1 x.2.2.2.2.2.2.2.2.2.2.2.2.2.2.2.2.2.1 x.2.2.2.2.2.2.2.2.2.2.2.2.2.2.2.2.2.2.1 x.2.2.2.2.2.2.2.2.2.2.2.2.2.2.2.2.2.2.2.1 x.2.2.2.2.2.2.2.2.2.2.2.2.2.2.2.2.2.2.2.2}=>ch x.1.1 x.1.2.1 x.1.2.2.1 x.1.2.2.2.1 x.1.2.2.2.2.1 x.1.2.2.2.2.2.1 x.1.2.2.2.2.2.2.1 x.1.2.2.2.2.2.2.2.1 x.1.2.2.2.2.2.2.2.2.1 x.1.2.2.2.2.2.2.2.2.2.1 x.1.2.2.2.2.2.2.2.2.2.2.1 x.1.2.2.2.2.2.2.2.2.2.2.2.1 x.1.2.2.2.2.2.2.2.2.2.2.2.2.1 x.1.2.2.2.2.2.2.2.2.2.2.2.2.2.1 x.1.2.2.2.2.2.2.2.2.2.2.2.2.2.2.1 x.1.2.2.2.2.2.2.2.2.2.2.2.2.2.2.2.1 x.1.2.2.2.2.2.2.2.2.2.2.2.2.2.2.2.2.1 x.1.2.2.2.2.2.2.2.2.2.2.2.2.2.2.2.2.2.1 x.1.2.2.2.2.2.2.2.2.2.2.2.2.2.2.2.2.2.2.1 x.1.2.2.2.2.2.2.2.2.2.2.2.2.2.2.2.2.2.2.2.1 x.1.2.2.2.2.2.2.2.2.2.2.2.2.2.2.2.2.2.2.2.2]
def Op:Asn->(Value->List Chunk->Prop)->Prop
 |aV v,K=>K v []
 |aX1 v ch,K=> ∀x0,K (v x0) (ch x0)
 |aX2 v ch,K=> ∀x0 x1,K (v x0 x1) (ch x0 x1)
 |aX3 v ch,K=> ∀x0 x1 x2,K (v x0 x1 x2) (ch x0 x1 x2)
 |aX4 v ch,K=> ∀x0 x1 x2 x3,K (v x0 x1 x2 x3) (ch x0 x1 x2 x3)
 |aX5 v ch,K=> ∀x0 x1 x2 x3 x4,K (v x0 x1 x2 x3 x4) (ch x0 x1 x2 x3 x4)
 |aX6 v ch,K=> ∀x0 x1 x2 x3 x4 x5,K (v x0 x1 x2 x3 x4 x5) (ch x0 x1 x2 x3 x4 x5)
 |aX7 v ch,K=> ∀x0 x1 x2 x3 x4 x5 x6,K (v x0 x1 x2 x3 x4 x5 x6) (ch x0 x1 x2 x3 x4 x5 x6)
 |aX8 v ch,K=> ∀x0 x1 x2 x3 x4 x5 x6 x7,K (v x0 x1 x2 x3 x4 x5 x6 x7) (ch x0 x1 x2 x3 x4 x5 x6 x7)
 |aX9 v ch,K=> ∀x0 x1 x2 x3 x4 x5 x6 x7 x8,K (v x0 x1 x2 x3 x4 x5 x6 x7 x8) (ch x0 x1 x2 x3 x4 x5 x6 x7 x8)
 |aX10 v ch,K=> ∀x0 x1 x2 x3 x4 x5 x6 x7 x8 x9,K (v x0 x1 x2 x3 x4 x5 x6 x7 x8 x9) (ch x0 x1 x2 x3 x4 x5 x6 x7 x8 x9)
 |aX11 v ch,K=> ∀x0 x1 x2 x3 x4 x5 x6 x7 x8 x9 a1,K (v x0 x1 x2 x3 x4 x5 x6 x7 x8 x9 a1) (ch x0 x1 x2 x3 x4 x5 x6 x7 x8 x9 a1)
 |aX12 v ch,K=> ∀x0 x1 x2 x3 x4 x5 x6 x7 x8 x9 a1 a2,K (v x0 x1 x2 x3 x4 x5 x6 x7 x8 x9 a1 a2) (ch x0 x1 x2 x3 x4 x5 x6 x7 x8 x9 a1 a2)
 |aX15 v ch,K=> ∀x0 x1 x2 x3 x4 x5 x6 x7 x8 x9 a1 a2 a6 a7 a8,K (v x0 x1 x2 x3 x4 x5 x6 x7 x8 x9 a1 a2 a6 a7 a8) (ch x0 x1 x2 x3 x4 x5 x6 x7 x8 x9 a1 a2 a6 a7 a8)
 |aX21 v ch,K=> ∀x0 x1 x2 x3 x4 x5 x6 x7 x8 x9 a1 a2 a6 a7 a8 b0 b1 b2 b3 b4 b5,K (v x0 x1 x2 x3 x4 x5 x6 x7 x8 x9 a1 a2 a6 a7 a8 b0 b1 b2 b3 b4 b5) (ch x0 x1 x2 x3 x4 x5 x6 x7 x8 x9 a1 a2 a6 a7 a8 b0 b1 b2 b3 b4 b5)
theorem hop: ∀(a:Asn) (K:Value->List Chunk->Prop) (u:Value) (L Z:List Chunk) (w:World),Sp Z (a.full u++L) w->a.Op K-> ∃c,K u c/\Sp Z (c++L) w/\ ∀L',Cv (c++L') (a.full u++L')
 |aV v,K,u,L,Z,w,hs,hk=>by
  have h:u=v:=MU hs 0 rfl;subst h;exact ⟨[],hk,cv_tl _ _ hs,fun L'=>I9 J⟩
 | @aX1 ι0 v ch,K,u,L,Z,w,hs,hk=>by
  obtain ⟨⟨x,hx⟩,hs⟩:=lZ hs;subst hx;exact ⟨_,hk x,hs,fun L'=>gF (Q:=fun y:{y:ι0 // v x=v y}=>ch y.1) ⟨x,J⟩⟩
 | @aX2 ι0 ι1 v ch,K,u,L,Z,w,hs,hk=>by
  obtain ⟨⟨x,hx⟩,hs⟩:=lZ hs;subst hx;exact ⟨_,hk x.1 x.2,hs,fun L'=>gF (Q:=fun y:{y:ι0×ι1 // v x.1 x.2=v y.1 y.2}=>ch y.1.1 y.1.2) ⟨x,J⟩⟩
 | @aX3 ι0 ι1 ι2 v ch,K,u,L,Z,w,hs,hk=>by
  obtain ⟨⟨x,hx⟩,hs⟩:=lZ hs;subst hx;exact ⟨_,hk x.1 x.2.1 x.2.2,hs,fun L'=>gF (Q:=fun y:{y:ι0×ι1×ι2 // v x.1 x.2.1 x.2.2=v y.1 y.2.1 y.2.2}=>ch y.1.1 y.1.2.1 y.1.2.2) ⟨x,J⟩⟩
 | @aX4 ι0 ι1 ι2 ι3 v ch,K,u,L,Z,w,hs,hk=>by
  obtain ⟨⟨x,hx⟩,hs⟩:=lZ hs;subst hx;exact ⟨_,hk x.1 x.2.1 x.2.2.1 x.2.2.2,hs,fun L'=>gF (Q:=fun y:{y:ι0×ι1×ι2×ι3 // v x.1 x.2.1 x.2.2.1 x.2.2.2=v y.1 y.2.1 y.2.2.1 y.2.2.2}=>ch y.1.1 y.1.2.1 y.1.2.2.1 y.1.2.2.2) ⟨x,J⟩⟩
 | @aX5 ι0 ι1 ι2 ι3 ι4 v ch,K,u,L,Z,w,hs,hk=>by
  obtain ⟨⟨x,hx⟩,hs⟩:=lZ hs;subst hx;exact ⟨_,hk x.1 x.2.1 x.2.2.1 x.2.2.2.1 x.2.2.2.2,hs,fun L'=>gF (Q:=fun y:{y:ι0×ι1×ι2×ι3×ι4 // v x.1 x.2.1 x.2.2.1 x.2.2.2.1 x.2.2.2.2=v y.1 y.2.1 y.2.2.1 y.2.2.2.1 y.2.2.2.2}=>ch y.1.1 y.1.2.1 y.1.2.2.1 y.1.2.2.2.1 y.1.2.2.2.2) ⟨x,J⟩⟩
 | @aX6 ι0 ι1 ι2 ι3 ι4 ι5 v ch,K,u,L,Z,w,hs,hk=>by
  obtain ⟨⟨x,hx⟩,hs⟩:=lZ hs;subst hx;exact ⟨_,hk x.1 x.2.1 x.2.2.1 x.2.2.2.1 x.2.2.2.2.1 x.2.2.2.2.2,hs,fun L'=>gF (Q:=fun y:{y:ι0×ι1×ι2×ι3×ι4×ι5 // v x.1 x.2.1 x.2.2.1 x.2.2.2.1 x.2.2.2.2.1 x.2.2.2.2.2=v y.1 y.2.1 y.2.2.1 y.2.2.2.1 y.2.2.2.2.1 y.2.2.2.2.2}=>ch y.1.1 y.1.2.1 y.1.2.2.1 y.1.2.2.2.1 y.1.2.2.2.2.1 y.1.2.2.2.2.2) ⟨x,J⟩⟩
 | @aX7 ι0 ι1 ι2 ι3 ι4 ι5 ι6 v ch,K,u,L,Z,w,hs,hk=>by
  obtain ⟨⟨x,hx⟩,hs⟩:=lZ hs;subst hx;exact ⟨_,hk x.1 x.2.1 x.2.2.1 x.2.2.2.1 x.2.2.2.2.1 x.2.2.2.2.2.1 x.2.2.2.2.2.2,hs,fun L'=>gF (Q:=fun y:{y:ι0×ι1×ι2×ι3×ι4×ι5×ι6 // v x.1 x.2.1 x.2.2.1 x.2.2.2.1 x.2.2.2.2.1 x.2.2.2.2.2.1 x.2.2.2.2.2.2=v y.1 y.2.1 y.2.2.1 y.2.2.2.1 y.2.2.2.2.1 y.2.2.2.2.2.1 y.2.2.2.2.2.2}=>ch y.1.1 y.1.2.1 y.1.2.2.1 y.1.2.2.2.1 y.1.2.2.2.2.1 y.1.2.2.2.2.2.1 y.1.2.2.2.2.2.2) ⟨x,J⟩⟩
 | @aX8 ι0 ι1 ι2 ι3 ι4 ι5 ι6 ι7 v ch,K,u,L,Z,w,hs,hk=>by
  obtain ⟨⟨x,hx⟩,hs⟩:=lZ hs;subst hx;exact ⟨_,hk x.1 x.2.1 x.2.2.1 x.2.2.2.1 x.2.2.2.2.1 x.2.2.2.2.2.1 x.2.2.2.2.2.2.1 x.2.2.2.2.2.2.2,hs,fun L'=>gF (Q:=fun y:{y:ι0×ι1×ι2×ι3×ι4×ι5×ι6×ι7 // v x.1 x.2.1 x.2.2.1 x.2.2.2.1 x.2.2.2.2.1 x.2.2.2.2.2.1 x.2.2.2.2.2.2.1 x.2.2.2.2.2.2.2=v y.1 y.2.1 y.2.2.1 y.2.2.2.1 y.2.2.2.2.1 y.2.2.2.2.2.1 y.2.2.2.2.2.2.1 y.2.2.2.2.2.2.2}=>ch y.1.1 y.1.2.1 y.1.2.2.1 y.1.2.2.2.1 y.1.2.2.2.2.1 y.1.2.2.2.2.2.1 y.1.2.2.2.2.2.2.1 y.1.2.2.2.2.2.2.2) ⟨x,J⟩⟩
 | @aX9 ι0 ι1 ι2 ι3 ι4 ι5 ι6 ι7 ι8 v ch,K,u,L,Z,w,hs,hk=>by
  obtain ⟨⟨x,hx⟩,hs⟩:=lZ hs;subst hx;exact ⟨_,hk x.1 x.2.1 x.2.2.1 x.2.2.2.1 x.2.2.2.2.1 x.2.2.2.2.2.1 x.2.2.2.2.2.2.1 x.2.2.2.2.2.2.2.1 x.2.2.2.2.2.2.2.2,hs,fun L'=>gF (Q:=fun y:{y:ι0×ι1×ι2×ι3×ι4×ι5×ι6×ι7×ι8 // v x.1 x.2.1 x.2.2.1 x.2.2.2.1 x.2.2.2.2.1 x.2.2.2.2.2.1 x.2.2.2.2.2.2.1 x.2.2.2.2.2.2.2.1 x.2.2.2.2.2.2.2.2=v y.1 y.2.1 y.2.2.1 y.2.2.2.1 y.2.2.2.2.1 y.2.2.2.2.2.1 y.2.2.2.2.2.2.1 y.2.2.2.2.2.2.2.1 y.2.2.2.2.2.2.2.2}=>ch y.1.1 y.1.2.1 y.1.2.2.1 y.1.2.2.2.1 y.1.2.2.2.2.1 y.1.2.2.2.2.2.1 y.1.2.2.2.2.2.2.1 y.1.2.2.2.2.2.2.2.1 y.1.2.2.2.2.2.2.2.2) ⟨x,J⟩⟩
 | @aX10 ι0 ι1 ι2 ι3 ι4 ι5 ι6 ι7 ι8 ι9 v ch,K,u,L,Z,w,hs,hk=>by
  obtain ⟨⟨x,hx⟩,hs⟩:=lZ hs;subst hx;exact ⟨_,hk x.1 x.2.1 x.2.2.1 x.2.2.2.1 x.2.2.2.2.1 x.2.2.2.2.2.1 x.2.2.2.2.2.2.1 x.2.2.2.2.2.2.2.1 x.2.2.2.2.2.2.2.2.1 x.2.2.2.2.2.2.2.2.2,hs,fun L'=>gF (Q:=fun y:{y:ι0×ι1×ι2×ι3×ι4×ι5×ι6×ι7×ι8×ι9 // v x.1 x.2.1 x.2.2.1 x.2.2.2.1 x.2.2.2.2.1 x.2.2.2.2.2.1 x.2.2.2.2.2.2.1 x.2.2.2.2.2.2.2.1 x.2.2.2.2.2.2.2.2.1 x.2.2.2.2.2.2.2.2.2=v y.1 y.2.1 y.2.2.1 y.2.2.2.1 y.2.2.2.2.1 y.2.2.2.2.2.1 y.2.2.2.2.2.2.1 y.2.2.2.2.2.2.2.1 y.2.2.2.2.2.2.2.2.1 y.2.2.2.2.2.2.2.2.2}=>ch y.1.1 y.1.2.1 y.1.2.2.1 y.1.2.2.2.1 y.1.2.2.2.2.1 y.1.2.2.2.2.2.1 y.1.2.2.2.2.2.2.1 y.1.2.2.2.2.2.2.2.1 y.1.2.2.2.2.2.2.2.2.1 y.1.2.2.2.2.2.2.2.2.2) ⟨x,J⟩⟩
 | @aX11 ι0 ι1 ι2 ι3 ι4 ι5 ι6 ι7 ι8 ι9 ι10 v ch,K,u,L,Z,w,hs,hk=>by
  obtain ⟨⟨x,hx⟩,hs⟩:=lZ hs;subst hx;exact ⟨_,hk x.1 x.2.1 x.2.2.1 x.2.2.2.1 x.2.2.2.2.1 x.2.2.2.2.2.1 x.2.2.2.2.2.2.1 x.2.2.2.2.2.2.2.1 x.2.2.2.2.2.2.2.2.1 x.2.2.2.2.2.2.2.2.2.1 x.2.2.2.2.2.2.2.2.2.2,hs,fun L'=>gF (Q:=fun y:{y:ι0×ι1×ι2×ι3×ι4×ι5×ι6×ι7×ι8×ι9×ι10 // v x.1 x.2.1 x.2.2.1 x.2.2.2.1 x.2.2.2.2.1 x.2.2.2.2.2.1 x.2.2.2.2.2.2.1 x.2.2.2.2.2.2.2.1 x.2.2.2.2.2.2.2.2.1 x.2.2.2.2.2.2.2.2.2.1 x.2.2.2.2.2.2.2.2.2.2=v y.1 y.2.1 y.2.2.1 y.2.2.2.1 y.2.2.2.2.1 y.2.2.2.2.2.1 y.2.2.2.2.2.2.1 y.2.2.2.2.2.2.2.1 y.2.2.2.2.2.2.2.2.1 y.2.2.2.2.2.2.2.2.2.1 y.2.2.2.2.2.2.2.2.2.2}=>ch y.1.1 y.1.2.1 y.1.2.2.1 y.1.2.2.2.1 y.1.2.2.2.2.1 y.1.2.2.2.2.2.1 y.1.2.2.2.2.2.2.1 y.1.2.2.2.2.2.2.2.1 y.1.2.2.2.2.2.2.2.2.1 y.1.2.2.2.2.2.2.2.2.2.1 y.1.2.2.2.2.2.2.2.2.2.2) ⟨x,J⟩⟩
 | @aX12 ι0 ι1 ι2 ι3 ι4 ι5 ι6 ι7 ι8 ι9 ι10 ι11 v ch,K,u,L,Z,w,hs,hk=>by
  obtain ⟨⟨x,hx⟩,hs⟩:=lZ hs;subst hx;exact ⟨_,hk x.1 x.2.1 x.2.2.1 x.2.2.2.1 x.2.2.2.2.1 x.2.2.2.2.2.1 x.2.2.2.2.2.2.1 x.2.2.2.2.2.2.2.1 x.2.2.2.2.2.2.2.2.1 x.2.2.2.2.2.2.2.2.2.1 x.2.2.2.2.2.2.2.2.2.2.1 x.2.2.2.2.2.2.2.2.2.2.2,hs,fun L'=>gF (Q:=fun y:{y:ι0×ι1×ι2×ι3×ι4×ι5×ι6×ι7×ι8×ι9×ι10×ι11 // v x.1 x.2.1 x.2.2.1 x.2.2.2.1 x.2.2.2.2.1 x.2.2.2.2.2.1 x.2.2.2.2.2.2.1 x.2.2.2.2.2.2.2.1 x.2.2.2.2.2.2.2.2.1 x.2.2.2.2.2.2.2.2.2.1 x.2.2.2.2.2.2.2.2.2.2.1 x.2.2.2.2.2.2.2.2.2.2.2=v y.1 y.2.1 y.2.2.1 y.2.2.2.1 y.2.2.2.2.1 y.2.2.2.2.2.1 y.2.2.2.2.2.2.1 y.2.2.2.2.2.2.2.1 y.2.2.2.2.2.2.2.2.1 y.2.2.2.2.2.2.2.2.2.1 y.2.2.2.2.2.2.2.2.2.2.1 y.2.2.2.2.2.2.2.2.2.2.2}=>ch y.1.1 y.1.2.1 y.1.2.2.1 y.1.2.2.2.1 y.1.2.2.2.2.1 y.1.2.2.2.2.2.1 y.1.2.2.2.2.2.2.1 y.1.2.2.2.2.2.2.2.1 y.1.2.2.2.2.2.2.2.2.1 y.1.2.2.2.2.2.2.2.2.2.1 y.1.2.2.2.2.2.2.2.2.2.2.1 y.1.2.2.2.2.2.2.2.2.2.2.2) ⟨x,J⟩⟩
 | @aX15 ι0 ι1 ι2 ι3 ι4 ι5 ι6 ι7 ι8 ι9 ι10 ι11 ι12 ι13 ι14 v ch,K,u,L,Z,w,hs,hk=>by
  obtain ⟨⟨x,hx⟩,hs⟩:=lZ hs;subst hx;exact ⟨_,hk x.1 x.2.1 x.2.2.1 x.2.2.2.1 x.2.2.2.2.1 x.2.2.2.2.2.1 x.2.2.2.2.2.2.1 x.2.2.2.2.2.2.2.1 x.2.2.2.2.2.2.2.2.1 x.2.2.2.2.2.2.2.2.2.1 x.2.2.2.2.2.2.2.2.2.2.1 x.2.2.2.2.2.2.2.2.2.2.2.1 x.2.2.2.2.2.2.2.2.2.2.2.2.1 x.2.2.2.2.2.2.2.2.2.2.2.2.2.1 x.2.2.2.2.2.2.2.2.2.2.2.2.2.2,hs,fun L'=>gF (Q:=fun y:{y:ι0×ι1×ι2×ι3×ι4×ι5×ι6×ι7×ι8×ι9×ι10×ι11×ι12×ι13×ι14 // v x.1 x.2.1 x.2.2.1 x.2.2.2.1 x.2.2.2.2.1 x.2.2.2.2.2.1 x.2.2.2.2.2.2.1 x.2.2.2.2.2.2.2.1 x.2.2.2.2.2.2.2.2.1 x.2.2.2.2.2.2.2.2.2.1 x.2.2.2.2.2.2.2.2.2.2.1 x.2.2.2.2.2.2.2.2.2.2.2.1 x.2.2.2.2.2.2.2.2.2.2.2.2.1 x.2.2.2.2.2.2.2.2.2.2.2.2.2.1 x.2.2.2.2.2.2.2.2.2.2.2.2.2.2=v y.1 y.2.1 y.2.2.1 y.2.2.2.1 y.2.2.2.2.1 y.2.2.2.2.2.1 y.2.2.2.2.2.2.1 y.2.2.2.2.2.2.2.1 y.2.2.2.2.2.2.2.2.1 y.2.2.2.2.2.2.2.2.2.1 y.2.2.2.2.2.2.2.2.2.2.1 y.2.2.2.2.2.2.2.2.2.2.2.1 y.2.2.2.2.2.2.2.2.2.2.2.2.1 y.2.2.2.2.2.2.2.2.2.2.2.2.2.1 y.2.2.2.2.2.2.2.2.2.2.2.2.2.2}=>ch y.1.1 y.1.2.1 y.1.2.2.1 y.1.2.2.2.1 y.1.2.2.2.2.1 y.1.2.2.2.2.2.1 y.1.2.2.2.2.2.2.1 y.1.2.2.2.2.2.2.2.1 y.1.2.2.2.2.2.2.2.2.1 y.1.2.2.2.2.2.2.2.2.2.1 y.1.2.2.2.2.2.2.2.2.2.2.1 y.1.2.2.2.2.2.2.2.2.2.2.2.1 y.1.2.2.2.2.2.2.2.2.2.2.2.2.1 y.1.2.2.2.2.2.2.2.2.2.2.2.2.2.1 y.1.2.2.2.2.2.2.2.2.2.2.2.2.2.2) ⟨x,J⟩⟩
 | @aX21 ι0 ι1 ι2 ι3 ι4 ι5 ι6 ι7 ι8 ι9 ι10 ι11 ι12 ι13 ι14 ι15 ι16 ι17 ι18 ι19 ι20 v ch,K,u,L,Z,w,hs,hk=>by
  obtain ⟨⟨x,hx⟩,hs⟩:=lZ hs;subst hx
  exact ⟨_,hk x.1 x.2.1 x.2.2.1 x.2.2.2.1 x.2.2.2.2.1 x.2.2.2.2.2.1 x.2.2.2.2.2.2.1 x.2.2.2.2.2.2.2.1 x.2.2.2.2.2.2.2.2.1 x.2.2.2.2.2.2.2.2.2.1 x.2.2.2.2.2.2.2.2.2.2.1 x.2.2.2.2.2.2.2.2.2.2.2.1 x.2.2.2.2.2.2.2.2.2.2.2.2.1 x.2.2.2.2.2.2.2.2.2.2.2.2.2.1 x.2.2.2.2.2.2.2.2.2.2.2.2.2.2.1 x.2.2.2.2.2.2.2.2.2.2.2.2.2.2.2.1 x.2.2.2.2.2.2.2.2.2.2.2.2.2.2.2.2.1 x.2.2.2.2.2.2.2.2.2.2.2.2.2.2.2.2.2.1 x.2.2.2.2.2.2.2.2.2.2.2.2.2.2.2.2.2.2.1 x.2.2.2.2.2.2.2.2.2.2.2.2.2.2.2.2.2.2.2.1 x.2.2.2.2.2.2.2.2.2.2.2.2.2.2.2.2.2.2.2.2,hs,fun L'=>gF (Q:=fun y:{y:ι0×ι1×ι2×ι3×ι4×ι5×ι6×ι7×ι8×ι9×ι10×ι11×ι12×ι13×ι14×ι15×ι16×ι17×ι18×ι19×ι20 // v x.1 x.2.1 x.2.2.1 x.2.2.2.1 x.2.2.2.2.1 x.2.2.2.2.2.1 x.2.2.2.2.2.2.1 x.2.2.2.2.2.2.2.1 x.2.2.2.2.2.2.2.2.1 x.2.2.2.2.2.2.2.2.2.1 x.2.2.2.2.2.2.2.2.2.2.1 x.2.2.2.2.2.2.2.2.2.2.2.1 x.2.2.2.2.2.2.2.2.2.2.2.2.1 x.2.2.2.2.2.2.2.2.2.2.2.2.2.1 x.2.2.2.2.2.2.2.2.2.2.2.2.2.2.1 x.2.2.2.2.2.2.2.2.2.2.2.2.2.2.2.1 x.2.2.2.2.2.2.2.2.2.2.2.2.2.2.2.2.1 x.2.2.2.2.2.2.2.2.2.2.2.2.2.2.2.2.2.1 x.2.2.2.2.2.2.2.2.2.2.2.2.2.2.2.2.2.2.1 x.2.2.2.2.2.2.2.2.2.2.2.2.2.2.2.2.2.2.2.1 x.2.2.2.2.2.2.2.2.2.2.2.2.2.2.2.2.2.2.2.2=v y.1 y.2.1 y.2.2.1 y.2.2.2.1 y.2.2.2.2.1 y.2.2.2.2.2.1 y.2.2.2.2.2.2.1 y.2.2.2.2.2.2.2.1 y.2.2.2.2.2.2.2.2.1 y.2.2.2.2.2.2.2.2.2.1 y.2.2.2.2.2.2.2.2.2.2.1 y.2.2.2.2.2.2.2.2.2.2.2.1 y.2.2.2.2.2.2.2.2.2.2.2.2.1 y.2.2.2.2.2.2.2.2.2.2.2.2.2.1 y.2.2.2.2.2.2.2.2.2.2.2.2.2.2.1 y.2.2.2.2.2.2.2.2.2.2.2.2.2.2.2.1 y.2.2.2.2.2.2.2.2.2.2.2.2.2.2.2.2.1 y.2.2.2.2.2.2.2.2.2.2.2.2.2.2.2.2.2.1 y.2.2.2.2.2.2.2.2.2.2.2.2.2.2.2.2.2.2.1 y.2.2.2.2.2.2.2.2.2.2.2.2.2.2.2.2.2.2.2.1 y.2.2.2.2.2.2.2.2.2.2.2.2.2.2.2.2.2.2.2.2}=>ch y.1.1 y.1.2.1 y.1.2.2.1 y.1.2.2.2.1 y.1.2.2.2.2.1 y.1.2.2.2.2.2.1 y.1.2.2.2.2.2.2.1 y.1.2.2.2.2.2.2.2.1 y.1.2.2.2.2.2.2.2.2.1 y.1.2.2.2.2.2.2.2.2.2.1 y.1.2.2.2.2.2.2.2.2.2.2.1 y.1.2.2.2.2.2.2.2.2.2.2.2.1 y.1.2.2.2.2.2.2.2.2.2.2.2.2.1 y.1.2.2.2.2.2.2.2.2.2.2.2.2.2.1 y.1.2.2.2.2.2.2.2.2.2.2.2.2.2.2.1 y.1.2.2.2.2.2.2.2.2.2.2.2.2.2.2.2.1 y.1.2.2.2.2.2.2.2.2.2.2.2.2.2.2.2.2.1 y.1.2.2.2.2.2.2.2.2.2.2.2.2.2.2.2.2.2.1 y.1.2.2.2.2.2.2.2.2.2.2.2.2.2.2.2.2.2.2.1 y.1.2.2.2.2.2.2.2.2.2.2.2.2.2.2.2.2.2.2.2.1 y.1.2.2.2.2.2.2.2.2.2.2.2.2.2.2.2.2.2.2.2.2) ⟨x,J⟩⟩
end Asn
open Asn
theorem aQ {u v:Value}{L L0:List Chunk}(hp:u=v)(h:Cv L L0):Cv L ((Asn.aV v).full u++L0):=h.trans (I9 hp)
theorem Qm {ι0:Type}{v:ι0->Value}{ch:ι0->List Chunk}{L L0:List Chunk}(x0:ι0)(h:Cv L (ch x0++L0)):Cv L ((Asn.aX1 v ch).full (v x0)++L0):=h.trans (gF (Q:=fun y:{y:ι0 // v x0=v y}=>ch y.1) ⟨x0,rfl⟩)
theorem vc {ι0 ι1 ι2:Type}{v:ι0->ι1->ι2->Value}{ch:ι0->ι1->ι2->List Chunk}{L L0:List Chunk}(x0:ι0)(x1:ι1)(x2:ι2)(h:Cv L (ch x0 x1 x2++L0)):Cv L ((Asn.aX3 v ch).full (v x0 x1 x2)++L0):=h.trans (gF (Q:=fun y:{y:ι0×ι1×ι2 // v x0 x1 x2=v y.1 y.2.1 y.2.2}=>ch y.1.1 y.1.2.1 y.1.2.2) ⟨(x0,x1,x2),rfl⟩)
theorem Qk {ι0 ι1 ι2 ι3 ι4 ι5:Type}{v:ι0->ι1->ι2->ι3->ι4->ι5->Value}{ch:ι0->ι1->ι2->ι3->ι4->ι5->List Chunk}{L L0:List Chunk}(x0:ι0)(x1:ι1)(x2:ι2)(x3:ι3)(x4:ι4)(x5:ι5)(h:Cv L (ch x0 x1 x2 x3 x4 x5++L0)):Cv L ((Asn.aX6 v ch).full (v x0 x1 x2 x3 x4 x5)++L0):=h.trans (gF (Q:=fun y:{y:ι0×ι1×ι2×ι3×ι4×ι5 // v x0 x1 x2 x3 x4 x5=v y.1 y.2.1 y.2.2.1 y.2.2.2.1 y.2.2.2.2.1 y.2.2.2.2.2}=>ch y.1.1 y.1.2.1 y.1.2.2.1 y.1.2.2.2.1 y.1.2.2.2.2.1 y.1.2.2.2.2.2) ⟨(x0,x1,x2,x3,x4,x5),rfl⟩)
theorem Ql {ι0 ι1 ι2 ι3 ι4 ι5 ι6 ι7 ι8 ι9 ι10 ι11:Type}{v:ι0->ι1->ι2->ι3->ι4->ι5->ι6->ι7->ι8->ι9->ι10->ι11->Value}{ch:ι0->ι1->ι2->ι3->ι4->ι5->ι6->ι7->ι8->ι9->ι10->ι11->List Chunk}{L L0:List Chunk}(x0:ι0)(x1:ι1)(x2:ι2)(x3:ι3)(x4:ι4)(x5:ι5)(x6:ι6)(x7:ι7)(x8:ι8)(x9:ι9)(a1:ι10)(a2:ι11)(h:Cv L (ch x0 x1 x2 x3 x4 x5 x6 x7 x8 x9 a1 a2++L0)):Cv L ((Asn.aX12 v ch).full (v x0 x1 x2 x3 x4 x5 x6 x7 x8 x9 a1 a2)++L0):=h.trans (gF (Q:=fun y:{y:ι0×ι1×ι2×ι3×ι4×ι5×ι6×ι7×ι8×ι9×ι10×ι11 // v x0 x1 x2 x3 x4 x5 x6 x7 x8 x9 a1 a2=v y.1 y.2.1 y.2.2.1 y.2.2.2.1 y.2.2.2.2.1 y.2.2.2.2.2.1 y.2.2.2.2.2.2.1 y.2.2.2.2.2.2.2.1 y.2.2.2.2.2.2.2.2.1 y.2.2.2.2.2.2.2.2.2.1 y.2.2.2.2.2.2.2.2.2.2.1 y.2.2.2.2.2.2.2.2.2.2.2}=>ch y.1.1 y.1.2.1 y.1.2.2.1 y.1.2.2.2.1 y.1.2.2.2.2.1 y.1.2.2.2.2.2.1 y.1.2.2.2.2.2.2.1 y.1.2.2.2.2.2.2.2.1 y.1.2.2.2.2.2.2.2.2.1 y.1.2.2.2.2.2.2.2.2.2.1 y.1.2.2.2.2.2.2.2.2.2.2.1 y.1.2.2.2.2.2.2.2.2.2.2.2) ⟨(x0,x1,x2,x3,x4,x5,x6,x7,x8,x9,a1,a2),rfl⟩)
theorem OK {ι0 ι1 ι2 ι3 ι4 ι5 ι6 ι7 ι8 ι9 ι10 ι11 ι12 ι13 ι14:Type}{v:ι0->ι1->ι2->ι3->ι4->ι5->ι6->ι7->ι8->ι9->ι10->ι11->ι12->ι13->ι14->Value}{ch:ι0->ι1->ι2->ι3->ι4->ι5->ι6->ι7->ι8->ι9->ι10->ι11->ι12->ι13->ι14->List Chunk}{L L0:List Chunk}(x0:ι0)(x1:ι1)(x2:ι2)(x3:ι3)(x4:ι4)(x5:ι5)(x6:ι6)(x7:ι7)(x8:ι8)(x9:ι9)(a1:ι10)(a2:ι11)(a6:ι12)(a7:ι13)(a8:ι14)(h:Cv L (ch x0 x1 x2 x3 x4 x5 x6 x7 x8 x9 a1 a2 a6 a7 a8++L0)):Cv L ((Asn.aX15 v ch).full (v x0 x1 x2 x3 x4 x5 x6 x7 x8 x9 a1 a2 a6 a7 a8)++L0):=h.trans (gF (Q:=fun y:{y:ι0×ι1×ι2×ι3×ι4×ι5×ι6×ι7×ι8×ι9×ι10×ι11×ι12×ι13×ι14 // v x0 x1 x2 x3 x4 x5 x6 x7 x8 x9 a1 a2 a6 a7 a8=v y.1 y.2.1 y.2.2.1 y.2.2.2.1 y.2.2.2.2.1 y.2.2.2.2.2.1 y.2.2.2.2.2.2.1 y.2.2.2.2.2.2.2.1 y.2.2.2.2.2.2.2.2.1 y.2.2.2.2.2.2.2.2.2.1 y.2.2.2.2.2.2.2.2.2.2.1 y.2.2.2.2.2.2.2.2.2.2.2.1 y.2.2.2.2.2.2.2.2.2.2.2.2.1 y.2.2.2.2.2.2.2.2.2.2.2.2.2.1 y.2.2.2.2.2.2.2.2.2.2.2.2.2.2}=>ch y.1.1 y.1.2.1 y.1.2.2.1 y.1.2.2.2.1 y.1.2.2.2.2.1 y.1.2.2.2.2.2.1 y.1.2.2.2.2.2.2.1 y.1.2.2.2.2.2.2.2.1 y.1.2.2.2.2.2.2.2.2.1 y.1.2.2.2.2.2.2.2.2.2.1 y.1.2.2.2.2.2.2.2.2.2.2.1 y.1.2.2.2.2.2.2.2.2.2.2.2.1 y.1.2.2.2.2.2.2.2.2.2.2.2.2.1 y.1.2.2.2.2.2.2.2.2.2.2.2.2.2.1 y.1.2.2.2.2.2.2.2.2.2.2.2.2.2.2) ⟨(x0,x1,x2,x3,x4,x5,x6,x7,x8,x9,a1,a2,a6,a7,a8),rfl⟩)
def GO (ds:List Nat)(As:List Asn):List Nat->(bG->List Chunk->List Chunk->Prop)->bG->List Chunk->List Chunk->Prop
 | [],K,s,L,L2=>K s L L2
 |i::r,K,s,L,L2=>(As.getD i (aV undef)).Op fun u c=>GO ds As r (fun s' L' L2'=>K ((ds.getD i 0,u)::s') (c++L') (c++L2')) s L L2
abbrev NB (ds:List Nat)(As:List Asn)(ix:List Nat)(K:bG->List Chunk->Prop)(s:bG)(L:List Chunk):Prop:=GO ds As ix (fun s L _=>K s L) s L L
def td (As:List Asn):List (Value->List Chunk):=As.map Asn.full
theorem Bg (As:List Asn)(i:Nat)(h:i<As.length):(td As).getD i (fun _=> [])=(As.getD i (aV undef)).full:=by
 simp [td,h]
section
variable {As:List Asn} {val:Nat->Value} {ds:List Nat}
theorem G9 {i:Nat}{r:List Nat}{L:List Chunk}(hi:i<As.length):BP (td As) val (i::r) L=(As.getD i (aV undef)).full (val i)++BP (td As) val r L:=by
 unfold BP;rw [List.flatMap_cons,Bg _ _ hi,TS]
theorem uZ {s:bG}{L L2:List Chunk}{w:World}: ∀(ix:List Nat) (K:bG->List Chunk->List Chunk->Prop) (Z:List Chunk),(∀i∈ix,i<As.length)->Sp Z (BP (td As) val ix L) w->GO ds As ix K s L L2-> ∃C,K (Ec ds val ix s) (C++L) (C++L2)/\Sp Z (C++L) w/\ ∀L',Cv (C++L') (BP (td As) val ix L')
 | [],K,Z,_,hw,h=>⟨[],h,hw,fun L'=>ad _⟩
 | i::r,K,Z,hi,hw,h=>by
  have hil:=hi i (by simp);rw [G9 hil] at hw;obtain ⟨c,h1,h2,h3⟩:=(As.getD i (aV undef)).hop _ _ _ _ _ hw h
  have h4:Sp (c++Z) (BP (td As) val r L) w:=SepL.perm h2 (by
   show ((c++BP (td As) val r L)++Z).Perm (BP (td As) val r L++(c++Z));rw [TS]
   exact (List.perm_append_comm_assoc _ _ _))
  obtain ⟨C,g1,g2,g3⟩:=uZ r _ (c++Z) (fun j hj=>hi j (by simp [hj])) h4 h1;refine ⟨c++C,?_,?_,fun L'=> ?_⟩
  ·rw [TS,TS];exact g1
  ·rw [TS];refine SepL.perm g2 ?_;show ((C++L)++(c++Z)).Perm ((c++(C++L))++Z);rw [TS c (C++L) Z];exact List.perm_append_comm_assoc _ _ _
  rw [TS,G9 hil];exact (su c (g3 L')).trans (h3 _)
variable {P:Program} {ops:Array Oper} {s:bG} {o:Oper} {A:Value->List Chunk} {L L2:List Chunk}
theorem KG {ix:List Nat}(hi: ∀i∈ix,i<As.length)(h:GO ds As ix (fun s' L' L''=>Ow P ops s' L' L'' o A) s L L2):Ow P ops (Ec ds val ix s) (BP (td As) val ix L) (BP (td As) val ix L2) o A:=fun Z w hw=>by
 obtain ⟨C,h1,h2,h3⟩:=uZ ix _ Z hi hw h;rcases h1 Z w h2 with ⟨h1,h2⟩|⟨h1,h2⟩
 ·refine .inl ⟨h1,fun ρ hρ=> ?_⟩;rcases h2 ρ hρ with ⟨v,w',L',h1,h2,h4⟩|⟨w',L',h1,h2,h4⟩|⟨f,args,h1,h2⟩|⟨l,f,t,a,b,h1,h2⟩
  ·exact .inl ⟨v,w',L',h1,h2,h4.trans (su _ (h3 _))⟩
  ·exact .inr (.inl ⟨w',L',h1,h2,h4.trans (su _ (h3 _))⟩)
  ·exact .inr (.inr (.inl ⟨f,args,h1,h2.mono fun e w' ⟨v,L',g1,g2,g3⟩=>⟨v,L',g1,g2,g3.trans (su _ (h3 _))⟩⟩))
  exact .inr (.inr (.inr ⟨l,f,t,a,b,h1,h2.mono fun e w' ⟨v,L',g1,g2,g3⟩=>⟨v,L',g1,g2,g3.trans (su _ (h3 _))⟩⟩))
 exact .inr ⟨h1,su _ (h3 _) _ _ h2⟩
theorem KP {ix:List Nat}(hi: ∀i∈ix,i<As.length)(h:NB ds As ix (fun s' L'=>Rp P ops s' L' L' o A) s L):QS P ops (Ec ds val ix s) (BP (td As) val ix L) o A:=fun Z w hw=>by
 obtain ⟨C,h1,h2,h3⟩:=uZ ix _ Z hi hw h;obtain ⟨v,g1,g2,g3⟩:=h1 Z w h2;exact ⟨v,g1,g2,su _ (h3 _) _ _ g3⟩
theorem Pm {X:Cx}{K:K3}{fuel:Nat}{listed:Array Bool}{ix:List Nat}(hi: ∀i∈ix,i<As.length)(h:NB ds As ix (fun s' L'=>Hj X ops K fuel listed s' L') s L):Hj X ops K fuel listed (Ec ds val ix s) (BP (td As) val ix L):=fun H Ds a w ha hds hw=>by
 obtain ⟨C,h1,h2,h3⟩:=uZ ix _ _ hi hw h;exact h1 H Ds a w ha hds h2
end
theorem lW {s t:bG}(h:AB s t:=by first|exact bu|(repeat (first|exact MR|refine dt rfl ?_))):AB s t:=h
end
section
variable {A0:Option Addr} {M1:Nat}
open Go.RowKit
class Fc (p:Prop):Prop where out:p
class FcA (P:Program) (t f:Nat) (o':outParam Nat):Prop where
  out: ∀b o w,(Instr.fieldAt t (.pointer (some ⟨b,o,none⟩)) f).run P w=.ok (.pointer (some ⟨b,o+o',none⟩)) w
class FcA0 (P:Program) (t f:Nat):Prop where
  out: ∀b o w,(Instr.fieldAt t (.pointer (some ⟨b,o,none⟩)) f).run P w=.ok (.pointer (some ⟨b,o,none⟩)) w
class FcS (P:Program) (t:Nat) (e:outParam Nat):Prop where
  out:P.underlying t=some (.slice e)
class FcG (P:Program) (t:Nat) (m:outParam Nat):Prop where
  out:Ef P t m=true
class FcZ (P:Program) (e:Nat) (sz:outParam Nat):Prop where
  out:lJ P e sz=true
def J1:IntKind->IntKind->Bool
  | .i64,.i64=>true
  | .u64,.u64=>true
  | .u8,.u8=>true
  | .i32,.i32=>true
  | .u32,.u32=>true
  | .u16,.u16=>true
  | .i16,.i16=>true
  | .i8,.i8=>true
  |_,_=>false
theorem Be {a b:IntKind}(h:J1 a b=true):a=b:=by
  cases a<;>cases b<;>first|rfl|cases h
def Qy (s:bG):Op->Option Value
  | .move x=>bC s x
  | .assign x=>bC s x
  | .unOp .not _ x=>match bC s x with|some (.bool b)=>some (.bool (!b))|_=>none
  | .binOp .eql _ x y _=>match bC s x,bC s y with|some (.int k a),some (.int k' b)=>bif J1 k k' then some (.bool (decide (a=b))) else none|_,_=>none
  | .binOp .neq _ x y _=>match bC s x,bC s y with|some (.int k a),some (.int k' b)=>bif J1 k k' then some (.bool (!decide (a=b))) else none|_,_=>none
  | .binOp .lss _ x y _=>match bC s x,bC s y with|some (.int k a),some (.int k' b)=>bif J1 k k' then some (.bool (decide (a<b))) else none|_,_=>none
  | .binOp .leq _ x y _=>match bC s x,bC s y with|some (.int k a),some (.int k' b)=>bif J1 k k' then some (.bool (decide (a<=b))) else none|_,_=>none
  | .binOp .gtr _ x y _=>match bC s x,bC s y with|some (.int k a),some (.int k' b)=>bif J1 k k' then some (.bool (decide (b<a))) else none|_,_=>none
  | .binOp .geq _ x y _=>match bC s x,bC s y with|some (.int k a),some (.int k' b)=>bif J1 k k' then some (.bool (decide (b<=a))) else none|_,_=>none
  | .pick c x y=>match bC s c with|some (.bool true)=>bC s x|some (.bool false)=>bC s y|_=>none
  | .extract x i=>match bC s x with|some (.tuple vs)=>vs[i]? |_=>none
  | .nilCheck x=>match bC s x with|some (.pointer (some a))=>some (.pointer (some a))|_=>none
  |_=>none
section
variable {P:Program} {s:bG} {L:List Chunk} {d:Option Nat} {ty:TypeId} {pos:String} {af:Array Edge} {gd:Option (Nat×Bool)} {op:Op} {v:Value}
theorem LX (h:Qy s op=some v):Ev P s (fun _=>True) ⟨d,op,ty,pos,af,gd⟩ v:=by
  unfold Qy at h;split at h
  ·exact aX h
  ·exact EQ h
  · split at h
    ·cases h;exact H1 ‹_›
    ·cases h
  · split at h
    · rename_i k a k' b hx hy
      cases hk:J1 k k' with
      |false=>rw [hk] at h;cases h
      |true=>rw [hk] at h;cases Be hk;cases h;exact DI hx hy
    ·cases h
  · split at h
    · rename_i k a k' b hx hy
      cases hk:J1 k k' with
      |false=>rw [hk] at h;cases h
      |true=>rw [hk] at h;cases Be hk;cases h;exact I3 hx hy
    ·cases h
  · split at h
    · rename_i k a k' b hx hy
      cases hk:J1 k k' with
      |false=>rw [hk] at h;cases h
      |true=>rw [hk] at h;cases Be hk;cases h;exact Qf hx hy
    ·cases h
  · split at h
    · rename_i k a k' b hx hy
      cases hk:J1 k k' with
      |false=>rw [hk] at h;cases h
      |true=>rw [hk] at h;cases Be hk;cases h;exact Qg hx hy
    ·cases h
  · split at h
    · rename_i k a k' b hx hy
      cases hk:J1 k k' with
      |false=>rw [hk] at h;cases h
      |true=>rw [hk] at h;cases Be hk;cases h;exact Qh hx hy
    ·cases h
  · split at h
    · rename_i k a k' b hx hy
      cases hk:J1 k k' with
      |false=>rw [hk] at h;cases h
      |true=>rw [hk] at h;cases Be hk;cases h;exact OG hx hy
    ·cases h
  · split at h
    ·exact xM ‹_› h
    ·exact Bj ‹_› h
    ·cases h
  · split at h
    ·exact sj ‹_› h
    ·cases h
  · split at h
    ·cases h;exact bE ‹_›
    ·cases h
  ·cases h
end
structure RunT (X:Cx) (ops:Array Oper) (o:Oper) (rest:List Oper) (K:K3) (s:bG) (L:List Chunk):Prop where
  out:bn ops s o=some true->bT X ops (o::rest) K s L
section
variable {X:Cx} {ops:Array Oper} {K:K3} {s:bG} {L:List Chunk} {l rest:List Oper} {c:Code} {d:Nat} {op:Op} {ty:TypeId} {pos:String} {af:Array Edge} {gd:Option (Nat×Bool)} {v:Value}
theorem QO {o:Oper}(h:RunT X ops o rest K s L)(hg:bn ops s o=some true:=by first|exact rfl|exact cB (by assumption) rfl|exact fN (by assumption) rfl):bT X ops (o::rest) K s L:=h.out hg
theorem QP (k:bT X ops rest K ((d,undef)::s) L)(hg:bn ops s ⟨some d,op,ty,pos,af,gd⟩=some false:=by first|exact rfl|exact tH (by assumption) rfl|exact nw (by assumption) rfl)(hd:Nat.ble (d+1) X.n=true:=by exact rfl):bT X ops (⟨some d,op,ty,pos,af,gd⟩::rest) K s L:=Rs hg hd k
theorem tE (h:Qy s op=some v)(hn:ij ⟨some d,op,ty,pos,af,gd⟩=true)(hd:Nat.ble (d+1) X.n=true)(k:bT X ops rest K ((d,v)::s) L):RunT X ops ⟨some d,op,ty,pos,af,gd⟩ rest K s L:=⟨fun hg=>qk (LX h) hn hg hd k⟩
theorem tP {c x y:Operand}{g:Bool}(hc:bC s c=some (.bool g))(hg:g=true)(hx:bC s x=some v)(hd:Nat.ble (d+1) X.n=true)(k:bT X ops rest K ((d,v)::s) L):RunT X ops ⟨some d,.pick c x y,ty,pos,af,gd⟩ rest K s L:=⟨fun hh=>qk (gM hg hc hx) rfl hh hd k⟩
theorem tQ {c x y:Operand}{g:Bool}(hc:bC s c=some (.bool g))(hg:g=false)(hy:bC s y=some v)(hd:Nat.ble (d+1) X.n=true)(k:bT X ops rest K ((d,v)::s) L):RunT X ops ⟨some d,.pick c x y,ty,pos,af,gd⟩ rest K s L:=⟨fun hh=>qk (gN hg hc hy) rfl hh hd k⟩
theorem RD {t f:Nat}{x:Operand}{b o:Nat}[h:FcA0 X.P t f](hx:bC s x=some (.pointer (some ⟨b,o,none⟩)))(hd:Nat.ble (d+1) X.n=true)(k:bT X ops rest K ((d,.pointer (some ⟨b,o,none⟩))::s) L):RunT X ops ⟨some d,.fieldAddr t x f,ty,pos,af,gd⟩ rest K s L:=⟨fun hh=>qk (ni hx h.out) rfl hh hd k⟩
theorem tF {t f o':Nat}{x:Operand}{b o:Nat}[h:FcA X.P t f o'](hx:bC s x=some (.pointer (some ⟨b,o,none⟩)))(hd:Nat.ble (d+1) X.n=true)(k:bT X ops rest K ((d,.pointer (some ⟨b,o+o',none⟩))::s) L):RunT X ops ⟨some d,.fieldAddr t x f,ty,pos,af,gd⟩ rest K s L:=⟨fun hh=>qk (dj hx h.out) rfl hh hd k⟩
theorem tB {t bt:TypeId}{x:Operand}{b o:Nat}{cs:List Value}[hu:Fc (fK X.P t=true)](i:Nat)(hi:L[i]? =some (ab b bt cs))(hx:bC s x=some (.pointer (some ⟨b,o,none⟩)))(hc:cs[o]? =some v)(hd:Nat.ble (d+1) X.n=true)(k:bT X ops rest K ((d,v)::s) L):RunT X ops ⟨some d,.load t x,ty,pos,af,gd⟩ rest K s L:=⟨fun hh=>vR (bp i hi hx hu.out hc) rfl hh hd k⟩
theorem PI (h:bT X ops l K s L):bT X ops l K s L:=h
theorem Q6 {s2:bG}{L2:List Chunk}(h:bT X ops l (BT s2 L2) s L):bT X ops l (BT s2 L2) s L:=h
theorem Q8 {o:Oper}{l':List Oper}(hl:l'=o::l)(h:bT X ops (o::l) K s L):bT X ops l' K s L:=hl▸h
theorem Q5 {l':List Oper}(hl:l'=[])(h:K .normal s L):bT X ops l' K s L:=hl▸MF h
theorem Q7 {id:Nat}{g:Operand}{ps:Array Nat}{x y:Code}(h:Wq X (.block id (.rangeFunc g ps x y)) K s L):Wq X (.block id (.rangeFunc g ps x y)) K s L:=h
theorem Q3 (h:Wq X c K s L):Wq X c K s L:=h
end
structure Bxd (q:Prop):Prop where un:q
theorem Y {p q:Prop}(k:q)(h:Bxd q->p:=by
  intro k
  repeat (first
    | (with_reducible refine PI ?_
       refine Q8 J ?_
       first
         | (refine QO ?_
            first
              |refine tE rfl rfl rfl ?_
              |refine RD rfl rfl ?_
              |refine tF rfl rfl ?_
              |refine tB 0 rfl rfl rfl rfl ?_
              |refine tB 1 rfl rfl rfl rfl ?_
              |refine tB 2 rfl rfl rfl rfl ?_
              |refine tB 3 rfl rfl rfl rfl ?_
              |refine tB 4 rfl rfl rfl rfl ?_
              |refine tB 5 rfl rfl rfl rfl ?_
              |refine tB 6 rfl rfl rfl rfl ?_
              |refine tB 7 rfl rfl rfl rfl ?_
              |refine tP rfl (by assumption) rfl rfl ?_
              |refine tQ rfl (by assumption) rfl rfl ?_)
         |refine QP ?_)
    | (with_reducible refine PI ?_
       fail_if_success with_reducible refine Q6 ?_
       refine Q5 J ?_)
    | (with_reducible refine Q3 ?_
       first
         |refine aG (qj ?_)
         |with_reducible refine qj ?_
         |with_reducible refine Ii ?_
         | (fail_if_success with_reducible refine Q7 ?_
            with_reducible refine tq ?_)
         |with_reducible refine ME ?_
         |with_reducible refine Ij ?_)
    |with_reducible refine yM ?_
    |with_reducible refine Oq ?_
    |with_reducible refine Pt ?_
    |with_reducible refine Ps ?_
    |with_reducible refine O6 ?_
    |with_reducible refine O7 ?_)
  exact k.un):p:=h ⟨k⟩
theorem QU {p q:Prop}(k:q)(h:Bxd q->p:=by
  intro k
  repeat (first
    | (with_reducible refine PI ?_
       refine Q8 J ?_
       first
         | (refine QO ?_
            first
              |refine tE rfl rfl rfl ?_
              |refine RD rfl rfl ?_
              |refine tF rfl rfl ?_
              |refine tB 0 rfl rfl rfl rfl ?_
              |refine tB 1 rfl rfl rfl rfl ?_
              |refine tB 2 rfl rfl rfl rfl ?_
              |refine tB 3 rfl rfl rfl rfl ?_
              |refine tB 4 rfl rfl rfl rfl ?_
              |refine tB 5 rfl rfl rfl rfl ?_
              |refine tB 6 rfl rfl rfl rfl ?_
              |refine tB 7 rfl rfl rfl rfl ?_
              |refine tP rfl (by assumption) rfl rfl ?_
              |refine tQ rfl (by assumption) rfl rfl ?_)
         |refine QP ?_))
  exact k.un):p:=h ⟨k⟩
theorem Se {p q:Prop}(k:q)(h:Bxd q->p:=by
  intro k
  repeat (first
    | (with_reducible refine PI ?_
       fail_if_success with_reducible refine Q6 ?_
       refine Q5 J ?_)
    | (with_reducible refine Q3 ?_
       first
         |refine aG (qj ?_)
         |with_reducible refine qj ?_
         |with_reducible refine Ii ?_
         | (fail_if_success with_reducible refine Q7 ?_
            with_reducible refine tq ?_)
         |with_reducible refine ME ?_
         |with_reducible refine Ij ?_)
    |with_reducible refine yM ?_
    |with_reducible refine Oq ?_
    |with_reducible refine Pt ?_
    |with_reducible refine Ps ?_
    |with_reducible refine O6 ?_
    |with_reducible refine O7 ?_)
  exact k.un):p:=h ⟨k⟩
end
section
variable {A0:Option Addr} {M1:Nat}
open Go.RowKit
open Asn
def Iq (m:Nat)(listed:Array Bool)(Bs:List (List Chunk)):List Chunk:=((List.range m).filter fun i=> !listed.getD i false).flatMap fun i=>Bs.getD i []
theorem Ip {m:Nat}{listed:Array Bool}{Bs:List (List Chunk)}(h: ∀i,i<m->listed.getD i false=true):Iq m listed Bs=[]:=by
 unfold Iq;rw [List.filter_eq_nil_iff.2 fun i hi=>by rw [h i (List.mem_range.1 hi)];simp];rfl
theorem Ky {m j:Nat}{listed:Array Bool}{Bs:List (List Chunk)}(hj:j<m)(hf:listed.getD j false=false)(hs:j<listed.size):(Iq m listed Bs).Perm (Bs.getD j []++Iq m (listed.setIfInBounds j true) Bs):=by
 unfold Iq
 have hp:((List.range m).filter fun i=> !listed.getD i false).Perm (j::(List.range m).filter fun i=> !(listed.setIfInBounds j true).getD i false):=by
  refine (List.perm_ext_iff_of_nodup (List.nodup_range.filter _) (List.nodup_cons.2 ⟨fun h=> ?_,List.nodup_range.filter _⟩)).2 fun k=> ?_
  ·have h2:=(List.mem_filter.1 h).2;simp [hs] at h2
  rw [List.mem_cons,List.mem_filter,List.mem_filter];by_cases e:k=j
  ·subst e;simp [hj,hf]
  have h3:(listed.setIfInBounds j true).getD k false=listed.getD k false:=by
   simp [Array.getElem?_setIfInBounds_ne (fun h=>e h.symm)]
  rw [h3];simp [e]
 exact hp.flatMap_right _
theorem JG {α:Type}{F Fp Fr hD B U' L D:List α}(h1:F.Perm (Fp++Fr))(h2:hD.Perm (B++U')):(F++(hD++L)++D).Perm ((Fp++(B++L))++(Fr++(U'++D))):=by
 classical
 rw [List.perm_iff_count] at h1 h2⊢;intro x;have:=h1 x;have:=h2 x;simp only [List.count_append] at*;omega
theorem KS {α:Type}{F F' Fp Fr A hD L D:List α}(h1:F'.Perm (A++F))(h2:F.Perm (Fp++Fr)):((A++(Fp++L))++(Fr++(hD++D))).Perm (F'++(hD++L)++D):=by
 classical
 rw [List.perm_iff_count] at h1 h2⊢;intro x;have:=h1 x;have:=h2 x;simp only [List.count_append] at*;omega
theorem Oz {X:Cx}{K:K3}{s:bG}{L:List Chunk}{id:Nat}{l:List Oper}(hm:X.P.follows .mixedOrders=true)(m:Nat)(qs:List Nat)(ds:List Nat)(pr:List (List Nat))(As:List (Value->List Chunk))(Bs:List (List Chunk)){L0:List Chunk}(hL:Cv L0 (Iq m (Array.replicate l.length false) Bs++L))(hBq: ∀q∈qs,Bs.getD q []=[])(hok:P3 l.toArray m qs ds pr s X.n=true)
  (qstep: ∀q∈qs, ∀(o:Oper),q<m->l.toArray[q]? =some o-> ∀val:Nat->Value,QS X.P l.toArray (Ec ds val (pr.getD q []) s) (BP As val (pr.getD q []) L) o (As.getD q fun _=> []))
  (step: ∀(i:Nat) (o:Oper),i<m->l.toArray[i]? =some o-> ∀val:Nat->Value,Ow X.P l.toArray (Ec ds val (pr.getD i []) s) (BP As val (pr.getD i []) (Bs.getD i []++L)) (BP As val (pr.getD i []) L) o (As.getD i fun _=> []))
  (fin: ∀val:Nat->Value,Hj X l.toArray K (l.length - m) (rJ (Array.replicate l.length false) (List.range m)) (Ec ds val (List.range m) s) (BP As val (List.range m) L)):Wq X (.region id l.toArray true) K s L0:=by
 unfold P3 at hok;simp only [Uf,decide_eq_true_eq,List.all_eq_true,List.mem_range] at hok;obtain ⟨⟨⟨⟨⟨⟨⟨⟨hns,hqs⟩,h1⟩,h2⟩,h3⟩,h4⟩,h5⟩,h6⟩,h7⟩:=hok;simp only [List.size_toArray] at h2 h7 hqs
 have hdst: ∀i o,i<m->l.toArray[i]? =some o->o.dst=some (ds.getD i 0):=fun i o hi ho=>by
  have h8:=(h6 i hi).1.1.1;rw [ho] at h8
  have h9:o.dst=ds[i]? :=by simpa using h8
  rw [h9];simp [List.getD,h3,hi]
 have hds: ∀i j,i<m->j<m->ds.getD i 0=ds.getD j 0->i=j:=fun i j hi hj e=>by
  have e1:ds.getD i 0=ds[i]'V:=by simp [List.getD,h3,hi]
  have e2:ds.getD j 0=ds[j]'V:=by simp [List.getD,h3,hj]
  rw [e1,e2] at e;have hp:=List.pairwise_iff_getElem.1 h4;rcases Nat.lt_trichotomy i j with h|h|h
  ·exact absurd e (hp i j V V h)
  ·exact h
  exact absurd e.symm (hp j i V V h)
 have hdn: ∀i,i<m->ds.getD i 0<X.n/\ ∀k v,jO s k=some v->k≠ds.getD i 0:=fun i hi=>by
  have hmem:ds.getD i 0∈ds:=by
   have e1:ds.getD i 0=ds[i]'V:=by simp [List.getD,h3,hi]
   rw [e1];exact Uh _
  have h8:=h5 _ hmem;refine ⟨Nat.le_of_ble_eq_true h8.1,fun k v hp e=> ?_⟩;have h9:=h8.2 _ (ul _ _ _ hp);simp only [e,Nat.beq_refl] at h9;cases h9
 have hpr: ∀i,i<m->(∀k∈pr.getD i [],k∈AP l.toArray i/\k<m)/\(pr.getD i []).Nodup/\ ∀k∈zG l.toArray i,k<i:=fun i hi=>by
  obtain ⟨⟨⟨-,g2⟩,g3⟩,g4⟩:=h6 i hi;refine ⟨fun k hk=> ?_,g3,fun k hk=> ?_⟩
  ·have g5:=g2 k hk;exact ⟨by simpa using g5.1,Nat.lt_of_succ_le (Nat.le_of_ble_eq_true g5.2)⟩
  exact Nat.lt_of_succ_le (Nat.le_of_ble_eq_true (g4 k hk))
 -- the invariant
 have main: ∀(fuel:Nat) (listed:Array Bool) (val:Nat->Value) (H:List Chunk) (Ds:List Nat) (a:Act) (w:World),listed.size=l.length->Cs l.toArray listed->(∀t,m<=t->listed.getD t false=false)->fuel+(DY m listed).length=l.length->Fx X s a->(∀i,i<m->listed.getD i false=true->a.tmps.getD (ds.getD i 0) undef=val i)->a.defers=Ds.map vH->Sp (Ds.map cr++H) (BP As val (DY m listed) (Iq m listed Bs++L)) w->wpAnyIn (Cg X.r) 0 X.P .any l.toArray (xi X H (yp K)) fuel listed a w:=by
  intro fuel
  induction fuel with
  | zero=>
   intro listed val H Ds a w hsz hcl hhi hfu hfx hval hdf hsp;have hle:(DY m listed).length<=(List.range m).length:=List.length_filter_le _ _
   have hm':m=l.length:=by rw [List.length_range] at hle;omega
   have hlst:DY m listed=List.range m:=List.filter_eq_self.2 fun i hi=>List.length_filter_eq_length_iff.1 (show (DY m listed).length=(List.range m).length by rw [List.length_range];omega) i hi
   have hli:rJ (Array.replicate l.length false) (List.range m)=listed:=by
    apply Array.ext
    ·rw [me];simp [hsz]
    intro k hk a1;rw [me] at hk;have e1:=yC (List.range m) (Array.replicate l.length false) k hk;simp only [Array.size_replicate] at hk
    have hin:k∈DY m listed:=by rw [hlst];simp;omega
    have e2:=(oS.1 hin).2
    have e3:(List.range m).contains k=true:=by simp;omega
    rw [e3,Bool.or_true] at e1;simp only [Array.getD_eq_getD_getElem?,Array.getElem?_eq_getElem,a1,Option.getD_some] at e2
    have a2:k<(rJ (Array.replicate l.length false) (List.range m)).size:=by rw [me];simpa using hk
    simp only [Array.getD_eq_getD_getElem?,Array.getElem?_eq_getElem,a2,Option.getD_some] at e1;rw [e1,e2]
   have hunl:Iq m listed Bs=[]:=Ip fun i hi=>(oS.1 (by rw [hlst];exact List.mem_range.2 hi)).2
   rw [hlst,hunl,Ug] at hsp
   have hf:=fin val H Ds a w ⟨hfx.size,fun k v hk=>by
    rcases zQ _ _ _ _ hk with h|h
    ·obtain ⟨i,hi,he⟩:=List.mem_map.1 (ul _ _ _ h);cases he
     have hi':i∈DY m listed:=by rw [hlst];exact hi
     exact hval i (oS.1 hi').1 (oS.1 hi').2
    ·exact hfx.at_ k v h⟩ hdf hsp
   rw [hli,show l.length - m=0 by omega] at hf;exact hf
  | succ fuel ih=>
   intro listed val H Ds a w hsz hcl hhi hfu hfx hval hdf hsp;by_cases hall: ∀i,i<m->listed.getD i false=true
   ·have hlst:DY m listed=List.range m:=List.filter_eq_self.2 fun i hi=>hall i (by simpa using hi)
    have hli:rJ (Array.replicate l.length false) (List.range m)=listed:=by
     apply Array.ext
     ·rw [me];simp [hsz]
     intro k hk a1;rw [me] at hk;have e1:=yC (List.range m) (Array.replicate l.length false) k hk
     have a2:k<(rJ (Array.replicate l.length false) (List.range m)).size:=by rw [me];exact hk
     simp only [Array.getD_eq_getD_getElem?,Array.getElem?_eq_getElem,a2,Option.getD_some] at e1;rw [e1];simp only [Array.size_replicate] at hk;by_cases hkm:k<m
     ·have e2:=hall k hkm;simp only [Array.getD_eq_getD_getElem?,Array.getElem?_eq_getElem,a1,Option.getD_some] at e2;rw [e2];simp [hkm]
     have e2:=hhi k V;simp only [Array.getD_eq_getD_getElem?,Array.getElem?_eq_getElem,a1,Option.getD_some] at e2;rw [e2];simp [hk,hkm]
    rw [hlst,Ip hall,Ug] at hsp;rw [hlst] at hfu;rw [List.length_range] at hfu
    have hf:=fin val H Ds a w ⟨hfx.size,fun k v hk=>by
     rcases zQ _ _ _ _ hk with h|h
     ·obtain ⟨i,hi,he⟩:=List.mem_map.1 (ul _ _ _ h);cases he
      have hi':i<m:=by simpa using hi
      exact hval i hi' (hall i hi')
     ·exact hfx.at_ k v h⟩ hdf hsp
    rw [hli,show l.length - m=fuel+1 by omega] at hf;exact hf
   have hex: ∃i,i<m/\listed.getD i false=false:=by
    refine Classical.byContradiction fun h=>hall fun i hi=> ?_
    cases hb:listed.getD i false with
    |true=>rfl
    |false=>exact absurd ⟨i,hi,hb⟩ h
   have hun: ∀i,listed.getD i false=false->i<l.length->listed.getD i true=false:=fun i hi hlt=>by
    simp only [Array.getD_eq_getD_getElem?,Array.getElem?_eq_getElem,hsz,hlt,Option.getD_some] at hi⊢;exact hi
   have hleast: ∃i0,i0<m/\listed.getD i0 false=false/\i0∈Region.ready .any l.toArray listed:=by
    obtain ⟨⟨hi0,hu0⟩,hmin⟩:=leastOf_spec hex;generalize leastOf (fun i=>i<m/\listed.getD i false=false)=i0 at hi0 hu0 hmin
    have hlt:i0<l.length:=by omega
    refine ⟨i0,hi0,hu0,?_⟩
    
    refine mem_ready.2 ⟨hun i0 hu0 hlt,l[i0],by simp [hlt],fun e he hb=> ?_⟩
    have hon:e.on∈zG l.toArray i0:=by
     unfold zG;rw [show l.toArray[i0]? =some l[i0] by simp [hlt]];exact List.mem_map.2 ⟨e,List.mem_filter.2 ⟨by simpa using he,hb⟩,J⟩
    have hlt2:=(hpr i0 hi0).2.2 _ hon
    cases a8:listed.getD e.on false with
    |true=>rfl
    |false=>have:=hmin _ ⟨by omega,a8⟩;omega
   -- what an operation takes,and going on behind it
   have prep: ∀j o,j∈Region.ready .any l.toArray listed->j<m->l.toArray[j]? =some o-> ∃rest:List Nat,
     Sp ((rest.flatMap fun i=>(As.getD i fun _=> []) (val i))++(Iq m (listed.setIfInBounds j true) Bs++(Ds.map cr++H))) (BP As val (pr.getD j []) (Bs.getD j []++L)) w/\Fx X (Ec ds val (pr.getD j []) s) a/\
     ∀(v:Value) (w':World),Sp ((rest.flatMap fun i=>(As.getD i fun _=> []) (val i))++(Iq m (listed.setIfInBounds j true) Bs++(Ds.map cr++H))) ((As.getD j fun _=> []) v++BP As val (pr.getD j []) L) w'->wpAnyIn (Cg X.r) 0 X.P .any l.toArray (xi X H (yp K)) fuel (listed.setIfInBounds j true) (a.put o.dst v) w':=by
    intro j o hj hjm ho;obtain ⟨hju,o2,ho2,hedge⟩:=mem_ready.1 hj;rw [ho] at ho2;cases ho2
    have hjl:j<l.length:=by
     have:=(Array.getElem?_eq_some_iff.1 ho).1;simpa using this
    have hjf:listed.getD j false=false:=by
     simp only [Array.getD_eq_getD_getElem?,Array.getElem?_eq_getElem,hsz,hjl,Option.getD_some] at hju⊢;exact hju
    obtain ⟨hp1,hp2,hp3⟩:=hpr j hjm
    have hps: ∀k∈pr.getD j [],k∈DY m listed:=fun k hk=>by
     obtain ⟨g1,g2⟩:=hp1 k hk;exact oS.2 ⟨g2,yH hcl hj (wz k g1)⟩
    have hd:=hdst j o hjm ho;obtain ⟨hdlt,hdne⟩:=hdn j hjm
    -- the chunks that the operation takes,and the rest
    have hperm:(DY m listed).Perm (pr.getD j []++(DY m listed).filter fun k=> !(pr.getD j []).contains k):=by
     refine (List.perm_ext_iff_of_nodup lst_nodup ?_).2 fun k=> ?_
     ·refine List.nodup_append.2 ⟨hp2,lst_nodup.filter _,fun x hx y hy e=> ?_⟩;subst e;have h11:=(List.mem_filter.1 hy).2;have h12:(pr.getD j []).contains x=true:=List.contains_iff_mem.2 hx;rw [h12] at h11;cases h11
     constructor
     ·intro hk;by_cases hkp:k∈pr.getD j []
      ·exact TT _ hkp
      exact TU _ (List.mem_filter.2 ⟨hk,by simpa using hkp⟩)
     intro hk;rcases List.mem_append.1 hk with hk|hk
     ·exact hps k hk
     exact (List.mem_filter.1 hk).1
    generalize hrest:(DY m listed).filter (fun k=> !(pr.getD j []).contains k)=rest at hperm
    have hsp1:Sp ((rest.flatMap fun i=>(As.getD i fun _=> []) (val i))++(Iq m (listed.setIfInBounds j true) Bs++(Ds.map cr++H))) (BP As val (pr.getD j []) (Bs.getD j []++L)) w:=by
     refine SepL.perm hsp ?_;unfold BP;have e1:=Cp (As:=As) (val:=val) hperm;rw [List.flatMap_append] at e1;have e9:=Ky (Bs:=Bs) (m:=m) (listed:=listed) hjm hjf (by rw [hsz];exact hjl);exact JG e1 e9
    have hfxs:Fx X (Ec ds val (pr.getD j []) s) a:=⟨hfx.size,fun k v hk=>by
     rcases zQ _ _ _ _ hk with h|h
     ·obtain ⟨i,hi,he⟩:=List.mem_map.1 (ul _ _ _ h);cases he;exact hval i (oS.1 (hps i hi)).1 (oS.1 (hps i hi)).2
     ·exact hfx.at_ k v h⟩
    refine ⟨rest,hsp1,hfxs,?_⟩
    have go: ∀(v:Value) (w':World),Sp ((rest.flatMap fun i=>(As.getD i fun _=> []) (val i))++(Iq m (listed.setIfInBounds j true) Bs++(Ds.map cr++H))) ((As.getD j fun _=> []) v++BP As val (pr.getD j []) L) w'->wpAnyIn (Cg X.r) 0 X.P .any l.toArray (xi X H (yp K)) fuel (listed.setIfInBounds j true) (a.put o.dst v) w':=by
     intro v w' hsp2;rw [hd]
     have hjn:j∉DY m listed:=fun h=>by have:=(oS.1 h).2;rw [hjf] at this;cases this
     have a6:(DY m (listed.setIfInBounds j true)).Perm (j::DY m listed):=by
      refine (List.perm_ext_iff_of_nodup lst_nodup (List.nodup_cons.2 ⟨hjn,lst_nodup⟩)).2 fun k=> ?_
      rw [oS,List.mem_cons,oS];constructor
      ·rintro ⟨g1,g2⟩;rcases sd g2 with e|e
       ·exact .inl e
       exact .inr ⟨g1,e⟩
      rintro (e|⟨g1,g2⟩)
      ·subst e;refine ⟨hjm,?_⟩;simp [hsz,hjl]
      exact ⟨g1,getD_set_true g2⟩
     refine ih (listed.setIfInBounds j true) (fun k=>if k=j then v else val k) H Ds (a.put (some (ds.getD j 0)) v) w' (by simpa using hsz) (H7 hcl hj) (fun t ht=> ?_) ?_ ?_ ?_ ((put_defers _ _ _).trans hdf) ?_
     ·rw [getD_set_ne false V];exact hhi t ht
     ·have:=a6.length_eq;rw [List.length_cons] at this;omega
     ·refine (hfx.put v hdlt).sub fun k u hk=> ?_
      rw [km,if_neg (fun e=>hdne k u hk e.symm)];exact hk
     ·intro i hi hli;have hput:(a.put (some (ds.getD j 0)) v).tmps=a.tmps.setIfInBounds (ds.getD j 0) v:=rfl;rw [hput];by_cases e:i=j
      ·subst e;rw [if_pos rfl]
       have h13:ds.getD i 0<a.tmps.size:=by rw [hfx.size];exact hdlt
       generalize ds.getD i 0=dd at h13⊢;simp [h13]
      rw [if_neg e];rcases sd hli with e2|e2
      ·exact absurd e2 e
      rw [<-hval i hi e2]
      have hne:ds.getD j 0≠ds.getD i 0:=fun h=>e (hds j i hjm hi h).symm
      generalize ds.getD j 0=dd at hne⊢;generalize ds.getD i 0=de at hne⊢;simp [Array.getElem?_setIfInBounds_ne hne]
     refine SepL.perm hsp2 ?_;unfold BP;have e1:=Cp (As:=As) (val:=fun k=>if k=j then v else val k) a6;rw [List.flatMap_cons,if_pos rfl] at e1
     have e2:((DY m listed).flatMap fun i=>(As.getD i fun _=> []) (if i=j then v else val i))=(DY m listed).flatMap fun i=>(As.getD i fun _=> []) (val i):=by
      have key: ∀l':List Nat,(∀i∈l',i∈DY m listed)->(l'.flatMap fun i=>(As.getD i fun _=> []) (if i=j then v else val i))=l'.flatMap fun i=>(As.getD i fun _=> []) (val i):=by
       intro l'
       induction l' with
       |nil=>intro _;rfl
       |cons i l' ihl=>
        intro hl';rw [List.flatMap_cons,List.flatMap_cons,ihl fun q hq=>hl' q (by simp [hq]),if_neg (fun e:i=j=>hjn (e▸hl' i (by simp)))]
      exact key _ fun _ h=>h
     rw [e2] at e1;have e3:=Cp (As:=As) (val:=val) hperm;rw [List.flatMap_append] at e3;exact KS e1 e3
    exact go
   by_cases hq: ∃q∈qs,q<m/\q∈Region.ready .any l.toArray listed
   ·-- an operation whose value does not depend on the world comes first
    obtain ⟨q,hqm,hqlt,hqr⟩:=hq;obtain ⟨hqu,o,ho,hedge⟩:=mem_ready.1 hqr;obtain ⟨rest,hsp1,hfxs,go⟩:=prep q o hqr hqlt ho;rw [hBq q hqm,Ug] at hsp1;obtain ⟨v,hg,hev,hcv⟩:=qstep q hqm o hqlt ho val _ _ hsp1;have hfree:=hqs q hqm;rw [ho] at hfree;simp only [List.all_eq_true,List.mem_range] at hfree;refine zg _ _ _ _ (yv (C:=fun _=>True) (oi:=o) (v:=v) ho (xA h1) (Region.noSelect_spec hns) (fun c a w ⟨_,_,_,_,_,_,he,_⟩=>(by cases he)) fuel listed a w trivial ?_ hqr (.inl ⟨eL hfxs hg,fun w' _=>hev a.eval (fun x u hx=>hfxs.eval hx) w' trivial⟩) (Mz _ _ _ _ (go v w hcv)));intro j oj hoj hne hul hno
    have hjl:j<l.length:=by
     have:=(Array.getElem?_eq_some_iff.1 hoj).1;simpa using this
    have h8:=hfree j hjl;rw [hoj] at h8;simp only [Bool.or_eq_true] at h8;rcases h8 with ((h8|h8)|h8)|h8
    ·exact absurd (Nat.eq_of_beq_eq_true h8) hne
    ·obtain ⟨o',e,ho',he,hb,heq⟩:=Db (List.contains_iff_mem.1 h8);rw [hoj] at ho';cases ho';exact absurd heq (hno e he hb)
    ·have h14:=yH hcl hqr (wz j (List.contains_iff_mem.1 h8));simp only [Array.getD_eq_getD_getElem?,Array.getElem?_eq_getElem,hsz,hjl,Option.getD_some] at h14 hul;rw [h14] at hul;cases hul
    exact h8
   refine ⟨fun hr=> ?_,fun j hj=> ?_⟩
   ·obtain ⟨i0, -, -,hin⟩:=hleast;rw [hr] at hin;cases hin
   obtain ⟨hju,o,ho,hedge⟩:=mem_ready.1 hj
   have hjl:j<l.length:=by
    have:=(Array.getElem?_eq_some_iff.1 ho).1;simpa using this
   have hjm:j<m:=by
    refine Classical.byContradiction fun hge=> ?_
    obtain ⟨i0,hi0,hu0,hin0⟩:=hleast;have h8:=h7 j hjl
    have h9:Nat.blt j m=false:=by
     cases hb:Nat.blt j m with
     |false=>rfl
     |true=>exact absurd (Nat.lt_of_succ_le (Nat.le_of_ble_eq_true hb)) hge
    rw [h9,Bool.false_or,List.all_eq_true] at h8;have h10:=h8 i0 (by simpa using hi0);rw [Bool.or_eq_true] at h10;rcases h10 with h10|h10
    ·exact hq ⟨i0,List.contains_iff_mem.1 h10,hi0,hin0⟩
    have:=yH hcl hj (wz i0 (by simpa using h10));rw [hu0] at this;cases this
   have hndef:ij o=true:=xA h1 j o ho;obtain ⟨rest,hsp1,hfxs,go⟩:=prep j o hj hjm ho;unfold wpOpIn;rw [ho]
   dsimp only
   rcases step j o hjm ho val _ _ hsp1 with ⟨hg,hop⟩|⟨hg,hsp2⟩
   ·rw [if_pos (eL hfxs hg)]
    refine (hop a.eval fun x u hx=>hfxs.eval hx).wpIn hndef fun v L' w' hc hs=> ?_
    exact go v w' (hc _ _ hs)
   rw [if_neg (by rw [eL hfxs hg];exact Bool.false_ne_true)];exact ⟨fun _ _=>trivial,go undef w hsp2⟩
 intro H Ds a w ha hds' hw;have hw1:Sp (Ds.map cr++H) (Iq m (Array.replicate l.length false) Bs++L) {w with drawn:=w.drawn+1}:=SepL.same (hL _ _ hw) ⟨rfl,rfl,rfl,Nat.le_refl _,fun _ _ _=>rfl⟩
 have hf: ∀k,(Array.replicate l.length false).getD k false=false:=fun k=>by
  simp only [Array.getD_eq_getD_getElem?,Array.getElem?_replicate];split<;>rfl
 have a7:DY m (Array.replicate l.length false)=[]:=by
  refine List.eq_nil_iff_forall_not_mem.2 fun i hi=> ?_
  have:=(oS.1 hi).2;rw [hf] at this;cases this
 have h9:=main l.length (Array.replicate l.length false) (fun _=>undef) H Ds a _ (by simp) (fun k o e hk=>by rw [hf] at hk;cases hk) (fun t _=>hf t) (by rw [a7];simp) ha (fun i _ hi=>by rw [hf] at hi;cases hi) hds' (by rw [a7];exact hw1);refine wpIn_mono (wpIn_region_any hm (by simpa using h9)) ?_;rintro e a' w' ⟨s',L',Ds',g1,g2,g3,rfl,g4⟩;exact ⟨s',L',Ds',g1,g2,g3,g4⟩
theorem lB {Bs:List (List Chunk)}: ∀q∈([]:List Nat),Bs.getD q []=[]:=fun _ h=>nomatch h
theorem uM {Bs:List (List Chunk)}{q':Nat}{qs:List Nat}(h:Bs.getD q' []=[])(t: ∀q∈qs,Bs.getD q []=[]): ∀q∈q'::qs,Bs.getD q []=[]:=fun q hq=>(List.mem_cons.1 hq).elim (fun e=>e▸h) (t q)
end
section
variable {A0:Option Addr} {M1:Nat}
open Go.RowKit
open Asn
theorem Dm {ds:List Nat}{val:Nat->Value}{s:bG}: ∀(l:List Nat),(∀i∈l, ∀j∈l,ds.getD i 0=ds.getD j 0->i=j)-> ∀i∈l,jO (l.map (fun i=>(ds.getD i 0,val i))++s) (ds.getD i 0)=some (val i)
 | [],_,i,h=>by cases h
 |j::l,hd,i,h=>by
  rw [List.map_cons,List.cons_append,km];by_cases e:ds.getD j 0=ds.getD i 0
  ·rw [if_pos e,hd j (by simp) i h e]
  rw [if_neg e];rcases List.mem_cons.1 h with e2|h
  ·subst e2;exact absurd J e
  exact Dm l (fun a ha b hb=>hd a (by simp [ha]) b (by simp [hb])) i h
theorem Bb {ds:List Nat}{val:Nat->Value}{s:bG}{k:Nat}: ∀(l:List Nat),(∀i∈l,ds.getD i 0≠k)->jO (l.map (fun i=>(ds.getD i 0,val i))++s) k=jO s k
 | [],_=>rfl
 |j::l,hd=>by
  rw [List.map_cons,List.cons_append,km,if_neg (hd j (by simp))]
  exact Bb l fun i hi=>hd i (by simp [hi])
theorem Mg {As:List (Value->List Chunk)}{val:Nat->Value}{L:List Chunk}{m:Nat}{ix:List Nat}(hn:ix.Nodup)(hm: ∀i∈ix,i<m):Cv (BP As val (List.range m) L) (BP As val ix L):=by
 have hp:(List.range m).Perm (((List.range m).filter fun i=> !ix.contains i)++ix):=by
  refine (List.perm_ext_iff_of_nodup List.nodup_range ?_).2 fun k=> ?_
  ·refine List.nodup_append.2 ⟨List.nodup_range.filter _,hn,fun x hx y hy e=> ?_⟩;subst e;have h1:=(List.mem_filter.1 hx).2;rw [List.contains_iff_mem.2 hy] at h1;cases h1
  rw [List.mem_append,List.mem_filter,List.mem_range];by_cases h:k∈ix
  ·simp [h,hm k h]
  simp [h]
 have e:=Cp (As:=As) (val:=val) hp;rw [List.flatMap_append] at e;unfold BP;refine Cv.trans (fun Z w h=>SepL.perm h ((e.append_right L).append_right Z)) ?_;rw [TS];exact G4 _
theorem iW {X:Cx}{K:K3}{s:bG}{L L0:List Chunk}{id:Nat}{l:List Oper}(hm:X.P.follows .mixedOrders=true)(m:Nat)(qs:List Nat)(ix:List Nat)(ds:List Nat)(pr:List (List Nat))(As:List Asn)(Bs:List (List Chunk))(hL:Cv L0 (Iq m (Array.replicate l.length false) Bs++L))(hBq: ∀q∈qs,Bs.getD q []=[])(hok:P3 l.toArray m qs ds pr s X.n=true)(hlen:Nat.beq As.length m=true)(hix:(ix.all (fun i=>Nat.blt i m)&&decide ix.Nodup)=true)
  (qstep: ∀q∈qs, ∀(o:Oper),q<m->l.toArray[q]? =some o->NB ds As (pr.getD q []) (fun s' L'=>Rp X.P l.toArray s' L' L' o (As.getD q (aV undef)).full) s L)
  (step: ∀(i:Nat) (o:Oper),i<m->l.toArray[i]? =some o->GO ds As (pr.getD i []) (fun s' L' L''=>Ow X.P l.toArray s' L' L'' o (As.getD i (aV undef)).full) s (Bs.getD i []++L) L)
  (fin:NB ds As ix (fun s' L'=>Hj X l.toArray K (l.length - m) (rJ (Array.replicate l.length false) (List.range m)) s' L') s L):Wq X (.region id l.toArray true) K s L0:=by
 have hl:As.length=m:=Nat.eq_of_beq_eq_true hlen
 have hpr: ∀i,i<m-> ∀k∈pr.getD i [],k<As.length:=fun i hi k hk=>by
  unfold P3 at hok;simp only [Uf,List.all_eq_true,List.mem_range] at hok;have h6:=(hok.1.2 i hi).1.1.2 k hk;have h7:=Nat.le_of_ble_eq_true h6.2;omega
 simp only [Uf,List.all_eq_true,decide_eq_true_eq] at hix
 have hixm: ∀i∈ix,i<m:=fun i hi=>Nat.lt_of_succ_le (Nat.le_of_ble_eq_true (hix.1 i hi))
 have hds:(∀i j,i<m->j<m->ds.getD i 0=ds.getD j 0->i=j)/\ ∀i,i<m-> ∀k v,jO s k=some v->k≠ds.getD i 0:=by
  have hok2:=hok;unfold P3 at hok2;simp only [Uf,decide_eq_true_eq,List.all_eq_true,List.mem_range] at hok2;obtain ⟨⟨⟨⟨⟨⟨⟨⟨-, -⟩, -⟩, -⟩,h3⟩,h4⟩,h5⟩, -⟩, -⟩:=hok2;refine ⟨fun i j hi hj e=> ?_,fun i hi k v hp e=> ?_⟩
  ·have e1:ds.getD i 0=ds[i]'V:=by simp [List.getD,h3,hi]
   have e2:ds.getD j 0=ds[j]'V:=by simp [List.getD,h3,hj]
   rw [e1,e2] at e;have hp:=List.pairwise_iff_getElem.1 h4;rcases Nat.lt_trichotomy i j with h|h|h
   ·exact absurd e (hp i j V V h)
   ·exact h
   exact absurd e.symm (hp j i V V h)
  have hmem:ds.getD i 0∈ds:=by
   have e1:ds.getD i 0=ds[i]'V:=by simp [List.getD,h3,hi]
   rw [e1];exact Uh _
  have h9:=(h5 _ hmem).2 _ (ul _ _ _ hp);simp only [e,Nat.beq_refl] at h9;cases h9
 refine Oz hm m qs ds pr (td As) Bs hL hBq hok (fun q hq o hqm ho val=> ?_) (fun i o him ho val=> ?_) fun val=> ?_
 ·rw [Bg _ _ V];exact KP (hpr q hqm) (qstep q hq o hqm ho)
 ·rw [Bg _ _ V];exact KG (hpr i him) (step i o him ho)
 refine nD (Pm (fun i hi=>by have:=hixm i hi;omega) fin) (fun k v hk=> ?_) (Mg hix.2 hixm);unfold Ec at hk⊢;by_cases hex: ∃i∈ix,ds.getD i 0=k
 ·obtain ⟨i,hi,rfl⟩:=hex;rw [Dm ix (fun a ha b hb e=>hds.1 a b (hixm a ha) (hixm b hb) e) i hi] at hk;rw [Dm (List.range m) (fun a ha b hb e=>hds.1 a b (List.mem_range.1 ha) (List.mem_range.1 hb) e) i (List.mem_range.2 (hixm i hi))];exact hk
 rw [Bb ix fun i hi e=>hex ⟨i,hi,e⟩] at hk;rw [Bb (List.range m) fun i hi e=>hds.2 i (List.mem_range.1 hi) k v hk e.symm];exact hk
section
variable {P:Program} {s:bG} {C:World->Prop} {d:Option Nat} {ty:TypeId} {pos:String} {af:Array Edge} {gd:Option (Nat×Bool)}
end
end
section
variable {A0:Option Addr} {M1:Nat}
open Go.RowKit
def MY (e:TypeId)(sz:Nat)(v:Value):Chunk where
 ok T _ w:= ∃g n cap cur,v=.slice (some ⟨g,0,none⟩) n cap/\T g/\w.heap[g]? =some (.cells cur e (0,0))/\n<=cap/\cap<=maxLen/\cur.size=cap*sz
 loc:=fun h ⟨g,n,cap,cur,e1,h1,h2,h3⟩=>⟨g,n,cap,cur,e1,h1,Blk.agr (t:=e) h2 h (.inl h1),h3⟩
 mono:=fun _ h=>h
 ro:=false
 dup:=fun h=>Bool.noConfusion h
section
variable {P:Program} {s:bG} {L:List Chunk} {d:Option Nat} {ty:TypeId} {pos:String} {af:Array Edge} {gd:Option (Nat×Bool)}
theorem yL {x y:Operand}{t tn e:TypeId}{n:Int}{k kn:IntKind}{sz by_:Nat}(hx:bC s x=some (U none 0 0))(hy:bC s y=some (.int k n))(ht:P.underlying t=some (.slice e))(htn:P.underlying tn=some (.int kn))(hz:sK P e sz by_=true)(hby:Nat.ble by_ 127=true)(h0:0<n)(hb:n<=1099511627776):OpX P s L ⟨d,.call ⟨.builtin .append, #[x,y], #[t,tn]⟩,ty,pos,af,gd⟩ fun u L'=> ∃A n c,u=.slice A n c/\L'=MY e sz (.slice A n c)::L:=fun ρ hρ Z w hw=>by
 have hbuilt:=iq (P:=P) (ρ:=ρ) (d:=d) (ty:=ty) (pos:=pos) (af:=af) (gd:=gd) (b:=.append) (xs:=[x,y]) (ats:= #[t,tn]) (vs:=[U none 0 0,.int k n]) (by simp [hρ x _ hx,hρ y _ hy]) w
 have hby':=Nat.le_of_ble_eq_true hby
 obtain ⟨m,rfl⟩: ∃m:Nat,n=m:=⟨n.toNat,by omega⟩;unfold sK at hz
 cases hinfo:P.info? e with
 |none=>rw [hinfo] at hz;cases hz
 | some inf=>
  rw [hinfo] at hz;simp only [Uf] at hz;obtain ⟨⟨⟨q2,q3⟩,q4⟩,q5⟩:=hz
  cases hzz:inf.zero with
  |none=>rw [hzz] at q4;cases q4
  | some z=>
   rw [hzz] at q4;have e2:=Nat.eq_of_beq_eq_true q2;have e3:=Nat.eq_of_beq_eq_true q3;have e4:=Nat.eq_of_beq_eq_true q4
   have e5:0<sz:=by have h6:1<=sz:=(by simpa [Nat.blt] using q5);omega
   have hm:m*inf.bytes<=281474976710656:=Nat.le_trans (Nat.mul_le_mul (show m<=1099511627776 by omega) (show inf.bytes<=127 by omega)) (by decide);have hr:=Lib.run_append_nil_zeros (P:=P) w t tn ty e inf z k kn ht htn hinfo hzz m V V V hm;have hge:=grownCap_ge w m 0 e;have hcm:=grownCap_le_maxLen w m 0 e (by unfold maxLen;omega)
   have hcur:(Builtin.zeroCells z.cells m++Builtin.zeroCells z.cells (grownCap w m 0 e - m)).size=grownCap w m 0 e*sz:=by
    simp only [Array.size_append,size_zeroCells,e4, <-Nat.add_mul]
    congr 1
    omega
   generalize Builtin.zeroCells z.cells m++Builtin.zeroCells z.cells (grownCap w m 0 e - m)=cur at*;have hA:Agr (fun _=>True) w (w.drew.alloc (.cells cur e)):=⟨rfl,rfl,rfl,by simp,fun q hq _=>heap_alloc_old w.drew (.cells cur e) hq⟩;have hN:(w.drew.alloc (.cells cur e)).heap[w.heap.size]? =some (.cells cur e (0,0)):=heap_alloc_new w.drew (.cells cur e)
   have hZ:(w.drew.alloc (.cells cur e)).heap.size=w.heap.size+1:=by simp
   refine .inl ⟨_,w.drew.alloc (.cells cur e),MY e sz (.slice (some ⟨w.heap.size,0,none⟩) m (grownCap w m 0 e))::L,?_,SepL.new (c:=MY e sz (.slice (some ⟨w.heap.size,0,none⟩) m (grownCap w m 0 e))) hw hA fun T S _=>⟨(· =w.heap.size),fun q hq=>by subst hq;omega,w.heap.size,m,grownCap w m 0 e,cur,rfl,rfl,hN,hge,hcm,hcur⟩,_,_,_,J,J⟩;rw [hbuilt];simp only [builtin,Sem.run_bind];have hr':(Builtin.append_ #[t,tn] ty [Value.slice none 0 0,.int k (m:Int)].toArray).run P w=_:=hr;rw [hr'];rfl
theorem Fv {α:Type}{R:Rep α}{t e sz:Nat}{x y:Operand}{v:Value}(i:Nat)(hi:L[i]? =some (MY e sz v))(hx:bC s x=some v)(hu:P.underlying t=some (.slice e))(hs:lJ P e sz=true)(hsz:R.sz=sz)(hh:bC s y=some (.int .i64 0)):OpX P s L ⟨d,.slice t x none (some y) none,ty,pos,af,gd⟩ fun u L'=> ∃A n c,u=.slice A n c/\L'=L.set i (eK R e (.slice A n c) []):=fun ρ hρ Z w hw=>by
 have hw0:=hw;obtain ⟨T,S,hT⟩:=hw;obtain ⟨g,n,cap,cur,rfl,g1,g2,g3,g4,g5⟩:=hT.ok (bB hi);have hrun:=Al (P:=P) (C:=fun _=>True) (d:=d) (ty:=ty) (pos:=pos) (af:=af) (gd:=gd) (lo:=none) (hi:=some y) (l:=0) (h:=0) hx hu hs rfl hh (Nat.le_refl _) V ρ hρ w trivial
 have hc:vd (some ⟨g,0,none⟩) cap 0 sz=some ⟨g,0,none⟩:=by
  unfold vd;split
  ·rfl
  simp [Addr.add]
 rw [hc] at hrun;refine .inl ⟨_,w,L.set i (eK R e (.slice (some ⟨g,0,none⟩) 0 cap) []),hrun,?_,_,_,_,J,J⟩
 have hfin:SepL ((L++Z).set i (eK R e (.slice (some ⟨g,0,none⟩) 0 cap) [])) w:=by
  refine hw0.weak (bB hi) fun T S ⟨g',n',cap',cur',e1,q1,q2,q3,q4,q5⟩=> ?_
  obtain ⟨e2,rfl,rfl⟩:=Value.slice.inj e1;cases e2;exact ⟨[],.nil,.inl ⟨⟨by simp,.inr ⟨g,cap,cur',rfl,Nat.zero_le _,q2,Nat.zero_le _,q4,by rw [hsz];exact ⟨cap,Nat.le_refl _,q4,q5⟩,by simp⟩⟩,fun q hq=>by cases hq;exact q1⟩⟩
 rw [pu Z hi] at hfin;exact hfin
theorem Bi {C:World->Prop}{t e sz:Nat}{x y:Operand}(hx:bC s x=some (U none 0 0))(hu:P.underlying t=some (.slice e))(hs:lJ P e sz=true)(hh:bC s y=some (.int .i64 0)):Ev P s C ⟨d,.slice t x none (some y) none,ty,pos,af,gd⟩ (U none 0 0):=
 Al (lo:=none) (hi:=some y) (l:=0) (h:=0) hx hu hs rfl hh (Nat.le_refl _) (Nat.le_refl _)
theorem eU {t e:TypeId}{m:Nat}{ps:List (Nat×Operand)}{vs:List (Nat×Value)}{cs:List Value}(hp:Kf s ps=some vs)(hr: ∀w,(Instr.buildSlice t m vs.toArray).run P w=.ok (.slice (some ⟨w.heap.size,0,none⟩) m m) (w.alloc (.cells cs.toArray e))):OpX P s L ⟨d,.buildSlice t m ps.toArray,ty,pos,af,gd⟩ fun u L'=> ∃b,u=.slice (some ⟨b,0,none⟩) m m/\L'=ab b e cs::L:=fun ρ hρ Z w hw=>by
 refine .inl ⟨_,w.alloc (.cells cs.toArray e),ab w.heap.size e cs::L,?_,SepL.new (c:=ab w.heap.size e cs) hw (Agr.of_ext ((Ext.refl w).alloc _)) fun _ S _=>⟨(· =w.heap.size),fun q hq=> ?_,J,Blk.new w e _⟩,_,J,J⟩
 ·unfold execOp;simp only [List.map_toArray,Co hρ hp,Sem.run_bind,hr,Result.andThen_ok];rfl
 subst hq;simp
end
def Wr (X:Cx)(c:Code)(K:K3)(m:Nat)(s:bG)(L:List Chunk):Prop:= ∀(H:List Chunk) (Ds:List Nat) (a:Act) (w:World),Fx X s a->a.defers=Ds.map vH->Sp (Ds.map cr++H) L w->Code.roundsIn (Cg X.r) 0 X.P c (xi X H K) m a w
section
variable {X:Cx} {K:K3} {s:bG} {L:List Chunk}
theorem sF {c:Code}(m:Nat)(h:Wr X c K m s L):Wq X (.loop c) K s L:=fun H Ds a w ha hd hw=>wpIn_loop_rounds m (h H Ds a w ha hd hw)
theorem tM {c:Code}{m:Nat}(h:Wq X c (nx (fun s L=>Wr X c K m s L) K) s L):Wr X c K (m+1) s L:=fun H Ds a w ha hd hw=>by
 rw [roundsIn_succ];refine wpIn_mono (h H Ds a w ha hd hw) ?_;rintro e a' w' ⟨s',L',Ds',h1,h2,h3,h4⟩
 cases e with
 |normal=>exact h4 H Ds' a' w' h1 h2 h3
 |_=>exact ⟨s',L',Ds',h1,h2,h3,h4⟩
end
end
section
variable {A0:Option Addr} {M1:Nat}
open Go.RowKit
def PB (s:bG):List Nat->bG->Prop
 |_,[]=>True
 |ks,(d,v)::t=>(jO s d=some v\/ks.contains d=true)/\PB s (d::ks) t
theorem Gi {s:bG}: ∀{t:bG} {ks:List Nat},PB s ks t-> ∀k v,ks.contains k=false->jO t k=some v->jO s k=some v
 | [],_,_=>fun _ _ _ h=>by cases h
 |(d,u)::t,ks,h=>fun k v hk hl=>by
  rw [km] at hl;by_cases e:d=k
  ·subst e;rw [if_pos rfl] at hl;cases hl;rcases h.1 with h1|h1
   ·exact h1
   rw [hk] at h1;cases h1
  rw [if_neg e] at hl;exact Gi h.2 k v (by simp only [List.contains_cons,Bool.or_eq_false_iff];exact ⟨by simpa using fun h=>e h.symm,hk⟩) hl
theorem sA {s t:bG}(h:PB s [] t:=by repeat (first|exact trivial|refine ⟨.inl rfl,?_⟩|refine ⟨.inr rfl,?_⟩)):AB s t:=fun k v hl=>Gi h k v rfl hl
section
variable {X:Cx} {ops:Array Oper} {K:K3} {s:bG} {L:List Chunk} {rest:List Oper} {d:Nat} {op:Op} {ty:TypeId} {pos:String} {af:Array Edge} {gd:Option (Nat×Bool)}
theorem gD {R:Value->List Chunk->Prop}(h:OpX X.P s L ⟨some d,op,ty,pos,af,gd⟩ R)(k: ∀v L',R v L'->bT X ops rest K ((d,v)::s) L')(hn:ij ⟨some d,op,ty,pos,af,gd⟩=true:=by rfl)(hg:bn ops s ⟨some d,op,ty,pos,af,gd⟩=some true:=by rfl)(hd:Nat.ble (d+1) X.n=true:=by rfl):bT X ops (⟨some d,op,ty,pos,af,gd⟩::rest) K s L:=Fa h hn hg hd k
theorem gO {R:Value->List Chunk->Prop}(h:OpX X.P s L ⟨none,op,ty,pos,af,gd⟩ R)(k: ∀v L',R v L'->bT X ops rest K s L')(hn:ij ⟨none,op,ty,pos,af,gd⟩=true:=by rfl)(hg:bn ops s ⟨none,op,ty,pos,af,gd⟩=some true:=by rfl):bT X ops (⟨none,op,ty,pos,af,gd⟩::rest) K s L:=Qs h hn hg k
theorem gE {v:Value}(h:Ev X.P s (fun _=>True) ⟨some d,op,ty,pos,af,gd⟩ v)(k:bT X ops rest K ((d,v)::s) L)(hn:ij ⟨some d,op,ty,pos,af,gd⟩=true:=by rfl)(hg:bn ops s ⟨some d,op,ty,pos,af,gd⟩=some true:=by rfl)(hd:Nat.ble (d+1) X.n=true:=by rfl):bT X ops (⟨some d,op,ty,pos,af,gd⟩::rest) K s L:=qk h hn hg hd k
theorem gR {v:Value}(h:Rd X.P s L ⟨some d,op,ty,pos,af,gd⟩ v)(k:bT X ops rest K ((d,v)::s) L)(hn:ij ⟨some d,op,ty,pos,af,gd⟩=true:=by rfl)(hg:bn ops s ⟨some d,op,ty,pos,af,gd⟩=some true:=by rfl)(hd:Nat.ble (d+1) X.n=true:=by rfl):bT X ops (⟨some d,op,ty,pos,af,gd⟩::rest) K s L:=vR h hn hg hd k
end
abbrev iV (z:Int):Value:=.int .i64 z
abbrev pV (b o:Nat):Value:=.pointer (some ⟨b,o,none⟩)
theorem sk {L':List Chunk}(h:L'=[]):L'=[]:=h
theorem oX {L' t T:List Chunk}{a:Chunk}(h:L'=a::t)(k:t=T):L'=a::T:=k▸h
theorem cU {X:Cx}{ops:Array Oper}{K:K3}{s:bG}{L' L:List Chunk}{l:List Oper}(k:bT X ops l K s L)(h:L'=L:=by repeat (first|exact sk rfl|apply oX rfl|exact rfl)):bT X ops l K s L':=h▸k
theorem aH {X:Cx}{ops:Array Oper}{K:K3}{s:bG}{M L' L:List Chunk}{fuel:Nat}{listed:Array Bool}(k:pz X ops K M fuel listed s L)(h:L'=L:=by repeat (first|exact sk rfl|apply oX rfl|exact rfl)):pz X ops K M fuel listed s L':=h▸k
theorem PN {X:Cx}{K:K3}{s:bG}{L' L:List Chunk}{c:Code}(k:Wq X c K s L)(h:L'=L:=by repeat (first|exact sk rfl|apply oX rfl|exact rfl)):Wq X c K s L':=h▸k
theorem BE {X:Cx}{ops:Array Oper}{K:K3}{fuel:Nat}{listed:Array Bool}{s:bG}{L' L:List Chunk}(k:Hj X ops K fuel listed s L)(h:L'=L:=by repeat (first|exact sk rfl|apply oX rfl|exact rfl)):Hj X ops K fuel listed s L':=h▸k
theorem aA {P:List Chunk->Prop}{L M:List Chunk}(h:Cv L M)(k:P M): ∃M',Cv L M'/\Cv M' M/\P M':=⟨M,h,ad _,k⟩
theorem cS {L:List Chunk}(ix:List Nat)(k:Nat)(hk:D9 ix k=true:=by exact rfl)(hl:Nat.ble k L.length=true:=by exact rfl):Cv L (BY ix k L):=DM ix k hk hl
section
variable {X:Cx} {ops:Array Oper} {K:K3} {s:bG} {L M:List Chunk} {fuel:Nat} {listed:Array Bool} {d:Nat} {op:Op} {ty:TypeId} {pos:String} {af:Array Edge} {gd:Option (Nat×Bool)}
theorem zE (i:Nat){v:Value}(hi:ops[i]? =some ⟨some d,op,ty,pos,af,gd⟩)(h:Ev X.P s (fun _=>True) ⟨some d,op,ty,pos,af,gd⟩ v)(k:pz X ops K M fuel (listed.setIfInBounds i true) ((d,v)::s) L)(hk:MK ops listed i=true:=by kernel_rfl)(hg:bn ops s ⟨some d,op,ty,pos,af,gd⟩=some true:=by exact rfl)(hd:Nat.ble (d+1) X.n=true:=by exact rfl):pz X ops K M (fuel+1) listed s L:=iO i hi hk h hg hd k
theorem zR (i:Nat){v:Value}(hi:ops[i]? =some ⟨some d,op,ty,pos,af,gd⟩)(h:Rd X.P s M ⟨some d,op,ty,pos,af,gd⟩ v)(k:pz X ops K M fuel (listed.setIfInBounds i true) ((d,v)::s) L)(hk:MK ops listed i=true:=by kernel_rfl)(hg:bn ops s ⟨some d,op,ty,pos,af,gd⟩=some true:=by exact rfl)(hd:Nat.ble (d+1) X.n=true:=by exact rfl):pz X ops K M (fuel+1) listed s L:=qi i hi hk h hg hd k
theorem zU (i:Nat)(hi:ops[i]? =some ⟨some d,op,ty,pos,af,gd⟩)(k:pz X ops K M fuel (listed.setIfInBounds i true) ((d,undef)::s) L)(hk:MK ops listed i=true:=by kernel_rfl)(hg:bn ops s ⟨some d,op,ty,pos,af,gd⟩=some false:=by exact rfl)(hd:Nat.ble (d+1) X.n=true:=by exact rfl):pz X ops K M (fuel+1) listed s L:=cV i hi hk hg hd k
theorem zD (i:Nat){R:Value->List Chunk->Prop}(hi:ops[i]? =some ⟨some d,op,ty,pos,af,gd⟩)(h:OpX X.P s L ⟨some d,op,ty,pos,af,gd⟩ R)(k: ∀v L',R v L'-> ∃M',Cv L' M'/\Cv M' M/\pz X ops K M' fuel (listed.setIfInBounds i true) ((d,v)::s) L')(hr:Region.ready .any ops listed=[i]:=by kernel_rfl)(hn:ij ⟨some d,op,ty,pos,af,gd⟩=true:=by exact rfl)(hg:bn ops s ⟨some d,op,ty,pos,af,gd⟩=some true:=by exact rfl)(hd:Nat.ble (d+1) X.n=true:=by exact rfl):pz X ops K M (fuel+1) listed s L:=zb i hi hr h hn hg hd k
theorem zO (i:Nat){R:Value->List Chunk->Prop}(hi:ops[i]? =some ⟨none,op,ty,pos,af,gd⟩)(h:OpX X.P s L ⟨none,op,ty,pos,af,gd⟩ R)(k: ∀v L',R v L'-> ∃M',Cv L' M'/\Cv M' M/\pz X ops K M' fuel (listed.setIfInBounds i true) s L')(hr:Region.ready .any ops listed=[i]:=by kernel_rfl)(hn:ij ⟨none,op,ty,pos,af,gd⟩=true:=by exact rfl)(hg:bn ops s ⟨none,op,ty,pos,af,gd⟩=some true:=by exact rfl):pz X ops K M (fuel+1) listed s L:=Pz i hi hr h hn hg k
end
end
section
variable {A0:Option Addr} {M1:Nat}
open Go.RowKit
abbrev PG {α β:Type}(f:α->Prop)(g:β->Prop)(r:α ⊕ β):Prop:=match r with
 | .inl a=>f a
 | .inr b=>g b
def CF {α β γ:Type}(s:α ⊕ β)(f:α->γ)(g:β->γ):γ:=match s with
 | .inl a=>f a
 | .inr b=>g b
theorem Iu {α β γ:Type}{a:α}{f:α->γ}{g:β->γ}{r:γ}(h:CF (.inl a) f g=r):f a=r:=h
theorem It {α β γ:Type}{b:β}{f:α->γ}{g:β->γ}{r:γ}(h:CF (.inr b) f g=r):g b=r:=h
theorem IS {α:Type}{xs:List α}{k:Nat}{x z:α}(h:xs[k]? =some x):(xs.set k z)[k]? =some z:=by
 have h1:=(List.getElem?_eq_some_iff.1 h).1;simp [h1]
theorem Ba {α:Type}{xs:List α}{k j:Nat}{z:α}(h:k<xs.length):k<(xs.set j z).length:=by rwa [List.length_set]
theorem sO {X:Cx}{ops:Array Oper}{K:K3}{M L L':List Chunk}{fuel:Nat}{listed:Array Bool}{s:bG}{i:Nat}(hl:Cv L L')(hm:Cv L' M)(h:Hh X ops K M fuel listed s L' i):Hh X ops K M fuel listed s L i:=fun _ H Ds a w ha hds hw=>h hm H Ds a w ha hds (hl _ _ hw)
theorem Kz {X:Cx}{ops:Array Oper}{K:K3}{M L' L:List Chunk}{fuel:Nat}{listed:Array Bool}{s:bG}{i:Nat}(k:Hh X ops K M fuel listed s L i)(h:L'=L:=by repeat (first|exact sk rfl|apply oX rfl|exact rfl)):Hh X ops K M fuel listed s L' i:=h▸k
theorem sV {α:Type}{P:Program}{s:bG}{L:List Chunk}{d:Option Nat}{ty:TypeId}{pos:String}{af:Array Edge}{gd:Option (Nat×Bool)}{R:Rep α}{sz off:Nat}{x:Operand}{v:Value}{xs:List α}{c:Chunk}{k:Nat}(i:Nat)(hi:L[i]? =some c)(he:Fb R v xs c)(hx:bC s x=some (da v k sz off))(h1:k<xs.length):Rd P s L ⟨d,.nilCheck x,ty,pos,af,gd⟩ (da v k sz off):=fun Z w hw=>by
 obtain ⟨T,S,h⟩:=hw.get (bB hi);obtain ⟨A,cap,rfl, -, -,h4⟩:=he _ _ _ h;obtain ⟨b,o,vss,rfl, -⟩:=h4 V;exact bE (C:=(· =w)) (d:=d) (ty:=ty) (pos:=pos) (af:=af) (gd:=gd) hx
theorem ownsX.base {w:World}{e:TypeId}{sz:Nat}{A:Option Addr}{n c:Nat}{cs:List Value}(h:ownsX w e sz (.slice A n c) n cs)(hv:(Value.slice A n c)≠ U none 0 0): ∃c0,w.ownsRow 0 e sz (.slice A n c0) n cs/\(Value.slice A n c0)≠ U none 0 0/\n<=c/\c<=c0:=by
 rcases h.2 with ⟨e1, -⟩|⟨g,cap,cur,e1,p1,p2,p3,p4,p5,p6⟩
 ·exact absurd e1 hv
 injection e1 with e1 _ e3
 subst e1 e3;obtain ⟨c0,q1,q2,q3⟩:=p5;exact ⟨c0,⟨h.1,.inr ⟨g,c0,cur,J,p1,p2,Nat.le_trans p3 q1,q2,q3,p6⟩⟩,by simp,p3,q1⟩
theorem ownsX.recap {w:World}{e:TypeId}{sz:Nat}{A:Option Addr}{n c c0:Nat}{cs:List Value}(h:w.ownsRow 0 e sz (.slice A n c0) n cs)(hv:(Value.slice A n c0)≠ U none 0 0)(hc:n<=c/\c<=c0):ownsX w e sz (.slice A n c) n cs:=by
 rcases h.2 with ⟨e1, -⟩|⟨g,cap,cur,e1,p1,p2,p3,p4,p5,p6⟩
 ·exact absurd e1 hv
 injection e1 with e1 _ e3
 subst e1 e3;exact ⟨h.1,.inr ⟨g,c,cur,J,p1,p2,hc.1,Nat.le_trans hc.2 p4,⟨c0,hc.2,p4,p5⟩,p6⟩⟩
theorem Nf {α:Type}{P:Program}{s:bG}{L:List Chunk}{d:Option Nat}{ty:TypeId}{pos:String}{af:Array Edge}{gd:Option (Nat×Bool)}{R:Rep α}{t e sz:Nat}{x y z:Operand}{v:Value}{xs:List α}{k:Nat}(i:Nat)(hi:L[i]? =some (eK R e v xs))(hx:bC s x=some v)(hu:P.underlying t=some (.slice e))(hs:lJ P e sz=true)(hsz:R.sz=sz)(hh:bC s y=some (.int .i64 (k:Int)))(hm:bC s z=some (.int .i64 (k:Int)))(h1:k<=xs.length):OpX P s L ⟨d,.slice t x none (some y) (some z),ty,pos,af,gd⟩ fun u L'=> ∃A n c,u=.slice A n c/\L'=L.set i (eK R e (.slice A n c) (xs.take k)):=fun ρ hρ Z w hw=>by
 have hw0:=hw;obtain ⟨T,S,hT⟩:=hw;obtain ⟨A,c,rfl,q1,q2, -⟩:=aB _ _ _ (hT.ok (bB hi));have hrun:=EP (C:=fun _=>True) (d:=d) (ty:=ty) (pos:=pos) (af:=af) (gd:=gd) hx hu hs hh hm (Nat.le_refl _) V ρ hρ w trivial;refine .inl ⟨_,w,L.set i (eK R e (.slice (if k=0 then A else A.map (·.add 0)) k k) (xs.take k)),hrun,?_,_,_,_,J,J⟩
 have hl:(xs.take k).length=k:=by rw [Uc];omega
 have hfin:SepL ((L++Z).set i (eK R e (.slice (if k=0 then A else A.map (·.add 0)) k k) (xs.take k))) w:=by
  refine hw0.weak (bB hi) fun T S ⟨vss,g1,g2⟩=>⟨vss.take k,g1.take k,?_⟩
  rcases Nat.eq_zero_or_pos k with rfl|hk
  ·exact .inr ⟨by simp,_,rfl⟩
  rcases g2 with ⟨g2,g4⟩|⟨h9, -⟩
  ·rcases g2.2 with ⟨e1,h9⟩|⟨g,cap,cur,e1,p1,p2,p3,p4,p5,p6⟩
   ·omega
   injection e1 with e1 _ e3
   subst e1 e3
   have hv:(Value.slice (if k=0 then some ⟨g,0,none⟩ else (some (⟨g,0,none⟩:Addr)).map (·.add 0)) k k)=.slice (some ⟨g,0,none⟩) k k:=by rw [if_neg V];simp [nL]
   rw [hv,hl];have hn:=rL (g1.take k);rw [hl] at hn;refine .inl ⟨⟨hn,.inr ⟨g,k,cur,J,Nat.zero_le _,p2,Nat.le_refl _,by omega,?_,?_⟩⟩,fun q hq=>g4 q hq⟩
   ·obtain ⟨c0,r1,r2,r3⟩:=p5;exact ⟨c0,by omega,r2,r3⟩
   have h5:vss.flatten=(vss.take k).flatten++(vss.drop k).flatten:=by rw [<-List.flatten_append,List.take_append_drop]
   have h6:cur.toList.take (k*R.sz)=(cur.toList.take (xs.length*R.sz)).take (k*R.sz):=by rw [List.take_take,Nat.min_eq_left (Nat.mul_le_mul_right _ h1)]
   rw [h6,p6,h5, <-hn,List.take_left]
  omega
 rw [pu Z hi] at hfin;exact hfin
def Nh (w0:World)(X:Nat->Prop):Chunk where
 ok _ S w:=Agr X w0 w/\ ∀q,X q->S q
 loc:=fun h ⟨h1,h2⟩=>⟨h1.trans (h.mono fun q hq=> .inr (h2 q hq)),h2⟩
 mono:=fun hs ⟨h1,h2⟩=>⟨h1,fun q hq=>hs q (h2 q hq)⟩
 ro:=true
 dup:=fun _ _ _ _ h=>h
def MB (L:List Chunk)(n:Nat)(c:Chunk):Prop:= ∀(T:Nat->Nat->Prop) (S:Nat->Prop) (w:World),(∀(i:Nat) (c:Chunk),L[i]? =some c->c.ok (T i) S w)->c.ok (fun _=>False) (fun q=>S q\/ ∃j,n<=j/\T j q) w
section
variable {L:List Chunk} {n i:Nat}
theorem xC {α:Type}{R:Rep α}{e:TypeId}{v:Value}{xs:List α}(hn:Nat.ble n i=true)(hi:L[i]? =some (eK R e v xs)):MB L n (jL R v xs):=fun T S w h=>by
 obtain ⟨vss,h1,h2⟩:=h _ _ hi;rcases h2 with ⟨h2,hT⟩|⟨h0,A,rfl⟩
 ·rcases h2.2 with ⟨rfl,h0⟩|⟨g,cap,cur,rfl,g1,g2,g3,g4,g5,g6⟩
  ·exact ⟨none,0,by rw [h0],by omega,by omega,fun h=>absurd h V⟩
  exact ⟨_,cap,J,g3,by unfold maxLen at g4;omega,fun _=>⟨g,0,vss,rfl,.inr ⟨i,Nat.le_of_ble_eq_true hn,hT g rfl⟩,Blk.lt (t:=e) (cs:=cur) g2,h1.imp fun _ _=>R.mono fun _ hq=> .inl hq,mL (cap:=cap) g2 g6⟩⟩
 exact ⟨A,0,by rw [h0],by omega,by omega,fun h=>absurd h V⟩
end
theorem Ni {P:Program}{f:FuncId}{vs:List Value}{L pre:List Chunk}{R:Value->List Chunk->Prop}(k n:Nat)(hc:Okc P f vs pre R)(hpre:pre.drop k=L.take n)(hn:Nat.ble n L.length=true)(hk:Nat.ble k pre.length=true)(hp: ∀c∈pre.take k,MB L n c)(hfr: ∀v post,R v post-> ∀c∈post,jP c): ∀Z w,Sp Z L w->Calls P f vs.toArray w fun e w'=> ∃v post,e=.returned v/\Sp Z (post++L.drop n) w'/\R v post:=fun Z w hw=>by
 obtain ⟨T,S,hT⟩:=hw;have hn':=Nat.le_of_ble_eq_true hn;have hk':=Nat.le_of_ble_eq_true hk
 let X:Nat->Prop:=fun q=>S q\/ ∃j,n<=j/\T j q
 have hlen:pre.length=k+n:=by
  have h:=congrArg List.length hpre;rw [List.length_drop,Uc] at h;omega
 have hX: ∀{i q},i<n->T i q->X q->False:=fun hi h1 h2=>h2.elim (fun h=>hT.ro h1 h) fun ⟨j,hj,h3⟩=>hT.apart V h1 h3
 have h1:Sp [Nh w X] pre w:=by
  refine ⟨fun i q=>k<=i/\i<k+n/\T (i - k) q,X,?_,?_,?_,?_,?_⟩
  ·intro i c hi;rcases Nat.lt_or_ge i pre.length with hlt|hge
   ·rw [List.getElem?_append_left hlt] at hi;rcases Nat.lt_or_ge i k with hik|hik
    ·have hm:c∈pre.take k:=List.mem_of_getElem? (show (pre.take k)[i]? =some c by rw [List.getElem?_take,if_pos hik];exact hi)
     have h2:=hp c hm T S w fun j d hj=>hT.ok (bB hj)
     have:(fun q=>k<=i/\i<k+n/\T (i - k) q)=fun _=>False:=by funext q;exact propext ⟨fun h=>by omega,fun h=>h.elim⟩
     rw [this];exact h2
    have hd:(pre.drop k)[i - k]? =some c:=by rw [List.getElem?_drop,show k+(i - k)=i by omega];exact hi
    rw [hpre,List.getElem?_take,if_pos V] at hd;have h2:=hT.ok (bB (Z:=Z) hd)
    have:(fun q=>k<=i/\i<k+n/\T (i - k) q)=T (i - k):=by funext q;exact propext ⟨fun h=>h.2.2,fun h=>⟨hik,by omega,h⟩⟩
    rw [this];exact c.mono (fun _ h=> .inl h) h2
   rw [List.getElem?_append_right hge] at hi
   have hc:c=Nh w X:=by
    cases hk:i - pre.length with
    |zero=>rw [hk] at hi;simpa using hi.symm
    |succ k=>rw [hk] at hi;simp at hi
   subst hc;exact ⟨Agr.refl _ _,fun _ h=>h⟩
  ·rintro i j q hij ⟨a1,a2,a3⟩ ⟨b1,b2,b3⟩;exact hT.apart V a3 b3
  ·rintro i q ⟨a1,a2,a3⟩ h;exact hX V a3 h
  ·rintro i q ⟨_,_,a3⟩;exact hT.lt a3
  rintro q (h|⟨j,_,h⟩)
  ·exact hT.lts h
  exact hT.lt h
 refine (hc _ w h1).mono ?_;rintro e w' ⟨v,post,rfl,⟨T',S',h2⟩,h3⟩;obtain ⟨hx,hS⟩:(Nh w X).ok (T' post.length) S' w':=h2.ok (by simp);refine ⟨v,post,J,⟨fun i q=>if i<post.length then T' i q else T (i - post.length+n) q,S,?_,?_,?_,?_,fun hq=>Nat.lt_of_lt_of_le (hT.lts hq) hx.size⟩,h3⟩
 ·intro i c hi;rw [TS] at hi;rcases Nat.lt_or_ge i post.length with hlt|hge
  ·rw [List.getElem?_append_left hlt] at hi;have h4:=h2.ok (show (post++ [Nh w X])[i]? =some c by rw [List.getElem?_append_left hlt];exact hi);simp only [hlt,if_true];exact hfr v post h3 c (List.mem_of_getElem? hi) _ _ _ _ h4
  rw [List.getElem?_append_right hge] at hi;simp only [show¬i<post.length by omega,if_false]
  have h5:(L++Z)[i - post.length+n]? =some c:=by
   rw [<-List.drop_append_of_le_length hn',List.getElem?_drop,Nat.add_comm] at hi;exact hi
  exact c.loc (hx.mono fun q hq=>hq.elim (fun h=> .inr ⟨_,by omega,h⟩) .inl) (hT.ok h5)
 ·intro i j q hij h4 h5;by_cases e1:i<post.length<;>by_cases e2:j<post.length
  ·simp only [e1,e2,if_true] at h4 h5;exact h2.apart hij h4 h5
  ·simp only [e1,e2,if_true,if_false] at h4 h5;exact h2.ro h4 (hS q (.inr ⟨_,by omega,h5⟩))
  ·simp only [e1,e2,if_true,if_false] at h4 h5;exact h2.ro h5 (hS q (.inr ⟨_,by omega,h4⟩))
  simp only [e1,e2,if_false] at h4 h5;exact hT.apart V h4 h5
 ·intro i q h4 h5;by_cases e1:i<post.length
  ·simp only [e1,if_true] at h4;exact h2.ro h4 (hS q (.inl h5))
  simp only [e1,if_false] at h4;exact hT.ro h4 h5
 intro i q h4;by_cases e1:i<post.length
 ·simp only [e1,if_true] at h4;exact h2.lt h4
 simp only [e1,if_false] at h4;exact Nat.lt_of_lt_of_le (hT.lt h4) hx.size
theorem Gu {P:Program}{s:bG}{L:List Chunk}{d:Option Nat}{ty:TypeId}{pos:String}{af:Array Edge}{gd:Option (Nat×Bool)}{f:FuncId}{xs:List Operand}{ats:Array TypeId}{vs:List Value}{pre:List Chunk}{R:Value->List Chunk->Prop}(k n:Nat)(hc:Okc P f vs pre R)(hf:iP P f)(hv:Eb s xs=some vs)(hpre:pre.drop k=L.take n)(hn:Nat.ble n L.length=true)(hk:Nat.ble k pre.length=true)(hp: ∀c∈pre.take k,MB L n c)(hfr: ∀v post,R v post-> ∀c∈post,jP c):OpX P s L ⟨d,.call ⟨.value (.func f),xs.toArray,ats⟩,ty,pos,af,gd⟩ fun u L'=> ∃post,R u post/\L'=post++L.drop n:=fun ρ hρ Z w hw=>by
 refine .inr (.inr (.inl ⟨f,vs.toArray,we hf (lU hρ hv) (hρ _ _ J),?_⟩));refine (Ni k n hc hpre hn hk hp hfr Z w hw).mono ?_;rintro e w' ⟨v,post,rfl,h2,h3⟩;exact ⟨v,post++L.drop n,J,h2,post,h3,J⟩
theorem JL {P:Program}{s:bG}{L:List Chunk}{d:Option Nat}{ty:TypeId}{pos:String}{af:Array Edge}{gd:Option (Nat×Bool)}{f:FuncId}{x:Operand}{xs:List Operand}{ats:Array TypeId}{vs us:List Value}{bs:Array Value}{pre:List Chunk}{R:Value->List Chunk->Prop}(hc:Okc P f us pre R)(hf:iP P f)(hx:bC s x=some (.func (.func f) bs #[]))(hv:Eb s xs=some vs)(hu:bs.toList++vs=us)(hp: ∀c∈pre,ze L c)(hfr: ∀v post,R v post-> ∀c∈post,jP c):OpX P s L ⟨d,.call ⟨.value x,xs.toArray,ats⟩,ty,pos,af,gd⟩ fun u L'=> ∃post,R u post/\L'=post++L:=fun ρ hρ Z w hw=>by
 subst hu;refine .inr (.inr (.inl ⟨f,(bs.toList++vs).toArray,by simpa using t7 hf (lU hρ hv) (hρ _ _ hx),?_⟩));refine (zI hc hp hfr Z w hw).mono ?_;rintro e w' ⟨v,post,rfl,h2,h3⟩;exact ⟨v,post++L,J,h2,post,h3,J⟩
theorem Kd {α β:Type}{ek:α->Value}{ev:β->Value}{m:Nat}{kv:List (α×β)}:jP (am ek ev m kv):=fun _ _ _ _ h=>h
end
end Go.Proofs.YtjmonlcchlkdhaaGreat
namespace Go.Proofs
open Go.Shelf
def Tryz.lays215_ren:Go.Shelf.Ren:=⟨fun|215=>182|n=>n,fun|3=>3|4=>4|n=>n,fun|n=>n⟩
theorem Tryz.lays215:Go.Proofs.Lays.n215 Tryz.prog Tryz.lays215_ren:={
 mixed:=by kernel_rfl
 f215:=Tryz.func182.trans (congrArg some (by kernel_rfl))
 t3:=Tryz.underlying3
 a3:=Tryz.isAgg3
 z3:=Tryz.sizeOf3
 v3:=Tryz.zeroValue3
 t4:=Tryz.underlying4
 a4:=Tryz.isAgg4
 z4:=Tryz.sizeOf4
 v4:=Tryz.zeroValue4}
open Go.RowKit in
theorem Tryz.cmp_isNaN_int (x:Int)(w:World):
  Calls Tryz.prog 182 #[.int .i64 x] w fun e w'=>e=.returned (.bool false)∧w'=w:=Any.cmp_isNaN_int Tryz.lays215 x w
def Tryz.lays189_ren:Go.Shelf.Ren:=⟨fun|189=>148|125=>185|257=>184|128=>204|129=>205|294=>196|295=>197|296=>198|297=>199|298=>200|299=>201|216=>144|300=>202|301=>203|328=>211|329=>212|330=>213|331=>214|332=>215|215=>182|343=>216|n=>n,fun|28=>39|3=>3|46=>194|0=>0|51=>242|53=>244|4=>4|183=>236|182=>235|131=>139|5=>5|9=>9|218=>247|222=>251|228=>255|229=>256|n=>n,fun|n=>n⟩
theorem Tryz.lays189:Go.Proofs.Lays.n189 Tryz.prog Tryz.lays189_ren:={
 mixed:=by kernel_rfl
 f125:=Tryz.func185.trans (congrArg some (by kernel_rfl))
 f128:=Tryz.func204.trans (congrArg some (by kernel_rfl))
 f129:=Tryz.func205.trans (congrArg some (by kernel_rfl))
 f189:=Tryz.func148.trans (congrArg some (by kernel_rfl))
 f215:=Tryz.func182.trans (congrArg some (by kernel_rfl))
 f216:=Tryz.func144.trans (congrArg some (by kernel_rfl))
 f257:=Tryz.func184.trans (congrArg some (by kernel_rfl))
 f294:=Tryz.func196.trans (congrArg some (by kernel_rfl))
 f295:=Tryz.func197.trans (congrArg some (by kernel_rfl))
 f296:=Tryz.func198.trans (congrArg some (by kernel_rfl))
 f297:=Tryz.func199.trans (congrArg some (by kernel_rfl))
 f298:=Tryz.func200.trans (congrArg some (by kernel_rfl))
 f299:=Tryz.func201.trans (congrArg some (by kernel_rfl))
 f300:=Tryz.func202.trans (congrArg some (by kernel_rfl))
 f301:=Tryz.func203.trans (congrArg some (by kernel_rfl))
 f328:=Tryz.func211.trans (congrArg some (by kernel_rfl))
 f329:=Tryz.func212.trans (congrArg some (by kernel_rfl))
 f330:=Tryz.func213.trans (congrArg some (by kernel_rfl))
 f331:=Tryz.func214.trans (congrArg some (by kernel_rfl))
 f332:=Tryz.func215.trans (congrArg some (by kernel_rfl))
 f343:=Tryz.func216.trans (congrArg some (by kernel_rfl))
 t0:=Tryz.underlying0
 a0:=Tryz.isAgg0
 z0:=Tryz.sizeOf0
 v0:=Tryz.zeroValue0
 t3:=Tryz.underlying3
 a3:=Tryz.isAgg3
 z3:=Tryz.sizeOf3
 v3:=Tryz.zeroValue3
 t4:=Tryz.underlying4
 a4:=Tryz.isAgg4
 z4:=Tryz.sizeOf4
 v4:=Tryz.zeroValue4
 t5:=Tryz.underlying5
 a5:=Tryz.isAgg5
 z5:=Tryz.sizeOf5
 v5:=Tryz.zeroValue5
 t9:=Tryz.underlying9
 a9:=Tryz.isAgg9
 z9:=Tryz.sizeOf9
 v9:=Tryz.zeroValue9
 t28:=Tryz.underlying39
 a28:=Tryz.isAgg39
 z28:=Tryz.sizeOf39
 v28:=Tryz.zeroValue39
 t46:=Tryz.underlying194
 a46:=Tryz.isAgg194
 z46:=Tryz.sizeOf194
 v46:=Tryz.zeroValue194
 t51:=Tryz.underlying242
 a51:=Tryz.isAgg242
 z51:=Tryz.sizeOf242
 v51:=Tryz.zeroValue242
 t53:=Tryz.underlying244
 a53:=Tryz.isAgg244
 z53:=Tryz.sizeOf244
 v53:=Tryz.zeroValue244
 t131:=Tryz.underlying139
 a131:=Tryz.isAgg139
 z131:=Tryz.sizeOf139
 v131:=Tryz.zeroValue139
 t182:=Tryz.underlying235
 a182:=Tryz.isAgg235
 z182:=Tryz.sizeOf235
 v182:=Tryz.zeroValue235
 t183:=Tryz.underlying236
 a183:=Tryz.isAgg236
 z183:=Tryz.sizeOf236
 v183:=Tryz.zeroValue236
 t218:=Tryz.underlying247
 a218:=Tryz.isAgg247
 z218:=Tryz.sizeOf247
 v218:=Tryz.zeroValue247
 t222:=Tryz.underlying251
 a222:=Tryz.isAgg251
 z222:=Tryz.sizeOf251
 v222:=Tryz.zeroValue251
 t228:=Tryz.underlying255
 a228:=Tryz.isAgg255
 z228:=Tryz.sizeOf255
 v228:=Tryz.zeroValue255
 t229:=Tryz.underlying256
 a229:=Tryz.isAgg256
 z229:=Tryz.sizeOf256
 v229:=Tryz.zeroValue256}
open Go.Sort Go.RowKit in
theorem Tryz.slices_Sort_int (OL off cap:Nat)(zs:List Int)(w:World)(hH:Holds (Value.int .i64) w OL off zs.toArray)(hblk:OL<w.heap.size)(hsz:zs.length<4611686018427387904):
  Calls Tryz.prog 148 #[.slice (some ⟨OL,off,none⟩) zs.length cap] w fun e w'=>
   e=.returned (.tuple #[])∧ ∃n os,w'=grow (putRow (Value.int .i64) (Sort.ahead w n) OL off (zs.mergeSort fun x y=>decide (x≤y)).toArray) os:=Any.slices_Sort_int Tryz.lays189 OL off cap zs w hH hblk hsz
def Tryz.lays108_ren:Go.Shelf.Ren:=⟨fun|108=>180|n=>n,fun|28=>39|3=>3|0=>0|4=>4|n=>n,fun|n=>n⟩
theorem Tryz.lays108:Go.Proofs.Lays.n108 Tryz.prog Tryz.lays108_ren:={
 mixed:=by kernel_rfl
 f108:=Tryz.func180.trans (congrArg some (by kernel_rfl))
 t0:=Tryz.underlying0
 a0:=Tryz.isAgg0
 z0:=Tryz.sizeOf0
 v0:=Tryz.zeroValue0
 t3:=Tryz.underlying3
 a3:=Tryz.isAgg3
 z3:=Tryz.sizeOf3
 v3:=Tryz.zeroValue3
 t4:=Tryz.underlying4
 a4:=Tryz.isAgg4
 z4:=Tryz.sizeOf4
 v4:=Tryz.zeroValue4
 t28:=Tryz.underlying39
 a28:=Tryz.isAgg39
 z28:=Tryz.sizeOf39
 v28:=Tryz.zeroValue39}
open Go.Lib in
theorem Tryz.slices_Index_int (b off n c:Nat)(zs:List Int)(x:Int)(w:World)(hz:n≤zs.length)(hbig:n≤9223372036854775807)(hc: ∀j,j<zs.length→w.cell? ⟨b,off+j,none⟩=some (.int .i64 (zs.getD j 0))):
  Calls Tryz.prog 180 #[.slice (some ⟨b,off,none⟩) n c,.int .i64 x] w fun e w'=>e=.returned (.int .i64 (Lib.idxOf (zs.take n) x))∧w'=w:=Any.slices_Index_int Tryz.lays108 b off n c zs x w hz hbig hc
open Go.Lib in
theorem Tryz.slices_Index_int_empty (a:Option Addr)(c:Nat)(x:Int)(w:World):
  Calls Tryz.prog 180 #[.slice a 0 c,.int .i64 x] w fun e w'=>e=.returned (.int .i64 (Lib.idxOf [] x))∧w'=w:=Any.slices_Index_int_empty Tryz.lays108 a c x w
def Tryz.lays107_ren:Go.Shelf.Ren:=⟨fun|107=>134|108=>180|n=>n,fun|28=>39|3=>3|4=>4|0=>0|n=>n,fun|n=>n⟩
theorem Tryz.lays107:Go.Proofs.Lays.n107 Tryz.prog Tryz.lays107_ren:={
 mixed:=by kernel_rfl
 f107:=Tryz.func134.trans (congrArg some (by kernel_rfl))
 f108:=Tryz.func180.trans (congrArg some (by kernel_rfl))
 t0:=Tryz.underlying0
 a0:=Tryz.isAgg0
 z0:=Tryz.sizeOf0
 v0:=Tryz.zeroValue0
 t3:=Tryz.underlying3
 a3:=Tryz.isAgg3
 z3:=Tryz.sizeOf3
 v3:=Tryz.zeroValue3
 t4:=Tryz.underlying4
 a4:=Tryz.isAgg4
 z4:=Tryz.sizeOf4
 v4:=Tryz.zeroValue4
 t28:=Tryz.underlying39
 a28:=Tryz.isAgg39
 z28:=Tryz.sizeOf39
 v28:=Tryz.zeroValue39}
open Go.Lib in
theorem Tryz.slices_Contains_int (b off n c:Nat)(zs:List Int)(x:Int)(w:World)(hz:n≤zs.length)(hbig:n≤9223372036854775807)(hc: ∀j,j<zs.length→w.cell? ⟨b,off+j,none⟩=some (.int .i64 (zs.getD j 0))):
  Calls Tryz.prog 134 #[.slice (some ⟨b,off,none⟩) n c,.int .i64 x] w fun e w'=>e=.returned (.bool ((zs.take n).contains x))∧w'=w:=Any.slices_Contains_int Tryz.lays107 b off n c zs x w hz hbig hc
open Go.Lib in
theorem Tryz.slices_Contains_int_empty (a:Option Addr)(c:Nat)(x:Int)(w:World):
  Calls Tryz.prog 134 #[.slice a 0 c,.int .i64 x] w fun e w'=>e=.returned (.bool false)∧w'=w:=Any.slices_Contains_int_empty Tryz.lays107 a c x w
open Go.RowKit Go.Sort in
theorem Tryz.slices_Sort_int_none (p:Option Addr)(cap:Nat)(w:World):
  Calls Tryz.prog 148 #[.slice p 0 cap] w fun e w'=>e=.returned (.tuple #[])∧w'=w:=Any.slices_Sort_int_none Tryz.lays189 p cap w
end Go.Proofs
namespace Go.Proofs.YtjmonlcchlkdhaaGreat
section
variable {A0:Option Addr} {M1:Nat}
open Go.RowKit Go.Lib Go.Sort
abbrev Qi (z:Int):Value:=.int .i64 z
def jK (zs:List Int):List Int:=zs.mergeSort fun x y=>decide (x<=y)
theorem tS (zs:List Int):(jK zs).length=zs.length:=by simp [jK]
theorem Nb {w w':World}{base n:Nat}{v:Value}{xs:List Value}(h:w.ownsRow base 3 1 v n xs)(hb:Ext w w'):w'.ownsRow base 3 1 v n xs:=by
 refine ⟨h.1,?_⟩;rcases h.2 with h3|⟨g,cap,cur,e,hg,hh,r⟩
 ·exact .inl h3
 exact .inr ⟨g,cap,cur,e,hg,(Blk.ext (t:=3) hh hb),r⟩
theorem LO (w:World)(os:Array Obj):Ext w (grow w os):=⟨rfl,rfl,rfl,by simp,fun _ hk=>heap_grow_old w os hk⟩
theorem Ke {S:Nat->Prop}{w:World}{vss:List (List Value)}{xs:List Int}(h:All2 ((dg .i64).rel S w) vss xs):vss.flatten=xs.map Qi:=by
 induction h with
 |nil=>rfl
 |cons h1 h2 ih=>
  simp only [List.flatten_cons,List.map_cons,ih];rw [show _=_ from h1];rfl
theorem El (S:Nat->Prop)(w:World): ∀(xs:List Int),All2 ((dg .i64).rel S w) (xs.map fun x=> [.int .i64 x]) xs
 | []=> .nil
 |x::xs=> .cons rfl (El S w xs)
theorem LF (xs:List Int):((xs.map fun x=> [Value.int .i64 x])).flatten=xs.map Qi:=by
 induction xs with
 |nil=>rfl
 |cons x l ih=>simp only [List.map_cons,List.flatten_cons,ih];rfl
def pD (_:Nat)(a0:List Int):Option TO:=be (bJ a0.length) (some (jK a0))
theorem CG {N:Nat}{a0:List Int}{r:List Int}(h:pD N a0=some r){A:Option Addr}{n c:Nat}:Okc Ua 148 [.slice A n c] [eK (dg .i64) 3 (.slice A n c) a0] fun u post=>u=.tuple #[]/\post=[eK (dg .i64) 3 (.slice A n c) r]:=fun Z w hw=>by
 obtain ⟨hf,h⟩:=ah h;obtain rfl:=bS h;have hw0:=hw;obtain ⟨T,S,hT⟩:=hw;obtain ⟨vss,g1,g2⟩:=hT.ok (i:=0) (c:=eK (dg .i64) 3 (.slice A n c) a0) rfl
 have none_:a0=[]->n=0->Calls Ua 148 #[.slice A n c] w fun e w'=> ∃v post,e=.returned v/\Sp Z post w'/\v=.tuple #[]/\post=[eK (dg .i64) 3 (.slice A n c) (jK a0)]:=by
  rintro rfl rfl;refine (Tryz.slices_Sort_int_none A c w).mono ?_;rintro e w' ⟨rfl,rfl⟩
  have e0:jK []=[]:=by simp [jK]
  rw [e0];exact ⟨_,_,J,hw0,J,J⟩
 rcases g2 with ⟨ho,h3⟩|⟨h0,A',e⟩
 ·by_cases hv:(Value.slice A n c)=U none 0 0
  ·have hn:a0=[]:=by
    rcases ho.2 with ⟨_,h⟩|⟨g,cap,cur,e,_⟩
    ·exact List.eq_nil_of_length_eq_zero h
    rw [hv] at e;cases e
   injection hv with _ e2 _
   exact none_ hn e2
  have hnl:n=a0.length:=by
   rcases ho.2 with ⟨e1, -⟩|⟨g,cap,cur,e1, -⟩
   ·exact absurd e1 hv
   injection e1
  subst hnl;obtain ⟨c0,ho1,hv0,hc⟩:=ownsX.base ho hv;rw [Ke g1] at ho1;obtain ⟨g,cap,e,hg,hlt,hn,hm, -,hH⟩:=holds_of_ownsRow ho1 hv0
  injection e with e1 e2 e3
  subst e1 e3;refine (Tryz.slices_Sort_int g 0 c a0 w hH hlt (by unfold bJ at hf;omega)).mono ?_;rintro e w' ⟨rfl,k,os,rfl⟩;refine ⟨_,_,J,?_,J,J⟩;have hTg:T 0 g:=h3 g rfl;have h1:=ownsRow_putRow (q:=k) (ys:=jK a0) (k:=a0.length) ho1 (tS a0) (Nat.le_refl _);rw [List.take_of_length_le (by rw [tS];exact Nat.le_refl _)] at h1;have h2:=Nb h1 (LO _ os);refine hT.upd (i:=0) (c:=eK (dg .i64) 3 (.slice (some ⟨g,0,none⟩) a0.length c) a0) J (T':=T 0) ⟨J,J,J,by simp [putRow,mapBlock,Sort.ahead],fun q hq hn=> ?_⟩ (fun _=> .inl) (fun q hq=>Nat.lt_of_lt_of_le (hT.lt hq) (by simp [putRow,mapBlock,Sort.ahead])) ?_
  ·have hne:q≠g:=fun e=>hn (e▸hTg)
   rw [heap_grow_old _ os (by simpa [putRow,mapBlock,Sort.ahead] using hq)];simp [putRow,mapBlock,Sort.ahead,Array.getElem?_modify,Ne.symm hne]
  refine ⟨(jK a0).map fun x=> [.int .i64 x],El _ _ _,.inl ⟨?_,h3⟩⟩;rw [LF,tS];exact .recap h2 hv0 hc
 injection e with e1 e2 e3
 exact none_ (List.eq_nil_of_length_eq_zero h0) e2
end
end Go.Proofs.YtjmonlcchlkdhaaGreat
namespace Go.Proofs
open Go.Shelf
def Tryz.keysA_ren:Go.Shelf.Ren:=⟨fun|7=>104|10=>149|n=>n,fun|23=>145|26=>3|3=>4|28=>143|0=>0|27=>142|33=>87|4=>4|n=>n,fun|n=>n⟩
theorem Tryz.keysA:Go.Proofs.SlLaysZI.n7 Tryz.prog Tryz.keysA_ren:={
 mixed:=by kernel_rfl
 f7:=⟨Tryz.f104.name,by decide,Tryz.func104.trans (congrArg some (by kernel_rfl))⟩
 f10:=⟨Tryz.f149.name,by decide,Tryz.func149.trans (congrArg some (by kernel_rfl))⟩
 t0:=Tryz.underlying0
 a0:=Tryz.isAgg0
 z0:=Tryz.sizeOf0
 v0:=Tryz.zeroValue0
 t4:=Tryz.underlying4
 a4:=Tryz.isAgg4
 z4:=Tryz.sizeOf4
 v4:=Tryz.zeroValue4
 t23:=Tryz.underlying145
 a23:=Tryz.isAgg145
 z23:=Tryz.sizeOf145
 v23:=Tryz.zeroValue145
 t26:=Tryz.underlying3
 a26:=Tryz.isAgg3
 z26:=Tryz.sizeOf3
 v26:=Tryz.zeroValue3
 t27:=Tryz.underlying142
 a27:=Tryz.isAgg142
 z27:=Tryz.sizeOf142
 v27:=Tryz.zeroValue142
 t28:=Tryz.underlying143
 a28:=Tryz.isAgg143
 z28:=Tryz.sizeOf143
 v28:=Tryz.zeroValue143
 t33:=Tryz.underlying87
 a33:=Tryz.isAgg87
 z33:=Tryz.sizeOf87
 v33:=Tryz.zeroValue87}
def Tryz.sortedA_ren:Go.Shelf.Ren:=⟨fun|6=>103|8=>147|9=>148|11=>183|13=>185|12=>184|23=>204|24=>205|14=>196|15=>197|16=>198|17=>199|18=>200|19=>201|20=>144|21=>202|22=>203|25=>211|26=>212|27=>213|28=>214|29=>215|30=>182|31=>216|n=>n,fun|26=>3|28=>143|24=>39|0=>0|3=>3|37=>194|48=>242|50=>244|4=>4|40=>236|39=>235|45=>139|5=>5|9=>9|51=>247|55=>251|57=>255|58=>256|33=>87|n=>n,fun|n=>n⟩
theorem Tryz.sortedA:Go.Proofs.SlLaysZI.n6 Tryz.prog Tryz.sortedA_ren:={
 mixed:=by kernel_rfl
 f6:=⟨Tryz.f103.name,by decide,Tryz.func103.trans (congrArg some (by kernel_rfl))⟩
 f8:=⟨Tryz.f147.name,by decide,Tryz.func147.trans (congrArg some (by kernel_rfl))⟩
 f11:=⟨Tryz.f183.name,by decide,Tryz.func183.trans (congrArg some (by kernel_rfl))⟩
 t0:=Tryz.underlying0
 a0:=Tryz.isAgg0
 z0:=Tryz.sizeOf0
 v0:=Tryz.zeroValue0
 t24:=Tryz.underlying39
 a24:=Tryz.isAgg39
 z24:=Tryz.sizeOf39
 v24:=Tryz.zeroValue39
 t26:=Tryz.underlying3
 a26:=Tryz.isAgg3
 z26:=Tryz.sizeOf3
 v26:=Tryz.zeroValue3
 t28:=Tryz.underlying143
 a28:=Tryz.isAgg143
 z28:=Tryz.sizeOf143
 v28:=Tryz.zeroValue143
 i26:=by kernel_rfl}
def Tryz.sortA_ren:Go.Shelf.Ren:=⟨fun|5=>148|8=>185|7=>184|19=>204|20=>205|10=>196|11=>197|12=>198|13=>199|14=>200|15=>201|16=>144|17=>202|18=>203|30=>211|31=>212|32=>213|33=>214|34=>215|35=>182|40=>216|n=>n,fun|23=>39|25=>3|3=>3|32=>194|22=>39|0=>0|44=>242|46=>244|4=>4|36=>236|35=>235|41=>139|5=>5|9=>9|53=>247|57=>251|63=>255|64=>256|n=>n,fun|n=>n⟩
theorem Tryz.sortA:Go.Proofs.SlLaysM.n5 Tryz.prog Tryz.sortA_ren:={
 mixed:=by kernel_rfl
 f5:=⟨Tryz.f148.name,by decide,Tryz.func148.trans (congrArg some (by kernel_rfl))⟩
 f7:=⟨Tryz.f184.name,by decide,Tryz.func184.trans (congrArg some (by kernel_rfl))⟩
 f8:=Tryz.func185.trans (congrArg some (by kernel_rfl))
 f10:=⟨Tryz.f196.name,by decide,Tryz.func196.trans (congrArg some (by kernel_rfl))⟩
 f11:=⟨Tryz.f197.name,by decide,Tryz.func197.trans (congrArg some (by kernel_rfl))⟩
 f12:=⟨Tryz.f198.name,by decide,Tryz.func198.trans (congrArg some (by kernel_rfl))⟩
 f13:=⟨Tryz.f199.name,by decide,Tryz.func199.trans (congrArg some (by kernel_rfl))⟩
 f14:=⟨Tryz.f200.name,by decide,Tryz.func200.trans (congrArg some (by kernel_rfl))⟩
 f15:=⟨Tryz.f201.name,by decide,Tryz.func201.trans (congrArg some (by kernel_rfl))⟩
 f16:=⟨Tryz.f144.name,by decide,Tryz.func144.trans (congrArg some (by kernel_rfl))⟩
 f17:=⟨Tryz.f202.name,by decide,Tryz.func202.trans (congrArg some (by kernel_rfl))⟩
 f18:=⟨Tryz.f203.name,by decide,Tryz.func203.trans (congrArg some (by kernel_rfl))⟩
 f19:=Tryz.func204.trans (congrArg some (by kernel_rfl))
 f20:=Tryz.func205.trans (congrArg some (by kernel_rfl))
 f30:=⟨Tryz.f211.name,by decide,Tryz.func211.trans (congrArg some (by kernel_rfl))⟩
 f31:=Tryz.func212.trans (congrArg some (by kernel_rfl))
 f32:=Tryz.func213.trans (congrArg some (by kernel_rfl))
 f33:=⟨Tryz.f214.name,by decide,Tryz.func214.trans (congrArg some (by kernel_rfl))⟩
 f34:=⟨Tryz.f215.name,by decide,Tryz.func215.trans (congrArg some (by kernel_rfl))⟩
 f35:=⟨Tryz.f182.name,by decide,Tryz.func182.trans (congrArg some (by kernel_rfl))⟩
 f40:=⟨Tryz.f216.name,by decide,Tryz.func216.trans (congrArg some (by kernel_rfl))⟩
 t0:=Tryz.underlying0
 a0:=Tryz.isAgg0
 z0:=Tryz.sizeOf0
 v0:=Tryz.zeroValue0
 t3:=Tryz.underlying3
 a3:=Tryz.isAgg3
 z3:=Tryz.sizeOf3
 v3:=Tryz.zeroValue3
 t4:=Tryz.underlying4
 a4:=Tryz.isAgg4
 z4:=Tryz.sizeOf4
 v4:=Tryz.zeroValue4
 t5:=Tryz.underlying5
 a5:=Tryz.isAgg5
 z5:=Tryz.sizeOf5
 v5:=Tryz.zeroValue5
 t9:=Tryz.underlying9
 a9:=Tryz.isAgg9
 z9:=Tryz.sizeOf9
 v9:=Tryz.zeroValue9
 t22:=Tryz.underlying39
 a22:=Tryz.isAgg39
 z22:=Tryz.sizeOf39
 v22:=Tryz.zeroValue39
 t23:=Tryz.underlying39
 a23:=Tryz.isAgg39
 z23:=Tryz.sizeOf39
 v23:=Tryz.zeroValue39
 t25:=Tryz.underlying3
 a25:=Tryz.isAgg3
 z25:=Tryz.sizeOf3
 v25:=Tryz.zeroValue3
 t32:=Tryz.underlying194
 a32:=Tryz.isAgg194
 z32:=Tryz.sizeOf194
 v32:=Tryz.zeroValue194
 t35:=Tryz.underlying235
 a35:=Tryz.isAgg235
 z35:=Tryz.sizeOf235
 v35:=Tryz.zeroValue235
 t36:=Tryz.underlying236
 a36:=Tryz.isAgg236
 z36:=Tryz.sizeOf236
 v36:=Tryz.zeroValue236
 t41:=Tryz.underlying139
 a41:=Tryz.isAgg139
 z41:=Tryz.sizeOf139
 v41:=Tryz.zeroValue139
 t44:=Tryz.underlying242
 a44:=Tryz.isAgg242
 z44:=Tryz.sizeOf242
 v44:=Tryz.zeroValue242
 t46:=Tryz.underlying244
 a46:=Tryz.isAgg244
 z46:=Tryz.sizeOf244
 v46:=Tryz.zeroValue244
 t53:=Tryz.underlying247
 a53:=Tryz.isAgg247
 z53:=Tryz.sizeOf247
 v53:=Tryz.zeroValue247
 t57:=Tryz.underlying251
 a57:=Tryz.isAgg251
 z57:=Tryz.sizeOf251
 v57:=Tryz.zeroValue251
 t63:=Tryz.underlying255
 a63:=Tryz.isAgg255
 z63:=Tryz.sizeOf255
 v63:=Tryz.zeroValue255
 t64:=Tryz.underlying256
 a64:=Tryz.isAgg256
 z64:=Tryz.sizeOf256
 v64:=Tryz.zeroValue256}
end Go.Proofs
namespace Go.Proofs.YtjmonlcchlkdhaaGreat
section
variable {A0:Option Addr} {M1:Nat}
open Go.RowKit Go.Maps Go.Shelf
def fG {β:Type}(kv:List (Int×β)):List Int:=(kv.map (·.1)).mergeSort (fun x y=>decide (x<=y))
theorem Hi (m:Nat):AnyZI.SortsIn Ua Tryz.sortedA_ren Fence.wide m:=
 ⟨fun OL off cap ss W hH hblk hsz=>callsIn_wide.2 (AnyM.slices_Sort_int Tryz.sortA OL off cap ss W hH hblk hsz),
  fun p cap W=>callsIn_wide.2 (AnyM.slices_Sort_int_none Tryz.sortA p cap W)⟩
abbrev P7:Lit->Int:=Go.intOf
def FW:Value->Option (DataW Unit×List MemPlace):=fun _=>some (.nil,[])
theorem HH {β:Type}{ev:β->Value}{w:World}{m:Nat}{kv:List (Int×β)}(h:Mp w m bj ev kv)(hk: ∀k∈kv.map (·.1),in64 k)(hd:(kv.map (·.1)).Nodup)(hn:kv.length<=1099511627776): ∃D:DataW Unit,w.ownsMap Ua 3 FW m kv.length D/\(intKeys D).Perm (kv.map (·.1))/\Maps.size D=kv.length:=by
 obtain ⟨es,clk,h1,h2,h3,h4⟩:=h
 have hlen:es.size=kv.length:=by simpa using congrArg List.length h2
 have hrd: ∀x∈es.toList, ∃a,a∈kv.map (·.1)/\x.key=bj a/\WideElems.rd Ua 3 FW x=some (Lit.int .i64 a,DataW.nil):=by
  intro x hx;have h5:(x.key,x.val)∈es.toList.map (fun e=>(e.key,e.val)):=List.mem_map.2 ⟨x,hx,rfl⟩;rw [h2] at h5;obtain ⟨p,hp,e⟩:=List.mem_map.1 h5;have e1:bj p.1=x.key:=congrArg Prod.fst e;have hp1:p.1∈kv.map (·.1):=List.mem_map.2 ⟨p,hp,rfl⟩;refine ⟨p.1,hp1,e1.symm,?_⟩;have hw:=hk p.1 hp1;unfold WideElems.rd;rw [<-e1];unfold bj;rw [keyOf_int_mk hU (by have e1:IntKind.i64.min= -9223372036854775808:=rfl;have e2:IntKind.i64.max=9223372036854775807:=rfl;unfold Lit.wf;simp only [e1,e2,Uf,decide_eq_true_eq];exact hw)];rfl
 have hkeys:es.toList.map (·.key)=kv.map (fun p=>bj p.1):=by
  have h5:=congrArg (List.map Prod.fst) h2;simpa [List.map_map,Function.comp_def] using h5
 have hrg:(es.toList.map (WideElems.rg Ua 3 FW)).map (fun p=>P7 p.1)=kv.map (·.1):=by
  have h6:es.toList.map (fun x=>P7 (WideElems.rg Ua 3 FW x).1)=(es.toList.map (·.key)).map (fun v=>match v with| .int _ a=>a|_=>0):=by
   rw [List.map_map];apply List.map_congr_left;intro x hx;obtain ⟨a, -,h7,h8⟩:=hrd x hx;simp only [WideElems.rg,h8,Option.getD_some,Function.comp,h7];rfl
  simp only [List.map_map,Function.comp_def] at h6⊢;rw [h6];have h9:=congrArg (List.map (fun v:Value=>match v with| .int _ a=>a|_=>(0:Int))) hkeys;simp only [List.map_map,Function.comp_def,bj] at h9;exact h9
 refine ⟨_,⟨es,clk,h1,⟨by unfold maxLen;omega,⟨h4,?_,?_⟩,fun x hx=> ?_⟩,by omega,rfl⟩,?_,?_⟩
 ·rw [List.nodup_iff_pairwise_ne,List.pairwise_map]
  exact h3.imp fun h=>by omega
 ·rw [hkeys]
  have:kv.map (fun p=>bj p.1)=(kv.map (·.1)).map bj:=by rw [List.map_map];rfl
  rw [this,List.nodup_iff_pairwise_ne,List.pairwise_map]
  exact (List.nodup_iff_pairwise_ne.1 hd).imp fun h e=>h (by unfold bj at e;injection e)
 ·obtain ⟨a, -, -,h8⟩:=hrd x hx;exact ⟨_,h8⟩
 ·rw [<-hrg];exact ((WideShapes.sorted_perm _).map _)
 rw [Maps.size_eq,(WideShapes.sorted_perm _).length_eq];simp [hlen]
theorem JH {a b:List Int}(h:a.Perm b):a.mergeSort (fun x y=>decide (x<=y))=b.mergeSort (fun x y=>decide (x<=y)):=by
 have tr: ∀x y z:Int,decide (x<=y)=true->decide (y<=z)=true->decide (x<=z)=true:=by simp;omega
 have tot: ∀x y:Int,(decide (x<=y)||decide (y<=x))=true:=by simp;omega
 have s1:=List.pairwise_mergeSort tr tot a;have s2:=List.pairwise_mergeSort tr tot b;have p:(a.mergeSort (fun x y=>decide (x<=y))).Perm (b.mergeSort (fun x y=>decide (x<=y))):=(List.mergeSort_perm a _).trans (h.trans (List.mergeSort_perm b _).symm);exact p.eq_of_pairwise (by intro x y _ _ h1 h2;simp at h1 h2;omega) s1 s2
def wO {β:Type}(_:Nat)(_:List (Int×β)):Option Unit:=some ()
theorem FA {N:Nat}{a0:List (Int×Bool)}{r:Unit}(_:wO N a0=some r):Okc Ua 104 [.map (some M1)] [] (fun u post=> ∃a1,u=.func (.func 149) #[] #[.pointer (some ⟨a1,0,none⟩)]/\post=[ab a1 145 [.map (some M1)]]):=fun Z w hw=>by
 have h:=callsIn_wide.1 (AnyZI.keys_in Tryz.keysA Fence.wide 5 trivial rfl (some M1) w);refine h.mono ?_;rintro e w' ⟨rfl,rfl⟩;refine ⟨_,_,J,?_,w.heap.size,J,J⟩
 exact SepL.new hw (Agr.of_ext ((Ext.refl w).alloc _)) fun _ S _=>⟨(· =w.heap.size),fun q hq=>by subst hq;simp,rfl,Blk.new w _ _⟩
def qn (_:Nat)(kv:List (Int×Bool)):Option TO:=be ((∀k∈kv.map Prod.fst,in64 k)/\(kv.map Prod.fst).Nodup/\bJ kv.length) (some (fG kv))
theorem AJ {N:Nat}{a0:List (Int×Bool)}{r:List Int}(h:qn N a0=some r){B1 M2:Nat}:Okc Ua 103 [.func (.func 149) #[] #[.pointer (some ⟨B1,0,none⟩)]] [ar B1 145 [.map (some M2)],dk bj bH M2 a0] (fun u post=> ∃A0 n0 c0,u=U A0 n0 c0/\post=[eK (dg .i64) 3 (U A0 n0 c0) r]):=fun Z w hw=>by
 obtain ⟨⟨hk,hd,hn⟩,h⟩:=ah h;obtain rfl:=bS h;obtain ⟨T,S,hs1,hbox⟩:=SepL.get hw (i:=0) (c:=ar B1 145 [.map (some M2)]) rfl;obtain ⟨T2,S2,hs2,hmp⟩:=SepL.get hw (i:=1) (c:=dk bj bH M2 a0) rfl;obtain ⟨D,hown,hperm,hsize⟩:=HH hmp hk hd hn;have hcell:w.cell? ⟨B1,0,none⟩=some (.map (some M2)):=(RBlk.cells hbox 0).trans rfl
 have hseq:SeqGives Fence.wide 2 Ua 149 #[.pointer (some ⟨B1,0,none⟩)] encZ (fun ss=>ss.Perm (intKeys D)) (Maps.size D) w:=
  AnyZI.keys_gives (ρ:=Tryz.keysA_ren) {Tryz.keysA with} Fence.wide _ trivial rfl V B1 M2 _ D w (RBlk.lt hbox) hcell hown
 have cS:=AnyZI.sorted_in Tryz.sortedA Fence.wide 5 trivial trivial trivial trivial rfl V (Hi _) (enters_of Tryz.func148 I rfl) 149 #[.pointer (some ⟨B1,0,none⟩)] trivial (enters_of Tryz.func149 I rfl) _ _ (by rw [hsize];unfold maxLen;omega) (by rw [hsize];omega) _ hseq;refine (callsIn_wide.1 cS).mono ?_;rintro e w' ⟨v,ss,rfl,hS,hrow,hnil,hb⟩;have hkeys:ss.mergeSort (fun x y=>decide (x<=y))=fG a0:=JH (hS.trans hperm);rw [hkeys] at hrow
 have hlen:ss.length=(fG a0).length:=by rw [<-hkeys,List.length_mergeSort]
 rw [hlen] at hrow
 have hsh: ∃A c,v=.slice A (fG a0).length c:=by
  rcases hrow.2 with ⟨rfl,h0⟩|⟨g,cap,cur,rfl, -⟩
  ·exact ⟨none,0,by rw [h0]⟩
  exact ⟨_,cap,J⟩
 obtain ⟨A,c,rfl⟩:=hsh;refine ⟨_,_,J,?_,A,_,c,J,J⟩;have hz:SepL Z w:=SepL.dropL (A:=[ar B1 145 [.map (some M2)],dk bj bH M2 a0]) hw
 refine SepL.new hz (Agr.of_ext hb) fun _ S _=>⟨fun q=>(Value.slice A (fG a0).length c).ownBlock=some q,fun q hq=>World.ownsRow.lt hrow q hq,(fG a0).map (fun x=> [.int .i64 x]),?_,.inl ⟨?_,fun _ h=>h⟩⟩
 ·induction fG a0 with
  |nil=>exact .nil
  |cons x l ih=>exact .cons rfl ih
 have e:((fG a0).map (fun x=> [Value.int .i64 x])).flatten=(fG a0).map encZ:=by
  induction fG a0 with
  |nil=>rfl
  |cons x l ih=>simp only [List.map_cons,List.flatten_cons,ih];rfl
 rw [e];refine .of ⟨hrow.1,?_⟩;rcases hrow.2 with h1|⟨g,cap,cur,e1,hg,r⟩
 ·exact .inl h1
 exact .inr ⟨g,cap,cur,e1,Nat.zero_le _,r⟩
end
section
variable {A0:Option Addr} {M1:Nat}
open Go.RowKit
def Jc (k:IntKind)(a b:Int):Int:=k.wrap (BitVec.ofInt k.bits a&&&BitVec.ofInt k.bits b).toNat
def Rj (k:IntKind)(a b:Int):Int:=k.wrap (BitVec.ofInt k.bits a|||BitVec.ofInt k.bits b).toNat
def QE (k:IntKind)(a b:Int):Int:=k.wrap (BitVec.ofInt k.bits a ^^^ BitVec.ofInt k.bits b).toNat
def Pu (k:IntKind)(a b:Int):Int:=k.wrap (BitVec.ofInt k.bits a&&& ~~~BitVec.ofInt k.bits b).toNat
section
variable {P:Program} {s:bG} {d:Option Nat} {ty:TypeId} {pos:String} {af:Array Edge} {gd:Option (Nat×Bool)}
theorem H4 {t u:TypeId}{x y:Operand}{k:IntKind}{a b:Int}{C:World->Prop}(hx:bC s x=some (.int k a))(hy:bC s y=some (.int k b)):Ev P s C ⟨d,.binOp .and t x y u,ty,pos,af,gd⟩ (.int k (Jc k a b)):=fP hx hy fun w=>by cases k<;>rfl
end
theorem Ic (s:ByteArray):(s==s)=true:=by
 obtain ⟨d⟩:=s;show (d==d)=true;simp
def Kb (b:ByteArray)(i:Int):Option Int:=if 0<=i then b[i.toNat]?.map fun x=>(x.toNat:Int) else none
section
variable {P:Program} {s:bG} {L:List Chunk} {d:Option Nat} {ty:TypeId} {pos:String} {af:Array Edge} {gd:Option (Nat×Bool)}
theorem xK {C:World->Prop}{t:TypeId}{x y:Operand}{k:IntKind}{b:ByteArray}{i r:Int}(hx:bC s x=some (.string b))(hy:bC s y=some (.int k i))(ht:P.underlying t=some .string)(h:Kb b i=some r):Ev P s C ⟨d,.index t x y,ty,pos,af,gd⟩ (.int .u8 r):=fun ρ hρ w _=>by
 unfold Kb at h;split at h
 ·rename_i h0
  cases hb:b[i.toNat]? with
  |none=>rw [hb] at h;cases h
  |some z=>
   rw [hb] at h;cases h;unfold execOp;simp only [hρ x _ hx,hρ y _ hy,Instr.index,asIntOf,Sem.run_bind,Sem.run_pure,run_underlying ht,Result.andThen_ok,if_pos h0,hb]
 cases h
end
end
section
variable {A0:Option Addr} {M1:Nat}
open Go.RowKit
def R6 {α:Type}(R:Rep α)(e:TypeId)(v:Value)(xs:List α):Chunk where
 ok T S w:= ∃(A:Option Addr) (n c:Nat) (pre:List α),(eK R e (.slice A n c) (pre++xs)).ok T S w/\0<xs.length/\v=.slice (vd A c pre.length R.sz) xs.length (c - pre.length)
 loc:=fun h ⟨A,n,c,pre,h1,h2⟩=>⟨A,n,c,pre,(eK R e _ _).loc h h1,h2⟩
 mono:=fun h ⟨A,n,c,pre,h1,h2⟩=>⟨A,n,c,pre,(eK R e _ _).mono h h1,h2⟩
 ro:=false
 dup:=fun h=>Bool.noConfusion h
section
variable {P:Program} {s:bG} {L:List Chunk} {d:Option Nat} {ty:TypeId} {pos:String} {af:Array Edge} {gd:Option (Nat×Bool)}
end
end
section
variable {A0:Option Addr} {M1:Nat}
open Go.RowKit
section
variable {P:Program} {s:bG} {L:List Chunk} {d:Option Nat} {ty:TypeId} {pos:String} {af:Array Edge} {gd:Option (Nat×Bool)}
theorem xL {C:World->Prop}{t u:TypeId}{x y:Operand}{a b:ByteArray}(hx:bC s x=some (.string a))(hy:bC s y=some (.string b))(h:a.size+b.size<=9223372036854775807):Ev P s C ⟨d,.binOp .add t x y u,ty,pos,af,gd⟩ (.string (a++b)):=
 fP hx hy fun w=>by
  rw [Sem.run_bind];show (Op.stringOp .add a b).run P w=_;unfold Op.stringOp
  have hm: ¬(((a.size+b.size:Nat):Int)>IntKind.i64.max):=by
   have:IntKind.i64.max=9223372036854775807:=by decide
   omega
  simp only [if_neg hm];rfl
theorem LU {C:World->Prop}{t e n:Nat}{x y:Operand}{b:Nat}{i:Int}(hx:bC s x=some (.pointer (some ⟨b,0,none⟩)))(hy:bC s y=some (.int .i64 i))(ht:P.underlying t=some (.array n e))(hs:lJ P e 1=true)(h0:0<=i)(h1:i<(n:Int)):Ev P s C ⟨d,.indexAddr t x y,ty,pos,af,gd⟩ (.pointer (some ⟨b,i.toNat,none⟩)):=fun ρ hρ w _=>by
 unfold execOp;simp only [hρ x _ hx,hρ y _ hy,Sem.run_bind];unfold Instr.indexAt;simp only [asIntOf,Instr.sureAddr,Sem.run_bind,Sem.run_pure,run_underlying ht,Result.andThen_ok,if_pos (And.intro h0 h1),kg hs w];simp only [nL,Nat.mul_one,Nat.zero_add]
theorem IB {α:Type}{t bt:TypeId}{x:Operand}{b k:Nat}(f:α->Value)(xs:List α){a:α}(i:Nat)(hi:L[i]? =some (ab b bt (xs.map f)))(hx:bC s x=some (.pointer (some ⟨b,k,none⟩)))(hu:fK P t=true)(ha:xs[k]? =some a):Rd P s L ⟨d,.load t x,ty,pos,af,gd⟩ (f a):=fun Z w hw=>by
 obtain ⟨T,S, -,h⟩:=hw.get (bB hi);exact uq hx hu (Dw (p:=fun w=>w.cell? ⟨b,k,none⟩=some (f a)) ((h.cells k).trans (by simp [ha])))
end
theorem Gt {P:Program}{s:bG}{L:List Chunk}{d:Option Nat}{ty:TypeId}{pos:String}{af:Array Edge}{gd:Option (Nat×Bool)}{f:FuncId}{x:Operand}{xs:List Operand}{ats:Array TypeId}{vs us:List Value}{bs:Array Value}{pre rest:List Chunk}{R:Value->List Chunk->Prop}(hc:Okc P f us pre R)(hf:iP P f)(hx:bC s x=some (.func (.func f) bs #[]))(hv:Eb s xs=some vs)(hu:bs.toList++vs=us)(hL:Cv L (pre++rest)):OpX P s L ⟨d,.call ⟨.value x,xs.toArray,ats⟩,ty,pos,af,gd⟩ fun u L'=> ∃post,R u post/\L'=post++rest:=fun ρ hρ Z w hw=>by
 subst hu;refine .inr (.inr (.inl ⟨f,(bs.toList++vs).toArray,by simpa using t7 hf (lU hρ hv) (hρ _ _ hx),?_⟩))
 have h1:Sp (rest++Z) pre w:=by have:=hL Z w hw;unfold Sp at*;simpa only [TS] using this
 refine (hc _ w h1).mono ?_;rintro e w' ⟨v,post,rfl,h2,h3⟩;exact ⟨v,post++rest,J,by unfold Sp at*;simpa only [TS] using h2,post,h3,rfl⟩
end
section
variable {A0:Option Addr} {M1:Nat}
open Go.RowKit
section
variable {P:Program} {s:bG} {L:List Chunk} {d:Option Nat} {ty:TypeId} {pos:String} {af:Array Edge} {gd:Option (Nat×Bool)}
def Rx (P:Program)(e:TypeId):Bool:=match P.info? e with
 |some i=>match i.zero with
  |some z=>z.cells.all (·.oneCell')
  |none=>false
 |none=>false
end
section
variable {X:Cx} {ops:Array Oper} {K:K3} {s:bG} {L:List Chunk} {l:List Oper}
end
section
variable {X:Cx} {ops:Array Oper} {K:K3} {M:List Chunk} {s:bG} {L:List Chunk} {fuel:Nat} {listed:Array Bool}
end
end
section
variable {A0:Option Addr} {M1:Nat}
open Go.RowKit
section
variable {X:Cx} {K:K3} {s:bG} {L:List Chunk}
theorem gH {ρ:Type}{c:Operand}{x y:Code}{b:Bool}{u v:Option ρ}{r:Option ρ}(hc:bC s c=some (.bool b))(h:(bif b then u else v)=r)(ht:u=r->Wq X x K s L)(hf:v=r->Wq X y K s L):Wq X (.cond c x y) K s L:=MJ hc (fun g=>ht (aE g h)) fun g=>hf (aF g h)
variable {ops:Array Oper} {rest:List Oper} {d:Nat} {op:Op} {ty:TypeId} {pos:String} {af:Array Edge} {gd:Option (Nat×Bool)}
theorem gV {v:Value}{C Z:List Chunk}(h:OpX X.P s L ⟨some d,op,ty,pos,af,gd⟩ fun u L'=> ∃post,(u=v/\post=C)/\L'=post++Z)(k:bT X ops rest K ((d,v)::s) (C++Z))(hn:ij ⟨some d,op,ty,pos,af,gd⟩=true:=by rfl)(hg:bn ops s ⟨some d,op,ty,pos,af,gd⟩=some true:=by rfl)(hd:Nat.ble (d+1) X.n=true:=by rfl):bT X ops (⟨some d,op,ty,pos,af,gd⟩::rest) K s L:=gD h (by rintro _ _ ⟨_,⟨rfl,rfl⟩,rfl⟩;exact k) hn hg hd
theorem gU {v:Value}{C Z:List Chunk}(h:OpX X.P s L ⟨some d,op,ty,pos,af,gd⟩ fun u L'=> ∃post,(u=v/\post=C)/\L'=post++Z)(hg:bn ops s ⟨some d,op,ty,pos,af,gd⟩=some true)(k:bT X ops rest K ((d,v)::s) (C++Z))(hn:ij ⟨some d,op,ty,pos,af,gd⟩=true:=by rfl)(hd:Nat.ble (d+1) X.n=true:=by rfl):bT X ops (⟨some d,op,ty,pos,af,gd⟩::rest) K s L:=gD h (by rintro _ _ ⟨_,⟨rfl,rfl⟩,rfl⟩;exact k) hn hg hd
theorem gW {Z:List Chunk}(h:OpX X.P s L ⟨none,op,ty,pos,af,gd⟩ fun _ L'=>L'=Z)(k:bT X ops rest K s Z)(hn:ij ⟨none,op,ty,pos,af,gd⟩=true:=by rfl)(hg:bn ops s ⟨none,op,ty,pos,af,gd⟩=some true:=by rfl):bT X ops (⟨none,op,ty,pos,af,gd⟩::rest) K s L:=gO h (by rintro _ _ rfl;exact k) hn hg
theorem gB {F:Nat->Value}{G:Nat->List Chunk}(h:OpX X.P s L ⟨some d,op,ty,pos,af,gd⟩ fun u L'=> ∃b,u=F b/\L'=G b)(k: ∀b,bT X ops rest K ((d,F b)::s) (G b))(hn:ij ⟨some d,op,ty,pos,af,gd⟩=true:=by rfl)(hg:bn ops s ⟨some d,op,ty,pos,af,gd⟩=some true:=by rfl)(hd:Nat.ble (d+1) X.n=true:=by rfl):bT X ops (⟨some d,op,ty,pos,af,gd⟩::rest) K s L:=gD h (by rintro _ _ ⟨b,rfl,rfl⟩;exact k b) hn hg hd
end
end
end Go.Proofs.YtjmonlcchlkdhaaGreat