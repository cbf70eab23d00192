/- Merged texts: part 2. No conditions of their own. -/
import Derived.Test.YtjmonlcchlkdhaaGreatG1
import Derived.SizedLaws
import Derived.OpenShut
import Derived.Lib.AppendZeros
import Derived.LoopNIn
import Derived.KernelRfl
import Derived.Shelf.Small.Wraps
import Derived.Shelf.Sort.Plain
import Derived.Shelf.Slices.Turned
import Derived.Shelf.Slices.In.SortNone
import Derived.Test.YtjmonlcchlkdhaaGreatProg
import Derived.Lib.OwnBridge
import Derived.Shelf.SlIterI.Nil
import Derived.Shelf.SortM.Plain
import Derived.Shelf.SortM.SortNone
import Derived.Shelf.SlGeneric
import Derived.Ground.GgzProg
import Derived.Ground.SlgmProg
namespace Go.Proofs.YtjmonlcchlkdhaaGreat
section
noncomputable abbrev RY:=Tryz.prog
theorem hP:type_of% Tryz.underlying3:=Tryz.underlying3
variable {A0:Option Addr} {M1:Nat}
open Go.RowKit Go.ChangeShapes Go.WideShapes Go.Deep
def Rdr {α:Type}(P:Program)(t:TypeId)(R:Rep α)(wf:α->Prop):Prop:= ∀{H:Type} {enc:TypeId×Value->H} {w:World} {base:Nat} {spare:Nat->Bool} {held:Bool} {n:Nat} {cs:List Value} {y:DataW H×List MemPlace},DataW.trod enc P w base spare held n t cs=some y-> ∃a,R.rel (fun q=>q<w.heap.size) w cs a/\wf a
theorem yu {a:Int}(h:(Lit.int .i64 a).wf=true):in64 a:=by
 have e1:IntKind.i64.min= -9223372036854775808:=rfl;have e2:IntKind.i64.max=9223372036854775807:=rfl;unfold Lit.wf at h;simp only [e1,e2,R3,decide_eq_true_eq] at h;exact h
theorem AK {P:Program}{t:TypeId}(ht:P.underlying t=some (.int .i64)):Rdr P t (eT .i64) in64:=fun h=>by
 obtain ⟨a,r,hw⟩:=DataW.trod_int ht h;exact ⟨a,r,by first|exact yu hw|exact yu hw.1|exact yu hw.2⟩
theorem wR {α:Type}{R:Rep α}{S:Nat->Prop}{w:World}{b o:Nat}: ∀(k:Nat) (vss:List (List Value)) (xs:List α),All2 (R.rel S w) vss xs->(∀(i:Nat) (vs:List Value),vss[i]? =some vs->CellsAt w b (o+(k+i)*R.sz) vs)->CellsAt w b (o+k*R.sz) vss.flatten
 |_,_,_,.nil,_=>fun j u hj=>by simp at hj
 | k,_,_,.cons (a:=a) (l:=l) h1 h2,hc=>fun j u hj=>by
  rw [List.flatten_cons] at hj;by_cases hlt:j<a.length
  ·rw [List.getElem?_append_left hlt] at hj;have:=hc 0 a rfl j u hj;simpa using this
  rw [List.getElem?_append_right V] at hj;have h3:=wR (k+1) _ _ h2 (fun i vs hi=>by have:=hc (i+1) vs (by simpa using hi);rwa [show k+1+i=k+(i+1) by omega]);have h4:=h3 _ _ hj;rw [R.len h1] at h4 hlt;rw [show o+k*R.sz+j=o+(k+1)*R.sz+(j - R.sz) by rw [Nat.add_mul];omega];exact h4
theorem zN {α:Type}{R:List Value->α->Prop}: ∀{n:Nat} (f:_root_.Fin n->List Value) (g:_root_.Fin n->α),(∀i,R (f i) (g i))->All2 R (List.ofFn f) (List.ofFn g)
 |0,_,_,_=>by simp;exact .nil
 |n+1,f,g,h=>by rw [List.ofFn_succ,List.ofFn_succ];exact .cons (h 0) (zN _ _ fun i=>h i.succ)
theorem Gd {w:World}{L:List Chunk}{c:Chunk}(h: ∃T,SepT (L++ [CS w]) T (fun q=>q<w.heap.size) w)(hc:c.ok (fun _=>False) (fun q=>q<w.heap.size) w): ∃T,SepT ((c::L)++ [CS w]) T (fun q=>q<w.heap.size) w:=by
 obtain ⟨T,h⟩:=h;obtain ⟨T',h'⟩:=SepL.facts [c] h (hJ hc ay);exact ⟨T',h'⟩
theorem HU (w:World): ∃T,SepT ([]++ [CS w]) T (fun q=>q<w.heap.size) w:=⟨fun _ _=>False,fun {i c} hi=>by
 cases i with
 |zero=>simp only [R4,List.getElem?_cons_zero,Option.some.injEq] at hi;subst hi;exact ⟨Ext.refl w,fun _ h=>h⟩
 |succ i=>simp at hi,fun _ h=>h.elim,fun h=>h.elim,fun h=>h.elim,fun h=>h⟩
theorem EJ {P:Program}{f:FuncId}{args:List Value}{L:List Chunk}{w:World}(h:Okc P f args L fun u post=>u=.bool true/\post=[])(hs: ∃T,SepT (L++ [CS w]) T (fun q=>q<w.heap.size) w):Calls P f args.toArray w fun e w'=>e=.returned (.bool true)/\Ext w w':=by
 obtain ⟨T,hT⟩:=hs;refine (h [CS w] w ⟨T,_,hT⟩).mono ?_;rintro e w' ⟨u,post,rfl,h2,rfl,rfl⟩;obtain ⟨T2,S2,h3, -⟩:=SepL.get h2 (i:=0) (c:=CS w) rfl;exact ⟨J,h3⟩
end
section
variable {A0:Option Addr} {M1:Nat}
open Go.RowKit Go.ChangeShapes Go.WideShapes Go.Deep
structure Light {H:Type} (P:Program) (t:TypeId) (d:DataW H):Prop where
 le: ∀n∈d.weights P t,n<=reachBytes
def KM {α:Type}(P:Program)(t:TypeId)(R:Rep α)(wf:α->Prop):Prop:= ∀{H:Type} {enc:TypeId×Value->H} {w:World} {base:Nat} {spare:Nat->Bool} {held:Bool} {n:Nat} {cs:List Value} {y:DataW H×List MemPlace},DataW.trod enc P w base spare held n t cs=some y->Light P t y.1-> ∃a,R.rel (fun q=>q<w.heap.size) w cs a/\wf a
def OK {α:Type}(wf:α->Prop)(xs:List α):Prop:=xs.length<=reachBytes/\ ∀x∈xs,wf x
theorem Rdr.w {α:Type}{P:Program}{t:TypeId}{R:Rep α}{wf:α->Prop}(h:Rdr P t R wf):KM P t R wf:=fun h1 _=>h h1
theorem Jd {P:Program}{t:TypeId}(ht:P.underlying t=some .string):KM P t Bt (fun s=>s.size<=reachBytes):=fun h hw=>by
 obtain ⟨a,r,rfl, -⟩:=DataW.trod_string ht h;refine ⟨a,r,hw.le a.size ?_⟩;show a.size∈DataW.weights P t (.lit (.string a.data.toList));unfold DataW.weights;exact List.mem_singleton.2 J
theorem uA {H:Type}{P:Program}{e:TypeId}: ∀{l:List (DataW H)} {d:DataW H},d∈l-> ∀n∈d.weights P e,n∈DataW.weightsAll P e l
 |d::l,d',h,n,hn=>by
  unfold DataW.weightsAll;rcases List.mem_cons.1 h with rfl|h
  ·exact RQ _ hn
  exact RR _ (uA h n hn)
theorem sH {H:Type}{P:Program}{t:TypeId}{fs:Array Field}(ht:P.underlying t=some (.struct fs)){xs:List (DataW H×List MemPlace)}{pl:List MemPlace}{y0:DataW H×List MemPlace}(hy:y0=(.agg (xs.map (·.1)),pl))(h:Light P t y0.1){i:Nat}{f:Field}(hf:fs[i]? =some f){y:DataW H×List MemPlace}(hx:xs[i]? =some y):Light P f.type y.1:=⟨fun n hn=>by
 subst hy;refine h.le n ?_;show n∈DataW.weights P t (.agg (xs.map (·.1)));unfold DataW.weights;rw [ht]
 exact DataW.weights_mem_each (j:=i) (t:=f.type) (d:=y.1) (by simp [hf]) (by simp [hx]) n hn⟩
theorem Hf {P:Program}{α:Type}{R:Rep α}{wf:α->Prop}{t e:TypeId}(ht:P.underlying t=some (.slice e))(hsz:P.cellsOf e=R.sz)(hpos:0<R.sz)(hb:0<P.bytesOf e)(he:KM P e R wf):KM P t R.sl (OK wf):=fun {H enc w base spare held n cs y} h hw=>by
 rcases open_slice ht h with ⟨rfl, -⟩|⟨a,len,cap,m,n,D,Pl,rfl,a1,hl,hm,hmm,hy,hi⟩
 ·exact ⟨[],⟨_,J,D4 _ _ _⟩,Nat.zero_le _,fun _ h=>by cases h⟩
 have hlm:len<=m:=by rw [hmm];split<;>omega
 rw [hsz] at hi
 have hwt:((List.range len).map D).length*P.bytesOf e<=reachBytes/\ ∀i,i<len->Light P e (D i):=by
  rw [hy] at hw;have hw': ∀n∈DataW.weights P t (.slice ((List.range len).map D) ((List.range (m - len)).map fun j=>D (len+j))),n<=reachBytes:=hw.le;unfold DataW.weights at hw';rw [ht] at hw';simp only at hw';refine ⟨Nat.le_trans (Nat.mul_le_mul_right _ (Nat.le_add_right _ _)) (hw' _ (List.mem_cons_self ..)),fun i hi=>⟨fun n hn=>hw' n (List.mem_cons_of_mem _ (RQ _ (uA (List.mem_map.2 ⟨i,List.mem_range.2 hi,J⟩) n hn)))⟩⟩
 rw [R1,List.length_range] at hwt
 have key: ∀i:_root_.Fin len, ∃q:List Value×α,w.cells? base (a.add (i*R.sz)) R.sz=some q.1/\R.rel (fun q=>q<w.heap.size) w q.1 q.2/\wf q.2:=fun i=>by
  obtain ⟨cs',h1,h2⟩:=hi i V;obtain ⟨a',h3,h4⟩:=he h2 (hwt.2 i i.2);exact ⟨(cs',a'),h1,h3,h4⟩
 let f:_root_.Fin len->List Value×α:=fun i=>Classical.choose (key i)
 have hf: ∀i:_root_.Fin len,w.cells? base (a.add (i*R.sz)) R.sz=some (f i).1/\R.rel (fun q=>q<w.heap.size) w (f i).1 (f i).2/\wf (f i).2:=fun i=>Classical.choose_spec (key i)
 have hlen:(List.ofFn fun i=>(f i).2).length=len:=by simp
 unfold maxLen at hm;refine ⟨List.ofFn fun i=>(f i).2,⟨_,J,some a,cap,by rw [hlen],by rw [hlen];exact hl,hm,fun h0=> ?_⟩,?_,fun x hx=> ?_⟩
 ·rw [hlen] at h0;obtain ⟨-,a2,NB⟩:=World.cells?_some (hf ⟨0,h0⟩).1;have hc0:=NB 0 hpos;have hll:(f ⟨0,h0⟩).1.length=R.sz:=R.len (hf ⟨0,h0⟩).2.1;have hz:(f ⟨0,h0⟩).1[0]? =some ((f ⟨0,h0⟩).1[0]'V):=List.getElem?_eq_getElem V;rw [hz] at hc0
  have ha0:(a.add ((⟨0,h0⟩:_root_.Fin len)*R.sz)).add 0=a:=by simp [Addr.add]
  rw [ha0] at hc0;have ha:=CR hc0;refine ⟨a.block,a.off,List.ofFn fun i=>(f i).1,by rw [<-ha],block_lt_of_cell hc0,block_lt_of_cell hc0,zN _ _ fun i=>(hf i).2.1,?_⟩
  have hall:=zN (R:=R.rel (fun q=>q<w.heap.size) w) (fun i=>(f i).1) (fun i=>(f i).2) fun i=>(hf i).2.1
  have:=wR (b:=a.block) (o:=a.off) 0 _ _ hall (fun i vs hi=>by
   have hil:i<len:=by have:=(List.getElem?_eq_some_iff.1 hi).1;simpa using this
   have hvs:vs=(f ⟨i,hil⟩).1:=by
    rw [List.getElem?_ofFn] at hi;simp [hil] at hi;exact hi.symm
   subst hvs;obtain ⟨-,a6,hat1⟩:=World.cells?_some (hf ⟨i,hil⟩).1;intro j u hu
   have hj:j<R.sz:=by rw [<-R.len (hf ⟨i,hil⟩).2.1];exact (List.getElem?_eq_some_iff.1 hu).1
   have h3:=hat1 j hj;rw [hu,ha,DR,DR] at h3;rw [Nat.zero_add]
   exact h3)
  simpa using this
 ·rw [hlen];exact Nat.le_trans (Nat.le_mul_of_pos_right _ hb) hwt.1
 obtain ⟨i,rfl⟩:=List.mem_ofFn.1 hx;exact (hf i).2.2
end
section
variable {A0:Option Addr} {M1:Nat}
open Go.RowKit
def qc {ρ:Type}(e:Option Exit)(n r:Option ρ)(x:Nat->Option ρ):Option ρ:=match e with
 |none=>n
 |some .ret=>r
 |some (.exit i)=>x i
 |some _=>none
theorem pc {K:K3}{e:Exit}{s:bC}{L':List Chunk}(L:List Chunk)(h:L'=L)(k:K e s L):K e s L':=h▸k
theorem HO {X:Cx}{K K':K3}{s:bC}{L:List Chunk}{c:Code}(h:Wq X c K' s L)(hk: ∀e s L,K' e s L-> ∃(ι:Type) (Q:ι->List Chunk),L=[jd Q]/\ ∀x,K e s (Q x)):Wq X c K s L:=fun H Ds a w ha hd hw=>wpIn_mono (h H Ds a w ha hd hw) fun e a' w' ⟨s',L',Ds',h1,h2,h3,h4⟩=>by
 obtain ⟨ι,Q,rfl,h5⟩:=hk _ _ _ h4;obtain ⟨x,hx⟩:=lm h3;exact ⟨s',Q x,Ds',h1,h2,by simpa using hx,h5 x⟩
theorem th {α σ ι ρ:Type}{X:Cx}{K:K3}{s:bC}{g:Operand}{ps:List Nat}{assign body:Code}{gf:FuncId}{caps:Array Value}{en:α->List Value}(φ:α->σ->Option (Option Exit×σ))(Q:σ->ι->List Chunk)(pre:List Chunk)(σ₀:σ)(x₀:ι){je:Option Exit}{σr:σ}{L:List Chunk}{id:Nat}{vn vr:Option ρ}{vx:Nat->Option ρ}{v:ρ}
  (hr:X.r=none) (hg:bx s g=some (.func (.func gf) #[] caps)) (hf:ie X.P gf) (hps:ps.all (fun p=>Nat.ble (p+1) X.n)=true) (hen: ∀x,(en x).length=ps.length)
  (hit: ∀l (G:(Option Exit×σ)->List Chunk),sj X.P l G en (cQ φ)->Okc X.P gf (.func (.yield l) #[] #[]::caps.toList) (pre++G (none,σ₀)) fun _ post=>post=G (je,σr))
  (hL:Cv L (pre++Q σ₀ x₀)) (h:qc je vn vr vx=some v)
  (hbody: ∀l x σ₁ je' σ₂ z,φ x σ₁=some (je',σ₂)->Wq ⟨X.P,X.n,some l⟩ assign (nx (fun s1 L1=>Wq ⟨X.P,X.n,some l⟩ body (RK je' [jd (Q σ₂)]) s1 L1) fun _ _ _=>False) (yJ ps (en x) s) (Q σ₁ z))
  (hn: ∀z,vn=some v->bk id K .normal s (Q σr z)) (hret: ∀z,vr=some v->bk id K .ret s (Q σr z)) (hx: ∀i z,vx i=some v->bk id K (.exit i) s (Q σr z)):
  Wq X (.block id (.rangeFunc g ps.toArray assign body)) K s L:=by
 refine uc (HO (K':=fun e s' L'=>s'=s/\L'=[jd (Q σr)]/\ ∀z,bk id K e s (Q σr z)) ?_ ?_)
 ·refine MA φ (fun q=> [jd (Q q)]) pre σ₀ hr hg hf hps hen hit ?_ ?_ ?_ ?_
  ·exact hL.trans (ru pre (fQ x₀ J))
  ·intro l x σ₁ je' σ₂ hφ
   exact KP fun z=>hbody l x σ₁ je' σ₂ z hφ
  ·intro hj;rw [hj] at h;exact ⟨J,J,fun z=>hn z h⟩
  intro e he;rw [he] at h
  cases e with
  |ret=>exact ⟨rfl,rfl,rfl,fun z=>hret z h⟩
  |exit i=>exact ⟨rfl,rfl,rfl,fun z=>hx i z h⟩
  |_=>cases h
 rintro e s' L' ⟨rfl,rfl,h3⟩;exact ⟨ι,Q σr,J,h3⟩
theorem G2 {L L':List Chunk}{s:bC}(h:Cv L L'):RK (some .ret) L' .ret s L:=⟨.inr ⟨rfl,rfl⟩,h⟩
theorem AG {L L':List Chunk}{s:bC}(h:Cv L L'):RK none L' .normal s L:=⟨.inl ⟨rfl,rfl⟩,h⟩
def sN (P:Program)(L:List Chunk)(s:bC)(r:ResultVar)(v:Value):Prop:=match r with
 | .tmp t=>jf s t=some v
 | .cell t ty=> ∃b,jf s t=some (.pointer (some ⟨b,0,none⟩))/\ ∀Z w,Sp Z L w->(loadVar ty ⟨b,0,none⟩).run P w=.ok v w
def O5:List Value->Value
 | [v]=>v
 |vs=> .tuple vs.toArray
def Bk (tm:Array Value)(r:ResultVar):Sem Value:=match r with
 | .tmp t=>pure (tm.getD t undef)
 | .cell a t=>do loadVar t (<-asAddr (tm.getD a undef))
theorem Gl (fn:Func)(tm:Array Value):results fn tm=(do let vs<-fn.results.mapM (Bk tm);pure (if h:vs.size=1 then vs[0] else .tuple vs)):=rfl
theorem zZ {X:Cx}{s:bC}{a:Act}(ha:Fx X s a){L Z:List Chunk}{w:World}(hw:Sp Z L w): ∀{rs:List ResultVar} {vs:List Value},All2 (sN X.P L s) rs vs->(rs.mapM (Bk a.tmps)).run X.P w=.ok vs w
 |_,_,.nil=>by simp
 | r::rs,_,.cons (b:=vr) h1 h2=>by
  have ih:=zZ ha hw h2
  have h3:(Bk a.tmps r).run X.P w=.ok vr w:=by
   cases r with
   |tmp t=>
    have e:=ha.at_ t _ h1;unfold Bk;simp only [Sem.run_pure,e]
   |cell t ty=>
    obtain ⟨b,e1,e2⟩:=h1;have e:=ha.at_ t _ e1;unfold Bk;simp only [e,asAddr,Sem.run_bind,Sem.run_pure,Result.andThen_ok,e2 _ _ hw]
  rw [List.mapM_cons,Sem.run_bind,h3,Result.andThen_ok,Sem.run_bind,ih,Result.andThen_ok,Sem.run_pure]
theorem ox {X:Cx}{fn:Func}{R:Value->List Chunk->Prop}{s:bC}{L L2:List Chunk}{rs:List ResultVar}{vs:List Value}{v:Value}(hr:fn.results=rs.toArray)(h:All2 (sN X.P L s) rs vs)(hv:O5 vs=v)(hc:Cv L L2)(hR:R v L2):IX X fn R .ret s L:=fun a ha=>⟨v,L2,fun Z w hw=>by
 have h1:=zZ ha hw h;rw [Gl,hr,Sem.run_bind];simp only [List.mapM_toArray]
 have h2:(List.toArray<$>rs.mapM (Bk a.tmps)).run X.P w=.ok vs.toArray w:=by
  show ((rs.mapM (Bk a.tmps))>>=fun l=>pure l.toArray).run X.P w=_;rw [Sem.run_bind,h1,Result.andThen_ok,Sem.run_pure]
 rw [h2,Result.andThen_ok,Sem.run_pure];subst hv
 match vs with
 | []=>rfl
 | [v]=>rfl
 |_::_::_=>simp [O5],hc,hR⟩
theorem oB {P:Program}{L:List Chunk}{s:bC}{t:Nat}{v:Value}(h:jf s t=some v):sN P L s (.tmp t) v:=h
theorem ij {P:Program}{L:List Chunk}{s:bC}{t ty bt b:Nat}{cs:List Value}(i:Nat)(hi:L[i]? =some (ac b bt cs))(hl:jf s t=some (.pointer (some ⟨b,0,none⟩)))(hu:CZ P ty cs.length=true):sN P L s (.cell t ty) (.agg cs.toArray):=⟨b,hl,fun Z w hw=>by
 obtain ⟨T,S, -,h⟩:=hw.get (bw hi)
 exact C6 hu h.all⟩
theorem H1 {P:Program}{t:TypeId}{a:Addr}{v:Value}{w:World}(hu:fU P t=true)(hc:w.cell? a=some v):(loadVar t a).run P w=.ok v w:=by
 have h1:(isAgg t).run P w=.ok false w:=by
  unfold fU at hu;unfold isAgg
  cases hq:P.underlying t with
  |none=>rw [hq] at hu;cases hu
  |some u=>rw [hq] at hu;rw [Sem.run_bind,run_underlying hq];cases u<;>first|rfl|(cases hu)
 simp only [loadVar,Sem.run_bind,Sem.run_pure,Result.andThen_ok,h1,Bool.false_eq_true,if_false,run_load,hc]
theorem D9 {P:Program}{L:List Chunk}{s:bC}{t ty bt b:Nat}{v:Value}(i:Nat)(hi:L[i]? =some (ac b bt [v]))(hl:jf s t=some (.pointer (some ⟨b,0,none⟩)))(hu:fU P ty=true):sN P L s (.cell t ty) v:=⟨b,hl,fun Z w hw=>by
 obtain ⟨T,S, -,h⟩:=hw.get (bw hi)
 exact H1 hu (h.at (by simp))⟩
section
variable {P:Program} {s:bC} {L:List Chunk} {d:Option Nat} {ty:TypeId} {pos:String} {af:Array Edge} {gd:Option (Nat×Bool)}
theorem xe {sz:Nat}: ∀{vss:List (List Value)},(∀r∈vss,r.length=sz)-> ∀{k:Nat} {r:List Value},vss[k]? =some r-> ∀r':List Value,vss.flatten=vss.flatten.take (k*sz)++r++vss.flatten.drop (k*sz+sz)/\(vss.set k r').flatten=vss.flatten.take (k*sz)++r'++vss.flatten.drop (k*sz+sz)
 | [],_,k,r,h,_=>by simp at h
 |a::l,hl,0,r,h,r'=>by
  simp only [List.getElem?_cons_zero,Option.some.injEq] at h;subst h;have e:=hl a (by simp);simp [<-e]
 |a::l,hl,k+1,r,h,r'=>by
  simp only [List.getElem?_cons_succ] at h;obtain ⟨h1,h2⟩:=xe (fun x hx=>hl x (by simp [hx])) h r';have e:=hl a (by simp)
  have e1:(k+1)*sz=a.length+k*sz:=by rw [e,Nat.add_mul];omega
  have e2: ∀m:Nat,(a++l.flatten).take (a.length+m)=a++l.flatten.take m:=fun m=>by rw [List.take_append,List.take_of_length_le V,Nat.add_sub_cancel_left]
  have e3: ∀m:Nat,(a++l.flatten).drop (a.length+m)=l.flatten.drop m:=fun m=>by rw [List.drop_append,List.drop_eq_nil_of_le V,Nat.add_sub_cancel_left,R4]
  rw [List.set_cons_succ,List.flatten_cons,List.flatten_cons,e1,h2,Nat.add_assoc,e2,e3];refine ⟨?_,by simp only [RP]⟩
  conv=>lhs;rw [h1]
  simp only [RP]
theorem Jb {α:Type}{R:Rep α}{S:Nat->Prop}{w:World}{vss:List (List Value)}{xs:List α}(h:All2 (R.rel S w) vss xs): ∀r∈vss,r.length=R.sz:=by
 induction h with
 |nil=>intro r hr;cases hr
 |cons h1 _ ih=>
  intro r hr;rcases List.mem_cons.1 hr with rfl|hr
  ·exact R.len h1
  exact ih r hr
theorem Ni (cs us:List Value)(o:Nat)(h:o+us.length<=cs.length):(ow cs.toArray o us).toList=cs.take o++us++cs.drop (o+us.length):=Hj cs us o h
theorem qt {α:Type}{R:Rep α}{e:TypeId}{t:TypeId}{x y:Operand}{v u:Value}{us:List Value}{xs:List α}{k off:Nat}{z:α}(i:Nat)(hi:L[i]? =some (eu R e v xs))(hx:bx s x=some (d5 v k R.sz off))(hy:bx s y=some u)(hv:u.cells.toList=us)(hs:kX P t us.length=true)(h1:us.all (·.oneCell')=true)(hk:k<xs.length)(hle:Nat.ble (off+us.length) R.sz=true)
  (hrel: ∀S w vs xk,xs[k]? =some xk->R.rel S w vs xk->Ro L S w->R.rel S w (vs.take off++us++vs.drop (off+us.length)) z):OpX P s L ⟨d,.store t x y,ty,pos,af,gd⟩ fun _ L'=>L'=L.set i (eu R e v (xs.set k z)):=fun ρ hρ Z w hw=>by
 obtain ⟨T,S,hT⟩:=hw;obtain ⟨vss,g1,g2⟩:=hT.ok (bw hi);have hle:=Nat.le_of_ble_eq_true hle;rcases g2 with ⟨g2,g3⟩|⟨h0, -⟩
 rotate_left
 ·omega
 rcases g2.2 with ⟨rfl,h0⟩|⟨g,cap,cur,rfl,q1,q2,q3,q4,q5,q6⟩
 ·omega
 obtain ⟨xk,hxk⟩: ∃xk,xs[k]? =some xk:=⟨_,List.getElem?_eq_getElem hk⟩;obtain ⟨vs,hvs,hr⟩:=g1.get hxk;have hl:=R.len hr
 have hlen:k*R.sz+R.sz<=xs.length*R.sz:=by rw [<-Nat.succ_mul];exact Nat.mul_le_mul_right _ hk
 have hcap0:cap*R.sz<=cur.size:=by
  obtain ⟨c0,h1, -,h3⟩:=q5;rw [h3];exact Nat.mul_le_mul_right _ h1
 have hcap:xs.length*R.sz<=cap*R.sz:=Nat.mul_le_mul_right _ q3
 have hx':bx s x=some (.pointer (some ⟨g,k*R.sz+off,none⟩)):=by rw [hx];simp [d5]
 obtain ⟨w',e1,e2,e3⟩:=jX (P:=P) (t:=e) us w g (k*R.sz+off) 0 cur q2 V h1;have hz:=hrel S w vs xk hxk hr hT.ros.app;have hfl:=xe (Jb g1) hvs (vs.take off++us++vs.drop (off+us.length));refine .inr (.inl ⟨w',L.set i (eu R e (.slice (some ⟨g,0,none⟩) xs.length cap) (xs.set k z)),?_,?_,J⟩)
 ·unfold execOp
  have hcs:u.cells=us.toArray:=by rw [<-hv]
  simp only [hρ x _ hx',hρ y _ hy,Instr.storeAt,Instr.sureAddr,storeVar,Sem.run_bind,Sem.run_pure,Result.andThen_ok,jx hs w,hcs,List.size_toArray,ne_eq,not_true,if_false,e1]
 have hfin:SepL ((L++Z).set i (eu R e (.slice (some ⟨g,0,none⟩) xs.length cap) (xs.set k z))) w':=by
  refine hT.upd (bw hi) (T':=T i) (Agr.of_fr e2 fun q hq e=>hq (e▸g3 g J)) (fun _=> .inl) (fun q hq=>Nat.lt_of_lt_of_le (hT.lt hq) e2.size) ?_
  have hS:Agr S w w':=Agr.of_fr e2 fun q hq e=>hT.ro (g3 g rfl) (e▸hq)
  refine ⟨vss.set k (vs.take off++us++vs.drop (off+us.length)),(g1.imp fun _ _=>R.loc hS).set (R.loc hS hz) k,.inl ⟨?_,g3⟩⟩;rw [List.length_set]
  have hnew:((vss.set k (vs.take off++us++vs.drop (off+us.length))).flatten).length=xs.length*R.sz:=by
   have:=qJ (R:=R) (S:=S) (w:=w) (g1.set hz k);rw [this,List.length_set]
  refine ⟨hnew,.inr ⟨g,cap,_,J,Nat.zero_le _,e3,q3,q4,by rw [Eb];exact q5,?_⟩⟩
  have hcur:cur=cur.toList.toArray:=by simp
  have hsz:k*R.sz+off+us.length<=cur.toList.length:=by simp;omega
  rw [Nat.add_zero,hcur,Ni _ _ _ hsz,hfl.2];have hF:vss.flatten=cur.toList.take (xs.length*R.sz):=q6.symm;have hFl:vss.flatten.length=xs.length*R.sz:=g2.1;apply List.ext_getElem?;intro j;have hvl:vs.length=R.sz:=hl
  have key: ∀j',j'<R.sz->vs[j']? =vss.flatten[k*R.sz+j']? :=fun j' hj'=>by
   have h5:vs[j']? =some (vs[j']'V):=List.getElem?_eq_getElem V;rw [h5];exact (sQ g1 hvs h5).symm
  by_cases hj:j<xs.length*R.sz
  ·rw [List.getElem?_take,if_pos hj];by_cases c1:j<k*R.sz
   ·rw [RP,List.getElem?_append_left (by rw [R0];simp;omega),List.getElem?_take,if_pos V,RP,List.getElem?_append_left (by rw [R0];omega),List.getElem?_take,if_pos c1,hF,List.getElem?_take,if_pos hj]
   by_cases c2:j<k*R.sz+off
   ·rw [RP,List.getElem?_append_left (by rw [R0];simp;omega),List.getElem?_take,if_pos c2];rw [RP,List.getElem?_append_right (by rw [R0];omega),R0,show min (k*R.sz) vss.flatten.length=k*R.sz by omega];rw [RP,RP,List.getElem?_append_left (by rw [R0];omega),List.getElem?_take,if_pos V,key _ V,show k*R.sz+(j - k*R.sz)=j by omega,hF,List.getElem?_take,if_pos hj]
   by_cases c3:j<k*R.sz+off+us.length
   ·rw [RP,List.getElem?_append_right (by rw [R0];simp;omega),R0,show min (k*R.sz+off) cur.toList.length=k*R.sz+off by omega,List.getElem?_append_left V];rw [RP,List.getElem?_append_right (by rw [R0];omega),R0,show min (k*R.sz) vss.flatten.length=k*R.sz by omega];rw [RP,RP,List.getElem?_append_right (by rw [R0];omega),R0,show min off vs.length=off by omega,List.getElem?_append_left V]
    congr 1;omega
   rw [RP,List.getElem?_append_right (by rw [R0];simp;omega),R0,show min (k*R.sz+off) cur.toList.length=k*R.sz+off by omega,List.getElem?_append_right V,List.getElem?_drop];rw [RP,List.getElem?_append_right (by rw [R0];omega),R0,show min (k*R.sz) vss.flatten.length=k*R.sz by omega];rw [RP,RP,List.getElem?_append_right (by rw [R0];omega),R0,show min off vs.length=off by omega,List.getElem?_append_right V];by_cases c4:j<k*R.sz+R.sz
   ·rw [List.getElem?_append_left (by rw [List.length_drop];omega),List.getElem?_drop,key _ V,hF,List.getElem?_take,if_pos V]
    congr 1;omega
   rw [List.getElem?_append_right (by rw [List.length_drop];omega),List.length_drop,List.getElem?_drop,hF,List.getElem?_take,if_pos V]
   congr 1;omega
  rw [List.getElem?_take,if_neg hj];refine (List.getElem?_eq_none ?_).symm;rw [<-hfl.2,hnew];omega
 rw [oN Z hi] at hfin;exact hfin
theorem z8 {α β:Type}{ek:α->Value}{ev:β->Value}{t kt et:TypeId}{x:Operand}{n:Int}(hx:bx s x=some (.int .i64 n))(ht:P.underlying t=some (.map kt et)):OpX P s L ⟨d,.makeMap t (some x),ty,pos,af,gd⟩ fun u L'=> ∃m,u=.map (some m)/\L'=aj ek ev m ([]:List (α×β))::L:=fun ρ hρ Z w hw=>by
 refine .inl ⟨.map (some w.heap.size),w.alloc (.map #[] 0),aj ek ev w.heap.size []::L,?_,SepL.new hw (Agr.of_ext ((Ext.refl w).alloc _)) fun _ S _=>⟨(· =w.heap.size),fun q hq=>by subst hq;simp,rfl, #[],0,heap_alloc_new w _,by simp,by simp,by simp⟩,_,J,J⟩;unfold execOp;simp only [Option.map_some,hρ x _ hx,Instr.makeMap,Sem.run_bind,run_underlying ht,Result.andThen_ok,asInt];rfl
theorem sP {P:Program}{w:World}{m c:Nat}{code:BoundsCode}(h:m<=c):(Instr.sliceBound (.int .i64 (m:Int)) c code).run P w=.ok m w:=by
 unfold Instr.sliceBound;simp only [asIntOf,Sem.run_bind,Sem.run_pure,Result.andThen_ok];rw [if_pos ⟨by omega,by omega⟩];simp
theorem Dz {C:World->Prop}{t e sz:Nat}{x y z:Operand}{A:Option Addr}{n c:Nat}{h m:Nat}(hx:bx s x=some (.slice A n c))(hu:P.underlying t=some (.slice e))(hs:kX P e sz=true)(hh:bx s y=some (.int .i64 (h:Int)))(hm:bx s z=some (.int .i64 (m:Int)))(h1:h<=m)(h2:m<=c):Ev P s C ⟨d,.slice t x none (some y) (some z),ty,pos,af,gd⟩ (.slice (if m=0 then A else A.map (·.add 0)) h m):=fun ρ hρ w _=>by
 unfold execOp;simp only [Option.map_some,Option.map_none,hρ x _ hx,hρ y _ hh,hρ z _ hm,Instr.sliceAt,Instr.slice,Instr.sliceBounds,Sem.run_bind,run_underlying hu,Result.andThen_ok,sP h2,sP h1,jx hs w,Sem.run_pure,Nat.zero_mul];rfl
end
def lD {α:Type}(R:Rep α)(e:TypeId)(v:Value)(xs:List α)(vw:Value)(k:Nat):Chunk where
 ok T S w:= ∃vss,All2 (R.rel S w) vss xs/\((ownsX w e R.sz v xs.length vss.flatten/\ ∀q,v.ownBlock=some q->T q)\/(xs.length=0/\ ∃A,v=.slice A 0 0))/\k<=xs.length/\ ∃A cv,vw=.slice A k cv/\k<=cv/\cv<=9223372036854775807/\(0<k-> ∃b,A=some ⟨b,0,none⟩/\T b/\b<w.heap.size/\CellsAt w b 0 (vss.take k).flatten)
 loc:=fun h ⟨vss,h1,h2,h3,A,cv,h4,h7,h5,h6⟩=>⟨vss,h1.imp fun _ _=>R.loc (h.mono fun _=> .inr),h2.imp (fun ⟨h2,h3⟩=>⟨Dh h2 h fun q hq=> .inl (h3 q hq),h3⟩) id,h3,A,cv,h4,h7,h5,fun h0=>by
  obtain ⟨b,g1,g2,g3,g4⟩:=h6 h0
  exact ⟨b,g1,g2,Nat.lt_of_lt_of_le g3 h.size,g4.agr h (.inl g2) g3⟩⟩
 mono:=fun h ⟨vss,h1,h2,h3⟩=>⟨vss,h1.imp fun _ _=>R.mono h,h2,h3⟩
 ro:=false
 dup:=fun h=>Bool.noConfusion h
theorem Ce {α:Type}{R:Rep α}{e:TypeId}{v:Value}{xs:List α}{vw:Value}{k:Nat}{T S:Nat->Prop}{w:World}(h:(lD R e v xs vw k).ok T S w):(eu R e v xs).ok T S w:=by
 obtain ⟨vss,h1,h2, -⟩:=h;exact ⟨vss,h1,h2⟩
theorem FP {α:Type}{R:Rep α}{e:TypeId}{v:Value}{xs:List α}{vw:Value}{k:Nat}:DW R v xs (lD R e v xs vw k):=fun T S w h=>aI T S w (Ce h)
theorem Cp {α:Type}{R:Rep α}{e:TypeId}{v:Value}{xs:List α}{vw:Value}{k:Nat}:DW R vw (xs.take k) (lD R e v xs vw k):=fun T S w ⟨vss,h1,_,h3,A,cv,h4,h7,h5,h6⟩=>by
 have hl:(xs.take k).length=k:=by rw [R0];omega
 refine ⟨A,cv,by rw [hl];exact h4,by omega,h5,fun h0=> ?_⟩;rw [hl] at h0;obtain ⟨b,g1,g2,g3,g4⟩:=h6 h0;exact ⟨b,0,vss.take k,g1,h1.take k,g4⟩
theorem Ku {α:Type}{R:Rep α}{e:TypeId}{v:Value}{xs:List α}{L:List Chunk}(i:Nat)(hi:L[i]? =some (eu R e v xs)):Cv L (L.set i (lD R e v xs (U none 0 0) 0)):=fun Z w h=>by
 have h1:=h.weak (bw hi) (d:=lD R e v xs (U none 0 0) 0) fun T S ⟨vss,h1,h2⟩=>⟨vss,h1,h2,Nat.zero_le _,none,0,rfl,Nat.le_refl _,by omega,fun h=>absurd h V⟩
 rw [oN Z hi] at h1;exact h1
theorem IP {α:Type}{R:Rep α}{e:TypeId}{v:Value}{xs:List α}{vw:Value}{k:Nat}{L:List Chunk}(i:Nat)(hi:L[i]? =some (lD R e v xs vw k)):Cv L (L.set i (eu R e v xs)):=fun Z w h=>by
 have h1:=h.weak (bw hi) (d:=eu R e v xs) fun T S h=>Ce h
 rw [oN Z hi] at h1;exact h1
section
variable {P:Program} {s:bC} {L:List Chunk} {d:Option Nat} {ty:TypeId} {pos:String} {af:Array Edge} {gd:Option (Nat×Bool)}
theorem La {α:Type}{R:Rep α}{t e sz:Nat}{x y z:Operand}{v vw:Value}{xs:List α}{k n:Nat}(i:Nat)(hi:L[i]? =some (lD R e v xs vw k))(hx:bx s x=some v)(hu:P.underlying t=some (.slice e))(hs:kX P e sz=true)(hsz:R.sz=sz)(hh:bx s y=some (.int .i64 (n:Int)))(hm:bx s z=some (.int .i64 (n:Int)))(h1:n<=xs.length):OpX P s L ⟨d,.slice t x none (some y) (some z),ty,pos,af,gd⟩ fun u L'=> ∃A,u=.slice A n n/\L'=L.set i (lD R e v xs (.slice A n n) n):=fun ρ hρ Z w hw=>by
 have hw0:=hw;obtain ⟨T,S,hT⟩:=hw;obtain ⟨vss,g1,g2,g3⟩:=hT.ok (bw hi);obtain ⟨A,c,rfl,q1,q2, -⟩:=FP _ _ _ (hT.ok (bw hi));have hrun:=Dz (C:=fun _=>True) (d:=d) (ty:=ty) (pos:=pos) (af:=af) (gd:=gd) hx hu hs hh hm (Nat.le_refl _) V ρ hρ w trivial;refine .inl ⟨_,w,L.set i (lD R e (.slice A xs.length c) xs (.slice (if n=0 then A else A.map (·.add 0)) n n) n),hrun,?_,_,J,J⟩
 have hfin:SepL ((L++Z).set i (lD R e (.slice A xs.length c) xs (.slice (if n=0 then A else A.map (·.add 0)) n n) n)) w:=by
  refine hw0.weak (bw hi) fun T S ⟨vss,g1,g2,g3⟩=>⟨vss,g1,g2,h1,_,_,J,Nat.le_refl _,by omega,fun h0=> ?_⟩
  rw [if_neg V];rcases g2 with ⟨g2,g4⟩|⟨h9, -⟩
  ·rcases g2.2 with ⟨e1,h9⟩|⟨g,cap,cur,e1,p1,p2,p3,p4,p5,p6⟩
   ·omega
   injection e1 with e1 e2 e3
   subst e1;refine ⟨g,by simp [mT],g4 g rfl,Blk.lt (t:=e) (cs:=cur) p2,?_⟩;have h5:=lO (cap:=cap) p2 p6;rw [<-List.take_append_drop n vss,List.flatten_append] at h5;exact h5.left
  omega
 rw [oN Z hi] at hfin;exact hfin
theorem Gv {α:Type}{R:Rep α}{x y:Operand}{t e:TypeId}{v v2 vw:Value}{k:Nat}{xs ys:List α}{c2:Chunk}{sz by_:Nat}(i j:Nat)(hi:L[i]? =some (lD R e v xs vw k))(hj:L[j]? =some c2)(he:DW R v2 ys c2)(hx:bx s x=some v)(hy:bx s y=some v2)(ht:P.underlying t=some (.slice e))(hz:sG P e sz by_=true)(hsz:R.sz=sz)(hby:Nat.ble by_ 127=true)(hb:xs.length+ys.length<=1099511627776):OpX P s L ⟨d,.call ⟨.builtin .append, #[x,y], #[t,t]⟩,ty,pos,af,gd⟩ fun u L'=> ∃A n c,u=.slice A n c/\L'=L.set i (lD R e (.slice A n c) (xs++ys) vw k):=fun ρ hρ Z w hw=>by
 have hbuilt:=gv (P:=P) (ρ:=ρ) (d:=d) (ty:=ty) (pos:=pos) (af:=af) (gd:=gd) (b:=.append) (xs:=[x,y]) (ats:= #[t,t]) (vs:=[v,v2]) (by simp [hρ x _ hx,hρ y _ hy]) w
 have hby':=Nat.le_of_ble_eq_true hby
 unfold sG at hz
 cases hinfo:P.info? e with
 |none=>rw [hinfo] at hz;cases hz
 | some inf=>
  rw [hinfo] at hz;simp only [R3] at hz;obtain ⟨⟨⟨q2,q3⟩,q4⟩,q5⟩:=hz
  cases hzz:inf.zero with
  |none=>rw [hzz] at q4;cases q4
  | some z=>
   rw [hzz] at q4;have e2:=Nat.eq_of_beq_eq_true q2;have e3:=Nat.eq_of_beq_eq_true q3;have e4:=Nat.eq_of_beq_eq_true q4
   have e5:0<sz:=by have h6:1<=sz:=(by simpa [Nat.blt] using q5);omega
   have hsB:kX P e sz=true:=by unfold kX;rw [hinfo];exact q2
   subst hsz;have hw0:=hw;obtain ⟨T,S,hT⟩:=hw;have hc2:=hT.ok (bw hj);obtain ⟨vss1,g1,g2,g3,Aw,cw,rfl,g7,g5,g6⟩:=hT.ok (bw hi);obtain ⟨A1,cap1,rfl,p1,p2,p3⟩:=FP _ _ _ (hT.ok (bw hi));obtain ⟨A2,cap2,rfl,k2,k3,k4⟩:=he _ _ _ hc2
   have hown0:xs.length=0\/ ∃g cur,A1=some ⟨g,0,none⟩/\w.heap[g]? =some (.cells cur e (0,0))/\(∃c0,cap1<=c0/\c0<=maxLen/\cur.size=c0*R.sz)/\cur.toList.take (xs.length*R.sz)=vss1.flatten/\T i g/\cap1<=maxLen:=by
    rcases g2 with ⟨g2,g4⟩|⟨h9, -⟩
    ·rcases g2.2 with ⟨-,h9⟩|⟨g,cap,cur,e1,r1,r2,r3,r4,r5,r6⟩
     ·exact .inl h9
     injection e1 with e1 e2 e3
     subst e1 e3;exact .inr ⟨g,cur,J,r2,r5,r6,g4 g J,r4⟩
    exact .inl h9
   have hlen1:=qJ g1;rcases Nat.eq_zero_or_pos ys.length with h0|h0
   ·-- nothing is appended
    have hys:ys=[]:=List.eq_nil_of_length_eq_zero h0;subst hys;refine .inl ⟨.slice A1 xs.length cap1,w,L,?_,hw0,A1,_,cap1,J,?_⟩
    ·rw [hbuilt];simp only [builtin,Sem.run_bind]
     have r1':(Builtin.append_ #[t,t] ty [Value.slice A1 xs.length cap1,.slice A2 ([]:List α).length cap2].toArray).run P w=.ok (.slice A1 xs.length cap1) w:=by
      unfold Builtin.append_;simp only [List.getElem?_toArray,List.getElem?_cons_zero,List.getElem?_cons_succ];rw [Sem.run_bind,run_underlying ht,Result.andThen_ok]
      dsimp only
      rw [Sem.run_bind,jx hsB,Result.andThen_ok];rw [Sem.run_bind,run_underlying ht,Result.andThen_ok]
      dsimp only
      rw [Sem.run_bind,Sem.run_pure,Result.andThen_ok];simp only [Bool.false_eq_true,if_false,Bool.not_false,if_true];have h1:(Builtin.lenOf (.slice A2 ([]:List α).length cap2)).run P w=.ok 0 w:=rfl;rw [Sem.run_bind,h1,Result.andThen_ok];rw [if_pos V];rw [Sem.run_bind,List.length_nil,rj _ w A2 cap2,Result.andThen_ok]
      cases A1 with
      |none=>rfl
      |some a=>simp [storeCells]
     rw [r1'];rfl
    apply List.ext_getElem?;intro q;by_cases e:i=q
    ·subst e;rw [List.getElem?_set_self (List.getElem?_eq_some_iff.1 hi).1,hi,List.append_nil]
    rw [List.getElem?_set_ne e]
   obtain ⟨b,o,vss2,rfl,k5,k6⟩:=k4 h0;have hm:(xs.length+ys.length)*by_<=140737488355328:=Nat.le_trans (Nat.mul_le_mul hb hby') (by decide);have a2:=qJ k5
   have hn2: ∀j u,vss2.flatten[j]? =some u->w.cell? ((⟨b,o,none⟩:Addr).add j)=some u:=fun j u hj=>by rw [mT];exact k6 j u hj
   have hlen:(vss1.flatten++vss2.flatten).length=(xs.length+ys.length)*R.sz:=by rw [RZ,hlen1,a2,Nat.add_mul]
   have hfl:vss1.flatten++vss2.flatten=(vss1++vss2).flatten:=by rw [List.flatten_append]
   -- the new row in new memory
   have fin: ∀(v':Value) (w':World),(Builtin.append_ #[t,t] ty #[.slice A1 xs.length cap1,.slice (some ⟨b,o,none⟩) ys.length cap2]).run P w=.ok v' w'->(∃A c,v'=.slice A (xs.length+ys.length) c)->ownsX w' e R.sz v' (xs.length+ys.length) (vss1.flatten++vss2.flatten)->Agr (fun q=> ¬T i q) w w'->(∀q,v'.ownBlock=some q->T i q\/w.heap.size<=q)->(0<k-> ∀b',Aw=some ⟨b',0,none⟩->CellsAt w b' 0 (vss1.take k).flatten->CellsAt w' b' 0 (vss1.take k).flatten)->
     ∃v w' L',(execOp ρ ⟨d,.call ⟨.builtin .append, #[x,y], #[t,t]⟩,ty,pos,af,gd⟩).run P w=.ok (.value v) w'/\Sp Z L' w'/\ ∃A n c,v=.slice A n c/\L'=L.set i (lD R e (.slice A n c) (xs++ys) (.slice Aw k cw) k):=by
    rintro v' w' r1 ⟨A',c',rfl⟩ r2 r3 hnew hvw;refine ⟨_,w',L.set i (lD R e (.slice A' (xs.length+ys.length) c') (xs++ys) (.slice Aw k cw) k),?_,?_,A',_,c',J,J⟩
    ·rw [hbuilt];simp only [builtin,Sem.run_bind];have r1':(Builtin.append_ #[t,t] ty [Value.slice A1 xs.length cap1,.slice (some ⟨b,o,none⟩) ys.length cap2].toArray).run P w=.ok (.slice A' (xs.length+ys.length) c') w':=r1;rw [r1'];rfl
    have hfin:SepL ((L++Z).set i (lD R e (.slice A' (xs.length+ys.length) c') (xs++ys) (.slice Aw k cw) k)) w':=by
     refine hT.upd (bw hi) (T':=fun q=>T i q\/(Value.slice A' (xs.length+ys.length) c').ownBlock=some q) r3 (fun q hq=>hq.elim .inl (hnew q)) (fun q hq=>hq.elim (fun hq=>Nat.lt_of_lt_of_le (hT.lt hq) r3.size) fun hq=>ownsX.lt r2 q hq) ?_
     have hS:Agr S w w':=r3.mono fun q hq hn=>hT.ro hn hq
     refine ⟨vss1++vss2,(g1.imp fun _ _=>R.loc hS).append (k5.imp fun _ _=>R.loc hS),.inl ⟨by rw [List.flatten_append,RZ];exact r2,fun _ h=> .inr h⟩,by rw [RZ];omega,Aw,cw,rfl,g7,g5,fun a6=> ?_⟩;obtain ⟨b',t1,t2,t3,t4⟩:=g6 a6;refine ⟨b',t1,.inl t2,Nat.lt_of_lt_of_le t3 r3.size,?_⟩;rw [List.take_append_of_le_length (by rw [g1.length];exact g3)];exact hvw a6 b' t1 t4
    rw [oN Z hi] at hfin;exact hfin
   have grown: ∀(old:Nat),let w':=w.drew.alloc (.cells (vss1.flatten.toArray++vss2.flatten.toArray++Builtin.zeroCells z.cells (grownCap w (xs.length+ys.length) old e - (xs.length+ys.length))) e)
     w'.ownsRow 0 e R.sz (.slice (some ⟨w.heap.size,0,none⟩) (xs.length+ys.length) (grownCap w (xs.length+ys.length) old e)) (xs.length+ys.length) (vss1.flatten++vss2.flatten)/\Agr (fun _=>True) w w':=by
    intro old;have hge:=grownCap_ge w (xs.length+ys.length) old e;have hcm:grownCap w (xs.length+ys.length) old e<=maxLen:=grownCap_le_maxLen w _ old e (by unfold maxLen;omega);refine ⟨⟨hlen,.inr ⟨w.heap.size,_,_,J,Nat.zero_le _,heap_alloc_new w.drew _,hge,hcm,?_,?_⟩⟩,⟨J,J,J,by simp,fun q hq _=>heap_alloc_old w.drew _ hq⟩⟩
    ·simp only [Array.size_append,List.size_toArray,size_zeroCells,e4,hlen1,a2, <-Nat.add_mul]
     congr 1
     omega
    simp only [Array.toList_append,RP];rw [<-RP, <-hlen];exact List.take_left
   by_cases a7:xs.length=0
   ·-- the old slice has no elements
    have hv0:vss1.flatten=[]:=List.eq_nil_of_length_eq_zero (by rw [hlen1,a7];simp)
    have a6:k=0:=by omega
    by_cases hroom:xs.length+ys.length<=cap1
    ·rcases g2 with ⟨g2,g4⟩|⟨-,A9,h9⟩
     ·rcases g2.2 with ⟨e1, -⟩|⟨g,cap,cur,e1,r1,r2,r3,r4,r5,r6⟩
      ·injection e1 with _ _ e1;omega
      injection e1 with e1 _ e3'
      subst e1 e3';obtain ⟨v',w',r1,r2,r3, -⟩:=KI w inf z R.sz by_ (ty:=ty) ht hinfo hzz e2 e3 e4 e5 g2 ⟨b,o,none⟩ ys.length cap2 vss2.flatten a2 hn2 (List.all_eq_true.1 (uI k5)) h0 (by unfold maxLen;omega) hm
      have hsh: ∃A c,v'=.slice A (xs.length+ys.length) c:=by
       rcases r2.2 with ⟨rfl,h9⟩|⟨g,cap,cur,rfl, -⟩
       ·omega
       exact ⟨_,_,J⟩
      exact .inl (fin v' w' r1 hsh r2 ⟨r3.os,r3.tape,r3.output,r3.size,fun q hq hn=>r3.block q hq fun e=>hn (g4 q e.symm)⟩ (fun q hq=>by
       rcases DP ht r1 with h|⟨q',h,h'⟩
       ·rw [h] at hq;cases hq;exact .inl (g4 _ J)
       ·rw [h] at hq;cases hq;exact .inr h') fun h=>absurd h V)
     injection h9 with _ _ h9;omega
    -- new memory
    cases A1 with
    | none=>
     have hr:=run_append_nil (P:=P) w t ty e inf z ht hinfo hzz ⟨b,o,none⟩ ys.length cap2 vss2.flatten (by rw [e2];exact a2) hn2 h0 V (by rw [e3];have hm':ys.length*by_<=140737488355328:=Nat.le_trans (Nat.mul_le_mul_right _ V) hm;omega);have hgr:=grown 0
     have hcap0:cap1=0:=by
      rcases g2 with ⟨g2, -⟩|⟨-,A9,h9⟩
      ·rcases g2.2 with ⟨e1, -⟩|⟨g,cap,cur,e1, -⟩
       ·injection e1
       injection e1 with e1;cases e1
      injection h9
     simp only [a7,hcap0,hv0,Nat.zero_add,R4,Array.empty_append] at hgr fin⊢;exact .inl (fin _ _ hr ⟨_,_,J⟩ (.of hgr.1) (hgr.2.mono fun _ _=>trivial) (fun q hq=>by cases hq;exact .inr (Nat.le_refl _)) fun h=>absurd h V)
    |some a1=>
     have hr:=run_append_grow (P:=P) w t ty e inf z ht hinfo hzz a1 xs.length cap1 [] (by rw [a7];simp) (fun j u hj=>by simp at hj) ⟨b,o,none⟩ ys.length cap2 vss2.flatten (by rw [e2];exact a2) hn2 V V (by rw [e3];exact growslice_fits V hm);have hgr:=grown cap1;rw [hv0] at hgr fin;exact .inl (fin _ _ hr ⟨_,_,J⟩ (.of hgr.1) (hgr.2.mono fun _ _=>trivial) (fun q hq=>by cases hq;exact .inr (Nat.le_refl _)) fun h=>absurd h V)
   obtain ⟨g,cur,rfl,c1,c3,c4,c5,c6⟩:=hown0.resolve_left a7;have holds:CellsAt w g 0 vss1.flatten:=lO (cap:=cap1) c1 c4;by_cases hroom:xs.length+ys.length<=cap1
   ·have hg2:ownsX w e R.sz (.slice (some ⟨g,0,none⟩) xs.length cap1) xs.length vss1.flatten:=⟨hlen1,.inr ⟨g,cap1,cur,rfl,Nat.zero_le _,c1,p1,c6,c3,c4⟩⟩;obtain ⟨c0,c7,c8,c9⟩:=c3
    have hfit:xs.length*inf.size+vss2.flatten.length<=cur.size:=by rw [a2,e2,c9, <-Nat.add_mul];exact Nat.mul_le_mul_right _ V
    have hr:=run_append_room (P:=P) w t ty e inf ht hinfo g xs.length cap1 cur c1 ⟨b,o,none⟩ ys.length cap2 vss2.flatten (by rw [e2];exact a2) hn2 (List.all_eq_true.1 (uI k5)) hroom hfit;obtain ⟨v',w',r1,r2,r3, -⟩:=KI w inf z R.sz by_ (ty:=ty) ht hinfo hzz e2 e3 e4 e5 hg2 ⟨b,o,none⟩ ys.length cap2 vss2.flatten a2 hn2 (List.all_eq_true.1 (uI k5)) h0 (by unfold maxLen;omega) hm;have heq:=r1.symm.trans hr;simp only [Result.ok.injEq] at heq;obtain ⟨hv', -⟩:=heq;subst hv';refine .inl (fin _ w' r1 ⟨_,_,J⟩ r2 ⟨r3.os,r3.tape,r3.output,r3.size,fun q hq hn=>r3.block q hq fun e=>hn (by cases e;exact c5)⟩ (fun q hq=>by cases hq;exact .inl c5) fun a6 b' hb' hc=> ?_);by_cases hbg:b'=g
    ·subst hbg;rcases r2.2 with ⟨e9, -⟩|⟨g',cap',cur',e9, -,d2, -, -, -,d6⟩
     ·cases e9
     injection e9 with e9
     injection e9 with e9
     injection e9 with e9
     subst e9;have h5:CellsAt w' b' 0 (vss1.flatten++vss2.flatten):=lO (cap:=cap') d2 d6;have h6:=h5.left;rw [<-List.take_append_drop k vss1,List.flatten_append] at h6;exact h6.left
    intro j u hj;have:=hc j u hj
    have hlt:b'<w.heap.size:=by
     rcases Nat.lt_or_ge b' w.heap.size with h|h
     ·exact h
     exfalso;rw [World.cell?,Array.getElem?_eq_none (by exact h)] at this;cases this
    rw [<-this];exact World.cell?_of_block (r3.block b' hlt fun e=>hbg (by cases e;rfl))
   have hr:=run_append_grow (P:=P) w t ty e inf z ht hinfo hzz ⟨g,0,none⟩ xs.length cap1 vss1.flatten (by rw [e2];exact hlen1) (fun j u hj=>by rw [mT];exact holds j u hj) ⟨b,o,none⟩ ys.length cap2 vss2.flatten (by rw [e2];exact a2) hn2 V V (by rw [e3];exact growslice_fits V hm);have hgr:=grown cap1;refine .inl (fin _ _ hr ⟨_,_,J⟩ (.of hgr.1) (hgr.2.mono fun _ _=>trivial) (fun q hq=>by cases hq;exact .inr (Nat.le_refl _)) fun a6 b' hb' hc=> ?_);obtain ⟨b'',t1,t2,t3,t4⟩:=g6 a6
   have hbb:b''=b':=by rw [t1] at hb';injection hb' with hb';injection hb'
   subst hbb;exact hc.agr hgr.2 trivial t3
end
end
section
variable {A0:Option Addr} {M1:Nat}
open Go.RowKit
def Jj (p:Prop):Chunk where
 ok _ _ _:=p
 loc:=fun _ h=>h
 mono:=fun _ h=>h
 ro:=true
 dup:=fun _ _ _ _ h=>h
theorem K2 {L Z:List Chunk}{w:World}{p:Prop}(h:Sp Z L w)(i:Nat)(hi:L[i]? =some (Jj p)):p:=by
 obtain ⟨T,S,h⟩:=h.get (bw hi);exact h
theorem HF {L:List Chunk}{p:Prop}(hp:p):Cv L (Jj p::L):=fun Z w h=>SepL.fact0 h fun _=>hp
inductive Rch (ops:Array Oper):Nat->Nat->Prop
 |one {j:Nat} {o:Oper} {e:Edge}:ops[j]? =some o->e∈o.after->Region.binds .any e=true->Rch ops j e.on
 |more {j k:Nat} {o:Oper} {e:Edge}:Rch ops j k->ops[k]? =some o->e∈o.after->Region.binds .any e=true->Rch ops j e.on
def AU (ops:Array Oper)(listed:Array Bool):Prop:= ∀k o e,listed.getD k false=true->ops[k]? =some o->e∈o.after->Region.binds .any e=true->listed.getD e.on false=true
theorem xq {ops:Array Oper}{listed:Array Bool}{j i:Nat}(hc:AU ops listed)(hr:j∈Region.ready .any ops listed)(h:Rch ops j i):listed.getD i false=true:=by
 induction h with
 |one ho he hb=>obtain ⟨_,o',ho',hall⟩:=mem_ready.1 hr;rw [ho] at ho';cases ho';exact hall _ he hb
 |more _ ho he hb ih=>exact hc _ _ _ ih ho he hb
theorem ri {listed:Array Bool}{i k:Nat}(h:(listed.setIfInBounds i true).getD k false=true):k=i\/listed.getD k false=true:=by
 by_cases e:i=k
 ·exact .inl e.symm
 rw [getD_set_ne false e] at h;exact .inr h
theorem GS {ops:Array Oper}{listed:Array Bool}{j:Nat}(hc:AU ops listed)(hr:j∈Region.ready .any ops listed):AU ops (listed.setIfInBounds j true):=by
 intro k o e hk ho he hb;rcases ri hk with e1|hk
 ·subst e1;obtain ⟨_,o',ho',hall⟩:=mem_ready.1 hr;rw [ho] at ho';cases ho';exact getD_set_true (hall _ he hb)
 exact getD_set_true (hc _ _ _ hk ho he hb)
def ye (ops:Array Oper)(k:Nat):List Nat:=match ops[k]? with
 |some o=>(o.after.toList.filter (Region.binds .any)).map (·.on)
 |none=> []
def Ja (ops:Array Oper)(R:List Nat)(k:Nat):List Nat:=if R.contains k then ye ops k++R else R
def zj (ops:Array Oper)(t:Nat):List Nat:=(List.range t).reverse.foldl (Ja ops) (ye ops t)
theorem BJ {ops:Array Oper}{k x:Nat}(h:x∈ye ops k): ∃o e,ops[k]? =some o/\e∈o.after/\Region.binds .any e=true/\e.on=x:=by
 unfold ye at h;split at h
 ·rename_i o ho
  obtain ⟨e,he,rfl⟩:=List.mem_map.1 h;obtain ⟨h1,h2⟩:=List.mem_filter.1 he;exact ⟨o,e,ho,by simpa using h1,h2,rfl⟩
 cases h
theorem uV {ops:Array Oper}{t:Nat}: ∀x∈zj ops t,Rch ops t x:=by
 unfold zj
 have key: ∀(l:List Nat) (R:List Nat),(∀x∈R,Rch ops t x)-> ∀x∈l.foldl (Ja ops) R,Rch ops t x:=by
  intro l
  induction l with
  |nil=>intro R h;exact h
  | cons k l ih=>
   intro R h
   refine ih _ fun x hx=> ?_
   unfold Ja at hx;split at hx
   ·rename_i hk
    rcases List.mem_append.1 hx with h1|h1
    ·obtain ⟨o,e,ho,he,hb,rfl⟩:=BJ h1;exact .more (h k (by simpa using hk)) ho he hb
    exact h x h1
   exact h x hx
 refine key _ _ fun x hx=> ?_
 obtain ⟨o,e,ho,he,hb,rfl⟩:=BJ hx;exact .one ho he hb
def OpAt (P:Program)(ρ:Operand->Value)(o:Oper)(R:Value->List Chunk->Prop)(Z:List Chunk)(w:World):Prop:=
  (∃v w' L',(execOp ρ o).run P w=.ok (.value v) w'/\Sp Z L' w'/\R v L')\/
  (∃w' L',(execOp ρ o).run P w=.ok .skip w'/\Sp Z L' w'/\R undef L')\/
  (∃f args,(execOp ρ o).run P w=.ok (.enter f args) w/\Calls P f args w fun e w'=> ∃v L',e=.returned v/\Sp Z L' w'/\R v L')\/
  (∃l f tmps assign body,(execOp ρ o).run P w=.ok (.round l f tmps assign body) w/\RoundIn Fence.wide 0 P l f tmps assign body w fun e w'=> ∃v L',e=.returned v/\Sp Z L' w'/\R v L')
def MS (P:Program)(ops:Array Oper)(s:bC)(L:List Chunk)(o:Oper)(A:Value->List Chunk):Prop:= ∀Z w,Sp Z L w->(be ops s o=some true/\ ∀ρ:Operand->Value,(∀x u,bx s x=some u->ρ x=u)->OpAt P ρ o (fun u L'=>Cv L' (A u++L)) Z w)\/(be ops s o=some false/\Sp Z (A undef++L) w)
section
variable {P:Program} {ops:Array Oper} {s:bC} {L:List Chunk} {o:Oper} {A:Value->List Chunk}
end
def F4 (X:Cx)(ops:Array Oper)(K:K3)(fuel:Nat)(listed:Array Bool)(s:bC)(L:List Chunk):Prop:= ∀(H:List Chunk) (Ds:List Nat) (a:Act) (w:World),Fx X s a->a.defers=Ds.map uq->Sp (Ds.map cm++H) L w->wpAnyIn (AH X.r) 0 X.P .any ops (vO X H (wZ K)) fuel listed a w
section
variable {X:Cx} {ops:Array Oper} {K:K3} {s:bC} {L:List Chunk} {fuel:Nat} {listed:Array Bool} {d:Nat} {op:Op} {ty:TypeId} {pos:String} {af:Array Edge} {gd:Option (Nat×Bool)}
theorem ms (hr:Region.ready .any ops listed=[])(h:K .normal s L):F4 X ops K fuel listed s L:=by
 intro H Ds a w ha hds hw;have hq:vO X H (wZ K) .normal a w:=⟨s,L,Ds,ha,hds,hw,rfl,h⟩
 cases fuel with
 |zero=>exact ⟨hr,hq⟩
 |succ n=>exact ⟨fun _=>hq,by rw [hr];simp⟩
theorem oe {t:bC}{L':List Chunk}(h:F4 X ops K fuel listed t L')(hs:yV s t)(hl:Cv L L'):F4 X ops K fuel listed s L:=fun H Ds a w ha hds hw=>h H Ds a w (ha.sub hs) hds (hl _ _ hw)
theorem OL (i:Nat){o:Oper}{R:Value->List Chunk->Prop}(hi:ops[i]? =some o)(hr:Region.ready .any ops listed=[i])(h:OpX X.P s L o R)(hn:gq o=true)(hg:be ops s o=some true)(hd:DI X.n o.dst=true)(k: ∀v L',R v L'->F4 X ops K fuel (listed.setIfInBounds i true) (putE o.dst v s) L'):F4 X ops K (fuel+1) listed s L:=
 fun H Ds a w ha hds hw=>⟨fun h=>absurd (hr.symm.trans h) (by simp),fun j hj=>by
  rw [hr,List.mem_singleton] at hj;subst hj;unfold wpOpIn;rw [hi];simp only [ew ha hg,if_true]
  exact h.wpIn hn ha hw fun v L' w' h1 h2=>k v L' h1 H Ds _ _ (ha.putE v hd) ((put_defers _ _ _).trans hds) h2⟩
theorem pz (i:Nat){R:Value->List Chunk->Prop}(hi:ops[i]? =some ⟨some d,op,ty,pos,af,gd⟩)(hr:Region.ready .any ops listed=[i])(h:OpX X.P s L ⟨some d,op,ty,pos,af,gd⟩ R)(hn:gq ⟨some d,op,ty,pos,af,gd⟩=true)(hg:be ops s ⟨some d,op,ty,pos,af,gd⟩=some true)(hd:Nat.ble (d+1) X.n=true)(k: ∀v L',R v L'->F4 X ops K fuel (listed.setIfInBounds i true) ((d,v)::s) L'):F4 X ops K (fuel+1) listed s L:=OL i hi hr h hn hg hd k
theorem yT (i:Nat){R:Value->List Chunk->Prop}(hi:ops[i]? =some ⟨none,op,ty,pos,af,gd⟩)(hr:Region.ready .any ops listed=[i])(h:OpX X.P s L ⟨none,op,ty,pos,af,gd⟩ R)(hn:gq ⟨none,op,ty,pos,af,gd⟩=true)(hg:be ops s ⟨none,op,ty,pos,af,gd⟩=some true)(k: ∀v L',R v L'->F4 X ops K fuel (listed.setIfInBounds i true) s L'):F4 X ops K (fuel+1) listed s L:=OL i hi hr h hn hg rfl k
theorem yU (i:Nat){v:Value}(hi:ops[i]? =some ⟨some d,op,ty,pos,af,gd⟩)(hr:Region.ready .any ops listed=[i])(h:Ev X.P s (fun _=>True) ⟨some d,op,ty,pos,af,gd⟩ v)(hn:gq ⟨some d,op,ty,pos,af,gd⟩=true)(hg:be ops s ⟨some d,op,ty,pos,af,gd⟩=some true)(hd:Nat.ble (d+1) X.n=true)(k:F4 X ops K fuel (listed.setIfInBounds i true) ((d,v)::s) L):F4 X ops K (fuel+1) listed s L:=pz i hi hr (Js h) hn hg hd fun _ _ ⟨e1,e2⟩=>by subst e1 e2;exact k
end
def CH (m:Nat)(listed:Array Bool):List Nat:=(List.range m).filter fun i=>listed.getD i false
def Om (ops:Array Oper)(m:Nat)(qs:List Nat)(ds:List Nat)(pr:List (List Nat))(s:bC)(n:Nat):Bool:=
 Region.noSelect ops&&qs.all (fun q=>(match ops[q]? with|some o=>(List.range ops.size).all fun j=>Nat.beq j q||(ye ops j).contains q||(zj ops q).contains j||(match ops[j]? with|some oj=>o.apart ops oj|none=>true)|none=>false))&&JA ops&&decide (m<=ops.size)&&decide (ds.length=m)&&decide ds.Nodup&&ds.all (fun d=>Nat.ble (d+1) n&&s.all fun p=> !Nat.beq p.1 d)
 &&(List.range m).all (fun i=>(match ops[i]? with|some o=>o.dst==ds[i]? |none=>false)&&(pr.getD i []).all (fun k=>(zj ops i).contains k&&Nat.blt k m)&&decide (pr.getD i []).Nodup&&(ye ops i).all fun k=>Nat.blt k i)
 &&(List.range ops.size).all (fun t=>Nat.blt t m||(List.range m).all fun i=>qs.contains i||(zj ops t).contains i)
def CX (ds:List Nat)(val:Nat->Value)(ix:List Nat)(s:bC):bC:=ix.map (fun i=>(ds.getD i 0,val i))++s
def Am (As:List (Value->List Chunk))(val:Nat->Value)(ix:List Nat)(L:List Chunk):List Chunk:=(ix.flatMap fun i=>(As.getD i fun _=> []) (val i))++L
theorem yn: ∀(a b:bC) (k:Nat) (v:Value),jf (a++b) k=some v->jf a k=some v\/(jf b k=some v)
 | [],_,_,_,h=> .inr h
 |(d,u)::a,b,k,v,h=>by
  rw [List.cons_append,jA] at h;rw [jA];split at h
  ·rename_i e;rw [if_pos e];exact .inl h
  rename_i e
  rw [if_neg e];exact yn a b k v h
theorem tb: ∀(a:bC) (k:Nat) (v:Value),jf a k=some v->(k,v)∈a
 | [],_,_,h=>by cases h
 |(d,u)::a,k,v,h=>by
  rw [jA] at h;split at h
  ·rename_i e;cases h;subst e;simp
  simp [tb a k v h]
theorem OpAt.wpIn {X:Cx}{o:Oper}{R:Value->List Chunk->Prop}{Z:List Chunk}{a:Act}{w:World}(h:OpAt X.P a.eval o R Z w)(hn:gq o=true)
  {K:Act->World->Prop} {Q:Exit->Act->World->Prop} (hK: ∀v L' w',R v L'->Sp Z L' w'->K (a.put o.dst v) w'):o.wpIn (AH X.r) 0 X.P a w K Q:=by
 refine ⟨fun _ _=>trivial,?_⟩
 have e:o.semAt (AH X.r).round a.eval=execOp a.eval o:=Oper.semAt_eq _ _ _ fun c hc=>by unfold gq at hn;rw [hc] at hn;cases hn
 rw [e];rcases h with ⟨v,w',L',h1,h2,h3⟩|⟨w',L',h1,h2,h3⟩|⟨f,args,h1,h2⟩|⟨l,f,tmps,assign,body,h1,h2⟩
 ·rw [h1];exact hK _ _ _ h3 h2
 ·rw [h1];exact hK _ _ _ h3 h2
 ·rw [h1];refine ⟨(by intro h;cases h),?_⟩;have h3:CallsIn (AH X.r) (0 - 1) X.P f args w _:=callsIn_wide.2 h2;refine h3.mono ?_;rintro e w' ⟨v,L',rfl,h4,h5⟩;exact hK _ _ _ h5 h4
 rw [h1];refine ⟨(by intro h;cases h),?_⟩;have h3:RoundIn (AH X.r) (0 - 1) X.P l f tmps assign body w _:=h2;refine h3.mono ?_;rintro e w' ⟨v,L',rfl,h4,h5⟩;exact hK _ _ _ h5 h4
theorem lq: ∀(ix:List Nat) (l:Array Bool),(qH l ix).size=l.size
 | [],_=>rfl
 |i::ix,l=>by show (qH (l.setIfInBounds i true) ix).size=_;rw [lq ix];simp
theorem xm: ∀(ix:List Nat) (l:Array Bool) (k:Nat),k<l.size->(qH l ix).getD k false=(l.getD k false||ix.contains k)
 | [],_,_,_=>by simp [qH]
 | i::ix,l,k,hk=>by
  show (qH (l.setIfInBounds i true) ix).getD k false=_;rw [xm ix _ k (by simpa using hk)];by_cases e:i=k
  ·subst e;simp [hk]
  rw [getD_set_ne false e];simp [show¬k=i from fun h=>e h.symm]
theorem nT {m:Nat}{listed:Array Bool}{i:Nat}:i∈CH m listed↔i<m/\listed.getD i false=true:=by unfold CH;simp
theorem lst_nodup {m:Nat}{listed:Array Bool}:(CH m listed).Nodup:=List.nodup_range.filter _
theorem AR {As:List (Value->List Chunk)}{val:Nat->Value}{a b:List Nat}(h:a.Perm b):(a.flatMap fun i=>(As.getD i fun _=> []) (val i)).Perm (b.flatMap fun i=>(As.getD i fun _=> []) (val i)):=h.flatMap_right _
theorem KJ {r:Option Nat}{P:Program}{ops:Array Oper}{Q:Exit->Act->World->Prop}: ∀(fuel:Nat) (listed:Array Bool) (a:Act) (w:World),wpAnyIn (AH r) 0 P .any ops Q fuel listed a w->DX r P ops Q (fun _=>True) fuel listed a w
 |0,_,_,_,h=>h
 |fuel+1,listed,a,w,h=>⟨h.1,fun i hi=>wpOpIn_mono (fun a w hh=> .inl ⟨trivial,KJ fuel _ a w hh⟩) (h.2 i hi)⟩
def QS (P:Program)(ops:Array Oper)(s:bC)(L:List Chunk)(o:Oper)(A:Value->List Chunk):Prop:= ∀Z w,Sp Z L w-> ∃v,be ops s o=some true/\Ev P s (fun _=>True) o v/\Sp Z (A v++L) w
def PE (P:Program)(ops:Array Oper)(s:bC)(L L0:List Chunk)(o:Oper)(A:Value->List Chunk):Prop:= ∀Z w,Sp Z L w-> ∃v,be ops s o=some true/\Ev P s (fun _=>True) o v/\Sp Z (A v++L0) w
theorem DS {P:Program}{ops:Array Oper}{s:bC}{L L0:List Chunk}{o:Oper}{A:Value->List Chunk}{v:Value}(h:Ev P s (fun _=>True) o v)(hg:be ops s o=some true)(k:Cv L (A v++L0)):PE P ops s L L0 o A:=fun _ _ hw=>⟨v,hg,h,k _ _ hw⟩
theorem eJ {p:Nat->Oper->Prop}{ops:Array Oper}: ∀(i:Nat) (o:Oper),i<0->ops[i]? =some o->p i o:=fun i o h=>by omega
theorem ad {p:Nat->Oper->Prop}{ops:Array Oper}{n:Nat}{o':Oper}(ho:ops[n]? =some o')(h2:p n o')(h1: ∀(i:Nat) (o:Oper),i<n->ops[i]? =some o->p i o): ∀(i:Nat) (o:Oper),i<n+1->ops[i]? =some o->p i o:=fun i o hi h=>by
 by_cases e:i=n
 ·subst e;rw [ho] at h;cases h;exact h2
 exact h1 i o V h
theorem me {p:Nat->Oper->Prop}{ops:Array Oper}{m:Nat}: ∀q∈([]:List Nat), ∀(o:Oper),q<m->ops[q]? =some o->p q o:=fun q h=>by cases h
theorem we {p:Nat->Oper->Prop}{ops:Array Oper}{m q':Nat}{qs:List Nat}{o':Oper}(ho:ops[q']? =some o')(h2:p q' o')(h1: ∀q∈qs, ∀(o:Oper),q<m->ops[q]? =some o->p q o): ∀q∈q'::qs, ∀(o:Oper),q<m->ops[q]? =some o->p q o:=fun q hq o hm h=>by
 rcases List.mem_cons.1 hq with e|hq
 ·subst e;rw [ho] at h;cases h;exact h2
 exact h1 q hq o hm h
def NT (P:Program)(ops:Array Oper)(s:bC)(L L0:List Chunk)(o:Oper)(A:Value->List Chunk):Prop:= ∀Z w,Sp Z L w->(be ops s o=some true/\ ∀ρ:Operand->Value,(∀x u,bx s x=some u->ρ x=u)->OpAt P ρ o (fun u L'=>Cv L' (A u++L0)) Z w)\/(be ops s o=some false/\Sp Z (A undef++L0) w)
section
variable {P:Program} {ops:Array Oper} {s:bC} {L L0:List Chunk} {o:Oper} {A:Value->List Chunk}
theorem uz {R:Value->List Chunk->Prop}(h:OpX P s L o R)(hg:be ops s o=some true)(k: ∀u L',R u L'->Cv L' (A u++L0)):NT P ops s L L0 o A:=fun Z w hw=> .inl ⟨hg,fun ρ hρ=>by
 rcases h ρ hρ Z w hw with ⟨v,w',L',h1,h2,h3⟩|⟨w',L',h1,h2,h3⟩|⟨f,args,h1,h2⟩|⟨l,f,t,a,b,h1,h2⟩
 ·exact .inl ⟨v,w',L',h1,h2,k _ _ h3⟩
 ·exact .inr (.inl ⟨w',L',h1,h2,k _ _ h3⟩)
 ·exact .inr (.inr (.inl ⟨f,args,h1,h2.mono fun e w' ⟨v,L',g1,g2,g3⟩=>⟨v,L',g1,g2,k _ _ g3⟩⟩))
 ·exact .inr (.inr (.inr ⟨l,f,t,a,b,h1,h2.mono fun e w' ⟨v,L',g1,g2,g3⟩=>⟨v,L',g1,g2,k _ _ g3⟩⟩))⟩
theorem ci {v:Value}(h:Ev P s (fun _=>True) o v)(hg:be ops s o=some true)(k:Cv L (A v++L0)):NT P ops s L L0 o A:=uz (Js h) hg fun u L' ⟨e1,e2⟩=>by subst e1 e2;exact k
theorem er {v:Value}(h:Rd P s L o v)(hg:be ops s o=some true)(k:Cv L (A v++L0)):NT P ops s L L0 o A:=uz (wY h) hg fun u L' ⟨e1,e2⟩=>by subst e1 e2;exact k
end
def cl (u:Value)(k:Nat):Value:=u.cells.getD k undef
def tl (u:Value)(k:Nat):Value:=match u with| .tuple vs=>vs.getD k undef|_=>undef
def pb (u:Value):Nat:=match u with| .pointer (some a)=>a.block|_=>0
def mb (u:Value):Nat:=match u with| .map (some m)=>m|_=>0
end
section
variable {A0:Option Addr} {M1:Nat}
open Go.RowKit
section
variable {P:Program} {s:bC} {C:World->Prop} {d:Option Nat} {ty:TypeId} {pos:String} {af:Array Edge} {gd:Option (Nat×Bool)}
theorem H0 {t e:TypeId}(ht:P.underlying t=some (.slice e))(A:Option Addr)(n c:Nat)(w:World):(Op.equal t (.slice A n c) (U none 0 0)).run P w=.ok A.isNone w:=by
 show (Op.equalIn (9999+1) t (.slice A n c) (U none 0 0)).run P w=_;unfold Op.equalIn;rw [Sem.run_bind,run_underlying ht,Result.andThen_ok];cases A<;>rfl
theorem FN {t e u:TypeId}{x:Operand}{A:Option Addr}{n c:Nat}(hx:bx s x=some (.slice A n c))(ht:P.underlying t=some (.slice e)):Ev P s C ⟨d,.binOp .eql t x (.const (U none 0 0)) u,ty,pos,af,gd⟩ (.bool A.isNone):=
 gb hx rfl fun w=>by
  rw [Sem.run_bind];show (binOp .eql t (.slice A n c) (U none 0 0)).run P w=_;have h1:(Op.equal t (.slice A n c) (U none 0 0)).run P w=.ok A.isNone w:=H0 ht A n c w;simp only [binOp,Sem.run_bind,h1,Result.andThen_ok];rfl
theorem NF {t u:TypeId}{x y:Operand}{k k2:IntKind}{a b:Int}(hx:bx s x=some (.int k a))(hy:bx s y=some (.int k b))(ht:P.underlying t=some (.int k2))(hu:P.underlying u=some (.int k2)):Ev P s C ⟨d,.call ⟨.builtin .min, #[x,y], #[t,u]⟩,ty,pos,af,gd⟩ (.int k (min a b)):=fun ρ hρ w _=>by
 rw [gv (P:=P) (ρ:=ρ) (xs:=[x,y]) (vs:=[.int k a,.int k b]) (by simp [hρ x _ hx,hρ y _ hy]) w]
 have e:(if b<a then b else a)=min a b:=by rw [Int.min_def];split<;>split<;>omega
 cases k<;>simp [builtin,Builtin.min_,Builtin.min2,e]
theorem Kh {t u:TypeId}{x y:Operand}{k k2:IntKind}{a b:Int}(hx:bx s x=some (.int k a))(hy:bx s y=some (.int k b))(ht:P.underlying t=some (.int k2))(hu:P.underlying u=some (.int k2)):Ev P s C ⟨d,.call ⟨.builtin .max, #[x,y], #[t,u]⟩,ty,pos,af,gd⟩ (.int k (max a b)):=fun ρ hρ w _=>by
 rw [gv (P:=P) (ρ:=ρ) (xs:=[x,y]) (vs:=[.int k a,.int k b]) (by simp [hρ x _ hx,hρ y _ hy]) w]
 have e:(if a<b then b else a)=max a b:=by rw [Int.max_def];split<;>split<;>omega
 cases k<;>simp [builtin,Builtin.max_,Builtin.max2,e]
theorem wy {t e:TypeId}{x:Operand}(hx:bx s x=some (U none 0 0))(ht:P.underlying t=some (.slice e)):Ev P s C ⟨d,.call ⟨.builtin .cap, #[x], #[t]⟩,ty,pos,af,gd⟩ (.int .i64 0):=fun ρ hρ w _=>by
 rw [gv (P:=P) (ρ:=ρ) (xs:=[x]) (vs:=[U none 0 0]) (by simp [hρ x _ hx]) w];simp [builtin,Builtin.cap_,run_underlying ht,goInt]
end
def Q2 (P:Program)(s:bC)(L:List Chunk)(o:Oper)(v:Value):Prop:= ∀Z w,Sp Z L w->Ev P s (fun _=>True) o v
section
variable {P:Program} {s:bC} {L:List Chunk} {d:Option Nat} {ty:TypeId} {pos:String} {af:Array Edge} {gd:Option (Nat×Bool)}
end
theorem J0 {α β:Type}{P:Program}{v:Value}{G:List Chunk}{en:α->List Value}{ev:β->Value}{φ:α->Option β}(h:G5 P v G en ev φ):v.cells.toList=[v]:=by obtain ⟨_,f,bs,caps,rfl,_⟩:=h;rfl
theorem CB {a b:ByteArray}:a.toList=b.toList↔a=b:=by
 constructor
 ·intro h;rw [ByteArray.toList_eq,ByteArray.toList_eq] at h;exact WideShapes.bytes_inj h
 rintro rfl;rfl
theorem MD {X:Cx}{K:K3}{s:bC}{L:List Chunk}{cd:Code}{α:Type}{R:Rep α}{A:Option Addr}{n c:Nat}{xs:List α}{ch:Chunk}(i:Nat)(hi:L[i]? =some ch)(he:DW R (.slice A n c) xs ch)(hA:A.isNone=true)(k:xs=[]->Wq X cd K s L):Wq X cd K s L:=fun H Ds a w ha hd hw=>by
 obtain ⟨T,S,h⟩:=hw.get (bw hi);obtain ⟨A',cap,e,h1,h2,h3⟩:=he _ _ _ h
 have hx:xs=[]:=by
  rcases Nat.eq_zero_or_pos xs.length with h0|h0
  ·exact List.eq_nil_of_length_eq_zero h0
  obtain ⟨b,o,vss,e2, -⟩:=h3 h0
  injection e with e
  rw [e,e2] at hA;cases hA
 exact k hx H Ds a w ha hd hw
section
variable {P:Program} {s:bC} {L:List Chunk} {d:Option Nat} {ty:TypeId} {pos:String} {af:Array Edge} {gd:Option (Nat×Bool)}
theorem fJ {f:FuncId}{x:Operand}{xs:List Operand}{ats:Array TypeId}{vs us:List Value}{caps:Array Value}{pre rest:List Chunk}{R:Value->List Chunk->Prop}(hc:Okc P f us pre R)(hf:ie P f)(hx:bx s x=some (.func (.func f) #[] caps))(hv:CW s xs=some vs)(hu:vs++caps.toList=us)(hL:Cv L (pre++rest)):OpX P s L ⟨d,.call ⟨.value x,xs.toArray,ats⟩,ty,pos,af,gd⟩ fun u L'=> ∃post,R u post/\L'=post++rest:=fun ρ hρ Z w hw=>by
 subst hu;refine .inr (.inr (.inl ⟨f,_,sO hf (li hρ hv) (hρ _ _ hx),?_⟩))
 have h1:Sp (rest++Z) pre w:=by have:=hL Z w hw;unfold Sp at*;simpa only [RP] using this
 refine (hc _ w h1).mono ?_;rintro e w' ⟨v,post,rfl,h2,h3⟩;exact ⟨v,post++rest,J,by unfold Sp at*;simpa only [RP] using h2,post,h3,rfl⟩
theorem lP {f:FuncId}{x:Operand}{xs:List Operand}{ats:Array TypeId}{vs us:List Value}{caps:Array Value}{pre:List Chunk}{R:Value->List Chunk->Prop}(hc:Okc P f us pre R)(hf:ie P f)(hx:bx s x=some (.func (.func f) #[] caps))(hv:CW s xs=some vs)(hu:vs++caps.toList=us)(hp: ∀c∈pre,xG L c)(hfr: ∀v post,R v post-> ∀c∈post,jJ c):OpX P s L ⟨d,.call ⟨.value x,xs.toArray,ats⟩,ty,pos,af,gd⟩ fun u L'=> ∃post,R u post/\L'=post++L:=fun ρ hρ Z w hw=>by
 subst hu;refine .inr (.inr (.inl ⟨f,_,sO hf (li hρ hv) (hρ _ _ hx),?_⟩));refine (yf hc hp hfr Z w hw).mono ?_;rintro e w' ⟨v,post,rfl,h2,h3⟩;exact ⟨v,post++L,J,h2,post,h3,J⟩
end
theorem Is {α:Type}{R:Rep α}{e:TypeId}{v vw:Value}{xs:List α}{k i:Nat}{L:List Chunk}(hi:L[i]? =some (lD R e v xs vw k)):xG L (qq R v xs):=fun T S w h=>by
 obtain ⟨vss,h1,h2⟩:=Ce (h.ok hi);rcases h2 with ⟨h2, -⟩|⟨h0,A,rfl⟩
 ·rcases h2.2 with ⟨rfl,h0⟩|⟨g,cap,cur,rfl,g1,g2,g3,g4,g5,g6⟩
  ·exact ⟨none,0,by rw [h0],by omega,by omega,fun h=>absurd h V⟩
  exact ⟨_,cap,J,g3,by unfold maxLen at g4;omega,fun _=>⟨g,0,vss,rfl,Blk.lt (t:=e) (cs:=cur) g2,Blk.lt (t:=e) (cs:=cur) g2,h1.imp fun _ _=>R.mono fun _ hq=>h.lts hq,lO (cap:=cap) g2 g6⟩⟩
 exact ⟨A,0,by rw [h0],by omega,by omega,fun h=>absurd h V⟩
end
section
variable {A0:Option Addr} {M1:Nat}
open Go.RowKit
def tf {α σ:Type}(P:Program)(l:Nat)(G:σ->List Chunk)(Q:α->List Value->List Chunk->Prop)(φ:α->σ->Option (Bool×σ)):Prop:=
 ∀x σ₁ b σ₂,φ x σ₁=some (b,σ₂)-> ∀vs cs,Q x vs cs-> ∀Z w,Sp Z (cs++G σ₁) w-> ∃fn tmps assign body,(Instr.yield l vs.toArray).run P w=.ok (.round l fn tmps assign body) w/\RoundIn Fence.wide 0 P l fn tmps assign body w fun e w'=>e=.returned (.bool b)/\Sp Z (G σ₂) w'
section
variable {P:Program} {s:bC} {d:Option Nat} {ty:TypeId} {pos:String} {af:Array Edge} {gd:Option (Nat×Bool)}
theorem Dk {α σ:Type}{l:Nat}{G:σ->List Chunk}(E:List Chunk){Q:α->List Value->List Chunk->Prop}{φ:α->σ->Option (Bool×σ)}{a:α}{σ₁:σ}{y:Bool×σ}{x:Operand}{xs:List Operand}{ats:Array TypeId}{vs:List Value}{cs:List Chunk}(hY:tf P l G Q φ)(hr:φ a σ₁=some y)(hx:bx s x=some (.func (.yield l) #[] #[]))(hv:CW s xs=some vs)(hq:Q a vs cs)(hd:Cv (E++G σ₁) (cs++(E++G σ₁))):OpX P s (E++G σ₁) ⟨d,.call ⟨.value x,xs.toArray,ats⟩,ty,pos,af,gd⟩ fun u L'=>u=.bool y.1/\L'=E++G y.2:=fun ρ hρ Z2 w hw=>by
 obtain ⟨b,σ₂⟩:=y;have h0:=hd Z2 w hw
 have h1:Sp (E++Z2) (cs++G σ₁) w:=by
  have h2:SepL ((cs++(E++G σ₁))++Z2) w:=h0;refine SepL.perm h2 ?_;simp only [RP];exact List.Perm.append_left cs (List.perm_append_comm_assoc _ _ _)
 obtain ⟨fn,tmps,assign,body,h2,h3⟩:=hY a σ₁ b σ₂ hr vs cs hq _ w h1;refine .inr (.inr (.inr ⟨l,fn,tmps,assign,body,?_,?_⟩))
 ·unfold execOp;simp only [resolve,hρ x _ hx,Deferred.ofValue,List.map_toArray,li hρ hv];simp only [invoke,Sem.run_bind,Sem.run_pure,Result.andThen_ok];simpa using h2
 refine h3.mono ?_;rintro e w' ⟨rfl,h4⟩;refine ⟨_,_,J,?_,J,J⟩;have h5:SepL (G σ₂++(E++Z2)) w':=h4;refine SepL.perm h5 ?_;simp only [RP];exact List.perm_append_comm_assoc _ _ _
end
theorem IV {ι:Type}{Q:ι->List Chunk}{X:Cx}{K:K3}{s:bC}{c:Code}(cs:List Chunk)(h: ∀x,Wq X c K s (cs++Q x)):Wq X c K s (cs++ [jd Q]):=fun H Ds a w ha hd hw=>by
 have h1:Sp (cs++(Ds.map cm++H)) [jd Q] w:=by
  refine SepL.perm hw ?_;simp only [RP];exact List.perm_append_comm_assoc _ _ _
 obtain ⟨x,hx⟩:=lm h1
 have h2:Sp (Ds.map cm++H) (cs++Q x) w:=by
  refine SepL.perm hx ?_;simp only [RP,R4];exact List.perm_append_comm_assoc _ _ _
 exact h x H Ds a w ha hd h2
theorem IW {α σ:Type}{X:Cx}{K:K3}{s:bC}{g:Operand}{ps:List Nat}{assign body:Code}{gf:FuncId}{caps:Array Value}{Q:α->List Value->List Chunk->Prop}(φ:α->σ->Option (Option Exit×σ))(E:σ->List Chunk)(pre:List Chunk)(σ₀:σ){je:Option Exit}{σr:σ}{L:List Chunk}
  (hr:X.r=none) (hg:bx s g=some (.func (.func gf) #[] caps)) (hf:ie X.P gf) (hps:ps.all (fun p=>Nat.ble (p+1) X.n)=true) (hen: ∀x vs cs,Q x vs cs->vs.length=ps.length)
  (hit: ∀l (G:(Option Exit×σ)->List Chunk),tf X.P l G Q (cQ φ)->Okc X.P gf (.func (.yield l) #[] #[]::caps.toList) (pre++G (none,σ₀)) fun _ post=>post=G (je,σr))
  (hL:Cv L (pre++E σ₀))
  (hbody: ∀l x σ₁ je' σ₂,φ x σ₁=some (je',σ₂)-> ∀vs cs,Q x vs cs->Wq ⟨X.P,X.n,some l⟩ assign (nx (fun s1 L1=>Wq ⟨X.P,X.n,some l⟩ body (RK je' (E σ₂)) s1 L1) fun _ _ _=>False) (yJ ps vs s) (cs++E σ₁))
  (hdone:je=none->K .normal s (E σr)) (hleft: ∀e,je=some e->(t6 e).isSome=true/\K e s (E σr)):
  Wq X (.rangeFunc g ps.toArray assign body) K s L:=by
 intro H Ds a w ha hds hw;obtain ⟨P,n,r⟩:=X;simp only at hr hf hps hit hbody;subst hr;refine wpIn_rangeFunc ?_;intro fn hfn;have hev:a.eval g=.func (.func gf) #[] caps:=ha.eval hg
 obtain ⟨rec_,hrec⟩: ∃rec_:Option Exit->LoopState->Loop,rec_=fun j st=>{state:=st,pending:=j.bind t6,fn,tmps:=a.tmps,params:=ps.toArray,assign,body,defers:=w.heap.size}:=⟨_,rfl⟩
 obtain ⟨stOf,hst⟩: ∃stOf:Option Exit->LoopState,stOf=fun j=>if j.isNone then .ready else .done:=⟨_,rfl⟩
 obtain ⟨l,hl⟩: ∃l,l=w.heap.size+1:=⟨_,rfl⟩;obtain ⟨W1,hW1⟩: ∃W1,(w.alloc (.deferred (some []))).alloc (.loop (rec_ none .ready))=W1:=⟨_,rfl⟩
 have hY:tf P l (fun q=>kx l (rec_ q.1 (stOf q.1))::E q.2) Q (cQ φ):=by
  rintro x ⟨j₁,σ₁⟩ b ⟨j₂,σ₂⟩ hx vs cs hq Z w1 hw1;unfold cQ at hx
  cases j₁ with
  |some e=>cases hx
  | none=>
   simp only at hx
   cases hφ:φ x σ₁ with
   |none=>rw [hφ] at hx;cases hx
   | some y=>
    rw [hφ] at hx;simp only [Option.map_some,Option.some.injEq,Prod.mk.injEq] at hx;obtain ⟨hb,hy⟩:=hx;subst hb hy
    have h0:SepL (cs++(kx l (rec_ none .ready)::(E σ₁++Z))) w1:=by
     have:stOf none=.ready:=by rw [hst];rfl
     simp only [this] at hw1;unfold Sp at hw1;simpa only [RP,List.cons_append] using hw1
    have a6:=rV h0;have hy:=run_yield (P:=P) (args:=vs.toArray) a6 (by rw [hrec];simp [hen x vs cs hq]);refine ⟨_,_,_,_,hy,roundIn_of_wpIn (F:=Fence.wide) trivial ?_⟩
    have hfx:Fx ⟨P,n,some l⟩ (yJ ps vs s) ⟨((rec_ none .ready).params.zip vs.toArray).foldl (fun t (p:Nat×Value)=>t.setIfInBounds p.1 p.2) (rec_ none .ready).tmps,[]⟩:=by
     have h1:=Ey (X:=⟨P,n,some l⟩) (ds:=[]) (ps.zip vs) s a.tmps (by
      rw [List.all_eq_true] at hps⊢;intro p hp
      exact hps p.1 (List.of_mem_zip hp).1) ⟨ha.size,ha.at_⟩
     have e:(((rec_ none .ready).params.zip vs.toArray).foldl (fun t (p:Nat×Value)=>t.setIfInBounds p.1 p.2) (rec_ none .ready).tmps)=(ps.zip vs).foldl (fun t (p:Nat×Value)=>t.setIfInBounds p.1 p.2) a.tmps:=by
      rw [hrec];simp
     rw [e];exact h1
    have hsp:Sp (([]:List Nat).map cm++(kx l (rec_ none .ready)::Z)) (cs++E σ₁) w1:=h0.perm (by simpa only [RP,List.map_nil,R4] using List.Perm.append_left cs List.perm_middle.symm);have hrun:=hbody l x σ₁ j₂ σ₂ hφ vs cs hq (kx l (rec_ none .ready)::Z) [] _ w1 hfx rfl hsp
    have hasg:(rec_ none .ready).assign=assign:=by rw [hrec]
    have hbdy:(rec_ none .ready).body=body:=by rw [hrec]
    rw [hasg,hbdy];refine wpIn_mono hrun ?_;rintro e a1 w2 ⟨s1,L1,Ds1,g1,g2,g3,g4⟩
    cases e with
    | normal=>
     have g3':SepL ((L1++Ds1.map cm)++(kx l (rec_ none .ready)::Z)) w2:=by unfold Sp at g3;simpa only [RP] using g3
     have a7:=rV g3';have hbusy:=vW (r':={rec_ none .ready with state:=.busy}) g3';refine ⟨_,run_beginRound a7 (by rw [hrec]),?_⟩
     have a8:Sp (Ds1.map cm++(kx l {rec_ none .ready with state:=.busy}::Z)) L1 (w2.putObj l (.loop {rec_ none .ready with state:=.busy})):=by unfold Sp;simpa only [RP] using hbusy
     refine wpIn_mono (g4 (kx l {rec_ none .ready with state:=.busy}::Z) Ds1 a1 _ g1 g2 a8) ?_;rintro e3 a3 w3 ⟨s3,L3,Ds3,k1,k2,k3,k4,k5⟩
     have k3':SepL ((L3++Ds3.map cm)++(kx l {rec_ none .ready with state:=.busy}::Z)) w3:=by unfold Sp at k3;simpa only [RP] using k3
     have b0:=rV k3'
     have fin: ∀(j:Option Exit) (jump:Option Code),jump=j.bind t6->jump.isNone=j.isNone->j₂=j-> ∃v w',(Instr.endRound l jump).run P w3=.ok v w'/\(Ending.returned v=.returned (.bool j₂.isNone)/\Sp Z (kx l (rec_ j₂ (stOf j₂))::E σ₂) w'):=by
      intro j jump hj1 hj2 hj3;subst hj3;refine ⟨_,_,run_endRound jump b0,by rw [hj2],?_⟩
      have e:({{rec_ none .ready with state:=.busy} with state:=if jump.isNone then LoopState.ready else LoopState.done,pending:=jump}:Loop)=rec_ j₂ (stOf j₂):=by
       rw [hrec,hst,hj2,hj1]
      rw [e];have h6:=vW (r':=rec_ j₂ (stOf j₂)) k3'
      have h7:SepL (L3++(kx l (rec_ j₂ (stOf j₂))::Z)) (w3.putObj l (.loop (rec_ j₂ (stOf j₂)))):=by
       have h8:SepL (Ds3.map cm++(L3++(kx l (rec_ j₂ (stOf j₂))::Z))) (w3.putObj l (.loop (rec_ j₂ (stOf j₂)))):=h6.perm (by
        rw [<-RP]
        exact List.Perm.append_right _ List.perm_append_comm)
       exact h8.dropL
      have h9:=k5 (kx l (rec_ j₂ (stOf j₂))::Z) _ h7;unfold Sp at h9⊢;exact h9.perm List.perm_middle
     rcases k4 with ⟨h10,rfl⟩|⟨h10,h11⟩
     ·exact fin none none J J h10
     cases e3 with
     |ret=>exact fin (some .ret) (some .ret) rfl rfl h10
     |exit i=>exact fin (some (.exit i)) (some (.exit i)) rfl rfl h10
     |_=>cases h11
    |_=>exact g4.elim
 have hdeep:SepL (kx l (rec_ none .ready)::cm w.heap.size::((pre++E σ₀)++(Ds.map cm++H))) W1:=by
  have h1:SepL ((pre++E σ₀)++(Ds.map cm++H)) w:=hL _ _ hw
  have h2:SepL (cm w.heap.size::((pre++E σ₀)++(Ds.map cm++H))) (w.alloc (.deferred (some []))):=h1.new (Agr.of_ext ((Ext.refl w).alloc _)) fun _ S _=>⟨(· =w.heap.size),fun q hq=>by subst hq;simp,rfl,World.alloc_heap_new w _⟩
  rw [<-hW1]
  refine h2.new (Agr.of_ext ((Ext.refl _).alloc _)) fun _ S _=>⟨(· =l),fun q hq=>by subst hq;rw [hl];simp,rfl,?_⟩
  have:=World.alloc_heap_new (w.alloc (.deferred (some []))) (.loop (rec_ none .ready));rw [World.size_alloc] at this;rw [hl];exact this
 have hstn:stOf none=.ready:=by rw [hst];rfl
 have hstart:Sp (cm w.heap.size::(Ds.map cm++H)) (pre++(kx l (rec_ none (stOf none))::E σ₀)) W1:=by
  rw [hstn];refine hdeep.perm ?_;refine (List.Perm.swap _ _ _).trans ?_;refine List.Perm.trans ?_ List.perm_middle.symm;refine List.Perm.cons _ ?_;rw [<-List.cons_append];exact List.Perm.append_right _ List.perm_middle.symm
 obtain ⟨fnc,hfn1,a2,hn1⟩:=hf
 have hn': ¬fnc.name= "runtime.NumGoroutine" :=by simpa using hn1
 have hb': ¬fnc.body=none:=by intro h;rw [h] at a2;cases a2
 refine ⟨l,[{target:=.collected w.heap.size,args:= #[]}],W1,{target:=.fn (.func gf) caps,args:= #[.func (.yield l) #[] #[]]},W1,gf,(.func (.yield l) #[] #[]::caps.toList).toArray,W1,?_,?_,fun _ _=>trivial,?_,(by intro h;cases h),?_⟩
 ·rw [<-hW1,hl,hrec];exact run_enterLoop_outer _ _ _ _ _
 ·simp only [resolve,hev];simp [Deferred.ofValue,Act.eval]
 ·simp [invoke,callFunc,hfn1,hb',hn',Sem.run_bind]
 have h1:=hit l _ hY _ W1 hstart;refine (callsIn_wide.2 h1:CallsIn Fence.wide (0 - 1) P gf _ W1 _).mono ?_;rintro e w3 ⟨v,post,rfl,h2,rfl⟩;have h2':SepL ([]++(kx l (rec_ je (stOf je))::(E σr++(cm w.heap.size::(Ds.map cm++H))))) w3:=h2;have hk:=rV h2';refine ⟨_,_,run_endLoop hk (by rw [hrec,hst];cases je<;>simp),?_⟩;have h3:=vW (r':={rec_ je (stOf je) with state:=.exhausted}) h2';generalize w3.putObj l (.loop {rec_ je (stOf je) with state:=.exhausted})=w4 at h3⊢
 have h4:Sp ((w.heap.size::Ds).map cm++H) (E σr) w4:=by
  have h5:SepL ([kx l {rec_ je (stOf je) with state:=.exhausted}]++(E σr++(cm w.heap.size::(Ds.map cm++H)))) _:=h3;have h6:=h5.dropL;unfold Sp;simpa using h6
 have hfin: ∀e,K e s (E σr)->vO ⟨P,n,none⟩ H K e {a with defers:=[{target:=.collected w.heap.size,args:= #[]}]++a.defers} w4:=fun e he=>⟨s,E σr,w.heap.size::Ds,⟨ha.size,ha.at_⟩,by simp [hds,uq],h4,he⟩
 cases hje:je with
 |none=>
  have:(rec_ je (stOf je)).pending=none:=by rw [hrec,hje];rfl
  rw [<-hje,this];exact hfin .normal (hdone hje)
 |some e=>
  obtain ⟨h7,h8⟩:=hleft e hje
  have:(rec_ je (stOf je)).pending=t6 e:=by rw [hrec,hje];rfl
  rw [<-hje,this]
  cases e with
  |ret=>exact wpIn_ret (hfin .ret h8)
  |exit i=>exact wpIn_exit (hfin (.exit i) h8)
  |_=>cases h7
theorem DV {α σ ι ρ:Type}{X:Cx}{K:K3}{s:bC}{g:Operand}{ps:List Nat}{assign body:Code}{gf:FuncId}{caps:Array Value}{R:α->List Value->List Chunk->Prop}(φ:α->σ->Option (Option Exit×σ))(Q:σ->ι->List Chunk)(pre:List Chunk)(σ₀:σ)(x₀:ι){je:Option Exit}{σr:σ}{L:List Chunk}{id:Nat}{vn vr:Option ρ}{vx:Nat->Option ρ}{v:ρ}
  (hr:X.r=none) (hg:bx s g=some (.func (.func gf) #[] caps)) (hf:ie X.P gf) (hps:ps.all (fun p=>Nat.ble (p+1) X.n)=true) (hen: ∀x vs cs,R x vs cs->vs.length=ps.length)
  (hit: ∀l (G:(Option Exit×σ)->List Chunk),tf X.P l G R (cQ φ)->Okc X.P gf (.func (.yield l) #[] #[]::caps.toList) (pre++G (none,σ₀)) fun _ post=>post=G (je,σr))
  (hL:Cv L (pre++Q σ₀ x₀)) (h:qc je vn vr vx=some v)
  (hbody: ∀l x σ₁ je' σ₂ z,φ x σ₁=some (je',σ₂)-> ∀vs cs,R x vs cs->Wq ⟨X.P,X.n,some l⟩ assign (nx (fun s1 L1=>Wq ⟨X.P,X.n,some l⟩ body (RK je' [jd (Q σ₂)]) s1 L1) fun _ _ _=>False) (yJ ps vs s) (cs++Q σ₁ z))
  (hn: ∀z,vn=some v->bk id K .normal s (Q σr z)) (hret: ∀z,vr=some v->bk id K .ret s (Q σr z)) (hx: ∀i z,vx i=some v->bk id K (.exit i) s (Q σr z)):
  Wq X (.block id (.rangeFunc g ps.toArray assign body)) K s L:=by
 refine uc (HO (K':=fun e s' L'=>s'=s/\L'=[jd (Q σr)]/\ ∀z,bk id K e s (Q σr z)) ?_ ?_)
 ·refine IW φ (fun q=> [jd (Q q)]) pre σ₀ hr hg hf hps hen hit ?_ ?_ ?_ ?_
  ·exact hL.trans (ru pre (fQ x₀ J))
  ·intro l x σ₁ je' σ₂ hφ vs cs hq
   exact IV cs fun z=>hbody l x σ₁ je' σ₂ z hφ vs cs hq
  ·intro hj;rw [hj] at h;exact ⟨J,J,fun z=>hn z h⟩
  intro e he;rw [he] at h
  cases e with
  |ret=>exact ⟨rfl,rfl,rfl,fun z=>hret z h⟩
  |exit i=>exact ⟨rfl,rfl,rfl,fun z=>hx i z h⟩
  |_=>cases h
 rintro e s' L' ⟨rfl,rfl,h3⟩;exact ⟨ι,Q σr,J,h3⟩
theorem SlR.recap {α:Type}{R:Rep α}{S:Nat->Prop}{w:World}{A1 A2:Option Addr}{n1 n2 c1 c2:Nat}{ys:List α}(h:SlR R S w (U A1 n1 c1) ys)(hn:n2=ys.length)(hA:0<ys.length->A2=A1)(h1:ys.length<=c2)(h2:c2<=9223372036854775807):SlR R S w (U A2 n2 c2) ys:=by
 obtain ⟨A,c,e,g1,g2,g3⟩:=h
 injection e with e1 e2 e3
 subst e1 e3 hn;exact ⟨_,_,J,h1,h2,fun h0=>by rw [hA h0];exact g3 h0⟩
theorem GR {α:Type}{R:Rep α}{L Z:List Chunk}{w:World}{A:Option Addr}{n c:Nat}{xs:List α}(hw:Sp Z L w){i:Nat}(hi:L[i]? =some (qq R (.slice A n c) xs)){l h:Nat}(h1:l<=h)(h2:h<=xs.length):Sp Z (qq R (.slice (tY A h l R.sz) (h - l) (h - l)) ((xs.drop l).take (h - l))::L) w:=by
 obtain ⟨T,S,hT⟩:=hw;have hs1:SlR R S w (.slice A n c) xs:=hT.ok (bw hi)
 have hl:((xs.drop l).take (h - l)).length=h - l:=by rw [R0,List.length_drop];omega
 have hb:=hs1;obtain ⟨A2,c2,e2,g1,g2, -⟩:=hb
 injection e2 with q1 q2 q3
 subst q1 q2 q3
 obtain ⟨T',h'⟩:=SepL.facts [qq R (.slice (tY A h l R.sz) (h - l) (h - l)) ((xs.drop l).take (h - l))] hT (fun c hc=>by
  simp only [List.mem_singleton] at hc;subst hc;refine SlR.recap (hs1.cut l h h1 h2) hl.symm (fun h0=> ?_) V V;rw [hl] at h0;unfold tY
  rw [if_neg V,if_neg V])
 exact ⟨T',S,h'⟩
theorem KT {α:Type}{R:Rep α}{X:Cx}{ops:Array Oper}{K:K3}{s:bC}{L:List Chunk}{ol:List Oper}{A:Option Addr}{n c:Nat}{xs:List α}(i:Nat)(hi:L[i]? =some (qq R (.slice A n c) xs)){l h:Nat}(h1:l<=h)(h2:h<=xs.length)(k: ∀A' n' c',A'=tY A h l R.sz/\n'=h - l/\c'=h - l->bO X ops ol K s (qq R (.slice A' n' c') ((xs.drop l).take (h - l))::L)):bO X ops ol K s L:=fun H Ds a w ha hd hw=>k _ _ _ ⟨rfl,rfl,rfl⟩ H Ds a w ha hd (GR hw hi h1 h2)
section
variable {P:Program} {s:bC} {L:List Chunk} {d:Option Nat} {ty:TypeId} {pos:String} {af:Array Edge} {gd:Option (Nat×Bool)}
theorem Mk {C:World->Prop}{t e sz:Nat}{x o y z:Operand}{A:Option Addr}{n c:Nat}{l h:Nat}(hx:bx s x=some (.slice A n c))(hu:P.underlying t=some (.slice e))(hs:kX P e sz=true)(hl:bx s o=some (.int .i64 (l:Int)))(hh:bx s y=some (.int .i64 (h:Int)))(hm:bx s z=some (.int .i64 (h:Int)))(h1:l<=h)(h2:h<=c):Ev P s C ⟨d,.slice t x (some o) (some y) (some z),ty,pos,af,gd⟩ (.slice (tY A h l sz) (h - l) (h - l)):=fun ρ hρ w _=>by
 unfold execOp;simp only [Option.map_some,Option.map_none,hρ x _ hx,hρ o _ hl,hρ y _ hh,hρ z _ hm,Instr.sliceAt,Instr.slice,Instr.sliceBounds,Sem.run_bind,run_underlying hu,Result.andThen_ok,sP h2,sP h1,sP (Nat.le_refl h),jx hs w,Sem.run_pure];rfl
theorem Hg {α:Type}{R:Rep α}{t e sz:Nat}{x o y z:Operand}{A A':Option Addr}{n c n' c':Nat}{xs:List α}{l h:Nat}(i:Nat)(hL:L[i]? =some (qq R (.slice A n c) xs))(he:A'=tY A h l R.sz/\n'=h - l/\c'=h - l)(hx:bx s x=some (.slice A n c))(hu:P.underlying t=some (.slice e))(hs:kX P e sz=true)(hsz:R.sz=sz)
  (hl:bx s o=some (.int .i64 (l:Int))) (hh:bx s y=some (.int .i64 (h:Int))) (hm:bx s z=some (.int .i64 (h:Int))) (h1:l<=h) (h2:h<=xs.length):Rd P s L ⟨d,.slice t x (some o) (some y) (some z),ty,pos,af,gd⟩ (.slice A' n' c'):=fun Z w hw=>by
 obtain ⟨rfl,rfl,rfl⟩:=he;subst hsz;obtain ⟨T,S,A2,c2,e2,g1, -⟩:=hw.get (bw hL)
 injection e2 with q1 q2 q3
 subst q1 q2 q3;exact Mk hx hu hs hl hh hm h1 V
end
end
section
variable {A0:Option Addr} {M1:Nat}
open Go.RowKit
section
variable {α β:Type} [DecidableEq α] {ek:α->Value} {ev:β->Value}
def Q5 (w:World)(m:Nat)(ek:α->Value)(ev:β->Value)(kv:List (α×β))(a:α)(s:Nat):Prop:=
 ∃es clk,w.heap[m]? =some (.map es clk)/\es.toList.map (fun e=>(e.key,e.val))=kv.map (fun p=>(ek p.1,ev p.2))/\es.toList.Pairwise (fun a b=>a.born<b.born)/\(∀e∈es.toList,e.born<clk)/\ ∃q e b,es[q]? =some e/\e.born=s/\e.key=ek a/\fp a kv 0=some (q,b)
def QG (kv:List (α×β))(a:α)(z:β):List (α×β):=match fp a kv 0 with
 |some _=>kv
 |none=>kv++ [(a,z)]
variable {P:Program} {s:bC} {L:List Chunk} {d:Option Nat} {ty t kt et:TypeId} {pos:String} {af:Array Edge} {gd:Option (Nat×Bool)}
end
end
section
variable {A0:Option Addr} {M1:Nat}
open Go.RowKit
theorem FR {L:List Chunk}: ∀(cs:List Chunk),Cv (cs++L) L
 | []=>ae _
 |_::cs=>cv_tl.trans (FR cs)
inductive Asn:Type 1
 |aV (v:Value)
 |aX1 {ι0:Type} (v:ι0->Value) (ch:ι0->List Chunk)
 |aX2 {ι0 ι1:Type} (v:ι0->ι1->Value) (ch:ι0->ι1->List Chunk)
 |aX3 {ι0 ι1 ι2:Type} (v:ι0->ι1->ι2->Value) (ch:ι0->ι1->ι2->List Chunk)
 |aX4 {ι0 ι1 ι2 ι3:Type} (v:ι0->ι1->ι2->ι3->Value) (ch:ι0->ι1->ι2->ι3->List Chunk)
 |aX5 {ι0 ι1 ι2 ι3 ι4:Type} (v:ι0->ι1->ι2->ι3->ι4->Value) (ch:ι0->ι1->ι2->ι3->ι4->List Chunk)
 |aX6 {ι0 ι1 ι2 ι3 ι4 ι5:Type} (v:ι0->ι1->ι2->ι3->ι4->ι5->Value) (ch:ι0->ι1->ι2->ι3->ι4->ι5->List Chunk)
 |aX7 {ι0 ι1 ι2 ι3 ι4 ι5 ι6:Type} (v:ι0->ι1->ι2->ι3->ι4->ι5->ι6->Value) (ch:ι0->ι1->ι2->ι3->ι4->ι5->ι6->List Chunk)
 |aX8 {ι0 ι1 ι2 ι3 ι4 ι5 ι6 ι7:Type} (v:ι0->ι1->ι2->ι3->ι4->ι5->ι6->ι7->Value) (ch:ι0->ι1->ι2->ι3->ι4->ι5->ι6->ι7->List Chunk)
 |aX9 {ι0 ι1 ι2 ι3 ι4 ι5 ι6 ι7 ι8:Type} (v:ι0->ι1->ι2->ι3->ι4->ι5->ι6->ι7->ι8->Value) (ch:ι0->ι1->ι2->ι3->ι4->ι5->ι6->ι7->ι8->List Chunk)
 |aX10 {ι0 ι1 ι2 ι3 ι4 ι5 ι6 ι7 ι8 ι9:Type} (v:ι0->ι1->ι2->ι3->ι4->ι5->ι6->ι7->ι8->ι9->Value) (ch:ι0->ι1->ι2->ι3->ι4->ι5->ι6->ι7->ι8->ι9->List Chunk)
 |aX11 {ι0 ι1 ι2 ι3 ι4 ι5 ι6 ι7 ι8 ι9 ι10:Type} (v:ι0->ι1->ι2->ι3->ι4->ι5->ι6->ι7->ι8->ι9->ι10->Value) (ch:ι0->ι1->ι2->ι3->ι4->ι5->ι6->ι7->ι8->ι9->ι10->List Chunk)
 |aX12 {ι0 ι1 ι2 ι3 ι4 ι5 ι6 ι7 ι8 ι9 ι10 ι11:Type} (v:ι0->ι1->ι2->ι3->ι4->ι5->ι6->ι7->ι8->ι9->ι10->ι11->Value) (ch:ι0->ι1->ι2->ι3->ι4->ι5->ι6->ι7->ι8->ι9->ι10->ι11->List Chunk)
 |aX15 {ι0 ι1 ι2 ι3 ι4 ι5 ι6 ι7 ι8 ι9 ι10 ι11 ι12 ι13 ι14:Type} (v:ι0->ι1->ι2->ι3->ι4->ι5->ι6->ι7->ι8->ι9->ι10->ι11->ι12->ι13->ι14->Value) (ch:ι0->ι1->ι2->ι3->ι4->ι5->ι6->ι7->ι8->ι9->ι10->ι11->ι12->ι13->ι14->List Chunk)
 |aX21 {ι0 ι1 ι2 ι3 ι4 ι5 ι6 ι7 ι8 ι9 ι10 ι11 ι12 ι13 ι14 ι15 ι16 ι17 ι18 ι19 ι20:Type} (v:ι0->ι1->ι2->ι3->ι4->ι5->ι6->ι7->ι8->ι9->ι10->ι11->ι12->ι13->ι14->ι15->ι16->ι17->ι18->ι19->ι20->Value) (ch:ι0->ι1->ι2->ι3->ι4->ι5->ι6->ι7->ι8->ι9->ι10->ι11->ι12->ι13->ι14->ι15->ι16->ι17->ι18->ι19->ι20->List Chunk)
namespace Asn
def full:Asn->Value->List Chunk
 |aV v,u=> [Jj (u=v)]
 | @aX1 ι0 v ch,u=> [jd fun x:{x:ι0 // u=v x}=>ch x.1]
 | @aX2 ι0 ι1 v ch,u=> [jd fun x:{x:ι0×ι1 // u=v x.1 x.2}=>ch x.1.1 x.1.2]
 | @aX3 ι0 ι1 ι2 v ch,u=> [jd fun x:{x:ι0×ι1×ι2 // u=v x.1 x.2.1 x.2.2}=>ch x.1.1 x.1.2.1 x.1.2.2]
 | @aX4 ι0 ι1 ι2 ι3 v ch,u=> [jd fun x:{x:ι0×ι1×ι2×ι3 // u=v x.1 x.2.1 x.2.2.1 x.2.2.2}=>ch x.1.1 x.1.2.1 x.1.2.2.1 x.1.2.2.2]
 | @aX5 ι0 ι1 ι2 ι3 ι4 v ch,u=> [jd fun x:{x:ι0×ι1×ι2×ι3×ι4 // u=v x.1 x.2.1 x.2.2.1 x.2.2.2.1 x.2.2.2.2}=>ch x.1.1 x.1.2.1 x.1.2.2.1 x.1.2.2.2.1 x.1.2.2.2.2]
 | @aX6 ι0 ι1 ι2 ι3 ι4 ι5 v ch,u=> [jd fun x:{x:ι0×ι1×ι2×ι3×ι4×ι5 // u=v x.1 x.2.1 x.2.2.1 x.2.2.2.1 x.2.2.2.2.1 x.2.2.2.2.2}=>ch x.1.1 x.1.2.1 x.1.2.2.1 x.1.2.2.2.1 x.1.2.2.2.2.1 x.1.2.2.2.2.2]
 | @aX7 ι0 ι1 ι2 ι3 ι4 ι5 ι6 v ch,u=> [jd fun x:{x:ι0×ι1×ι2×ι3×ι4×ι5×ι6 // u=v x.1 x.2.1 x.2.2.1 x.2.2.2.1 x.2.2.2.2.1 x.2.2.2.2.2.1 x.2.2.2.2.2.2}=>ch x.1.1 x.1.2.1 x.1.2.2.1 x.1.2.2.2.1 x.1.2.2.2.2.1 x.1.2.2.2.2.2.1 x.1.2.2.2.2.2.2]
 | @aX8 ι0 ι1 ι2 ι3 ι4 ι5 ι6 ι7 v ch,u=> [jd fun x:{x:ι0×ι1×ι2×ι3×ι4×ι5×ι6×ι7 // u=v x.1 x.2.1 x.2.2.1 x.2.2.2.1 x.2.2.2.2.1 x.2.2.2.2.2.1 x.2.2.2.2.2.2.1 x.2.2.2.2.2.2.2}=>ch x.1.1 x.1.2.1 x.1.2.2.1 x.1.2.2.2.1 x.1.2.2.2.2.1 x.1.2.2.2.2.2.1 x.1.2.2.2.2.2.2.1 x.1.2.2.2.2.2.2.2]
 | @aX9 ι0 ι1 ι2 ι3 ι4 ι5 ι6 ι7 ι8 v ch,u=> [jd fun x:{x:ι0×ι1×ι2×ι3×ι4×ι5×ι6×ι7×ι8 // u=v x.1 x.2.1 x.2.2.1 x.2.2.2.1 x.2.2.2.2.1 x.2.2.2.2.2.1 x.2.2.2.2.2.2.1 x.2.2.2.2.2.2.2.1 x.2.2.2.2.2.2.2.2}=>ch x.1.1 x.1.2.1 x.1.2.2.1 x.1.2.2.2.1 x.1.2.2.2.2.1 x.1.2.2.2.2.2.1 x.1.2.2.2.2.2.2.1 x.1.2.2.2.2.2.2.2.1 x.1.2.2.2.2.2.2.2.2]
 | @aX10 ι0 ι1 ι2 ι3 ι4 ι5 ι6 ι7 ι8 ι9 v ch,u=> [jd fun x:{x:ι0×ι1×ι2×ι3×ι4×ι5×ι6×ι7×ι8×ι9 // u=v x.1 x.2.1 x.2.2.1 x.2.2.2.1 x.2.2.2.2.1 x.2.2.2.2.2.1 x.2.2.2.2.2.2.1 x.2.2.2.2.2.2.2.1 x.2.2.2.2.2.2.2.2.1 x.2.2.2.2.2.2.2.2.2}=>ch x.1.1 x.1.2.1 x.1.2.2.1 x.1.2.2.2.1 x.1.2.2.2.2.1 x.1.2.2.2.2.2.1 x.1.2.2.2.2.2.2.1 x.1.2.2.2.2.2.2.2.1 x.1.2.2.2.2.2.2.2.2.1 x.1.2.2.2.2.2.2.2.2.2]
 | @aX11 ι0 ι1 ι2 ι3 ι4 ι5 ι6 ι7 ι8 ι9 ι10 v ch,u=> [jd fun x:{x:ι0×ι1×ι2×ι3×ι4×ι5×ι6×ι7×ι8×ι9×ι10 // u=v x.1 x.2.1 x.2.2.1 x.2.2.2.1 x.2.2.2.2.1 x.2.2.2.2.2.1 x.2.2.2.2.2.2.1 x.2.2.2.2.2.2.2.1 x.2.2.2.2.2.2.2.2.1 x.2.2.2.2.2.2.2.2.2.1 x.2.2.2.2.2.2.2.2.2.2}=>ch x.1.1 x.1.2.1 x.1.2.2.1 x.1.2.2.2.1 x.1.2.2.2.2.1 x.1.2.2.2.2.2.1 x.1.2.2.2.2.2.2.1 x.1.2.2.2.2.2.2.2.1 x.1.2.2.2.2.2.2.2.2.1 x.1.2.2.2.2.2.2.2.2.2.1 x.1.2.2.2.2.2.2.2.2.2.2]
 | @aX12 ι0 ι1 ι2 ι3 ι4 ι5 ι6 ι7 ι8 ι9 ι10 ι11 v ch,u=> [jd fun x:{x:ι0×ι1×ι2×ι3×ι4×ι5×ι6×ι7×ι8×ι9×ι10×ι11 // u=v x.1 x.2.1 x.2.2.1 x.2.2.2.1 x.2.2.2.2.1 x.2.2.2.2.2.1 x.2.2.2.2.2.2.1 x.2.2.2.2.2.2.2.1 x.2.2.2.2.2.2.2.2.1 x.2.2.2.2.2.2.2.2.2.1 x.2.2.2.2.2.2.2.2.2.2.1 x.2.2.2.2.2.2.2.2.2.2.2}=>ch x.1.1 x.1.2.1 x.1.2.2.1 x.1.2.2.2.1 x.1.2.2.2.2.1 x.1.2.2.2.2.2.1 x.1.2.2.2.2.2.2.1 x.1.2.2.2.2.2.2.2.1 x.1.2.2.2.2.2.2.2.2.1 x.1.2.2.2.2.2.2.2.2.2.1 x.1.2.2.2.2.2.2.2.2.2.2.1 x.1.2.2.2.2.2.2.2.2.2.2.2]
 | @aX15 ι0 ι1 ι2 ι3 ι4 ι5 ι6 ι7 ι8 ι9 ι10 ι11 ι12 ι13 ι14 v ch,u=> [jd fun x:{x:ι0×ι1×ι2×ι3×ι4×ι5×ι6×ι7×ι8×ι9×ι10×ι11×ι12×ι13×ι14 // u=v x.1 x.2.1 x.2.2.1 x.2.2.2.1 x.2.2.2.2.1 x.2.2.2.2.2.1 x.2.2.2.2.2.2.1 x.2.2.2.2.2.2.2.1 x.2.2.2.2.2.2.2.2.1 x.2.2.2.2.2.2.2.2.2.1 x.2.2.2.2.2.2.2.2.2.2.1 x.2.2.2.2.2.2.2.2.2.2.2.1 x.2.2.2.2.2.2.2.2.2.2.2.2.1 x.2.2.2.2.2.2.2.2.2.2.2.2.2.1 x.2.2.2.2.2.2.2.2.2.2.2.2.2.2}=>ch x.1.1 x.1.2.1 x.1.2.2.1 x.1.2.2.2.1 x.1.2.2.2.2.1 x.1.2.2.2.2.2.1 x.1.2.2.2.2.2.2.1 x.1.2.2.2.2.2.2.2.1 x.1.2.2.2.2.2.2.2.2.1 x.1.2.2.2.2.2.2.2.2.2.1 x.1.2.2.2.2.2.2.2.2.2.2.1 x.1.2.2.2.2.2.2.2.2.2.2.2.1 x.1.2.2.2.2.2.2.2.2.2.2.2.2.1 x.1.2.2.2.2.2.2.2.2.2.2.2.2.2.1 x.1.2.2.2.2.2.2.2.2.2.2.2.2.2.2]
 | @aX21 ι0 ι1 ι2 ι3 ι4 ι5 ι6 ι7 ι8 ι9 ι10 ι11 ι12 ι13 ι14 ι15 ι16 ι17 ι18 ι19 ι20 v ch,u=> [jd fun x:{x:ι0×ι1×ι2×ι3×ι4×ι5×ι6×ι7×ι8×ι9×ι10×ι11×ι12×ι13×ι14×ι15×ι16×ι17×ι18×ι19×ι20 // u=v x.1 x.2.1 x.2.2.1 x.2.2.2.1 x.2.2.2.2.1 x.2.2.2.2.2.1 x.2.2.2.2.2.2.1 x.2.2.2.2.2.2.2.1 x.2.2.2.2.2.2.2.2.1 x.2.2.2.2.2.2.2.2.2.1 x.2.2.2.2.2.2.2.2.2.2.1 x.2.2.2.2.2.2.2.2.2.2.2.1 x.2.2.2.2.2.2.2.2.2.2.2.2.1 x.2.2.2.2.2.2.2.2.2.2.2.2.2.1 x.2.2.2.2.2.2.2.2.2.2.2.2.2.2.1 x.2.2.2.2.2.2.2.2.2.2.2.2.2.2.2.1 x.2.2.2.2.2.2.2.2.2.2.2.2.2.2.2.2.1 x.2.2.2.2.2.2.2.2.2.2.2.2.2.2.2.2.2.1 x.2.2.2.2.2.2.2.2.2.2.2.2.2.2.2.2.2.2.1 x.2.2.2.2.2.2.2.2.2.2.2.2.2.2.2.2.2.2.2.1 x.2.2.2.2.2.2.2.2.2.2.2.2.2.2.2.2.2.2.2.2}=>ch x.1.1 x.1.2.1 x.1.2.2.1 x.1.2.2.2.1 x.1.2.2.2.2.1 x.1.2.2.2.2.2.1 x.1.2.2.2.2.2.2.1 x.1.2.2.2.2.2.2.2.1 x.1.2.2.2.2.2.2.2.2.1 x.1.2.2.2.2.2.2.2.2.2.1 x.1.2.2.2.2.2.2.2.2.2.2.1 x.1.2.2.2.2.2.2.2.2.2.2.2.1 x.1.2.2.2.2.2.2.2.2.2.2.2.2.1 x.1.2.2.2.2.2.2.2.2.2.2.2.2.2.1 x.1.2.2.2.2.2.2.2.2.2.2.2.2.2.2.1 x.1.2.2.2.2.2.2.2.2.2.2.2.2.2.2.2.1 x.1.2.2.2.2.2.2.2.2.2.2.2.2.2.2.2.2.1 x.1.2.2.2.2.2.2.2.2.2.2.2.2.2.2.2.2.2.1 x.1.2.2.2.2.2.2.2.2.2.2.2.2.2.2.2.2.2.2.1 x.1.2.2.2.2.2.2.2.2.2.2.2.2.2.2.2.2.2.2.2.1 x.1.2.2.2.2.2.2.2.2.2.2.2.2.2.2.2.2.2.2.2.2]
def Op:Asn->(Value->List Chunk->Prop)->Prop
 |aV v,K=>K v []
 |aX1 v ch,K=> ∀x0,K (v x0) (ch x0)
 |aX2 v ch,K=> ∀x0 x1,K (v x0 x1) (ch x0 x1)
 |aX3 v ch,K=> ∀x0 x1 x2,K (v x0 x1 x2) (ch x0 x1 x2)
 |aX4 v ch,K=> ∀x0 x1 x2 x3,K (v x0 x1 x2 x3) (ch x0 x1 x2 x3)
 |aX5 v ch,K=> ∀x0 x1 x2 x3 x4,K (v x0 x1 x2 x3 x4) (ch x0 x1 x2 x3 x4)
 |aX6 v ch,K=> ∀x0 x1 x2 x3 x4 x5,K (v x0 x1 x2 x3 x4 x5) (ch x0 x1 x2 x3 x4 x5)
 |aX7 v ch,K=> ∀x0 x1 x2 x3 x4 x5 x6,K (v x0 x1 x2 x3 x4 x5 x6) (ch x0 x1 x2 x3 x4 x5 x6)
 |aX8 v ch,K=> ∀x0 x1 x2 x3 x4 x5 x6 x7,K (v x0 x1 x2 x3 x4 x5 x6 x7) (ch x0 x1 x2 x3 x4 x5 x6 x7)
 |aX9 v ch,K=> ∀x0 x1 x2 x3 x4 x5 x6 x7 x8,K (v x0 x1 x2 x3 x4 x5 x6 x7 x8) (ch x0 x1 x2 x3 x4 x5 x6 x7 x8)
 |aX10 v ch,K=> ∀x0 x1 x2 x3 x4 x5 x6 x7 x8 x9,K (v x0 x1 x2 x3 x4 x5 x6 x7 x8 x9) (ch x0 x1 x2 x3 x4 x5 x6 x7 x8 x9)
 |aX11 v ch,K=> ∀x0 x1 x2 x3 x4 x5 x6 x7 x8 x9 a1,K (v x0 x1 x2 x3 x4 x5 x6 x7 x8 x9 a1) (ch x0 x1 x2 x3 x4 x5 x6 x7 x8 x9 a1)
 |aX12 v ch,K=> ∀x0 x1 x2 x3 x4 x5 x6 x7 x8 x9 a1 a2,K (v x0 x1 x2 x3 x4 x5 x6 x7 x8 x9 a1 a2) (ch x0 x1 x2 x3 x4 x5 x6 x7 x8 x9 a1 a2)
 |aX15 v ch,K=> ∀x0 x1 x2 x3 x4 x5 x6 x7 x8 x9 a1 a2 a6 a7 a8,K (v x0 x1 x2 x3 x4 x5 x6 x7 x8 x9 a1 a2 a6 a7 a8) (ch x0 x1 x2 x3 x4 x5 x6 x7 x8 x9 a1 a2 a6 a7 a8)
 |aX21 v ch,K=> ∀x0 x1 x2 x3 x4 x5 x6 x7 x8 x9 a1 a2 a6 a7 a8 b0 b1 b2 b3 b4 b5,K (v x0 x1 x2 x3 x4 x5 x6 x7 x8 x9 a1 a2 a6 a7 a8 b0 b1 b2 b3 b4 b5) (ch x0 x1 x2 x3 x4 x5 x6 x7 x8 x9 a1 a2 a6 a7 a8 b0 b1 b2 b3 b4 b5)
theorem hop: ∀(a:Asn) (K:Value->List Chunk->Prop) (u:Value) (L Z:List Chunk) (w:World),Sp Z (a.full u++L) w->a.Op K-> ∃c,K u c/\Sp Z (c++L) w/\ ∀L',Cv (c++L') (a.full u++L')
 |aV v,K,u,L,Z,w,hs,hk=>by
  have h:u=v:=K2 hs 0 rfl;subst h;exact ⟨[],hk,cv_tl _ _ hs,fun L'=>HF J⟩
 | @aX1 ι0 v ch,K,u,L,Z,w,hs,hk=>by
  obtain ⟨⟨x,hx⟩,hs⟩:=lm hs;subst hx;exact ⟨_,hk x,hs,fun L'=>io (Q:=fun y:{y:ι0 // v x=v y}=>ch y.1) ⟨x,J⟩⟩
 | @aX2 ι0 ι1 v ch,K,u,L,Z,w,hs,hk=>by
  obtain ⟨⟨x,hx⟩,hs⟩:=lm hs;subst hx;exact ⟨_,hk x.1 x.2,hs,fun L'=>io (Q:=fun y:{y:ι0×ι1 // v x.1 x.2=v y.1 y.2}=>ch y.1.1 y.1.2) ⟨x,J⟩⟩
 | @aX3 ι0 ι1 ι2 v ch,K,u,L,Z,w,hs,hk=>by
  obtain ⟨⟨x,hx⟩,hs⟩:=lm hs;subst hx;exact ⟨_,hk x.1 x.2.1 x.2.2,hs,fun L'=>io (Q:=fun y:{y:ι0×ι1×ι2 // v x.1 x.2.1 x.2.2=v y.1 y.2.1 y.2.2}=>ch y.1.1 y.1.2.1 y.1.2.2) ⟨x,J⟩⟩
 | @aX4 ι0 ι1 ι2 ι3 v ch,K,u,L,Z,w,hs,hk=>by
  obtain ⟨⟨x,hx⟩,hs⟩:=lm hs;subst hx;exact ⟨_,hk x.1 x.2.1 x.2.2.1 x.2.2.2,hs,fun L'=>io (Q:=fun y:{y:ι0×ι1×ι2×ι3 // v x.1 x.2.1 x.2.2.1 x.2.2.2=v y.1 y.2.1 y.2.2.1 y.2.2.2}=>ch y.1.1 y.1.2.1 y.1.2.2.1 y.1.2.2.2) ⟨x,J⟩⟩
 | @aX5 ι0 ι1 ι2 ι3 ι4 v ch,K,u,L,Z,w,hs,hk=>by
  obtain ⟨⟨x,hx⟩,hs⟩:=lm hs;subst hx;exact ⟨_,hk x.1 x.2.1 x.2.2.1 x.2.2.2.1 x.2.2.2.2,hs,fun L'=>io (Q:=fun y:{y:ι0×ι1×ι2×ι3×ι4 // v x.1 x.2.1 x.2.2.1 x.2.2.2.1 x.2.2.2.2=v y.1 y.2.1 y.2.2.1 y.2.2.2.1 y.2.2.2.2}=>ch y.1.1 y.1.2.1 y.1.2.2.1 y.1.2.2.2.1 y.1.2.2.2.2) ⟨x,J⟩⟩
 | @aX6 ι0 ι1 ι2 ι3 ι4 ι5 v ch,K,u,L,Z,w,hs,hk=>by
  obtain ⟨⟨x,hx⟩,hs⟩:=lm hs;subst hx;exact ⟨_,hk x.1 x.2.1 x.2.2.1 x.2.2.2.1 x.2.2.2.2.1 x.2.2.2.2.2,hs,fun L'=>io (Q:=fun y:{y:ι0×ι1×ι2×ι3×ι4×ι5 // v x.1 x.2.1 x.2.2.1 x.2.2.2.1 x.2.2.2.2.1 x.2.2.2.2.2=v y.1 y.2.1 y.2.2.1 y.2.2.2.1 y.2.2.2.2.1 y.2.2.2.2.2}=>ch y.1.1 y.1.2.1 y.1.2.2.1 y.1.2.2.2.1 y.1.2.2.2.2.1 y.1.2.2.2.2.2) ⟨x,J⟩⟩
 | @aX7 ι0 ι1 ι2 ι3 ι4 ι5 ι6 v ch,K,u,L,Z,w,hs,hk=>by
  obtain ⟨⟨x,hx⟩,hs⟩:=lm hs;subst hx;exact ⟨_,hk x.1 x.2.1 x.2.2.1 x.2.2.2.1 x.2.2.2.2.1 x.2.2.2.2.2.1 x.2.2.2.2.2.2,hs,fun L'=>io (Q:=fun y:{y:ι0×ι1×ι2×ι3×ι4×ι5×ι6 // v x.1 x.2.1 x.2.2.1 x.2.2.2.1 x.2.2.2.2.1 x.2.2.2.2.2.1 x.2.2.2.2.2.2=v y.1 y.2.1 y.2.2.1 y.2.2.2.1 y.2.2.2.2.1 y.2.2.2.2.2.1 y.2.2.2.2.2.2}=>ch y.1.1 y.1.2.1 y.1.2.2.1 y.1.2.2.2.1 y.1.2.2.2.2.1 y.1.2.2.2.2.2.1 y.1.2.2.2.2.2.2) ⟨x,J⟩⟩
 | @aX8 ι0 ι1 ι2 ι3 ι4 ι5 ι6 ι7 v ch,K,u,L,Z,w,hs,hk=>by
  obtain ⟨⟨x,hx⟩,hs⟩:=lm hs;subst hx;exact ⟨_,hk x.1 x.2.1 x.2.2.1 x.2.2.2.1 x.2.2.2.2.1 x.2.2.2.2.2.1 x.2.2.2.2.2.2.1 x.2.2.2.2.2.2.2,hs,fun L'=>io (Q:=fun y:{y:ι0×ι1×ι2×ι3×ι4×ι5×ι6×ι7 // v x.1 x.2.1 x.2.2.1 x.2.2.2.1 x.2.2.2.2.1 x.2.2.2.2.2.1 x.2.2.2.2.2.2.1 x.2.2.2.2.2.2.2=v y.1 y.2.1 y.2.2.1 y.2.2.2.1 y.2.2.2.2.1 y.2.2.2.2.2.1 y.2.2.2.2.2.2.1 y.2.2.2.2.2.2.2}=>ch y.1.1 y.1.2.1 y.1.2.2.1 y.1.2.2.2.1 y.1.2.2.2.2.1 y.1.2.2.2.2.2.1 y.1.2.2.2.2.2.2.1 y.1.2.2.2.2.2.2.2) ⟨x,J⟩⟩
 | @aX9 ι0 ι1 ι2 ι3 ι4 ι5 ι6 ι7 ι8 v ch,K,u,L,Z,w,hs,hk=>by
  obtain ⟨⟨x,hx⟩,hs⟩:=lm hs;subst hx;exact ⟨_,hk x.1 x.2.1 x.2.2.1 x.2.2.2.1 x.2.2.2.2.1 x.2.2.2.2.2.1 x.2.2.2.2.2.2.1 x.2.2.2.2.2.2.2.1 x.2.2.2.2.2.2.2.2,hs,fun L'=>io (Q:=fun y:{y:ι0×ι1×ι2×ι3×ι4×ι5×ι6×ι7×ι8 // v x.1 x.2.1 x.2.2.1 x.2.2.2.1 x.2.2.2.2.1 x.2.2.2.2.2.1 x.2.2.2.2.2.2.1 x.2.2.2.2.2.2.2.1 x.2.2.2.2.2.2.2.2=v y.1 y.2.1 y.2.2.1 y.2.2.2.1 y.2.2.2.2.1 y.2.2.2.2.2.1 y.2.2.2.2.2.2.1 y.2.2.2.2.2.2.2.1 y.2.2.2.2.2.2.2.2}=>ch y.1.1 y.1.2.1 y.1.2.2.1 y.1.2.2.2.1 y.1.2.2.2.2.1 y.1.2.2.2.2.2.1 y.1.2.2.2.2.2.2.1 y.1.2.2.2.2.2.2.2.1 y.1.2.2.2.2.2.2.2.2) ⟨x,J⟩⟩
 | @aX10 ι0 ι1 ι2 ι3 ι4 ι5 ι6 ι7 ι8 ι9 v ch,K,u,L,Z,w,hs,hk=>by
  obtain ⟨⟨x,hx⟩,hs⟩:=lm hs;subst hx;exact ⟨_,hk x.1 x.2.1 x.2.2.1 x.2.2.2.1 x.2.2.2.2.1 x.2.2.2.2.2.1 x.2.2.2.2.2.2.1 x.2.2.2.2.2.2.2.1 x.2.2.2.2.2.2.2.2.1 x.2.2.2.2.2.2.2.2.2,hs,fun L'=>io (Q:=fun y:{y:ι0×ι1×ι2×ι3×ι4×ι5×ι6×ι7×ι8×ι9 // v x.1 x.2.1 x.2.2.1 x.2.2.2.1 x.2.2.2.2.1 x.2.2.2.2.2.1 x.2.2.2.2.2.2.1 x.2.2.2.2.2.2.2.1 x.2.2.2.2.2.2.2.2.1 x.2.2.2.2.2.2.2.2.2=v y.1 y.2.1 y.2.2.1 y.2.2.2.1 y.2.2.2.2.1 y.2.2.2.2.2.1 y.2.2.2.2.2.2.1 y.2.2.2.2.2.2.2.1 y.2.2.2.2.2.2.2.2.1 y.2.2.2.2.2.2.2.2.2}=>ch y.1.1 y.1.2.1 y.1.2.2.1 y.1.2.2.2.1 y.1.2.2.2.2.1 y.1.2.2.2.2.2.1 y.1.2.2.2.2.2.2.1 y.1.2.2.2.2.2.2.2.1 y.1.2.2.2.2.2.2.2.2.1 y.1.2.2.2.2.2.2.2.2.2) ⟨x,J⟩⟩
 | @aX11 ι0 ι1 ι2 ι3 ι4 ι5 ι6 ι7 ι8 ι9 ι10 v ch,K,u,L,Z,w,hs,hk=>by
  obtain ⟨⟨x,hx⟩,hs⟩:=lm hs;subst hx;exact ⟨_,hk x.1 x.2.1 x.2.2.1 x.2.2.2.1 x.2.2.2.2.1 x.2.2.2.2.2.1 x.2.2.2.2.2.2.1 x.2.2.2.2.2.2.2.1 x.2.2.2.2.2.2.2.2.1 x.2.2.2.2.2.2.2.2.2.1 x.2.2.2.2.2.2.2.2.2.2,hs,fun L'=>io (Q:=fun y:{y:ι0×ι1×ι2×ι3×ι4×ι5×ι6×ι7×ι8×ι9×ι10 // v x.1 x.2.1 x.2.2.1 x.2.2.2.1 x.2.2.2.2.1 x.2.2.2.2.2.1 x.2.2.2.2.2.2.1 x.2.2.2.2.2.2.2.1 x.2.2.2.2.2.2.2.2.1 x.2.2.2.2.2.2.2.2.2.1 x.2.2.2.2.2.2.2.2.2.2=v y.1 y.2.1 y.2.2.1 y.2.2.2.1 y.2.2.2.2.1 y.2.2.2.2.2.1 y.2.2.2.2.2.2.1 y.2.2.2.2.2.2.2.1 y.2.2.2.2.2.2.2.2.1 y.2.2.2.2.2.2.2.2.2.1 y.2.2.2.2.2.2.2.2.2.2}=>ch y.1.1 y.1.2.1 y.1.2.2.1 y.1.2.2.2.1 y.1.2.2.2.2.1 y.1.2.2.2.2.2.1 y.1.2.2.2.2.2.2.1 y.1.2.2.2.2.2.2.2.1 y.1.2.2.2.2.2.2.2.2.1 y.1.2.2.2.2.2.2.2.2.2.1 y.1.2.2.2.2.2.2.2.2.2.2) ⟨x,J⟩⟩
 | @aX12 ι0 ι1 ι2 ι3 ι4 ι5 ι6 ι7 ι8 ι9 ι10 ι11 v ch,K,u,L,Z,w,hs,hk=>by
  obtain ⟨⟨x,hx⟩,hs⟩:=lm hs;subst hx;exact ⟨_,hk x.1 x.2.1 x.2.2.1 x.2.2.2.1 x.2.2.2.2.1 x.2.2.2.2.2.1 x.2.2.2.2.2.2.1 x.2.2.2.2.2.2.2.1 x.2.2.2.2.2.2.2.2.1 x.2.2.2.2.2.2.2.2.2.1 x.2.2.2.2.2.2.2.2.2.2.1 x.2.2.2.2.2.2.2.2.2.2.2,hs,fun L'=>io (Q:=fun y:{y:ι0×ι1×ι2×ι3×ι4×ι5×ι6×ι7×ι8×ι9×ι10×ι11 // v x.1 x.2.1 x.2.2.1 x.2.2.2.1 x.2.2.2.2.1 x.2.2.2.2.2.1 x.2.2.2.2.2.2.1 x.2.2.2.2.2.2.2.1 x.2.2.2.2.2.2.2.2.1 x.2.2.2.2.2.2.2.2.2.1 x.2.2.2.2.2.2.2.2.2.2.1 x.2.2.2.2.2.2.2.2.2.2.2=v y.1 y.2.1 y.2.2.1 y.2.2.2.1 y.2.2.2.2.1 y.2.2.2.2.2.1 y.2.2.2.2.2.2.1 y.2.2.2.2.2.2.2.1 y.2.2.2.2.2.2.2.2.1 y.2.2.2.2.2.2.2.2.2.1 y.2.2.2.2.2.2.2.2.2.2.1 y.2.2.2.2.2.2.2.2.2.2.2}=>ch y.1.1 y.1.2.1 y.1.2.2.1 y.1.2.2.2.1 y.1.2.2.2.2.1 y.1.2.2.2.2.2.1 y.1.2.2.2.2.2.2.1 y.1.2.2.2.2.2.2.2.1 y.1.2.2.2.2.2.2.2.2.1 y.1.2.2.2.2.2.2.2.2.2.1 y.1.2.2.2.2.2.2.2.2.2.2.1 y.1.2.2.2.2.2.2.2.2.2.2.2) ⟨x,J⟩⟩
 | @aX15 ι0 ι1 ι2 ι3 ι4 ι5 ι6 ι7 ι8 ι9 ι10 ι11 ι12 ι13 ι14 v ch,K,u,L,Z,w,hs,hk=>by
  obtain ⟨⟨x,hx⟩,hs⟩:=lm hs;subst hx;exact ⟨_,hk x.1 x.2.1 x.2.2.1 x.2.2.2.1 x.2.2.2.2.1 x.2.2.2.2.2.1 x.2.2.2.2.2.2.1 x.2.2.2.2.2.2.2.1 x.2.2.2.2.2.2.2.2.1 x.2.2.2.2.2.2.2.2.2.1 x.2.2.2.2.2.2.2.2.2.2.1 x.2.2.2.2.2.2.2.2.2.2.2.1 x.2.2.2.2.2.2.2.2.2.2.2.2.1 x.2.2.2.2.2.2.2.2.2.2.2.2.2.1 x.2.2.2.2.2.2.2.2.2.2.2.2.2.2,hs,fun L'=>io (Q:=fun y:{y:ι0×ι1×ι2×ι3×ι4×ι5×ι6×ι7×ι8×ι9×ι10×ι11×ι12×ι13×ι14 // v x.1 x.2.1 x.2.2.1 x.2.2.2.1 x.2.2.2.2.1 x.2.2.2.2.2.1 x.2.2.2.2.2.2.1 x.2.2.2.2.2.2.2.1 x.2.2.2.2.2.2.2.2.1 x.2.2.2.2.2.2.2.2.2.1 x.2.2.2.2.2.2.2.2.2.2.1 x.2.2.2.2.2.2.2.2.2.2.2.1 x.2.2.2.2.2.2.2.2.2.2.2.2.1 x.2.2.2.2.2.2.2.2.2.2.2.2.2.1 x.2.2.2.2.2.2.2.2.2.2.2.2.2.2=v y.1 y.2.1 y.2.2.1 y.2.2.2.1 y.2.2.2.2.1 y.2.2.2.2.2.1 y.2.2.2.2.2.2.1 y.2.2.2.2.2.2.2.1 y.2.2.2.2.2.2.2.2.1 y.2.2.2.2.2.2.2.2.2.1 y.2.2.2.2.2.2.2.2.2.2.1 y.2.2.2.2.2.2.2.2.2.2.2.1 y.2.2.2.2.2.2.2.2.2.2.2.2.1 y.2.2.2.2.2.2.2.2.2.2.2.2.2.1 y.2.2.2.2.2.2.2.2.2.2.2.2.2.2}=>ch y.1.1 y.1.2.1 y.1.2.2.1 y.1.2.2.2.1 y.1.2.2.2.2.1 y.1.2.2.2.2.2.1 y.1.2.2.2.2.2.2.1 y.1.2.2.2.2.2.2.2.1 y.1.2.2.2.2.2.2.2.2.1 y.1.2.2.2.2.2.2.2.2.2.1 y.1.2.2.2.2.2.2.2.2.2.2.1 y.1.2.2.2.2.2.2.2.2.2.2.2.1 y.1.2.2.2.2.2.2.2.2.2.2.2.2.1 y.1.2.2.2.2.2.2.2.2.2.2.2.2.2.1 y.1.2.2.2.2.2.2.2.2.2.2.2.2.2.2) ⟨x,J⟩⟩
 | @aX21 ι0 ι1 ι2 ι3 ι4 ι5 ι6 ι7 ι8 ι9 ι10 ι11 ι12 ι13 ι14 ι15 ι16 ι17 ι18 ι19 ι20 v ch,K,u,L,Z,w,hs,hk=>by
  obtain ⟨⟨x,hx⟩,hs⟩:=lm hs;subst hx
  exact ⟨_,hk x.1 x.2.1 x.2.2.1 x.2.2.2.1 x.2.2.2.2.1 x.2.2.2.2.2.1 x.2.2.2.2.2.2.1 x.2.2.2.2.2.2.2.1 x.2.2.2.2.2.2.2.2.1 x.2.2.2.2.2.2.2.2.2.1 x.2.2.2.2.2.2.2.2.2.2.1 x.2.2.2.2.2.2.2.2.2.2.2.1 x.2.2.2.2.2.2.2.2.2.2.2.2.1 x.2.2.2.2.2.2.2.2.2.2.2.2.2.1 x.2.2.2.2.2.2.2.2.2.2.2.2.2.2.1 x.2.2.2.2.2.2.2.2.2.2.2.2.2.2.2.1 x.2.2.2.2.2.2.2.2.2.2.2.2.2.2.2.2.1 x.2.2.2.2.2.2.2.2.2.2.2.2.2.2.2.2.2.1 x.2.2.2.2.2.2.2.2.2.2.2.2.2.2.2.2.2.2.1 x.2.2.2.2.2.2.2.2.2.2.2.2.2.2.2.2.2.2.2.1 x.2.2.2.2.2.2.2.2.2.2.2.2.2.2.2.2.2.2.2.2,hs,fun L'=>io (Q:=fun y:{y:ι0×ι1×ι2×ι3×ι4×ι5×ι6×ι7×ι8×ι9×ι10×ι11×ι12×ι13×ι14×ι15×ι16×ι17×ι18×ι19×ι20 // v x.1 x.2.1 x.2.2.1 x.2.2.2.1 x.2.2.2.2.1 x.2.2.2.2.2.1 x.2.2.2.2.2.2.1 x.2.2.2.2.2.2.2.1 x.2.2.2.2.2.2.2.2.1 x.2.2.2.2.2.2.2.2.2.1 x.2.2.2.2.2.2.2.2.2.2.1 x.2.2.2.2.2.2.2.2.2.2.2.1 x.2.2.2.2.2.2.2.2.2.2.2.2.1 x.2.2.2.2.2.2.2.2.2.2.2.2.2.1 x.2.2.2.2.2.2.2.2.2.2.2.2.2.2.1 x.2.2.2.2.2.2.2.2.2.2.2.2.2.2.2.1 x.2.2.2.2.2.2.2.2.2.2.2.2.2.2.2.2.1 x.2.2.2.2.2.2.2.2.2.2.2.2.2.2.2.2.2.1 x.2.2.2.2.2.2.2.2.2.2.2.2.2.2.2.2.2.2.1 x.2.2.2.2.2.2.2.2.2.2.2.2.2.2.2.2.2.2.2.1 x.2.2.2.2.2.2.2.2.2.2.2.2.2.2.2.2.2.2.2.2=v y.1 y.2.1 y.2.2.1 y.2.2.2.1 y.2.2.2.2.1 y.2.2.2.2.2.1 y.2.2.2.2.2.2.1 y.2.2.2.2.2.2.2.1 y.2.2.2.2.2.2.2.2.1 y.2.2.2.2.2.2.2.2.2.1 y.2.2.2.2.2.2.2.2.2.2.1 y.2.2.2.2.2.2.2.2.2.2.2.1 y.2.2.2.2.2.2.2.2.2.2.2.2.1 y.2.2.2.2.2.2.2.2.2.2.2.2.2.1 y.2.2.2.2.2.2.2.2.2.2.2.2.2.2.1 y.2.2.2.2.2.2.2.2.2.2.2.2.2.2.2.1 y.2.2.2.2.2.2.2.2.2.2.2.2.2.2.2.2.1 y.2.2.2.2.2.2.2.2.2.2.2.2.2.2.2.2.2.1 y.2.2.2.2.2.2.2.2.2.2.2.2.2.2.2.2.2.2.1 y.2.2.2.2.2.2.2.2.2.2.2.2.2.2.2.2.2.2.2.1 y.2.2.2.2.2.2.2.2.2.2.2.2.2.2.2.2.2.2.2.2}=>ch y.1.1 y.1.2.1 y.1.2.2.1 y.1.2.2.2.1 y.1.2.2.2.2.1 y.1.2.2.2.2.2.1 y.1.2.2.2.2.2.2.1 y.1.2.2.2.2.2.2.2.1 y.1.2.2.2.2.2.2.2.2.1 y.1.2.2.2.2.2.2.2.2.2.1 y.1.2.2.2.2.2.2.2.2.2.2.1 y.1.2.2.2.2.2.2.2.2.2.2.2.1 y.1.2.2.2.2.2.2.2.2.2.2.2.2.1 y.1.2.2.2.2.2.2.2.2.2.2.2.2.2.1 y.1.2.2.2.2.2.2.2.2.2.2.2.2.2.2.1 y.1.2.2.2.2.2.2.2.2.2.2.2.2.2.2.2.1 y.1.2.2.2.2.2.2.2.2.2.2.2.2.2.2.2.2.1 y.1.2.2.2.2.2.2.2.2.2.2.2.2.2.2.2.2.2.1 y.1.2.2.2.2.2.2.2.2.2.2.2.2.2.2.2.2.2.2.1 y.1.2.2.2.2.2.2.2.2.2.2.2.2.2.2.2.2.2.2.2.1 y.1.2.2.2.2.2.2.2.2.2.2.2.2.2.2.2.2.2.2.2.2) ⟨x,J⟩⟩
end Asn
open Asn
theorem aQ {u v:Value}{L L0:List Chunk}(hp:u=v)(h:Cv L L0):Cv L ((Asn.aV v).full u++L0):=h.trans (HF hp)
theorem OH {ι0:Type}{v:ι0->Value}{ch:ι0->List Chunk}{L L0:List Chunk}(x0:ι0)(h:Cv L (ch x0++L0)):Cv L ((Asn.aX1 v ch).full (v x0)++L0):=h.trans (io (Q:=fun y:{y:ι0 // v x0=v y}=>ch y.1) ⟨x0,rfl⟩)
theorem AE {ι0 ι1 ι2:Type}{v:ι0->ι1->ι2->Value}{ch:ι0->ι1->ι2->List Chunk}{L L0:List Chunk}(x0:ι0)(x1:ι1)(x2:ι2)(h:Cv L (ch x0 x1 x2++L0)):Cv L ((Asn.aX3 v ch).full (v x0 x1 x2)++L0):=h.trans (io (Q:=fun y:{y:ι0×ι1×ι2 // v x0 x1 x2=v y.1 y.2.1 y.2.2}=>ch y.1.1 y.1.2.1 y.1.2.2) ⟨(x0,x1,x2),rfl⟩)
theorem OG {ι0 ι1 ι2 ι3 ι4 ι5:Type}{v:ι0->ι1->ι2->ι3->ι4->ι5->Value}{ch:ι0->ι1->ι2->ι3->ι4->ι5->List Chunk}{L L0:List Chunk}(x0:ι0)(x1:ι1)(x2:ι2)(x3:ι3)(x4:ι4)(x5:ι5)(h:Cv L (ch x0 x1 x2 x3 x4 x5++L0)):Cv L ((Asn.aX6 v ch).full (v x0 x1 x2 x3 x4 x5)++L0):=h.trans (io (Q:=fun y:{y:ι0×ι1×ι2×ι3×ι4×ι5 // v x0 x1 x2 x3 x4 x5=v y.1 y.2.1 y.2.2.1 y.2.2.2.1 y.2.2.2.2.1 y.2.2.2.2.2}=>ch y.1.1 y.1.2.1 y.1.2.2.1 y.1.2.2.2.1 y.1.2.2.2.2.1 y.1.2.2.2.2.2) ⟨(x0,x1,x2,x3,x4,x5),rfl⟩)
def FD (ds:List Nat)(As:List Asn):List Nat->(bC->List Chunk->List Chunk->Prop)->bC->List Chunk->List Chunk->Prop
 | [],K,s,L,L2=>K s L L2
 |i::r,K,s,L,L2=>(As.getD i (aV undef)).Op fun u c=>FD ds As r (fun s' L' L2'=>K ((ds.getD i 0,u)::s') (c++L') (c++L2')) s L L2
abbrev Ly (ds:List Nat)(As:List Asn)(ix:List Nat)(K:bC->List Chunk->Prop)(s:bC)(L:List Chunk):Prop:=FD ds As ix (fun s L _=>K s L) s L L
def r9 (As:List Asn):List (Value->List Chunk):=As.map Asn.full
theorem zA (As:List Asn)(i:Nat)(h:i<As.length):(r9 As).getD i (fun _=> [])=(As.getD i (aV undef)).full:=by
 simp [r9,h]
section
variable {As:List Asn} {val:Nat->Value} {ds:List Nat}
theorem FW {i:Nat}{r:List Nat}{L:List Chunk}(hi:i<As.length):Am (r9 As) val (i::r) L=(As.getD i (aV undef)).full (val i)++Am (r9 As) val r L:=by
 unfold Am;rw [List.flatMap_cons,zA _ _ hi,RP]
theorem tV {s:bC}{L L2:List Chunk}{w:World}: ∀(ix:List Nat) (K:bC->List Chunk->List Chunk->Prop) (Z:List Chunk),(∀i∈ix,i<As.length)->Sp Z (Am (r9 As) val ix L) w->FD ds As ix K s L L2-> ∃C,K (CX ds val ix s) (C++L) (C++L2)/\Sp Z (C++L) w/\ ∀L',Cv (C++L') (Am (r9 As) val ix L')
 | [],K,Z,_,hw,h=>⟨[],h,hw,fun L'=>ae _⟩
 | i::r,K,Z,hi,hw,h=>by
  have hil:=hi i (by simp);rw [FW hil] at hw;obtain ⟨c,h1,h2,h3⟩:=(As.getD i (aV undef)).hop _ _ _ _ _ hw h
  have h4:Sp (c++Z) (Am (r9 As) val r L) w:=SepL.perm h2 (by
   show ((c++Am (r9 As) val r L)++Z).Perm (Am (r9 As) val r L++(c++Z));rw [RP]
   exact (List.perm_append_comm_assoc _ _ _))
  obtain ⟨C,g1,g2,g3⟩:=tV r _ (c++Z) (fun j hj=>hi j (by simp [hj])) h4 h1;refine ⟨c++C,?_,?_,fun L'=> ?_⟩
  ·rw [RP,RP];exact g1
  ·rw [RP];refine SepL.perm g2 ?_;show ((C++L)++(c++Z)).Perm ((c++(C++L))++Z);rw [RP c (C++L) Z];exact List.perm_append_comm_assoc _ _ _
  rw [RP,FW hil];exact (ru c (g3 L')).trans (h3 _)
variable {P:Program} {ops:Array Oper} {s:bC} {o:Oper} {A:Value->List Chunk} {L L2:List Chunk}
theorem I8 {ix:List Nat}(hi: ∀i∈ix,i<As.length)(h:FD ds As ix (fun s' L' L''=>NT P ops s' L' L'' o A) s L L2):NT P ops (CX ds val ix s) (Am (r9 As) val ix L) (Am (r9 As) val ix L2) o A:=fun Z w hw=>by
 obtain ⟨C,h1,h2,h3⟩:=tV ix _ Z hi hw h;rcases h1 Z w h2 with ⟨h1,h2⟩|⟨h1,h2⟩
 ·refine .inl ⟨h1,fun ρ hρ=> ?_⟩;rcases h2 ρ hρ with ⟨v,w',L',h1,h2,h4⟩|⟨w',L',h1,h2,h4⟩|⟨f,args,h1,h2⟩|⟨l,f,t,a,b,h1,h2⟩
  ·exact .inl ⟨v,w',L',h1,h2,h4.trans (ru _ (h3 _))⟩
  ·exact .inr (.inl ⟨w',L',h1,h2,h4.trans (ru _ (h3 _))⟩)
  ·exact .inr (.inr (.inl ⟨f,args,h1,h2.mono fun e w' ⟨v,L',g1,g2,g3⟩=>⟨v,L',g1,g2,g3.trans (ru _ (h3 _))⟩⟩))
  exact .inr (.inr (.inr ⟨l,f,t,a,b,h1,h2.mono fun e w' ⟨v,L',g1,g2,g3⟩=>⟨v,L',g1,g2,g3.trans (ru _ (h3 _))⟩⟩))
 exact .inr ⟨h1,ru _ (h3 _) _ _ h2⟩
theorem Ji {ix:List Nat}(hi: ∀i∈ix,i<As.length)(h:Ly ds As ix (fun s' L'=>PE P ops s' L' L' o A) s L):QS P ops (CX ds val ix s) (Am (r9 As) val ix L) o A:=fun Z w hw=>by
 obtain ⟨C,h1,h2,h3⟩:=tV ix _ Z hi hw h;obtain ⟨v,g1,g2,g3⟩:=h1 Z w h2;exact ⟨v,g1,g2,ru _ (h3 _) _ _ g3⟩
theorem ND {X:Cx}{K:K3}{fuel:Nat}{listed:Array Bool}{ix:List Nat}(hi: ∀i∈ix,i<As.length)(h:Ly ds As ix (fun s' L'=>F4 X ops K fuel listed s' L') s L):F4 X ops K fuel listed (CX ds val ix s) (Am (r9 As) val ix L):=fun H Ds a w ha hds hw=>by
 obtain ⟨C,h1,h2,h3⟩:=tV ix _ _ hi hw h;exact h1 H Ds a w ha hds h2
end
theorem mw {s t:bC}(h:yV s t:=by first|exact cD|(repeat (first|exact K1|refine ny rfl ?_))):yV s t:=h
end
section
variable {A0:Option Addr} {M1:Nat}
open Go.RowKit
class Fc (p:Prop):Prop where out:p
class FcA (P:Program) (t f:Nat) (o':outParam Nat):Prop where
  out: ∀b o w,(Instr.fieldAt t (.pointer (some ⟨b,o,none⟩)) f).run P w=.ok (.pointer (some ⟨b,o+o',none⟩)) w
class FcA0 (P:Program) (t f:Nat):Prop where
  out: ∀b o w,(Instr.fieldAt t (.pointer (some ⟨b,o,none⟩)) f).run P w=.ok (.pointer (some ⟨b,o,none⟩)) w
class FcS (P:Program) (t:Nat) (e:outParam Nat):Prop where
  out:P.underlying t=some (.slice e)
class FcG (P:Program) (t:Nat) (m:outParam Nat):Prop where
  out:CZ P t m=true
class FcZ (P:Program) (e:Nat) (sz:outParam Nat):Prop where
  out:kX P e sz=true
def Iw:IntKind->IntKind->Bool
  | .i64,.i64=>true
  | .u64,.u64=>true
  | .u8,.u8=>true
  | .i32,.i32=>true
  | .u32,.u32=>true
  | .u16,.u16=>true
  | .i16,.i16=>true
  | .i8,.i8=>true
  |_,_=>false
theorem zy {a b:IntKind}(h:Iw a b=true):a=b:=by
  cases a<;>cases b<;>first|rfl|cases h
def OR (s:bC):Op->Option Value
  | .move x=>bx s x
  | .assign x=>bx s x
  | .unOp .not _ x=>match bx s x with|some (.bool b)=>some (.bool (!b))|_=>none
  | .binOp .eql _ x y _=>match bx s x,bx s y with|some (.int k a),some (.int k' b)=>bif Iw k k' then some (.bool (decide (a=b))) else none|_,_=>none
  | .binOp .neq _ x y _=>match bx s x,bx s y with|some (.int k a),some (.int k' b)=>bif Iw k k' then some (.bool (!decide (a=b))) else none|_,_=>none
  | .binOp .lss _ x y _=>match bx s x,bx s y with|some (.int k a),some (.int k' b)=>bif Iw k k' then some (.bool (decide (a<b))) else none|_,_=>none
  | .binOp .leq _ x y _=>match bx s x,bx s y with|some (.int k a),some (.int k' b)=>bif Iw k k' then some (.bool (decide (a<=b))) else none|_,_=>none
  | .binOp .gtr _ x y _=>match bx s x,bx s y with|some (.int k a),some (.int k' b)=>bif Iw k k' then some (.bool (decide (b<a))) else none|_,_=>none
  | .binOp .geq _ x y _=>match bx s x,bx s y with|some (.int k a),some (.int k' b)=>bif Iw k k' then some (.bool (decide (b<=a))) else none|_,_=>none
  | .pick c x y=>match bx s c with|some (.bool true)=>bx s x|some (.bool false)=>bx s y|_=>none
  | .extract x i=>match bx s x with|some (.tuple vs)=>vs[i]? |_=>none
  | .nilCheck x=>match bx s x with|some (.pointer (some a))=>some (.pointer (some a))|_=>none
  |_=>none
section
variable {P:Program} {s:bC} {L:List Chunk} {d:Option Nat} {ty:TypeId} {pos:String} {af:Array Edge} {gd:Option (Nat×Bool)} {op:Op} {v:Value}
theorem Km (h:OR s op=some v):Ev P s (fun _=>True) ⟨d,op,ty,pos,af,gd⟩ v:=by
  unfold OR at h;split at h
  ·exact bo h
  ·exact DC h
  · split at h
    ·cases h;exact GN ‹_›
    ·cases h
  · split at h
    · rename_i k a k' b hx hy
      cases hk:Iw k k' with
      |false=>rw [hk] at h;cases h
      |true=>rw [hk] at h;cases zy hk;cases h;exact Kj hx hy
    ·cases h
  · split at h
    · rename_i k a k' b hx hy
      cases hk:Iw k k' with
      |false=>rw [hk] at h;cases h
      |true=>rw [hk] at h;cases zy hk;cases h;exact OA hx hy
    ·cases h
  · split at h
    · rename_i k a k' b hx hy
      cases hk:Iw k k' with
      |false=>rw [hk] at h;cases h
      |true=>rw [hk] at h;cases zy hk;cases h;exact OB hx hy
    ·cases h
  · split at h
    · rename_i k a k' b hx hy
      cases hk:Iw k k' with
      |false=>rw [hk] at h;cases h
      |true=>rw [hk] at h;cases zy hk;cases h;exact OC hx hy
    ·cases h
  · split at h
    · rename_i k a k' b hx hy
      cases hk:Iw k k' with
      |false=>rw [hk] at h;cases h
      |true=>rw [hk] at h;cases zy hk;cases h;exact OD hx hy
    ·cases h
  · split at h
    · rename_i k a k' b hx hy
      cases hk:Iw k k' with
      |false=>rw [hk] at h;cases h
      |true=>rw [hk] at h;cases zy hk;cases h;exact MM hx hy
    ·cases h
  · split at h
    ·exact DA ‹_› h
    ·exact DB ‹_› h
    ·cases h
  · split at h
    ·exact Cn ‹_› h
    ·cases h
  · split at h
    ·cases h;exact bz ‹_›
    ·cases h
  ·cases h
end
structure RunT (X:Cx) (ops:Array Oper) (o:Oper) (rest:List Oper) (K:K3) (s:bC) (L:List Chunk):Prop where
  out:be ops s o=some true->bO X ops (o::rest) K s L
section
variable {X:Cx} {ops:Array Oper} {K:K3} {s:bC} {L:List Chunk} {l rest:List Oper} {c:Code} {d:Nat} {op:Op} {ty:TypeId} {pos:String} {af:Array Edge} {gd:Option (Nat×Bool)} {v:Value}
theorem O6 {o:Oper}(h:RunT X ops o rest K s L)(hg:be ops s o=some true:=by first|exact rfl|exact cY (by assumption) rfl|exact jK (by assumption) rfl):bO X ops (o::rest) K s L:=h.out hg
theorem O7 (k:bO X ops rest K ((d,undef)::s) L)(hg:be ops s ⟨some d,op,ty,pos,af,gd⟩=some false:=by first|exact rfl|exact Ps (by assumption) rfl|exact wM (by assumption) rfl)(hd:Nat.ble (d+1) X.n=true:=by exact rfl):bO X ops (⟨some d,op,ty,pos,af,gd⟩::rest) K s L:=PH hg hd k
theorem tE (h:OR s op=some v)(hn:gq ⟨some d,op,ty,pos,af,gd⟩=true)(hd:Nat.ble (d+1) X.n=true)(k:bO X ops rest K ((d,v)::s) L):RunT X ops ⟨some d,op,ty,pos,af,gd⟩ rest K s L:=⟨fun hg=>pP (Km h) hn hg hd k⟩
theorem tP {c x y:Operand}{g:Bool}(hc:bx s c=some (.bool g))(hg:g=true)(hx:bx s x=some v)(hd:Nat.ble (d+1) X.n=true)(k:bO X ops rest K ((d,v)::s) L):RunT X ops ⟨some d,.pick c x y,ty,pos,af,gd⟩ rest K s L:=⟨fun hh=>pP (rm hg hc hx) rfl hh hd k⟩
theorem tQ {c x y:Operand}{g:Bool}(hc:bx s c=some (.bool g))(hg:g=false)(hy:bx s y=some v)(hd:Nat.ble (d+1) X.n=true)(k:bO X ops rest K ((d,v)::s) L):RunT X ops ⟨some d,.pick c x y,ty,pos,af,gd⟩ rest K s L:=⟨fun hh=>pP (rn hg hc hy) rfl hh hd k⟩
theorem PO {t f:Nat}{x:Operand}{b o:Nat}[h:FcA0 X.P t f](hx:bx s x=some (.pointer (some ⟨b,o,none⟩)))(hd:Nat.ble (d+1) X.n=true)(k:bO X ops rest K ((d,.pointer (some ⟨b,o,none⟩))::s) L):RunT X ops ⟨some d,.fieldAddr t x f,ty,pos,af,gd⟩ rest K s L:=⟨fun hh=>pP (ml hx h.out) rfl hh hd k⟩
theorem tF {t f o':Nat}{x:Operand}{b o:Nat}[h:FcA X.P t f o'](hx:bx s x=some (.pointer (some ⟨b,o,none⟩)))(hd:Nat.ble (d+1) X.n=true)(k:bO X ops rest K ((d,.pointer (some ⟨b,o+o',none⟩))::s) L):RunT X ops ⟨some d,.fieldAddr t x f,ty,pos,af,gd⟩ rest K s L:=⟨fun hh=>pP (gk hx h.out) rfl hh hd k⟩
theorem tB {t bt:TypeId}{x:Operand}{b o:Nat}{cs:List Value}[hu:Fc (fU X.P t=true)](i:Nat)(hi:L[i]? =some (ac b bt cs))(hx:bx s x=some (.pointer (some ⟨b,o,none⟩)))(hc:cs[o]? =some v)(hd:Nat.ble (d+1) X.n=true)(k:bO X ops rest K ((d,v)::s) L):RunT X ops ⟨some d,.load t x,ty,pos,af,gd⟩ rest K s L:=⟨fun hh=>tg (bL i hi hx hu.out hc) rfl hh hd k⟩
theorem N0 (h:bO X ops l K s L):bO X ops l K s L:=h
theorem Pm {s2:bC}{L2:List Chunk}(h:bO X ops l (Ap s2 L2) s L):bO X ops l (Ap s2 L2) s L:=h
theorem Po {o:Oper}{l':List Oper}(hl:l'=o::l)(h:bO X ops (o::l) K s L):bO X ops l' K s L:=hl▸h
theorem Pk {l':List Oper}(hl:l'=[])(h:K .normal s L):bO X ops l' K s L:=hl▸KR h
theorem Pn {id:Nat}{g:Operand}{ps:Array Nat}{x y:Code}(h:Wq X (.block id (.rangeFunc g ps x y)) K s L):Wq X (.block id (.rangeFunc g ps x y)) K s L:=h
theorem Pi (h:Wq X c K s L):Wq X c K s L:=h
end
structure Bxd (q:Prop):Prop where un:q
theorem W {p q:Prop}(k:q)(h:Bxd q->p:=by
  intro k
  repeat (first
    | (with_reducible refine N0 ?_
       refine Po J ?_
       first
         | (refine O6 ?_
            first
              |refine tE rfl rfl rfl ?_
              |refine PO rfl rfl ?_
              |refine tF rfl rfl ?_
              |refine tB 0 rfl rfl rfl rfl ?_
              |refine tB 1 rfl rfl rfl rfl ?_
              |refine tB 2 rfl rfl rfl rfl ?_
              |refine tB 3 rfl rfl rfl rfl ?_
              |refine tB 4 rfl rfl rfl rfl ?_
              |refine tB 5 rfl rfl rfl rfl ?_
              |refine tB 6 rfl rfl rfl rfl ?_
              |refine tB 7 rfl rfl rfl rfl ?_
              |refine tP rfl (by assumption) rfl rfl ?_
              |refine tQ rfl (by assumption) rfl rfl ?_)
         |refine O7 ?_)
    | (with_reducible refine N0 ?_
       fail_if_success with_reducible refine Pm ?_
       refine Pk J ?_)
    | (with_reducible refine Pi ?_
       first
         |refine aL (rH ?_)
         |with_reducible refine rH ?_
         |with_reducible refine G3 ?_
         | (fail_if_success with_reducible refine Pn ?_
            with_reducible refine uc ?_)
         |with_reducible refine KQ ?_
         |with_reducible refine G4 ?_)
    |with_reducible refine Ig ?_
    |with_reducible refine Mw ?_
    |with_reducible refine NJ ?_
    |with_reducible refine NI ?_
    |with_reducible refine Np ?_
    |with_reducible refine Nq ?_)
  exact k.un):p:=h ⟨k⟩
theorem Qo {p q:Prop}(k:q)(h:Bxd q->p:=by
  intro k
  repeat (first
    | (with_reducible refine N0 ?_
       refine Po J ?_
       first
         | (refine O6 ?_
            first
              |refine tE rfl rfl rfl ?_
              |refine PO rfl rfl ?_
              |refine tF rfl rfl ?_
              |refine tB 0 rfl rfl rfl rfl ?_
              |refine tB 1 rfl rfl rfl rfl ?_
              |refine tB 2 rfl rfl rfl rfl ?_
              |refine tB 3 rfl rfl rfl rfl ?_
              |refine tB 4 rfl rfl rfl rfl ?_
              |refine tB 5 rfl rfl rfl rfl ?_
              |refine tB 6 rfl rfl rfl rfl ?_
              |refine tB 7 rfl rfl rfl rfl ?_
              |refine tP rfl (by assumption) rfl rfl ?_
              |refine tQ rfl (by assumption) rfl rfl ?_)
         |refine O7 ?_))
  exact k.un):p:=h ⟨k⟩
theorem Qn {p q:Prop}(k:q)(h:Bxd q->p:=by
  intro k
  repeat (first
    | (with_reducible refine N0 ?_
       fail_if_success with_reducible refine Pm ?_
       refine Pk J ?_)
    | (with_reducible refine Pi ?_
       first
         |refine aL (rH ?_)
         |with_reducible refine rH ?_
         |with_reducible refine G3 ?_
         | (fail_if_success with_reducible refine Pn ?_
            with_reducible refine uc ?_)
         |with_reducible refine KQ ?_
         |with_reducible refine G4 ?_)
    |with_reducible refine Ig ?_
    |with_reducible refine Mw ?_
    |with_reducible refine NJ ?_
    |with_reducible refine NI ?_
    |with_reducible refine Np ?_
    |with_reducible refine Nq ?_)
  exact k.un):p:=h ⟨k⟩
end
section
variable {A0:Option Addr} {M1:Nat}
open Go.RowKit
open Asn
def Ha (m:Nat)(listed:Array Bool)(Bs:List (List Chunk)):List Chunk:=((List.range m).filter fun i=> !listed.getD i false).flatMap fun i=>Bs.getD i []
theorem G9 {m:Nat}{listed:Array Bool}{Bs:List (List Chunk)}(h: ∀i,i<m->listed.getD i false=true):Ha m listed Bs=[]:=by
 unfold Ha;rw [List.filter_eq_nil_iff.2 fun i hi=>by rw [h i (List.mem_range.1 hi)];simp];rfl
theorem IZ {m j:Nat}{listed:Array Bool}{Bs:List (List Chunk)}(hj:j<m)(hf:listed.getD j false=false)(hs:j<listed.size):(Ha m listed Bs).Perm (Bs.getD j []++Ha m (listed.setIfInBounds j true) Bs):=by
 unfold Ha
 have hp:((List.range m).filter fun i=> !listed.getD i false).Perm (j::(List.range m).filter fun i=> !(listed.setIfInBounds j true).getD i false):=by
  refine (List.perm_ext_iff_of_nodup (List.nodup_range.filter _) (List.nodup_cons.2 ⟨fun h=> ?_,List.nodup_range.filter _⟩)).2 fun k=> ?_
  ·have h2:=(List.mem_filter.1 h).2;simp [hs] at h2
  rw [List.mem_cons,List.mem_filter,List.mem_filter];by_cases e:k=j
  ·subst e;simp [hj,hf]
  have h3:(listed.setIfInBounds j true).getD k false=listed.getD k false:=by
   simp [Array.getElem?_setIfInBounds_ne (fun h=>e h.symm)]
  rw [h3];simp [e]
 exact hp.flatMap_right _
theorem Ia {α:Type}{F Fp Fr hD B U' L D:List α}(h1:F.Perm (Fp++Fr))(h2:hD.Perm (B++U')):(F++(hD++L)++D).Perm ((Fp++(B++L))++(Fr++(U'++D))):=by
 classical
 rw [List.perm_iff_count] at h1 h2⊢;intro x;have:=h1 x;have:=h2 x;simp only [List.count_append] at*;omega
theorem Jl {α:Type}{F F' Fp Fr A hD L D:List α}(h1:F'.Perm (A++F))(h2:F.Perm (Fp++Fr)):((A++(Fp++L))++(Fr++(hD++D))).Perm (F'++(hD++L)++D):=by
 classical
 rw [List.perm_iff_count] at h1 h2⊢;intro x;have:=h1 x;have:=h2 x;simp only [List.count_append] at*;omega
theorem MC {X:Cx}{K:K3}{s:bC}{L:List Chunk}{id:Nat}{l:List Oper}(hm:X.P.follows .mixedOrders=true)(m:Nat)(qs:List Nat)(ds:List Nat)(pr:List (List Nat))(As:List (Value->List Chunk))(Bs:List (List Chunk)){L0:List Chunk}(hL:Cv L0 (Ha m (Array.replicate l.length false) Bs++L))(hBq: ∀q∈qs,Bs.getD q []=[])(hok:Om l.toArray m qs ds pr s X.n=true)
  (qstep: ∀q∈qs, ∀(o:Oper),q<m->l.toArray[q]? =some o-> ∀val:Nat->Value,QS X.P l.toArray (CX ds val (pr.getD q []) s) (Am As val (pr.getD q []) L) o (As.getD q fun _=> []))
  (step: ∀(i:Nat) (o:Oper),i<m->l.toArray[i]? =some o-> ∀val:Nat->Value,NT X.P l.toArray (CX ds val (pr.getD i []) s) (Am As val (pr.getD i []) (Bs.getD i []++L)) (Am As val (pr.getD i []) L) o (As.getD i fun _=> []))
  (fin: ∀val:Nat->Value,F4 X l.toArray K (l.length - m) (qH (Array.replicate l.length false) (List.range m)) (CX ds val (List.range m) s) (Am As val (List.range m) L)):Wq X (.region id l.toArray true) K s L0:=by
 unfold Om at hok;simp only [R3,decide_eq_true_eq,List.all_eq_true,List.mem_range] at hok;obtain ⟨⟨⟨⟨⟨⟨⟨⟨hns,hqs⟩,h1⟩,h2⟩,h3⟩,h4⟩,h5⟩,h6⟩,h7⟩:=hok;simp only [List.size_toArray] at h2 h7 hqs
 have hdst: ∀i o,i<m->l.toArray[i]? =some o->o.dst=some (ds.getD i 0):=fun i o hi ho=>by
  have h8:=(h6 i hi).1.1.1;rw [ho] at h8
  have h9:o.dst=ds[i]? :=by simpa using h8
  rw [h9];simp [List.getD,h3,hi]
 have hds: ∀i j,i<m->j<m->ds.getD i 0=ds.getD j 0->i=j:=fun i j hi hj e=>by
  have e1:ds.getD i 0=ds[i]'V:=by simp [List.getD,h3,hi]
  have e2:ds.getD j 0=ds[j]'V:=by simp [List.getD,h3,hj]
  rw [e1,e2] at e;have hp:=List.pairwise_iff_getElem.1 h4;rcases Nat.lt_trichotomy i j with h|h|h
  ·exact absurd e (hp i j V V h)
  ·exact h
  exact absurd e.symm (hp j i V V h)
 have hdn: ∀i,i<m->ds.getD i 0<X.n/\ ∀k v,jf s k=some v->k≠ds.getD i 0:=fun i hi=>by
  have hmem:ds.getD i 0∈ds:=by
   have e1:ds.getD i 0=ds[i]'V:=by simp [List.getD,h3,hi]
   rw [e1];exact R5 _
  have h8:=h5 _ hmem;refine ⟨Nat.le_of_ble_eq_true h8.1,fun k v hp e=> ?_⟩;have h9:=h8.2 _ (tb _ _ _ hp);simp only [e,Nat.beq_refl] at h9;cases h9
 have hpr: ∀i,i<m->(∀k∈pr.getD i [],k∈zj l.toArray i/\k<m)/\(pr.getD i []).Nodup/\ ∀k∈ye l.toArray i,k<i:=fun i hi=>by
  obtain ⟨⟨⟨-,g2⟩,g3⟩,g4⟩:=h6 i hi;refine ⟨fun k hk=> ?_,g3,fun k hk=> ?_⟩
  ·have g5:=g2 k hk;exact ⟨by simpa using g5.1,Nat.lt_of_succ_le (Nat.le_of_ble_eq_true g5.2)⟩
  exact Nat.lt_of_succ_le (Nat.le_of_ble_eq_true (g4 k hk))
 -- the invariant
 have main: ∀(fuel:Nat) (listed:Array Bool) (val:Nat->Value) (H:List Chunk) (Ds:List Nat) (a:Act) (w:World),listed.size=l.length->AU l.toArray listed->(∀t,m<=t->listed.getD t false=false)->fuel+(CH m listed).length=l.length->Fx X s a->(∀i,i<m->listed.getD i false=true->a.tmps.getD (ds.getD i 0) undef=val i)->a.defers=Ds.map uq->Sp (Ds.map cm++H) (Am As val (CH m listed) (Ha m listed Bs++L)) w->wpAnyIn (AH X.r) 0 X.P .any l.toArray (vO X H (wZ K)) fuel listed a w:=by
  intro fuel
  induction fuel with
  | zero=>
   intro listed val H Ds a w hsz hcl hhi hfu hfx hval hdf hsp;have hle:(CH m listed).length<=(List.range m).length:=List.length_filter_le _ _
   have hm':m=l.length:=by rw [List.length_range] at hle;omega
   have hlst:CH m listed=List.range m:=List.filter_eq_self.2 fun i hi=>List.length_filter_eq_length_iff.1 (show (CH m listed).length=(List.range m).length by rw [List.length_range];omega) i hi
   have hli:qH (Array.replicate l.length false) (List.range m)=listed:=by
    apply Array.ext
    ·rw [lq];simp [hsz]
    intro k hk a1;rw [lq] at hk;have e1:=xm (List.range m) (Array.replicate l.length false) k hk;simp only [Array.size_replicate] at hk
    have hin:k∈CH m listed:=by rw [hlst];simp;omega
    have e2:=(nT.1 hin).2
    have e3:(List.range m).contains k=true:=by simp;omega
    rw [e3,Bool.or_true] at e1;simp only [Array.getD_eq_getD_getElem?,Array.getElem?_eq_getElem,a1,Option.getD_some] at e2
    have a2:k<(qH (Array.replicate l.length false) (List.range m)).size:=by rw [lq];simpa using hk
    simp only [Array.getD_eq_getD_getElem?,Array.getElem?_eq_getElem,a2,Option.getD_some] at e1;rw [e1,e2]
   have hunl:Ha m listed Bs=[]:=G9 fun i hi=>(nT.1 (by rw [hlst];exact List.mem_range.2 hi)).2
   rw [hlst,hunl,R4] at hsp
   have hf:=fin val H Ds a w ⟨hfx.size,fun k v hk=>by
    rcases yn _ _ _ _ hk with h|h
    ·obtain ⟨i,hi,he⟩:=List.mem_map.1 (tb _ _ _ h);cases he
     have hi':i∈CH m listed:=by rw [hlst];exact hi
     exact hval i (nT.1 hi').1 (nT.1 hi').2
    ·exact hfx.at_ k v h⟩ hdf hsp
   rw [hli,show l.length - m=0 by omega] at hf;exact hf
  | succ fuel ih=>
   intro listed val H Ds a w hsz hcl hhi hfu hfx hval hdf hsp;by_cases hall: ∀i,i<m->listed.getD i false=true
   ·have hlst:CH m listed=List.range m:=List.filter_eq_self.2 fun i hi=>hall i (by simpa using hi)
    have hli:qH (Array.replicate l.length false) (List.range m)=listed:=by
     apply Array.ext
     ·rw [lq];simp [hsz]
     intro k hk a1;rw [lq] at hk;have e1:=xm (List.range m) (Array.replicate l.length false) k hk
     have a2:k<(qH (Array.replicate l.length false) (List.range m)).size:=by rw [lq];exact hk
     simp only [Array.getD_eq_getD_getElem?,Array.getElem?_eq_getElem,a2,Option.getD_some] at e1;rw [e1];simp only [Array.size_replicate] at hk;by_cases hkm:k<m
     ·have e2:=hall k hkm;simp only [Array.getD_eq_getD_getElem?,Array.getElem?_eq_getElem,a1,Option.getD_some] at e2;rw [e2];simp [hkm]
     have e2:=hhi k V;simp only [Array.getD_eq_getD_getElem?,Array.getElem?_eq_getElem,a1,Option.getD_some] at e2;rw [e2];simp [hk,hkm]
    rw [hlst,G9 hall,R4] at hsp;rw [hlst] at hfu;rw [List.length_range] at hfu
    have hf:=fin val H Ds a w ⟨hfx.size,fun k v hk=>by
     rcases yn _ _ _ _ hk with h|h
     ·obtain ⟨i,hi,he⟩:=List.mem_map.1 (tb _ _ _ h);cases he
      have hi':i<m:=by simpa using hi
      exact hval i hi' (hall i hi')
     ·exact hfx.at_ k v h⟩ hdf hsp
    rw [hli,show l.length - m=fuel+1 by omega] at hf;exact hf
   have hex: ∃i,i<m/\listed.getD i false=false:=by
    refine Classical.byContradiction fun h=>hall fun i hi=> ?_
    cases hb:listed.getD i false with
    |true=>rfl
    |false=>exact absurd ⟨i,hi,hb⟩ h
   have hun: ∀i,listed.getD i false=false->i<l.length->listed.getD i true=false:=fun i hi hlt=>by
    simp only [Array.getD_eq_getD_getElem?,Array.getElem?_eq_getElem,hsz,hlt,Option.getD_some] at hi⊢;exact hi
   have hleast: ∃i0,i0<m/\listed.getD i0 false=false/\i0∈Region.ready .any l.toArray listed:=by
    obtain ⟨⟨hi0,hu0⟩,hmin⟩:=leastOf_spec hex;generalize leastOf (fun i=>i<m/\listed.getD i false=false)=i0 at hi0 hu0 hmin
    have hlt:i0<l.length:=by omega
    refine ⟨i0,hi0,hu0,?_⟩
    
    refine mem_ready.2 ⟨hun i0 hu0 hlt,l[i0],by simp [hlt],fun e he hb=> ?_⟩
    have hon:e.on∈ye l.toArray i0:=by
     unfold ye;rw [show l.toArray[i0]? =some l[i0] by simp [hlt]];exact List.mem_map.2 ⟨e,List.mem_filter.2 ⟨by simpa using he,hb⟩,J⟩
    have hlt2:=(hpr i0 hi0).2.2 _ hon
    cases a8:listed.getD e.on false with
    |true=>rfl
    |false=>have:=hmin _ ⟨by omega,a8⟩;omega
   -- what an operation takes,and going on behind it
   have prep: ∀j o,j∈Region.ready .any l.toArray listed->j<m->l.toArray[j]? =some o-> ∃rest:List Nat,
     Sp ((rest.flatMap fun i=>(As.getD i fun _=> []) (val i))++(Ha m (listed.setIfInBounds j true) Bs++(Ds.map cm++H))) (Am As val (pr.getD j []) (Bs.getD j []++L)) w/\Fx X (CX ds val (pr.getD j []) s) a/\
     ∀(v:Value) (w':World),Sp ((rest.flatMap fun i=>(As.getD i fun _=> []) (val i))++(Ha m (listed.setIfInBounds j true) Bs++(Ds.map cm++H))) ((As.getD j fun _=> []) v++Am As val (pr.getD j []) L) w'->wpAnyIn (AH X.r) 0 X.P .any l.toArray (vO X H (wZ K)) fuel (listed.setIfInBounds j true) (a.put o.dst v) w':=by
    intro j o hj hjm ho;obtain ⟨hju,o2,ho2,hedge⟩:=mem_ready.1 hj;rw [ho] at ho2;cases ho2
    have hjl:j<l.length:=by
     have:=(Array.getElem?_eq_some_iff.1 ho).1;simpa using this
    have hjf:listed.getD j false=false:=by
     simp only [Array.getD_eq_getD_getElem?,Array.getElem?_eq_getElem,hsz,hjl,Option.getD_some] at hju⊢;exact hju
    obtain ⟨hp1,hp2,hp3⟩:=hpr j hjm
    have hps: ∀k∈pr.getD j [],k∈CH m listed:=fun k hk=>by
     obtain ⟨g1,g2⟩:=hp1 k hk;exact nT.2 ⟨g2,xq hcl hj (uV k g1)⟩
    have hd:=hdst j o hjm ho;obtain ⟨hdlt,hdne⟩:=hdn j hjm
    -- the chunks that the operation takes,and the rest
    have hperm:(CH m listed).Perm (pr.getD j []++(CH m listed).filter fun k=> !(pr.getD j []).contains k):=by
     refine (List.perm_ext_iff_of_nodup lst_nodup ?_).2 fun k=> ?_
     ·refine List.nodup_append.2 ⟨hp2,lst_nodup.filter _,fun x hx y hy e=> ?_⟩;subst e;have h11:=(List.mem_filter.1 hy).2;have h12:(pr.getD j []).contains x=true:=List.contains_iff_mem.2 hx;rw [h12] at h11;cases h11
     constructor
     ·intro hk;by_cases hkp:k∈pr.getD j []
      ·exact RQ _ hkp
      exact RR _ (List.mem_filter.2 ⟨hk,by simpa using hkp⟩)
     intro hk;rcases List.mem_append.1 hk with hk|hk
     ·exact hps k hk
     exact (List.mem_filter.1 hk).1
    generalize hrest:(CH m listed).filter (fun k=> !(pr.getD j []).contains k)=rest at hperm
    have hsp1:Sp ((rest.flatMap fun i=>(As.getD i fun _=> []) (val i))++(Ha m (listed.setIfInBounds j true) Bs++(Ds.map cm++H))) (Am As val (pr.getD j []) (Bs.getD j []++L)) w:=by
     refine SepL.perm hsp ?_;unfold Am;have e1:=AR (As:=As) (val:=val) hperm;rw [List.flatMap_append] at e1;have e9:=IZ (Bs:=Bs) (m:=m) (listed:=listed) hjm hjf (by rw [hsz];exact hjl);exact Ia e1 e9
    have hfxs:Fx X (CX ds val (pr.getD j []) s) a:=⟨hfx.size,fun k v hk=>by
     rcases yn _ _ _ _ hk with h|h
     ·obtain ⟨i,hi,he⟩:=List.mem_map.1 (tb _ _ _ h);cases he;exact hval i (nT.1 (hps i hi)).1 (nT.1 (hps i hi)).2
     ·exact hfx.at_ k v h⟩
    refine ⟨rest,hsp1,hfxs,?_⟩
    have go: ∀(v:Value) (w':World),Sp ((rest.flatMap fun i=>(As.getD i fun _=> []) (val i))++(Ha m (listed.setIfInBounds j true) Bs++(Ds.map cm++H))) ((As.getD j fun _=> []) v++Am As val (pr.getD j []) L) w'->wpAnyIn (AH X.r) 0 X.P .any l.toArray (vO X H (wZ K)) fuel (listed.setIfInBounds j true) (a.put o.dst v) w':=by
     intro v w' hsp2;rw [hd]
     have hjn:j∉CH m listed:=fun h=>by have:=(nT.1 h).2;rw [hjf] at this;cases this
     have a6:(CH m (listed.setIfInBounds j true)).Perm (j::CH m listed):=by
      refine (List.perm_ext_iff_of_nodup lst_nodup (List.nodup_cons.2 ⟨hjn,lst_nodup⟩)).2 fun k=> ?_
      rw [nT,List.mem_cons,nT];constructor
      ·rintro ⟨g1,g2⟩;rcases ri g2 with e|e
       ·exact .inl e
       exact .inr ⟨g1,e⟩
      rintro (e|⟨g1,g2⟩)
      ·subst e;refine ⟨hjm,?_⟩;simp [hsz,hjl]
      exact ⟨g1,getD_set_true g2⟩
     refine ih (listed.setIfInBounds j true) (fun k=>if k=j then v else val k) H Ds (a.put (some (ds.getD j 0)) v) w' (by simpa using hsz) (GS hcl hj) (fun t ht=> ?_) ?_ ?_ ?_ ((put_defers _ _ _).trans hdf) ?_
     ·rw [getD_set_ne false V];exact hhi t ht
     ·have:=a6.length_eq;rw [List.length_cons] at this;omega
     ·refine (hfx.put v hdlt).sub fun k u hk=> ?_
      rw [jA,if_neg (fun e=>hdne k u hk e.symm)];exact hk
     ·intro i hi hli;have hput:(a.put (some (ds.getD j 0)) v).tmps=a.tmps.setIfInBounds (ds.getD j 0) v:=rfl;rw [hput];by_cases e:i=j
      ·subst e;rw [if_pos rfl]
       have h13:ds.getD i 0<a.tmps.size:=by rw [hfx.size];exact hdlt
       generalize ds.getD i 0=dd at h13⊢;simp [h13]
      rw [if_neg e];rcases ri hli with e2|e2
      ·exact absurd e2 e
      rw [<-hval i hi e2]
      have hne:ds.getD j 0≠ds.getD i 0:=fun h=>e (hds j i hjm hi h).symm
      generalize ds.getD j 0=dd at hne⊢;generalize ds.getD i 0=de at hne⊢;simp [Array.getElem?_setIfInBounds_ne hne]
     refine SepL.perm hsp2 ?_;unfold Am;have e1:=AR (As:=As) (val:=fun k=>if k=j then v else val k) a6;rw [List.flatMap_cons,if_pos rfl] at e1
     have e2:((CH m listed).flatMap fun i=>(As.getD i fun _=> []) (if i=j then v else val i))=(CH m listed).flatMap fun i=>(As.getD i fun _=> []) (val i):=by
      have key: ∀l':List Nat,(∀i∈l',i∈CH m listed)->(l'.flatMap fun i=>(As.getD i fun _=> []) (if i=j then v else val i))=l'.flatMap fun i=>(As.getD i fun _=> []) (val i):=by
       intro l'
       induction l' with
       |nil=>intro _;rfl
       |cons i l' ihl=>
        intro hl';rw [List.flatMap_cons,List.flatMap_cons,ihl fun q hq=>hl' q (by simp [hq]),if_neg (fun e:i=j=>hjn (e▸hl' i (by simp)))]
      exact key _ fun _ h=>h
     rw [e2] at e1;have e3:=AR (As:=As) (val:=val) hperm;rw [List.flatMap_append] at e3;exact Jl e1 e3
    exact go
   by_cases hq: ∃q∈qs,q<m/\q∈Region.ready .any l.toArray listed
   ·-- an operation whose value does not depend on the world comes first
    obtain ⟨q,hqm,hqlt,hqr⟩:=hq;obtain ⟨hqu,o,ho,hedge⟩:=mem_ready.1 hqr;obtain ⟨rest,hsp1,hfxs,go⟩:=prep q o hqr hqlt ho;rw [hBq q hqm,R4] at hsp1;obtain ⟨v,hg,hev,hcv⟩:=qstep q hqm o hqlt ho val _ _ hsp1;have hfree:=hqs q hqm;rw [ho] at hfree;simp only [List.all_eq_true,List.mem_range] at hfree;refine xH _ _ _ _ (xg (C:=fun _=>True) (oi:=o) (v:=v) ho (wk h1) (Region.noSelect_spec hns) (fun c a w ⟨_,_,_,_,_,_,he,_⟩=>(by cases he)) fuel listed a w trivial ?_ hqr (.inl ⟨ew hfxs hg,fun w' _=>hev a.eval (fun x u hx=>hfxs.eval hx) w' trivial⟩) (KJ _ _ _ _ (go v w hcv)));intro j oj hoj hne hul hno
    have hjl:j<l.length:=by
     have:=(Array.getElem?_eq_some_iff.1 hoj).1;simpa using this
    have h8:=hfree j hjl;rw [hoj] at h8;simp only [Bool.or_eq_true] at h8;rcases h8 with ((h8|h8)|h8)|h8
    ·exact absurd (Nat.eq_of_beq_eq_true h8) hne
    ·obtain ⟨o',e,ho',he,hb,heq⟩:=BJ (List.contains_iff_mem.1 h8);rw [hoj] at ho';cases ho';exact absurd heq (hno e he hb)
    ·have h14:=xq hcl hqr (uV j (List.contains_iff_mem.1 h8));simp only [Array.getD_eq_getD_getElem?,Array.getElem?_eq_getElem,hsz,hjl,Option.getD_some] at h14 hul;rw [h14] at hul;cases hul
    exact h8
   refine ⟨fun hr=> ?_,fun j hj=> ?_⟩
   ·obtain ⟨i0, -, -,hin⟩:=hleast;rw [hr] at hin;cases hin
   obtain ⟨hju,o,ho,hedge⟩:=mem_ready.1 hj
   have hjl:j<l.length:=by
    have:=(Array.getElem?_eq_some_iff.1 ho).1;simpa using this
   have hjm:j<m:=by
    refine Classical.byContradiction fun hge=> ?_
    obtain ⟨i0,hi0,hu0,hin0⟩:=hleast;have h8:=h7 j hjl
    have h9:Nat.blt j m=false:=by
     cases hb:Nat.blt j m with
     |false=>rfl
     |true=>exact absurd (Nat.lt_of_succ_le (Nat.le_of_ble_eq_true hb)) hge
    rw [h9,Bool.false_or,List.all_eq_true] at h8;have h10:=h8 i0 (by simpa using hi0);rw [Bool.or_eq_true] at h10;rcases h10 with h10|h10
    ·exact hq ⟨i0,List.contains_iff_mem.1 h10,hi0,hin0⟩
    have:=xq hcl hj (uV i0 (by simpa using h10));rw [hu0] at this;cases this
   have hndef:gq o=true:=wk h1 j o ho;obtain ⟨rest,hsp1,hfxs,go⟩:=prep j o hj hjm ho;unfold wpOpIn;rw [ho]
   dsimp only
   rcases step j o hjm ho val _ _ hsp1 with ⟨hg,hop⟩|⟨hg,hsp2⟩
   ·rw [if_pos (ew hfxs hg)]
    refine (hop a.eval fun x u hx=>hfxs.eval hx).wpIn hndef fun v L' w' hc hs=> ?_
    exact go v w' (hc _ _ hs)
   rw [if_neg (by rw [ew hfxs hg];exact Bool.false_ne_true)];exact ⟨fun _ _=>trivial,go undef w hsp2⟩
 intro H Ds a w ha hds' hw;have hw1:Sp (Ds.map cm++H) (Ha m (Array.replicate l.length false) Bs++L) {w with drawn:=w.drawn+1}:=SepL.same (hL _ _ hw) ⟨rfl,rfl,rfl,Nat.le_refl _,fun _ _ _=>rfl⟩
 have hf: ∀k,(Array.replicate l.length false).getD k false=false:=fun k=>by
  simp only [Array.getD_eq_getD_getElem?,Array.getElem?_replicate];split<;>rfl
 have a7:CH m (Array.replicate l.length false)=[]:=by
  refine List.eq_nil_iff_forall_not_mem.2 fun i hi=> ?_
  have:=(nT.1 hi).2;rw [hf] at this;cases this
 have h9:=main l.length (Array.replicate l.length false) (fun _=>undef) H Ds a _ (by simp) (fun k o e hk=>by rw [hf] at hk;cases hk) (fun t _=>hf t) (by rw [a7];simp) ha (fun i _ hi=>by rw [hf] at hi;cases hi) hds' (by rw [a7];exact hw1);refine wpIn_mono (wpIn_region_any hm (by simpa using h9)) ?_;rintro e a' w' ⟨s',L',Ds',g1,g2,g3,rfl,g4⟩;exact ⟨s',L',Ds',g1,g2,g3,g4⟩
theorem mf {Bs:List (List Chunk)}: ∀q∈([]:List Nat),Bs.getD q []=[]:=fun _ h=>nomatch h
theorem wg {Bs:List (List Chunk)}{q':Nat}{qs:List Nat}(h:Bs.getD q' []=[])(t: ∀q∈qs,Bs.getD q []=[]): ∀q∈q'::qs,Bs.getD q []=[]:=fun q hq=>(List.mem_cons.1 hq).elim (fun e=>e▸h) (t q)
end
section
variable {A0:Option Addr} {M1:Nat}
open Go.RowKit
open Asn
theorem BT {ds:List Nat}{val:Nat->Value}{s:bC}: ∀(l:List Nat),(∀i∈l, ∀j∈l,ds.getD i 0=ds.getD j 0->i=j)-> ∀i∈l,jf (l.map (fun i=>(ds.getD i 0,val i))++s) (ds.getD i 0)=some (val i)
 | [],_,i,h=>by cases h
 |j::l,hd,i,h=>by
  rw [List.map_cons,List.cons_append,jA];by_cases e:ds.getD j 0=ds.getD i 0
  ·rw [if_pos e,hd j (by simp) i h e]
  rw [if_neg e];rcases List.mem_cons.1 h with e2|h
  ·subst e2;exact absurd J e
  exact BT l (fun a ha b hb=>hd a (by simp [ha]) b (by simp [hb])) i h
theorem zw {ds:List Nat}{val:Nat->Value}{s:bC}{k:Nat}: ∀(l:List Nat),(∀i∈l,ds.getD i 0≠k)->jf (l.map (fun i=>(ds.getD i 0,val i))++s) k=jf s k
 | [],_=>rfl
 |j::l,hd=>by
  rw [List.map_cons,List.cons_append,jA,if_neg (hd j (by simp))]
  exact zw l fun i hi=>hd i (by simp [hi])
theorem Kv {As:List (Value->List Chunk)}{val:Nat->Value}{L:List Chunk}{m:Nat}{ix:List Nat}(hn:ix.Nodup)(hm: ∀i∈ix,i<m):Cv (Am As val (List.range m) L) (Am As val ix L):=by
 have hp:(List.range m).Perm (((List.range m).filter fun i=> !ix.contains i)++ix):=by
  refine (List.perm_ext_iff_of_nodup List.nodup_range ?_).2 fun k=> ?_
  ·refine List.nodup_append.2 ⟨List.nodup_range.filter _,hn,fun x hx y hy e=> ?_⟩;subst e;have h1:=(List.mem_filter.1 hx).2;rw [List.contains_iff_mem.2 hy] at h1;cases h1
  rw [List.mem_append,List.mem_filter,List.mem_range];by_cases h:k∈ix
  ·simp [h,hm k h]
  simp [h]
 have e:=AR (As:=As) (val:=val) hp;rw [List.flatMap_append] at e;unfold Am;refine Cv.trans (fun Z w h=>SepL.perm h ((e.append_right L).append_right Z)) ?_;rw [RP];exact FR _
theorem jv {X:Cx}{K:K3}{s:bC}{L L0:List Chunk}{id:Nat}{l:List Oper}(hm:X.P.follows .mixedOrders=true)(m:Nat)(qs:List Nat)(ix:List Nat)(ds:List Nat)(pr:List (List Nat))(As:List Asn)(Bs:List (List Chunk))(hL:Cv L0 (Ha m (Array.replicate l.length false) Bs++L))(hBq: ∀q∈qs,Bs.getD q []=[])(hok:Om l.toArray m qs ds pr s X.n=true)(hlen:Nat.beq As.length m=true)(hix:(ix.all (fun i=>Nat.blt i m)&&decide ix.Nodup)=true)
  (qstep: ∀q∈qs, ∀(o:Oper),q<m->l.toArray[q]? =some o->Ly ds As (pr.getD q []) (fun s' L'=>PE X.P l.toArray s' L' L' o (As.getD q (aV undef)).full) s L)
  (step: ∀(i:Nat) (o:Oper),i<m->l.toArray[i]? =some o->FD ds As (pr.getD i []) (fun s' L' L''=>NT X.P l.toArray s' L' L'' o (As.getD i (aV undef)).full) s (Bs.getD i []++L) L)
  (fin:Ly ds As ix (fun s' L'=>F4 X l.toArray K (l.length - m) (qH (Array.replicate l.length false) (List.range m)) s' L') s L):Wq X (.region id l.toArray true) K s L0:=by
 have hl:As.length=m:=Nat.eq_of_beq_eq_true hlen
 have hpr: ∀i,i<m-> ∀k∈pr.getD i [],k<As.length:=fun i hi k hk=>by
  unfold Om at hok;simp only [R3,List.all_eq_true,List.mem_range] at hok;have h6:=(hok.1.2 i hi).1.1.2 k hk;have h7:=Nat.le_of_ble_eq_true h6.2;omega
 simp only [R3,List.all_eq_true,decide_eq_true_eq] at hix
 have hixm: ∀i∈ix,i<m:=fun i hi=>Nat.lt_of_succ_le (Nat.le_of_ble_eq_true (hix.1 i hi))
 have hds:(∀i j,i<m->j<m->ds.getD i 0=ds.getD j 0->i=j)/\ ∀i,i<m-> ∀k v,jf s k=some v->k≠ds.getD i 0:=by
  have hok2:=hok;unfold Om at hok2;simp only [R3,decide_eq_true_eq,List.all_eq_true,List.mem_range] at hok2;obtain ⟨⟨⟨⟨⟨⟨⟨⟨-, -⟩, -⟩, -⟩,h3⟩,h4⟩,h5⟩, -⟩, -⟩:=hok2;refine ⟨fun i j hi hj e=> ?_,fun i hi k v hp e=> ?_⟩
  ·have e1:ds.getD i 0=ds[i]'V:=by simp [List.getD,h3,hi]
   have e2:ds.getD j 0=ds[j]'V:=by simp [List.getD,h3,hj]
   rw [e1,e2] at e;have hp:=List.pairwise_iff_getElem.1 h4;rcases Nat.lt_trichotomy i j with h|h|h
   ·exact absurd e (hp i j V V h)
   ·exact h
   exact absurd e.symm (hp j i V V h)
  have hmem:ds.getD i 0∈ds:=by
   have e1:ds.getD i 0=ds[i]'V:=by simp [List.getD,h3,hi]
   rw [e1];exact R5 _
  have h9:=(h5 _ hmem).2 _ (tb _ _ _ hp);simp only [e,Nat.beq_refl] at h9;cases h9
 refine MC hm m qs ds pr (r9 As) Bs hL hBq hok (fun q hq o hqm ho val=> ?_) (fun i o him ho val=> ?_) fun val=> ?_
 ·rw [zA _ _ V];exact Ji (hpr q hqm) (qstep q hq o hqm ho)
 ·rw [zA _ _ V];exact I8 (hpr i him) (step i o him ho)
 refine oe (ND (fun i hi=>by have:=hixm i hi;omega) fin) (fun k v hk=> ?_) (Kv hix.2 hixm);unfold CX at hk⊢;by_cases hex: ∃i∈ix,ds.getD i 0=k
 ·obtain ⟨i,hi,rfl⟩:=hex;rw [BT ix (fun a ha b hb e=>hds.1 a b (hixm a ha) (hixm b hb) e) i hi] at hk;rw [BT (List.range m) (fun a ha b hb e=>hds.1 a b (List.mem_range.1 ha) (List.mem_range.1 hb) e) i (List.mem_range.2 (hixm i hi))];exact hk
 rw [zw ix fun i hi e=>hex ⟨i,hi,e⟩] at hk;rw [zw (List.range m) fun i hi e=>hds.2 i (List.mem_range.1 hi) k v hk e.symm];exact hk
section
variable {P:Program} {s:bC} {C:World->Prop} {d:Option Nat} {ty:TypeId} {pos:String} {af:Array Edge} {gd:Option (Nat×Bool)}
end
end
section
variable {A0:Option Addr} {M1:Nat}
open Go.RowKit
def K6 (e:TypeId)(sz:Nat)(v:Value):Chunk where
 ok T _ w:= ∃g n cap cur,v=.slice (some ⟨g,0,none⟩) n cap/\T g/\w.heap[g]? =some (.cells cur e (0,0))/\n<=cap/\cap<=maxLen/\cur.size=cap*sz
 loc:=fun h ⟨g,n,cap,cur,e1,h1,h2,h3⟩=>⟨g,n,cap,cur,e1,h1,Blk.agr (t:=e) h2 h (.inl h1),h3⟩
 mono:=fun _ h=>h
 ro:=false
 dup:=fun h=>Bool.noConfusion h
section
variable {P:Program} {s:bC} {L:List Chunk} {d:Option Nat} {ty:TypeId} {pos:String} {af:Array Edge} {gd:Option (Nat×Bool)}
theorem xu {x y:Operand}{t tn e:TypeId}{n:Int}{k kn:IntKind}{sz by_:Nat}(hx:bx s x=some (U none 0 0))(hy:bx s y=some (.int k n))(ht:P.underlying t=some (.slice e))(htn:P.underlying tn=some (.int kn))(hz:sG P e sz by_=true)(hby:Nat.ble by_ 127=true)(h0:0<n)(hb:n<=1099511627776):OpX P s L ⟨d,.call ⟨.builtin .append, #[x,y], #[t,tn]⟩,ty,pos,af,gd⟩ fun u L'=> ∃A n c,u=.slice A n c/\L'=K6 e sz (.slice A n c)::L:=fun ρ hρ Z w hw=>by
 have hbuilt:=gv (P:=P) (ρ:=ρ) (d:=d) (ty:=ty) (pos:=pos) (af:=af) (gd:=gd) (b:=.append) (xs:=[x,y]) (ats:= #[t,tn]) (vs:=[U none 0 0,.int k n]) (by simp [hρ x _ hx,hρ y _ hy]) w
 have hby':=Nat.le_of_ble_eq_true hby
 obtain ⟨m,rfl⟩: ∃m:Nat,n=m:=⟨n.toNat,by omega⟩;unfold sG at hz
 cases hinfo:P.info? e with
 |none=>rw [hinfo] at hz;cases hz
 | some inf=>
  rw [hinfo] at hz;simp only [R3] at hz;obtain ⟨⟨⟨q2,q3⟩,q4⟩,q5⟩:=hz
  cases hzz:inf.zero with
  |none=>rw [hzz] at q4;cases q4
  | some z=>
   rw [hzz] at q4;have e2:=Nat.eq_of_beq_eq_true q2;have e3:=Nat.eq_of_beq_eq_true q3;have e4:=Nat.eq_of_beq_eq_true q4
   have e5:0<sz:=by have h6:1<=sz:=(by simpa [Nat.blt] using q5);omega
   have hm:m*inf.bytes<=281474976710656:=Nat.le_trans (Nat.mul_le_mul (show m<=1099511627776 by omega) (show inf.bytes<=127 by omega)) (by decide);have hr:=Lib.run_append_nil_zeros (P:=P) w t tn ty e inf z k kn ht htn hinfo hzz m V V V hm;have hge:=grownCap_ge w m 0 e;have hcm:=grownCap_le_maxLen w m 0 e (by unfold maxLen;omega)
   have hcur:(Builtin.zeroCells z.cells m++Builtin.zeroCells z.cells (grownCap w m 0 e - m)).size=grownCap w m 0 e*sz:=by
    simp only [Array.size_append,size_zeroCells,e4, <-Nat.add_mul]
    congr 1
    omega
   generalize Builtin.zeroCells z.cells m++Builtin.zeroCells z.cells (grownCap w m 0 e - m)=cur at*;have hA:Agr (fun _=>True) w (w.drew.alloc (.cells cur e)):=⟨rfl,rfl,rfl,by simp,fun q hq _=>heap_alloc_old w.drew (.cells cur e) hq⟩;have hN:(w.drew.alloc (.cells cur e)).heap[w.heap.size]? =some (.cells cur e (0,0)):=heap_alloc_new w.drew (.cells cur e)
   have hZ:(w.drew.alloc (.cells cur e)).heap.size=w.heap.size+1:=by simp
   refine .inl ⟨_,w.drew.alloc (.cells cur e),K6 e sz (.slice (some ⟨w.heap.size,0,none⟩) m (grownCap w m 0 e))::L,?_,SepL.new (c:=K6 e sz (.slice (some ⟨w.heap.size,0,none⟩) m (grownCap w m 0 e))) hw hA fun T S _=>⟨(· =w.heap.size),fun q hq=>by subst hq;omega,w.heap.size,m,grownCap w m 0 e,cur,rfl,rfl,hN,hge,hcm,hcur⟩,_,_,_,J,J⟩;rw [hbuilt];simp only [builtin,Sem.run_bind];have hr':(Builtin.append_ #[t,tn] ty [Value.slice none 0 0,.int k (m:Int)].toArray).run P w=_:=hr;rw [hr'];rfl
theorem Ec {α:Type}{R:Rep α}{t e sz:Nat}{x y:Operand}{v:Value}(i:Nat)(hi:L[i]? =some (K6 e sz v))(hx:bx s x=some v)(hu:P.underlying t=some (.slice e))(hs:kX P e sz=true)(hsz:R.sz=sz)(hh:bx s y=some (.int .i64 0)):OpX P s L ⟨d,.slice t x none (some y) none,ty,pos,af,gd⟩ fun u L'=> ∃A n c,u=.slice A n c/\L'=L.set i (eu R e (.slice A n c) []):=fun ρ hρ Z w hw=>by
 have hw0:=hw;obtain ⟨T,S,hT⟩:=hw;obtain ⟨g,n,cap,cur,rfl,g1,g2,g3,g4,g5⟩:=hT.ok (bw hi);have hrun:=yH (P:=P) (C:=fun _=>True) (d:=d) (ty:=ty) (pos:=pos) (af:=af) (gd:=gd) (lo:=none) (hi:=some y) (l:=0) (h:=0) hx hu hs rfl hh (Nat.le_refl _) V ρ hρ w trivial
 have hc:tY (some ⟨g,0,none⟩) cap 0 sz=some ⟨g,0,none⟩:=by
  unfold tY;split
  ·rfl
  simp [Addr.add]
 rw [hc] at hrun;refine .inl ⟨_,w,L.set i (eu R e (.slice (some ⟨g,0,none⟩) 0 cap) []),hrun,?_,_,_,_,J,J⟩
 have hfin:SepL ((L++Z).set i (eu R e (.slice (some ⟨g,0,none⟩) 0 cap) [])) w:=by
  refine hw0.weak (bw hi) fun T S ⟨g',n',cap',cur',e1,q1,q2,q3,q4,q5⟩=> ?_
  obtain ⟨e2,rfl,rfl⟩:=Value.slice.inj e1;cases e2;exact ⟨[],.nil,.inl ⟨⟨by simp,.inr ⟨g,cap,cur',rfl,Nat.zero_le _,q2,Nat.zero_le _,q4,by rw [hsz];exact ⟨cap,Nat.le_refl _,q4,q5⟩,by simp⟩⟩,fun q hq=>by cases hq;exact q1⟩⟩
 rw [oN Z hi] at hfin;exact hfin
theorem zF {C:World->Prop}{t e sz:Nat}{x y:Operand}(hx:bx s x=some (U none 0 0))(hu:P.underlying t=some (.slice e))(hs:kX P e sz=true)(hh:bx s y=some (.int .i64 0)):Ev P s C ⟨d,.slice t x none (some y) none,ty,pos,af,gd⟩ (U none 0 0):=
 yH (lo:=none) (hi:=some y) (l:=0) (h:=0) hx hu hs rfl hh (Nat.le_refl _) (Nat.le_refl _)
theorem eC {t e:TypeId}{m:Nat}{ps:List (Nat×Operand)}{vs:List (Nat×Value)}{cs:List Value}(hp:II s ps=some vs)(hr: ∀w,(Instr.buildSlice t m vs.toArray).run P w=.ok (.slice (some ⟨w.heap.size,0,none⟩) m m) (w.alloc (.cells cs.toArray e))):OpX P s L ⟨d,.buildSlice t m ps.toArray,ty,pos,af,gd⟩ fun u L'=> ∃b,u=.slice (some ⟨b,0,none⟩) m m/\L'=ac b e cs::L:=fun ρ hρ Z w hw=>by
 refine .inl ⟨_,w.alloc (.cells cs.toArray e),ac w.heap.size e cs::L,?_,SepL.new (c:=ac w.heap.size e cs) hw (Agr.of_ext ((Ext.refl w).alloc _)) fun _ S _=>⟨(· =w.heap.size),fun q hq=> ?_,J,Blk.new w e _⟩,_,J,J⟩
 ·unfold execOp;simp only [List.map_toArray,AQ hρ hp,Sem.run_bind,hr,Result.andThen_ok];rfl
 subst hq;simp
end
def Wr (X:Cx)(c:Code)(K:K3)(m:Nat)(s:bC)(L:List Chunk):Prop:= ∀(H:List Chunk) (Ds:List Nat) (a:Act) (w:World),Fx X s a->a.defers=Ds.map uq->Sp (Ds.map cm++H) L w->Code.roundsIn (AH X.r) 0 X.P c (vO X H K) m a w
section
variable {X:Cx} {K:K3} {s:bC} {L:List Chunk}
theorem rG {c:Code}(m:Nat)(h:Wr X c K m s L):Wq X (.loop c) K s L:=fun H Ds a w ha hd hw=>wpIn_loop_rounds m (h H Ds a w ha hd hw)
theorem sF {c:Code}{m:Nat}(h:Wq X c (nx (fun s L=>Wr X c K m s L) K) s L):Wr X c K (m+1) s L:=fun H Ds a w ha hd hw=>by
 rw [roundsIn_succ];refine wpIn_mono (h H Ds a w ha hd hw) ?_;rintro e a' w' ⟨s',L',Ds',h1,h2,h3,h4⟩
 cases e with
 |normal=>exact h4 H Ds' a' w' h1 h2 h3
 |_=>exact ⟨s',L',Ds',h1,h2,h3,h4⟩
end
end
section
variable {A0:Option Addr} {M1:Nat}
open Go.RowKit
def NQ (s:bC):List Nat->bC->Prop
 |_,[]=>True
 |ks,(d,v)::t=>(jf s d=some v\/ks.contains d=true)/\NQ s (d::ks) t
theorem E3 {s:bC}: ∀{t:bC} {ks:List Nat},NQ s ks t-> ∀k v,ks.contains k=false->jf t k=some v->jf s k=some v
 | [],_,_=>fun _ _ _ h=>by cases h
 |(d,u)::t,ks,h=>fun k v hk hl=>by
  rw [jA] at hl;by_cases e:d=k
  ·subst e;rw [if_pos rfl] at hl;cases hl;rcases h.1 with h1|h1
   ·exact h1
   rw [hk] at h1;cases h1
  rw [if_neg e] at hl;exact E3 h.2 k v (by simp only [List.contains_cons,Bool.or_eq_false_iff];exact ⟨by simpa using fun h=>e h.symm,hk⟩) hl
theorem sA {s t:bC}(h:NQ s [] t:=by repeat (first|exact trivial|refine ⟨.inl rfl,?_⟩|refine ⟨.inr rfl,?_⟩)):yV s t:=fun k v hl=>E3 h k v rfl hl
section
variable {X:Cx} {ops:Array Oper} {K:K3} {s:bC} {L:List Chunk} {rest:List Oper} {d:Nat} {op:Op} {ty:TypeId} {pos:String} {af:Array Edge} {gd:Option (Nat×Bool)}
theorem gD {R:Value->List Chunk->Prop}(h:OpX X.P s L ⟨some d,op,ty,pos,af,gd⟩ R)(k: ∀v L',R v L'->bO X ops rest K ((d,v)::s) L')(hn:gq ⟨some d,op,ty,pos,af,gd⟩=true:=by rfl)(hg:be ops s ⟨some d,op,ty,pos,af,gd⟩=some true:=by rfl)(hd:Nat.ble (d+1) X.n=true:=by rfl):bO X ops (⟨some d,op,ty,pos,af,gd⟩::rest) K s L:=Aq h hn hg hd k
theorem gO {R:Value->List Chunk->Prop}(h:OpX X.P s L ⟨none,op,ty,pos,af,gd⟩ R)(k: ∀v L',R v L'->bO X ops rest K s L')(hn:gq ⟨none,op,ty,pos,af,gd⟩=true:=by rfl)(hg:be ops s ⟨none,op,ty,pos,af,gd⟩=some true:=by rfl):bO X ops (⟨none,op,ty,pos,af,gd⟩::rest) K s L:=ON h hn hg k
theorem gE {v:Value}(h:Ev X.P s (fun _=>True) ⟨some d,op,ty,pos,af,gd⟩ v)(k:bO X ops rest K ((d,v)::s) L)(hn:gq ⟨some d,op,ty,pos,af,gd⟩=true:=by rfl)(hg:be ops s ⟨some d,op,ty,pos,af,gd⟩=some true:=by rfl)(hd:Nat.ble (d+1) X.n=true:=by rfl):bO X ops (⟨some d,op,ty,pos,af,gd⟩::rest) K s L:=pP h hn hg hd k
theorem gR {v:Value}(h:Rd X.P s L ⟨some d,op,ty,pos,af,gd⟩ v)(k:bO X ops rest K ((d,v)::s) L)(hn:gq ⟨some d,op,ty,pos,af,gd⟩=true:=by rfl)(hg:be ops s ⟨some d,op,ty,pos,af,gd⟩=some true:=by rfl)(hd:Nat.ble (d+1) X.n=true:=by rfl):bO X ops (⟨some d,op,ty,pos,af,gd⟩::rest) K s L:=tg h hn hg hd k
end
abbrev iV (z:Int):Value:=.int .i64 z
abbrev pV (b o:Nat):Value:=.pointer (some ⟨b,o,none⟩)
theorem rp {L':List Chunk}(h:L'=[]):L'=[]:=h
theorem nZ {L' t T:List Chunk}{a:Chunk}(h:L'=a::t)(k:t=T):L'=a::T:=k▸h
theorem xd {X:Cx}{ops:Array Oper}{K:K3}{s:bC}{L' L:List Chunk}{l:List Oper}(k:bO X ops l K s L)(h:L'=L:=by repeat (first|exact rp rfl|apply nZ rfl|exact rfl)):bO X ops l K s L':=h▸k
theorem aU {X:Cx}{ops:Array Oper}{K:K3}{s:bC}{M L' L:List Chunk}{fuel:Nat}{listed:Array Bool}(k:py X ops K M fuel listed s L)(h:L'=L:=by repeat (first|exact rp rfl|apply nZ rfl|exact rfl)):py X ops K M fuel listed s L':=h▸k
theorem N5 {X:Cx}{K:K3}{s:bC}{L' L:List Chunk}{c:Code}(k:Wq X c K s L)(h:L'=L:=by repeat (first|exact rp rfl|apply nZ rfl|exact rfl)):Wq X c K s L':=h▸k
theorem Dn {X:Cx}{ops:Array Oper}{K:K3}{fuel:Nat}{listed:Array Bool}{s:bC}{L' L:List Chunk}(k:F4 X ops K fuel listed s L)(h:L'=L:=by repeat (first|exact rp rfl|apply nZ rfl|exact rfl)):F4 X ops K fuel listed s L':=h▸k
theorem aJ {P:List Chunk->Prop}{L M:List Chunk}(h:Cv L M)(k:P M): ∃M',Cv L M'/\Cv M' M/\P M':=⟨M,h,ae _,k⟩
theorem cS {L:List Chunk}(ix:List Nat)(k:Nat)(hk:CT ix k=true:=by exact rfl)(hl:Nat.ble k L.length=true:=by exact rfl):Cv L (Az ix k L):=Cr ix k hk hl
section
variable {X:Cx} {ops:Array Oper} {K:K3} {s:bC} {L M:List Chunk} {fuel:Nat} {listed:Array Bool} {d:Nat} {op:Op} {ty:TypeId} {pos:String} {af:Array Edge} {gd:Option (Nat×Bool)}
theorem zE (i:Nat){v:Value}(hi:ops[i]? =some ⟨some d,op,ty,pos,af,gd⟩)(h:Ev X.P s (fun _=>True) ⟨some d,op,ty,pos,af,gd⟩ v)(k:py X ops K M fuel (listed.setIfInBounds i true) ((d,v)::s) L)(hk:Lf ops listed i=true:=by kernel_rfl)(hg:be ops s ⟨some d,op,ty,pos,af,gd⟩=some true:=by exact rfl)(hd:Nat.ble (d+1) X.n=true:=by exact rfl):py X ops K M (fuel+1) listed s L:=vM i hi hk h hg hd k
theorem zR (i:Nat){v:Value}(hi:ops[i]? =some ⟨some d,op,ty,pos,af,gd⟩)(h:Rd X.P s M ⟨some d,op,ty,pos,af,gd⟩ v)(k:py X ops K M fuel (listed.setIfInBounds i true) ((d,v)::s) L)(hk:Lf ops listed i=true:=by kernel_rfl)(hg:be ops s ⟨some d,op,ty,pos,af,gd⟩=some true:=by exact rfl)(hd:Nat.ble (d+1) X.n=true:=by exact rfl):py X ops K M (fuel+1) listed s L:=CF i hi hk h hg hd k
theorem zD (i:Nat){R:Value->List Chunk->Prop}(hi:ops[i]? =some ⟨some d,op,ty,pos,af,gd⟩)(h:OpX X.P s L ⟨some d,op,ty,pos,af,gd⟩ R)(k: ∀v L',R v L'-> ∃M',Cv L' M'/\Cv M' M/\py X ops K M' fuel (listed.setIfInBounds i true) ((d,v)::s) L')(hr:Region.ready .any ops listed=[i]:=by kernel_rfl)(hn:gq ⟨some d,op,ty,pos,af,gd⟩=true:=by exact rfl)(hg:be ops s ⟨some d,op,ty,pos,af,gd⟩=some true:=by exact rfl)(hd:Nat.ble (d+1) X.n=true:=by exact rfl):py X ops K M (fuel+1) listed s L:=NO i hi hr h hn hg hd k
theorem zO (i:Nat){R:Value->List Chunk->Prop}(hi:ops[i]? =some ⟨none,op,ty,pos,af,gd⟩)(h:OpX X.P s L ⟨none,op,ty,pos,af,gd⟩ R)(k: ∀v L',R v L'-> ∃M',Cv L' M'/\Cv M' M/\py X ops K M' fuel (listed.setIfInBounds i true) s L')(hr:Region.ready .any ops listed=[i]:=by kernel_rfl)(hn:gq ⟨none,op,ty,pos,af,gd⟩=true:=by exact rfl)(hg:be ops s ⟨none,op,ty,pos,af,gd⟩=some true:=by exact rfl):py X ops K M (fuel+1) listed s L:=NN i hi hr h hn hg k
end
end
section
variable {A0:Option Addr} {M1:Nat}
open Go.RowKit
abbrev NY {α β:Type}(f:α->Prop)(g:β->Prop)(r:α ⊕ β):Prop:=match r with
 | .inl a=>f a
 | .inr b=>g b
def Au {α β γ:Type}(s:α ⊕ β)(f:α->γ)(g:β->γ):γ:=match s with
 | .inl a=>f a
 | .inr b=>g b
theorem F6 {α β γ:Type}{a:α}{f:α->γ}{g:β->γ}{r:γ}(h:Au (.inl a) f g=r):f a=r:=h
theorem F5 {α β γ:Type}{b:β}{f:α->γ}{g:β->γ}{r:γ}(h:Au (.inr b) f g=r):g b=r:=h
theorem Hw {α:Type}{xs:List α}{k:Nat}{x z:α}(h:xs[k]? =some x):(xs.set k z)[k]? =some z:=by
 have h1:=(List.getElem?_eq_some_iff.1 h).1;simp [h1]
theorem zv {α:Type}{xs:List α}{k j:Nat}{z:α}(h:k<xs.length):k<(xs.set j z).length:=by rwa [List.length_set]
theorem rP {X:Cx}{ops:Array Oper}{K:K3}{M L L':List Chunk}{fuel:Nat}{listed:Array Bool}{s:bC}{i:Nat}(hl:Cv L L')(hm:Cv L' M)(h:F2 X ops K M fuel listed s L' i):F2 X ops K M fuel listed s L i:=fun _ H Ds a w ha hds hw=>h hm H Ds a w ha hds (hl _ _ hw)
theorem I0 {X:Cx}{ops:Array Oper}{K:K3}{M L' L:List Chunk}{fuel:Nat}{listed:Array Bool}{s:bC}{i:Nat}(k:F2 X ops K M fuel listed s L i)(h:L'=L:=by repeat (first|exact rp rfl|apply nZ rfl|exact rfl)):F2 X ops K M fuel listed s L' i:=h▸k
theorem rX {α:Type}{P:Program}{s:bC}{L:List Chunk}{d:Option Nat}{ty:TypeId}{pos:String}{af:Array Edge}{gd:Option (Nat×Bool)}{R:Rep α}{sz off:Nat}{x:Operand}{v:Value}{xs:List α}{c:Chunk}{k:Nat}(i:Nat)(hi:L[i]? =some c)(he:DW R v xs c)(hx:bx s x=some (d5 v k sz off))(h1:k<xs.length):Rd P s L ⟨d,.nilCheck x,ty,pos,af,gd⟩ (d5 v k sz off):=fun Z w hw=>by
 obtain ⟨T,S,h⟩:=hw.get (bw hi);obtain ⟨A,cap,rfl, -, -,h4⟩:=he _ _ _ h;obtain ⟨b,o,vss,rfl, -⟩:=h4 V;exact bz (C:=(· =w)) (d:=d) (ty:=ty) (pos:=pos) (af:=af) (gd:=gd) hx
theorem ownsX.base {w:World}{e:TypeId}{sz:Nat}{A:Option Addr}{n c:Nat}{cs:List Value}(h:ownsX w e sz (.slice A n c) n cs)(hv:(Value.slice A n c)≠ U none 0 0): ∃c0,w.ownsRow 0 e sz (.slice A n c0) n cs/\(Value.slice A n c0)≠ U none 0 0/\n<=c/\c<=c0:=by
 rcases h.2 with ⟨e1, -⟩|⟨g,cap,cur,e1,p1,p2,p3,p4,p5,p6⟩
 ·exact absurd e1 hv
 injection e1 with e1 _ e3
 subst e1 e3;obtain ⟨c0,q1,q2,q3⟩:=p5;exact ⟨c0,⟨h.1,.inr ⟨g,c0,cur,J,p1,p2,Nat.le_trans p3 q1,q2,q3,p6⟩⟩,by simp,p3,q1⟩
theorem ownsX.recap {w:World}{e:TypeId}{sz:Nat}{A:Option Addr}{n c c0:Nat}{cs:List Value}(h:w.ownsRow 0 e sz (.slice A n c0) n cs)(hv:(Value.slice A n c0)≠ U none 0 0)(hc:n<=c/\c<=c0):ownsX w e sz (.slice A n c) n cs:=by
 rcases h.2 with ⟨e1, -⟩|⟨g,cap,cur,e1,p1,p2,p3,p4,p5,p6⟩
 ·exact absurd e1 hv
 injection e1 with e1 _ e3
 subst e1 e3;exact ⟨h.1,.inr ⟨g,c,cur,J,p1,p2,hc.1,Nat.le_trans hc.2 p4,⟨c0,hc.2,p4,p5⟩,p6⟩⟩
theorem Lc {α:Type}{P:Program}{s:bC}{L:List Chunk}{d:Option Nat}{ty:TypeId}{pos:String}{af:Array Edge}{gd:Option (Nat×Bool)}{R:Rep α}{t e sz:Nat}{x y z:Operand}{v:Value}{xs:List α}{k:Nat}(i:Nat)(hi:L[i]? =some (eu R e v xs))(hx:bx s x=some v)(hu:P.underlying t=some (.slice e))(hs:kX P e sz=true)(hsz:R.sz=sz)(hh:bx s y=some (.int .i64 (k:Int)))(hm:bx s z=some (.int .i64 (k:Int)))(h1:k<=xs.length):OpX P s L ⟨d,.slice t x none (some y) (some z),ty,pos,af,gd⟩ fun u L'=> ∃A n c,u=.slice A n c/\L'=L.set i (eu R e (.slice A n c) (xs.take k)):=fun ρ hρ Z w hw=>by
 have hw0:=hw;obtain ⟨T,S,hT⟩:=hw;obtain ⟨A,c,rfl,q1,q2, -⟩:=aI _ _ _ (hT.ok (bw hi));have hrun:=Dz (C:=fun _=>True) (d:=d) (ty:=ty) (pos:=pos) (af:=af) (gd:=gd) hx hu hs hh hm (Nat.le_refl _) V ρ hρ w trivial;refine .inl ⟨_,w,L.set i (eu R e (.slice (if k=0 then A else A.map (·.add 0)) k k) (xs.take k)),hrun,?_,_,_,_,J,J⟩
 have hl:(xs.take k).length=k:=by rw [R0];omega
 have hfin:SepL ((L++Z).set i (eu R e (.slice (if k=0 then A else A.map (·.add 0)) k k) (xs.take k))) w:=by
  refine hw0.weak (bw hi) fun T S ⟨vss,g1,g2⟩=>⟨vss.take k,g1.take k,?_⟩
  rcases Nat.eq_zero_or_pos k with rfl|hk
  ·exact .inr ⟨by simp,_,rfl⟩
  rcases g2 with ⟨g2,g4⟩|⟨h9, -⟩
  ·rcases g2.2 with ⟨e1,h9⟩|⟨g,cap,cur,e1,p1,p2,p3,p4,p5,p6⟩
   ·omega
   injection e1 with e1 _ e3
   subst e1 e3
   have hv:(Value.slice (if k=0 then some ⟨g,0,none⟩ else (some (⟨g,0,none⟩:Addr)).map (·.add 0)) k k)=.slice (some ⟨g,0,none⟩) k k:=by rw [if_neg V];simp [mT]
   rw [hv,hl];have hn:=qJ (g1.take k);rw [hl] at hn;refine .inl ⟨⟨hn,.inr ⟨g,k,cur,J,Nat.zero_le _,p2,Nat.le_refl _,by omega,?_,?_⟩⟩,fun q hq=>g4 q hq⟩
   ·obtain ⟨c0,r1,r2,r3⟩:=p5;exact ⟨c0,by omega,r2,r3⟩
   have h5:vss.flatten=(vss.take k).flatten++(vss.drop k).flatten:=by rw [<-List.flatten_append,List.take_append_drop]
   have h6:cur.toList.take (k*R.sz)=(cur.toList.take (xs.length*R.sz)).take (k*R.sz):=by rw [List.take_take,Nat.min_eq_left (Nat.mul_le_mul_right _ h1)]
   rw [h6,p6,h5, <-hn,List.take_left]
  omega
 rw [oN Z hi] at hfin;exact hfin
def Ld (w0:World)(X:Nat->Prop):Chunk where
 ok _ S w:=Agr X w0 w/\ ∀q,X q->S q
 loc:=fun h ⟨h1,h2⟩=>⟨h1.trans (h.mono fun q hq=> .inr (h2 q hq)),h2⟩
 mono:=fun hs ⟨h1,h2⟩=>⟨h1,fun q hq=>hs q (h2 q hq)⟩
 ro:=true
 dup:=fun _ _ _ _ h=>h
def KN (L:List Chunk)(n:Nat)(c:Chunk):Prop:= ∀(T:Nat->Nat->Prop) (S:Nat->Prop) (w:World),(∀(i:Nat) (c:Chunk),L[i]? =some c->c.ok (T i) S w)->c.ok (fun _=>False) (fun q=>S q\/ ∃j,n<=j/\T j q) w
section
variable {L:List Chunk} {n i:Nat}
theorem wn {α:Type}{R:Rep α}{e:TypeId}{v:Value}{xs:List α}(hn:Nat.ble n i=true)(hi:L[i]? =some (eu R e v xs)):KN L n (qq R v xs):=fun T S w h=>by
 obtain ⟨vss,h1,h2⟩:=h _ _ hi;rcases h2 with ⟨h2,hT⟩|⟨h0,A,rfl⟩
 ·rcases h2.2 with ⟨rfl,h0⟩|⟨g,cap,cur,rfl,g1,g2,g3,g4,g5,g6⟩
  ·exact ⟨none,0,by rw [h0],by omega,by omega,fun h=>absurd h V⟩
  exact ⟨_,cap,J,g3,by unfold maxLen at g4;omega,fun _=>⟨g,0,vss,rfl,.inr ⟨i,Nat.le_of_ble_eq_true hn,hT g rfl⟩,Blk.lt (t:=e) (cs:=cur) g2,h1.imp fun _ _=>R.mono fun _ hq=> .inl hq,lO (cap:=cap) g2 g6⟩⟩
 exact ⟨A,0,by rw [h0],by omega,by omega,fun h=>absurd h V⟩
end
theorem Le {P:Program}{f:FuncId}{vs:List Value}{L pre:List Chunk}{R:Value->List Chunk->Prop}(k n:Nat)(hc:Okc P f vs pre R)(hpre:pre.drop k=L.take n)(hn:Nat.ble n L.length=true)(hk:Nat.ble k pre.length=true)(hp: ∀c∈pre.take k,KN L n c)(hfr: ∀v post,R v post-> ∀c∈post,jJ c): ∀Z w,Sp Z L w->Calls P f vs.toArray w fun e w'=> ∃v post,e=.returned v/\Sp Z (post++L.drop n) w'/\R v post:=fun Z w hw=>by
 obtain ⟨T,S,hT⟩:=hw;have hn':=Nat.le_of_ble_eq_true hn;have hk':=Nat.le_of_ble_eq_true hk
 let X:Nat->Prop:=fun q=>S q\/ ∃j,n<=j/\T j q
 have hlen:pre.length=k+n:=by
  have h:=congrArg List.length hpre;rw [List.length_drop,R0] at h;omega
 have hX: ∀{i q},i<n->T i q->X q->False:=fun hi h1 h2=>h2.elim (fun h=>hT.ro h1 h) fun ⟨j,hj,h3⟩=>hT.apart V h1 h3
 have h1:Sp [Ld w X] pre w:=by
  refine ⟨fun i q=>k<=i/\i<k+n/\T (i - k) q,X,?_,?_,?_,?_,?_⟩
  ·intro i c hi;rcases Nat.lt_or_ge i pre.length with hlt|hge
   ·rw [List.getElem?_append_left hlt] at hi;rcases Nat.lt_or_ge i k with hik|hik
    ·have hm:c∈pre.take k:=List.mem_of_getElem? (show (pre.take k)[i]? =some c by rw [List.getElem?_take,if_pos hik];exact hi)
     have h2:=hp c hm T S w fun j d hj=>hT.ok (bw hj)
     have:(fun q=>k<=i/\i<k+n/\T (i - k) q)=fun _=>False:=by funext q;exact propext ⟨fun h=>by omega,fun h=>h.elim⟩
     rw [this];exact h2
    have hd:(pre.drop k)[i - k]? =some c:=by rw [List.getElem?_drop,show k+(i - k)=i by omega];exact hi
    rw [hpre,List.getElem?_take,if_pos V] at hd;have h2:=hT.ok (bw (Z:=Z) hd)
    have:(fun q=>k<=i/\i<k+n/\T (i - k) q)=T (i - k):=by funext q;exact propext ⟨fun h=>h.2.2,fun h=>⟨hik,by omega,h⟩⟩
    rw [this];exact c.mono (fun _ h=> .inl h) h2
   rw [List.getElem?_append_right hge] at hi
   have hc:c=Ld w X:=by
    cases hk:i - pre.length with
    |zero=>rw [hk] at hi;simpa using hi.symm
    |succ k=>rw [hk] at hi;simp at hi
   subst hc;exact ⟨Agr.refl _ _,fun _ h=>h⟩
  ·rintro i j q hij ⟨a1,a2,a3⟩ ⟨b1,b2,b3⟩;exact hT.apart V a3 b3
  ·rintro i q ⟨a1,a2,a3⟩ h;exact hX V a3 h
  ·rintro i q ⟨_,_,a3⟩;exact hT.lt a3
  rintro q (h|⟨j,_,h⟩)
  ·exact hT.lts h
  exact hT.lt h
 refine (hc _ w h1).mono ?_;rintro e w' ⟨v,post,rfl,⟨T',S',h2⟩,h3⟩;obtain ⟨hx,hS⟩:(Ld w X).ok (T' post.length) S' w':=h2.ok (by simp);refine ⟨v,post,J,⟨fun i q=>if i<post.length then T' i q else T (i - post.length+n) q,S,?_,?_,?_,?_,fun hq=>Nat.lt_of_lt_of_le (hT.lts hq) hx.size⟩,h3⟩
 ·intro i c hi;rw [RP] at hi;rcases Nat.lt_or_ge i post.length with hlt|hge
  ·rw [List.getElem?_append_left hlt] at hi;have h4:=h2.ok (show (post++ [Ld w X])[i]? =some c by rw [List.getElem?_append_left hlt];exact hi);simp only [hlt,if_true];exact hfr v post h3 c (List.mem_of_getElem? hi) _ _ _ _ h4
  rw [List.getElem?_append_right hge] at hi;simp only [show¬i<post.length by omega,if_false]
  have h5:(L++Z)[i - post.length+n]? =some c:=by
   rw [<-List.drop_append_of_le_length hn',List.getElem?_drop,Nat.add_comm] at hi;exact hi
  exact c.loc (hx.mono fun q hq=>hq.elim (fun h=> .inr ⟨_,by omega,h⟩) .inl) (hT.ok h5)
 ·intro i j q hij h4 h5;by_cases e1:i<post.length<;>by_cases e2:j<post.length
  ·simp only [e1,e2,if_true] at h4 h5;exact h2.apart hij h4 h5
  ·simp only [e1,e2,if_true,if_false] at h4 h5;exact h2.ro h4 (hS q (.inr ⟨_,by omega,h5⟩))
  ·simp only [e1,e2,if_true,if_false] at h4 h5;exact h2.ro h5 (hS q (.inr ⟨_,by omega,h4⟩))
  simp only [e1,e2,if_false] at h4 h5;exact hT.apart V h4 h5
 ·intro i q h4 h5;by_cases e1:i<post.length
  ·simp only [e1,if_true] at h4;exact h2.ro h4 (hS q (.inl h5))
  simp only [e1,if_false] at h4;exact hT.ro h4 h5
 intro i q h4;by_cases e1:i<post.length
 ·simp only [e1,if_true] at h4;exact h2.lt h4
 simp only [e1,if_false] at h4;exact Nat.lt_of_lt_of_le (hT.lt h4) hx.size
theorem Ff {P:Program}{s:bC}{L:List Chunk}{d:Option Nat}{ty:TypeId}{pos:String}{af:Array Edge}{gd:Option (Nat×Bool)}{f:FuncId}{xs:List Operand}{ats:Array TypeId}{vs:List Value}{pre:List Chunk}{R:Value->List Chunk->Prop}(k n:Nat)(hc:Okc P f vs pre R)(hf:ie P f)(hv:CW s xs=some vs)(hpre:pre.drop k=L.take n)(hn:Nat.ble n L.length=true)(hk:Nat.ble k pre.length=true)(hp: ∀c∈pre.take k,KN L n c)(hfr: ∀v post,R v post-> ∀c∈post,jJ c):OpX P s L ⟨d,.call ⟨.value (.func f),xs.toArray,ats⟩,ty,pos,af,gd⟩ fun u L'=> ∃post,R u post/\L'=post++L.drop n:=fun ρ hρ Z w hw=>by
 refine .inr (.inr (.inl ⟨f,vs.toArray,uH hf (li hρ hv) (hρ _ _ J),?_⟩));refine (Le k n hc hpre hn hk hp hfr Z w hw).mono ?_;rintro e w' ⟨v,post,rfl,h2,h3⟩;exact ⟨v,post++L.drop n,J,h2,post,h3,J⟩
theorem If {P:Program}{s:bC}{L:List Chunk}{d:Option Nat}{ty:TypeId}{pos:String}{af:Array Edge}{gd:Option (Nat×Bool)}{f:FuncId}{x:Operand}{xs:List Operand}{ats:Array TypeId}{vs us:List Value}{bs:Array Value}{pre:List Chunk}{R:Value->List Chunk->Prop}(hc:Okc P f us pre R)(hf:ie P f)(hx:bx s x=some (.func (.func f) bs #[]))(hv:CW s xs=some vs)(hu:bs.toList++vs=us)(hp: ∀c∈pre,xG L c)(hfr: ∀v post,R v post-> ∀c∈post,jJ c):OpX P s L ⟨d,.call ⟨.value x,xs.toArray,ats⟩,ty,pos,af,gd⟩ fun u L'=> ∃post,R u post/\L'=post++L:=fun ρ hρ Z w hw=>by
 subst hu;refine .inr (.inr (.inl ⟨f,(bs.toList++vs).toArray,by simpa using sO hf (li hρ hv) (hρ _ _ hx),?_⟩));refine (yf hc hp hfr Z w hw).mono ?_;rintro e w' ⟨v,post,rfl,h2,h3⟩;exact ⟨v,post++L,J,h2,post,h3,J⟩
theorem IG {α β:Type}{ek:α->Value}{ev:β->Value}{m:Nat}{kv:List (α×β)}:jJ (aj ek ev m kv):=fun _ _ _ _ h=>h
end
end Go.Proofs.YtjmonlcchlkdhaaGreat
namespace Go.Proofs
open Go.Shelf
def Tryz.lays215_ren:Go.Shelf.Ren:=⟨fun|215=>182|n=>n,fun|3=>3|4=>4|n=>n,fun|n=>n⟩
theorem Tryz.lays215:Go.Proofs.Lays.n215 Tryz.prog Tryz.lays215_ren:={
 mixed:=by kernel_rfl
 f215:=Tryz.func182.trans (congrArg some (by kernel_rfl))
 t3:=Tryz.underlying3
 a3:=Tryz.isAgg3
 z3:=Tryz.sizeOf3
 v3:=Tryz.zeroValue3
 t4:=Tryz.underlying4
 a4:=Tryz.isAgg4
 z4:=Tryz.sizeOf4
 v4:=Tryz.zeroValue4}
open Go.RowKit in
theorem Tryz.cmp_isNaN_int (x:Int)(w:World):
  Calls Tryz.prog 182 #[.int .i64 x] w fun e w'=>e=.returned (.bool false)∧w'=w:=Any.cmp_isNaN_int Tryz.lays215 x w
def Tryz.lays189_ren:Go.Shelf.Ren:=⟨fun|189=>148|125=>185|257=>184|128=>204|129=>205|294=>196|295=>197|296=>198|297=>199|298=>200|299=>201|216=>144|300=>202|301=>203|328=>211|329=>212|330=>213|331=>214|332=>215|215=>182|343=>216|n=>n,fun|28=>39|3=>3|46=>194|0=>0|51=>242|53=>244|4=>4|183=>236|182=>235|131=>139|5=>5|9=>9|218=>247|222=>251|228=>255|229=>256|n=>n,fun|n=>n⟩
theorem Tryz.lays189:Go.Proofs.Lays.n189 Tryz.prog Tryz.lays189_ren:={
 mixed:=by kernel_rfl
 f125:=Tryz.func185.trans (congrArg some (by kernel_rfl))
 f128:=Tryz.func204.trans (congrArg some (by kernel_rfl))
 f129:=Tryz.func205.trans (congrArg some (by kernel_rfl))
 f189:=Tryz.func148.trans (congrArg some (by kernel_rfl))
 f215:=Tryz.func182.trans (congrArg some (by kernel_rfl))
 f216:=Tryz.func144.trans (congrArg some (by kernel_rfl))
 f257:=Tryz.func184.trans (congrArg some (by kernel_rfl))
 f294:=Tryz.func196.trans (congrArg some (by kernel_rfl))
 f295:=Tryz.func197.trans (congrArg some (by kernel_rfl))
 f296:=Tryz.func198.trans (congrArg some (by kernel_rfl))
 f297:=Tryz.func199.trans (congrArg some (by kernel_rfl))
 f298:=Tryz.func200.trans (congrArg some (by kernel_rfl))
 f299:=Tryz.func201.trans (congrArg some (by kernel_rfl))
 f300:=Tryz.func202.trans (congrArg some (by kernel_rfl))
 f301:=Tryz.func203.trans (congrArg some (by kernel_rfl))
 f328:=Tryz.func211.trans (congrArg some (by kernel_rfl))
 f329:=Tryz.func212.trans (congrArg some (by kernel_rfl))
 f330:=Tryz.func213.trans (congrArg some (by kernel_rfl))
 f331:=Tryz.func214.trans (congrArg some (by kernel_rfl))
 f332:=Tryz.func215.trans (congrArg some (by kernel_rfl))
 f343:=Tryz.func216.trans (congrArg some (by kernel_rfl))
 t0:=Tryz.underlying0
 a0:=Tryz.isAgg0
 z0:=Tryz.sizeOf0
 v0:=Tryz.zeroValue0
 t3:=Tryz.underlying3
 a3:=Tryz.isAgg3
 z3:=Tryz.sizeOf3
 v3:=Tryz.zeroValue3
 t4:=Tryz.underlying4
 a4:=Tryz.isAgg4
 z4:=Tryz.sizeOf4
 v4:=Tryz.zeroValue4
 t5:=Tryz.underlying5
 a5:=Tryz.isAgg5
 z5:=Tryz.sizeOf5
 v5:=Tryz.zeroValue5
 t9:=Tryz.underlying9
 a9:=Tryz.isAgg9
 z9:=Tryz.sizeOf9
 v9:=Tryz.zeroValue9
 t28:=Tryz.underlying39
 a28:=Tryz.isAgg39
 z28:=Tryz.sizeOf39
 v28:=Tryz.zeroValue39
 t46:=Tryz.underlying194
 a46:=Tryz.isAgg194
 z46:=Tryz.sizeOf194
 v46:=Tryz.zeroValue194
 t51:=Tryz.underlying242
 a51:=Tryz.isAgg242
 z51:=Tryz.sizeOf242
 v51:=Tryz.zeroValue242
 t53:=Tryz.underlying244
 a53:=Tryz.isAgg244
 z53:=Tryz.sizeOf244
 v53:=Tryz.zeroValue244
 t131:=Tryz.underlying139
 a131:=Tryz.isAgg139
 z131:=Tryz.sizeOf139
 v131:=Tryz.zeroValue139
 t182:=Tryz.underlying235
 a182:=Tryz.isAgg235
 z182:=Tryz.sizeOf235
 v182:=Tryz.zeroValue235
 t183:=Tryz.underlying236
 a183:=Tryz.isAgg236
 z183:=Tryz.sizeOf236
 v183:=Tryz.zeroValue236
 t218:=Tryz.underlying247
 a218:=Tryz.isAgg247
 z218:=Tryz.sizeOf247
 v218:=Tryz.zeroValue247
 t222:=Tryz.underlying251
 a222:=Tryz.isAgg251
 z222:=Tryz.sizeOf251
 v222:=Tryz.zeroValue251
 t228:=Tryz.underlying255
 a228:=Tryz.isAgg255
 z228:=Tryz.sizeOf255
 v228:=Tryz.zeroValue255
 t229:=Tryz.underlying256
 a229:=Tryz.isAgg256
 z229:=Tryz.sizeOf256
 v229:=Tryz.zeroValue256}
open Go.Sort Go.RowKit in
theorem Tryz.slices_Sort_int (MQ off cap:Nat)(zs:List Int)(w:World)(hH:Holds (Value.int .i64) w MQ off zs.toArray)(hblk:MQ<w.heap.size)(hsz:zs.length<4611686018427387904):
  Calls Tryz.prog 148 #[.slice (some ⟨MQ,off,none⟩) zs.length cap] w fun e w'=>
   e=.returned (.tuple #[])∧ ∃n os,w'=grow (putRow (Value.int .i64) (Sort.ahead w n) MQ off (zs.mergeSort fun x y=>decide (x≤y)).toArray) os:=Any.slices_Sort_int Tryz.lays189 MQ off cap zs w hH hblk hsz
def Tryz.lays108_ren:Go.Shelf.Ren:=⟨fun|108=>180|n=>n,fun|28=>39|3=>3|0=>0|4=>4|n=>n,fun|n=>n⟩
theorem Tryz.lays108:Go.Proofs.Lays.n108 Tryz.prog Tryz.lays108_ren:={
 mixed:=by kernel_rfl
 f108:=Tryz.func180.trans (congrArg some (by kernel_rfl))
 t0:=Tryz.underlying0
 a0:=Tryz.isAgg0
 z0:=Tryz.sizeOf0
 v0:=Tryz.zeroValue0
 t3:=Tryz.underlying3
 a3:=Tryz.isAgg3
 z3:=Tryz.sizeOf3
 v3:=Tryz.zeroValue3
 t4:=Tryz.underlying4
 a4:=Tryz.isAgg4
 z4:=Tryz.sizeOf4
 v4:=Tryz.zeroValue4
 t28:=Tryz.underlying39
 a28:=Tryz.isAgg39
 z28:=Tryz.sizeOf39
 v28:=Tryz.zeroValue39}
open Go.Lib in
theorem Tryz.slices_Index_int (b off n c:Nat)(zs:List Int)(x:Int)(w:World)(hz:n≤zs.length)(hbig:n≤9223372036854775807)(hc: ∀j,j<zs.length→w.cell? ⟨b,off+j,none⟩=some (.int .i64 (zs.getD j 0))):
  Calls Tryz.prog 180 #[.slice (some ⟨b,off,none⟩) n c,.int .i64 x] w fun e w'=>e=.returned (.int .i64 (Lib.idxOf (zs.take n) x))∧w'=w:=Any.slices_Index_int Tryz.lays108 b off n c zs x w hz hbig hc
open Go.Lib in
theorem Tryz.slices_Index_int_empty (a:Option Addr)(c:Nat)(x:Int)(w:World):
  Calls Tryz.prog 180 #[.slice a 0 c,.int .i64 x] w fun e w'=>e=.returned (.int .i64 (Lib.idxOf [] x))∧w'=w:=Any.slices_Index_int_empty Tryz.lays108 a c x w
def Tryz.lays107_ren:Go.Shelf.Ren:=⟨fun|107=>134|108=>180|n=>n,fun|28=>39|3=>3|4=>4|0=>0|n=>n,fun|n=>n⟩
theorem Tryz.lays107:Go.Proofs.Lays.n107 Tryz.prog Tryz.lays107_ren:={
 mixed:=by kernel_rfl
 f107:=Tryz.func134.trans (congrArg some (by kernel_rfl))
 f108:=Tryz.func180.trans (congrArg some (by kernel_rfl))
 t0:=Tryz.underlying0
 a0:=Tryz.isAgg0
 z0:=Tryz.sizeOf0
 v0:=Tryz.zeroValue0
 t3:=Tryz.underlying3
 a3:=Tryz.isAgg3
 z3:=Tryz.sizeOf3
 v3:=Tryz.zeroValue3
 t4:=Tryz.underlying4
 a4:=Tryz.isAgg4
 z4:=Tryz.sizeOf4
 v4:=Tryz.zeroValue4
 t28:=Tryz.underlying39
 a28:=Tryz.isAgg39
 z28:=Tryz.sizeOf39
 v28:=Tryz.zeroValue39}
open Go.Lib in
theorem Tryz.slices_Contains_int (b off n c:Nat)(zs:List Int)(x:Int)(w:World)(hz:n≤zs.length)(hbig:n≤9223372036854775807)(hc: ∀j,j<zs.length→w.cell? ⟨b,off+j,none⟩=some (.int .i64 (zs.getD j 0))):
  Calls Tryz.prog 134 #[.slice (some ⟨b,off,none⟩) n c,.int .i64 x] w fun e w'=>e=.returned (.bool ((zs.take n).contains x))∧w'=w:=Any.slices_Contains_int Tryz.lays107 b off n c zs x w hz hbig hc
open Go.Lib in
theorem Tryz.slices_Contains_int_empty (a:Option Addr)(c:Nat)(x:Int)(w:World):
  Calls Tryz.prog 134 #[.slice a 0 c,.int .i64 x] w fun e w'=>e=.returned (.bool false)∧w'=w:=Any.slices_Contains_int_empty Tryz.lays107 a c x w
open Go.RowKit Go.Sort in
theorem Tryz.slices_Sort_int_none (p:Option Addr)(cap:Nat)(w:World):
  Calls Tryz.prog 148 #[.slice p 0 cap] w fun e w'=>e=.returned (.tuple #[])∧w'=w:=Any.slices_Sort_int_none Tryz.lays189 p cap w
end Go.Proofs
namespace Go.Proofs.YtjmonlcchlkdhaaGreat
section
variable {A0:Option Addr} {M1:Nat}
open Go.RowKit Go.Lib Go.Sort
abbrev OF (z:Int):Value:=.int .i64 z
def jc (zs:List Int):List Int:=zs.mergeSort fun x y=>decide (x<=y)
theorem sJ (zs:List Int):(jc zs).length=zs.length:=by simp [jc]
theorem K9 {w w':World}{base n:Nat}{v:Value}{xs:List Value}(h:w.ownsRow base 3 1 v n xs)(hb:Ext w w'):w'.ownsRow base 3 1 v n xs:=by
 refine ⟨h.1,?_⟩;rcases h.2 with h3|⟨g,cap,cur,e,hg,hh,r⟩
 ·exact .inl h3
 exact .inr ⟨g,cap,cur,e,hg,(Blk.ext (t:=3) hh hb),r⟩
theorem Kd (w:World)(os:Array Obj):Ext w (grow w os):=⟨rfl,rfl,rfl,by simp,fun _ hk=>heap_grow_old w os hk⟩
theorem IH {S:Nat->Prop}{w:World}{vss:List (List Value)}{xs:List Int}(h:All2 ((eT .i64).rel S w) vss xs):vss.flatten=xs.map OF:=by
 induction h with
 |nil=>rfl
 |cons h1 h2 ih=>
  simp only [List.flatten_cons,List.map_cons,ih];rw [show _=_ from h1];rfl
theorem C7 (S:Nat->Prop)(w:World): ∀(xs:List Int),All2 ((eT .i64).rel S w) (xs.map fun x=> [.int .i64 x]) xs
 | []=> .nil
 |x::xs=> .cons rfl (C7 S w xs)
theorem J4 (xs:List Int):((xs.map fun x=> [Value.int .i64 x])).flatten=xs.map OF:=by
 induction xs with
 |nil=>rfl
 |cons x l ih=>simp only [List.map_cons,List.flatten_cons,ih];rfl
def oW (_:Nat)(a0:List Int):Option RL:=bn (cc a0.length) (some (jc a0))
theorem Bg {N:Nat}{a0:List Int}{r:List Int}(h:oW N a0=some r){A:Option Addr}{n c:Nat}:Okc RY 148 [.slice A n c] [eu (eT .i64) 3 (.slice A n c) a0] fun u post=>u=.tuple #[]/\post=[eu (eT .i64) 3 (.slice A n c) r]:=fun Z w hw=>by
 obtain ⟨hf,h⟩:=ah h;obtain rfl:=cB h;have hw0:=hw;obtain ⟨T,S,hT⟩:=hw;obtain ⟨vss,g1,g2⟩:=hT.ok (i:=0) (c:=eu (eT .i64) 3 (.slice A n c) a0) rfl
 have none_:a0=[]->n=0->Calls RY 148 #[.slice A n c] w fun e w'=> ∃v post,e=.returned v/\Sp Z post w'/\v=.tuple #[]/\post=[eu (eT .i64) 3 (.slice A n c) (jc a0)]:=by
  rintro rfl rfl;refine (Tryz.slices_Sort_int_none A c w).mono ?_;rintro e w' ⟨rfl,rfl⟩
  have e0:jc []=[]:=by simp [jc]
  rw [e0];exact ⟨_,_,J,hw0,J,J⟩
 rcases g2 with ⟨ho,h3⟩|⟨h0,A',e⟩
 ·by_cases hv:(Value.slice A n c)=U none 0 0
  ·have hn:a0=[]:=by
    rcases ho.2 with ⟨_,h⟩|⟨g,cap,cur,e,_⟩
    ·exact List.eq_nil_of_length_eq_zero h
    rw [hv] at e;cases e
   injection hv with _ e2 _
   exact none_ hn e2
  have hnl:n=a0.length:=by
   rcases ho.2 with ⟨e1, -⟩|⟨g,cap,cur,e1, -⟩
   ·exact absurd e1 hv
   injection e1
  subst hnl;obtain ⟨c0,ho1,hv0,hc⟩:=ownsX.base ho hv;rw [IH g1] at ho1;obtain ⟨g,cap,e,hg,hlt,hn,hm, -,hH⟩:=holds_of_ownsRow ho1 hv0
  injection e with e1 e2 e3
  subst e1 e3;refine (Tryz.slices_Sort_int g 0 c a0 w hH hlt (by unfold cc at hf;omega)).mono ?_;rintro e w' ⟨rfl,k,os,rfl⟩;refine ⟨_,_,J,?_,J,J⟩;have hTg:T 0 g:=h3 g rfl;have h1:=ownsRow_putRow (q:=k) (ys:=jc a0) (k:=a0.length) ho1 (sJ a0) (Nat.le_refl _);rw [List.take_of_length_le (by rw [sJ];exact Nat.le_refl _)] at h1;have h2:=K9 h1 (Kd _ os);refine hT.upd (i:=0) (c:=eu (eT .i64) 3 (.slice (some ⟨g,0,none⟩) a0.length c) a0) J (T':=T 0) ⟨J,J,J,by simp [putRow,mapBlock,Sort.ahead],fun q hq hn=> ?_⟩ (fun _=> .inl) (fun q hq=>Nat.lt_of_lt_of_le (hT.lt hq) (by simp [putRow,mapBlock,Sort.ahead])) ?_
  ·have hne:q≠g:=fun e=>hn (e▸hTg)
   rw [heap_grow_old _ os (by simpa [putRow,mapBlock,Sort.ahead] using hq)];simp [putRow,mapBlock,Sort.ahead,Array.getElem?_modify,Ne.symm hne]
  refine ⟨(jc a0).map fun x=> [.int .i64 x],C7 _ _ _,.inl ⟨?_,h3⟩⟩;rw [J4,sJ];exact .recap h2 hv0 hc
 injection e with e1 e2 e3
 exact none_ (List.eq_nil_of_length_eq_zero h0) e2
end
end Go.Proofs.YtjmonlcchlkdhaaGreat
namespace Go.Proofs
open Go.Shelf
def Tryz.keysA_ren:Go.Shelf.Ren:=⟨fun|7=>104|10=>149|n=>n,fun|23=>145|26=>3|3=>4|28=>143|0=>0|27=>142|33=>87|4=>4|n=>n,fun|n=>n⟩
theorem Tryz.keysA:Go.Proofs.SlLaysZI.n7 Tryz.prog Tryz.keysA_ren:={
 mixed:=by kernel_rfl
 f7:=⟨Tryz.f104.name,by decide,Tryz.func104.trans (congrArg some (by kernel_rfl))⟩
 f10:=⟨Tryz.f149.name,by decide,Tryz.func149.trans (congrArg some (by kernel_rfl))⟩
 t0:=Tryz.underlying0
 a0:=Tryz.isAgg0
 z0:=Tryz.sizeOf0
 v0:=Tryz.zeroValue0
 t4:=Tryz.underlying4
 a4:=Tryz.isAgg4
 z4:=Tryz.sizeOf4
 v4:=Tryz.zeroValue4
 t23:=Tryz.underlying145
 a23:=Tryz.isAgg145
 z23:=Tryz.sizeOf145
 v23:=Tryz.zeroValue145
 t26:=Tryz.underlying3
 a26:=Tryz.isAgg3
 z26:=Tryz.sizeOf3
 v26:=Tryz.zeroValue3
 t27:=Tryz.underlying142
 a27:=Tryz.isAgg142
 z27:=Tryz.sizeOf142
 v27:=Tryz.zeroValue142
 t28:=Tryz.underlying143
 a28:=Tryz.isAgg143
 z28:=Tryz.sizeOf143
 v28:=Tryz.zeroValue143
 t33:=Tryz.underlying87
 a33:=Tryz.isAgg87
 z33:=Tryz.sizeOf87
 v33:=Tryz.zeroValue87}
def Tryz.sortedA_ren:Go.Shelf.Ren:=⟨fun|6=>103|8=>147|9=>148|11=>183|13=>185|12=>184|23=>204|24=>205|14=>196|15=>197|16=>198|17=>199|18=>200|19=>201|20=>144|21=>202|22=>203|25=>211|26=>212|27=>213|28=>214|29=>215|30=>182|31=>216|n=>n,fun|26=>3|28=>143|24=>39|0=>0|3=>3|37=>194|48=>242|50=>244|4=>4|40=>236|39=>235|45=>139|5=>5|9=>9|51=>247|55=>251|57=>255|58=>256|33=>87|n=>n,fun|n=>n⟩
theorem Tryz.sortedA:Go.Proofs.SlLaysZI.n6 Tryz.prog Tryz.sortedA_ren:={
 mixed:=by kernel_rfl
 f6:=⟨Tryz.f103.name,by decide,Tryz.func103.trans (congrArg some (by kernel_rfl))⟩
 f8:=⟨Tryz.f147.name,by decide,Tryz.func147.trans (congrArg some (by kernel_rfl))⟩
 f11:=⟨Tryz.f183.name,by decide,Tryz.func183.trans (congrArg some (by kernel_rfl))⟩
 t0:=Tryz.underlying0
 a0:=Tryz.isAgg0
 z0:=Tryz.sizeOf0
 v0:=Tryz.zeroValue0
 t24:=Tryz.underlying39
 a24:=Tryz.isAgg39
 z24:=Tryz.sizeOf39
 v24:=Tryz.zeroValue39
 t26:=Tryz.underlying3
 a26:=Tryz.isAgg3
 z26:=Tryz.sizeOf3
 v26:=Tryz.zeroValue3
 t28:=Tryz.underlying143
 a28:=Tryz.isAgg143
 z28:=Tryz.sizeOf143
 v28:=Tryz.zeroValue143
 i26:=by kernel_rfl}
def Tryz.sortA_ren:Go.Shelf.Ren:=⟨fun|5=>148|8=>185|7=>184|19=>204|20=>205|10=>196|11=>197|12=>198|13=>199|14=>200|15=>201|16=>144|17=>202|18=>203|30=>211|31=>212|32=>213|33=>214|34=>215|35=>182|40=>216|n=>n,fun|23=>39|25=>3|3=>3|32=>194|22=>39|0=>0|44=>242|46=>244|4=>4|36=>236|35=>235|41=>139|5=>5|9=>9|53=>247|57=>251|63=>255|64=>256|n=>n,fun|n=>n⟩
theorem Tryz.sortA:Go.Proofs.SlLaysM.n5 Tryz.prog Tryz.sortA_ren:={
 mixed:=by kernel_rfl
 f5:=⟨Tryz.f148.name,by decide,Tryz.func148.trans (congrArg some (by kernel_rfl))⟩
 f7:=⟨Tryz.f184.name,by decide,Tryz.func184.trans (congrArg some (by kernel_rfl))⟩
 f8:=Tryz.func185.trans (congrArg some (by kernel_rfl))
 f10:=⟨Tryz.f196.name,by decide,Tryz.func196.trans (congrArg some (by kernel_rfl))⟩
 f11:=⟨Tryz.f197.name,by decide,Tryz.func197.trans (congrArg some (by kernel_rfl))⟩
 f12:=⟨Tryz.f198.name,by decide,Tryz.func198.trans (congrArg some (by kernel_rfl))⟩
 f13:=⟨Tryz.f199.name,by decide,Tryz.func199.trans (congrArg some (by kernel_rfl))⟩
 f14:=⟨Tryz.f200.name,by decide,Tryz.func200.trans (congrArg some (by kernel_rfl))⟩
 f15:=⟨Tryz.f201.name,by decide,Tryz.func201.trans (congrArg some (by kernel_rfl))⟩
 f16:=⟨Tryz.f144.name,by decide,Tryz.func144.trans (congrArg some (by kernel_rfl))⟩
 f17:=⟨Tryz.f202.name,by decide,Tryz.func202.trans (congrArg some (by kernel_rfl))⟩
 f18:=⟨Tryz.f203.name,by decide,Tryz.func203.trans (congrArg some (by kernel_rfl))⟩
 f19:=Tryz.func204.trans (congrArg some (by kernel_rfl))
 f20:=Tryz.func205.trans (congrArg some (by kernel_rfl))
 f30:=⟨Tryz.f211.name,by decide,Tryz.func211.trans (congrArg some (by kernel_rfl))⟩
 f31:=Tryz.func212.trans (congrArg some (by kernel_rfl))
 f32:=Tryz.func213.trans (congrArg some (by kernel_rfl))
 f33:=⟨Tryz.f214.name,by decide,Tryz.func214.trans (congrArg some (by kernel_rfl))⟩
 f34:=⟨Tryz.f215.name,by decide,Tryz.func215.trans (congrArg some (by kernel_rfl))⟩
 f35:=⟨Tryz.f182.name,by decide,Tryz.func182.trans (congrArg some (by kernel_rfl))⟩
 f40:=⟨Tryz.f216.name,by decide,Tryz.func216.trans (congrArg some (by kernel_rfl))⟩
 t0:=Tryz.underlying0
 a0:=Tryz.isAgg0
 z0:=Tryz.sizeOf0
 v0:=Tryz.zeroValue0
 t3:=Tryz.underlying3
 a3:=Tryz.isAgg3
 z3:=Tryz.sizeOf3
 v3:=Tryz.zeroValue3
 t4:=Tryz.underlying4
 a4:=Tryz.isAgg4
 z4:=Tryz.sizeOf4
 v4:=Tryz.zeroValue4
 t5:=Tryz.underlying5
 a5:=Tryz.isAgg5
 z5:=Tryz.sizeOf5
 v5:=Tryz.zeroValue5
 t9:=Tryz.underlying9
 a9:=Tryz.isAgg9
 z9:=Tryz.sizeOf9
 v9:=Tryz.zeroValue9
 t22:=Tryz.underlying39
 a22:=Tryz.isAgg39
 z22:=Tryz.sizeOf39
 v22:=Tryz.zeroValue39
 t23:=Tryz.underlying39
 a23:=Tryz.isAgg39
 z23:=Tryz.sizeOf39
 v23:=Tryz.zeroValue39
 t25:=Tryz.underlying3
 a25:=Tryz.isAgg3
 z25:=Tryz.sizeOf3
 v25:=Tryz.zeroValue3
 t32:=Tryz.underlying194
 a32:=Tryz.isAgg194
 z32:=Tryz.sizeOf194
 v32:=Tryz.zeroValue194
 t35:=Tryz.underlying235
 a35:=Tryz.isAgg235
 z35:=Tryz.sizeOf235
 v35:=Tryz.zeroValue235
 t36:=Tryz.underlying236
 a36:=Tryz.isAgg236
 z36:=Tryz.sizeOf236
 v36:=Tryz.zeroValue236
 t41:=Tryz.underlying139
 a41:=Tryz.isAgg139
 z41:=Tryz.sizeOf139
 v41:=Tryz.zeroValue139
 t44:=Tryz.underlying242
 a44:=Tryz.isAgg242
 z44:=Tryz.sizeOf242
 v44:=Tryz.zeroValue242
 t46:=Tryz.underlying244
 a46:=Tryz.isAgg244
 z46:=Tryz.sizeOf244
 v46:=Tryz.zeroValue244
 t53:=Tryz.underlying247
 a53:=Tryz.isAgg247
 z53:=Tryz.sizeOf247
 v53:=Tryz.zeroValue247
 t57:=Tryz.underlying251
 a57:=Tryz.isAgg251
 z57:=Tryz.sizeOf251
 v57:=Tryz.zeroValue251
 t63:=Tryz.underlying255
 a63:=Tryz.isAgg255
 z63:=Tryz.sizeOf255
 v63:=Tryz.zeroValue255
 t64:=Tryz.underlying256
 a64:=Tryz.isAgg256
 z64:=Tryz.sizeOf256
 v64:=Tryz.zeroValue256}
end Go.Proofs
namespace Go.Proofs.YtjmonlcchlkdhaaGreat
section
variable {A0:Option Addr} {M1:Nat}
open Go.RowKit Go.Maps Go.Shelf
def fc {β:Type}(kv:List (Int×β)):List Int:=(kv.map (·.1)).mergeSort (fun x y=>decide (x<=y))
theorem F3 (m:Nat):AnyZI.SortsIn RY Tryz.sortedA_ren Fence.wide m:=
 ⟨fun MQ off cap ss hE hH hblk hsz=>callsIn_wide.2 (AnyM.slices_Sort_int Tryz.sortA MQ off cap ss hE hH hblk hsz),
  fun p cap hE=>callsIn_wide.2 (AnyM.slices_Sort_int_none Tryz.sortA p cap hE)⟩
abbrev Oq:Lit->Int:=Go.intOf
def EG:Value->Option (DataW Unit×List MemPlace):=fun _=>some (.nil,[])
theorem Gq {β:Type}{ev:β->Value}{w:World}{m:Nat}{kv:List (Int×β)}(h:Mp w m bf ev kv)(hk: ∀k∈kv.map (·.1),in64 k)(hd:(kv.map (·.1)).Nodup)(hn:kv.length<=1099511627776): ∃D:DataW Unit,w.ownsMap RY 3 EG m kv.length D/\(intKeys D).Perm (kv.map (·.1))/\Maps.size D=kv.length:=by
 obtain ⟨es,clk,h1,h2,h3,h4⟩:=h
 have hlen:es.size=kv.length:=by simpa using congrArg List.length h2
 have hrd: ∀x∈es.toList, ∃a,a∈kv.map (·.1)/\x.key=bf a/\WideElems.rd RY 3 EG x=some (Lit.int .i64 a,DataW.nil):=by
  intro x hx;have h5:(x.key,x.val)∈es.toList.map (fun e=>(e.key,e.val)):=List.mem_map.2 ⟨x,hx,rfl⟩;rw [h2] at h5;obtain ⟨p,hp,e⟩:=List.mem_map.1 h5;have e1:bf p.1=x.key:=congrArg Prod.fst e;have hp1:p.1∈kv.map (·.1):=List.mem_map.2 ⟨p,hp,rfl⟩;refine ⟨p.1,hp1,e1.symm,?_⟩;have hw:=hk p.1 hp1;unfold WideElems.rd;rw [<-e1];unfold bf;rw [keyOf_int_mk hP (by have e1:IntKind.i64.min= -9223372036854775808:=rfl;have e2:IntKind.i64.max=9223372036854775807:=rfl;unfold Lit.wf;simp only [e1,e2,R3,decide_eq_true_eq];exact hw)];rfl
 have hkeys:es.toList.map (·.key)=kv.map (fun p=>bf p.1):=by
  have h5:=congrArg (List.map Prod.fst) h2;simpa [List.map_map,Function.comp_def] using h5
 have hrg:(es.toList.map (WideElems.rg RY 3 EG)).map (fun p=>Oq p.1)=kv.map (·.1):=by
  have h6:es.toList.map (fun x=>Oq (WideElems.rg RY 3 EG x).1)=(es.toList.map (·.key)).map (fun v=>match v with| .int _ a=>a|_=>0):=by
   rw [List.map_map];apply List.map_congr_left;intro x hx;obtain ⟨a, -,h7,h8⟩:=hrd x hx;simp only [WideElems.rg,h8,Option.getD_some,Function.comp,h7];rfl
  simp only [List.map_map,Function.comp_def] at h6⊢;rw [h6];have h9:=congrArg (List.map (fun v:Value=>match v with| .int _ a=>a|_=>(0:Int))) hkeys;simp only [List.map_map,Function.comp_def,bf] at h9;exact h9
 refine ⟨_,⟨es,clk,h1,⟨by unfold maxLen;omega,⟨h4,?_,?_⟩,fun x hx=> ?_⟩,by omega,rfl⟩,?_,?_⟩
 ·rw [List.nodup_iff_pairwise_ne,List.pairwise_map]
  exact h3.imp fun h=>by omega
 ·rw [hkeys]
  have:kv.map (fun p=>bf p.1)=(kv.map (·.1)).map bf:=by rw [List.map_map];rfl
  rw [this,List.nodup_iff_pairwise_ne,List.pairwise_map]
  exact (List.nodup_iff_pairwise_ne.1 hd).imp fun h e=>h (by unfold bf at e;injection e)
 ·obtain ⟨a, -, -,h8⟩:=hrd x hx;exact ⟨_,h8⟩
 ·rw [<-hrg];exact ((WideShapes.sorted_perm _).map _)
 rw [Maps.size_eq,(WideShapes.sorted_perm _).length_eq];simp [hlen]
theorem Ib {a b:List Int}(h:a.Perm b):a.mergeSort (fun x y=>decide (x<=y))=b.mergeSort (fun x y=>decide (x<=y)):=by
 have tr: ∀x y z:Int,decide (x<=y)=true->decide (y<=z)=true->decide (x<=z)=true:=by simp;omega
 have tot: ∀x y:Int,(decide (x<=y)||decide (y<=x))=true:=by simp;omega
 have s1:=List.pairwise_mergeSort tr tot a;have s2:=List.pairwise_mergeSort tr tot b;have p:(a.mergeSort (fun x y=>decide (x<=y))).Perm (b.mergeSort (fun x y=>decide (x<=y))):=(List.mergeSort_perm a _).trans (h.trans (List.mergeSort_perm b _).symm);exact p.eq_of_pairwise (by intro x y _ _ h1 h2;simp at h1 h2;omega) s1 s2
def vm {β:Type}(_:Nat)(_:List (Int×β)):Option Unit:=some ()
theorem Eh {N:Nat}{a0:List (Int×Bool)}{r:Unit}(_:vm N a0=some r):Okc RY 104 [.map (some M1)] [] (fun u post=> ∃a1,u=.func (.func 149) #[] #[.pointer (some ⟨a1,0,none⟩)]/\post=[ac a1 145 [.map (some M1)]]):=fun Z w hw=>by
 have h:=callsIn_wide.1 (AnyZI.keys_in Tryz.keysA Fence.wide 5 trivial rfl (some M1) w);refine h.mono ?_;rintro e w' ⟨rfl,rfl⟩;refine ⟨_,_,J,?_,w.heap.size,J,J⟩
 exact SepL.new hw (Agr.of_ext ((Ext.refl w).alloc _)) fun _ S _=>⟨(· =w.heap.size),fun q hq=>by subst hq;simp,rfl,Blk.new w _ _⟩
def pB (_:Nat)(kv:List (Int×Bool)):Option RL:=bn ((∀k∈kv.map Prod.fst,in64 k)/\(kv.map Prod.fst).Nodup/\cc kv.length) (some (fc kv))
theorem ze {N:Nat}{a0:List (Int×Bool)}{r:List Int}(h:pB N a0=some r){B1 M2:Nat}:Okc RY 103 [.func (.func 149) #[] #[.pointer (some ⟨B1,0,none⟩)]] [ar B1 145 [.map (some M2)],eS bf bI M2 a0] (fun u post=> ∃A0 n0 c0,u=U A0 n0 c0/\post=[eu (eT .i64) 3 (U A0 n0 c0) r]):=fun Z w hw=>by
 obtain ⟨⟨hk,hd,hn⟩,h⟩:=ah h;obtain rfl:=cB h;obtain ⟨T,S,hs1,hbox⟩:=SepL.get hw (i:=0) (c:=ar B1 145 [.map (some M2)]) rfl;obtain ⟨T2,S2,hs2,hmp⟩:=SepL.get hw (i:=1) (c:=eS bf bI M2 a0) rfl;obtain ⟨D,hown,hperm,hsize⟩:=Gq hmp hk hd hn;have hcell:w.cell? ⟨B1,0,none⟩=some (.map (some M2)):=(RBlk.cells hbox 0).trans rfl
 have hseq:SeqGives Fence.wide 2 RY 149 #[.pointer (some ⟨B1,0,none⟩)] encZ (fun ss=>ss.Perm (intKeys D)) (Maps.size D) w:=
  AnyZI.keys_gives (ρ:=Tryz.keysA_ren) {Tryz.keysA with} Fence.wide _ trivial rfl V B1 M2 _ D w (RBlk.lt hbox) hcell hown
 have cS:=AnyZI.sorted_in Tryz.sortedA Fence.wide 5 trivial trivial trivial trivial rfl V (F3 _) (enters_of Tryz.func148 I rfl) 149 #[.pointer (some ⟨B1,0,none⟩)] trivial (enters_of Tryz.func149 I rfl) _ _ (by rw [hsize];unfold maxLen;omega) (by rw [hsize];omega) _ hseq;refine (callsIn_wide.1 cS).mono ?_;rintro e w' ⟨v,ss,rfl,hS,hrow,hnil,hb⟩;have hkeys:ss.mergeSort (fun x y=>decide (x<=y))=fc a0:=Ib (hS.trans hperm);rw [hkeys] at hrow
 have hlen:ss.length=(fc a0).length:=by rw [<-hkeys,List.length_mergeSort]
 rw [hlen] at hrow
 have hsh: ∃A c,v=.slice A (fc a0).length c:=by
  rcases hrow.2 with ⟨rfl,h0⟩|⟨g,cap,cur,rfl, -⟩
  ·exact ⟨none,0,by rw [h0]⟩
  exact ⟨_,cap,J⟩
 obtain ⟨A,c,rfl⟩:=hsh;refine ⟨_,_,J,?_,A,_,c,J,J⟩;have hz:SepL Z w:=SepL.dropL (A:=[ar B1 145 [.map (some M2)],eS bf bI M2 a0]) hw
 refine SepL.new hz (Agr.of_ext hb) fun _ S _=>⟨fun q=>(Value.slice A (fc a0).length c).ownBlock=some q,fun q hq=>World.ownsRow.lt hrow q hq,(fc a0).map (fun x=> [.int .i64 x]),?_,.inl ⟨?_,fun _ h=>h⟩⟩
 ·induction fc a0 with
  |nil=>exact .nil
  |cons x l ih=>exact .cons rfl ih
 have e:((fc a0).map (fun x=> [Value.int .i64 x])).flatten=(fc a0).map encZ:=by
  induction fc a0 with
  |nil=>rfl
  |cons x l ih=>simp only [List.map_cons,List.flatten_cons,ih];rfl
 rw [e];refine .of ⟨hrow.1,?_⟩;rcases hrow.2 with h1|⟨g,cap,cur,e1,hg,r⟩
 ·exact .inl h1
 exact .inr ⟨g,cap,cur,e1,Nat.zero_le _,r⟩
end
section
variable {A0:Option Addr} {M1:Nat}
open Go.RowKit
def HI (k:IntKind)(a b:Int):Int:=k.wrap (BitVec.ofInt k.bits a&&&BitVec.ofInt k.bits b).toNat
def Pz (k:IntKind)(a b:Int):Int:=k.wrap (BitVec.ofInt k.bits a|||BitVec.ofInt k.bits b).toNat
def OX (k:IntKind)(a b:Int):Int:=k.wrap (BitVec.ofInt k.bits a ^^^ BitVec.ofInt k.bits b).toNat
def NK (k:IntKind)(a b:Int):Int:=k.wrap (BitVec.ofInt k.bits a&&& ~~~BitVec.ofInt k.bits b).toNat
section
variable {P:Program} {s:bC} {d:Option Nat} {ty:TypeId} {pos:String} {af:Array Edge} {gd:Option (Nat×Bool)}
theorem GQ {t u:TypeId}{x y:Operand}{k:IntKind}{a b:Int}{C:World->Prop}(hx:bx s x=some (.int k a))(hy:bx s y=some (.int k b)):Ev P s C ⟨d,.binOp .and t x y u,ty,pos,af,gd⟩ (.int k (HI k a b)):=gb hx hy fun w=>by cases k<;>rfl
end
theorem GX (s:ByteArray):(s==s)=true:=by
 obtain ⟨d⟩:=s;show (d==d)=true;simp
def IF (b:ByteArray)(i:Int):Option Int:=if 0<=i then b[i.toNat]?.map fun x=>(x.toNat:Int) else none
section
variable {P:Program} {s:bC} {L:List Chunk} {d:Option Nat} {ty:TypeId} {pos:String} {af:Array Edge} {gd:Option (Nat×Bool)}
theorem wx {C:World->Prop}{t:TypeId}{x y:Operand}{k:IntKind}{b:ByteArray}{i r:Int}(hx:bx s x=some (.string b))(hy:bx s y=some (.int k i))(ht:P.underlying t=some .string)(h:IF b i=some r):Ev P s C ⟨d,.index t x y,ty,pos,af,gd⟩ (.int .u8 r):=fun ρ hρ w _=>by
 unfold IF at h;split at h
 ·rename_i h0
  cases hb:b[i.toNat]? with
  |none=>rw [hb] at h;cases h
  |some z=>
   rw [hb] at h;cases h;unfold execOp;simp only [hρ x _ hx,hρ y _ hy,Instr.index,asIntOf,Sem.run_bind,Sem.run_pure,run_underlying ht,Result.andThen_ok,if_pos h0,hb]
 cases h
end
end
section
variable {A0:Option Addr} {M1:Nat}
open Go.RowKit
def Qg {α:Type}(R:Rep α)(e:TypeId)(v:Value)(xs:List α):Chunk where
 ok T S w:= ∃(A:Option Addr) (n c:Nat) (pre:List α),(eu R e (.slice A n c) (pre++xs)).ok T S w/\0<xs.length/\v=.slice (tY A c pre.length R.sz) xs.length (c - pre.length)
 loc:=fun h ⟨A,n,c,pre,h1,h2⟩=>⟨A,n,c,pre,(eu R e _ _).loc h h1,h2⟩
 mono:=fun h ⟨A,n,c,pre,h1,h2⟩=>⟨A,n,c,pre,(eu R e _ _).mono h h1,h2⟩
 ro:=false
 dup:=fun h=>Bool.noConfusion h
section
variable {P:Program} {s:bC} {L:List Chunk} {d:Option Nat} {ty:TypeId} {pos:String} {af:Array Edge} {gd:Option (Nat×Bool)}
end
end
section
variable {A0:Option Addr} {M1:Nat}
open Go.RowKit
section
variable {P:Program} {s:bC} {L:List Chunk} {d:Option Nat} {ty:TypeId} {pos:String} {af:Array Edge} {gd:Option (Nat×Bool)}
theorem Dy {C:World->Prop}{t u:TypeId}{x y:Operand}{a b:ByteArray}(hx:bx s x=some (.string a))(hy:bx s y=some (.string b))(h:a.size+b.size<=9223372036854775807):Ev P s C ⟨d,.binOp .add t x y u,ty,pos,af,gd⟩ (.string (a++b)):=
 gb hx hy fun w=>by
  rw [Sem.run_bind];show (Op.stringOp .add a b).run P w=_;unfold Op.stringOp
  have hm: ¬(((a.size+b.size:Nat):Int)>IntKind.i64.max):=by
   have:IntKind.i64.max=9223372036854775807:=by decide
   omega
  simp only [if_neg hm];rfl
theorem Ki {C:World->Prop}{t e n:Nat}{x y:Operand}{b:Nat}{i:Int}(hx:bx s x=some (.pointer (some ⟨b,0,none⟩)))(hy:bx s y=some (.int .i64 i))(ht:P.underlying t=some (.array n e))(hs:kX P e 1=true)(h0:0<=i)(h1:i<(n:Int)):Ev P s C ⟨d,.indexAddr t x y,ty,pos,af,gd⟩ (.pointer (some ⟨b,i.toNat,none⟩)):=fun ρ hρ w _=>by
 unfold execOp;simp only [hρ x _ hx,hρ y _ hy,Sem.run_bind];unfold Instr.indexAt;simp only [asIntOf,Instr.sureAddr,Sem.run_bind,Sem.run_pure,run_underlying ht,Result.andThen_ok,if_pos (And.intro h0 h1),jx hs w];simp only [mT,Nat.mul_one,Nat.zero_add]
theorem Hh {α:Type}{t bt:TypeId}{x:Operand}{b k:Nat}(f:α->Value)(xs:List α){a:α}(i:Nat)(hi:L[i]? =some (ac b bt (xs.map f)))(hx:bx s x=some (.pointer (some ⟨b,k,none⟩)))(hu:fU P t=true)(ha:xs[k]? =some a):Rd P s L ⟨d,.load t x,ty,pos,af,gd⟩ (f a):=fun Z w hw=>by
 obtain ⟨T,S, -,h⟩:=hw.get (bw hi);exact vE hx hu (CV (p:=fun w=>w.cell? ⟨b,k,none⟩=some (f a)) ((h.cells k).trans (by simp [ha])))
end
theorem Fe {P:Program}{s:bC}{L:List Chunk}{d:Option Nat}{ty:TypeId}{pos:String}{af:Array Edge}{gd:Option (Nat×Bool)}{f:FuncId}{x:Operand}{xs:List Operand}{ats:Array TypeId}{vs us:List Value}{bs:Array Value}{pre rest:List Chunk}{R:Value->List Chunk->Prop}(hc:Okc P f us pre R)(hf:ie P f)(hx:bx s x=some (.func (.func f) bs #[]))(hv:CW s xs=some vs)(hu:bs.toList++vs=us)(hL:Cv L (pre++rest)):OpX P s L ⟨d,.call ⟨.value x,xs.toArray,ats⟩,ty,pos,af,gd⟩ fun u L'=> ∃post,R u post/\L'=post++rest:=fun ρ hρ Z w hw=>by
 subst hu;refine .inr (.inr (.inl ⟨f,(bs.toList++vs).toArray,by simpa using sO hf (li hρ hv) (hρ _ _ hx),?_⟩))
 have h1:Sp (rest++Z) pre w:=by have:=hL Z w hw;unfold Sp at*;simpa only [RP] using this
 refine (hc _ w h1).mono ?_;rintro e w' ⟨v,post,rfl,h2,h3⟩;exact ⟨v,post++rest,J,by unfold Sp at*;simpa only [RP] using h2,post,h3,rfl⟩
end
section
variable {A0:Option Addr} {M1:Nat}
open Go.RowKit
section
variable {P:Program} {s:bC} {L:List Chunk} {d:Option Nat} {ty:TypeId} {pos:String} {af:Array Edge} {gd:Option (Nat×Bool)}
def PJ (P:Program)(e:TypeId):Bool:=match P.info? e with
 |some i=>match i.zero with
  |some z=>z.cells.all (·.oneCell')
  |none=>false
 |none=>false
end
section
variable {X:Cx} {ops:Array Oper} {K:K3} {s:bC} {L:List Chunk} {l:List Oper}
end
section
variable {X:Cx} {ops:Array Oper} {K:K3} {M:List Chunk} {s:bC} {L:List Chunk} {fuel:Nat} {listed:Array Bool}
end
end
section
variable {A0:Option Addr} {M1:Nat}
open Go.RowKit
section
variable {X:Cx} {K:K3} {s:bC} {L:List Chunk}
theorem gH {ρ:Type}{c:Operand}{x y:Code}{b:Bool}{u v:Option ρ}{r:Option ρ}(hc:bx s c=some (.bool b))(h:(bif b then u else v)=r)(ht:u=r->Wq X x K s L)(hf:v=r->Wq X y K s L):Wq X (.cond c x y) K s L:=KU hc (fun g=>ht (az g h)) fun g=>hf (aA g h)
variable {ops:Array Oper} {rest:List Oper} {d:Nat} {op:Op} {ty:TypeId} {pos:String} {af:Array Edge} {gd:Option (Nat×Bool)}
theorem gV {v:Value}{C Z:List Chunk}(h:OpX X.P s L ⟨some d,op,ty,pos,af,gd⟩ fun u L'=> ∃post,(u=v/\post=C)/\L'=post++Z)(k:bO X ops rest K ((d,v)::s) (C++Z))(hn:gq ⟨some d,op,ty,pos,af,gd⟩=true:=by rfl)(hg:be ops s ⟨some d,op,ty,pos,af,gd⟩=some true:=by rfl)(hd:Nat.ble (d+1) X.n=true:=by rfl):bO X ops (⟨some d,op,ty,pos,af,gd⟩::rest) K s L:=gD h (by rintro _ _ ⟨_,⟨rfl,rfl⟩,rfl⟩;exact k) hn hg hd
theorem gU {v:Value}{C Z:List Chunk}(h:OpX X.P s L ⟨some d,op,ty,pos,af,gd⟩ fun u L'=> ∃post,(u=v/\post=C)/\L'=post++Z)(hg:be ops s ⟨some d,op,ty,pos,af,gd⟩=some true)(k:bO X ops rest K ((d,v)::s) (C++Z))(hn:gq ⟨some d,op,ty,pos,af,gd⟩=true:=by rfl)(hd:Nat.ble (d+1) X.n=true:=by rfl):bO X ops (⟨some d,op,ty,pos,af,gd⟩::rest) K s L:=gD h (by rintro _ _ ⟨_,⟨rfl,rfl⟩,rfl⟩;exact k) hn hg hd
theorem gW {Z:List Chunk}(h:OpX X.P s L ⟨none,op,ty,pos,af,gd⟩ fun _ L'=>L'=Z)(k:bO X ops rest K s Z)(hn:gq ⟨none,op,ty,pos,af,gd⟩=true:=by rfl)(hg:be ops s ⟨none,op,ty,pos,af,gd⟩=some true:=by rfl):bO X ops (⟨none,op,ty,pos,af,gd⟩::rest) K s L:=gO h (by rintro _ _ rfl;exact k) hn hg
theorem gB {F:Nat->Value}{G:Nat->List Chunk}(h:OpX X.P s L ⟨some d,op,ty,pos,af,gd⟩ fun u L'=> ∃b,u=F b/\L'=G b)(k: ∀b,bO X ops rest K ((d,F b)::s) (G b))(hn:gq ⟨some d,op,ty,pos,af,gd⟩=true:=by rfl)(hg:be ops s ⟨some d,op,ty,pos,af,gd⟩=some true:=by rfl)(hd:Nat.ble (d+1) X.n=true:=by rfl):bO X ops (⟨some d,op,ty,pos,af,gd⟩::rest) K s L:=gD h (by rintro _ _ ⟨b,rfl,rfl⟩;exact k b) hn hg hd
end
end
end Go.Proofs.YtjmonlcchlkdhaaGreat