/- Merged texts: part 2. No conditions of their own. -/
import Derived.Test.YtanojiedimeegaaGreatDoorG1
import Derived.SizedLaws
import Derived.OpenShut
import Derived.Lib.AppendZeros
import Derived.LoopNIn
import Derived.KernelRfl
import Derived.Test.YtanojiedimeegaaGreatDoorChecked
import Derived.ProofKit
namespace Go.Proofs.YtanojiedimeegaaGreatDoor
section
open Go.RowKit Go.ChangeShapes Go.WideShapes Go.Deep
theorem hE:type_of% Tryz.underlying38:=Tryz.underlying38
structure Light {H:Type} (P:Program) (t:TypeId) (d:DataW H):Prop where
 le: ∀n∈d.weights P t,n≤reachBytes
def Cd {α:Type}(P:Program)(t:TypeId)(R:Rep α)(wf:α→Prop):Prop:= ∀{H:Type} {enc:TypeId×Value→H} {w:World} {iu:Nat} {spare:Nat→Bool} {held:Bool} {n:Nat} {cs:List Value} {y:DataW H×List MemPlace},DataW.trod enc P w iu spare held n t cs=some y→Light P t y.1→ ∃a,R.rel (fun q=>q<w.heap.size) w cs a∧wf a
def Ma {α:Type}(wf:α→Prop)(xs:List α):Prop:=xs.length≤reachBytes∧ ∀x∈xs,wf x
theorem Rdr.w {α:Type}{P:Program}{t:TypeId}{R:Rep α}{wf:α→Prop}(h:Rdr P t R wf):Cd P t R wf:=fun h1 _=>h h1
theorem Bg {P:Program}{t:TypeId}(ht:P.underlying t=some .string):Cd P t Hu (fun s=>s.size≤reachBytes):=fun h hw=>by
 obtain ⟨a,r,rfl, -⟩:=DataW.trod_string ht h;refine ⟨a,r,hw.le a.size ?_⟩;show a.size∈DataW.weights P t (.lit (.string a.data.toList));unfold DataW.weights;exact List.mem_singleton.2 J
theorem qQ {H:Type}{P:Program}{e:TypeId}: ∀{l:List (DataW H)} {d:DataW H},d∈l→ ∀n∈d.weights P e,n∈DataW.weightsAll P e l
 |d::l,d',h,n,hn=>by
  unfold DataW.weightsAll;rcases List.mem_cons.1 h with rfl|h
  ·exact List.mem_append_left _ hn
  exact Nj _ (qQ h n hn)
theorem fD {H:Type}{P:Program}{t:TypeId}{fs:Array Field}(ht:P.underlying t=some (.struct fs)){xs:List (DataW H×List MemPlace)}{pl:List MemPlace}{y0:DataW H×List MemPlace}(hy:y0=(.agg (xs.map (·.1)),pl))(h:Light P t y0.1){i:Nat}{f:Field}(hf:fs[i]? =some f){y:DataW H×List MemPlace}(hx:xs[i]? =some y):Light P f.type y.1:=⟨fun n hn=>by
 subst hy;refine h.le n ?_;show n∈DataW.weights P t (.agg (xs.map (·.1)));unfold DataW.weights;rw [ht]
 exact DataW.weights_mem_each (j:=i) (t:=f.type) (d:=y.1) (by simp [hf]) (by simp [hx]) n hn⟩
theorem Hs {P:Program}{α:Type}{R:Rep α}{wf:α→Prop}{t e:TypeId}(ht:P.underlying t=some (.slice e))(hsz:P.cellsOf e=R.sz)(hpos:0<R.sz)(hb:0<P.bytesOf e)(he:Cd P e R wf):Cd P t R.sl (Ma wf):=fun {H enc w iu spare held n cs y} h hw=>by
 rcases open_slice ht h with ⟨rfl, -⟩|⟨a,len,cap,m,n,D,Pl,rfl,hb0,hl,hm,hmm,hy,hi⟩
 ·exact ⟨[],⟨_,J,Da _ _ _⟩,Nat.zero_le _,fun _ h=>by cases h⟩
 have hlm:len≤m:=by rw [hmm];split<;>omega
 rw [hsz] at hi
 have hwt:((List.range len).map D).length*P.bytesOf e≤reachBytes∧ ∀i,i<len→Light P e (D i):=by
  rw [hy] at hw;have hw': ∀n∈DataW.weights P t (.slice ((List.range len).map D) ((List.range (m - len)).map fun j=>D (len+j))),n≤reachBytes:=hw.le;unfold DataW.weights at hw';rw [ht] at hw';simp only at hw';refine ⟨Nat.le_trans (Nat.mul_le_mul_right _ (Nat.le_add_right _ _)) (hw' _ (List.mem_cons_self ..)),fun i hi=>⟨fun n hn=>hw' n (List.mem_cons_of_mem _ (List.mem_append_left _ (qQ (List.mem_map.2 ⟨i,List.mem_range.2 hi,J⟩) n hn)))⟩⟩
 rw [List.length_map,List.length_range] at hwt
 have key: ∀i:_root_.Fin len, ∃q:List Value×α,w.cells? iu (a.add (i*R.sz)) R.sz=some q.1∧R.rel (fun q=>q<w.heap.size) w q.1 q.2∧wf q.2:=fun i=>by
  obtain ⟨cs',h1,h2⟩:=hi i O;obtain ⟨a',h3,h4⟩:=he h2 (hwt.2 i i.2);exact ⟨(cs',a'),h1,h3,h4⟩
 let f:_root_.Fin len→List Value×α:=fun i=>Classical.choose (key i)
 have hf: ∀i:_root_.Fin len,w.cells? iu (a.add (i*R.sz)) R.sz=some (f i).1∧R.rel (fun q=>q<w.heap.size) w (f i).1 (f i).2∧wf (f i).2:=fun i=>Classical.choose_spec (key i)
 have hlen:(List.ofFn fun i=>(f i).2).length=len:=by simp
 unfold maxLen at hm;refine ⟨List.ofFn fun i=>(f i).2,⟨_,J,some a,cap,by rw [hlen],by rw [hlen];exact hl,hm,fun h0=> ?_⟩,?_,fun x hx=> ?_⟩
 ·rw [hlen] at h0;obtain ⟨-,hl0,hat0⟩:=World.cells?_some (hf ⟨0,h0⟩).1;have hc0:=hat0 0 hpos;have hll:(f ⟨0,h0⟩).1.length=R.sz:=R.len (hf ⟨0,h0⟩).2.1;have hz:(f ⟨0,h0⟩).1[0]? =some ((f ⟨0,h0⟩).1[0]'O):=List.getElem?_eq_getElem O;rw [hz] at hc0
  have ha0:(a.add ((⟨0,h0⟩:_root_.Fin len)*R.sz)).add 0=a:=by simp [Addr.add]
  rw [ha0] at hc0;have ha:=yn hc0;refine ⟨a.block,a.off,List.ofFn fun i=>(f i).1,by rw [←ha],block_lt_of_cell hc0,block_lt_of_cell hc0,va _ _ fun i=>(hf i).2.1,?_⟩
  have hall:=va (R:=R.rel (fun q=>q<w.heap.size) w) (fun i=>(f i).1) (fun i=>(f i).2) fun i=>(hf i).2.1
  have:=sy (b:=a.block) (o:=a.off) 0 _ _ hall (fun i vs hi=>by
   have hil:i<len:=by have:=(List.getElem?_eq_some_iff.1 hi).1;simpa using this
   have hvs:vs=(f ⟨i,hil⟩).1:=by
    rw [List.getElem?_ofFn] at hi;simp [hil] at hi;exact hi.symm
   subst hvs;obtain ⟨-,hl1,hat1⟩:=World.cells?_some (hf ⟨i,hil⟩).1;intro j u hu
   have hj:j<R.sz:=by rw [←R.len (hf ⟨i,hil⟩).2.1];exact (List.getElem?_eq_some_iff.1 hu).1
   have h3:=hat1 j hj;rw [hu,ha,zu,zu] at h3;rw [Nat.zero_add]
   exact h3)
  simpa using this
 ·rw [hlen];exact Nat.le_trans (Nat.le_mul_of_pos_right _ hb) hwt.1
 obtain ⟨i,rfl⟩:=List.mem_ofFn.1 hx;exact (hf i).2.2
open Go.RowKit
def xT {ρ:Type}(e:Option Exit)(n r:Option ρ)(x:Nat→Option ρ):Option ρ:=match e with
 |none=>n
 |some .ret=>r
 |some (.exit i)=>x i
 |some _=>none
theorem sj {K:K3}{e:Exit}{s:cJ}{L':List Chunk}(L:List Chunk)(h:L'=L)(k:K e s L):K e s L':=h▸k
theorem Eb {X:Cx}{K K':K3}{s:cJ}{L:List Chunk}{c:Code}(h:Wq X c K' s L)(hk: ∀e s L,K' e s L→ ∃(ι:Type) (Q:ι→List Chunk),L=[jj Q]∧ ∀x,K e s (Q x)):Wq X c K s L:=fun H Ds a w ha hd hw=>wpIn_mono (h H Ds a w ha hd hw) fun e a' w' ⟨s',L',Ds',h1,h2,h3,h4⟩=>by
 obtain ⟨ι,Q,rfl,h5⟩:=hk _ _ _ h4;obtain ⟨x,hx⟩:=lA h3;exact ⟨s',Q x,Ds',h1,h2,by simpa using hx,h5 x⟩
theorem yg {α σ ι ρ:Type}{X:Cx}{K:K3}{s:cJ}{g:Operand}{ps:List Nat}{assign body:Code}{gf:FuncId}{caps:Array Value}{en:α→List Value}(φ:α→σ→Option (Option Exit×σ))(Q:σ→ι→List Chunk)(pre:List Chunk)(σ₀:σ)(x₀:ι){je:Option Exit}{σr:σ}{L:List Chunk}{id:Nat}{vn vr:Option ρ}{vx:Nat→Option ρ}{v:ρ}
  (hr:X.r=none) (hg:cI s g=some (.func (.func gf) #[] caps)) (hf:aw X.P gf) (hps:ps.all (fun p=>Nat.ble (p+1) X.n)=true) (hen: ∀x,(en x).length=ps.length)
  (hit: ∀l (G:(Option Exit×σ)→List Chunk),qt X.P l G en (jW φ)→Okc X.P gf (.func (.yield l) #[] #[]::caps.toList) (pre++G (none,σ₀)) fun _ post=>post=G (je,σr))
  (hL:Cv L (pre++Q σ₀ x₀)) (h:xT je vn vr vx=some v)
  (hbody: ∀l x σ₁ je' σ₂ z,φ x σ₁=some (je',σ₂)→Wq ⟨X.P,X.n,some l⟩ assign (nx (fun s1 L1=>Wq ⟨X.P,X.n,some l⟩ body (RK je' [jj (Q σ₂)]) s1 L1) fun _ _ _=>False) (yv ps (en x) s) (Q σ₁ z))
  (hn: ∀z,vn=some v→bk id K .normal s (Q σr z)) (hret: ∀z,vr=some v→bk id K .ret s (Q σr z)) (hx: ∀i z,vx i=some v→bk id K (.exit i) s (Q σr z)):
  Wq X (.block id (.rangeFunc g ps.toArray assign body)) K s L:=by
 refine eZ (Eb (K':=fun e s' L'=>s'=s∧L'=[jj (Q σr)]∧ ∀z,bk id K e s (Q σr z)) ?_ ?_)
 ·refine I6 φ (fun q=> [jj (Q q)]) pre σ₀ hr hg hf hps hen hit ?_ ?_ ?_ ?_
  ·exact hL.trans (py pre (lm x₀ J))
  ·intro l x σ₁ je' σ₂ hφ
   exact G9 fun z=>hbody l x σ₁ je' σ₂ z hφ
  ·intro hj;rw [hj] at h;exact ⟨J,J,fun z=>hn z h⟩
  intro e he;rw [he] at h
  cases e with
  |ret=>exact ⟨rfl,rfl,rfl,fun z=>hret z h⟩
  |exit i=>exact ⟨rfl,rfl,rfl,fun z=>hx i z h⟩
  |_=>cases h
 rintro e s' L' ⟨rfl,rfl,h3⟩;exact ⟨ι,Q σr,J,h3⟩
theorem C1 {L L':List Chunk}{s:cJ}(h:Cv L L'):RK (some .ret) L' .ret s L:=⟨.inr ⟨rfl,rfl⟩,h⟩
theorem G3 {L L':List Chunk}{s:cJ}(h:Cv L L'):RK none L' .normal s L:=⟨.inl ⟨rfl,rfl⟩,h⟩
def Be (P:Program)(L:List Chunk)(s:cJ)(r:ResultVar)(v:Value):Prop:=match r with
 | .tmp t=>iR s t=some v
 | .cell t ty=> ∃b,iR s t=some (.pointer (some ⟨b,0,none⟩))∧ ∀Z w,Sp Z L w→(loadVar ty ⟨b,0,none⟩).run P w=.ok v w
def LL:List Value→Value
 | [v]=>v
 |vs=> .tuple vs.toArray
def wN (tm:Array Value)(r:ResultVar):Sem Value:=match r with
 | .tmp t=>pure (tm.getD t undef)
 | .cell a t=>do loadVar t (←asAddr (tm.getD a undef))
theorem Cu (fn:Func)(tm:Array Value):results fn tm=(do let vs←fn.results.mapM (wN tm);pure (if h:vs.size=1 then vs[0] else .tuple vs)):=rfl
theorem vh {X:Cx}{s:cJ}{a:Act}(ha:Fx X s a){L Z:List Chunk}{w:World}(hw:Sp Z L w): ∀{rs:List ResultVar} {vs:List Value},All2 (Be X.P L s) rs vs→(rs.mapM (wN a.tmps)).run X.P w=.ok vs w
 |_,_,.nil=>by simp
 | r::rs,_,.cons (b:=vr) h1 h2=>by
  have ih:=vh ha hw h2
  have h3:(wN a.tmps r).run X.P w=.ok vr w:=by
   cases r with
   |tmp t=>
    have e:=ha.at_ t _ h1;unfold wN;simp only [Sem.run_pure,e]
   |cell t ty=>
    obtain ⟨b,e1,e2⟩:=h1;have e:=ha.at_ t _ e1;unfold wN;simp only [e,asAddr,Sem.run_bind,Sem.run_pure,Result.andThen_ok,e2 _ _ hw]
  rw [List.mapM_cons,Sem.run_bind,h3,Result.andThen_ok,Sem.run_bind,ih,Result.andThen_ok,Sem.run_pure]
theorem cD {X:Cx}{fn:Func}{R:Value→List Chunk→Prop}{s:cJ}{L L2:List Chunk}{rs:List ResultVar}{vs:List Value}{v:Value}(hr:fn.results=rs.toArray)(h:All2 (Be X.P L s) rs vs)(hv:LL vs=v)(hc:Cv L L2)(hR:R v L2):C3 X fn R .ret s L:=fun a ha=>⟨v,L2,fun Z w hw=>by
 have h1:=vh ha hw h;rw [Cu,hr,Sem.run_bind];simp only [List.mapM_toArray]
 have h2:(List.toArray<$>rs.mapM (wN a.tmps)).run X.P w=.ok vs.toArray w:=by
  show ((rs.mapM (wN a.tmps))>>=fun l=>pure l.toArray).run X.P w=_;rw [Sem.run_bind,h1,Result.andThen_ok,Sem.run_pure]
 rw [h2,Result.andThen_ok,Sem.run_pure];subst hv
 match vs with
 | []=>rfl
 | [v]=>rfl
 |_::_::_=>simp [LL],hc,hR⟩
theorem ep {P:Program}{L:List Chunk}{s:cJ}{t:Nat}{v:Value}(h:iR s t=some v):Be P L s (.tmp t) v:=h
theorem bG {P:Program}{L:List Chunk}{s:cJ}{t ty bt b:Nat}{cs:List Value}(i:Nat)(hi:L[i]? =some (ac b bt cs))(hl:iR s t=some (.pointer (some ⟨b,0,none⟩)))(hu:qO P ty cs.length=true):Be P L s (.cell t ty) (.agg cs.toArray):=⟨b,hl,fun Z w hw=>by
 obtain ⟨T,S, -,h⟩:=hw.get (cE hi)
 exact yH hu h.all⟩
theorem Ei {P:Program}{t:TypeId}{a:Addr}{v:Value}{w:World}(hu:js P t=true)(hc:w.cell? a=some v):(loadVar t a).run P w=.ok v w:=by
 have h1:(isAgg t).run P w=.ok false w:=by
  unfold js at hu;unfold isAgg
  cases hq:P.underlying t with
  |none=>rw [hq] at hu;cases hu
  |some u=>rw [hq] at hu;rw [Sem.run_bind,run_underlying hq];cases u<;>first|rfl|(cases hu)
 simp only [loadVar,Sem.run_bind,Sem.run_pure,Result.andThen_ok,h1,Bool.false_eq_true,if_false,run_load,hc]
theorem rU {P:Program}{L:List Chunk}{s:cJ}{t ty bt b:Nat}{v:Value}(i:Nat)(hi:L[i]? =some (ac b bt [v]))(hl:iR s t=some (.pointer (some ⟨b,0,none⟩)))(hu:js P ty=true):Be P L s (.cell t ty) v:=⟨b,hl,fun Z w hw=>by
 obtain ⟨T,S, -,h⟩:=hw.get (cE hi)
 exact Ei hu (h.at (by simp))⟩
section
variable {P:Program} {s:cJ} {L:List Chunk} {d:Option Nat} {ty:TypeId} {pos:String} {af:Array Edge} {gd:Option (Nat×Bool)}
theorem sJ {sz:Nat}: ∀{vss:List (List Value)},(∀r∈vss,r.length=sz)→ ∀{k:Nat} {r:List Value},vss[k]? =some r→ ∀r':List Value,vss.flatten=vss.flatten.take (k*sz)++r++vss.flatten.drop (k*sz+sz)∧(vss.set k r').flatten=vss.flatten.take (k*sz)++r'++vss.flatten.drop (k*sz+sz)
 | [],_,k,r,h,_=>by simp at h
 |a::l,hl,0,r,h,r'=>by
  simp only [List.getElem?_cons_zero,Option.some.injEq] at h;subst h;have e:=hl a (by simp);simp [←e]
 |a::l,hl,k+1,r,h,r'=>by
  simp only [List.getElem?_cons_succ] at h;obtain ⟨h1,h2⟩:=sJ (fun x hx=>hl x (by simp [hx])) h r';have e:=hl a (by simp)
  have e1:(k+1)*sz=a.length+k*sz:=by rw [e,Nat.add_mul];omega
  have e2: ∀m:Nat,(a++l.flatten).take (a.length+m)=a++l.flatten.take m:=fun m=>by rw [List.take_append,List.take_of_length_le O,Nat.add_sub_cancel_left]
  have e3: ∀m:Nat,(a++l.flatten).drop (a.length+m)=l.flatten.drop m:=fun m=>by rw [List.drop_append,List.drop_eq_nil_of_le O,Nat.add_sub_cancel_left,List.nil_append]
  rw [List.set_cons_succ,List.flatten_cons,List.flatten_cons,e1,h2,Nat.add_assoc,e2,e3];refine ⟨?_,by simp only [Ni]⟩
  conv=>lhs;rw [h1]
  simp only [Ni]
theorem Ft {α:Type}{R:Rep α}{S:Nat→Prop}{w:World}{vss:List (List Value)}{xs:List α}(h:All2 (R.rel S w) vss xs): ∀r∈vss,r.length=R.sz:=by
 induction h with
 |nil=>intro r hr;cases hr
 |cons h1 _ ih=>
  intro r hr;rcases List.mem_cons.1 hr with rfl|hr
  ·exact R.len h1
  exact ih r hr
theorem JJ (cs us:List Value)(o:Nat)(h:o+us.length≤cs.length):(ow cs.toArray o us).toList=cs.take o++us++cs.drop (o+us.length):=wc cs us o h
theorem cZ {α:Type}{R:Rep α}{e:TypeId}{t:TypeId}{x y:Operand}{v u:Value}{us:List Value}{xs:List α}{k off:Nat}{z:α}(i:Nat)(hi:L[i]? =some (dr R e v xs))(hx:cI s x=some (fo v k R.sz off))(hy:cI s y=some u)(hv:u.cells.toList=us)(hs:gk P t us.length=true)(h1:us.all (·.oneCell')=true)(hk:k<xs.length)(hle:Nat.ble (off+us.length) R.sz=true)
  (hrel: ∀S w vs xk,xs[k]? =some xk→R.rel S w vs xk→Ro L S w→R.rel S w (vs.take off++us++vs.drop (off+us.length)) z):OpX P s L ⟨d,.store t x y,ty,pos,af,gd⟩ fun _ L'=>L'=L.set i (dr R e v (xs.set k z)):=fun ρ hρ Z w hw=>by
 obtain ⟨T,S,hT⟩:=hw;obtain ⟨vss,g1,g2⟩:=hT.ok (cE hi);have hle:=Nat.le_of_ble_eq_true hle;rcases g2 with ⟨g2,g3⟩|⟨h0, -⟩
 rotate_left
 ·omega
 rcases g2.2 with ⟨rfl,h0⟩|⟨g,cap,cur,rfl,q1,q2,q3,q4,q5,q6⟩
 ·omega
 obtain ⟨xk,hxk⟩: ∃xk,xs[k]? =some xk:=⟨_,List.getElem?_eq_getElem hk⟩;obtain ⟨vs,hvs,hr⟩:=g1.get hxk;have hl:=R.len hr
 have hlen:k*R.sz+R.sz≤xs.length*R.sz:=by rw [←Nat.succ_mul];exact Nat.mul_le_mul_right _ hk
 have hcap0:cap*R.sz≤cur.size:=by
  obtain ⟨c0,h1, -,h3⟩:=q5;rw [h3];exact Nat.mul_le_mul_right _ h1
 have hcap:xs.length*R.sz≤cap*R.sz:=Nat.mul_le_mul_right _ q3
 have hx':cI s x=some (.pointer (some ⟨g,k*R.sz+off,none⟩)):=by rw [hx];simp [fo]
 obtain ⟨w',e1,e2,e3⟩:=fK (P:=P) (t:=e) us w g (k*R.sz+off) 0 cur q2 O h1;have hz:=hrel S w vs xk hxk hr hT.ros.app;have hfl:=sJ (Ft g1) hvs (vs.take off++us++vs.drop (off+us.length));refine .inr (.inl ⟨w',L.set i (dr R e (.slice (some ⟨g,0,none⟩) xs.length cap) (xs.set k z)),?_,?_,J⟩)
 ·unfold execOp
  have hcs:u.cells=us.toArray:=by rw [←hv]
  simp only [hρ x _ hx',hρ y _ hy,Instr.storeAt,Instr.sureAddr,storeVar,Sem.run_bind,Sem.run_pure,Result.andThen_ok,jK hs w,hcs,List.size_toArray,ne_eq,not_true,if_false,e1]
 have hfin:SepL ((L++Z).set i (dr R e (.slice (some ⟨g,0,none⟩) xs.length cap) (xs.set k z))) w':=by
  refine hT.upd (cE hi) (T':=T i) (Agr.of_fr e2 fun q hq e=>hq (e▸g3 g J)) (fun _=> .inl) (fun q hq=>Nat.lt_of_lt_of_le (hT.lt hq) e2.size) ?_
  have hS:Agr S w w':=Agr.of_fr e2 fun q hq e=>hT.ro (g3 g rfl) (e▸hq)
  refine ⟨vss.set k (vs.take off++us++vs.drop (off+us.length)),(g1.imp fun _ _=>R.loc hS).set (R.loc hS hz) k,.inl ⟨?_,g3⟩⟩;rw [List.length_set]
  have hnew:((vss.set k (vs.take off++us++vs.drop (off+us.length))).flatten).length=xs.length*R.sz:=by
   have:=nc (R:=R) (S:=S) (w:=w) (g1.set hz k);rw [this,List.length_set]
  refine ⟨hnew,.inr ⟨g,cap,_,J,Nat.zero_le _,e3,q3,q4,by rw [tH];exact q5,?_⟩⟩
  have hcur:cur=cur.toList.toArray:=by simp
  have hsz:k*R.sz+off+us.length≤cur.toList.length:=by simp;omega
  rw [Nat.add_zero,hcur,JJ _ _ _ hsz,hfl.2];have hF:vss.flatten=cur.toList.take (xs.length*R.sz):=q6.symm;have hFl:vss.flatten.length=xs.length*R.sz:=g2.1;apply List.ext_getElem?;intro j;have hvl:vs.length=R.sz:=hl
  have key: ∀j',j'<R.sz→vs[j']? =vss.flatten[k*R.sz+j']? :=fun j' hj'=>by
   have h5:vs[j']? =some (vs[j']'O):=List.getElem?_eq_getElem O;rw [h5];exact (tv g1 hvs h5).symm
  by_cases hj:j<xs.length*R.sz
  ·rw [List.getElem?_take,if_pos hj];by_cases c1:j<k*R.sz
   ·rw [Ni,List.getElem?_append_left (by rw [List.length_take];simp;omega),List.getElem?_take,if_pos O,Ni,List.getElem?_append_left (by rw [List.length_take];omega),List.getElem?_take,if_pos c1,hF,List.getElem?_take,if_pos hj]
   by_cases c2:j<k*R.sz+off
   ·rw [Ni,List.getElem?_append_left (by rw [List.length_take];simp;omega),List.getElem?_take,if_pos c2];rw [Ni,List.getElem?_append_right (by rw [List.length_take];omega),List.length_take,show min (k*R.sz) vss.flatten.length=k*R.sz by omega];rw [Ni,Ni,List.getElem?_append_left (by rw [List.length_take];omega),List.getElem?_take,if_pos O,key _ O,show k*R.sz+(j - k*R.sz)=j by omega,hF,List.getElem?_take,if_pos hj]
   by_cases c3:j<k*R.sz+off+us.length
   ·rw [Ni,List.getElem?_append_right (by rw [List.length_take];simp;omega),List.length_take,show min (k*R.sz+off) cur.toList.length=k*R.sz+off by omega,List.getElem?_append_left O];rw [Ni,List.getElem?_append_right (by rw [List.length_take];omega),List.length_take,show min (k*R.sz) vss.flatten.length=k*R.sz by omega];rw [Ni,Ni,List.getElem?_append_right (by rw [List.length_take];omega),List.length_take,show min off vs.length=off by omega,List.getElem?_append_left O]
    congr 1;omega
   rw [Ni,List.getElem?_append_right (by rw [List.length_take];simp;omega),List.length_take,show min (k*R.sz+off) cur.toList.length=k*R.sz+off by omega,List.getElem?_append_right O,List.getElem?_drop];rw [Ni,List.getElem?_append_right (by rw [List.length_take];omega),List.length_take,show min (k*R.sz) vss.flatten.length=k*R.sz by omega];rw [Ni,Ni,List.getElem?_append_right (by rw [List.length_take];omega),List.length_take,show min off vs.length=off by omega,List.getElem?_append_right O];by_cases c4:j<k*R.sz+R.sz
   ·rw [List.getElem?_append_left (by rw [List.length_drop];omega),List.getElem?_drop,key _ O,hF,List.getElem?_take,if_pos O]
    congr 1;omega
   rw [List.getElem?_append_right (by rw [List.length_drop];omega),List.length_drop,List.getElem?_drop,hF,List.getElem?_take,if_pos O]
   congr 1;omega
  rw [List.getElem?_take,if_neg hj];refine (List.getElem?_eq_none ?_).symm;rw [←hfl.2,hnew];omega
 rw [mg Z hi] at hfin;exact hfin
theorem lK {P:Program}{w:World}{m c:Nat}{code:BoundsCode}(h:m≤c):(Instr.sliceBound (.int .i64 (m:Int)) c code).run P w=.ok m w:=by
 unfold Instr.sliceBound;simp only [asIntOf,Sem.run_bind,Sem.run_pure,Result.andThen_ok];rw [if_pos ⟨by omega,by omega⟩];simp
theorem EW {C:World→Prop}{t e sz:Nat}{x y z:Operand}{A:Option Addr}{n c:Nat}{h m:Nat}(hx:cI s x=some (.slice A n c))(hu:P.underlying t=some (.slice e))(hs:gk P e sz=true)(hh:cI s y=some (.int .i64 (h:Int)))(hm:cI s z=some (.int .i64 (m:Int)))(h1:h≤m)(h2:m≤c):Ev P s C ⟨d,.slice t x none (some y) (some z),ty,pos,af,gd⟩ (.slice (if m=0 then A else A.map (·.add 0)) h m):=fun ρ hρ w _=>by
 unfold execOp;simp only [Option.map_some,Option.map_none,hρ x _ hx,hρ y _ hh,hρ z _ hm,Instr.sliceAt,Instr.slice,Instr.sliceBounds,Sem.run_bind,run_underlying hu,Result.andThen_ok,lK h2,lK h1,jK hs w,Sem.run_pure,Nat.zero_mul];rfl
end
def LU {α:Type}(R:Rep α)(e:TypeId)(v:Value)(xs:List α)(vw:Value)(k:Nat):Chunk where
 ok T S w:= ∃vss,All2 (R.rel S w) vss xs∧((ownsX w e R.sz v xs.length vss.flatten∧ ∀q,v.ownBlock=some q→T q)∨(xs.length=0∧ ∃A,v=.slice A 0 0))∧k≤xs.length∧ ∃A,vw=.slice A k k∧k≤9223372036854775807∧(0<k→ ∃b,A=some ⟨b,0,none⟩∧T b∧b<w.heap.size∧CellsAt w b 0 (vss.take k).flatten)
 loc:=fun h ⟨vss,h1,h2,h3,A,h4,h5,h6⟩=>⟨vss,h1.imp fun _ _=>R.loc (h.mono fun _=> .inr),h2.imp (fun ⟨h2,h3⟩=>⟨yR h2 h fun q hq=> .inl (h3 q hq),h3⟩) id,h3,A,h4,h5,fun h0=>by
  obtain ⟨b,g1,g2,g3,g4⟩:=h6 h0
  exact ⟨b,g1,g2,Nat.lt_of_lt_of_le g3 h.size,g4.agr h (.inl g2) g3⟩⟩
 mono:=fun h ⟨vss,h1,h2,h3⟩=>⟨vss,h1.imp fun _ _=>R.mono h,h2,h3⟩
 ro:=false
 dup:=fun h=>Bool.noConfusion h
section
variable {P:Program} {s:cJ} {L:List Chunk} {d:Option Nat} {ty:TypeId} {pos:String} {af:Array Edge} {gd:Option (Nat×Bool)}
end
end
section
open Go.RowKit
def Fz (p:Prop):Chunk where
 ok _ _ _:=p
 loc:=fun _ h=>h
 mono:=fun _ h=>h
 ro:=true
 dup:=fun _ _ _ _ h=>h
theorem Hk {L Z:List Chunk}{w:World}{p:Prop}(h:Sp Z L w)(i:Nat)(hi:L[i]? =some (Fz p)):p:=by
 obtain ⟨T,S,h⟩:=h.get (cE hi);exact h
theorem DB {L:List Chunk}{p:Prop}(hp:p):Cv L (Fz p::L):=fun Z w h=>SepL.fact0 h fun _=>hp
inductive Rch (ops:Array Oper):Nat→Nat→Prop
 |one {j:Nat} {o:Oper} {e:Edge}:ops[j]? =some o→e∈o.after→Region.binds .any e=true→Rch ops j e.on
 |more {j k:Nat} {o:Oper} {e:Edge}:Rch ops j k→ops[k]? =some o→e∈o.after→Region.binds .any e=true→Rch ops j e.on
def wA (ops:Array Oper)(listed:Array Bool):Prop:= ∀k o e,listed.getD k false=true→ops[k]? =some o→e∈o.after→Region.binds .any e=true→listed.getD e.on false=true
theorem sU {ops:Array Oper}{listed:Array Bool}{j i:Nat}(hc:wA ops listed)(hr:j∈Region.ready .any ops listed)(h:Rch ops j i):listed.getD i false=true:=by
 induction h with
 |one ho he hb=>obtain ⟨_,o',ho',hall⟩:=mem_ready.1 hr;rw [ho] at ho';cases ho';exact hall _ he hb
 |more _ ho he hb ih=>exact hc _ _ _ ih ho he hb
theorem oF {listed:Array Bool}{i k:Nat}(h:(listed.setIfInBounds i true).getD k false=true):k=i∨listed.getD k false=true:=by
 by_cases e:i=k
 ·exact .inl e.symm
 rw [getD_set_ne false e] at h;exact .inr h
theorem CQ {ops:Array Oper}{listed:Array Bool}{j:Nat}(hc:wA ops listed)(hr:j∈Region.ready .any ops listed):wA ops (listed.setIfInBounds j true):=by
 intro k o e hk ho he hb;rcases oF hk with e1|hk
 ·subst e1;obtain ⟨_,o',ho',hall⟩:=mem_ready.1 hr;rw [ho] at ho';cases ho';exact getD_set_true (hall _ he hb)
 exact getD_set_true (hc _ _ _ hk ho he hb)
def tK (ops:Array Oper)(k:Nat):List Nat:=match ops[k]? with
 |some o=>(o.after.toList.filter (Region.binds .any)).map (·.on)
 |none=> []
def Fs (ops:Array Oper)(R:List Nat)(k:Nat):List Nat:=if R.contains k then tK ops k++R else R
def uD (ops:Array Oper)(t:Nat):List Nat:=(List.range t).reverse.foldl (Fs ops) (tK ops t)
theorem xg {ops:Array Oper}{k x:Nat}(h:x∈tK ops k): ∃o e,ops[k]? =some o∧e∈o.after∧Region.binds .any e=true∧e.on=x:=by
 unfold tK at h;split at h
 ·rename_i o ho
  obtain ⟨e,he,rfl⟩:=List.mem_map.1 h;obtain ⟨h1,h2⟩:=List.mem_filter.1 he;exact ⟨o,e,ho,by simpa using h1,h2,rfl⟩
 cases h
theorem rg {ops:Array Oper}{t:Nat}: ∀x∈uD ops t,Rch ops t x:=by
 unfold uD
 have key: ∀(l:List Nat) (R:List Nat),(∀x∈R,Rch ops t x)→ ∀x∈l.foldl (Fs ops) R,Rch ops t x:=by
  intro l
  induction l with
  |nil=>intro R h;exact h
  | cons k l ih=>
   intro R h
   refine ih _ fun x hx=> ?_
   unfold Fs at hx;split at hx
   ·rename_i hk
    rcases List.mem_append.1 hx with h1|h1
    ·obtain ⟨o,e,ho,he,hb,rfl⟩:=xg h1;exact .more (h k (by simpa using hk)) ho he hb
    exact h x h1
   exact h x hx
 refine key _ _ fun x hx=> ?_
 obtain ⟨o,e,ho,he,hb,rfl⟩:=xg hx;exact .one ho he hb
def OpAt (P:Program)(ρ:Operand→Value)(o:Oper)(R:Value→List Chunk→Prop)(Z:List Chunk)(w:World):Prop:=
  (∃v w' L',(execOp ρ o).run P w=.ok (.value v) w'∧Sp Z L' w'∧R v L')∨
  (∃w' L',(execOp ρ o).run P w=.ok .skip w'∧Sp Z L' w'∧R undef L')∨
  (∃f args,(execOp ρ o).run P w=.ok (.enter f args) w∧Calls P f args w fun e w'=> ∃v L',e=.returned v∧Sp Z L' w'∧R v L')∨
  (∃l f tmps assign body,(execOp ρ o).run P w=.ok (.round l f tmps assign body) w∧RoundIn Fence.wide 0 P l f tmps assign body w fun e w'=> ∃v L',e=.returned v∧Sp Z L' w'∧R v L')
def MS (P:Program)(ops:Array Oper)(s:cJ)(L:List Chunk)(o:Oper)(A:Value→List Chunk):Prop:= ∀Z w,Sp Z L w→(cg ops s o=some true∧ ∀ρ:Operand→Value,(∀x u,cI s x=some u→ρ x=u)→OpAt P ρ o (fun u L'=>Cv L' (A u++L)) Z w)∨(cg ops s o=some false∧Sp Z (A undef++L) w)
section
variable {P:Program} {ops:Array Oper} {s:cJ} {L:List Chunk} {o:Oper} {A:Value→List Chunk}
end
def AR (X:Cx)(ops:Array Oper)(K:K3)(fuel:Nat)(listed:Array Bool)(s:cJ)(L:List Chunk):Prop:= ∀(H:List Chunk) (Ds:List Nat) (a:Act) (w:World),Fx X s a→a.defers=Ds.map qF→Sp (Ds.map cW++H) L w→wpAnyIn (vX X.r) 0 X.P .any ops (rP X H (sG K)) fuel listed a w
section
variable {X:Cx} {ops:Array Oper} {K:K3} {s:cJ} {L:List Chunk} {fuel:Nat} {listed:Array Bool} {d:Nat} {op:Op} {ty:TypeId} {pos:String} {af:Array Edge} {gd:Option (Nat×Bool)}
theorem jT (hr:Region.ready .any ops listed=[])(h:K .normal s L):AR X ops K fuel listed s L:=by
 intro H Ds a w ha hds hw;have hq:rP X H (sG K) .normal a w:=⟨s,L,Ds,ha,hds,hw,rfl,h⟩
 cases fuel with
 |zero=>exact ⟨hr,hq⟩
 |succ n=>exact ⟨fun _=>hq,by rw [hr];simp⟩
theorem mq {t:cJ}{L':List Chunk}(h:AR X ops K fuel listed t L')(hs:yf s t)(hl:Cv L L'):AR X ops K fuel listed s L:=fun H Ds a w ha hds hw=>h H Ds a w (ha.sub hs) hds (hl _ _ hw)
theorem Ln (i:Nat){o:Oper}{R:Value→List Chunk→Prop}(hi:ops[i]? =some o)(hr:Region.ready .any ops listed=[i])(h:OpX X.P s L o R)(hn:i5 o=true)(hg:cg ops s o=some true)(hd:zi X.n o.dst=true)(k: ∀v L',R v L'→AR X ops K fuel (listed.setIfInBounds i true) (putE o.dst v s) L'):AR X ops K (fuel+1) listed s L:=
 fun H Ds a w ha hds hw=>⟨fun h=>absurd (hr.symm.trans h) (by simp),fun j hj=>by
  rw [hr,List.mem_singleton] at hj;subst hj;unfold wpOpIn;rw [hi];simp only [fc ha hg,if_true]
  exact h.wpIn hn ha hw fun v L' w' h1 h2=>k v L' h1 H Ds _ _ (ha.putE v hd) ((put_defers _ _ _).trans hds) h2⟩
theorem vG (i:Nat){R:Value→List Chunk→Prop}(hi:ops[i]? =some ⟨some d,op,ty,pos,af,gd⟩)(hr:Region.ready .any ops listed=[i])(h:OpX X.P s L ⟨some d,op,ty,pos,af,gd⟩ R)(hn:i5 ⟨some d,op,ty,pos,af,gd⟩=true)(hg:cg ops s ⟨some d,op,ty,pos,af,gd⟩=some true)(hd:Nat.ble (d+1) X.n=true)(k: ∀v L',R v L'→AR X ops K fuel (listed.setIfInBounds i true) ((d,v)::s) L'):AR X ops K (fuel+1) listed s L:=Ln i hi hr h hn hg hd k
theorem lO (i:Nat){R:Value→List Chunk→Prop}(hi:ops[i]? =some ⟨none,op,ty,pos,af,gd⟩)(hr:Region.ready .any ops listed=[i])(h:OpX X.P s L ⟨none,op,ty,pos,af,gd⟩ R)(hn:i5 ⟨none,op,ty,pos,af,gd⟩=true)(hg:cg ops s ⟨none,op,ty,pos,af,gd⟩=some true)(k: ∀v L',R v L'→AR X ops K fuel (listed.setIfInBounds i true) s L'):AR X ops K (fuel+1) listed s L:=Ln i hi hr h hn hg rfl k
theorem tk (i:Nat){v:Value}(hi:ops[i]? =some ⟨some d,op,ty,pos,af,gd⟩)(hr:Region.ready .any ops listed=[i])(h:Ev X.P s (fun _=>True) ⟨some d,op,ty,pos,af,gd⟩ v)(hn:i5 ⟨some d,op,ty,pos,af,gd⟩=true)(hg:cg ops s ⟨some d,op,ty,pos,af,gd⟩=some true)(hd:Nat.ble (d+1) X.n=true)(k:AR X ops K fuel (listed.setIfInBounds i true) ((d,v)::s) L):AR X ops K (fuel+1) listed s L:=vG i hi hr (FF h) hn hg hd fun _ _ ⟨e1,e2⟩=>by subst e1 e2;exact k
theorem Cf (i:Nat){v:Value}(hi:ops[i]? =some ⟨some d,op,ty,pos,af,gd⟩)(hr:Region.ready .any ops listed=[i])(h:Rd X.P s L ⟨some d,op,ty,pos,af,gd⟩ v)(hn:i5 ⟨some d,op,ty,pos,af,gd⟩=true)(hg:cg ops s ⟨some d,op,ty,pos,af,gd⟩=some true)(hd:Nat.ble (d+1) X.n=true)(k:AR X ops K fuel (listed.setIfInBounds i true) ((d,v)::s) L):AR X ops K (fuel+1) listed s L:=vG i hi hr (qy h) hn hg hd fun _ _ ⟨e1,e2⟩=>by subst e1 e2;exact k
end
def yh (m:Nat)(listed:Array Bool):List Nat:=(List.range m).filter fun i=>listed.getD i false
def K8 (ops:Array Oper)(m:Nat)(qs:List Nat)(ds:List Nat)(pr:List (List Nat))(s:cJ)(n:Nat):Bool:=
 Region.noSelect ops&&qs.all (fun q=>(match ops[q]? with|some o=>(List.range ops.size).all fun j=>Nat.beq j q||(tK ops j).contains q||(uD ops q).contains j||(match ops[j]? with|some oj=>o.apart ops oj|none=>true)|none=>false))&&FN ops&&decide (m≤ops.size)&&decide (ds.length=m)&&decide ds.Nodup&&ds.all (fun d=>Nat.ble (d+1) n&&s.all fun p=> !Nat.beq p.1 d)
 &&(List.range m).all (fun i=>(match ops[i]? with|some o=>o.dst==ds[i]? |none=>false)&&(pr.getD i []).all (fun k=>(uD ops i).contains k&&Nat.blt k m)&&decide (pr.getD i []).Nodup&&(tK ops i).all fun k=>Nat.blt k i)
 &&(List.range ops.size).all (fun t=>Nat.blt t m||(List.range m).all fun i=>qs.contains i||(uD ops t).contains i)
def yw (ds:List Nat)(val:Nat→Value)(ix:List Nat)(s:cJ):cJ:=ix.map (fun i=>(ds.getD i 0,val i))++s
def vC (As:List (Value→List Chunk))(val:Nat→Value)(ix:List Nat)(L:List Chunk):List Chunk:=(ix.flatMap fun i=>(As.getD i fun _=> []) (val i))++L
theorem tN: ∀(a b:cJ) (k:Nat) (v:Value),iR (a++b) k=some v→iR a k=some v∨(iR b k=some v)
 | [],_,_,_,h=> .inr h
 |(d,u)::a,b,k,v,h=>by
  rw [List.cons_append,i6] at h;rw [i6];split at h
  ·rename_i e;rw [if_pos e];exact .inl h
  rename_i e
  rw [if_neg e];exact tN a b k v h
theorem pG: ∀(a:cJ) (k:Nat) (v:Value),iR a k=some v→(k,v)∈a
 | [],_,_,h=>by cases h
 |(d,u)::a,k,v,h=>by
  rw [i6] at h;split at h
  ·rename_i e;cases h;subst e;simp
  simp [pG a k v h]
theorem OpAt.wpIn {X:Cx}{o:Oper}{R:Value→List Chunk→Prop}{Z:List Chunk}{a:Act}{w:World}(h:OpAt X.P a.eval o R Z w)(hn:i5 o=true)
  {K:Act→World→Prop} {Q:Exit→Act→World→Prop} (hK: ∀v L' w',R v L'→Sp Z L' w'→K (a.put o.dst v) w'):o.wpIn (vX X.r) 0 X.P a w K Q:=by
 refine ⟨fun _ _=>trivial,?_⟩
 have e:o.semAt (vX X.r).round a.eval=execOp a.eval o:=Oper.semAt_eq _ _ _ fun c hc=>by unfold i5 at hn;rw [hc] at hn;cases hn
 rw [e];rcases h with ⟨v,w',L',h1,h2,h3⟩|⟨w',L',h1,h2,h3⟩|⟨f,args,h1,h2⟩|⟨l,f,tmps,assign,body,h1,h2⟩
 ·rw [h1];exact hK _ _ _ h3 h2
 ·rw [h1];exact hK _ _ _ h3 h2
 ·rw [h1];refine ⟨(by intro h;cases h),?_⟩;have h3:CallsIn (vX X.r) (0 - 1) X.P f args w _:=callsIn_wide.2 h2;refine h3.mono ?_;rintro e w' ⟨v,L',rfl,h4,h5⟩;exact hK _ _ _ h5 h4
 rw [h1];refine ⟨(by intro h;cases h),?_⟩;have h3:RoundIn (vX X.r) (0 - 1) X.P l f tmps assign body w _:=h2;refine h3.mono ?_;rintro e w' ⟨v,L',rfl,h4,h5⟩;exact hK _ _ _ h5 h4
theorem kn: ∀(ix:List Nat) (l:Array Bool),(ot l ix).size=l.size
 | [],_=>rfl
 |i::ix,l=>by show (ot (l.setIfInBounds i true) ix).size=_;rw [kn ix];simp
theorem sT: ∀(ix:List Nat) (l:Array Bool) (k:Nat),k<l.size→(ot l ix).getD k false=(l.getD k false||ix.contains k)
 | [],_,_,_=>by simp [ot]
 | i::ix,l,k,hk=>by
  show (ot (l.setIfInBounds i true) ix).getD k false=_;rw [sT ix _ k (by simpa using hk)];by_cases e:i=k
  ·subst e;simp [hk]
  rw [getD_set_ne false e];simp [show¬k=i from fun h=>e h.symm]
theorem lZ {m:Nat}{listed:Array Bool}{i:Nat}:i∈yh m listed↔i<m∧listed.getD i false=true:=by unfold yh;simp
theorem lst_nodup {m:Nat}{listed:Array Bool}:(yh m listed).Nodup:=List.nodup_range.filter _
theorem wq {As:List (Value→List Chunk)}{val:Nat→Value}{a b:List Nat}(h:a.Perm b):(a.flatMap fun i=>(As.getD i fun _=> []) (val i)).Perm (b.flatMap fun i=>(As.getD i fun _=> []) (val i)):=h.flatMap_right _
theorem GX {r:Option Nat}{P:Program}{ops:Array Oper}{Q:Exit→Act→World→Prop}: ∀(fuel:Nat) (listed:Array Bool) (a:Act) (w:World),wpAnyIn (vX r) 0 P .any ops Q fuel listed a w→zv r P ops Q (fun _=>True) fuel listed a w
 |0,_,_,_,h=>h
 |fuel+1,listed,a,w,h=>⟨h.1,fun i hi=>wpOpIn_mono (fun a w hh=> .inl ⟨trivial,GX fuel _ a w hh⟩) (h.2 i hi)⟩
def QS (P:Program)(ops:Array Oper)(s:cJ)(L:List Chunk)(o:Oper)(A:Value→List Chunk):Prop:= ∀Z w,Sp Z L w→ ∃v,cg ops s o=some true∧Ev P s (fun _=>True) o v∧Sp Z (A v++L) w
def LF (P:Program)(ops:Array Oper)(s:cJ)(L L0:List Chunk)(o:Oper)(A:Value→List Chunk):Prop:= ∀Z w,Sp Z L w→ ∃v,cg ops s o=some true∧Ev P s (fun _=>True) o v∧Sp Z (A v++L0) w
theorem kh {P:Program}{ops:Array Oper}{s:cJ}{L L0:List Chunk}{o:Oper}{A:Value→List Chunk}{v:Value}(h:Ev P s (fun _=>True) o v)(hg:cg ops s o=some true)(k:Cv L (A v++L0)):LF P ops s L L0 o A:=fun _ _ hw=>⟨v,hg,h,k _ _ hw⟩
theorem eC {p:Nat→Oper→Prop}{ops:Array Oper}: ∀(i:Nat) (o:Oper),i<0→ops[i]? =some o→p i o:=fun i o h=>by omega
theorem ak {p:Nat→Oper→Prop}{ops:Array Oper}{n:Nat}{o':Oper}(ho:ops[n]? =some o')(h2:p n o')(h1: ∀(i:Nat) (o:Oper),i<n→ops[i]? =some o→p i o): ∀(i:Nat) (o:Oper),i<n+1→ops[i]? =some o→p i o:=fun i o hi h=>by
 by_cases e:i=n
 ·subst e;rw [ho] at h;cases h;exact h2
 exact h1 i o O h
theorem jO {p:Nat→Oper→Prop}{ops:Array Oper}{m:Nat}: ∀q∈([]:List Nat), ∀(o:Oper),q<m→ops[q]? =some o→p q o:=fun q h=>by cases h
theorem eW {p:Nat→Oper→Prop}{ops:Array Oper}{m q':Nat}{qs:List Nat}{o':Oper}(ho:ops[q']? =some o')(h2:p q' o')(h1: ∀q∈qs, ∀(o:Oper),q<m→ops[q]? =some o→p q o): ∀q∈q'::qs, ∀(o:Oper),q<m→ops[q]? =some o→p q o:=fun q hq o hm h=>by
 rcases List.mem_cons.1 hq with e|hq
 ·subst e;rw [ho] at h;cases h;exact h2
 exact h1 q hq o hm h
def KL (P:Program)(ops:Array Oper)(s:cJ)(L L0:List Chunk)(o:Oper)(A:Value→List Chunk):Prop:= ∀Z w,Sp Z L w→(cg ops s o=some true∧ ∀ρ:Operand→Value,(∀x u,cI s x=some u→ρ x=u)→OpAt P ρ o (fun u L'=>Cv L' (A u++L0)) Z w)∨(cg ops s o=some false∧Sp Z (A undef++L0) w)
section
variable {P:Program} {ops:Array Oper} {s:cJ} {L L0:List Chunk} {o:Oper} {A:Value→List Chunk}
theorem lH {R:Value→List Chunk→Prop}(h:OpX P s L o R)(hg:cg ops s o=some true)(k: ∀u L',R u L'→Cv L' (A u++L0)):KL P ops s L L0 o A:=fun Z w hw=> .inl ⟨hg,fun ρ hρ=>by
 rcases h ρ hρ Z w hw with ⟨v,w',L',h1,h2,h3⟩|⟨w',L',h1,h2,h3⟩|⟨f,args,h1,h2⟩|⟨l,f,t,a,b,h1,h2⟩
 ·exact .inl ⟨v,w',L',h1,h2,k _ _ h3⟩
 ·exact .inr (.inl ⟨w',L',h1,h2,k _ _ h3⟩)
 ·exact .inr (.inr (.inl ⟨f,args,h1,h2.mono fun e w' ⟨v,L',g1,g2,g3⟩=>⟨v,L',g1,g2,k _ _ g3⟩⟩))
 ·exact .inr (.inr (.inr ⟨l,f,t,a,b,h1,h2.mono fun e w' ⟨v,L',g1,g2,g3⟩=>⟨v,L',g1,g2,k _ _ g3⟩⟩))⟩
theorem cb {v:Value}(h:Ev P s (fun _=>True) o v)(hg:cg ops s o=some true)(k:Cv L (A v++L0)):KL P ops s L L0 o A:=lH (FF h) hg fun u L' ⟨e1,e2⟩=>by subst e1 e2;exact k
theorem gi {v:Value}(h:Rd P s L o v)(hg:cg ops s o=some true)(k:Cv L (A v++L0)):KL P ops s L L0 o A:=lH (qy h) hg fun u L' ⟨e1,e2⟩=>by subst e1 e2;exact k
end
def cl (u:Value)(k:Nat):Value:=u.cells.getD k undef
def tl (u:Value)(k:Nat):Value:=match u with| .tuple vs=>vs.getD k undef|_=>undef
def pb (u:Value):Nat:=match u with| .pointer (some a)=>a.block|_=>0
def mb (u:Value):Nat:=match u with| .map (some m)=>m|_=>0
end
section
open Go.RowKit
section
variable {P:Program} {s:cJ} {C:World→Prop} {d:Option Nat} {ty:TypeId} {pos:String} {af:Array Edge} {gd:Option (Nat×Bool)}
theorem Eh {t e:TypeId}(ht:P.underlying t=some (.slice e))(A:Option Addr)(n c:Nat)(w:World):(Op.equal t (.slice A n c) (I none 0 0)).run P w=.ok A.isNone w:=by
 show (Op.equalIn (9999+1) t (.slice A n c) (I none 0 0)).run P w=_;unfold Op.equalIn;rw [Sem.run_bind,run_underlying ht,Result.andThen_ok];cases A<;>rfl
theorem BQ {t e u:TypeId}{x:Operand}{A:Option Addr}{n c:Nat}(hx:cI s x=some (.slice A n c))(ht:P.underlying t=some (.slice e)):Ev P s C ⟨d,.binOp .eql t x (.const (I none 0 0)) u,ty,pos,af,gd⟩ (.bool A.isNone):=
 fw hx rfl fun w=>by
  rw [Sem.run_bind];show (binOp .eql t (.slice A n c) (I none 0 0)).run P w=_;have h1:(Op.equal t (.slice A n c) (I none 0 0)).run P w=.ok A.isNone w:=Eh ht A n c w;simp only [binOp,Sem.run_bind,h1,Result.andThen_ok];rfl
theorem J7 {t u:TypeId}{x y:Operand}{k k2:IntKind}{a b:Int}(hx:cI s x=some (.int k a))(hy:cI s y=some (.int k b))(ht:P.underlying t=some (.int k2))(hu:P.underlying u=some (.int k2)):Ev P s C ⟨d,.call ⟨.builtin .min, #[x,y], #[t,u]⟩,ty,pos,af,gd⟩ (.int k (min a b)):=fun ρ hρ w _=>by
 rw [ji (P:=P) (ρ:=ρ) (xs:=[x,y]) (vs:=[.int k a,.int k b]) (by simp [hρ x _ hx,hρ y _ hy]) w]
 have e:(if b<a then b else a)=min a b:=by rw [Int.min_def];split<;>split<;>omega
 cases k<;>simp [builtin,Builtin.min_,Builtin.min2,e]
theorem J8 {t u:TypeId}{x y:Operand}{k k2:IntKind}{a b:Int}(hx:cI s x=some (.int k a))(hy:cI s y=some (.int k b))(ht:P.underlying t=some (.int k2))(hu:P.underlying u=some (.int k2)):Ev P s C ⟨d,.call ⟨.builtin .max, #[x,y], #[t,u]⟩,ty,pos,af,gd⟩ (.int k (max a b)):=fun ρ hρ w _=>by
 rw [ji (P:=P) (ρ:=ρ) (xs:=[x,y]) (vs:=[.int k a,.int k b]) (by simp [hρ x _ hx,hρ y _ hy]) w]
 have e:(if a<b then b else a)=max a b:=by rw [Int.max_def];split<;>split<;>omega
 cases k<;>simp [builtin,Builtin.max_,Builtin.max2,e]
end
def Mw (P:Program)(s:cJ)(L:List Chunk)(o:Oper)(v:Value):Prop:= ∀Z w,Sp Z L w→Ev P s (fun _=>True) o v
section
variable {P:Program} {s:cJ} {L:List Chunk} {d:Option Nat} {ty:TypeId} {pos:String} {af:Array Edge} {gd:Option (Nat×Bool)}
end
theorem rH {a b:ByteArray}:a.toList=b.toList↔a=b:=by
 constructor
 ·intro h;rw [ByteArray.toList_eq,ByteArray.toList_eq] at h;exact WideShapes.bytes_inj h
 rintro rfl;rfl
theorem I9 {X:Cx}{K:K3}{s:cJ}{L:List Chunk}{cd:Code}{α:Type}{R:Rep α}{A:Option Addr}{n c:Nat}{xs:List α}{ch:Chunk}(i:Nat)(hi:L[i]? =some ch)(he:Ec R (.slice A n c) xs ch)(hA:A.isNone=true)(k:xs=[]→Wq X cd K s L):Wq X cd K s L:=fun H Ds a w ha hd hw=>by
 obtain ⟨T,S,h⟩:=hw.get (cE hi);obtain ⟨A',cap,e,h1,h2,h3⟩:=he _ _ _ h
 have hx:xs=[]:=by
  rcases Nat.eq_zero_or_pos xs.length with h0|h0
  ·exact List.eq_nil_of_length_eq_zero h0
  obtain ⟨b,o,vss,e2, -⟩:=h3 h0
  injection e with e
  rw [e,e2] at hA;cases hA
 exact k hx H Ds a w ha hd hw
section
variable {P:Program} {s:cJ} {L:List Chunk} {d:Option Nat} {ty:TypeId} {pos:String} {af:Array Edge} {gd:Option (Nat×Bool)}
theorem fM {f:FuncId}{x:Operand}{xs:List Operand}{ats:Array TypeId}{vs us:List Value}{caps:Array Value}{pre:List Chunk}{R:Value→List Chunk→Prop}(hc:Okc P f us pre R)(hf:aw P f)(hx:cI s x=some (.func (.func f) #[] caps))(hv:Dv s xs=some vs)(hu:vs++caps.toList=us)(hp: ∀c∈pre,AU L c)(hfr: ∀v post,R v post→ ∀c∈post,cM c):OpX P s L ⟨d,.call ⟨.value x,xs.toArray,ats⟩,ty,pos,af,gd⟩ fun u L'=> ∃post,R u post∧L'=post++L:=fun ρ hρ Z w hw=>by
 subst hu;refine .inr (.inr (.inl ⟨f,_,yI hf (nX hρ hv) (hρ _ _ hx),?_⟩));refine (xh hc hp hfr Z w hw).mono ?_;rintro e w' ⟨v,post,rfl,h2,h3⟩;exact ⟨v,post++L,J,h2,post,h3,J⟩
end
end
section
open Go.RowKit
def rN {α σ:Type}(P:Program)(l:Nat)(G:σ→List Chunk)(Q:α→List Value→List Chunk→Prop)(φ:α→σ→Option (Bool×σ)):Prop:=
 ∀x σ₁ b σ₂,φ x σ₁=some (b,σ₂)→ ∀vs cs,Q x vs cs→ ∀Z w,Sp Z (cs++G σ₁) w→ ∃fn tmps assign body,(Instr.yield l vs.toArray).run P w=.ok (.round l fn tmps assign body) w∧RoundIn Fence.wide 0 P l fn tmps assign body w fun e w'=>e=.returned (.bool b)∧Sp Z (G σ₂) w'
section
variable {P:Program} {s:cJ} {d:Option Nat} {ty:TypeId} {pos:String} {af:Array Edge} {gd:Option (Nat×Bool)}
theorem Es {α σ:Type}{l:Nat}{G:σ→List Chunk}(E:List Chunk){Q:α→List Value→List Chunk→Prop}{φ:α→σ→Option (Bool×σ)}{a:α}{σ₁:σ}{y:Bool×σ}{x:Operand}{xs:List Operand}{ats:Array TypeId}{vs:List Value}{cs:List Chunk}(hY:rN P l G Q φ)(hr:φ a σ₁=some y)(hx:cI s x=some (.func (.yield l) #[] #[]))(hv:Dv s xs=some vs)(hq:Q a vs cs)(hd:Cv (E++G σ₁) (cs++(E++G σ₁))):OpX P s (E++G σ₁) ⟨d,.call ⟨.value x,xs.toArray,ats⟩,ty,pos,af,gd⟩ fun u L'=>u=.bool y.1∧L'=E++G y.2:=fun ρ hρ Z2 w hw=>by
 obtain ⟨b,σ₂⟩:=y;have h0:=hd Z2 w hw
 have h1:Sp (E++Z2) (cs++G σ₁) w:=by
  have h2:SepL ((cs++(E++G σ₁))++Z2) w:=h0;refine SepL.perm h2 ?_;simp only [Ni];exact List.Perm.append_left cs (List.perm_append_comm_assoc _ _ _)
 obtain ⟨fn,tmps,assign,body,h2,h3⟩:=hY a σ₁ b σ₂ hr vs cs hq _ w h1;refine .inr (.inr (.inr ⟨l,fn,tmps,assign,body,?_,?_⟩))
 ·unfold execOp;simp only [resolve,hρ x _ hx,Deferred.ofValue,List.map_toArray,nX hρ hv];simp only [invoke,Sem.run_bind,Sem.run_pure,Result.andThen_ok];simpa using h2
 refine h3.mono ?_;rintro e w' ⟨rfl,h4⟩;refine ⟨_,_,J,?_,J,J⟩;have h5:SepL (G σ₂++(E++Z2)) w':=h4;refine SepL.perm h5 ?_;simp only [Ni];exact List.perm_append_comm_assoc _ _ _
end
theorem Fe {ι:Type}{Q:ι→List Chunk}{X:Cx}{K:K3}{s:cJ}{c:Code}(cs:List Chunk)(h: ∀x,Wq X c K s (cs++Q x)):Wq X c K s (cs++ [jj Q]):=fun H Ds a w ha hd hw=>by
 have h1:Sp (cs++(Ds.map cW++H)) [jj Q] w:=by
  refine SepL.perm hw ?_;simp only [Ni];exact List.perm_append_comm_assoc _ _ _
 obtain ⟨x,hx⟩:=lA h1
 have h2:Sp (Ds.map cW++H) (cs++Q x) w:=by
  refine SepL.perm hx ?_;simp only [Ni,List.nil_append];exact List.perm_append_comm_assoc _ _ _
 exact h x H Ds a w ha hd h2
theorem Fg {α σ:Type}{X:Cx}{K:K3}{s:cJ}{g:Operand}{ps:List Nat}{assign body:Code}{gf:FuncId}{caps:Array Value}{Q:α→List Value→List Chunk→Prop}(φ:α→σ→Option (Option Exit×σ))(E:σ→List Chunk)(pre:List Chunk)(σ₀:σ){je:Option Exit}{σr:σ}{L:List Chunk}
  (hr:X.r=none) (hg:cI s g=some (.func (.func gf) #[] caps)) (hf:aw X.P gf) (hps:ps.all (fun p=>Nat.ble (p+1) X.n)=true) (hen: ∀x vs cs,Q x vs cs→vs.length=ps.length)
  (hit: ∀l (G:(Option Exit×σ)→List Chunk),rN X.P l G Q (jW φ)→Okc X.P gf (.func (.yield l) #[] #[]::caps.toList) (pre++G (none,σ₀)) fun _ post=>post=G (je,σr))
  (hL:Cv L (pre++E σ₀))
  (hbody: ∀l x σ₁ je' σ₂,φ x σ₁=some (je',σ₂)→ ∀vs cs,Q x vs cs→Wq ⟨X.P,X.n,some l⟩ assign (nx (fun s1 L1=>Wq ⟨X.P,X.n,some l⟩ body (RK je' (E σ₂)) s1 L1) fun _ _ _=>False) (yv ps vs s) (cs++E σ₁))
  (hdone:je=none→K .normal s (E σr)) (hleft: ∀e,je=some e→(qn e).isSome=true∧K e s (E σr)):
  Wq X (.rangeFunc g ps.toArray assign body) K s L:=by
 intro H Ds a w ha hds hw;obtain ⟨P,n,r⟩:=X;simp only at hr hf hps hit hbody;subst hr;refine wpIn_rangeFunc ?_;intro fn hfn;have hev:a.eval g=.func (.func gf) #[] caps:=ha.eval hg
 obtain ⟨rec_,hrec⟩: ∃rec_:Option Exit→LoopState→Loop,rec_=fun j st=>{state:=st,pending:=j.bind qn,fn,tmps:=a.tmps,params:=ps.toArray,assign,body,defers:=w.heap.size}:=⟨_,rfl⟩
 obtain ⟨stOf,hst⟩: ∃stOf:Option Exit→LoopState,stOf=fun j=>if j.isNone then .ready else .done:=⟨_,rfl⟩
 obtain ⟨l,hl⟩: ∃l,l=w.heap.size+1:=⟨_,rfl⟩;obtain ⟨W1,hW1⟩: ∃W1,(w.alloc (.deferred (some []))).alloc (.loop (rec_ none .ready))=W1:=⟨_,rfl⟩
 have hY:rN P l (fun q=>jB l (rec_ q.1 (stOf q.1))::E q.2) Q (jW φ):=by
  rintro x ⟨j₁,σ₁⟩ b ⟨j₂,σ₂⟩ hx vs cs hq Z w1 hw1;unfold jW at hx
  cases j₁ with
  |some e=>cases hx
  | none=>
   simp only at hx
   cases hφ:φ x σ₁ with
   |none=>rw [hφ] at hx;cases hx
   | some y=>
    rw [hφ] at hx;simp only [Option.map_some,Option.some.injEq,Prod.mk.injEq] at hx;obtain ⟨hb,hy⟩:=hx;subst hb hy
    have h0:SepL (cs++(jB l (rec_ none .ready)::(E σ₁++Z))) w1:=by
     have:stOf none=.ready:=by rw [hst];rfl
     simp only [this] at hw1;unfold Sp at hw1;simpa only [Ni,List.cons_append] using hw1
    have hk1:=oT h0;have hy:=run_yield (P:=P) (args:=vs.toArray) hk1 (by rw [hrec];simp [hen x vs cs hq]);refine ⟨_,_,_,_,hy,roundIn_of_wpIn (F:=Fence.wide) trivial ?_⟩
    have hfx:Fx ⟨P,n,some l⟩ (yv ps vs s) ⟨((rec_ none .ready).params.zip vs.toArray).foldl (fun t (p:Nat×Value)=>t.setIfInBounds p.1 p.2) (rec_ none .ready).tmps,[]⟩:=by
     have h1:=Af (X:=⟨P,n,some l⟩) (ds:=[]) (ps.zip vs) s a.tmps (by
      rw [List.all_eq_true] at hps⊢;intro p hp
      exact hps p.1 (List.of_mem_zip hp).1) ⟨ha.size,ha.at_⟩
     have e:(((rec_ none .ready).params.zip vs.toArray).foldl (fun t (p:Nat×Value)=>t.setIfInBounds p.1 p.2) (rec_ none .ready).tmps)=(ps.zip vs).foldl (fun t (p:Nat×Value)=>t.setIfInBounds p.1 p.2) a.tmps:=by
      rw [hrec];simp
     rw [e];exact h1
    have hsp:Sp (([]:List Nat).map cW++(jB l (rec_ none .ready)::Z)) (cs++E σ₁) w1:=h0.perm (by simpa only [Ni,List.map_nil,List.nil_append] using List.Perm.append_left cs List.perm_middle.symm);have hrun:=hbody l x σ₁ j₂ σ₂ hφ vs cs hq (jB l (rec_ none .ready)::Z) [] _ w1 hfx rfl hsp
    have hasg:(rec_ none .ready).assign=assign:=by rw [hrec]
    have hbdy:(rec_ none .ready).body=body:=by rw [hrec]
    rw [hasg,hbdy];refine wpIn_mono hrun ?_;rintro e a1 w2 ⟨s1,L1,Ds1,g1,g2,g3,g4⟩
    cases e with
    | normal=>
     have g3':SepL ((L1++Ds1.map cW)++(jB l (rec_ none .ready)::Z)) w2:=by unfold Sp at g3;simpa only [Ni] using g3
     have hk2:=oT g3';have hbusy:=rW (r':={rec_ none .ready with state:=.busy}) g3';refine ⟨_,run_beginRound hk2 (by rw [hrec]),?_⟩
     have hb2:Sp (Ds1.map cW++(jB l {rec_ none .ready with state:=.busy}::Z)) L1 (w2.putObj l (.loop {rec_ none .ready with state:=.busy})):=by unfold Sp;simpa only [Ni] using hbusy
     refine wpIn_mono (g4 (jB l {rec_ none .ready with state:=.busy}::Z) Ds1 a1 _ g1 g2 hb2) ?_;rintro e3 a3 w3 ⟨s3,L3,Ds3,k1,k2,k3,k4,k5⟩
     have k3':SepL ((L3++Ds3.map cW)++(jB l {rec_ none .ready with state:=.busy}::Z)) w3:=by unfold Sp at k3;simpa only [Ni] using k3
     have hk3:=oT k3'
     have fin: ∀(j:Option Exit) (jump:Option Code),jump=j.bind qn→jump.isNone=j.isNone→j₂=j→ ∃v w',(Instr.endRound l jump).run P w3=.ok v w'∧(Ending.returned v=.returned (.bool j₂.isNone)∧Sp Z (jB l (rec_ j₂ (stOf j₂))::E σ₂) w'):=by
      intro j jump hj1 hj2 hj3;subst hj3;refine ⟨_,_,run_endRound jump hk3,by rw [hj2],?_⟩
      have e:({{rec_ none .ready with state:=.busy} with state:=if jump.isNone then LoopState.ready else LoopState.done,pending:=jump}:Loop)=rec_ j₂ (stOf j₂):=by
       rw [hrec,hst,hj2,hj1]
      rw [e];have h6:=rW (r':=rec_ j₂ (stOf j₂)) k3'
      have h7:SepL (L3++(jB l (rec_ j₂ (stOf j₂))::Z)) (w3.putObj l (.loop (rec_ j₂ (stOf j₂)))):=by
       have h8:SepL (Ds3.map cW++(L3++(jB l (rec_ j₂ (stOf j₂))::Z))) (w3.putObj l (.loop (rec_ j₂ (stOf j₂)))):=h6.perm (by
        rw [←Ni]
        exact List.Perm.append_right _ List.perm_append_comm)
       exact h8.dropL
      have h9:=k5 (jB l (rec_ j₂ (stOf j₂))::Z) _ h7;unfold Sp at h9⊢;exact h9.perm List.perm_middle
     rcases k4 with ⟨h10,rfl⟩|⟨h10,h11⟩
     ·exact fin none none J J h10
     cases e3 with
     |ret=>exact fin (some .ret) (some .ret) rfl rfl h10
     |exit i=>exact fin (some (.exit i)) (some (.exit i)) rfl rfl h10
     |_=>cases h11
    |_=>exact g4.elim
 have hdeep:SepL (jB l (rec_ none .ready)::cW w.heap.size::((pre++E σ₀)++(Ds.map cW++H))) W1:=by
  have h1:SepL ((pre++E σ₀)++(Ds.map cW++H)) w:=hL _ _ hw
  have h2:SepL (cW w.heap.size::((pre++E σ₀)++(Ds.map cW++H))) (w.alloc (.deferred (some []))):=h1.new (Agr.of_ext ((Ext.refl w).alloc _)) fun _ S _=>⟨(· =w.heap.size),fun q hq=>by subst hq;simp,rfl,World.alloc_heap_new w _⟩
  rw [←hW1]
  refine h2.new (Agr.of_ext ((Ext.refl _).alloc _)) fun _ S _=>⟨(· =l),fun q hq=>by subst hq;rw [hl];simp,rfl,?_⟩
  have:=World.alloc_heap_new (w.alloc (.deferred (some []))) (.loop (rec_ none .ready));rw [World.size_alloc] at this;rw [hl];exact this
 have hstn:stOf none=.ready:=by rw [hst];rfl
 have hstart:Sp (cW w.heap.size::(Ds.map cW++H)) (pre++(jB l (rec_ none (stOf none))::E σ₀)) W1:=by
  rw [hstn];refine hdeep.perm ?_;refine (List.Perm.swap _ _ _).trans ?_;refine List.Perm.trans ?_ List.perm_middle.symm;refine List.Perm.cons _ ?_;rw [←List.cons_append];exact List.Perm.append_right _ List.perm_middle.symm
 obtain ⟨fnc,hfn1,hb1,hn1⟩:=hf
 have hn': ¬fnc.name= "runtime.NumGoroutine" :=by simpa using hn1
 have hb': ¬fnc.body=none:=by intro h;rw [h] at hb1;cases hb1
 refine ⟨l,[{target:=.collected w.heap.size,args:= #[]}],W1,{target:=.fn (.func gf) caps,args:= #[.func (.yield l) #[] #[]]},W1,gf,(.func (.yield l) #[] #[]::caps.toList).toArray,W1,?_,?_,fun _ _=>trivial,?_,(by intro h;cases h),?_⟩
 ·rw [←hW1,hl,hrec];exact run_enterLoop_outer _ _ _ _ _
 ·simp only [resolve,hev];simp [Deferred.ofValue,Act.eval]
 ·simp [invoke,callFunc,hfn1,hb',hn',Sem.run_bind]
 have h1:=hit l _ hY _ W1 hstart;refine (callsIn_wide.2 h1:CallsIn Fence.wide (0 - 1) P gf _ W1 _).mono ?_;rintro e w3 ⟨v,post,rfl,h2,rfl⟩;have h2':SepL ([]++(jB l (rec_ je (stOf je))::(E σr++(cW w.heap.size::(Ds.map cW++H))))) w3:=h2;have hk:=oT h2';refine ⟨_,_,run_endLoop hk (by rw [hrec,hst];cases je<;>simp),?_⟩;have h3:=rW (r':={rec_ je (stOf je) with state:=.exhausted}) h2';generalize w3.putObj l (.loop {rec_ je (stOf je) with state:=.exhausted})=w4 at h3⊢
 have h4:Sp ((w.heap.size::Ds).map cW++H) (E σr) w4:=by
  have h5:SepL ([jB l {rec_ je (stOf je) with state:=.exhausted}]++(E σr++(cW w.heap.size::(Ds.map cW++H)))) _:=h3;have h6:=h5.dropL;unfold Sp;simpa using h6
 have hfin: ∀e,K e s (E σr)→rP ⟨P,n,none⟩ H K e {a with defers:=[{target:=.collected w.heap.size,args:= #[]}]++a.defers} w4:=fun e he=>⟨s,E σr,w.heap.size::Ds,⟨ha.size,ha.at_⟩,by simp [hds,qF],h4,he⟩
 cases hje:je with
 |none=>
  have:(rec_ je (stOf je)).pending=none:=by rw [hrec,hje];rfl
  rw [←hje,this];exact hfin .normal (hdone hje)
 |some e=>
  obtain ⟨h7,h8⟩:=hleft e hje
  have:(rec_ je (stOf je)).pending=qn e:=by rw [hrec,hje];rfl
  rw [←hje,this]
  cases e with
  |ret=>exact wpIn_ret (hfin .ret h8)
  |exit i=>exact wpIn_exit (hfin (.exit i) h8)
  |_=>cases h7
theorem Ff {α σ ι ρ:Type}{X:Cx}{K:K3}{s:cJ}{g:Operand}{ps:List Nat}{assign body:Code}{gf:FuncId}{caps:Array Value}{R:α→List Value→List Chunk→Prop}(φ:α→σ→Option (Option Exit×σ))(Q:σ→ι→List Chunk)(pre:List Chunk)(σ₀:σ)(x₀:ι){je:Option Exit}{σr:σ}{L:List Chunk}{id:Nat}{vn vr:Option ρ}{vx:Nat→Option ρ}{v:ρ}
  (hr:X.r=none) (hg:cI s g=some (.func (.func gf) #[] caps)) (hf:aw X.P gf) (hps:ps.all (fun p=>Nat.ble (p+1) X.n)=true) (hen: ∀x vs cs,R x vs cs→vs.length=ps.length)
  (hit: ∀l (G:(Option Exit×σ)→List Chunk),rN X.P l G R (jW φ)→Okc X.P gf (.func (.yield l) #[] #[]::caps.toList) (pre++G (none,σ₀)) fun _ post=>post=G (je,σr))
  (hL:Cv L (pre++Q σ₀ x₀)) (h:xT je vn vr vx=some v)
  (hbody: ∀l x σ₁ je' σ₂ z,φ x σ₁=some (je',σ₂)→ ∀vs cs,R x vs cs→Wq ⟨X.P,X.n,some l⟩ assign (nx (fun s1 L1=>Wq ⟨X.P,X.n,some l⟩ body (RK je' [jj (Q σ₂)]) s1 L1) fun _ _ _=>False) (yv ps vs s) (cs++Q σ₁ z))
  (hn: ∀z,vn=some v→bk id K .normal s (Q σr z)) (hret: ∀z,vr=some v→bk id K .ret s (Q σr z)) (hx: ∀i z,vx i=some v→bk id K (.exit i) s (Q σr z)):
  Wq X (.block id (.rangeFunc g ps.toArray assign body)) K s L:=by
 refine eZ (Eb (K':=fun e s' L'=>s'=s∧L'=[jj (Q σr)]∧ ∀z,bk id K e s (Q σr z)) ?_ ?_)
 ·refine Fg φ (fun q=> [jj (Q q)]) pre σ₀ hr hg hf hps hen hit ?_ ?_ ?_ ?_
  ·exact hL.trans (py pre (lm x₀ J))
  ·intro l x σ₁ je' σ₂ hφ vs cs hq
   exact Fe cs fun z=>hbody l x σ₁ je' σ₂ z hφ vs cs hq
  ·intro hj;rw [hj] at h;exact ⟨J,J,fun z=>hn z h⟩
  intro e he;rw [he] at h
  cases e with
  |ret=>exact ⟨rfl,rfl,rfl,fun z=>hret z h⟩
  |exit i=>exact ⟨rfl,rfl,rfl,fun z=>hx i z h⟩
  |_=>cases h
 rintro e s' L' ⟨rfl,rfl,h3⟩;exact ⟨ι,Q σr,J,h3⟩
theorem SlR.recap {α:Type}{R:Rep α}{S:Nat→Prop}{w:World}{A1 A2:Option Addr}{n1 n2 c1 c2:Nat}{ys:List α}(h:SlR R S w (I A1 n1 c1) ys)(hn:n2=ys.length)(hA:0<ys.length→A2=A1)(h1:ys.length≤c2)(h2:c2≤9223372036854775807):SlR R S w (I A2 n2 c2) ys:=by
 obtain ⟨A,c,e,g1,g2,g3⟩:=h
 injection e with e1 e2 e3
 subst e1 e3 hn;exact ⟨_,_,J,h1,h2,fun h0=>by rw [hA h0];exact g3 h0⟩
theorem CP {α:Type}{R:Rep α}{L Z:List Chunk}{w:World}{A:Option Addr}{n c:Nat}{xs:List α}(hw:Sp Z L w){i:Nat}(hi:L[i]? =some (lB R (.slice A n c) xs)){l h:Nat}(h1:l≤h)(h2:h≤xs.length):Sp Z (lB R (.slice (kQ A h l R.sz) (h - l) (h - l)) ((xs.drop l).take (h - l))::L) w:=by
 obtain ⟨T,S,hT⟩:=hw;have hs1:SlR R S w (.slice A n c) xs:=hT.ok (cE hi)
 have hl:((xs.drop l).take (h - l)).length=h - l:=by rw [List.length_take,List.length_drop];omega
 have hb:=hs1;obtain ⟨A2,c2,e2,g1,g2, -⟩:=hb
 injection e2 with q1 q2 q3
 subst q1 q2 q3
 obtain ⟨T',h'⟩:=SepL.facts [lB R (.slice (kQ A h l R.sz) (h - l) (h - l)) ((xs.drop l).take (h - l))] hT (fun c hc=>by
  simp only [List.mem_singleton] at hc;subst hc;refine SlR.recap (hs1.cut l h h1 h2) hl.symm (fun h0=> ?_) O O;rw [hl] at h0;unfold kQ
  rw [if_neg O,if_neg O])
 exact ⟨T',S,h'⟩
theorem KP {α:Type}{R:Rep α}{X:Cx}{ops:Array Oper}{K:K3}{s:cJ}{L:List Chunk}{ol:List Oper}{A:Option Addr}{n c:Nat}{xs:List α}(i:Nat)(hi:L[i]? =some (lB R (.slice A n c) xs)){l h:Nat}(h1:l≤h)(h2:h≤xs.length)(k: ∀A' n' c',A'=kQ A h l R.sz∧n'=h - l∧c'=h - l→d6 X ops ol K s (lB R (.slice A' n' c') ((xs.drop l).take (h - l))::L)):d6 X ops ol K s L:=fun H Ds a w ha hd hw=>k _ _ _ ⟨rfl,rfl,rfl⟩ H Ds a w ha hd (CP hw hi h1 h2)
section
variable {P:Program} {s:cJ} {L:List Chunk} {d:Option Nat} {ty:TypeId} {pos:String} {af:Array Edge} {gd:Option (Nat×Bool)}
theorem H1 {C:World→Prop}{t e sz:Nat}{x o y z:Operand}{A:Option Addr}{n c:Nat}{l h:Nat}(hx:cI s x=some (.slice A n c))(hu:P.underlying t=some (.slice e))(hs:gk P e sz=true)(hl:cI s o=some (.int .i64 (l:Int)))(hh:cI s y=some (.int .i64 (h:Int)))(hm:cI s z=some (.int .i64 (h:Int)))(h1:l≤h)(h2:h≤c):Ev P s C ⟨d,.slice t x (some o) (some y) (some z),ty,pos,af,gd⟩ (.slice (kQ A h l sz) (h - l) (h - l)):=fun ρ hρ w _=>by
 unfold execOp;simp only [Option.map_some,Option.map_none,hρ x _ hx,hρ o _ hl,hρ y _ hh,hρ z _ hm,Instr.sliceAt,Instr.slice,Instr.sliceBounds,Sem.run_bind,run_underlying hu,Result.andThen_ok,lK h2,lK h1,lK (Nat.le_refl h),jK hs w,Sem.run_pure];rfl
theorem Ht {α:Type}{R:Rep α}{t e sz:Nat}{x o y z:Operand}{A A':Option Addr}{n c n' c':Nat}{xs:List α}{l h:Nat}(i:Nat)(hL:L[i]? =some (lB R (.slice A n c) xs))(he:A'=kQ A h l R.sz∧n'=h - l∧c'=h - l)(hx:cI s x=some (.slice A n c))(hu:P.underlying t=some (.slice e))(hs:gk P e sz=true)(hsz:R.sz=sz)
  (hl:cI s o=some (.int .i64 (l:Int))) (hh:cI s y=some (.int .i64 (h:Int))) (hm:cI s z=some (.int .i64 (h:Int))) (h1:l≤h) (h2:h≤xs.length):Rd P s L ⟨d,.slice t x (some o) (some y) (some z),ty,pos,af,gd⟩ (.slice A' n' c'):=fun Z w hw=>by
 obtain ⟨rfl,rfl,rfl⟩:=he;subst hsz;obtain ⟨T,S,A2,c2,e2,g1, -⟩:=hw.get (cE hL)
 injection e2 with q1 q2 q3
 subst q1 q2 q3;exact H1 hx hu hs hl hh hm h1 O
end
end
section
open Go.RowKit
section
variable {α β:Type} [DecidableEq α] {ek:α→Value} {ev:β→Value}
def Mj (w:World)(m:Nat)(ek:α→Value)(ev:β→Value)(kv:List (α×β))(a:α)(s:Nat):Prop:=
 ∃es clk,w.heap[m]? =some (.map es clk)∧es.toList.map (fun e=>(e.key,e.val))=kv.map (fun p=>(ek p.1,ev p.2))∧es.toList.Pairwise (fun a b=>a.born<b.born)∧(∀e∈es.toList,e.born<clk)∧ ∃q e b,es[q]? =some e∧e.born=s∧e.key=ek a∧fp a kv 0=some (q,b)
def Mh (ek:α→Value)(ev:β→Value)(m:Nat)(kv:List (α×β))(a:α)(s:Nat):Chunk where
 ok T _ w:=T m∧Mj w m ek ev kv a s
 loc:=fun {T S w w'} h ⟨h1,es,clk,g1,g2⟩=>⟨h1,es,clk,(h.block m (by rcases Nat.lt_or_ge m w.heap.size with hl|hl;exact hl;rw [Array.getElem?_eq_none hl] at g1;cases g1) (.inl h1)).trans g1,g2⟩
 mono:=fun _ h=>h
 ro:=false
 dup:=fun h=>Bool.noConfusion h
def Mg (kv:List (α×β))(a:α)(z:β):List (α×β):=match fp a kv 0 with
 |some _=>kv
 |none=>kv++ [(a,z)]
variable {P:Program} {s:cJ} {L:List Chunk} {d:Option Nat} {ty t kt et:TypeId} {pos:String} {af:Array Edge} {gd:Option (Nat×Bool)}
end
end
section
open Go.RowKit
theorem BR {L:List Chunk}: ∀(cs:List Chunk),Cv (cs++L) L
 | []=>ae _
 |_::cs=>cv_tl.trans (BR cs)
inductive Asn:Type 1
 |aV (v:Value)
 |aX1 {ι0:Type} (v:ι0→Value) (ch:ι0→List Chunk)
 |aX2 {ι0 ι1:Type} (v:ι0→ι1→Value) (ch:ι0→ι1→List Chunk)
 |aX3 {ι0 ι1 ι2:Type} (v:ι0→ι1→ι2→Value) (ch:ι0→ι1→ι2→List Chunk)
 |aX4 {ι0 ι1 ι2 ι3:Type} (v:ι0→ι1→ι2→ι3→Value) (ch:ι0→ι1→ι2→ι3→List Chunk)
 |aX5 {ι0 ι1 ι2 ι3 ι4:Type} (v:ι0→ι1→ι2→ι3→ι4→Value) (ch:ι0→ι1→ι2→ι3→ι4→List Chunk)
 |aX6 {ι0 ι1 ι2 ι3 ι4 ι5:Type} (v:ι0→ι1→ι2→ι3→ι4→ι5→Value) (ch:ι0→ι1→ι2→ι3→ι4→ι5→List Chunk)
 |aX7 {ι0 ι1 ι2 ι3 ι4 ι5 ι6:Type} (v:ι0→ι1→ι2→ι3→ι4→ι5→ι6→Value) (ch:ι0→ι1→ι2→ι3→ι4→ι5→ι6→List Chunk)
 |aX8 {ι0 ι1 ι2 ι3 ι4 ι5 ι6 ι7:Type} (v:ι0→ι1→ι2→ι3→ι4→ι5→ι6→ι7→Value) (ch:ι0→ι1→ι2→ι3→ι4→ι5→ι6→ι7→List Chunk)
 |aX9 {ι0 ι1 ι2 ι3 ι4 ι5 ι6 ι7 ι8:Type} (v:ι0→ι1→ι2→ι3→ι4→ι5→ι6→ι7→ι8→Value) (ch:ι0→ι1→ι2→ι3→ι4→ι5→ι6→ι7→ι8→List Chunk)
 |aX10 {ι0 ι1 ι2 ι3 ι4 ι5 ι6 ι7 ι8 ι9:Type} (v:ι0→ι1→ι2→ι3→ι4→ι5→ι6→ι7→ι8→ι9→Value) (ch:ι0→ι1→ι2→ι3→ι4→ι5→ι6→ι7→ι8→ι9→List Chunk)
 |aX11 {ι0 ι1 ι2 ι3 ι4 ι5 ι6 ι7 ι8 ι9 ι10:Type} (v:ι0→ι1→ι2→ι3→ι4→ι5→ι6→ι7→ι8→ι9→ι10→Value) (ch:ι0→ι1→ι2→ι3→ι4→ι5→ι6→ι7→ι8→ι9→ι10→List Chunk)
 |aX12 {ι0 ι1 ι2 ι3 ι4 ι5 ι6 ι7 ι8 ι9 ι10 ι11:Type} (v:ι0→ι1→ι2→ι3→ι4→ι5→ι6→ι7→ι8→ι9→ι10→ι11→Value) (ch:ι0→ι1→ι2→ι3→ι4→ι5→ι6→ι7→ι8→ι9→ι10→ι11→List Chunk)
namespace Asn
def full:Asn→Value→List Chunk
 |aV v,u=> [Fz (u=v)]
 | @aX1 ι0 v ch,u=> [jj fun x:{x:ι0 // u=v x}=>ch x.1]
 | @aX2 ι0 ι1 v ch,u=> [jj fun x:{x:ι0×ι1 // u=v x.1 x.2}=>ch x.1.1 x.1.2]
 | @aX3 ι0 ι1 ι2 v ch,u=> [jj fun x:{x:ι0×ι1×ι2 // u=v x.1 x.2.1 x.2.2}=>ch x.1.1 x.1.2.1 x.1.2.2]
 | @aX4 ι0 ι1 ι2 ι3 v ch,u=> [jj fun x:{x:ι0×ι1×ι2×ι3 // u=v x.1 x.2.1 x.2.2.1 x.2.2.2}=>ch x.1.1 x.1.2.1 x.1.2.2.1 x.1.2.2.2]
 | @aX5 ι0 ι1 ι2 ι3 ι4 v ch,u=> [jj fun x:{x:ι0×ι1×ι2×ι3×ι4 // u=v x.1 x.2.1 x.2.2.1 x.2.2.2.1 x.2.2.2.2}=>ch x.1.1 x.1.2.1 x.1.2.2.1 x.1.2.2.2.1 x.1.2.2.2.2]
 | @aX6 ι0 ι1 ι2 ι3 ι4 ι5 v ch,u=> [jj fun x:{x:ι0×ι1×ι2×ι3×ι4×ι5 // u=v x.1 x.2.1 x.2.2.1 x.2.2.2.1 x.2.2.2.2.1 x.2.2.2.2.2}=>ch x.1.1 x.1.2.1 x.1.2.2.1 x.1.2.2.2.1 x.1.2.2.2.2.1 x.1.2.2.2.2.2]
 | @aX7 ι0 ι1 ι2 ι3 ι4 ι5 ι6 v ch,u=> [jj fun x:{x:ι0×ι1×ι2×ι3×ι4×ι5×ι6 // u=v x.1 x.2.1 x.2.2.1 x.2.2.2.1 x.2.2.2.2.1 x.2.2.2.2.2.1 x.2.2.2.2.2.2}=>ch x.1.1 x.1.2.1 x.1.2.2.1 x.1.2.2.2.1 x.1.2.2.2.2.1 x.1.2.2.2.2.2.1 x.1.2.2.2.2.2.2]
 | @aX8 ι0 ι1 ι2 ι3 ι4 ι5 ι6 ι7 v ch,u=> [jj fun x:{x:ι0×ι1×ι2×ι3×ι4×ι5×ι6×ι7 // u=v x.1 x.2.1 x.2.2.1 x.2.2.2.1 x.2.2.2.2.1 x.2.2.2.2.2.1 x.2.2.2.2.2.2.1 x.2.2.2.2.2.2.2}=>ch x.1.1 x.1.2.1 x.1.2.2.1 x.1.2.2.2.1 x.1.2.2.2.2.1 x.1.2.2.2.2.2.1 x.1.2.2.2.2.2.2.1 x.1.2.2.2.2.2.2.2]
 | @aX9 ι0 ι1 ι2 ι3 ι4 ι5 ι6 ι7 ι8 v ch,u=> [jj fun x:{x:ι0×ι1×ι2×ι3×ι4×ι5×ι6×ι7×ι8 // u=v x.1 x.2.1 x.2.2.1 x.2.2.2.1 x.2.2.2.2.1 x.2.2.2.2.2.1 x.2.2.2.2.2.2.1 x.2.2.2.2.2.2.2.1 x.2.2.2.2.2.2.2.2}=>ch x.1.1 x.1.2.1 x.1.2.2.1 x.1.2.2.2.1 x.1.2.2.2.2.1 x.1.2.2.2.2.2.1 x.1.2.2.2.2.2.2.1 x.1.2.2.2.2.2.2.2.1 x.1.2.2.2.2.2.2.2.2]
 | @aX10 ι0 ι1 ι2 ι3 ι4 ι5 ι6 ι7 ι8 ι9 v ch,u=> [jj fun x:{x:ι0×ι1×ι2×ι3×ι4×ι5×ι6×ι7×ι8×ι9 // u=v x.1 x.2.1 x.2.2.1 x.2.2.2.1 x.2.2.2.2.1 x.2.2.2.2.2.1 x.2.2.2.2.2.2.1 x.2.2.2.2.2.2.2.1 x.2.2.2.2.2.2.2.2.1 x.2.2.2.2.2.2.2.2.2}=>ch x.1.1 x.1.2.1 x.1.2.2.1 x.1.2.2.2.1 x.1.2.2.2.2.1 x.1.2.2.2.2.2.1 x.1.2.2.2.2.2.2.1 x.1.2.2.2.2.2.2.2.1 x.1.2.2.2.2.2.2.2.2.1 x.1.2.2.2.2.2.2.2.2.2]
 | @aX11 ι0 ι1 ι2 ι3 ι4 ι5 ι6 ι7 ι8 ι9 ι10 v ch,u=> [jj fun x:{x:ι0×ι1×ι2×ι3×ι4×ι5×ι6×ι7×ι8×ι9×ι10 // u=v x.1 x.2.1 x.2.2.1 x.2.2.2.1 x.2.2.2.2.1 x.2.2.2.2.2.1 x.2.2.2.2.2.2.1 x.2.2.2.2.2.2.2.1 x.2.2.2.2.2.2.2.2.1 x.2.2.2.2.2.2.2.2.2.1 x.2.2.2.2.2.2.2.2.2.2}=>ch x.1.1 x.1.2.1 x.1.2.2.1 x.1.2.2.2.1 x.1.2.2.2.2.1 x.1.2.2.2.2.2.1 x.1.2.2.2.2.2.2.1 x.1.2.2.2.2.2.2.2.1 x.1.2.2.2.2.2.2.2.2.1 x.1.2.2.2.2.2.2.2.2.2.1 x.1.2.2.2.2.2.2.2.2.2.2]
 | @aX12 ι0 ι1 ι2 ι3 ι4 ι5 ι6 ι7 ι8 ι9 ι10 ι11 v ch,u=> [jj fun x:{x:ι0×ι1×ι2×ι3×ι4×ι5×ι6×ι7×ι8×ι9×ι10×ι11 // u=v x.1 x.2.1 x.2.2.1 x.2.2.2.1 x.2.2.2.2.1 x.2.2.2.2.2.1 x.2.2.2.2.2.2.1 x.2.2.2.2.2.2.2.1 x.2.2.2.2.2.2.2.2.1 x.2.2.2.2.2.2.2.2.2.1 x.2.2.2.2.2.2.2.2.2.2.1 x.2.2.2.2.2.2.2.2.2.2.2}=>ch x.1.1 x.1.2.1 x.1.2.2.1 x.1.2.2.2.1 x.1.2.2.2.2.1 x.1.2.2.2.2.2.1 x.1.2.2.2.2.2.2.1 x.1.2.2.2.2.2.2.2.1 x.1.2.2.2.2.2.2.2.2.1 x.1.2.2.2.2.2.2.2.2.2.1 x.1.2.2.2.2.2.2.2.2.2.2.1 x.1.2.2.2.2.2.2.2.2.2.2.2]
def Op:Asn→(Value→List Chunk→Prop)→Prop
 |aV v,K=>K v []
 |aX1 v ch,K=> ∀x0,K (v x0) (ch x0)
 |aX2 v ch,K=> ∀x0 x1,K (v x0 x1) (ch x0 x1)
 |aX3 v ch,K=> ∀x0 x1 x2,K (v x0 x1 x2) (ch x0 x1 x2)
 |aX4 v ch,K=> ∀x0 x1 x2 x3,K (v x0 x1 x2 x3) (ch x0 x1 x2 x3)
 |aX5 v ch,K=> ∀x0 x1 x2 x3 x4,K (v x0 x1 x2 x3 x4) (ch x0 x1 x2 x3 x4)
 |aX6 v ch,K=> ∀x0 x1 x2 x3 x4 x5,K (v x0 x1 x2 x3 x4 x5) (ch x0 x1 x2 x3 x4 x5)
 |aX7 v ch,K=> ∀x0 x1 x2 x3 x4 x5 x6,K (v x0 x1 x2 x3 x4 x5 x6) (ch x0 x1 x2 x3 x4 x5 x6)
 |aX8 v ch,K=> ∀x0 x1 x2 x3 x4 x5 x6 x7,K (v x0 x1 x2 x3 x4 x5 x6 x7) (ch x0 x1 x2 x3 x4 x5 x6 x7)
 |aX9 v ch,K=> ∀x0 x1 x2 x3 x4 x5 x6 x7 x8,K (v x0 x1 x2 x3 x4 x5 x6 x7 x8) (ch x0 x1 x2 x3 x4 x5 x6 x7 x8)
 |aX10 v ch,K=> ∀x0 x1 x2 x3 x4 x5 x6 x7 x8 x9,K (v x0 x1 x2 x3 x4 x5 x6 x7 x8 x9) (ch x0 x1 x2 x3 x4 x5 x6 x7 x8 x9)
 |aX11 v ch,K=> ∀x0 x1 x2 x3 x4 x5 x6 x7 x8 x9 x10,K (v x0 x1 x2 x3 x4 x5 x6 x7 x8 x9 x10) (ch x0 x1 x2 x3 x4 x5 x6 x7 x8 x9 x10)
 |aX12 v ch,K=> ∀x0 x1 x2 x3 x4 x5 x6 x7 x8 x9 x10 x11,K (v x0 x1 x2 x3 x4 x5 x6 x7 x8 x9 x10 x11) (ch x0 x1 x2 x3 x4 x5 x6 x7 x8 x9 x10 x11)
theorem hop: ∀(a:Asn) (K:Value→List Chunk→Prop) (u:Value) (L Z:List Chunk) (w:World),Sp Z (a.full u++L) w→a.Op K→ ∃c,K u c∧Sp Z (c++L) w∧ ∀L',Cv (c++L') (a.full u++L')
 |aV v,K,u,L,Z,w,hs,hk=>by
  have h:u=v:=Hk hs 0 rfl;subst h;exact ⟨[],hk,cv_tl _ _ hs,fun L'=>DB J⟩
 | @aX1 ι0 v ch,K,u,L,Z,w,hs,hk=>by
  obtain ⟨⟨x,hx⟩,hs⟩:=lA hs;subst hx;exact ⟨_,hk x,hs,fun L'=>i2 (Q:=fun y:{y:ι0 // v x=v y}=>ch y.1) ⟨x,J⟩⟩
 | @aX2 ι0 ι1 v ch,K,u,L,Z,w,hs,hk=>by
  obtain ⟨⟨x,hx⟩,hs⟩:=lA hs;subst hx;exact ⟨_,hk x.1 x.2,hs,fun L'=>i2 (Q:=fun y:{y:ι0×ι1 // v x.1 x.2=v y.1 y.2}=>ch y.1.1 y.1.2) ⟨x,J⟩⟩
 | @aX3 ι0 ι1 ι2 v ch,K,u,L,Z,w,hs,hk=>by
  obtain ⟨⟨x,hx⟩,hs⟩:=lA hs;subst hx;exact ⟨_,hk x.1 x.2.1 x.2.2,hs,fun L'=>i2 (Q:=fun y:{y:ι0×ι1×ι2 // v x.1 x.2.1 x.2.2=v y.1 y.2.1 y.2.2}=>ch y.1.1 y.1.2.1 y.1.2.2) ⟨x,J⟩⟩
 | @aX4 ι0 ι1 ι2 ι3 v ch,K,u,L,Z,w,hs,hk=>by
  obtain ⟨⟨x,hx⟩,hs⟩:=lA hs;subst hx;exact ⟨_,hk x.1 x.2.1 x.2.2.1 x.2.2.2,hs,fun L'=>i2 (Q:=fun y:{y:ι0×ι1×ι2×ι3 // v x.1 x.2.1 x.2.2.1 x.2.2.2=v y.1 y.2.1 y.2.2.1 y.2.2.2}=>ch y.1.1 y.1.2.1 y.1.2.2.1 y.1.2.2.2) ⟨x,J⟩⟩
 | @aX5 ι0 ι1 ι2 ι3 ι4 v ch,K,u,L,Z,w,hs,hk=>by
  obtain ⟨⟨x,hx⟩,hs⟩:=lA hs;subst hx;exact ⟨_,hk x.1 x.2.1 x.2.2.1 x.2.2.2.1 x.2.2.2.2,hs,fun L'=>i2 (Q:=fun y:{y:ι0×ι1×ι2×ι3×ι4 // v x.1 x.2.1 x.2.2.1 x.2.2.2.1 x.2.2.2.2=v y.1 y.2.1 y.2.2.1 y.2.2.2.1 y.2.2.2.2}=>ch y.1.1 y.1.2.1 y.1.2.2.1 y.1.2.2.2.1 y.1.2.2.2.2) ⟨x,J⟩⟩
 | @aX6 ι0 ι1 ι2 ι3 ι4 ι5 v ch,K,u,L,Z,w,hs,hk=>by
  obtain ⟨⟨x,hx⟩,hs⟩:=lA hs;subst hx;exact ⟨_,hk x.1 x.2.1 x.2.2.1 x.2.2.2.1 x.2.2.2.2.1 x.2.2.2.2.2,hs,fun L'=>i2 (Q:=fun y:{y:ι0×ι1×ι2×ι3×ι4×ι5 // v x.1 x.2.1 x.2.2.1 x.2.2.2.1 x.2.2.2.2.1 x.2.2.2.2.2=v y.1 y.2.1 y.2.2.1 y.2.2.2.1 y.2.2.2.2.1 y.2.2.2.2.2}=>ch y.1.1 y.1.2.1 y.1.2.2.1 y.1.2.2.2.1 y.1.2.2.2.2.1 y.1.2.2.2.2.2) ⟨x,J⟩⟩
 | @aX7 ι0 ι1 ι2 ι3 ι4 ι5 ι6 v ch,K,u,L,Z,w,hs,hk=>by
  obtain ⟨⟨x,hx⟩,hs⟩:=lA hs;subst hx;exact ⟨_,hk x.1 x.2.1 x.2.2.1 x.2.2.2.1 x.2.2.2.2.1 x.2.2.2.2.2.1 x.2.2.2.2.2.2,hs,fun L'=>i2 (Q:=fun y:{y:ι0×ι1×ι2×ι3×ι4×ι5×ι6 // v x.1 x.2.1 x.2.2.1 x.2.2.2.1 x.2.2.2.2.1 x.2.2.2.2.2.1 x.2.2.2.2.2.2=v y.1 y.2.1 y.2.2.1 y.2.2.2.1 y.2.2.2.2.1 y.2.2.2.2.2.1 y.2.2.2.2.2.2}=>ch y.1.1 y.1.2.1 y.1.2.2.1 y.1.2.2.2.1 y.1.2.2.2.2.1 y.1.2.2.2.2.2.1 y.1.2.2.2.2.2.2) ⟨x,J⟩⟩
 | @aX8 ι0 ι1 ι2 ι3 ι4 ι5 ι6 ι7 v ch,K,u,L,Z,w,hs,hk=>by
  obtain ⟨⟨x,hx⟩,hs⟩:=lA hs;subst hx;exact ⟨_,hk x.1 x.2.1 x.2.2.1 x.2.2.2.1 x.2.2.2.2.1 x.2.2.2.2.2.1 x.2.2.2.2.2.2.1 x.2.2.2.2.2.2.2,hs,fun L'=>i2 (Q:=fun y:{y:ι0×ι1×ι2×ι3×ι4×ι5×ι6×ι7 // v x.1 x.2.1 x.2.2.1 x.2.2.2.1 x.2.2.2.2.1 x.2.2.2.2.2.1 x.2.2.2.2.2.2.1 x.2.2.2.2.2.2.2=v y.1 y.2.1 y.2.2.1 y.2.2.2.1 y.2.2.2.2.1 y.2.2.2.2.2.1 y.2.2.2.2.2.2.1 y.2.2.2.2.2.2.2}=>ch y.1.1 y.1.2.1 y.1.2.2.1 y.1.2.2.2.1 y.1.2.2.2.2.1 y.1.2.2.2.2.2.1 y.1.2.2.2.2.2.2.1 y.1.2.2.2.2.2.2.2) ⟨x,J⟩⟩
 | @aX9 ι0 ι1 ι2 ι3 ι4 ι5 ι6 ι7 ι8 v ch,K,u,L,Z,w,hs,hk=>by
  obtain ⟨⟨x,hx⟩,hs⟩:=lA hs;subst hx;exact ⟨_,hk x.1 x.2.1 x.2.2.1 x.2.2.2.1 x.2.2.2.2.1 x.2.2.2.2.2.1 x.2.2.2.2.2.2.1 x.2.2.2.2.2.2.2.1 x.2.2.2.2.2.2.2.2,hs,fun L'=>i2 (Q:=fun y:{y:ι0×ι1×ι2×ι3×ι4×ι5×ι6×ι7×ι8 // v x.1 x.2.1 x.2.2.1 x.2.2.2.1 x.2.2.2.2.1 x.2.2.2.2.2.1 x.2.2.2.2.2.2.1 x.2.2.2.2.2.2.2.1 x.2.2.2.2.2.2.2.2=v y.1 y.2.1 y.2.2.1 y.2.2.2.1 y.2.2.2.2.1 y.2.2.2.2.2.1 y.2.2.2.2.2.2.1 y.2.2.2.2.2.2.2.1 y.2.2.2.2.2.2.2.2}=>ch y.1.1 y.1.2.1 y.1.2.2.1 y.1.2.2.2.1 y.1.2.2.2.2.1 y.1.2.2.2.2.2.1 y.1.2.2.2.2.2.2.1 y.1.2.2.2.2.2.2.2.1 y.1.2.2.2.2.2.2.2.2) ⟨x,J⟩⟩
 | @aX10 ι0 ι1 ι2 ι3 ι4 ι5 ι6 ι7 ι8 ι9 v ch,K,u,L,Z,w,hs,hk=>by
  obtain ⟨⟨x,hx⟩,hs⟩:=lA hs;subst hx;exact ⟨_,hk x.1 x.2.1 x.2.2.1 x.2.2.2.1 x.2.2.2.2.1 x.2.2.2.2.2.1 x.2.2.2.2.2.2.1 x.2.2.2.2.2.2.2.1 x.2.2.2.2.2.2.2.2.1 x.2.2.2.2.2.2.2.2.2,hs,fun L'=>i2 (Q:=fun y:{y:ι0×ι1×ι2×ι3×ι4×ι5×ι6×ι7×ι8×ι9 // v x.1 x.2.1 x.2.2.1 x.2.2.2.1 x.2.2.2.2.1 x.2.2.2.2.2.1 x.2.2.2.2.2.2.1 x.2.2.2.2.2.2.2.1 x.2.2.2.2.2.2.2.2.1 x.2.2.2.2.2.2.2.2.2=v y.1 y.2.1 y.2.2.1 y.2.2.2.1 y.2.2.2.2.1 y.2.2.2.2.2.1 y.2.2.2.2.2.2.1 y.2.2.2.2.2.2.2.1 y.2.2.2.2.2.2.2.2.1 y.2.2.2.2.2.2.2.2.2}=>ch y.1.1 y.1.2.1 y.1.2.2.1 y.1.2.2.2.1 y.1.2.2.2.2.1 y.1.2.2.2.2.2.1 y.1.2.2.2.2.2.2.1 y.1.2.2.2.2.2.2.2.1 y.1.2.2.2.2.2.2.2.2.1 y.1.2.2.2.2.2.2.2.2.2) ⟨x,J⟩⟩
 | @aX11 ι0 ι1 ι2 ι3 ι4 ι5 ι6 ι7 ι8 ι9 ι10 v ch,K,u,L,Z,w,hs,hk=>by
  obtain ⟨⟨x,hx⟩,hs⟩:=lA hs;subst hx;exact ⟨_,hk x.1 x.2.1 x.2.2.1 x.2.2.2.1 x.2.2.2.2.1 x.2.2.2.2.2.1 x.2.2.2.2.2.2.1 x.2.2.2.2.2.2.2.1 x.2.2.2.2.2.2.2.2.1 x.2.2.2.2.2.2.2.2.2.1 x.2.2.2.2.2.2.2.2.2.2,hs,fun L'=>i2 (Q:=fun y:{y:ι0×ι1×ι2×ι3×ι4×ι5×ι6×ι7×ι8×ι9×ι10 // v x.1 x.2.1 x.2.2.1 x.2.2.2.1 x.2.2.2.2.1 x.2.2.2.2.2.1 x.2.2.2.2.2.2.1 x.2.2.2.2.2.2.2.1 x.2.2.2.2.2.2.2.2.1 x.2.2.2.2.2.2.2.2.2.1 x.2.2.2.2.2.2.2.2.2.2=v y.1 y.2.1 y.2.2.1 y.2.2.2.1 y.2.2.2.2.1 y.2.2.2.2.2.1 y.2.2.2.2.2.2.1 y.2.2.2.2.2.2.2.1 y.2.2.2.2.2.2.2.2.1 y.2.2.2.2.2.2.2.2.2.1 y.2.2.2.2.2.2.2.2.2.2}=>ch y.1.1 y.1.2.1 y.1.2.2.1 y.1.2.2.2.1 y.1.2.2.2.2.1 y.1.2.2.2.2.2.1 y.1.2.2.2.2.2.2.1 y.1.2.2.2.2.2.2.2.1 y.1.2.2.2.2.2.2.2.2.1 y.1.2.2.2.2.2.2.2.2.2.1 y.1.2.2.2.2.2.2.2.2.2.2) ⟨x,J⟩⟩
 | @aX12 ι0 ι1 ι2 ι3 ι4 ι5 ι6 ι7 ι8 ι9 ι10 ι11 v ch,K,u,L,Z,w,hs,hk=>by
  obtain ⟨⟨x,hx⟩,hs⟩:=lA hs;subst hx;exact ⟨_,hk x.1 x.2.1 x.2.2.1 x.2.2.2.1 x.2.2.2.2.1 x.2.2.2.2.2.1 x.2.2.2.2.2.2.1 x.2.2.2.2.2.2.2.1 x.2.2.2.2.2.2.2.2.1 x.2.2.2.2.2.2.2.2.2.1 x.2.2.2.2.2.2.2.2.2.2.1 x.2.2.2.2.2.2.2.2.2.2.2,hs,fun L'=>i2 (Q:=fun y:{y:ι0×ι1×ι2×ι3×ι4×ι5×ι6×ι7×ι8×ι9×ι10×ι11 // v x.1 x.2.1 x.2.2.1 x.2.2.2.1 x.2.2.2.2.1 x.2.2.2.2.2.1 x.2.2.2.2.2.2.1 x.2.2.2.2.2.2.2.1 x.2.2.2.2.2.2.2.2.1 x.2.2.2.2.2.2.2.2.2.1 x.2.2.2.2.2.2.2.2.2.2.1 x.2.2.2.2.2.2.2.2.2.2.2=v y.1 y.2.1 y.2.2.1 y.2.2.2.1 y.2.2.2.2.1 y.2.2.2.2.2.1 y.2.2.2.2.2.2.1 y.2.2.2.2.2.2.2.1 y.2.2.2.2.2.2.2.2.1 y.2.2.2.2.2.2.2.2.2.1 y.2.2.2.2.2.2.2.2.2.2.1 y.2.2.2.2.2.2.2.2.2.2.2}=>ch y.1.1 y.1.2.1 y.1.2.2.1 y.1.2.2.2.1 y.1.2.2.2.2.1 y.1.2.2.2.2.2.1 y.1.2.2.2.2.2.2.1 y.1.2.2.2.2.2.2.2.1 y.1.2.2.2.2.2.2.2.2.1 y.1.2.2.2.2.2.2.2.2.2.1 y.1.2.2.2.2.2.2.2.2.2.2.1 y.1.2.2.2.2.2.2.2.2.2.2.2) ⟨x,J⟩⟩
end Asn
open Asn
theorem bg {u v:Value}{L L0:List Chunk}(hp:u=v)(h:Cv L L0):Cv L ((Asn.aV v).full u++L0):=h.trans (DB hp)
theorem Aq {ι0:Type}{v:ι0→Value}{ch:ι0→List Chunk}{L L0:List Chunk}(x0:ι0)(h:Cv L (ch x0++L0)):Cv L ((Asn.aX1 v ch).full (v x0)++L0):=h.trans (i2 (Q:=fun y:{y:ι0 // v x0=v y}=>ch y.1) ⟨x0,rfl⟩)
theorem H7 {ι0 ι1 ι2:Type}{v:ι0→ι1→ι2→Value}{ch:ι0→ι1→ι2→List Chunk}{L L0:List Chunk}(x0:ι0)(x1:ι1)(x2:ι2)(h:Cv L (ch x0 x1 x2++L0)):Cv L ((Asn.aX3 v ch).full (v x0 x1 x2)++L0):=h.trans (i2 (Q:=fun y:{y:ι0×ι1×ι2 // v x0 x1 x2=v y.1 y.2.1 y.2.2}=>ch y.1.1 y.1.2.1 y.1.2.2) ⟨(x0,x1,x2),rfl⟩)
theorem LB {ι0 ι1 ι2 ι3 ι4 ι5:Type}{v:ι0→ι1→ι2→ι3→ι4→ι5→Value}{ch:ι0→ι1→ι2→ι3→ι4→ι5→List Chunk}{L L0:List Chunk}(x0:ι0)(x1:ι1)(x2:ι2)(x3:ι3)(x4:ι4)(x5:ι5)(h:Cv L (ch x0 x1 x2 x3 x4 x5++L0)):Cv L ((Asn.aX6 v ch).full (v x0 x1 x2 x3 x4 x5)++L0):=h.trans (i2 (Q:=fun y:{y:ι0×ι1×ι2×ι3×ι4×ι5 // v x0 x1 x2 x3 x4 x5=v y.1 y.2.1 y.2.2.1 y.2.2.2.1 y.2.2.2.2.1 y.2.2.2.2.2}=>ch y.1.1 y.1.2.1 y.1.2.2.1 y.1.2.2.2.1 y.1.2.2.2.2.1 y.1.2.2.2.2.2) ⟨(x0,x1,x2,x3,x4,x5),rfl⟩)
def BJ (ds:List Nat)(As:List Asn):List Nat→(cJ→List Chunk→List Chunk→Prop)→cJ→List Chunk→List Chunk→Prop
 | [],K,s,L,L2=>K s L L2
 |i::r,K,s,L,L2=>(As.getD i (aV undef)).Op fun u c=>BJ ds As r (fun s' L' L2'=>K ((ds.getD i 0,u)::s') (c++L') (c++L2')) s L L2
abbrev HK (ds:List Nat)(As:List Asn)(ix:List Nat)(K:cJ→List Chunk→Prop)(s:cJ)(L:List Chunk):Prop:=BJ ds As ix (fun s L _=>K s L) s L L
def o8 (As:List Asn):List (Value→List Chunk):=As.map Asn.full
theorem uR (As:List Asn)(i:Nat)(h:i<As.length):(o8 As).getD i (fun _=> [])=(As.getD i (aV undef)).full:=by
 simp [o8,h]
section
variable {As:List Asn} {val:Nat→Value} {ds:List Nat}
theorem BS {i:Nat}{r:List Nat}{L:List Chunk}(hi:i<As.length):vC (o8 As) val (i::r) L=(As.getD i (aV undef)).full (val i)++vC (o8 As) val r L:=by
 unfold vC;rw [List.flatMap_cons,uR _ _ hi,Ni]
theorem ql {s:cJ}{L L2:List Chunk}{w:World}: ∀(ix:List Nat) (K:cJ→List Chunk→List Chunk→Prop) (Z:List Chunk),(∀i∈ix,i<As.length)→Sp Z (vC (o8 As) val ix L) w→BJ ds As ix K s L L2→ ∃C,K (yw ds val ix s) (C++L) (C++L2)∧Sp Z (C++L) w∧ ∀L',Cv (C++L') (vC (o8 As) val ix L')
 | [],K,Z,_,hw,h=>⟨[],h,hw,fun L'=>ae _⟩
 | i::r,K,Z,hi,hw,h=>by
  have hil:=hi i (by simp);rw [BS hil] at hw;obtain ⟨c,h1,h2,h3⟩:=(As.getD i (aV undef)).hop _ _ _ _ _ hw h
  have h4:Sp (c++Z) (vC (o8 As) val r L) w:=SepL.perm h2 (by
   show ((c++vC (o8 As) val r L)++Z).Perm (vC (o8 As) val r L++(c++Z));rw [Ni]
   exact (List.perm_append_comm_assoc _ _ _))
  obtain ⟨C,g1,g2,g3⟩:=ql r _ (c++Z) (fun j hj=>hi j (by simp [hj])) h4 h1;refine ⟨c++C,?_,?_,fun L'=> ?_⟩
  ·rw [Ni,Ni];exact g1
  ·rw [Ni];refine SepL.perm g2 ?_;show ((C++L)++(c++Z)).Perm ((c++(C++L))++Z);rw [Ni c (C++L) Z];exact List.perm_append_comm_assoc _ _ _
  rw [Ni,BS hil];exact (py c (g3 L')).trans (h3 _)
variable {P:Program} {ops:Array Oper} {s:cJ} {o:Oper} {A:Value→List Chunk} {L L2:List Chunk}
theorem Fl {ix:List Nat}(hi: ∀i∈ix,i<As.length)(h:BJ ds As ix (fun s' L' L''=>KL P ops s' L' L'' o A) s L L2):KL P ops (yw ds val ix s) (vC (o8 As) val ix L) (vC (o8 As) val ix L2) o A:=fun Z w hw=>by
 obtain ⟨C,h1,h2,h3⟩:=ql ix _ Z hi hw h;rcases h1 Z w h2 with ⟨h1,h2⟩|⟨h1,h2⟩
 ·refine .inl ⟨h1,fun ρ hρ=> ?_⟩;rcases h2 ρ hρ with ⟨v,w',L',h1,h2,h4⟩|⟨w',L',h1,h2,h4⟩|⟨f,args,h1,h2⟩|⟨l,f,t,a,b,h1,h2⟩
  ·exact .inl ⟨v,w',L',h1,h2,h4.trans (py _ (h3 _))⟩
  ·exact .inr (.inl ⟨w',L',h1,h2,h4.trans (py _ (h3 _))⟩)
  ·exact .inr (.inr (.inl ⟨f,args,h1,h2.mono fun e w' ⟨v,L',g1,g2,g3⟩=>⟨v,L',g1,g2,g3.trans (py _ (h3 _))⟩⟩))
  exact .inr (.inr (.inr ⟨l,f,t,a,b,h1,h2.mono fun e w' ⟨v,L',g1,g2,g3⟩=>⟨v,L',g1,g2,g3.trans (py _ (h3 _))⟩⟩))
 exact .inr ⟨h1,py _ (h3 _) _ _ h2⟩
theorem Fy {ix:List Nat}(hi: ∀i∈ix,i<As.length)(h:HK ds As ix (fun s' L'=>LF P ops s' L' L' o A) s L):QS P ops (yw ds val ix s) (vC (o8 As) val ix L) o A:=fun Z w hw=>by
 obtain ⟨C,h1,h2,h3⟩:=ql ix _ Z hi hw h;obtain ⟨v,g1,g2,g3⟩:=h1 Z w h2;exact ⟨v,g1,g2,py _ (h3 _) _ _ g3⟩
theorem J5 {X:Cx}{K:K3}{fuel:Nat}{listed:Array Bool}{ix:List Nat}(hi: ∀i∈ix,i<As.length)(h:HK ds As ix (fun s' L'=>AR X ops K fuel listed s' L') s L):AR X ops K fuel listed (yw ds val ix s) (vC (o8 As) val ix L):=fun H Ds a w ha hds hw=>by
 obtain ⟨C,h1,h2,h3⟩:=ql ix _ _ hi hw h;exact h1 H Ds a w ha hds h2
end
theorem ki {s t:cJ}(h:yf s t:=by first|exact bU|(repeat (first|exact Hi|refine cN rfl ?_))):yf s t:=h
end
section
open Go.RowKit
class Fc (p:Prop):Prop where out:p
class FcA (P:Program) (t f:Nat) (o':outParam Nat):Prop where
  out: ∀b o w,(Instr.fieldAt t (.pointer (some ⟨b,o,none⟩)) f).run P w=.ok (.pointer (some ⟨b,o+o',none⟩)) w
class FcA0 (P:Program) (t f:Nat):Prop where
  out: ∀b o w,(Instr.fieldAt t (.pointer (some ⟨b,o,none⟩)) f).run P w=.ok (.pointer (some ⟨b,o,none⟩)) w
class FcS (P:Program) (t:Nat) (e:outParam Nat):Prop where
  out:P.underlying t=some (.slice e)
class FcG (P:Program) (t:Nat) (m:outParam Nat):Prop where
  out:qO P t m=true
class FcZ (P:Program) (e:Nat) (sz:outParam Nat):Prop where
  out:gk P e sz=true
def EE:IntKind→IntKind→Bool
  | .i64,.i64=>true
  | .u64,.u64=>true
  | .u8,.u8=>true
  | .i32,.i32=>true
  | .u32,.u32=>true
  | .u16,.u16=>true
  | .i16,.i16=>true
  | .i8,.i8=>true
  |_,_=>false
theorem uN {a b:IntKind}(h:EE a b=true):a=b:=by
  cases a<;>cases b<;>first|rfl|cases h
def LA (s:cJ):Op→Option Value
  | .move x=>cI s x
  | .assign x=>cI s x
  | .unOp .not _ x=>match cI s x with|some (.bool b)=>some (.bool (!b))|_=>none
  | .binOp .eql _ x y _=>match cI s x,cI s y with|some (.int k a),some (.int k' b)=>bif EE k k' then some (.bool (decide (a=b))) else none|_,_=>none
  | .binOp .neq _ x y _=>match cI s x,cI s y with|some (.int k a),some (.int k' b)=>bif EE k k' then some (.bool (!decide (a=b))) else none|_,_=>none
  | .binOp .lss _ x y _=>match cI s x,cI s y with|some (.int k a),some (.int k' b)=>bif EE k k' then some (.bool (decide (a<b))) else none|_,_=>none
  | .binOp .leq _ x y _=>match cI s x,cI s y with|some (.int k a),some (.int k' b)=>bif EE k k' then some (.bool (decide (a≤b))) else none|_,_=>none
  | .binOp .gtr _ x y _=>match cI s x,cI s y with|some (.int k a),some (.int k' b)=>bif EE k k' then some (.bool (decide (b<a))) else none|_,_=>none
  | .binOp .geq _ x y _=>match cI s x,cI s y with|some (.int k a),some (.int k' b)=>bif EE k k' then some (.bool (decide (b≤a))) else none|_,_=>none
  | .pick c x y=>match cI s c with|some (.bool true)=>cI s x|some (.bool false)=>cI s y|_=>none
  | .extract x i=>match cI s x with|some (.tuple vs)=>vs[i]? |_=>none
  | .nilCheck x=>match cI s x with|some (.pointer (some a))=>some (.pointer (some a))|_=>none
  |_=>none
section
variable {P:Program} {s:cJ} {L:List Chunk} {d:Option Nat} {ty:TypeId} {pos:String} {af:Array Edge} {gd:Option (Nat×Bool)} {op:Op} {v:Value}
theorem Kb (h:LA s op=some v):Ev P s (fun _=>True) ⟨d,op,ty,pos,af,gd⟩ v:=by
  unfold LA at h;split at h
  ·exact aq h
  ·exact bj h
  · split at h
    ·cases h;exact xC ‹_›
    ·cases h
  · split at h
    · rename_i k a k' b hx hy
      cases hk:EE k k' with
      |false=>rw [hk] at h;cases h
      |true=>rw [hk] at h;cases uN hk;cases h;exact vB hx hy
    ·cases h
  · split at h
    · rename_i k a k' b hx hy
      cases hk:EE k k' with
      |false=>rw [hk] at h;cases h
      |true=>rw [hk] at h;cases uN hk;cases h;exact Dw hx hy
    ·cases h
  · split at h
    · rename_i k a k' b hx hy
      cases hk:EE k k' with
      |false=>rw [hk] at h;cases h
      |true=>rw [hk] at h;cases uN hk;cases h;exact ze hx hy
    ·cases h
  · split at h
    · rename_i k a k' b hx hy
      cases hk:EE k k' with
      |false=>rw [hk] at h;cases h
      |true=>rw [hk] at h;cases uN hk;cases h;exact Lg hx hy
    ·cases h
  · split at h
    · rename_i k a k' b hx hy
      cases hk:EE k k' with
      |false=>rw [hk] at h;cases h
      |true=>rw [hk] at h;cases uN hk;cases h;exact Jo hx hy
    ·cases h
  · split at h
    · rename_i k a k' b hx hy
      cases hk:EE k k' with
      |false=>rw [hk] at h;cases h
      |true=>rw [hk] at h;cases uN hk;cases h;exact Ge hx hy
    ·cases h
  · split at h
    ·exact zd ‹_› h
    ·exact pN ‹_› h
    ·cases h
  · split at h
    ·exact bq ‹_› h
    ·cases h
  · split at h
    ·cases h;exact bc ‹_›
    ·cases h
  ·cases h
end
structure RunT (X:Cx) (ops:Array Oper) (o:Oper) (rest:List Oper) (K:K3) (s:cJ) (L:List Chunk):Prop where
  out:cg ops s o=some true→d6 X ops (o::rest) K s L
section
variable {X:Cx} {ops:Array Oper} {K:K3} {s:cJ} {L:List Chunk} {l rest:List Oper} {c:Code} {d:Nat} {op:Op} {ty:TypeId} {pos:String} {af:Array Edge} {gd:Option (Nat×Bool)} {v:Value}
theorem LM {o:Oper}(h:RunT X ops o rest K s L)(hg:cg ops s o=some true:=by first|exact rfl|exact bp (by assumption) rfl|exact cX (by assumption) rfl):d6 X ops (o::rest) K s L:=h.out hg
theorem LN (k:d6 X ops rest K ((d,undef)::s) L)(hg:cg ops s ⟨some d,op,ty,pos,af,gd⟩=some false:=by first|exact rfl|exact fk (by assumption) rfl|exact ss (by assumption) rfl)(hd:Nat.ble (d+1) X.n=true:=by exact rfl):d6 X ops (⟨some d,op,ty,pos,af,gd⟩::rest) K s L:=LI hg hd k
theorem tE (h:LA s op=some v)(hn:i5 ⟨some d,op,ty,pos,af,gd⟩=true)(hd:Nat.ble (d+1) X.n=true)(k:d6 X ops rest K ((d,v)::s) L):RunT X ops ⟨some d,op,ty,pos,af,gd⟩ rest K s L:=⟨fun hg=>fb (Kb h) hn hg hd k⟩
theorem tP {c x y:Operand}{g:Bool}(hc:cI s c=some (.bool g))(hg:g=true)(hx:cI s x=some v)(hd:Nat.ble (d+1) X.n=true)(k:d6 X ops rest K ((d,v)::s) L):RunT X ops ⟨some d,.pick c x y,ty,pos,af,gd⟩ rest K s L:=⟨fun hh=>fb (d3 hg hc hx) rfl hh hd k⟩
theorem tQ {c x y:Operand}{g:Bool}(hc:cI s c=some (.bool g))(hg:g=false)(hy:cI s y=some v)(hd:Nat.ble (d+1) X.n=true)(k:d6 X ops rest K ((d,v)::s) L):RunT X ops ⟨some d,.pick c x y,ty,pos,af,gd⟩ rest K s L:=⟨fun hh=>fb (d4 hg hc hy) rfl hh hd k⟩
theorem LO {t f:Nat}{x:Operand}{b o:Nat}[h:FcA0 X.P t f](hx:cI s x=some (.pointer (some ⟨b,o,none⟩)))(hd:Nat.ble (d+1) X.n=true)(k:d6 X ops rest K ((d,.pointer (some ⟨b,o,none⟩))::s) L):RunT X ops ⟨some d,.fieldAddr t x f,ty,pos,af,gd⟩ rest K s L:=⟨fun hh=>fb (ef hx h.out) rfl hh hd k⟩
theorem tF {t f o':Nat}{x:Operand}{b o:Nat}[h:FcA X.P t f o'](hx:cI s x=some (.pointer (some ⟨b,o,none⟩)))(hd:Nat.ble (d+1) X.n=true)(k:d6 X ops rest K ((d,.pointer (some ⟨b,o+o',none⟩))::s) L):RunT X ops ⟨some d,.fieldAddr t x f,ty,pos,af,gd⟩ rest K s L:=⟨fun hh=>fb (ci hx h.out) rfl hh hd k⟩
theorem tB {t bt:TypeId}{x:Operand}{b o:Nat}{cs:List Value}[hu:Fc (js X.P t=true)](i:Nat)(hi:L[i]? =some (ac b bt cs))(hx:cI s x=some (.pointer (some ⟨b,o,none⟩)))(hc:cs[o]? =some v)(hd:Nat.ble (d+1) X.n=true)(k:d6 X ops rest K ((d,v)::s) L):RunT X ops ⟨some d,.load t x,ty,pos,af,gd⟩ rest K s L:=⟨fun hh=>cp (aY i hi hx hu.out hc) rfl hh hd k⟩
theorem Lr (h:d6 X ops l K s L):d6 X ops l K s L:=h
theorem LR {s2:cJ}{L2:List Chunk}(h:d6 X ops l (Ch s2 L2) s L):d6 X ops l (Ch s2 L2) s L:=h
theorem LT {o:Oper}{l':List Oper}(hl:l'=o::l)(h:d6 X ops (o::l) K s L):d6 X ops l' K s L:=hl▸h
theorem LQ {l':List Oper}(hl:l'=[])(h:K .normal s L):d6 X ops l' K s L:=hl▸kU h
theorem LS {id:Nat}{g:Operand}{ps:Array Nat}{x y:Code}(h:Wq X (.block id (.rangeFunc g ps x y)) K s L):Wq X (.block id (.rangeFunc g ps x y)) K s L:=h
theorem LP (h:Wq X c K s L):Wq X c K s L:=h
end
structure Bxd (q:Prop):Prop where un:q
theorem U {p q:Prop}(k:q)(h:Bxd q→p:=by
  intro k
  repeat (first
    | (with_reducible refine Lr ?_
       refine LT J ?_
       first
         | (refine LM ?_
            first
              |refine tE rfl rfl rfl ?_
              |refine LO rfl rfl ?_
              |refine tF rfl rfl ?_
              |refine tB 0 rfl rfl rfl rfl ?_
              |refine tB 1 rfl rfl rfl rfl ?_
              |refine tB 2 rfl rfl rfl rfl ?_
              |refine tB 3 rfl rfl rfl rfl ?_
              |refine tB 4 rfl rfl rfl rfl ?_
              |refine tB 5 rfl rfl rfl rfl ?_
              |refine tB 6 rfl rfl rfl rfl ?_
              |refine tB 7 rfl rfl rfl rfl ?_
              |refine tP rfl (by assumption) rfl rfl ?_
              |refine tQ rfl (by assumption) rfl rfl ?_)
         |refine LN ?_)
    | (with_reducible refine Lr ?_
       fail_if_success with_reducible refine LR ?_
       refine LQ J ?_)
    | (with_reducible refine LP ?_
       first
         |refine aB (gj ?_)
         |with_reducible refine gj ?_
         |with_reducible refine oP ?_
         | (fail_if_success with_reducible refine LS ?_
            with_reducible refine eZ ?_)
         |with_reducible refine Ea ?_
         |with_reducible refine Hb ?_)
    |with_reducible refine fa ?_
    |with_reducible refine Lj ?_
    |with_reducible refine Li ?_
    |with_reducible refine Lh ?_
    |with_reducible refine JT ?_
    |with_reducible refine K9 ?_)
  exact k.un):p:=h ⟨k⟩
theorem K2 {p q:Prop}(k:q)(h:Bxd q→p:=by
  intro k
  repeat (first
    | (with_reducible refine Lr ?_
       refine LT J ?_
       first
         | (refine LM ?_
            first
              |refine tE rfl rfl rfl ?_
              |refine LO rfl rfl ?_
              |refine tF rfl rfl ?_
              |refine tB 0 rfl rfl rfl rfl ?_
              |refine tB 1 rfl rfl rfl rfl ?_
              |refine tB 2 rfl rfl rfl rfl ?_
              |refine tB 3 rfl rfl rfl rfl ?_
              |refine tB 4 rfl rfl rfl rfl ?_
              |refine tB 5 rfl rfl rfl rfl ?_
              |refine tB 6 rfl rfl rfl rfl ?_
              |refine tB 7 rfl rfl rfl rfl ?_
              |refine tP rfl (by assumption) rfl rfl ?_
              |refine tQ rfl (by assumption) rfl rfl ?_)
         |refine LN ?_))
  exact k.un):p:=h ⟨k⟩
theorem Me {p q:Prop}(k:q)(h:Bxd q→p:=by
  intro k
  repeat (first
    | (with_reducible refine Lr ?_
       fail_if_success with_reducible refine LR ?_
       refine LQ J ?_)
    | (with_reducible refine LP ?_
       first
         |refine aB (gj ?_)
         |with_reducible refine gj ?_
         |with_reducible refine oP ?_
         | (fail_if_success with_reducible refine LS ?_
            with_reducible refine eZ ?_)
         |with_reducible refine Ea ?_
         |with_reducible refine Hb ?_)
    |with_reducible refine fa ?_
    |with_reducible refine Lj ?_
    |with_reducible refine Li ?_
    |with_reducible refine Lh ?_
    |with_reducible refine JT ?_
    |with_reducible refine K9 ?_)
  exact k.un):p:=h ⟨k⟩
end
section
open Go.RowKit
open Asn
def C7 (m:Nat)(listed:Array Bool)(Bs:List (List Chunk)):List Chunk:=((List.range m).filter fun i=> !listed.getD i false).flatMap fun i=>Bs.getD i []
theorem C6 {m:Nat}{listed:Array Bool}{Bs:List (List Chunk)}(h: ∀i,i<m→listed.getD i false=true):C7 m listed Bs=[]:=by
 unfold C7;rw [List.filter_eq_nil_iff.2 fun i hi=>by rw [h i (List.mem_range.1 hi)];simp];rfl
theorem Fk {m j:Nat}{listed:Array Bool}{Bs:List (List Chunk)}(hj:j<m)(hf:listed.getD j false=false)(hs:j<listed.size):(C7 m listed Bs).Perm (Bs.getD j []++C7 m (listed.setIfInBounds j true) Bs):=by
 unfold C7
 have hp:((List.range m).filter fun i=> !listed.getD i false).Perm (j::(List.range m).filter fun i=> !(listed.setIfInBounds j true).getD i false):=by
  refine (List.perm_ext_iff_of_nodup (List.nodup_range.filter _) (List.nodup_cons.2 ⟨fun h=> ?_,List.nodup_range.filter _⟩)).2 fun k=> ?_
  ·have h2:=(List.mem_filter.1 h).2;simp [hs] at h2
  rw [List.mem_cons,List.mem_filter,List.mem_filter];by_cases e:k=j
  ·subst e;simp [hj,hf]
  have h3:(listed.setIfInBounds j true).getD k false=listed.getD k false:=by
   simp [Array.getElem?_setIfInBounds_ne (fun h=>e h.symm)]
  rw [h3];simp [e]
 exact hp.flatMap_right _
theorem En {α:Type}{F Fp Fr hB B U' L D:List α}(h1:F.Perm (Fp++Fr))(h2:hB.Perm (B++U')):(F++(hB++L)++D).Perm ((Fp++(B++L))++(Fr++(U'++D))):=by
 classical
 rw [List.perm_iff_count] at h1 h2⊢;intro x;have:=h1 x;have:=h2 x;simp only [List.count_append] at*;omega
theorem FA {α:Type}{F F' Fp Fr A hB L D:List α}(h1:F'.Perm (A++F))(h2:F.Perm (Fp++Fr)):((A++(Fp++L))++(Fr++(hB++D))).Perm (F'++(hB++L)++D):=by
 classical
 rw [List.perm_iff_count] at h1 h2⊢;intro x;have:=h1 x;have:=h2 x;simp only [List.count_append] at*;omega
theorem I8 {X:Cx}{K:K3}{s:cJ}{L:List Chunk}{id:Nat}{l:List Oper}(hm:X.P.follows .mixedOrders=true)(m:Nat)(qs:List Nat)(ds:List Nat)(pr:List (List Nat))(As:List (Value→List Chunk))(Bs:List (List Chunk)){L0:List Chunk}(hL:Cv L0 (C7 m (Array.replicate l.length false) Bs++L))(hBq: ∀q∈qs,Bs.getD q []=[])(hok:K8 l.toArray m qs ds pr s X.n=true)
  (qstep: ∀q∈qs, ∀(o:Oper),q<m→l.toArray[q]? =some o→ ∀val:Nat→Value,QS X.P l.toArray (yw ds val (pr.getD q []) s) (vC As val (pr.getD q []) L) o (As.getD q fun _=> []))
  (step: ∀(i:Nat) (o:Oper),i<m→l.toArray[i]? =some o→ ∀val:Nat→Value,KL X.P l.toArray (yw ds val (pr.getD i []) s) (vC As val (pr.getD i []) (Bs.getD i []++L)) (vC As val (pr.getD i []) L) o (As.getD i fun _=> []))
  (fin: ∀val:Nat→Value,AR X l.toArray K (l.length - m) (ot (Array.replicate l.length false) (List.range m)) (yw ds val (List.range m) s) (vC As val (List.range m) L)):Wq X (.region id l.toArray true) K s L0:=by
 unfold K8 at hok;simp only [Bool.and_eq_true,decide_eq_true_eq,List.all_eq_true,List.mem_range] at hok;obtain ⟨⟨⟨⟨⟨⟨⟨⟨hns,hqs⟩,h1⟩,h2⟩,h3⟩,h4⟩,h5⟩,h6⟩,h7⟩:=hok;simp only [List.size_toArray] at h2 h7 hqs
 have hdst: ∀i o,i<m→l.toArray[i]? =some o→o.dst=some (ds.getD i 0):=fun i o hi ho=>by
  have h8:=(h6 i hi).1.1.1;rw [ho] at h8
  have h9:o.dst=ds[i]? :=by simpa using h8
  rw [h9];simp [List.getD,h3,hi]
 have hds: ∀i j,i<m→j<m→ds.getD i 0=ds.getD j 0→i=j:=fun i j hi hj e=>by
  have e1:ds.getD i 0=ds[i]'O:=by simp [List.getD,h3,hi]
  have e2:ds.getD j 0=ds[j]'O:=by simp [List.getD,h3,hj]
  rw [e1,e2] at e;have hp:=List.pairwise_iff_getElem.1 h4;rcases Nat.lt_trichotomy i j with h|h|h
  ·exact absurd e (hp i j O O h)
  ·exact h
  exact absurd e.symm (hp j i O O h)
 have hdn: ∀i,i<m→ds.getD i 0<X.n∧ ∀k v,iR s k=some v→k≠ds.getD i 0:=fun i hi=>by
  have hmem:ds.getD i 0∈ds:=by
   have e1:ds.getD i 0=ds[i]'O:=by simp [List.getD,h3,hi]
   rw [e1];exact List.getElem_mem _
  have h8:=h5 _ hmem;refine ⟨Nat.le_of_ble_eq_true h8.1,fun k v hp e=> ?_⟩;have h9:=h8.2 _ (pG _ _ _ hp);simp only [e,Nat.beq_refl] at h9;cases h9
 have hpr: ∀i,i<m→(∀k∈pr.getD i [],k∈uD l.toArray i∧k<m)∧(pr.getD i []).Nodup∧ ∀k∈tK l.toArray i,k<i:=fun i hi=>by
  obtain ⟨⟨⟨-,g2⟩,g3⟩,g4⟩:=h6 i hi;refine ⟨fun k hk=> ?_,g3,fun k hk=> ?_⟩
  ·have g5:=g2 k hk;exact ⟨by simpa using g5.1,Nat.lt_of_succ_le (Nat.le_of_ble_eq_true g5.2)⟩
  exact Nat.lt_of_succ_le (Nat.le_of_ble_eq_true (g4 k hk))
 -- the invariant
 have main: ∀(fuel:Nat) (listed:Array Bool) (val:Nat→Value) (H:List Chunk) (Ds:List Nat) (a:Act) (w:World),listed.size=l.length→wA l.toArray listed→(∀t,m≤t→listed.getD t false=false)→fuel+(yh m listed).length=l.length→Fx X s a→(∀i,i<m→listed.getD i false=true→a.tmps.getD (ds.getD i 0) undef=val i)→a.defers=Ds.map qF→Sp (Ds.map cW++H) (vC As val (yh m listed) (C7 m listed Bs++L)) w→wpAnyIn (vX X.r) 0 X.P .any l.toArray (rP X H (sG K)) fuel listed a w:=by
  intro fuel
  induction fuel with
  | zero=>
   intro listed val H Ds a w hsz hcl hhi hfu hfx hval hdf hsp;have hle:(yh m listed).length≤(List.range m).length:=List.length_filter_le _ _
   have hm':m=l.length:=by rw [List.length_range] at hle;omega
   have hlst:yh m listed=List.range m:=List.filter_eq_self.2 fun i hi=>List.length_filter_eq_length_iff.1 (show (yh m listed).length=(List.range m).length by rw [List.length_range];omega) i hi
   have hli:ot (Array.replicate l.length false) (List.range m)=listed:=by
    apply Array.ext
    ·rw [kn];simp [hsz]
    intro k hk hk2;rw [kn] at hk;have e1:=sT (List.range m) (Array.replicate l.length false) k hk;simp only [Array.size_replicate] at hk
    have hin:k∈yh m listed:=by rw [hlst];simp;omega
    have e2:=(lZ.1 hin).2
    have e3:(List.range m).contains k=true:=by simp;omega
    rw [e3,Bool.or_true] at e1;simp only [Array.getD_eq_getD_getElem?,Array.getElem?_eq_getElem,hk2,Option.getD_some] at e2
    have hk3:k<(ot (Array.replicate l.length false) (List.range m)).size:=by rw [kn];simpa using hk
    simp only [Array.getD_eq_getD_getElem?,Array.getElem?_eq_getElem,hk3,Option.getD_some] at e1;rw [e1,e2]
   have hunl:C7 m listed Bs=[]:=C6 fun i hi=>(lZ.1 (by rw [hlst];exact List.mem_range.2 hi)).2
   rw [hlst,hunl,List.nil_append] at hsp
   have hf:=fin val H Ds a w ⟨hfx.size,fun k v hk=>by
    rcases tN _ _ _ _ hk with h|h
    ·obtain ⟨i,hi,he⟩:=List.mem_map.1 (pG _ _ _ h);cases he
     have hi':i∈yh m listed:=by rw [hlst];exact hi
     exact hval i (lZ.1 hi').1 (lZ.1 hi').2
    ·exact hfx.at_ k v h⟩ hdf hsp
   rw [hli,show l.length - m=0 by omega] at hf;exact hf
  | succ fuel ih=>
   intro listed val H Ds a w hsz hcl hhi hfu hfx hval hdf hsp;by_cases hall: ∀i,i<m→listed.getD i false=true
   ·have hlst:yh m listed=List.range m:=List.filter_eq_self.2 fun i hi=>hall i (by simpa using hi)
    have hli:ot (Array.replicate l.length false) (List.range m)=listed:=by
     apply Array.ext
     ·rw [kn];simp [hsz]
     intro k hk hk2;rw [kn] at hk;have e1:=sT (List.range m) (Array.replicate l.length false) k hk
     have hk3:k<(ot (Array.replicate l.length false) (List.range m)).size:=by rw [kn];exact hk
     simp only [Array.getD_eq_getD_getElem?,Array.getElem?_eq_getElem,hk3,Option.getD_some] at e1;rw [e1];simp only [Array.size_replicate] at hk;by_cases hkm:k<m
     ·have e2:=hall k hkm;simp only [Array.getD_eq_getD_getElem?,Array.getElem?_eq_getElem,hk2,Option.getD_some] at e2;rw [e2];simp [hkm]
     have e2:=hhi k O;simp only [Array.getD_eq_getD_getElem?,Array.getElem?_eq_getElem,hk2,Option.getD_some] at e2;rw [e2];simp [hk,hkm]
    rw [hlst,C6 hall,List.nil_append] at hsp;rw [hlst] at hfu;rw [List.length_range] at hfu
    have hf:=fin val H Ds a w ⟨hfx.size,fun k v hk=>by
     rcases tN _ _ _ _ hk with h|h
     ·obtain ⟨i,hi,he⟩:=List.mem_map.1 (pG _ _ _ h);cases he
      have hi':i<m:=by simpa using hi
      exact hval i hi' (hall i hi')
     ·exact hfx.at_ k v h⟩ hdf hsp
    rw [hli,show l.length - m=fuel+1 by omega] at hf;exact hf
   have hex: ∃i,i<m∧listed.getD i false=false:=by
    refine Classical.byContradiction fun h=>hall fun i hi=> ?_
    cases hb:listed.getD i false with
    |true=>rfl
    |false=>exact absurd ⟨i,hi,hb⟩ h
   have hun: ∀i,listed.getD i false=false→i<l.length→listed.getD i true=false:=fun i hi hlt=>by
    simp only [Array.getD_eq_getD_getElem?,Array.getElem?_eq_getElem,hsz,hlt,Option.getD_some] at hi⊢;exact hi
   have hleast: ∃i0,i0<m∧listed.getD i0 false=false∧i0∈Region.ready .any l.toArray listed:=by
    obtain ⟨⟨hi0,hu0⟩,hmin⟩:=leastOf_spec hex;generalize leastOf (fun i=>i<m∧listed.getD i false=false)=i0 at hi0 hu0 hmin
    have hlt:i0<l.length:=by omega
    refine ⟨i0,hi0,hu0,?_⟩
    
    refine mem_ready.2 ⟨hun i0 hu0 hlt,l[i0],by simp [hlt],fun e he hb=> ?_⟩
    have hon:e.on∈tK l.toArray i0:=by
     unfold tK;rw [show l.toArray[i0]? =some l[i0] by simp [hlt]];exact List.mem_map.2 ⟨e,List.mem_filter.2 ⟨by simpa using he,hb⟩,J⟩
    have hlt2:=(hpr i0 hi0).2.2 _ hon
    cases hb2:listed.getD e.on false with
    |true=>rfl
    |false=>have:=hmin _ ⟨by omega,hb2⟩;omega
   -- what an operation takes,and going on behind it
   have prep: ∀j o,j∈Region.ready .any l.toArray listed→j<m→l.toArray[j]? =some o→ ∃rest:List Nat,
     Sp ((rest.flatMap fun i=>(As.getD i fun _=> []) (val i))++(C7 m (listed.setIfInBounds j true) Bs++(Ds.map cW++H))) (vC As val (pr.getD j []) (Bs.getD j []++L)) w∧Fx X (yw ds val (pr.getD j []) s) a∧
     ∀(v:Value) (w':World),Sp ((rest.flatMap fun i=>(As.getD i fun _=> []) (val i))++(C7 m (listed.setIfInBounds j true) Bs++(Ds.map cW++H))) ((As.getD j fun _=> []) v++vC As val (pr.getD j []) L) w'→wpAnyIn (vX X.r) 0 X.P .any l.toArray (rP X H (sG K)) fuel (listed.setIfInBounds j true) (a.put o.dst v) w':=by
    intro j o hj hjm ho;obtain ⟨hju,o2,ho2,hedge⟩:=mem_ready.1 hj;rw [ho] at ho2;cases ho2
    have hjl:j<l.length:=by
     have:=(Array.getElem?_eq_some_iff.1 ho).1;simpa using this
    have hjf:listed.getD j false=false:=by
     simp only [Array.getD_eq_getD_getElem?,Array.getElem?_eq_getElem,hsz,hjl,Option.getD_some] at hju⊢;exact hju
    obtain ⟨hp1,hp2,hp3⟩:=hpr j hjm
    have hps: ∀k∈pr.getD j [],k∈yh m listed:=fun k hk=>by
     obtain ⟨g1,g2⟩:=hp1 k hk;exact lZ.2 ⟨g2,sU hcl hj (rg k g1)⟩
    have hd:=hdst j o hjm ho;obtain ⟨hdlt,hdne⟩:=hdn j hjm
    -- the chunks that the operation takes,and the rest
    have hperm:(yh m listed).Perm (pr.getD j []++(yh m listed).filter fun k=> !(pr.getD j []).contains k):=by
     refine (List.perm_ext_iff_of_nodup lst_nodup ?_).2 fun k=> ?_
     ·refine List.nodup_append.2 ⟨hp2,lst_nodup.filter _,fun x hx y hy e=> ?_⟩;subst e;have h11:=(List.mem_filter.1 hy).2;have h12:(pr.getD j []).contains x=true:=List.contains_iff_mem.2 hx;rw [h12] at h11;cases h11
     constructor
     ·intro hk;by_cases hkp:k∈pr.getD j []
      ·exact List.mem_append_left _ hkp
      exact Nj _ (List.mem_filter.2 ⟨hk,by simpa using hkp⟩)
     intro hk;rcases List.mem_append.1 hk with hk|hk
     ·exact hps k hk
     exact (List.mem_filter.1 hk).1
    generalize hrest:(yh m listed).filter (fun k=> !(pr.getD j []).contains k)=rest at hperm
    have hsp1:Sp ((rest.flatMap fun i=>(As.getD i fun _=> []) (val i))++(C7 m (listed.setIfInBounds j true) Bs++(Ds.map cW++H))) (vC As val (pr.getD j []) (Bs.getD j []++L)) w:=by
     refine SepL.perm hsp ?_;unfold vC;have e1:=wq (As:=As) (val:=val) hperm;rw [List.flatMap_append] at e1;have e9:=Fk (Bs:=Bs) (m:=m) (listed:=listed) hjm hjf (by rw [hsz];exact hjl);exact En e1 e9
    have hfxs:Fx X (yw ds val (pr.getD j []) s) a:=⟨hfx.size,fun k v hk=>by
     rcases tN _ _ _ _ hk with h|h
     ·obtain ⟨i,hi,he⟩:=List.mem_map.1 (pG _ _ _ h);cases he;exact hval i (lZ.1 (hps i hi)).1 (lZ.1 (hps i hi)).2
     ·exact hfx.at_ k v h⟩
    refine ⟨rest,hsp1,hfxs,?_⟩
    have go: ∀(v:Value) (w':World),Sp ((rest.flatMap fun i=>(As.getD i fun _=> []) (val i))++(C7 m (listed.setIfInBounds j true) Bs++(Ds.map cW++H))) ((As.getD j fun _=> []) v++vC As val (pr.getD j []) L) w'→wpAnyIn (vX X.r) 0 X.P .any l.toArray (rP X H (sG K)) fuel (listed.setIfInBounds j true) (a.put o.dst v) w':=by
     intro v w' hsp2;rw [hd]
     have hjn:j∉yh m listed:=fun h=>by have:=(lZ.1 h).2;rw [hjf] at this;cases this
     have hl2:(yh m (listed.setIfInBounds j true)).Perm (j::yh m listed):=by
      refine (List.perm_ext_iff_of_nodup lst_nodup (List.nodup_cons.2 ⟨hjn,lst_nodup⟩)).2 fun k=> ?_
      rw [lZ,List.mem_cons,lZ];constructor
      ·rintro ⟨g1,g2⟩;rcases oF g2 with e|e
       ·exact .inl e
       exact .inr ⟨g1,e⟩
      rintro (e|⟨g1,g2⟩)
      ·subst e;refine ⟨hjm,?_⟩;simp [hsz,hjl]
      exact ⟨g1,getD_set_true g2⟩
     refine ih (listed.setIfInBounds j true) (fun k=>if k=j then v else val k) H Ds (a.put (some (ds.getD j 0)) v) w' (by simpa using hsz) (CQ hcl hj) (fun t ht=> ?_) ?_ ?_ ?_ ((put_defers _ _ _).trans hdf) ?_
     ·rw [getD_set_ne false O];exact hhi t ht
     ·have:=hl2.length_eq;rw [List.length_cons] at this;omega
     ·refine (hfx.put v hdlt).sub fun k u hk=> ?_
      rw [i6,if_neg (fun e=>hdne k u hk e.symm)];exact hk
     ·intro i hi hli;have hput:(a.put (some (ds.getD j 0)) v).tmps=a.tmps.setIfInBounds (ds.getD j 0) v:=rfl;rw [hput];by_cases e:i=j
      ·subst e;rw [if_pos rfl]
       have h13:ds.getD i 0<a.tmps.size:=by rw [hfx.size];exact hdlt
       generalize ds.getD i 0=dd at h13⊢;simp [h13]
      rw [if_neg e];rcases oF hli with e2|e2
      ·exact absurd e2 e
      rw [←hval i hi e2]
      have hne:ds.getD j 0≠ds.getD i 0:=fun h=>e (hds j i hjm hi h).symm
      generalize ds.getD j 0=dd at hne⊢;generalize ds.getD i 0=de at hne⊢;simp [Array.getElem?_setIfInBounds_ne hne]
     refine SepL.perm hsp2 ?_;unfold vC;have e1:=wq (As:=As) (val:=fun k=>if k=j then v else val k) hl2;rw [List.flatMap_cons,if_pos rfl] at e1
     have e2:((yh m listed).flatMap fun i=>(As.getD i fun _=> []) (if i=j then v else val i))=(yh m listed).flatMap fun i=>(As.getD i fun _=> []) (val i):=by
      have key: ∀l':List Nat,(∀i∈l',i∈yh m listed)→(l'.flatMap fun i=>(As.getD i fun _=> []) (if i=j then v else val i))=l'.flatMap fun i=>(As.getD i fun _=> []) (val i):=by
       intro l'
       induction l' with
       |nil=>intro _;rfl
       |cons i l' ihl=>
        intro hl';rw [List.flatMap_cons,List.flatMap_cons,ihl fun q hq=>hl' q (by simp [hq]),if_neg (fun e:i=j=>hjn (e▸hl' i (by simp)))]
      exact key _ fun _ h=>h
     rw [e2] at e1;have e3:=wq (As:=As) (val:=val) hperm;rw [List.flatMap_append] at e3;exact FA e1 e3
    exact go
   by_cases hq: ∃q∈qs,q<m∧q∈Region.ready .any l.toArray listed
   ·-- an operation whose value does not depend on the world comes first
    obtain ⟨q,hqm,hqlt,hqr⟩:=hq;obtain ⟨hqu,o,ho,hedge⟩:=mem_ready.1 hqr;obtain ⟨rest,hsp1,hfxs,go⟩:=prep q o hqr hqlt ho;rw [hBq q hqm,List.nil_append] at hsp1;obtain ⟨v,hg,hev,hcv⟩:=qstep q hqm o hqlt ho val _ _ hsp1;have hfree:=hqs q hqm;rw [ho] at hfree;simp only [List.all_eq_true,List.mem_range] at hfree;refine tp _ _ _ _ (sR (C:=fun _=>True) (oi:=o) (v:=v) ho (r6 h1) (Region.noSelect_spec hns) (fun c a w ⟨_,_,_,_,_,_,he,_⟩=>(by cases he)) fuel listed a w trivial ?_ hqr (.inl ⟨fc hfxs hg,fun w' _=>hev a.eval (fun x u hx=>hfxs.eval hx) w' trivial⟩) (GX _ _ _ _ (go v w hcv)));intro j oj hoj hne hul hno
    have hjl:j<l.length:=by
     have:=(Array.getElem?_eq_some_iff.1 hoj).1;simpa using this
    have h8:=hfree j hjl;rw [hoj] at h8;simp only [Bool.or_eq_true] at h8;rcases h8 with ((h8|h8)|h8)|h8
    ·exact absurd (Nat.eq_of_beq_eq_true h8) hne
    ·obtain ⟨o',e,ho',he,hb,heq⟩:=xg (List.contains_iff_mem.1 h8);rw [hoj] at ho';cases ho';exact absurd heq (hno e he hb)
    ·have h14:=sU hcl hqr (rg j (List.contains_iff_mem.1 h8));simp only [Array.getD_eq_getD_getElem?,Array.getElem?_eq_getElem,hsz,hjl,Option.getD_some] at h14 hul;rw [h14] at hul;cases hul
    exact h8
   refine ⟨fun hr=> ?_,fun j hj=> ?_⟩
   ·obtain ⟨i0, -, -,hin⟩:=hleast;rw [hr] at hin;cases hin
   obtain ⟨hju,o,ho,hedge⟩:=mem_ready.1 hj
   have hjl:j<l.length:=by
    have:=(Array.getElem?_eq_some_iff.1 ho).1;simpa using this
   have hjm:j<m:=by
    refine Classical.byContradiction fun hge=> ?_
    obtain ⟨i0,hi0,hu0,hin0⟩:=hleast;have h8:=h7 j hjl
    have h9:Nat.blt j m=false:=by
     cases hb:Nat.blt j m with
     |false=>rfl
     |true=>exact absurd (Nat.lt_of_succ_le (Nat.le_of_ble_eq_true hb)) hge
    rw [h9,Bool.false_or,List.all_eq_true] at h8;have h10:=h8 i0 (by simpa using hi0);rw [Bool.or_eq_true] at h10;rcases h10 with h10|h10
    ·exact hq ⟨i0,List.contains_iff_mem.1 h10,hi0,hin0⟩
    have:=sU hcl hj (rg i0 (by simpa using h10));rw [hu0] at this;cases this
   have hndef:i5 o=true:=r6 h1 j o ho;obtain ⟨rest,hsp1,hfxs,go⟩:=prep j o hj hjm ho;unfold wpOpIn;rw [ho]
   dsimp only
   rcases step j o hjm ho val _ _ hsp1 with ⟨hg,hop⟩|⟨hg,hsp2⟩
   ·rw [if_pos (fc hfxs hg)]
    refine (hop a.eval fun x u hx=>hfxs.eval hx).wpIn hndef fun v L' w' hc hs=> ?_
    exact go v w' (hc _ _ hs)
   rw [if_neg (by rw [fc hfxs hg];exact Bool.false_ne_true)];exact ⟨fun _ _=>trivial,go undef w hsp2⟩
 intro H Ds a w ha hds' hw;have hw1:Sp (Ds.map cW++H) (C7 m (Array.replicate l.length false) Bs++L) {w with drawn:=w.drawn+1}:=SepL.same (hL _ _ hw) ⟨rfl,rfl,rfl,Nat.le_refl _,fun _ _ _=>rfl⟩
 have hf: ∀k,(Array.replicate l.length false).getD k false=false:=fun k=>by
  simp only [Array.getD_eq_getD_getElem?,Array.getElem?_replicate];split<;>rfl
 have hl0:yh m (Array.replicate l.length false)=[]:=by
  refine List.eq_nil_iff_forall_not_mem.2 fun i hi=> ?_
  have:=(lZ.1 hi).2;rw [hf] at this;cases this
 have h9:=main l.length (Array.replicate l.length false) (fun _=>undef) H Ds a _ (by simp) (fun k o e hk=>by rw [hf] at hk;cases hk) (fun t _=>hf t) (by rw [hl0];simp) ha (fun i _ hi=>by rw [hf] at hi;cases hi) hds' (by rw [hl0];exact hw1);refine wpIn_mono (wpIn_region_any hm (by simpa using h9)) ?_;rintro e a' w' ⟨s',L',Ds',g1,g2,g3,rfl,g4⟩;exact ⟨s',L',Ds',g1,g2,g3,g4⟩
theorem jP {Bs:List (List Chunk)}: ∀q∈([]:List Nat),Bs.getD q []=[]:=fun _ h=>nomatch h
theorem eX {Bs:List (List Chunk)}{q':Nat}{qs:List Nat}(h:Bs.getD q' []=[])(t: ∀q∈qs,Bs.getD q []=[]): ∀q∈q'::qs,Bs.getD q []=[]:=fun q hq=>(List.mem_cons.1 hq).elim (fun e=>e▸h) (t q)
theorem xn {ds:List Nat}{val:Nat→Value}{s:cJ}: ∀(l:List Nat),(∀i∈l, ∀j∈l,ds.getD i 0=ds.getD j 0→i=j)→ ∀i∈l,iR (l.map (fun i=>(ds.getD i 0,val i))++s) (ds.getD i 0)=some (val i)
 | [],_,i,h=>by cases h
 |j::l,hd,i,h=>by
  rw [List.map_cons,List.cons_append,i6];by_cases e:ds.getD j 0=ds.getD i 0
  ·rw [if_pos e,hd j (by simp) i h e]
  rw [if_neg e];rcases List.mem_cons.1 h with e2|h
  ·subst e2;exact absurd J e
  exact xn l (fun a ha b hb=>hd a (by simp [ha]) b (by simp [hb])) i h
theorem uM {ds:List Nat}{val:Nat→Value}{s:cJ}{k:Nat}: ∀(l:List Nat),(∀i∈l,ds.getD i 0≠k)→iR (l.map (fun i=>(ds.getD i 0,val i))++s) k=iR s k
 | [],_=>rfl
 |j::l,hd=>by
  rw [List.map_cons,List.cons_append,i6,if_neg (hd j (by simp))]
  exact uM l fun i hi=>hd i (by simp [hi])
theorem Gt {As:List (Value→List Chunk)}{val:Nat→Value}{L:List Chunk}{m:Nat}{ix:List Nat}(hn:ix.Nodup)(hm: ∀i∈ix,i<m):Cv (vC As val (List.range m) L) (vC As val ix L):=by
 have hp:(List.range m).Perm (((List.range m).filter fun i=> !ix.contains i)++ix):=by
  refine (List.perm_ext_iff_of_nodup List.nodup_range ?_).2 fun k=> ?_
  ·refine List.nodup_append.2 ⟨List.nodup_range.filter _,hn,fun x hx y hy e=> ?_⟩;subst e;have h1:=(List.mem_filter.1 hx).2;rw [List.contains_iff_mem.2 hy] at h1;cases h1
  rw [List.mem_append,List.mem_filter,List.mem_range];by_cases h:k∈ix
  ·simp [h,hm k h]
  simp [h]
 have e:=wq (As:=As) (val:=val) hp;rw [List.flatMap_append] at e;unfold vC;refine Cv.trans (fun Z w h=>SepL.perm h ((e.append_right L).append_right Z)) ?_;rw [Ni];exact BR _
theorem ik {X:Cx}{K:K3}{s:cJ}{L L0:List Chunk}{id:Nat}{l:List Oper}(hm:X.P.follows .mixedOrders=true)(m:Nat)(qs:List Nat)(ix:List Nat)(ds:List Nat)(pr:List (List Nat))(As:List Asn)(Bs:List (List Chunk))(hL:Cv L0 (C7 m (Array.replicate l.length false) Bs++L))(hBq: ∀q∈qs,Bs.getD q []=[])(hok:K8 l.toArray m qs ds pr s X.n=true)(hlen:Nat.beq As.length m=true)(hix:(ix.all (fun i=>Nat.blt i m)&&decide ix.Nodup)=true)
  (qstep: ∀q∈qs, ∀(o:Oper),q<m→l.toArray[q]? =some o→HK ds As (pr.getD q []) (fun s' L'=>LF X.P l.toArray s' L' L' o (As.getD q (aV undef)).full) s L)
  (step: ∀(i:Nat) (o:Oper),i<m→l.toArray[i]? =some o→BJ ds As (pr.getD i []) (fun s' L' L''=>KL X.P l.toArray s' L' L'' o (As.getD i (aV undef)).full) s (Bs.getD i []++L) L)
  (fin:HK ds As ix (fun s' L'=>AR X l.toArray K (l.length - m) (ot (Array.replicate l.length false) (List.range m)) s' L') s L):Wq X (.region id l.toArray true) K s L0:=by
 have hl:As.length=m:=Nat.eq_of_beq_eq_true hlen
 have hpr: ∀i,i<m→ ∀k∈pr.getD i [],k<As.length:=fun i hi k hk=>by
  unfold K8 at hok;simp only [Bool.and_eq_true,List.all_eq_true,List.mem_range] at hok;have h6:=(hok.1.2 i hi).1.1.2 k hk;have h7:=Nat.le_of_ble_eq_true h6.2;omega
 simp only [Bool.and_eq_true,List.all_eq_true,decide_eq_true_eq] at hix
 have hixm: ∀i∈ix,i<m:=fun i hi=>Nat.lt_of_succ_le (Nat.le_of_ble_eq_true (hix.1 i hi))
 have hds:(∀i j,i<m→j<m→ds.getD i 0=ds.getD j 0→i=j)∧ ∀i,i<m→ ∀k v,iR s k=some v→k≠ds.getD i 0:=by
  have hok2:=hok;unfold K8 at hok2;simp only [Bool.and_eq_true,decide_eq_true_eq,List.all_eq_true,List.mem_range] at hok2;obtain ⟨⟨⟨⟨⟨⟨⟨⟨-, -⟩, -⟩, -⟩,h3⟩,h4⟩,h5⟩, -⟩, -⟩:=hok2;refine ⟨fun i j hi hj e=> ?_,fun i hi k v hp e=> ?_⟩
  ·have e1:ds.getD i 0=ds[i]'O:=by simp [List.getD,h3,hi]
   have e2:ds.getD j 0=ds[j]'O:=by simp [List.getD,h3,hj]
   rw [e1,e2] at e;have hp:=List.pairwise_iff_getElem.1 h4;rcases Nat.lt_trichotomy i j with h|h|h
   ·exact absurd e (hp i j O O h)
   ·exact h
   exact absurd e.symm (hp j i O O h)
  have hmem:ds.getD i 0∈ds:=by
   have e1:ds.getD i 0=ds[i]'O:=by simp [List.getD,h3,hi]
   rw [e1];exact List.getElem_mem _
  have h9:=(h5 _ hmem).2 _ (pG _ _ _ hp);simp only [e,Nat.beq_refl] at h9;cases h9
 refine I8 hm m qs ds pr (o8 As) Bs hL hBq hok (fun q hq o hqm ho val=> ?_) (fun i o him ho val=> ?_) fun val=> ?_
 ·rw [uR _ _ O];exact Fy (hpr q hqm) (qstep q hq o hqm ho)
 ·rw [uR _ _ O];exact Fl (hpr i him) (step i o him ho)
 refine mq (J5 (fun i hi=>by have:=hixm i hi;omega) fin) (fun k v hk=> ?_) (Gt hix.2 hixm);unfold yw at hk⊢;by_cases hex: ∃i∈ix,ds.getD i 0=k
 ·obtain ⟨i,hi,rfl⟩:=hex;rw [xn ix (fun a ha b hb e=>hds.1 a b (hixm a ha) (hixm b hb) e) i hi] at hk;rw [xn (List.range m) (fun a ha b hb e=>hds.1 a b (List.mem_range.1 ha) (List.mem_range.1 hb) e) i (List.mem_range.2 (hixm i hi))];exact hk
 rw [uM ix fun i hi e=>hex ⟨i,hi,e⟩] at hk;rw [uM (List.range m) fun i hi e=>hds.2 i (List.mem_range.1 hi) k v hk e.symm];exact hk
section
variable {P:Program} {s:cJ} {C:World→Prop} {d:Option Nat} {ty:TypeId} {pos:String} {af:Array Edge} {gd:Option (Nat×Bool)}
end
end
section
open Go.RowKit
def Mf (e:TypeId)(sz:Nat)(v:Value):Chunk where
 ok T _ w:= ∃g n cap cur,v=.slice (some ⟨g,0,none⟩) n cap∧T g∧w.heap[g]? =some (.cells cur e (0,0))∧n≤cap∧cap≤maxLen∧cur.size=cap*sz
 loc:=fun h ⟨g,n,cap,cur,e1,h1,h2,h3⟩=>⟨g,n,cap,cur,e1,h1,Blk.agr (t:=e) h2 h (.inl h1),h3⟩
 mono:=fun _ h=>h
 ro:=false
 dup:=fun h=>Bool.noConfusion h
section
variable {P:Program} {s:cJ} {L:List Chunk} {d:Option Nat} {ty:TypeId} {pos:String} {af:Array Edge} {gd:Option (Nat×Bool)}
end
def Wr (X:Cx)(c:Code)(K:K3)(m:Nat)(s:cJ)(L:List Chunk):Prop:= ∀(H:List Chunk) (Ds:List Nat) (a:Act) (w:World),Fx X s a→a.defers=Ds.map qF→Sp (Ds.map cW++H) L w→Code.roundsIn (vX X.r) 0 X.P c (rP X H K) m a w
section
variable {X:Cx} {K:K3} {s:cJ} {L:List Chunk}
end
end
section
open Go.RowKit
def KJ (s:cJ):List Nat→cJ→Prop
 |_,[]=>True
 |ks,(d,v)::t=>(iR s d=some v∨ks.contains d=true)∧KJ s (d::ks) t
theorem Bb {s:cJ}: ∀{t:cJ} {ks:List Nat},KJ s ks t→ ∀k v,ks.contains k=false→iR t k=some v→iR s k=some v
 | [],_,_=>fun _ _ _ h=>by cases h
 |(d,u)::t,ks,h=>fun k v hk hl=>by
  rw [i6] at hl;by_cases e:d=k
  ·subst e;rw [if_pos rfl] at hl;cases hl;rcases h.1 with h1|h1
   ·exact h1
   rw [hk] at h1;cases h1
  rw [if_neg e] at hl;exact Bb h.2 k v (by simp only [List.contains_cons,Bool.or_eq_false_iff];exact ⟨by simpa using fun h=>e h.symm,hk⟩) hl
theorem sA {s t:cJ}(h:KJ s [] t:=by repeat (first|exact trivial|refine ⟨.inl rfl,?_⟩|refine ⟨.inr rfl,?_⟩)):yf s t:=fun k v hl=>Bb h k v rfl hl
section
variable {X:Cx} {ops:Array Oper} {K:K3} {s:cJ} {L:List Chunk} {rest:List Oper} {d:Nat} {op:Op} {ty:TypeId} {pos:String} {af:Array Edge} {gd:Option (Nat×Bool)}
theorem gD {R:Value→List Chunk→Prop}(h:OpX X.P s L ⟨some d,op,ty,pos,af,gd⟩ R)(k: ∀v L',R v L'→d6 X ops rest K ((d,v)::s) L')(hn:i5 ⟨some d,op,ty,pos,af,gd⟩=true:=by rfl)(hg:cg ops s ⟨some d,op,ty,pos,af,gd⟩=some true:=by rfl)(hd:Nat.ble (d+1) X.n=true:=by rfl):d6 X ops (⟨some d,op,ty,pos,af,gd⟩::rest) K s L:=ur h hn hg hd k
theorem gO {R:Value→List Chunk→Prop}(h:OpX X.P s L ⟨none,op,ty,pos,af,gd⟩ R)(k: ∀v L',R v L'→d6 X ops rest K s L')(hn:i5 ⟨none,op,ty,pos,af,gd⟩=true:=by rfl)(hg:cg ops s ⟨none,op,ty,pos,af,gd⟩=some true:=by rfl):d6 X ops (⟨none,op,ty,pos,af,gd⟩::rest) K s L:=Jx h hn hg k
theorem gE {v:Value}(h:Ev X.P s (fun _=>True) ⟨some d,op,ty,pos,af,gd⟩ v)(k:d6 X ops rest K ((d,v)::s) L)(hn:i5 ⟨some d,op,ty,pos,af,gd⟩=true:=by rfl)(hg:cg ops s ⟨some d,op,ty,pos,af,gd⟩=some true:=by rfl)(hd:Nat.ble (d+1) X.n=true:=by rfl):d6 X ops (⟨some d,op,ty,pos,af,gd⟩::rest) K s L:=fb h hn hg hd k
theorem gR {v:Value}(h:Rd X.P s L ⟨some d,op,ty,pos,af,gd⟩ v)(k:d6 X ops rest K ((d,v)::s) L)(hn:i5 ⟨some d,op,ty,pos,af,gd⟩=true:=by rfl)(hg:cg ops s ⟨some d,op,ty,pos,af,gd⟩=some true:=by rfl)(hd:Nat.ble (d+1) X.n=true:=by rfl):d6 X ops (⟨some d,op,ty,pos,af,gd⟩::rest) K s L:=cp h hn hg hd k
end
abbrev iV (z:Int):Value:=.int .i64 z
abbrev pV (b o:Nat):Value:=.pointer (some ⟨b,o,none⟩)
theorem Al {L':List Chunk}(h:L'=[]):L'=[]:=h
theorem wo {L' t T:List Chunk}{a:Chunk}(h:L'=a::t)(k:t=T):L'=a::T:=k▸h
theorem bM {X:Cx}{ops:Array Oper}{K:K3}{s:cJ}{L' L:List Chunk}{l:List Oper}(k:d6 X ops l K s L)(h:L'=L:=by repeat (first|exact Al rfl|apply wo rfl|exact rfl)):d6 X ops l K s L':=h▸k
theorem dt {X:Cx}{ops:Array Oper}{K:K3}{s:cJ}{M L' L:List Chunk}{fuel:Nat}{listed:Array Bool}(k:og X ops K M fuel listed s L)(h:L'=L:=by repeat (first|exact Al rfl|apply wo rfl|exact rfl)):og X ops K M fuel listed s L':=h▸k
theorem Fj {X:Cx}{K:K3}{s:cJ}{L' L:List Chunk}{c:Code}(k:Wq X c K s L)(h:L'=L:=by repeat (first|exact Al rfl|apply wo rfl|exact rfl)):Wq X c K s L':=h▸k
theorem vv {X:Cx}{ops:Array Oper}{K:K3}{fuel:Nat}{listed:Array Bool}{s:cJ}{L' L:List Chunk}(k:AR X ops K fuel listed s L)(h:L'=L:=by repeat (first|exact Al rfl|apply wo rfl|exact rfl)):AR X ops K fuel listed s L':=h▸k
theorem eg {P:List Chunk→Prop}{L M:List Chunk}(h:Cv L M)(k:P M): ∃M',Cv L M'∧Cv M' M∧P M':=⟨M,h,ae _,k⟩
theorem cS {L:List Chunk}(ix:List Nat)(k:Nat)(hk:zP ix k=true:=by exact rfl)(hl:Nat.ble k L.length=true:=by exact rfl):Cv L (wJ ix k L):=xL ix k hk hl
section
variable {X:Cx} {ops:Array Oper} {K:K3} {s:cJ} {L M:List Chunk} {fuel:Nat} {listed:Array Bool} {d:Nat} {op:Op} {ty:TypeId} {pos:String} {af:Array Edge} {gd:Option (Nat×Bool)}
theorem zE (i:Nat){v:Value}(hi:ops[i]? =some ⟨some d,op,ty,pos,af,gd⟩)(h:Ev X.P s (fun _=>True) ⟨some d,op,ty,pos,af,gd⟩ v)(k:og X ops K M fuel (listed.setIfInBounds i true) ((d,v)::s) L)(hk:Ji ops listed i=true:=by kernel_rfl)(hg:cg ops s ⟨some d,op,ty,pos,af,gd⟩=some true:=by exact rfl)(hd:Nat.ble (d+1) X.n=true:=by exact rfl):og X ops K M (fuel+1) listed s L:=dG i hi hk h hg hd k
theorem zR (i:Nat){v:Value}(hi:ops[i]? =some ⟨some d,op,ty,pos,af,gd⟩)(h:Rd X.P s M ⟨some d,op,ty,pos,af,gd⟩ v)(k:og X ops K M fuel (listed.setIfInBounds i true) ((d,v)::s) L)(hk:Ji ops listed i=true:=by kernel_rfl)(hg:cg ops s ⟨some d,op,ty,pos,af,gd⟩=some true:=by exact rfl)(hd:Nat.ble (d+1) X.n=true:=by exact rfl):og X ops K M (fuel+1) listed s L:=kB i hi hk h hg hd k
theorem zU (i:Nat)(hi:ops[i]? =some ⟨some d,op,ty,pos,af,gd⟩)(k:og X ops K M fuel (listed.setIfInBounds i true) ((d,undef)::s) L)(hk:Ji ops listed i=true:=by kernel_rfl)(hg:cg ops s ⟨some d,op,ty,pos,af,gd⟩=some false:=by exact rfl)(hd:Nat.ble (d+1) X.n=true:=by exact rfl):og X ops K M (fuel+1) listed s L:=cv i hi hk hg hd k
theorem zD (i:Nat){R:Value→List Chunk→Prop}(hi:ops[i]? =some ⟨some d,op,ty,pos,af,gd⟩)(h:OpX X.P s L ⟨some d,op,ty,pos,af,gd⟩ R)(k: ∀v L',R v L'→ ∃M',Cv L' M'∧Cv M' M∧og X ops K M' fuel (listed.setIfInBounds i true) ((d,v)::s) L')(hr:Region.ready .any ops listed=[i]:=by kernel_rfl)(hn:i5 ⟨some d,op,ty,pos,af,gd⟩=true:=by exact rfl)(hg:cg ops s ⟨some d,op,ty,pos,af,gd⟩=some true:=by exact rfl)(hd:Nat.ble (d+1) X.n=true:=by exact rfl):og X ops K M (fuel+1) listed s L:=mK i hi hr h hn hg hd k
theorem zO (i:Nat){R:Value→List Chunk→Prop}(hi:ops[i]? =some ⟨none,op,ty,pos,af,gd⟩)(h:OpX X.P s L ⟨none,op,ty,pos,af,gd⟩ R)(k: ∀v L',R v L'→ ∃M',Cv L' M'∧Cv M' M∧og X ops K M' fuel (listed.setIfInBounds i true) s L')(hr:Region.ready .any ops listed=[i]:=by kernel_rfl)(hn:i5 ⟨none,op,ty,pos,af,gd⟩=true:=by exact rfl)(hg:cg ops s ⟨none,op,ty,pos,af,gd⟩=some true:=by exact rfl):og X ops K M (fuel+1) listed s L:=KI i hi hr h hn hg k
end
end
section
open Go.RowKit
abbrev K1 {α β:Type}(f:α→Prop)(g:β→Prop)(r:α ⊕ β):Prop:=match r with
 | .inl a=>f a
 | .inr b=>g b
def AV {α β γ:Type}(s:α ⊕ β)(f:α→γ)(g:β→γ):γ:=match s with
 | .inl a=>f a
 | .inr b=>g b
theorem Cn {α β γ:Type}{a:α}{f:α→γ}{g:β→γ}{r:γ}(h:AV (.inl a) f g=r):f a=r:=h
theorem Cm {α β γ:Type}{b:β}{f:α→γ}{g:β→γ}{r:γ}(h:AV (.inr b) f g=r):g b=r:=h
theorem wj {α:Type}{xs:List α}{k:Nat}{x z:α}(h:xs[k]? =some x):(xs.set k z)[k]? =some z:=by
 have h1:=(List.getElem?_eq_some_iff.1 h).1;simp [h1]
theorem ny {α:Type}{xs:List α}{k j:Nat}{z:α}(h:k<xs.length):k<(xs.set j z).length:=by rwa [List.length_set]
theorem vY {X:Cx}{ops:Array Oper}{K:K3}{M L L':List Chunk}{fuel:Nat}{listed:Array Bool}{s:cJ}{i:Nat}(hl:Cv L L')(hm:Cv L' M)(h:Fd X ops K M fuel listed s L' i):Fd X ops K M fuel listed s L i:=fun _ H Ds a w ha hds hw=>h hm H Ds a w ha hds (hl _ _ hw)
theorem jV {α:Type}{P:Program}{s:cJ}{L:List Chunk}{d:Option Nat}{ty:TypeId}{pos:String}{af:Array Edge}{gd:Option (Nat×Bool)}{R:Rep α}{sz off:Nat}{x:Operand}{v:Value}{xs:List α}{c:Chunk}{k:Nat}(i:Nat)(hi:L[i]? =some c)(he:Ec R v xs c)(hx:cI s x=some (fo v k sz off))(h1:k<xs.length):Rd P s L ⟨d,.nilCheck x,ty,pos,af,gd⟩ (fo v k sz off):=fun Z w hw=>by
 obtain ⟨T,S,h⟩:=hw.get (cE hi);obtain ⟨A,cap,rfl, -, -,h4⟩:=he _ _ _ h;obtain ⟨b,o,vss,rfl, -⟩:=h4 O;exact bc (C:=(· =w)) (d:=d) (ty:=ty) (pos:=pos) (af:=af) (gd:=gd) hx
theorem Hz {α:Type}{P:Program}{s:cJ}{L:List Chunk}{d:Option Nat}{ty:TypeId}{pos:String}{af:Array Edge}{gd:Option (Nat×Bool)}{R:Rep α}{t e sz:Nat}{x y z:Operand}{v:Value}{xs:List α}{k:Nat}(i:Nat)(hi:L[i]? =some (dr R e v xs))(hx:cI s x=some v)(hu:P.underlying t=some (.slice e))(hs:gk P e sz=true)(hsz:R.sz=sz)(hh:cI s y=some (.int .i64 (k:Int)))(hm:cI s z=some (.int .i64 (k:Int)))(h1:k≤xs.length):OpX P s L ⟨d,.slice t x none (some y) (some z),ty,pos,af,gd⟩ fun u L'=> ∃A n c,u=.slice A n c∧L'=L.set i (dr R e (.slice A n c) (xs.take k)):=fun ρ hρ Z w hw=>by
 have hw0:=hw;obtain ⟨T,S,hT⟩:=hw;obtain ⟨A,c,rfl,q1,q2, -⟩:=aC _ _ _ (hT.ok (cE hi));have hrun:=EW (C:=fun _=>True) (d:=d) (ty:=ty) (pos:=pos) (af:=af) (gd:=gd) hx hu hs hh hm (Nat.le_refl _) O ρ hρ w trivial;refine .inl ⟨_,w,L.set i (dr R e (.slice (if k=0 then A else A.map (·.add 0)) k k) (xs.take k)),hrun,?_,_,_,_,J,J⟩
 have hl:(xs.take k).length=k:=by rw [List.length_take];omega
 have hfin:SepL ((L++Z).set i (dr R e (.slice (if k=0 then A else A.map (·.add 0)) k k) (xs.take k))) w:=by
  refine hw0.weak (cE hi) fun T S ⟨vss,g1,g2⟩=>⟨vss.take k,g1.take k,?_⟩
  rcases Nat.eq_zero_or_pos k with rfl|hk
  ·exact .inr ⟨by simp,_,rfl⟩
  rcases g2 with ⟨g2,g4⟩|⟨h9, -⟩
  ·rcases g2.2 with ⟨e1,h9⟩|⟨g,cap,cur,e1,p1,p2,p3,p4,p5,p6⟩
   ·omega
   injection e1 with e1 _ e3
   subst e1 e3
   have hv:(Value.slice (if k=0 then some ⟨g,0,none⟩ else (some (⟨g,0,none⟩:Addr)).map (·.add 0)) k k)=.slice (some ⟨g,0,none⟩) k k:=by rw [if_neg O];simp [kf]
   rw [hv,hl];have hn:=nc (g1.take k);rw [hl] at hn;refine .inl ⟨⟨hn,.inr ⟨g,k,cur,J,Nat.zero_le _,p2,Nat.le_refl _,by omega,?_,?_⟩⟩,fun q hq=>g4 q hq⟩
   ·obtain ⟨c0,r1,r2,r3⟩:=p5;exact ⟨c0,by omega,r2,r3⟩
   have h5:vss.flatten=(vss.take k).flatten++(vss.drop k).flatten:=by rw [←List.flatten_append,List.take_append_drop]
   have h6:cur.toList.take (k*R.sz)=(cur.toList.take (xs.length*R.sz)).take (k*R.sz):=by rw [List.take_take,Nat.min_eq_left (Nat.mul_le_mul_right _ h1)]
   rw [h6,p6,h5, ←hn,List.take_left]
  omega
 rw [mg Z hi] at hfin;exact hfin
def HB (w0:World)(X:Nat→Prop):Chunk where
 ok _ S w:=Agr X w0 w∧ ∀q,X q→S q
 loc:=fun h ⟨h1,h2⟩=>⟨h1.trans (h.mono fun q hq=> .inr (h2 q hq)),h2⟩
 mono:=fun hs ⟨h1,h2⟩=>⟨h1,fun q hq=>hs q (h2 q hq)⟩
 ro:=true
 dup:=fun _ _ _ _ h=>h
def G5 (L:List Chunk)(n:Nat)(c:Chunk):Prop:= ∀(T:Nat→Nat→Prop) (S:Nat→Prop) (w:World),(∀(i:Nat) (c:Chunk),L[i]? =some c→c.ok (T i) S w)→c.ok (fun _=>False) (fun q=>S q∨ ∃j,n≤j∧T j q) w
section
variable {L:List Chunk} {n i:Nat}
theorem r7 {α:Type}{R:Rep α}{e:TypeId}{v:Value}{xs:List α}(hn:Nat.ble n i=true)(hi:L[i]? =some (dr R e v xs)):G5 L n (lB R v xs):=fun T S w h=>by
 obtain ⟨vss,h1,h2⟩:=h _ _ hi;rcases h2 with ⟨h2,hT⟩|⟨h0,A,rfl⟩
 ·rcases h2.2 with ⟨rfl,h0⟩|⟨g,cap,cur,rfl,g1,g2,g3,g4,g5,g6⟩
  ·exact ⟨none,0,by rw [h0],by omega,by omega,fun h=>absurd h O⟩
  exact ⟨_,cap,J,g3,by unfold maxLen at g4;omega,fun _=>⟨g,0,vss,rfl,.inr ⟨i,Nat.le_of_ble_eq_true hn,hT g rfl⟩,Blk.lt (t:=e) (cs:=cur) g2,h1.imp fun _ _=>R.mono fun _ hq=> .inl hq,ob (cap:=cap) g2 g6⟩⟩
 exact ⟨A,0,by rw [h0],by omega,by omega,fun h=>absurd h O⟩
end
theorem HC {P:Program}{f:FuncId}{vs:List Value}{L pre:List Chunk}{R:Value→List Chunk→Prop}(k n:Nat)(hc:Okc P f vs pre R)(hpre:pre.drop k=L.take n)(hn:Nat.ble n L.length=true)(hk:Nat.ble k pre.length=true)(hp: ∀c∈pre.take k,G5 L n c)(hfr: ∀v post,R v post→ ∀c∈post,cM c): ∀Z w,Sp Z L w→Calls P f vs.toArray w fun e w'=> ∃v post,e=.returned v∧Sp Z (post++L.drop n) w'∧R v post:=fun Z w hw=>by
 obtain ⟨T,S,hT⟩:=hw;have hn':=Nat.le_of_ble_eq_true hn;have hk':=Nat.le_of_ble_eq_true hk
 let X:Nat→Prop:=fun q=>S q∨ ∃j,n≤j∧T j q
 have hlen:pre.length=k+n:=by
  have h:=congrArg List.length hpre;rw [List.length_drop,List.length_take] at h;omega
 have hX: ∀{i q},i<n→T i q→X q→False:=fun hi h1 h2=>h2.elim (fun h=>hT.ro h1 h) fun ⟨j,hj,h3⟩=>hT.apart O h1 h3
 have h1:Sp [HB w X] pre w:=by
  refine ⟨fun i q=>k≤i∧i<k+n∧T (i - k) q,X,?_,?_,?_,?_,?_⟩
  ·intro i c hi;rcases Nat.lt_or_ge i pre.length with hlt|hge
   ·rw [List.getElem?_append_left hlt] at hi;rcases Nat.lt_or_ge i k with hik|hik
    ·have hm:c∈pre.take k:=List.mem_of_getElem? (show (pre.take k)[i]? =some c by rw [List.getElem?_take,if_pos hik];exact hi)
     have h2:=hp c hm T S w fun j d hj=>hT.ok (cE hj)
     have:(fun q=>k≤i∧i<k+n∧T (i - k) q)=fun _=>False:=by funext q;exact propext ⟨fun h=>by omega,fun h=>h.elim⟩
     rw [this];exact h2
    have hd:(pre.drop k)[i - k]? =some c:=by rw [List.getElem?_drop,show k+(i - k)=i by omega];exact hi
    rw [hpre,List.getElem?_take,if_pos O] at hd;have h2:=hT.ok (cE (Z:=Z) hd)
    have:(fun q=>k≤i∧i<k+n∧T (i - k) q)=T (i - k):=by funext q;exact propext ⟨fun h=>h.2.2,fun h=>⟨hik,by omega,h⟩⟩
    rw [this];exact c.mono (fun _ h=> .inl h) h2
   rw [List.getElem?_append_right hge] at hi
   have hc:c=HB w X:=by
    cases hk:i - pre.length with
    |zero=>rw [hk] at hi;simpa using hi.symm
    |succ k=>rw [hk] at hi;simp at hi
   subst hc;exact ⟨Agr.refl _ _,fun _ h=>h⟩
  ·rintro i j q hij ⟨a1,a2,a3⟩ ⟨b1,b2,b3⟩;exact hT.apart O a3 b3
  ·rintro i q ⟨a1,a2,a3⟩ h;exact hX O a3 h
  ·rintro i q ⟨_,_,a3⟩;exact hT.lt a3
  rintro q (h|⟨j,_,h⟩)
  ·exact hT.lts h
  exact hT.lt h
 refine (hc _ w h1).mono ?_;rintro e w' ⟨v,post,rfl,⟨T',S',h2⟩,h3⟩;obtain ⟨hx,hS⟩:(HB w X).ok (T' post.length) S' w':=h2.ok (by simp);refine ⟨v,post,J,⟨fun i q=>if i<post.length then T' i q else T (i - post.length+n) q,S,?_,?_,?_,?_,fun hq=>Nat.lt_of_lt_of_le (hT.lts hq) hx.size⟩,h3⟩
 ·intro i c hi;rw [Ni] at hi;rcases Nat.lt_or_ge i post.length with hlt|hge
  ·rw [List.getElem?_append_left hlt] at hi;have h4:=h2.ok (show (post++ [HB w X])[i]? =some c by rw [List.getElem?_append_left hlt];exact hi);simp only [hlt,if_true];exact hfr v post h3 c (List.mem_of_getElem? hi) _ _ _ _ h4
  rw [List.getElem?_append_right hge] at hi;simp only [show¬i<post.length by omega,if_false]
  have h5:(L++Z)[i - post.length+n]? =some c:=by
   rw [←List.drop_append_of_le_length hn',List.getElem?_drop,Nat.add_comm] at hi;exact hi
  exact c.loc (hx.mono fun q hq=>hq.elim (fun h=> .inr ⟨_,by omega,h⟩) .inl) (hT.ok h5)
 ·intro i j q hij h4 h5;by_cases e1:i<post.length<;>by_cases e2:j<post.length
  ·simp only [e1,e2,if_true] at h4 h5;exact h2.apart hij h4 h5
  ·simp only [e1,e2,if_true,if_false] at h4 h5;exact h2.ro h4 (hS q (.inr ⟨_,by omega,h5⟩))
  ·simp only [e1,e2,if_true,if_false] at h4 h5;exact h2.ro h5 (hS q (.inr ⟨_,by omega,h4⟩))
  simp only [e1,e2,if_false] at h4 h5;exact hT.apart O h4 h5
 ·intro i q h4 h5;by_cases e1:i<post.length
  ·simp only [e1,if_true] at h4;exact h2.ro h4 (hS q (.inl h5))
  simp only [e1,if_false] at h4;exact hT.ro h4 h5
 intro i q h4;by_cases e1:i<post.length
 ·simp only [e1,if_true] at h4;exact h2.lt h4
 simp only [e1,if_false] at h4;exact Nat.lt_of_lt_of_le (hT.lt h4) hx.size
theorem Bp {P:Program}{s:cJ}{L:List Chunk}{d:Option Nat}{ty:TypeId}{pos:String}{af:Array Edge}{gd:Option (Nat×Bool)}{f:FuncId}{xs:List Operand}{ats:Array TypeId}{vs:List Value}{pre:List Chunk}{R:Value→List Chunk→Prop}(k n:Nat)(hc:Okc P f vs pre R)(hf:aw P f)(hv:Dv s xs=some vs)(hpre:pre.drop k=L.take n)(hn:Nat.ble n L.length=true)(hk:Nat.ble k pre.length=true)(hp: ∀c∈pre.take k,G5 L n c)(hfr: ∀v post,R v post→ ∀c∈post,cM c):OpX P s L ⟨d,.call ⟨.value (.func f),xs.toArray,ats⟩,ty,pos,af,gd⟩ fun u L'=> ∃post,R u post∧L'=post++L.drop n:=fun ρ hρ Z w hw=>by
 refine .inr (.inr (.inl ⟨f,vs.toArray,ra hf (nX hρ hv) (hρ _ _ J),?_⟩));refine (HC k n hc hpre hn hk hp hfr Z w hw).mono ?_;rintro e w' ⟨v,post,rfl,h2,h3⟩;exact ⟨v,post++L.drop n,J,h2,post,h3,J⟩
theorem ER {α β:Type}{ek:α→Value}{ev:β→Value}{m:Nat}{kv:List (α×β)}:cM (aG ek ev m kv):=fun _ _ _ _ h=>h
end
section
open Go.RowKit
def ai (k:IntKind)(a b:Int):Int:=k.wrap (BitVec.ofInt k.bits a&&&BitVec.ofInt k.bits b).toNat
def bf (k:IntKind)(a b:Int):Int:=k.wrap (BitVec.ofInt k.bits a|||BitVec.ofInt k.bits b).toNat
def D4 (k:IntKind)(a b:Int):Int:=k.wrap (BitVec.ofInt k.bits a ^^^ BitVec.ofInt k.bits b).toNat
def aZ (k:IntKind)(a b:Int):Int:=k.wrap (BitVec.ofInt k.bits a&&& ~~~BitVec.ofInt k.bits b).toNat
section
variable {P:Program} {s:cJ} {d:Option Nat} {ty:TypeId} {pos:String} {af:Array Edge} {gd:Option (Nat×Bool)}
theorem bE {t u:TypeId}{x y:Operand}{k:IntKind}{a b:Int}{C:World→Prop}(hx:cI s x=some (.int k a))(hy:cI s y=some (.int k b)):Ev P s C ⟨d,.binOp .and t x y u,ty,pos,af,gd⟩ (.int k (ai k a b)):=fw hx hy fun w=>by cases k<;>rfl
theorem kP {t u:TypeId}{x y:Operand}{k:IntKind}{a b:Int}{C:World→Prop}(hx:cI s x=some (.int k a))(hy:cI s y=some (.int k b)):Ev P s C ⟨d,.binOp .or t x y u,ty,pos,af,gd⟩ (.int k (bf k a b)):=fw hx hy fun w=>by cases k<;>rfl
theorem CO {t u:TypeId}{x y:Operand}{k:IntKind}{a b:Int}{C:World→Prop}(hx:cI s x=some (.int k a))(hy:cI s y=some (.int k b)):Ev P s C ⟨d,.binOp .xor t x y u,ty,pos,af,gd⟩ (.int k (D4 k a b)):=fw hx hy fun w=>by cases k<;>rfl
theorem mR {t u:TypeId}{x y:Operand}{k:IntKind}{a b:Int}{C:World→Prop}(hx:cI s x=some (.int k a))(hy:cI s y=some (.int k b)):Ev P s C ⟨d,.binOp .andNot t x y u,ty,pos,af,gd⟩ (.int k (aZ k a b)):=fw hx hy fun w=>by cases k<;>rfl
end
theorem CY (s:ByteArray):(s==s)=true:=by
 obtain ⟨d⟩:=s;show (d==d)=true;simp
def uQ (b:ByteArray)(i:Int):Option Int:=if 0≤i then b[i.toNat]?.map fun x=>(x.toNat:Int) else none
section
variable {P:Program} {s:cJ} {L:List Chunk} {d:Option Nat} {ty:TypeId} {pos:String} {af:Array Edge} {gd:Option (Nat×Bool)}
theorem oc {C:World→Prop}{t:TypeId}{x y:Operand}{k:IntKind}{b:ByteArray}{i r:Int}(hx:cI s x=some (.string b))(hy:cI s y=some (.int k i))(ht:P.underlying t=some .string)(h:uQ b i=some r):Ev P s C ⟨d,.index t x y,ty,pos,af,gd⟩ (.int .u8 r):=fun ρ hρ w _=>by
 unfold uQ at h;split at h
 ·rename_i h0
  cases hb:b[i.toNat]? with
  |none=>rw [hb] at h;cases h
  |some z=>
   rw [hb] at h;cases h;unfold execOp;simp only [hρ x _ hx,hρ y _ hy,Instr.index,asIntOf,Sem.run_bind,Sem.run_pure,run_underlying ht,Result.andThen_ok,if_pos h0,hb]
 cases h
theorem vA {α:Type}(l:List α): ∀n:Nat,(List.replicate n l).flatten=(List.replicate n ()).flatMap fun _=>l
 |0=>rfl
 |n+1=>by rw [List.replicate_succ,List.replicate_succ,List.flatten_cons,List.flatMap_cons,vA l n]
theorem Cc {α β:Type}{R:α→β→Prop}{a:α}{b:β}(h:R a b): ∀n:Nat,All2 R (List.replicate n a) (List.replicate n b)
 |0=> .nil
 |n+1=>by rw [List.replicate_succ,List.replicate_succ];exact .cons h (Cc h n)
theorem Hy {α:Type}{R:Rep α}{t e:TypeId}{x y:Operand}{k k':IntKind}{l:Int}{i:TypeInfo}{z:Value}{zl:List Value}{x0:α}(hx:cI s x=some (.int k l))(hy:cI s y=some (.int k' l))(ht:P.underlying t=some (.slice e))(hi:P.info? e=some i)(hz:i.zero=some z)(hzl:z.cells=zl.toArray)(hsz:i.size=R.sz)(hbb:Nat.ble i.bytes 10000=true)(hp:0<zl.length)(hr: ∀S w,R.rel S w zl x0)(h0:0≤l∧l≤1000000):OpX P s L ⟨d,.makeSlice t x y,ty,pos,af,gd⟩ fun u L'=> ∃A n c,u=.slice A n c∧L'=dr R e (.slice A n c) (List.replicate l.toNat x0)::L:=fun ρ hρ Z w hw=>by
 have hbb:=Nat.le_of_ble_eq_true hbb
 have hb:(i.bytes:Int)*l≤281474976710656:=by
  have h1:(i.bytes:Int)*l≤10000*1000000:=Int.mul_le_mul O h0.2 h0.1 O;omega
 have e1:=run_make (P:=P) w t e i z ht hi hz k k' l l h0.1 (Int.le_refl _) hb O;have hlen:zl.length=R.sz:=R.len (hr (fun _=>False) w)
 have e2:madeCells z.cells (l.toNat*i.size)=((List.replicate l.toNat ()).flatMap fun _=>zl).toArray:=by
  rw [hsz, ←hlen];exact EA (en:=fun (_:Unit)=>zl) () hzl l.toNat hp
 have hx':Ext w (w.alloc (.cells (madeCells z.cells (l.toNat*i.size)) e)):=(Ext.refl w).alloc _;refine .inl ⟨_,w.alloc (.cells (madeCells z.cells (l.toNat*i.size)) e),dr R e (.slice (some ⟨w.heap.size,0,none⟩) l.toNat l.toNat) (List.replicate l.toNat x0)::L,?_,?_,_,_,_,J,J⟩
 ·unfold execOp;simp only [hρ x _ hx,hρ y _ hy,Sem.run_bind,e1,Result.andThen_ok];rfl
 refine SepL.new hw (Agr.of_ext hx') fun T S h=>⟨(· =w.heap.size),fun q hq=>by subst hq;simp,List.replicate l.toNat zl,Cc (hr S _) _,.inl ⟨?_,fun q hq=>by cases hq;rfl⟩⟩
 have hl:(List.replicate l.toNat zl).flatten.length=l.toNat*R.sz:=by simp [hlen]
 have hm:l.toNat≤maxLen:=by simp [maxLen];omega
 refine .of ⟨by simpa using hl,.inr ⟨w.heap.size,l.toNat,madeCells z.cells (l.toNat*i.size),by simp,Nat.zero_le _,Blk.new w e _,by simp,hm,?_,?_⟩⟩
 ·rw [size_madeCells,hsz]
 rw [e2, ←vA];simp only [List.length_replicate];rw [←hl];exact List.take_length
end
end
section
open Go.RowKit
def zw {α:Type}(R:Rep α)(e:TypeId)(v:Value)(xs:List α):Chunk where
 ok T S w:= ∃(A:Option Addr) (n c:Nat) (pre:List α),(dr R e (.slice A n c) (pre++xs)).ok T S w∧0<xs.length∧v=.slice (kQ A c pre.length R.sz) xs.length (c - pre.length)
 loc:=fun h ⟨A,n,c,pre,h1,h2⟩=>⟨A,n,c,pre,(dr R e _ _).loc h h1,h2⟩
 mono:=fun h ⟨A,n,c,pre,h1,h2⟩=>⟨A,n,c,pre,(dr R e _ _).mono h h1,h2⟩
 ro:=false
 dup:=fun h=>Bool.noConfusion h
theorem Dz {α:Type}{R:Rep α}{e:TypeId}{v:Value}{xs:List α}:Ec R v xs (zw R e v xs):=fun T S w ⟨A,n,c,pre,h1,h0,h2⟩=>by
 obtain ⟨A',cap,q1,q2,q3,q4⟩:=aC T S w h1
 injection q1 with q1 q5 q6
 subst q1 q5 q6;rw [List.length_append] at q2 q4;obtain ⟨b,o,vss,rfl,k1,k2⟩:=q4 O;subst h2;refine ⟨_,_,J,by omega,by omega,fun _=>⟨b,o+pre.length*R.sz,vss.drop pre.length,?_,?_,?_⟩⟩
 ·unfold kQ;rw [if_neg O];simp [kf]
 ·have h3:=k1.drop pre.length;rw [List.drop_left] at h3;exact h3
 have h5:=k2.drop (pre.length*R.sz);rw [←rV k1 pre.length] at h5;exact h5
theorem vZ {L:List Chunk}{T:Nat→Nat→Prop}{S:Nat→Prop}{w:World}(h:SepT L T S w){i:Nat}{c:Chunk}(hc:c.ok (T i) S w):SepT (L.set i c) T S w:=
 ⟨fun {j d} hj=>by
  by_cases e:i=j
  ·subst e;rw [List.getElem?_set_self'] at hj
   cases hq:L[i]? with
   |none=>rw [hq] at hj;cases hj
   |some x=>rw [hq] at hj;cases hj;exact hc
  ·rw [List.getElem?_set_ne e] at hj;exact h.ok hj,h.apart,h.ro,h.lt,h.lts⟩
theorem AX {α:Type}{R:Rep α}{e:TypeId}{v:Value}{xs:List α}{L Z:List Chunk}{w:World}(hw:Sp Z L w){i:Nat}(hi:L[i]? =some (zw R e v xs)): ∃(A:Option Addr) (n c:Nat) (pre:List α),Sp Z (L.set i (dr R e (.slice A n c) (pre++xs))) w∧0<xs.length∧n=pre.length+xs.length∧n≤c∧v=.slice (kQ A c pre.length R.sz) xs.length (c - pre.length)∧ ∃b o,A=some ⟨b,o,none⟩:=by
 obtain ⟨T,S,h⟩:=hw;obtain ⟨A,n,c,pre,h1,h0,h2⟩:=h.ok (cE hi);obtain ⟨A',cap,q1,q2, -,q4⟩:=aC _ _ _ h1
 injection q1 with q1 q5 q6
 subst q1 q5 q6;rw [List.length_append] at q2 q4;obtain ⟨b,o, -,hA, -⟩:=q4 O;refine ⟨A,(pre++xs).length,c,pre,?_,h0,List.length_append,by rw [List.length_append];exact q2,h2,b,o,hA⟩;have h3:=vZ h h1;rw [mg Z hi] at h3;exact ⟨T,S,h3⟩
theorem H8 {α:Type}{R:Rep α}{e:TypeId}{v:Value}{xs:List α}{L:List Chunk}(i:Nat)(hi:L[i]? =some (zw R e v xs)):Cv L (L.set i (lB R v xs)):=fun Z w h=>by
 obtain ⟨A,n,c,pre,h1,h0,hn,hc,rfl, -⟩:=AX h hi;have hlt:i<L.length:=(List.getElem?_eq_some_iff.1 hi).1;have h2:Sp Z ((L.set i (dr R e (.slice A n c) (pre++xs))).set i (lB R (.slice A n c) (pre++xs))) w:=dC i (by rw [List.getElem?_set_self hlt]) Z w h1;rw [List.set_set] at h2
 have h3:Sp Z ((L.set i (lB R (.slice A n c) (pre++xs))).set i (lB R (.slice (kQ A c pre.length R.sz) xs.length (c - pre.length)) xs)) w:=by
  obtain ⟨T,S,hT⟩:=h2
  have hg:(L.set i (lB R (.slice A n c) (pre++xs)))[i]? =some (lB R (.slice A n c) (pre++xs)):=by rw [List.getElem?_set_self hlt]
  have h4:SlR R S w (.slice A n c) (pre++xs):=hT.ok (cE hg);have h5:=h4.cut pre.length n O (by rw [List.length_append];omega);rw [List.drop_left,List.take_of_length_le O,show n - pre.length=xs.length by omega] at h5;have h6:=vZ hT (i:=i) (c:=lB R (.slice (kQ A c pre.length R.sz) xs.length (c - pre.length)) xs) h5;rw [mg Z hg] at h6;exact ⟨T,S,h6⟩
 rw [List.set_set] at h3;exact h3
section
variable {P:Program} {s:cJ} {L:List Chunk} {d:Option Nat} {ty:TypeId} {pos:String} {af:Array Edge} {gd:Option (Nat×Bool)}
theorem JL {α:Type}{R:Rep α}{t e sz:Nat}{x o:Operand}{A:Option Addr}{n c:Nat}{xs:List α}{l:Nat}(i:Nat)(hi:L[i]? =some (dr R e (.slice A n c) xs))(hx:cI s x=some (.slice A n c))(hu:P.underlying t=some (.slice e))(hs:gk P e sz=true)(hsz:R.sz=sz)(hl:cI s o=some (.int .i64 (l:Int)))(h1:l<xs.length):OpX P s L ⟨d,.slice t x (some o) none none,ty,pos,af,gd⟩ fun u L'=> ∃A n c,u=.slice A n c∧L'=L.set i (zw R e (.slice A n c) (xs.drop l)):=fun ρ hρ Z w hw=>by
 subst hsz;obtain ⟨T,S,hT⟩:=hw;have ho:=hT.ok (cE hi);obtain ⟨A',cap,q1,q2, -⟩:=aC _ _ _ ho
 injection q1 with q1 q5 q6
 subst q1 q5 q6;have hr:=rx (lo:=some o) (hi:=none) (C:=fun _=>True) (d:=d) (ty:=ty) (pos:=pos) (af:=af) (gd:=gd) (l:=l) (h:=xs.length) hx hu hs hl rfl O O ρ hρ w trivial;refine .inl ⟨_,w,_,hr,?_,_,_,_,J,J⟩;have h3:=vZ hT (i:=i) (c:=zw R e (.slice (kQ A c l R.sz) (xs.length - l) (c - l)) (xs.drop l)) ⟨A,xs.length,c,xs.take l,by rw [List.take_append_drop];exact ho,by rw [List.length_drop];omega,by rw [List.length_take,List.length_drop,Nat.min_eq_left O]⟩;rw [mg Z hi] at h3;exact ⟨T,S,h3⟩
theorem Et {α:Type}{R:Rep α}{e:TypeId}{t:TypeId}{x y:Operand}{v u:Value}{us:List Value}{xs:List α}{k off:Nat}{z:α}(i:Nat)(hi:L[i]? =some (zw R e v xs))(hx:cI s x=some (fo v k R.sz off))(hy:cI s y=some u)(hv:u.cells.toList=us)(hs:gk P t us.length=true)(h1:us.all (·.oneCell')=true)(hk:k<xs.length)(hle:Nat.ble (off+us.length) R.sz=true)
  (hrel: ∀S w vs xk,xs[k]? =some xk→R.rel S w vs xk→R.rel S w (vs.take off++us++vs.drop (off+us.length)) z):OpX P s L ⟨d,.store t x y,ty,pos,af,gd⟩ fun _ L'=>L'=L.set i (zw R e v (xs.set k z)):=fun ρ hρ Z w hw=>by
 obtain ⟨A,n,c,pre,h2,h0,hn,hc,rfl,b,o,rfl⟩:=AX hw hi;have hlt:i<L.length:=(List.getElem?_eq_some_iff.1 hi).1
 have hx':cI s x=some (fo (.slice (some ⟨b,o,none⟩) n c) (pre.length+k) R.sz off):=by
  rw [hx];unfold kQ;rw [if_neg O];simp only [Option.map_some,kf,fo,Nat.add_mul]
  congr 4
  omega
 have key:=cZ (P:=P) (s:=s) (L:=L.set i (dr R e (.slice (some ⟨b,o,none⟩) n c) (pre++xs))) (d:=d) (ty:=ty) (pos:=pos) (af:=af) (gd:=gd) (t:=t) (k:=pre.length+k) (z:=z) i (by rw [List.getElem?_set_self hlt]) hx' hy hv hs h1 (by rw [List.length_append];omega) hle (fun S w vs xk hxk hr _=>hrel S w vs xk (by rw [List.getElem?_append_right O,Nat.add_sub_cancel_left] at hxk;exact hxk) hr) ρ hρ Z w h2
 have fin: ∀w' L',Sp Z L' w'→L'=(L.set i (dr R e (.slice (some ⟨b,o,none⟩) n c) (pre++xs))).set i (dr R e (.slice (some ⟨b,o,none⟩) n c) ((pre++xs).set (pre.length+k) z))→Sp Z (L.set i (zw R e (.slice (kQ (some ⟨b,o,none⟩) c pre.length R.sz) xs.length (c - pre.length)) (xs.set k z))) w':=by
  intro w' L' hL' e';subst e';rw [List.set_set,List.set_append_right _ _ O,Nat.add_sub_cancel_left] at hL';obtain ⟨T,S,hT⟩:=hL'
  have hg:(L.set i (dr R e (.slice (some ⟨b,o,none⟩) n c) (pre++xs.set k z)))[i]? =some (dr R e (.slice (some ⟨b,o,none⟩) n c) (pre++xs.set k z)):=by rw [List.getElem?_set_self hlt]
  have h3:=vZ hT (i:=i) (c:=zw R e (.slice (kQ (some ⟨b,o,none⟩) c pre.length R.sz) xs.length (c - pre.length)) (xs.set k z)) ⟨_,_,_,_,hT.ok (cE hg),by rw [List.length_set];exact h0,by rw [List.length_set]⟩;rw [mg Z hg,List.set_set] at h3;exact ⟨T,S,h3⟩
 rcases key with ⟨v,w',L',e1,e2,e3⟩|⟨w',L',e1,e2,e3⟩|⟨f,args,e1,e2⟩|⟨l,f,tm,ag,bo,e1,e2⟩
 ·exact .inl ⟨v,w',_,e1,fin w' L' e2 e3,J⟩
 ·exact .inr (.inl ⟨w',_,e1,fin w' L' e2 e3,J⟩)
 ·exact .inr (.inr (.inl ⟨f,args,e1,e2.mono fun e w' ⟨v,L',q1,q2,q3⟩=>⟨v,_,q1,fin w' L' q2 q3,J⟩⟩))
 exact .inr (.inr (.inr ⟨l,f,tm,ag,bo,e1,e2.mono fun e w' ⟨v,L',q1,q2,q3⟩=>⟨v,_,q1,fin w' L' q2 q3,J⟩⟩))
end
end
section
open Go.RowKit
section
variable {P:Program} {s:cJ} {L:List Chunk} {d:Option Nat} {ty:TypeId} {pos:String} {af:Array Edge} {gd:Option (Nat×Bool)}
end
end
section
open Go.RowKit
theorem ownsX.take {w:World}{e:TypeId}{sz:Nat}{A:Option Addr}{n c k:Nat}{cs:List Value}(h:ownsX w e sz (.slice A n c) n cs)(hk:k≤n)(hn:0<n):ownsX w e sz (.slice A k c) k (cs.take (k*sz)):=by
 have h1:=h.1;have hm:k*sz≤n*sz:=Nat.mul_le_mul_right _ hk;refine ⟨by rw [List.length_take];omega,.inr ?_⟩;rcases h.2 with ⟨-,h0⟩|⟨g,cap,cur,e1,p1,p2,p3,p4,p5,p6⟩
 ·omega
 injection e1 with e1 _ e3
 subst e1 e3;exact ⟨g,c,cur,J,p1,p2,Nat.le_trans hk p3,p4,p5,by rw [←p6,List.take_take,Nat.min_eq_left hm]⟩
section
variable {P:Program} {s:cJ} {L:List Chunk} {d:Option Nat} {ty:TypeId} {pos:String} {af:Array Edge} {gd:Option (Nat×Bool)}
theorem GU {t ty e:TypeId}{g n cap:Nat}{cs:List Value}(w:World)(inf:TypeInfo)(ht:P.underlying t=some (.slice e))(hi:P.info? e=some inf)(g2:ownsX w e inf.size (.slice (some ⟨g,0,none⟩) n cap) n cs)(a:Addr)(m c:Nat)(news:List Value)(hl:news.length=m*inf.size)(hnews: ∀j u,news[j]? =some u→w.cell? (a.add j)=some u)(h1: ∀u∈news,u.oneCell'=true)(hge:n+m≤cap):
  ∃w',(Builtin.append_ #[t,t] ty #[.slice (some ⟨g,0,none⟩) n cap,.slice (some a) m c]).run P w=.ok (.slice (some ⟨g,0,none⟩) (n+m) cap) w'∧ownsX w' e inf.size (.slice (some ⟨g,0,none⟩) (n+m) cap) (n+m) (cs++news)∧Fr (· =g) w w':=by
 rcases g2.2 with ⟨e1, -⟩|⟨g',cap',cur,e1,q1,q2,q3,q4,⟨c0,c1,c2,c3⟩,q6⟩
 ·cases e1
 obtain ⟨rfl,rfl⟩:g=g'∧cap=cap':=by injection e1 with e1 _ e3;injection e1 with e1;injection e1 with e1;exact ⟨e1,e3⟩
 have hfc:=run_firstCells_some (P:=P) w inf.size m a m c news hl hnews
 have hle:(n+m)*inf.size≤cur.size:=by rw [c3];exact Nat.mul_le_mul_right _ O
 have hsum:n*inf.size+news.length≤cur.size:=by rw [hl, ←Nat.add_mul];exact hle
 obtain ⟨w',s1,s2,s3⟩:=fK (P:=P) (t:=e) news w g (n*inf.size) 0 cur q2 O (List.all_eq_true.2 h1)
 have hlen:(cs++news).length=(n+m)*inf.size:=by rw [List.length_append,g2.1,hl,Nat.add_mul]
 refine ⟨w',?_,⟨hlen,.inr ⟨g,cap,_,J,Nat.zero_le _,s3,hge,q4,⟨c0,c1,c2,by rw [tH];exact c3⟩,?_⟩⟩,s2⟩
 ·simp [Builtin.append_,run_underlying ht,sizeOf,typeInfo,hi,Builtin.lenOf,hge,hfc,Addr.add_lit,s1]
 have hcur:cur=cur.toList.toArray:=by simp
 rw [Nat.add_zero,hcur,wc _ _ _ (by simp;omega),q6, ←hlen,Ni, ←Ni];exact List.take_left
theorem EV {C:World→Prop}{t e sz:Nat}{x o y z:Operand}{A:Option Addr}{n c:Nat}{l h m:Nat}(hx:cI s x=some (.slice A n c))(hu:P.underlying t=some (.slice e))(hs:gk P e sz=true)(hl:cI s o=some (.int .i64 (l:Int)))(hh:cI s y=some (.int .i64 (h:Int)))(hm:cI s z=some (.int .i64 (m:Int)))(h0:l≤h)(h1:h≤m)(h2:m≤c):Ev P s C ⟨d,.slice t x (some o) (some y) (some z),ty,pos,af,gd⟩ (.slice (kQ A m l sz) (h - l) (m - l)):=fun ρ hρ w _=>by
 unfold execOp;simp only [Option.map_some,Option.map_none,hρ x _ hx,hρ o _ hl,hρ y _ hh,hρ z _ hm,Instr.sliceAt,Instr.slice,Instr.sliceBounds,Sem.run_bind,run_underlying hu,Result.andThen_ok,lK h2,lK h1,lK h0,jK hs w,Sem.run_pure];rfl
theorem yo {α:Type}{R:Rep α}{x y:Operand}{t e:TypeId}{A:Option Addr}{n c k j sz by_:Nat}{xs:List α}(i:Nat)(hi:L[i]? =some (dr R e (.slice A n c) xs))(hx:cI s x=some (.slice (kQ A c 0 sz) (k - 0) (c - 0)))(hy:cI s y=some (.slice (kQ A c j sz) (n - j) (c - j)))(ht:P.underlying t=some (.slice e))(hz:pB P e sz by_=true)(hsz:R.sz=sz)(hn:n=xs.length)(h1:k<j)(h2:j≤n)(h3:n≤c):OpX P s L ⟨d,.call ⟨.builtin .append, #[x,y], #[t,t]⟩,ty,pos,af,gd⟩ fun u L'=> ∃A',u=.slice A' (k+(n - j)) c∧L'=L.set i (dr R e (.slice A' (k+(n - j)) c) (xs.take k++xs.drop j)):=fun ρ hρ Z w hw=>by
 subst hsz hn;unfold pB at hz
 cases hinfo:P.info? e with
 |none=>rw [hinfo] at hz;cases hz
 | some inf=>
  rw [hinfo] at hz;simp only [Bool.and_eq_true] at hz;have e2:=Nat.eq_of_beq_eq_true hz.1.1.1;obtain ⟨T,S,hT⟩:=hw;obtain ⟨vss,g1,g2⟩:=hT.ok (cE hi);rcases g2 with ⟨g2,g3⟩|⟨h0, -⟩
  rotate_left
  ·omega
  rcases g2.2 with ⟨-,h0⟩|⟨g,cap,cur,e1,p1,p2,p3,p4,p5,p6⟩
  ·omega
  obtain ⟨rfl,rfl⟩:A=some ⟨g,0,none⟩∧c=cap:=by injection e1 with e1 _ e3;exact ⟨e1,e3⟩
  have ex:(Value.slice (kQ (some ⟨g,0,none⟩) c 0 R.sz) (k - 0) (c - 0))=.slice (some ⟨g,0,none⟩) k c:=by
   unfold kQ;rw [if_neg O];simp [kf]
  have hk:=g2.take (k:=k) O O;have hrows:=nc g1;have hdrop:(vss.drop j).flatten=vss.flatten.drop (j*R.sz):=rV g1 j
  have hlen:(vss.drop j).flatten.length=(xs.length - j)*R.sz:=by
   have:=nc (g1.drop j);rw [List.length_drop] at this;exact this
  have hcells:=ob (cap:=c) p2 p6
  have htake:vss.flatten.take (k*R.sz)=(vss.take k).flatten:=by
   have h5:vss.flatten=(vss.take k).flatten++(vss.drop k).flatten:=by rw [←List.flatten_append,List.take_append_drop]
   have h6:=nc (g1.take k);rw [List.length_take,Nat.min_eq_left O] at h6;rw [h5, ←h6,List.take_left]
  obtain ⟨a,m2,ea,hnews⟩: ∃(a:Addr) (m2:Nat),(Value.slice (kQ (some ⟨g,0,none⟩) c j R.sz) (xs.length - j) (c - j))=.slice (some a) (xs.length - j) m2∧ ∀q u,(vss.drop j).flatten[q]? =some u→w.cell? (a.add q)=some u:=by
   unfold kQ;by_cases hc:c=j
   ·rw [if_pos hc];refine ⟨⟨g,0,none⟩,c - j,J,fun q u hq=> ?_⟩;have:(vss.drop j).flatten=[]:=List.eq_nil_of_length_eq_zero (by rw [hlen,show xs.length - j=0 by omega];simp);rw [this] at hq;simp at hq
   rw [if_neg hc];refine ⟨⟨g,j*R.sz,none⟩,c - j,by simp [kf],fun q u hq=> ?_⟩;rw [kf];rw [hdrop,List.getElem?_drop] at hq;have:=hcells _ _ hq
   rwa [Nat.zero_add] at this
  obtain ⟨w',r1,r2,r3⟩:=GU (P:=P) (ty:=ty) w inf ht hinfo (by rw [e2];exact hk) a (xs.length - j) m2 (vss.drop j).flatten (by rw [e2];exact hlen) hnews (List.all_eq_true.1 (wK (g1.drop j))) O;rw [e2,htake, ←List.flatten_append] at r2
  have hxl:(xs.take k++xs.drop j).length=k+(xs.length - j):=by rw [List.length_append,List.length_take,List.length_drop];omega
  refine .inl ⟨_,w',L.set i (dr R e (.slice (some ⟨g,0,none⟩) (k+(xs.length - j)) c) (xs.take k++xs.drop j)),?_,?_,_,J,J⟩
  ·rw [ji (P:=P) (ρ:=ρ) (d:=d) (ty:=ty) (pos:=pos) (af:=af) (gd:=gd) (b:=.append) (xs:=[x,y]) (ats:= #[t,t]) (vs:=[.slice (some ⟨g,0,none⟩) k c,.slice (some a) (xs.length - j) m2]) (by simp [hρ x _ (hx.trans (congrArg some ex)),hρ y _ (hy.trans (congrArg some ea))]) w];simp only [builtin,Sem.run_bind];have r1':(Builtin.append_ #[t,t] ty [Value.slice (some ⟨g,0,none⟩) k c,.slice (some a) (xs.length - j) m2].toArray).run P w=.ok (.slice (some ⟨g,0,none⟩) (k+(xs.length - j)) c) w':=r1;rw [r1'];rfl
  have hTg:T i g:=g3 g rfl
  have hfin:SepL ((L++Z).set i (dr R e (.slice (some ⟨g,0,none⟩) (k+(xs.length - j)) c) (xs.take k++xs.drop j))) w':=by
   refine hT.upd (cE hi) (T':=T i) (Agr.of_fr r3 fun q hq e=>hq (e▸hTg)) (fun _=> .inl) (fun q hq=>Nat.lt_of_lt_of_le (hT.lt hq) r3.size) ?_
   have hS:Agr S w w':=Agr.of_fr r3 fun q hq e=>hT.ro hTg (e▸hq)
   exact ⟨vss.take k++vss.drop j,((g1.take k).append (g1.drop j)).imp fun _ _=>R.loc hS,.inl ⟨by rw [hxl];exact r2,fun q hq=>by cases hq;exact hTg⟩⟩
  rw [mg Z hi] at hfin;exact hfin
def Jb (P:Program)(e:TypeId):Bool:=match P.info? e with
 |some i=>match i.zero with
  |some z=>z.cells.all (·.oneCell')
  |none=>false
 |none=>false
theorem zM {α:Type}{R:Rep α}{x:Operand}{t e:TypeId}{A:Option Addr}{n c o sz by_:Nat}{xs:List α}(i:Nat)(hi:L[i]? =some (dr R e (.slice A n c) xs))(hx:cI s x=some (.slice (kQ A c n sz) (o - n) (c - n)))(ht:P.underlying t=some (.slice e))(hz:pB P e sz by_=true)(ho:Jb P e=true)(hsz:R.sz=sz)(h1:n<o)(h2:o≤c):OpX P s L ⟨d,.call ⟨.builtin .clear, #[x], #[t]⟩,ty,pos,af,gd⟩ fun u L'=>u=.tuple #[]∧L'=L:=fun ρ hρ Z w hw=>by
 subst hsz;unfold pB at hz
 cases hinfo:P.info? e with
 |none=>rw [hinfo] at hz;cases hz
 | some inf=>
  rw [hinfo] at hz;simp only [Bool.and_eq_true] at hz;obtain ⟨⟨⟨q2,q3⟩,q4⟩,q5⟩:=hz
  cases hzz:inf.zero with
  |none=>rw [hzz] at q4;cases q4
  | some z=>
   rw [hzz] at q4;have e4:=Nat.eq_of_beq_eq_true q4;obtain ⟨T,S,hT⟩:=hw;obtain ⟨vss,g1,g2⟩:=hT.ok (cE hi);rcases g2 with ⟨g2,g3⟩|⟨h0,A0,e0⟩
   rotate_left
   ·injection e0 with _ _ e0;omega
   rcases g2.2 with ⟨e0, -⟩|⟨g,cap,cur,e1,p1,p2,p3,p4,p5,p6⟩
   ·injection e0 with _ _ e0;omega
   obtain ⟨rfl,hn,rfl⟩:A=some ⟨g,0,none⟩∧n=xs.length∧c=cap:=by injection e1 with e1 e2 e3;exact ⟨e1,e2,e3⟩
   subst hn;obtain ⟨c0,k1,k2,k3⟩:=p5
   have ex:(Value.slice (kQ (some ⟨g,0,none⟩) c xs.length R.sz) (o - xs.length) (c - xs.length))=.slice (some ⟨g,xs.length*R.sz,none⟩) (o - xs.length) (c - xs.length):=by
    unfold kQ;rw [if_neg O];simp [kf]
   have hzl:(Builtin.zeroCells z.cells (o - xs.length)).toList.length=(o - xs.length)*R.sz:=by rw [Array.length_toList,size_zeroCells,e4]
   have hz1:(Builtin.zeroCells z.cells (o - xs.length)).toList.all (·.oneCell')=true:=by
    have ho':z.cells.all (·.oneCell')=true:=by
     unfold Jb at ho;rw [hinfo] at ho;simp only [hzz] at ho;exact ho
    rw [List.all_eq_true];intro u hu;simp only [Builtin.zeroCells,Array.toList_map,List.mem_map] at hu;obtain ⟨q, -,rfl⟩:=hu;by_cases h9:q%z.cells.size<z.cells.size
    ·rw [getElem!_pos z.cells _ h9];exact Array.all_eq_true.1 ho' _ h9
    rw [getElem!_neg z.cells _ h9];rfl
   have hsum:xs.length*R.sz+(o - xs.length)*R.sz≤cur.size:=by
    rw [←Nat.add_mul,k3];exact Nat.mul_le_mul_right _ O
   obtain ⟨w',s1,s2,s3⟩:=fK (P:=P) (t:=e) (Builtin.zeroCells z.cells (o - xs.length)).toList w g (xs.length*R.sz) 0 cur p2 (by rw [hzl];omega) hz1;refine .inl ⟨.tuple #[],w',L,?_,?_,J,J⟩
   ·rw [ji (P:=P) (ρ:=ρ) (d:=d) (ty:=ty) (pos:=pos) (af:=af) (gd:=gd) (b:=.clear) (xs:=[x]) (ats:= #[t]) (vs:=[.slice (some ⟨g,xs.length*R.sz,none⟩) (o - xs.length) (c - xs.length)]) (by simp [hρ x _ (hx.trans (congrArg some ex))]) w];obtain ⟨q,hq⟩: ∃q,o - xs.length=q+1:=⟨o - xs.length - 1,by omega⟩;rw [hq] at s1⊢;simp only [builtin,Builtin.clear_,Sem.run_bind,List.getElem?_toArray,List.getElem?_cons_zero,run_underlying ht,Result.andThen_ok];simp [zeroValue,typeInfo,hinfo,hzz,s1]
   have hTg:T i g:=g3 g rfl
   have hfin:SepL ((L++Z).set i (dr R e (.slice (some ⟨g,0,none⟩) xs.length c) xs)) w':=by
    refine hT.upd (cE hi) (T':=T i) (Agr.of_fr s2 fun q hq e=>hq (e▸hTg)) (fun _=> .inl) (fun q hq=>Nat.lt_of_lt_of_le (hT.lt hq) s2.size) ?_
    have hS:Agr S w w':=Agr.of_fr s2 fun q hq e=>hT.ro hTg (e▸hq)
    refine ⟨vss,g1.imp fun _ _=>R.loc hS,.inl ⟨⟨g2.1,.inr ⟨g,c,_,J,p1,s3,p3,p4,⟨c0,k1,k2,by rw [tH];exact k3⟩,?_⟩⟩,g3⟩⟩
    have hcur:cur=cur.toList.toArray:=by simp
    have hle:xs.length*R.sz≤cur.toList.length:=by simp;omega
    rw [Nat.add_zero,hcur,wc _ _ _ (by rw [hzl];simp;omega),Ni,List.take_append_of_le_length (by rw [List.length_take];omega),List.take_take,Nat.min_self];exact p6
   rw [mg Z hi] at hfin
   have e9:L.set i (dr R e (.slice (some ⟨g,0,none⟩) xs.length c) xs)=L:=by
    apply List.ext_getElem?;intro q;by_cases e:i=q
    ·subst e;rw [List.getElem?_set_self (List.getElem?_eq_some_iff.1 hi).1,hi]
    rw [List.getElem?_set_ne e]
   rw [e9] at hfin;exact hfin
end
section
variable {X:Cx} {ops:Array Oper} {K:K3} {s:cJ} {L:List Chunk} {l:List Oper}
theorem KN {α:Type}{R:Rep α}{e:TypeId}{A:Option Addr}{n c:Nat}{xs:List α}(i:Nat)(hi:L[i]? =some (dr R e (.slice A n c) xs))(k:n=xs.length→n≤c→d6 X ops l K s L):d6 X ops l K s L:=fun H Ds a w ha hd hw=>by
 obtain ⟨T,S,hT⟩:=hw.get (cE hi);obtain ⟨A',c',e1,h1, -⟩:=aC _ _ _ hT
 injection e1 with _ e2 e3
 exact k e2 O H Ds a w ha hd hw
end
section
variable {X:Cx} {ops:Array Oper} {K:K3} {M:List Chunk} {s:cJ} {L:List Chunk} {fuel:Nat} {listed:Array Bool}
end
end
section
open Go.RowKit
def lr {α:Type}(_:Nat)(a0:List α)(a1 a2:Int):Option (List α):=dq (0≤a1∧a1≤a2∧a2.toNat≤a0.length) (some (a0.take a1.toNat++a0.drop a2.toNat))
theorem uA {N:Nat}{α:Type}{R:Rep α}{a0:List α}{a1 a2:Int}{r:List α}(h:lr N a0 a1 a2=some r){A:Option Addr}{n c:Nat}(hR:R.sz=3:=by rfl):Okc Tryz.prog 120 [.slice A n c,.int .i64 a1,.int .i64 a2] [dr R 30 (.slice A n c) a0] (fun u post=> ∃A n c,u=.slice A n c∧post=[dr R 30 (.slice A n c) r]):=by
 obtain ⟨⟨p1,p2,p3⟩,h⟩:=ay h;obtain rfl:=am h;obtain ⟨i,rfl⟩: ∃i:Nat,a1=(i:Int):=⟨a1.toNat,by omega⟩;obtain ⟨j,rfl⟩: ∃j:Nat,a2=(j:Int):=⟨a2.toNat,by omega⟩;simp only [Int.toNat_natCast] at*
 have hij:i≤j:=by omega
 have iM:gk Tryz.prog 30 3=true:=by kernel_rfl
 refine bD Tryz.func120 J J ?_;simp only [aW];refine aB ?_;refine gj ?_;refine fb (bj J) J J J ?_;refine kU ?_;refine fa ?_;refine aB ?_;refine gj ?_
 refine KN 0 J fun hn hc=> ?_
 refine fb (aq J) J J J ?_;refine fb (aq J) J J J ?_;refine fb (aq J) J J J ?_;refine fb (aq J) J J J ?_;refine cp (bL 0 J aC J hE) J J J ?_;refine fb (EV (l:=i) (h:=j) (m:=a0.length) J hE iM J J J hij p3 O) J J J ?_;refine kU ?_;refine fa ?_;refine aB ?_;refine aB ?_;refine gj ?_;refine fb (aq J) J J J ?_;refine fb (aq J) J J J ?_;refine fb (vB J J) J J J ?_;refine kU ?_;refine fa ?_;refine C2 J (fun g=> ?_) (fun g=> ?_)
 ·have e:i=j:=by have:=of_decide_eq_true g;omega
  subst e;refine aB ?_;refine gj ?_;refine fb (aq J) J J J ?_;refine fb (bj J) J J J ?_;refine kU ?_;refine fa ?_;refine Ea ?_;refine JT ?_;rw [List.take_append_drop];exact aL J J (ae _) ⟨_,_,_,J,J⟩
 have hlt:i<j:=by
  have:=of_decide_eq_false g;omega
 refine oP ?_;refine fa ?_;refine aB ?_;refine gj ?_;refine fb (aq J) J J J ?_;refine cp (bL 0 J aC J hE) J J J ?_;refine fb (bj J) J J J ?_;refine kU ?_;refine fa ?_;refine aB ?_;refine bK V [] (xL [] 1 J J) ?_;refine dG 0 J V (aq J) J J ?_;refine dG 1 J V (aq J) J J ?_;refine dG 2 J V (rx (lo:=none) (l:=0) (h:=i) J hE iM J J (Nat.zero_le _) O) J J ?_;refine dG 3 J V (aq J) J J ?_;refine dG 4 J V (aq J) J J ?_;refine dG 5 J V (rx (hi:=none) (l:=j) (h:=n) J hE iM J J O hc) J J ?_;refine mK 6 J V (yo (k:=i) (j:=j) (sz:=3) (by_:=32) 0 J J J hE V hR hn hlt O hc) J J J ?_;rintro _ _ ⟨A',rfl,rfl⟩;refine ⟨[],xL [] 1 J J,ae _,?_⟩;refine dG 7 J V (bj J) J J ?_;refine bC V ?_;refine fa ?_
 have hlen:(a0.take i++a0.drop j).length=i+(n - j):=by rw [List.length_append,List.length_take,List.length_drop];omega
 refine aB ?_;refine gj ?_;refine fb (aq J) J J J ?_;refine fb (aq J) J J J ?_;refine cp (bL 0 J aC J hE) J J J ?_;rw [hlen];refine fb (aq J) J J J ?_;refine fb (rx (l:=i+(n - j)) (h:=a0.length) J hE iM J J O O) J J J ?_;refine Jx (zM (n:=i+(n - j)) (o:=a0.length) (sz:=3) (by_:=32) 0 J J hE V V hR O O) J J ?_;rintro _ _ ⟨rfl,rfl⟩;refine kU ?_;refine fa ?_;refine aB ?_;refine gj ?_;refine fb (aq J) J J J ?_;refine fb (bj J) J J J ?_;refine kU ?_;refine fa ?_;refine Ea ?_;exact aL J J (ae _) ⟨_,_,_,J,J⟩
section
variable {X:Cx} {K:K3} {s:cJ} {L:List Chunk}
theorem gH {ρ:Type}{c:Operand}{x y:Code}{b:Bool}{u v:Option ρ}{r:Option ρ}(hc:cI s c=some (.bool b))(h:(bif b then u else v)=r)(ht:u=r→Wq X x K s L)(hf:v=r→Wq X y K s L):Wq X (.cond c x y) K s L:=C2 hc (fun g=>ht (aE g h)) fun g=>hf (aF g h)
variable {ops:Array Oper} {rest:List Oper} {d:Nat} {op:Op} {ty:TypeId} {pos:String} {af:Array Edge} {gd:Option (Nat×Bool)}
theorem gV {v:Value}{C Z:List Chunk}(h:OpX X.P s L ⟨some d,op,ty,pos,af,gd⟩ fun u L'=> ∃post,(u=v∧post=C)∧L'=post++Z)(k:d6 X ops rest K ((d,v)::s) (C++Z))(hn:i5 ⟨some d,op,ty,pos,af,gd⟩=true:=by rfl)(hg:cg ops s ⟨some d,op,ty,pos,af,gd⟩=some true:=by rfl)(hd:Nat.ble (d+1) X.n=true:=by rfl):d6 X ops (⟨some d,op,ty,pos,af,gd⟩::rest) K s L:=gD h (by rintro _ _ ⟨_,⟨rfl,rfl⟩,rfl⟩;exact k) hn hg hd
theorem gU {v:Value}{C Z:List Chunk}(h:OpX X.P s L ⟨some d,op,ty,pos,af,gd⟩ fun u L'=> ∃post,(u=v∧post=C)∧L'=post++Z)(hg:cg ops s ⟨some d,op,ty,pos,af,gd⟩=some true)(k:d6 X ops rest K ((d,v)::s) (C++Z))(hn:i5 ⟨some d,op,ty,pos,af,gd⟩=true:=by rfl)(hd:Nat.ble (d+1) X.n=true:=by rfl):d6 X ops (⟨some d,op,ty,pos,af,gd⟩::rest) K s L:=gD h (by rintro _ _ ⟨_,⟨rfl,rfl⟩,rfl⟩;exact k) hn hg hd
theorem gW {Z:List Chunk}(h:OpX X.P s L ⟨none,op,ty,pos,af,gd⟩ fun _ L'=>L'=Z)(k:d6 X ops rest K s Z)(hn:i5 ⟨none,op,ty,pos,af,gd⟩=true:=by rfl)(hg:cg ops s ⟨none,op,ty,pos,af,gd⟩=some true:=by rfl):d6 X ops (⟨none,op,ty,pos,af,gd⟩::rest) K s L:=gO h (by rintro _ _ rfl;exact k) hn hg
theorem gB {F:Nat→Value}{G:Nat→List Chunk}(h:OpX X.P s L ⟨some d,op,ty,pos,af,gd⟩ fun u L'=> ∃b,u=F b∧L'=G b)(k: ∀b,d6 X ops rest K ((d,F b)::s) (G b))(hn:i5 ⟨some d,op,ty,pos,af,gd⟩=true:=by rfl)(hg:cg ops s ⟨some d,op,ty,pos,af,gd⟩=some true:=by rfl)(hd:Nat.ble (d+1) X.n=true:=by rfl):d6 X ops (⟨some d,op,ty,pos,af,gd⟩::rest) K s L:=gD h (by rintro _ _ ⟨b,rfl,rfl⟩;exact k b) hn hg hd
end
end
end Go.Proofs.YtanojiedimeegaaGreatDoor