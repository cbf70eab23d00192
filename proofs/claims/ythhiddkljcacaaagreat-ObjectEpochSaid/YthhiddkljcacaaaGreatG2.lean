/- Merged texts: part 2. No conditions of their own. -/
import Derived.Test.YthhiddkljcacaaaGreatG1
import Derived.SizedLaws
import Derived.OpenShut
import Derived.Lib.AppendZeros
import Derived.LoopNIn
import Derived.KernelRfl
import Derived.Shelf.Small.Bits
import Derived.Shelf.Small.Wraps
import Derived.Shelf.Strconv.Itoa0
import Derived.Shelf.Slices.Turned
import Derived.Ground.Names2Prog
import Derived.Shelf.Slices.SearchI
import Derived.Shelf.Slices.Empties
import Derived.Ground.SlgmProg
import Derived.Shelf.SortM.Plain
import Derived.Shelf.SortM.SortNone
import Derived.Test.YthhiddkljcacaaaGreatProg
import Derived.Lib.OwnBridge
namespace Go.Proofs.YthhiddkljcacaaaGreat
variable {a:Act}{listed:Array Bool}{af:Array Edge}{ops:Array Oper}{ats:Array TypeId}{caps:Array Value}{assign body c:Code}{X:Cx}{Q:Exit->Act->World->Prop}{f gf:FuncId}{K:K3}{ds ps qs:List Nat}{l l':List Oper}{xs:List Operand}{Bs:List Wa}{vss:List Wb}{fuel h i j k m n off q':Nat}{p:Nat->Oper->Prop}{S:Nat->Prop}{o o':Oper}{g x y:Operand}{gd:Option (Nat×Bool)}{je:Option Exit}{P:Program}{pos:String}{H α β ι ι0 ρ:Type}{e t ty u:TypeId}{v vw:Value}{R:Value->Wa->Prop}{L L' L0 L2 M Z pre:Wa}{cs us vs:Wb}{C:World->Prop}{s:bA}
section
open Go.RowKit Go.ChangeShapes Go.WideShapes Go.Deep
noncomputable abbrev Wc:=Tryz.prog
structure Light {H:Type} (P:Program) (t:TypeId) (d:DataW H):Prop where
 le: ∀n∈d.weights P t,n<=reachBytes
def JS (P:Program)(t:TypeId)(R:Rep α)(wf:α->Prop):Prop:= ∀{H:Type} {enc:TypeId×Value->H} {w:World} {base:Nat} {spare:Nat->Bool} {held:Bool} {n:Nat} {cs:Wb} {y:DataW H×List MemPlace},DataW.trod enc P w base spare held n t cs=some y->Light P t y.1-> ∃a,R.rel (fun q=>q<w.heap.size) w cs a/\wf a
def TY (wf:α->Prop)(xs:List α):Prop:=xs.length<=reachBytes/\ ∀x∈xs,wf x
theorem Rdr.w {R:Rep α}{wf:α->Prop}(h:Rdr P t R wf):JS P t R wf:=fun h1 _=>h h1
theorem IQ (ht:P.underlying t=some .string):JS P t sX (fun s=>s.size<=reachBytes):=fun h hw=>by
 obtain ⟨a,r,rfl, -⟩:=DataW.trod_string ht h;refine ⟨a,r,hw.le a.size ?_⟩;show a.size∈DataW.weights P t (.lit (.string a.data.toList));unfold DataW.weights;exact Xf.2 J
theorem xu: ∀{l:List (DataW H)} {d:DataW H},d∈l-> ∀n∈d.weights P e,n∈DataW.weightsAll P e l
 |d::l,d',h,n,hn=>by
  unfold DataW.weightsAll;rcases W9.1 h with rfl|h
  ·exact V4 _ hn
  exact V5 _ (xu h n hn)
theorem dV {fs:Array Field}(ht:P.underlying t=some (.struct fs)){xs:List (DataW H×List MemPlace)}{pl:List MemPlace}{y0:DataW H×List MemPlace}(hy:y0=(.agg (xs.map (·.1)),pl))(h:Light P t y0.1){f:Field}(hf:fs[i]? =some f){y:DataW H×List MemPlace}(hx:xs[i]? =some y):Light P f.type y.1:=⟨fun n hn=>by
 subst hy;refine h.le n ?_;show n∈DataW.weights P t (.agg (xs.map (·.1)));unfold DataW.weights;rw [ht]
 exact DataW.weights_mem_each (j:=i) (t:=f.type) (d:=y.1) (by simp [hf]) (by simp [hx]) n hn⟩
theorem PS {R:Rep α}{wf:α->Prop}(ht:P.underlying t=some (.slice e))(hsz:P.cellsOf e=R.sz)(hpos:0<R.sz)(hb:0<P.bytesOf e)(he:JS P e R wf):JS P t R.sl (TY wf):=fun {H enc w base spare held n cs y} h hw=>by
 rcases open_slice ht h with ⟨rfl, -⟩|⟨a,len,cap,m,n,D,Pl,rfl,a6,hl,hm,hmm,hy,hi⟩
 ·exact ⟨[],⟨_,J,Hx _ _ _⟩,XD _,fun _ h=>by cases h⟩
 have hlm:len<=m:=by rw [hmm];split<;>omega
 rw [hsz] at hi
 have hwt:((List.range len).map D).length*P.bytesOf e<=reachBytes/\ ∀i,i<len->Light P e (D i):=by
  rw [hy] at hw;have hw': ∀n∈DataW.weights P t (.slice ((List.range len).map D) ((List.range (m - len)).map fun j=>D (len+j))),n<=reachBytes:=hw.le;unfold DataW.weights at hw';rw [ht] at hw';simp only at hw';refine ⟨Xy (XB _ (Nat.le_add_right _ _)) (hw' _ (List.mem_cons_self ..)),fun i hi=>⟨fun n hn=>hw' n (Xa _ (V4 _ (xu (Xc.2 ⟨i,Xe.2 hi,J⟩) n hn)))⟩⟩
 rw [XU,List.length_range] at hwt
 have key: ∀i:_root_.Fin len, ∃q:Wb×α,w.cells? base (a.add (i*R.sz)) R.sz=some q.1/\R.rel (fun q=>q<w.heap.size) w q.1 q.2/\wf q.2:=fun i=>by
  obtain ⟨cs',h1,h2⟩:=hi i U;obtain ⟨a',h3,h4⟩:=he h2 (hwt.2 i i.2);exact ⟨(cs',a'),h1,h3,h4⟩
 let f:_root_.Fin len->Wb×α:=fun i=>Classical.choose (key i)
 have hf: ∀i:_root_.Fin len,w.cells? base (a.add (i*R.sz)) R.sz=some (f i).1/\R.rel (fun q=>q<w.heap.size) w (f i).1 (f i).2/\wf (f i).2:=fun i=>Classical.choose_spec (key i)
 have hlen:(List.ofFn fun i=>(f i).2).length=len:=by simp
 unfold maxLen at hm;refine ⟨List.ofFn fun i=>(f i).2,⟨_,J,some a,cap,by rw [hlen],by rw [hlen];exact hl,hm,fun h0=> ?_⟩,?_,fun x hx=> ?_⟩
 ·rw [hlen] at h0;obtain ⟨-,a8,Sj⟩:=World.cells?_some (hf ⟨0,h0⟩).1;have hc0:=Sj 0 hpos;have hll:(f ⟨0,h0⟩).1.length=R.sz:=R.len (hf ⟨0,h0⟩).2.1;have hz:(f ⟨0,h0⟩).1[0]? =some ((f ⟨0,h0⟩).1[0]'U):=WO U;rw [hz] at hc0
  have ha0:(a.add ((⟨0,h0⟩:_root_.Fin len)*R.sz)).add 0=a:=by simp [Addr.add]
  rw [ha0] at hc0;have ha:=Gc hc0;refine ⟨a.block,a.off,List.ofFn fun i=>(f i).1,by rw [<-ha],block_lt_of_cell hc0,block_lt_of_cell hc0,Di _ _ fun i=>(hf i).2.1,?_⟩
  have hall:=Di (R:=R.rel (fun q=>q<w.heap.size) w) (fun i=>(f i).1) (fun i=>(f i).2) fun i=>(hf i).2.1
  have:=zN (b:=a.block) (o:=a.off) 0 _ _ hall (fun i vs hi=>by
   have hil:i<len:=by have:=(WQ.1 hi).1;simpa using this
   have hvs:vs=(f ⟨i,hil⟩).1:=by
    rw [List.getElem?_ofFn] at hi;simp [hil] at hi;exact hi.symm
   subst hvs;obtain ⟨-,b0,hat1⟩:=World.cells?_some (hf ⟨i,hil⟩).1;intro j u hu
   have hj:j<R.sz:=by rw [<-R.len (hf ⟨i,hil⟩).2.1];exact (WQ.1 hu).1
   have h3:=hat1 j hj;rw [hu,ha,Hk,Hk] at h3;rw [XC]
   exact h3)
  simpa using this
 ·rw [hlen];exact Xy (Nat.le_mul_of_pos_right _ hb) hwt.1
 obtain ⟨i,rfl⟩:=List.mem_ofFn.1 hx;exact (hf i).2.2
open Go.RowKit
def sS (e:Option Exit)(n r:Option ρ)(x:Nat->Option ρ):Option ρ:=match e with
 |none=>n
 |some .ret=>r
 |some (.exit i)=>x i
 |some _=>none
theorem rx {e:Exit}(L:Wa)(h:L'=L)(k:K e s L):K e s L':=h▸k
theorem LS {K':K3}(h:Wq X c K' s L)(hk:∀e s L,K' e s L-> ∃(ι:Type) (Q:ι->Wa),L=[dO Q]/\ ∀x,K e s (Q x)):Wq X c K s L:=fun H Ds a w ha hd hw=>wpIn_mono (h H Ds a w ha hd hw) fun e a' w' ⟨s',L',Ds',h1,h2,h3,h4⟩=>by
 obtain ⟨ι,Q,rfl,h5⟩:=hk _ _ _ h4;obtain ⟨x,hx⟩:=kK h3;exact ⟨s',Q x,Ds',h1,h2,by simpa using hx,h5 x⟩
theorem wl {σ:Type}{en:α->Wb}(φ:α->σ->Option (Option Exit×σ))(Q:σ->ι->Wa)(pre:Wa)(σ₀:σ)(x₀:ι){σr:σ}{id:Nat}{vn vr:Option ρ}{vx:Nat->Option ρ}{v:ρ}(hr:X.r=none)(hg:be s g=some (.func (.func gf) #[] caps))(hf:qn X.P gf)(hps:ps.all (fun p=>Nat.ble (p+1) X.n)=true)(hen:∀x,(en x).length=ps.length)(hit:∀l (G:(Option Exit×σ)->Wa),vc X.P l G en (cM φ)->Okc X.P gf (.func (.yield l) #[] #[]::caps.toList) (pre++G (none,σ₀)) fun _ post=>post=G (je,σr))(hL:Cv L (pre++Q σ₀ x₀))(h:sS je vn vr vx=some v)(hbody:∀l x σ₁ je' σ₂ z,φ x σ₁=some (je',σ₂)->Wq ⟨X.P,X.n,some l⟩ assign (nx (fun s1 L1=>Wq ⟨X.P,X.n,some l⟩ body (RK je' [dO (Q σ₂)]) s1 L1) fun _ _ _=>False) (Cl ps (en x) s) (Q σ₁ z))(hn:∀z,vn=some v->bk id K .normal s (Q σr z))(hret:∀z,vr=some v->bk id K .ret s (Q σr z))(hx:∀i z,vx i=some v->bk id K (.exit i) s (Q σr z)):
  Wq X (.block id (.rangeFunc g ps.toArray assign body)) K s L:=by
 refine Cw (LS (K':=fun e s' L'=>s'=s/\L'=[dO (Q σr)]/\ ∀z,bk id K e s (Q σr z)) ?_ ?_)
 ·refine Rq φ (fun q=> [dO (Q q)]) pre σ₀ hr hg hf hps hen hit ?_ ?_ ?_ ?_
  ·exact hL.trans (vv pre (gL x₀ J))
  ·intro l x σ₁ je' σ₂ hφ
   exact PA fun z=>hbody l x σ₁ je' σ₂ z hφ
  ·intro hj;rw [hj] at h;exact ⟨J,J,fun z=>hn z h⟩
  intro e he;rw [he] at h
  cases e with
  |ret=>exact ⟨rfl,rfl,rfl,fun z=>hret z h⟩
  |exit i=>exact ⟨rfl,rfl,rfl,fun z=>hx i z h⟩
  |_=>cases h
 rintro e s' L' ⟨rfl,rfl,h3⟩;exact ⟨ι,Q σr,J,h3⟩
theorem KY (h:Cv L L'):RK (some .ret) L' .ret s L:=⟨.inr ⟨rfl,rfl⟩,h⟩
theorem D3 (h:Cv L L'):RK none L' .normal s L:=⟨.inl ⟨rfl,rfl⟩,h⟩
def vL (P:Program)(L:Wa)(s:bA)(r:ResultVar)(v:Value):Prop:=match r with
 | .tmp t=>jq s t=some v
 | .cell t ty=> ∃b,jq s t=some (.pointer (some ⟨b,0,none⟩))/\ ∀Z w,Sp Z L w->(loadVar ty ⟨b,0,none⟩).run P w=.ok v w
def Uf:Wb->Value
 | [v]=>v
 |vs=> .tuple vs.toArray
def EI (tm:Array Value)(r:ResultVar):Sem Value:=match r with
 | .tmp t=>pure (tm.getD t undef)
 | .cell a t=>do loadVar t (<-asAddr (tm.getD a undef))
theorem Kh (fn:Func)(tm:Array Value):results fn tm=(do let vs<-fn.results.mapM (EI tm);pure (if h:vs.size=1 then vs[0] else .tuple vs)):=rfl
theorem Dr (ha:Fx X s a){w:World}(hw:Sp Z L w): ∀{rs:List ResultVar} {vs:Wb},All2 (vL X.P L s) rs vs->(rs.mapM (EI a.tmps)).run X.P w=.ok vs w
 |_,_,.nil=>by simp
 | r::rs,_,.cons (b:=vr) h1 h2=>by
  have ih:=Dr ha hw h2
  have h3:(EI a.tmps r).run X.P w=.ok vr w:=by
   cases r with
   |tmp t=>
    have e:=ha.at_ t _ h1;unfold EI;simp only [XM,e]
   |cell t ty=>
    obtain ⟨b,e1,e2⟩:=h1;have e:=ha.at_ t _ e1;unfold EI;simp only [e,asAddr,XL,XM,XK,e2 _ _ hw]
  rw [List.mapM_cons,XL,h3,XK,XL,ih,XK,XM]
theorem uB {fn:Func}{rs:List ResultVar}(hr:fn.results=rs.toArray)(h:All2 (vL X.P L s) rs vs)(hv:Uf vs=v)(hc:Cv L L2)(hR:R v L2):Ny X fn R .ret s L:=fun a ha=>⟨v,L2,fun Z w hw=>by
 have h1:=Dr ha hw h;rw [Kh,hr,XL];simp only [List.mapM_toArray]
 have h2:(List.toArray<$>rs.mapM (EI a.tmps)).run X.P w=.ok vs.toArray w:=by
  show ((rs.mapM (EI a.tmps))>>=fun l=>pure l.toArray).run X.P w=_;rw [XL,h1,XK,XM]
 rw [h2,XK,XM];subst hv
 match vs with
 | []=>rfl
 | [v]=>rfl
 |_::_::_=>simp [Uf],hc,hR⟩
theorem qB {t:Nat}(h:jq s t=some v):vL P L s (.tmp t) v:=h
theorem lC {t ty bt b:Nat}(i:Nat)(hi:L[i]? =some (ae b bt cs))(hl:jq s t=some (.pointer (some ⟨b,0,none⟩)))(hu:Gq P ty cs.length=true):vL P L s (.cell t ty) (.agg cs.toArray):=⟨b,hl,fun Z w hw=>by
 obtain ⟨T,S, -,h⟩:=hw.get (aU hi)
 exact Gz hu h.all⟩
theorem Mi {a:Addr}{w:World}(hu:i9 P t=true)(hc:w.cell? a=some v):(loadVar t a).run P w=.ok v w:=by
 have h1:(isAgg t).run P w=.ok false w:=by
  unfold i9 at hu;unfold isAgg
  cases hq:P.underlying t with
  |none=>rw [hq] at hu;cases hu
  |some u=>rw [hq] at hu;rw [XL,XR hq];cases u<;>first|rfl|(cases hu)
 simp only [loadVar,XL,XM,XK,h1,Wk,if_false,run_load,hc]
theorem HD {t ty bt b:Nat}(i:Nat)(hi:L[i]? =some (ae b bt [v]))(hl:jq s t=some (.pointer (some ⟨b,0,none⟩)))(hu:i9 P ty=true):vL P L s (.cell t ty) v:=⟨b,hl,fun Z w hw=>by
 obtain ⟨T,S, -,h⟩:=hw.get (aU hi)
 exact Mi hu (h.at (by simp))⟩
section
variable {d:Option Nat}
theorem Af {sz:Nat}: ∀{vss:List Wb},(∀r∈vss,r.length=sz)-> ∀{k:Nat} {r:Wb},vss[k]? =some r-> ∀r':Wb,vss.flatten=vss.flatten.take (k*sz)++r++vss.flatten.drop (k*sz+sz)/\(vss.set k r').flatten=vss.flatten.take (k*sz)++r'++vss.flatten.drop (k*sz+sz)
 | [],_,k,r,h,_=>by simp at h
 |a::l,hl,0,r,h,r'=>by
  simp only [WM,XI] at h;subst h;have e:=hl a (by simp);simp [<-e]
 |a::l,hl,k+1,r,h,r'=>by
  simp only [WL] at h;obtain ⟨h1,h2⟩:=Af (fun x hx=>hl x (by simp [hx])) h r';have e:=hl a (by simp)
  have e1:(k+1)*sz=a.length+k*sz:=by rw [e,Xt];omega
  have e2: ∀m:Nat,(a++l.flatten).take (a.length+m)=a++l.flatten.take m:=fun m=>by rw [List.take_append,Xn U,Nat.add_sub_cancel_left]
  have e3: ∀m:Nat,(a++l.flatten).drop (a.length+m)=l.flatten.drop m:=fun m=>by rw [List.drop_append,WA U,Nat.add_sub_cancel_left,XX]
  rw [List.set_cons_succ,WI,WI,e1,h2,Nat.add_assoc,e2,e3];refine ⟨?_,by simp only [V3]⟩
  conv=>lhs;rw [h1]
  simp only [V3]
theorem NM {R:Rep α}{w:World}{xs:List α}(h:All2 (R.rel S w) vss xs): ∀r∈vss,r.length=R.sz:=by
 induction h with
 |nil=>intro r hr;cases hr
 |cons h1 _ ih=>
  intro r hr;rcases W9.1 hr with rfl|hr
  ·exact R.len h1
  exact ih r hr
theorem RW (cs us:Wb)(o:Nat)(h:o+us.length<=cs.length):(ow cs.toArray o us).toList=cs.take o++us++cs.drop (o+us.length):=Ed cs us o h
theorem cF {R:Rep α}{u:Value}{xs:List α}{z:α}(i:Nat)(hi:L[i]? =some (bh R e v xs))(hx:be s x=some (dh v k R.sz off))(hy:be s y=some u)(hv:u.cells.toList=us)(hs:kP P t us.length=true)(h1:us.all (·.oneCell')=true)(hk:k<xs.length)(hle:Nat.ble (off+us.length) R.sz=true)(hrel:∀S w vs xk,xs[k]? =some xk->R.rel S w vs xk->Ro L S w->R.rel S w (vs.take off++us++vs.drop (off+us.length)) z):OpX P s L ⟨d,.store t x y,ty,pos,af,gd⟩ fun _ L'=>L'=L.set i (bh R e v (xs.set k z)):=fun ρ hρ Z w hw=>by
 obtain ⟨T,S,hT⟩:=hw;obtain ⟨vss,g1,g2⟩:=hT.ok (aU hi);have hle:=Xw hle;rcases g2 with ⟨g2,g3⟩|⟨h0, -⟩
 rotate_left
 ·omega
 rcases g2.2 with ⟨rfl,h0⟩|⟨g,cap,cur,rfl,q1,q2,q3,q4,q5,q6⟩
 ·omega
 obtain ⟨xk,hxk⟩: ∃xk,xs[k]? =some xk:=⟨_,WO hk⟩;obtain ⟨vs,hvs,hr⟩:=g1.get hxk;have hl:=R.len hr
 have hlen:k*R.sz+R.sz<=xs.length*R.sz:=by rw [<-Nat.succ_mul];exact XB _ hk
 have hcap0:cap*R.sz<=cur.size:=by
  obtain ⟨c0,h1, -,h3⟩:=q5;rw [h3];exact XB _ h1
 have hcap:xs.length*R.sz<=cap*R.sz:=XB _ q3
 have hx':be s x=some (.pointer (some ⟨g,k*R.sz+off,none⟩)):=by rw [hx];simp [dh]
 obtain ⟨w',e1,e2,e3⟩:=fT (P:=P) (t:=e) us w g (k*R.sz+off) 0 cur q2 U h1;have hz:=hrel S w vs xk hxk hr hT.ros.app;have hfl:=Af (NM g1) hvs (vs.take off++us++vs.drop (off+us.length));refine .inr (.inl ⟨w',L.set i (bh R e (.slice (some ⟨g,0,none⟩) xs.length cap) (xs.set k z)),?_,?_,J⟩)
 ·unfold execOp
  have hcs:u.cells=us.toArray:=by rw [<-hv]
  simp only [hρ x _ hx',hρ y _ hy,Instr.storeAt,Instr.sureAddr,storeVar,XL,XM,XK,kO hs w,hcs,List.size_toArray,ne_eq,not_true,if_false,e1]
 have hfin:SepL ((L++Z).set i (bh R e (.slice (some ⟨g,0,none⟩) xs.length cap) (xs.set k z))) w':=by
  refine hT.upd (aU hi) (T':=T i) (Agr.of_fr e2 fun q hq e=>hq (e▸g3 g J)) (fun _=> .inl) (fun q hq=>Xz (hT.lt hq) e2.size) ?_
  have hS:Agr S w w':=Agr.of_fr e2 fun q hq e=>hT.ro (g3 g rfl) (e▸hq)
  refine ⟨vss.set k (vs.take off++us++vs.drop (off+us.length)),(g1.imp fun _ _=>R.loc hS).set (R.loc hS hz) k,.inl ⟨?_,g3⟩⟩;rw [W3]
  have hnew:((vss.set k (vs.take off++us++vs.drop (off+us.length))).flatten).length=xs.length*R.sz:=by
   have:=oo (R:=R) (S:=S) (w:=w) (g1.set hz k);rw [this,W3]
  refine ⟨hnew,.inr ⟨g,cap,_,J,XD _,e3,q3,q4,by rw [BB];exact q5,?_⟩⟩
  have hcur:cur=cur.toList.toArray:=by simp
  have hsz:k*R.sz+off+us.length<=cur.toList.length:=by simp;omega
  rw [Nat.add_zero,hcur,RW _ _ _ hsz,hfl.2];have hF:vss.flatten=cur.toList.take (xs.length*R.sz):=q6.symm;have hFl:vss.flatten.length=xs.length*R.sz:=g2.1;apply WE;intro j;have hvl:vs.length=R.sz:=hl
  have key: ∀j',j'<R.sz->vs[j']? =vss.flatten[k*R.sz+j']? :=fun j' hj'=>by
   have h5:vs[j']? =some (vs[j']'U):=WO U;rw [h5];exact (vN g1 hvs h5).symm
  by_cases hj:j<xs.length*R.sz
  ·rw [WU,if_pos hj];by_cases c1:j<k*R.sz
   ·rw [V3,WJ (by rw [XT];simp;omega),WU,if_pos U,V3,WJ (by rw [XT];omega),WU,if_pos c1,hF,WU,if_pos hj]
   by_cases c2:j<k*R.sz+off
   ·rw [V3,WJ (by rw [XT];simp;omega),WU,if_pos c2];rw [V3,WK (by rw [XT];omega),XT,show min (k*R.sz) vss.flatten.length=k*R.sz by omega];rw [V3,V3,WJ (by rw [XT];omega),WU,if_pos U,key _ U,show k*R.sz+(j - k*R.sz)=j by omega,hF,WU,if_pos hj]
   by_cases c3:j<k*R.sz+off+us.length
   ·rw [V3,WK (by rw [XT];simp;omega),XT,show min (k*R.sz+off) cur.toList.length=k*R.sz+off by omega,WJ U];rw [V3,WK (by rw [XT];omega),XT,show min (k*R.sz) vss.flatten.length=k*R.sz by omega];rw [V3,V3,WK (by rw [XT];omega),XT,show min off vs.length=off by omega,WJ U]
    congr 1;omega
   rw [V3,WK (by rw [XT];simp;omega),XT,show min (k*R.sz+off) cur.toList.length=k*R.sz+off by omega,WK U,WN];rw [V3,WK (by rw [XT];omega),XT,show min (k*R.sz) vss.flatten.length=k*R.sz by omega];rw [V3,V3,WK (by rw [XT];omega),XT,show min off vs.length=off by omega,WK U];by_cases c4:j<k*R.sz+R.sz
   ·rw [WJ (by rw [WZ];omega),WN,key _ U,hF,WU,if_pos U]
    congr 1;omega
   rw [WK (by rw [WZ];omega),WZ,WN,hF,WU,if_pos U]
   congr 1;omega
  rw [WU,if_neg hj];refine (WP ?_).symm;rw [<-hfl.2,hnew];omega
 rw [lL Z hi] at hfin;exact hfin
theorem Dw {ek:α->Value}{ev:β->Value}{kt et:TypeId}{n:Int}(hx:be s x=some (.int .i64 n))(ht:P.underlying t=some (.map kt et)):OpX P s L ⟨d,.makeMap t (some x),ty,pos,af,gd⟩ fun u L'=> ∃m,u=.map (some m)/\L'=ax ek ev m ([]:List (α×β))::L:=fun ρ hρ Z w hw=>by
 refine .inl ⟨.map (some w.heap.size),w.alloc (.map #[] 0),ax ek ev w.heap.size []::L,?_,SepL.new hw (Agr.of_ext ((Ext.refl w).alloc _)) fun _ S _=>⟨(· =w.heap.size),fun q hq=>by subst hq;simp,rfl, #[],0,heap_alloc_new w _,by simp,by simp,by simp⟩,_,J,J⟩;unfold execOp;simp only [XG,hρ x _ hx,Instr.makeMap,XL,XR ht,XK,asInt];rfl
theorem pn {w:World}{c:Nat}{code:BoundsCode}(h:m<=c):(Instr.sliceBound (.int .i64 (m:Int)) c code).run P w=.ok m w:=by
 unfold Instr.sliceBound;simp only [asIntOf,XL,XM,XK];rw [if_pos ⟨by omega,by omega⟩];simp
theorem GY {t e sz:Nat}{z:Operand}{A:Option Addr}{c:Nat}(hx:be s x=some (.slice A n c))(hu:P.underlying t=some (.slice e))(hs:kP P e sz=true)(hh:be s y=some (.int .i64 (h:Int)))(hm:be s z=some (.int .i64 (m:Int)))(h1:h<=m)(h2:m<=c):Ev P s C ⟨d,.slice t x none (some y) (some z),ty,pos,af,gd⟩ (.slice (if m=0 then A else A.map (·.add 0)) h m):=fun ρ hρ w _=>by
 unfold execOp;simp only [XG,Option.map_none,hρ x _ hx,hρ y _ hh,hρ z _ hm,Instr.sliceAt,Instr.slice,Instr.sliceBounds,XL,XR hu,XK,pn h2,pn h1,kO hs w,XM,Nat.zero_mul];rfl
end
def nu (R:Rep α)(e:TypeId)(v:Value)(xs:List α)(vw:Value)(k:Nat):Chunk where
 ok T S w:= ∃vss,All2 (R.rel S w) vss xs/\((ownsX w e R.sz v xs.length vss.flatten/\ ∀q,v.ownBlock=some q->T q)\/(xs.length=0/\ ∃A,v=.slice A 0 0))/\k<=xs.length/\ ∃A cv,vw=.slice A k cv/\k<=cv/\cv<=9223372036854775807/\(0<k-> ∃b,A=some ⟨b,0,none⟩/\T b/\b<w.heap.size/\CellsAt w b 0 (vss.take k).flatten)
 loc:=fun h ⟨vss,h1,h2,h3,A,cv,h4,h7,h5,h6⟩=>⟨vss,h1.imp fun _ _=>R.loc (h.mono fun _=> .inr),h2.imp (fun ⟨h2,h3⟩=>⟨GJ h2 h fun q hq=> .inl (h3 q hq),h3⟩) id,h3,A,cv,h4,h7,h5,fun h0=>by
  obtain ⟨b,g1,g2,g3,g4⟩:=h6 h0
  exact ⟨b,g1,g2,Xz g3 h.size,g4.agr h (.inl g2) g3⟩⟩
 mono:=fun h ⟨vss,h1,h2,h3⟩=>⟨vss,h1.imp fun _ _=>R.mono h,h2,h3⟩
 ro:=false
 dup:=fun h=>Bool.noConfusion h
theorem FA {R:Rep α}{xs:List α}{T:Nat->Prop}{w:World}(h:(nu R e v xs vw k).ok T S w):(bh R e v xs).ok T S w:=by
 obtain ⟨vss,h1,h2, -⟩:=h;exact ⟨vss,h1,h2⟩
theorem Jx {R:Rep α}{xs:List α}:Gs R v xs (nu R e v xs vw k):=fun T S w h=>ak T S w (FA h)
theorem FR {R:Rep α}{xs:List α}:Gs R vw (xs.take k) (nu R e v xs vw k):=fun T S w ⟨vss,h1,_,h3,A,cv,h4,h7,h5,h6⟩=>by
 have hl:(xs.take k).length=k:=by rw [XT];omega
 refine ⟨A,cv,by rw [hl];exact h4,by omega,h5,fun h0=> ?_⟩;rw [hl] at h0;obtain ⟨b,g1,g2,g3,g4⟩:=h6 h0;exact ⟨b,0,vss.take k,g1,h1.take k,g4⟩
theorem O9 {R:Rep α}{xs:List α}(i:Nat)(hi:L[i]? =some (bh R e v xs)):Cv L (L.set i (nu R e v xs (Y none 0 0) 0)):=fun Z w h=>by
 have h1:=h.weak (aU hi) (d:=nu R e v xs (Y none 0 0) 0) fun T S ⟨vss,h1,h2⟩=>⟨vss,h1,h2,XD _,none,0,rfl,Xx _,by omega,fun h=>absurd h U⟩
 rw [lL Z hi] at h1;exact h1
theorem Nn {R:Rep α}{xs:List α}(i:Nat)(hi:L[i]? =some (nu R e v xs vw k)):Cv L (L.set i (bh R e v xs)):=fun Z w h=>by
 have h1:=h.weak (aU hi) (d:=bh R e v xs) fun T S h=>FA h
 rw [lL Z hi] at h1;exact h1
section
variable {d:Option Nat}
theorem P2 {R:Rep α}{t e sz:Nat}{z:Operand}{xs:List α}(i:Nat)(hi:L[i]? =some (nu R e v xs vw k))(hx:be s x=some v)(hu:P.underlying t=some (.slice e))(hs:kP P e sz=true)(hsz:R.sz=sz)(hh:be s y=some (.int .i64 (n:Int)))(hm:be s z=some (.int .i64 (n:Int)))(h1:n<=xs.length):OpX P s L ⟨d,.slice t x none (some y) (some z),ty,pos,af,gd⟩ fun u L'=> ∃A,u=.slice A n n/\L'=L.set i (nu R e v xs (.slice A n n) n):=fun ρ hρ Z w hw=>by
 have hw0:=hw;obtain ⟨T,S,hT⟩:=hw;obtain ⟨vss,g1,g2,g3⟩:=hT.ok (aU hi);obtain ⟨A,c,rfl,q1,q2, -⟩:=Jx _ _ _ (hT.ok (aU hi));have hrun:=GY (C:=fun _=>True) (d:=d) (ty:=ty) (pos:=pos) (af:=af) (gd:=gd) hx hu hs hh hm (Xx _) U ρ hρ w trivial;refine .inl ⟨_,w,L.set i (nu R e (.slice A xs.length c) xs (.slice (if n=0 then A else A.map (·.add 0)) n n) n),hrun,?_,_,J,J⟩
 have hfin:SepL ((L++Z).set i (nu R e (.slice A xs.length c) xs (.slice (if n=0 then A else A.map (·.add 0)) n n) n)) w:=by
  refine hw0.weak (aU hi) fun T S ⟨vss,g1,g2,g3⟩=>⟨vss,g1,g2,h1,_,_,J,Xx _,by omega,fun h0=> ?_⟩
  rw [if_neg U];rcases g2 with ⟨g2,g4⟩|⟨h9, -⟩
  ·rcases g2.2 with ⟨e1,h9⟩|⟨g,cap,cur,e1,p1,p2,p3,p4,p5,p6⟩
   ·omega
   injection e1 with e1 e2 e3
   subst e1;refine ⟨g,by simp [kc],g4 g rfl,Blk.lt (t:=e) (cs:=cur) p2,?_⟩;have h5:=me (cap:=cap) p2 p6;rw [<-Xm n vss,List.flatten_append] at h5;exact h5.left
  omega
 rw [lL Z hi] at hfin;exact hfin
theorem Ks {R:Rep α}{v2:Value}{xs ys:List α}{c2:Chunk}{sz by_:Nat}(i j:Nat)(hi:L[i]? =some (nu R e v xs vw k))(hj:L[j]? =some c2)(he:Gs R v2 ys c2)(hx:be s x=some v)(hy:be s y=some v2)(ht:P.underlying t=some (.slice e))(hz:ry P e sz by_=true)(hsz:R.sz=sz)(hby:Nat.ble by_ 127=true)(hb:xs.length+ys.length<=1099511627776):OpX P s L ⟨d,.call ⟨.builtin .append, #[x,y], #[t,t]⟩,ty,pos,af,gd⟩ fun u L'=> ∃A n c,u=.slice A n c/\L'=L.set i (nu R e (.slice A n c) (xs++ys) vw k):=fun ρ hρ Z w hw=>by
 have hbuilt:=fz (P:=P) (ρ:=ρ) (d:=d) (ty:=ty) (pos:=pos) (af:=af) (gd:=gd) (b:=.append) (xs:=[x,y]) (ats:= #[t,t]) (vs:=[v,v2]) (by simp [hρ x _ hx,hρ y _ hy]) w
 have hby':=Xw hby
 unfold ry at hz
 cases hinfo:P.info? e with
 |none=>rw [hinfo] at hz;cases hz
 | some inf=>
  rw [hinfo] at hz;simp only [XW] at hz;obtain ⟨⟨⟨q2,q3⟩,q4⟩,q5⟩:=hz
  cases hzz:inf.zero with
  |none=>rw [hzz] at q4;cases q4
  | some z=>
   rw [hzz] at q4;have e2:=Xu q2;have e3:=Xu q3;have e4:=Xu q4
   have e5:0<sz:=by have h6:1<=sz:=(by simpa [Nat.blt] using q5);omega
   have hsB:kP P e sz=true:=by unfold kP;rw [hinfo];exact q2
   subst hsz;have hw0:=hw;obtain ⟨T,S,hT⟩:=hw;have hc2:=hT.ok (aU hj);obtain ⟨vss1,g1,g2,g3,Aw,cw,rfl,g7,g5,g6⟩:=hT.ok (aU hi);obtain ⟨A1,cap1,rfl,p1,p2,p3⟩:=Jx _ _ _ (hT.ok (aU hi));obtain ⟨A2,cap2,rfl,k2,k3,k4⟩:=he _ _ _ hc2
   have hown0:xs.length=0\/ ∃g cur,A1=some ⟨g,0,none⟩/\w.heap[g]? =some (.cells cur e (0,0))/\(∃c0,cap1<=c0/\c0<=maxLen/\cur.size=c0*R.sz)/\cur.toList.take (xs.length*R.sz)=vss1.flatten/\T i g/\cap1<=maxLen:=by
    rcases g2 with ⟨g2,g4⟩|⟨h9, -⟩
    ·rcases g2.2 with ⟨-,h9⟩|⟨g,cap,cur,e1,r1,r2,r3,r4,r5,r6⟩
     ·exact .inl h9
     injection e1 with e1 e2 e3
     subst e1 e3;exact .inr ⟨g,cur,J,r2,r5,r6,g4 g J,r4⟩
    exact .inl h9
   have hlen1:=oo g1;rcases Xv ys.length with h0|h0
   ·-- nothing is appended
    have hys:ys=[]:=WD h0;subst hys;refine .inl ⟨.slice A1 xs.length cap1,w,L,?_,hw0,A1,_,cap1,J,?_⟩
    ·rw [hbuilt];simp only [builtin,XL]
     have r1':(Builtin.append_ #[t,t] ty [Value.slice A1 xs.length cap1,.slice A2 ([]:List α).length cap2].toArray).run P w=.ok (.slice A1 xs.length cap1) w:=by
      unfold Builtin.append_;simp only [WV,WM,WL];rw [XL,XR ht,XK]
      dsimp only
      rw [XL,kO hsB,XK];rw [XL,XR ht,XK]
      dsimp only
      rw [XL,XM,XK];simp only [Wk,if_false,Bool.not_false,if_true];have h1:(Builtin.lenOf (.slice A2 ([]:List α).length cap2)).run P w=.ok 0 w:=rfl;rw [XL,h1,XK];rw [if_pos U];rw [XL,W2,uw _ w A2 cap2,XK]
      cases A1 with
      |none=>rfl
      |some a=>simp [storeCells]
     rw [r1'];rfl
    apply WE;intro q;by_cases e:i=q
    ·subst e;rw [WT (WQ.1 hi).1,hi,Wv]
    rw [WS e]
   obtain ⟨b,o,vss2,rfl,k5,k6⟩:=k4 h0;have hm:(xs.length+ys.length)*by_<=140737488355328:=Xy (Nat.mul_le_mul hb hby') (by decide);have a6:=oo k5
   have hn2: ∀j u,vss2.flatten[j]? =some u->w.cell? ((⟨b,o,none⟩:Addr).add j)=some u:=fun j u hj=>by rw [kc];exact k6 j u hj
   have hlen:(vss1.flatten++vss2.flatten).length=(xs.length+ys.length)*R.sz:=by rw [XS,hlen1,a6,Xt]
   have hfl:vss1.flatten++vss2.flatten=(vss1++vss2).flatten:=by rw [List.flatten_append]
   -- the new row in new memory
   have fin: ∀(v':Value) (w':World),(Builtin.append_ #[t,t] ty #[.slice A1 xs.length cap1,.slice (some ⟨b,o,none⟩) ys.length cap2]).run P w=.ok v' w'->(∃A c,v'=.slice A (xs.length+ys.length) c)->ownsX w' e R.sz v' (xs.length+ys.length) (vss1.flatten++vss2.flatten)->Agr (fun q=> ¬T i q) w w'->(∀q,v'.ownBlock=some q->T i q\/w.heap.size<=q)->(0<k-> ∀b',Aw=some ⟨b',0,none⟩->CellsAt w b' 0 (vss1.take k).flatten->CellsAt w' b' 0 (vss1.take k).flatten)->
     ∃v w' L',(execOp ρ ⟨d,.call ⟨.builtin .append, #[x,y], #[t,t]⟩,ty,pos,af,gd⟩).run P w=.ok (.value v) w'/\Sp Z L' w'/\ ∃A n c,v=.slice A n c/\L'=L.set i (nu R e (.slice A n c) (xs++ys) (.slice Aw k cw) k):=by
    rintro v' w' r1 ⟨A',c',rfl⟩ r2 r3 hnew hvw;refine ⟨_,w',L.set i (nu R e (.slice A' (xs.length+ys.length) c') (xs++ys) (.slice Aw k cw) k),?_,?_,A',_,c',J,J⟩
    ·rw [hbuilt];simp only [builtin,XL];have r1':(Builtin.append_ #[t,t] ty [Value.slice A1 xs.length cap1,.slice (some ⟨b,o,none⟩) ys.length cap2].toArray).run P w=.ok (.slice A' (xs.length+ys.length) c') w':=r1;rw [r1'];rfl
    have hfin:SepL ((L++Z).set i (nu R e (.slice A' (xs.length+ys.length) c') (xs++ys) (.slice Aw k cw) k)) w':=by
     refine hT.upd (aU hi) (T':=fun q=>T i q\/(Value.slice A' (xs.length+ys.length) c').ownBlock=some q) r3 (fun q hq=>hq.elim .inl (hnew q)) (fun q hq=>hq.elim (fun hq=>Xz (hT.lt hq) r3.size) fun hq=>ownsX.lt r2 q hq) ?_
     have hS:Agr S w w':=r3.mono fun q hq hn=>hT.ro hn hq
     refine ⟨vss1++vss2,(g1.imp fun _ _=>R.loc hS).append (k5.imp fun _ _=>R.loc hS),.inl ⟨by rw [List.flatten_append,XS];exact r2,fun _ h=> .inr h⟩,by rw [XS];omega,Aw,cw,rfl,g7,g5,fun a8=> ?_⟩;obtain ⟨b',t1,t2,t3,t4⟩:=g6 a8;refine ⟨b',t1,.inl t2,Xz t3 r3.size,?_⟩;rw [List.take_append_of_le_length (by rw [g1.length];exact g3)];exact hvw a8 b' t1 t4
    rw [lL Z hi] at hfin;exact hfin
   have grown: ∀(old:Nat),let w':=w.drew.alloc (.cells (vss1.flatten.toArray++vss2.flatten.toArray++Builtin.zeroCells z.cells (grownCap w (xs.length+ys.length) old e - (xs.length+ys.length))) e)
     w'.ownsRow 0 e R.sz (.slice (some ⟨w.heap.size,0,none⟩) (xs.length+ys.length) (grownCap w (xs.length+ys.length) old e)) (xs.length+ys.length) (vss1.flatten++vss2.flatten)/\Agr (fun _=>True) w w':=by
    intro old;have hge:=grownCap_ge w (xs.length+ys.length) old e;have hcm:grownCap w (xs.length+ys.length) old e<=maxLen:=grownCap_le_maxLen w _ old e (by unfold maxLen;omega);refine ⟨⟨hlen,.inr ⟨w.heap.size,_,_,J,XD _,heap_alloc_new w.drew _,hge,hcm,?_,?_⟩⟩,⟨J,J,J,by simp,fun q hq _=>heap_alloc_old w.drew _ hq⟩⟩
    ·simp only [Array.size_append,List.size_toArray,size_zeroCells,e4,hlen1,a6, <-Xt]
     congr 1
     omega
    simp only [Array.toList_append,V3];rw [<-V3, <-hlen];exact List.take_left
   by_cases b0:xs.length=0
   ·-- the old slice has no elements
    have hv0:vss1.flatten=[]:=WD (by rw [hlen1,b0];simp)
    have a8:k=0:=by omega
    by_cases hroom:xs.length+ys.length<=cap1
    ·rcases g2 with ⟨g2,g4⟩|⟨-,A9,h9⟩
     ·rcases g2.2 with ⟨e1, -⟩|⟨g,cap,cur,e1,r1,r2,r3,r4,r5,r6⟩
      ·injection e1 with _ _ e1;omega
      injection e1 with e1 _ e3'
      subst e1 e3';obtain ⟨v',w',r1,r2,r3, -⟩:=Pq w inf z R.sz by_ (ty:=ty) ht hinfo hzz e2 e3 e4 e5 g2 ⟨b,o,none⟩ ys.length cap2 vss2.flatten a6 hn2 (Wu.1 (vM k5)) h0 (by unfold maxLen;omega) hm
      have hsh: ∃A c,v'=.slice A (xs.length+ys.length) c:=by
       rcases r2.2 with ⟨rfl,h9⟩|⟨g,cap,cur,rfl, -⟩
       ·omega
       exact ⟨_,_,J⟩
      exact .inl (fin v' w' r1 hsh r2 ⟨r3.os,r3.tape,r3.output,r3.size,fun q hq hn=>r3.block q hq fun e=>hn (g4 q e.symm)⟩ (fun q hq=>by
       rcases Hi ht r1 with h|⟨q',h,h'⟩
       ·rw [h] at hq;cases hq;exact .inl (g4 _ J)
       ·rw [h] at hq;cases hq;exact .inr h') fun h=>absurd h U)
     injection h9 with _ _ h9;omega
    -- new memory
    cases A1 with
    | none=>
     have hr:=run_append_nil (P:=P) w t ty e inf z ht hinfo hzz ⟨b,o,none⟩ ys.length cap2 vss2.flatten (by rw [e2];exact a6) hn2 h0 U (by rw [e3];have hm':ys.length*by_<=140737488355328:=Xy (XB _ U) hm;omega);have hgr:=grown 0
     have hcap0:cap1=0:=by
      rcases g2 with ⟨g2, -⟩|⟨-,A9,h9⟩
      ·rcases g2.2 with ⟨e1, -⟩|⟨g,cap,cur,e1, -⟩
       ·injection e1
       injection e1 with e1;cases e1
      injection h9
     simp only [b0,hcap0,hv0,XC,XX,Array.empty_append] at hgr fin⊢;exact .inl (fin _ _ hr ⟨_,_,J⟩ (.of hgr.1) (hgr.2.mono fun _ _=>trivial) (fun q hq=>by cases hq;exact .inr (Xx _)) fun h=>absurd h U)
    |some a1=>
     have hr:=run_append_grow (P:=P) w t ty e inf z ht hinfo hzz a1 xs.length cap1 [] (by rw [b0];simp) (fun j u hj=>by simp at hj) ⟨b,o,none⟩ ys.length cap2 vss2.flatten (by rw [e2];exact a6) hn2 U U (by rw [e3];exact growslice_fits U hm);have hgr:=grown cap1;rw [hv0] at hgr fin;exact .inl (fin _ _ hr ⟨_,_,J⟩ (.of hgr.1) (hgr.2.mono fun _ _=>trivial) (fun q hq=>by cases hq;exact .inr (Xx _)) fun h=>absurd h U)
   obtain ⟨g,cur,rfl,c1,c3,c4,c5,c6⟩:=hown0.resolve_left b0;have holds:CellsAt w g 0 vss1.flatten:=me (cap:=cap1) c1 c4;by_cases hroom:xs.length+ys.length<=cap1
   ·have hg2:ownsX w e R.sz (.slice (some ⟨g,0,none⟩) xs.length cap1) xs.length vss1.flatten:=⟨hlen1,.inr ⟨g,cap1,cur,rfl,XD _,c1,p1,c6,c3,c4⟩⟩;obtain ⟨c0,c7,c8,c9⟩:=c3
    have hfit:xs.length*inf.size+vss2.flatten.length<=cur.size:=by rw [a6,e2,c9, <-Xt];exact XB _ U
    have hr:=run_append_room (P:=P) w t ty e inf ht hinfo g xs.length cap1 cur c1 ⟨b,o,none⟩ ys.length cap2 vss2.flatten (by rw [e2];exact a6) hn2 (Wu.1 (vM k5)) hroom hfit;obtain ⟨v',w',r1,r2,r3, -⟩:=Pq w inf z R.sz by_ (ty:=ty) ht hinfo hzz e2 e3 e4 e5 hg2 ⟨b,o,none⟩ ys.length cap2 vss2.flatten a6 hn2 (Wu.1 (vM k5)) h0 (by unfold maxLen;omega) hm;have heq:=r1.symm.trans hr;simp only [Result.ok.injEq] at heq;obtain ⟨hv', -⟩:=heq;subst hv';refine .inl (fin _ w' r1 ⟨_,_,J⟩ r2 ⟨r3.os,r3.tape,r3.output,r3.size,fun q hq hn=>r3.block q hq fun e=>hn (by cases e;exact c5)⟩ (fun q hq=>by cases hq;exact .inl c5) fun a8 b' hb' hc=> ?_);by_cases hbg:b'=g
    ·subst hbg;rcases r2.2 with ⟨e9, -⟩|⟨g',cap',cur',e9, -,d2, -, -, -,d6⟩
     ·cases e9
     injection e9 with e9
     injection e9 with e9
     injection e9 with e9
     subst e9;have h5:CellsAt w' b' 0 (vss1.flatten++vss2.flatten):=me (cap:=cap') d2 d6;have h6:=h5.left;rw [<-Xm k vss1,List.flatten_append] at h6;exact h6.left
    intro j u hj;have:=hc j u hj
    have hlt:b'<w.heap.size:=by
     rcases XA b' w.heap.size with h|h
     ·exact h
     exfalso;rw [World.cell?,Wg (by exact h)] at this;cases this
    rw [<-this];exact World.cell?_of_block (r3.block b' hlt fun e=>hbg (by cases e;rfl))
   have hr:=run_append_grow (P:=P) w t ty e inf z ht hinfo hzz ⟨g,0,none⟩ xs.length cap1 vss1.flatten (by rw [e2];exact hlen1) (fun j u hj=>by rw [kc];exact holds j u hj) ⟨b,o,none⟩ ys.length cap2 vss2.flatten (by rw [e2];exact a6) hn2 U U (by rw [e3];exact growslice_fits U hm);have hgr:=grown cap1;refine .inl (fin _ _ hr ⟨_,_,J⟩ (.of hgr.1) (hgr.2.mono fun _ _=>trivial) (fun q hq=>by cases hq;exact .inr (Xx _)) fun a8 b' hb' hc=> ?_);obtain ⟨b'',t1,t2,t3,t4⟩:=g6 a8
   have hbb:b''=b':=by rw [t1] at hb';injection hb' with hb';injection hb'
   subst hbb;exact hc.agr hgr.2 trivial t3
end
end
section
open Go.RowKit
def NY (p:Prop):Chunk where
 ok _ _ _:=p
 loc:=fun _ h=>h
 mono:=fun _ h=>h
 ro:=true
 dup:=fun _ _ _ _ h=>h
theorem PN {w:World}{p:Prop}(h:Sp Z L w)(i:Nat)(hi:L[i]? =some (NY p)):p:=by
 obtain ⟨T,S,h⟩:=h.get (aU hi);exact h
theorem LH {p:Prop}(hp:p):Cv L (NY p::L):=fun Z w h=>SepL.fact0 h fun _=>hp
inductive Rch (ops:Array Oper):Nat->Nat->Prop
 |one {j:Nat} {o:Oper} {e:Edge}:ops[j]? =some o->e∈o.after->Region.binds .any e=true->Rch ops j e.on
 |more {j k:Nat} {o:Oper} {e:Edge}:Rch ops j k->ops[k]? =some o->e∈o.after->Region.binds .any e=true->Rch ops j e.on
def Er (ops:Array Oper)(listed:Array Bool):Prop:= ∀k o e,listed.getD k false=true->ops[k]? =some o->e∈o.after->Region.binds .any e=true->listed.getD e.on false=true
theorem At (hc:Er ops listed)(hr:j∈Region.ready .any ops listed)(h:Rch ops j i):listed.getD i false=true:=by
 induction h with
 |one ho he hb=>obtain ⟨_,o',ho',hall⟩:=mem_ready.1 hr;rw [ho] at ho';cases ho';exact hall _ he hb
 |more _ ho he hb ih=>exact hc _ _ _ ih ho he hb
theorem uv (h:(listed.setIfInBounds i true).getD k false=true):k=i\/listed.getD k false=true:=by
 by_cases e:i=k
 ·exact .inl e.symm
 rw [getD_set_ne false e] at h;exact .inr h
theorem KS (hc:Er ops listed)(hr:j∈Region.ready .any ops listed):Er ops (listed.setIfInBounds j true):=by
 intro k o e hk ho he hb;rcases uv hk with e1|hk
 ·subst e1;obtain ⟨_,o',ho',hall⟩:=mem_ready.1 hr;rw [ho] at ho';cases ho';exact getD_set_true (hall _ he hb)
 exact getD_set_true (hc _ _ _ hk ho he hb)
def BD (ops:Array Oper)(k:Nat):List Nat:=match ops[k]? with
 |some o=>(o.after.toList.filter (Region.binds .any)).map (·.on)
 |none=> []
def NL (ops:Array Oper)(R:List Nat)(k:Nat):List Nat:=if R.contains k then BD ops k++R else R
def CN (ops:Array Oper)(t:Nat):List Nat:=(List.range t).reverse.foldl (NL ops) (BD ops t)
theorem E7 {x:Nat}(h:x∈BD ops k): ∃o e,ops[k]? =some o/\e∈o.after/\Region.binds .any e=true/\e.on=x:=by
 unfold BD at h;split at h
 ·rename_i o ho
  obtain ⟨e,he,rfl⟩:=Xc.1 h;obtain ⟨h1,h2⟩:=Xb.1 he;exact ⟨o,e,ho,by simpa using h1,h2,rfl⟩
 cases h
theorem xV {t:Nat}: ∀x∈CN ops t,Rch ops t x:=by
 unfold CN
 have key: ∀(l:List Nat) (R:List Nat),(∀x∈R,Rch ops t x)-> ∀x∈l.foldl (NL ops) R,Rch ops t x:=by
  intro l
  induction l with
  |nil=>intro R h;exact h
  | cons k l ih=>
   intro R h
   refine ih _ fun x hx=> ?_
   unfold NL at hx;split at hx
   ·rename_i hk
    rcases W8.1 hx with h1|h1
    ·obtain ⟨o,e,ho,he,hb,rfl⟩:=E7 h1;exact .more (h k (by simpa using hk)) ho he hb
    exact h x h1
   exact h x hx
 refine key _ _ fun x hx=> ?_
 obtain ⟨o,e,ho,he,hb,rfl⟩:=E7 hx;exact .one ho he hb
def OpAt (P:Program)(ρ:Operand->Value)(o:Oper)(R:Value->Wa->Prop)(Z:Wa)(w:World):Prop:=
  (∃v w' L',(execOp ρ o).run P w=.ok (.value v) w'/\Sp Z L' w'/\R v L')\/
  (∃w' L',(execOp ρ o).run P w=.ok .skip w'/\Sp Z L' w'/\R undef L')\/
  (∃f args,(execOp ρ o).run P w=.ok (.enter f args) w/\Calls P f args w fun e w'=> ∃v L',e=.returned v/\Sp Z L' w'/\R v L')\/
  (∃l f tmps assign body,(execOp ρ o).run P w=.ok (.round l f tmps assign body) w/\RoundIn Fence.wide 0 P l f tmps assign body w fun e w'=> ∃v L',e=.returned v/\Sp Z L' w'/\R v L')
def Iq (X:Cx)(ops:Array Oper)(K:K3)(fuel:Nat)(listed:Array Bool)(s:bA)(L:Wa):Prop:= ∀(H:Wa) (Ds:List Nat) (a:Act) (w:World),Fx X s a->a.defers=Ds.map xb->Sp (Ds.map cc++H) L w->wpAnyIn (D5 X.r) 0 X.P .any ops (yP X H (z7 K)) fuel listed a w
section
variable {d:Nat}{op:Op}
theorem lh (hr:Region.ready .any ops listed=[])(h:K .normal s L):Iq X ops K fuel listed s L:=by
 intro H Ds a w ha hds hw;have hq:yP X H (z7 K) .normal a w:=⟨s,L,Ds,ha,hds,hw,rfl,h⟩
 cases fuel with
 |zero=>exact ⟨hr,hq⟩
 |succ n=>exact ⟨fun _=>hq,by rw [hr];simp⟩
theorem nB {t:bA}(h:Iq X ops K fuel listed t L')(hs:AV s t)(hl:Cv L L'):Iq X ops K fuel listed s L:=fun H Ds a w ha hds hw=>h H Ds a w (ha.sub hs) hds (hl _ _ hw)
theorem TE (i:Nat)(hi:ops[i]? =some o)(hr:Region.ready .any ops listed=[i])(h:OpX X.P s L o R)(hn:eF o=true)(hg:aA ops s o=some true)(hd:G8 X.n o.dst=true)(k:∀v L',R v L'->Iq X ops K fuel (listed.setIfInBounds i true) (putE o.dst v s) L'):Iq X ops K (fuel+1) listed s L:=
 fun H Ds a w ha hds hw=>⟨fun h=>absurd (hr.symm.trans h) (by simp),fun j hj=>by
  rw [hr,Xf] at hj;subst hj;unfold wpOpIn;rw [hi];simp only [eG ha hg,if_true]
  exact h.wpIn hn ha hw fun v L' w' h1 h2=>k v L' h1 H Ds _ _ (ha.putE v hd) ((put_defers _ _ _).trans hds) h2⟩
theorem qu (i:Nat)(hi:ops[i]? =some ⟨some d,op,ty,pos,af,gd⟩)(hr:Region.ready .any ops listed=[i])(h:OpX X.P s L ⟨some d,op,ty,pos,af,gd⟩ R)(hn:eF ⟨some d,op,ty,pos,af,gd⟩=true)(hg:aA ops s ⟨some d,op,ty,pos,af,gd⟩=some true)(hd:Nat.ble (d+1) X.n=true)(k:∀v L',R v L'->Iq X ops K fuel (listed.setIfInBounds i true) ((d,v)::s) L'):Iq X ops K (fuel+1) listed s L:=TE i hi hr h hn hg hd k
theorem r7 (i:Nat)(hi:ops[i]? =some ⟨none,op,ty,pos,af,gd⟩)(hr:Region.ready .any ops listed=[i])(h:OpX X.P s L ⟨none,op,ty,pos,af,gd⟩ R)(hn:eF ⟨none,op,ty,pos,af,gd⟩=true)(hg:aA ops s ⟨none,op,ty,pos,af,gd⟩=some true)(k:∀v L',R v L'->Iq X ops K fuel (listed.setIfInBounds i true) s L'):Iq X ops K (fuel+1) listed s L:=TE i hi hr h hn hg rfl k
theorem D4 (i:Nat)(hi:ops[i]? =some ⟨some d,op,ty,pos,af,gd⟩)(hr:Region.ready .any ops listed=[i])(h:Ev X.P s (fun _=>True) ⟨some d,op,ty,pos,af,gd⟩ v)(hn:eF ⟨some d,op,ty,pos,af,gd⟩=true)(hg:aA ops s ⟨some d,op,ty,pos,af,gd⟩=some true)(hd:Nat.ble (d+1) X.n=true)(k:Iq X ops K fuel (listed.setIfInBounds i true) ((d,v)::s) L):Iq X ops K (fuel+1) listed s L:=qu i hi hr (N7 h) hn hg hd fun _ _ ⟨e1,e2⟩=>by subst e1 e2;exact k
theorem JT (i:Nat)(hi:ops[i]? =some ⟨some d,op,ty,pos,af,gd⟩)(hr:Region.ready .any ops listed=[i])(h:Rd X.P s L ⟨some d,op,ty,pos,af,gd⟩ v)(hn:eF ⟨some d,op,ty,pos,af,gd⟩=true)(hg:aA ops s ⟨some d,op,ty,pos,af,gd⟩=some true)(hd:Nat.ble (d+1) X.n=true)(k:Iq X ops K fuel (listed.setIfInBounds i true) ((d,v)::s) L):Iq X ops K (fuel+1) listed s L:=qu i hi hr (vT h) hn hg hd fun _ _ ⟨e1,e2⟩=>by subst e1 e2;exact k
end
def F4 (m:Nat)(listed:Array Bool):List Nat:=(List.range m).filter fun i=>listed.getD i false
def SX (ops:Array Oper)(m:Nat)(qs ds:List Nat)(pr:List (List Nat))(s:bA)(n:Nat):Bool:=
 Region.noSelect ops&&qs.all (fun q=>(match ops[q]? with|some o=>(List.range ops.size).all fun j=>Nat.beq j q||(BD ops j).contains q||(CN ops q).contains j||(match ops[j]? with|some oj=>o.apart ops oj|none=>true)|none=>false))&&Og ops&&decide (m<=ops.size)&&decide (ds.length=m)&&decide ds.Nodup&&ds.all (fun d=>Nat.ble (d+1) n&&s.all fun p=> !Nat.beq p.1 d)
 &&(List.range m).all (fun i=>(match ops[i]? with|some o=>o.dst==ds[i]? |none=>false)&&(pr.getD i []).all (fun k=>(CN ops i).contains k&&Nat.blt k m)&&decide (pr.getD i []).Nodup&&(BD ops i).all fun k=>Nat.blt k i)
 &&(List.range ops.size).all (fun t=>Nat.blt t m||(List.range m).all fun i=>qs.contains i||(CN ops t).contains i)
def Gm (ds:List Nat)(val:Nat->Value)(ix:List Nat)(s:bA):bA:=ix.map (fun i=>(ds.getD i 0,val i))++s
def DJ (As:List (Value->Wa))(val:Nat->Value)(ix:List Nat)(L:Wa):Wa:=(ix.flatMap fun i=>(As.getD i fun _=> []) (val i))++L
theorem BM: ∀(a b:bA) (k:Nat) (v:Value),jq (a++b) k=some v->jq a k=some v\/(jq b k=some v)
 | [],_,_,_,h=> .inr h
 |(d,u)::a,b,k,v,h=>by
  rw [Wy,kX] at h;rw [kX];split at h
  ·rename_i e;rw [if_pos e];exact .inl h
  rename_i e
  rw [if_neg e];exact BM a b k v h
theorem wb: ∀(a:bA) (k:Nat) (v:Value),jq a k=some v->(k,v)∈a
 | [],_,_,h=>by cases h
 |(d,u)::a,k,v,h=>by
  rw [kX] at h;split at h
  ·rename_i e;cases h;subst e;simp
  simp [wb a k v h]
theorem OpAt.wpIn {w:World}(h:OpAt X.P a.eval o R Z w)(hn:eF o=true){K:Act->World->Prop}(hK:∀v L' w',R v L'->Sp Z L' w'->K (a.put o.dst v) w'):o.wpIn (D5 X.r) 0 X.P a w K Q:=by
 refine ⟨fun _ _=>trivial,?_⟩
 have e:o.semAt (D5 X.r).round a.eval=execOp a.eval o:=Oper.semAt_eq _ _ _ fun c hc=>by unfold eF at hn;rw [hc] at hn;cases hn
 rw [e];rcases h with ⟨v,w',L',h1,h2,h3⟩|⟨w',L',h1,h2,h3⟩|⟨f,args,h1,h2⟩|⟨l,f,tmps,assign,body,h1,h2⟩
 ·rw [h1];exact hK _ _ _ h3 h2
 ·rw [h1];exact hK _ _ _ h3 h2
 ·rw [h1];refine ⟨(by intro h;cases h),?_⟩;have h3:CallsIn (D5 X.r) (0 - 1) X.P f args w _:=callsIn_wide.2 h2;refine h3.mono ?_;rintro e w' ⟨v,L',rfl,h4,h5⟩;exact hK _ _ _ h5 h4
 rw [h1];refine ⟨(by intro h;cases h),?_⟩;have h3:RoundIn (D5 X.r) (0 - 1) X.P l f tmps assign body w _:=h2;refine h3.mono ?_;rintro e w' ⟨v,L',rfl,h4,h5⟩;exact hK _ _ _ h5 h4
theorem nb: ∀(ix:List Nat) (l:Array Bool),(pE l ix).size=l.size
 | [],_=>rfl
 |i::ix,l=>by show (pE (l.setIfInBounds i true) ix).size=_;rw [nb ix];simp
theorem Ao: ∀(ix:List Nat) (l:Array Bool) (k:Nat),k<l.size->(pE l ix).getD k false=(l.getD k false||ix.contains k)
 | [],_,_,_=>by simp [pE]
 | i::ix,l,k,hk=>by
  show (pE (l.setIfInBounds i true) ix).getD k false=_;rw [Ao ix _ k (by simpa using hk)];by_cases e:i=k
  ·subst e;simp [hk]
  rw [getD_set_ne false e];simp [show¬k=i from fun h=>e h.symm]
theorem pY:i∈F4 m listed↔i<m/\listed.getD i false=true:=by unfold F4;simp
theorem lst_nodup:(F4 m listed).Nodup:=List.nodup_range.filter _
theorem En {As:List (Value->Wa)}{val:Nat->Value}{a b:List Nat}(h:a.Perm b):(a.flatMap fun i=>(As.getD i fun _=> []) (val i)).Perm (b.flatMap fun i=>(As.getD i fun _=> []) (val i)):=h.flatMap_right _
theorem Ps {r:Option Nat}: ∀(fuel:Nat) (listed:Array Bool) (a:Act) (w:World),wpAnyIn (D5 r) 0 P .any ops Q fuel listed a w->Ho r P ops Q (fun _=>True) fuel listed a w
 |0,_,_,_,h=>h
 |fuel+1,listed,a,w,h=>⟨h.1,fun i hi=>wpOpIn_mono (fun a w hh=> .inl ⟨trivial,Ps fuel _ a w hh⟩) (h.2 i hi)⟩
def QS (P:Program)(ops:Array Oper)(s:bA)(L:Wa)(o:Oper)(A:Value->Wa):Prop:= ∀Z w,Sp Z L w-> ∃v,aA ops s o=some true/\Ev P s (fun _=>True) o v/\Sp Z (A v++L) w
def UM (P:Program)(ops:Array Oper)(s:bA)(L L0:Wa)(o:Oper)(A:Value->Wa):Prop:= ∀Z w,Sp Z L w-> ∃v,aA ops s o=some true/\Ev P s (fun _=>True) o v/\Sp Z (A v++L0) w
theorem py {A:Value->Wa}(h:Ev P s (fun _=>True) o v)(hg:aA ops s o=some true)(k:Cv L (A v++L0)):UM P ops s L L0 o A:=fun _ _ hw=>⟨v,hg,h,k _ _ hw⟩
theorem di: ∀(i:Nat) (o:Oper),i<0->ops[i]? =some o->p i o:=fun i o h=>by omega
theorem aH (ho:ops[n]? =some o')(h2:p n o')(h1:∀(i:Nat) (o:Oper),i<n->ops[i]? =some o->p i o): ∀(i:Nat) (o:Oper),i<n+1->ops[i]? =some o->p i o:=fun i o hi h=>by
 by_cases e:i=n
 ·subst e;rw [ho] at h;cases h;exact h2
 exact h1 i o U h
theorem kT: ∀q∈([]:List Nat), ∀(o:Oper),q<m->ops[q]? =some o->p q o:=fun q h=>by cases h
theorem gZ (ho:ops[q']? =some o')(h2:p q' o')(h1:∀q∈qs, ∀(o:Oper),q<m->ops[q]? =some o->p q o): ∀q∈q'::qs, ∀(o:Oper),q<m->ops[q]? =some o->p q o:=fun q hq o hm h=>by
 rcases W9.1 hq with e|hq
 ·subst e;rw [ho] at h;cases h;exact h2
 exact h1 q hq o hm h
def Rp (P:Program)(ops:Array Oper)(s:bA)(L L0:Wa)(o:Oper)(A:Value->Wa):Prop:= ∀Z w,Sp Z L w->(aA ops s o=some true/\ ∀ρ:Operand->Value,(∀x u,be s x=some u->ρ x=u)->OpAt P ρ o (fun u L'=>Cv L' (A u++L0)) Z w)\/(aA ops s o=some false/\Sp Z (A undef++L0) w)
section
variable {A:Value->Wa}
theorem xr (h:OpX P s L o R)(hg:aA ops s o=some true)(k:∀u L',R u L'->Cv L' (A u++L0)):Rp P ops s L L0 o A:=fun Z w hw=> .inl ⟨hg,fun ρ hρ=>by
 rcases h ρ hρ Z w hw with ⟨v,w',L',h1,h2,h3⟩|⟨w',L',h1,h2,h3⟩|⟨f,args,h1,h2⟩|⟨l,f,t,a,b,h1,h2⟩
 ·exact .inl ⟨v,w',L',h1,h2,k _ _ h3⟩
 ·exact .inr (.inl ⟨w',L',h1,h2,k _ _ h3⟩)
 ·exact .inr (.inr (.inl ⟨f,args,h1,h2.mono fun e w' ⟨v,L',g1,g2,g3⟩=>⟨v,L',g1,g2,k _ _ g3⟩⟩))
 ·exact .inr (.inr (.inr ⟨l,f,t,a,b,h1,h2.mono fun e w' ⟨v,L',g1,g2,g3⟩=>⟨v,L',g1,g2,k _ _ g3⟩⟩))⟩
theorem UL (h:Ev P s (fun _=>True) o v)(hg:aA ops s o=some true)(k:Cv L (A v++L0)):Rp P ops s L L0 o A:=xr (N7 h) hg fun u L' ⟨e1,e2⟩=>by subst e1 e2;exact k
theorem wk (h:Rd P s L o v)(hg:aA ops s o=some true)(k:Cv L (A v++L0)):Rp P ops s L L0 o A:=xr (vT h) hg fun u L' ⟨e1,e2⟩=>by subst e1 e2;exact k
end
def pb (u:Value):Nat:=match u with| .pointer (some a)=>a.block|_=>0
end
section
open Go.RowKit
section
variable {d:Option Nat}
theorem Mh (ht:P.underlying t=some (.slice e))(A:Option Addr)(n c:Nat)(w:World):(Op.equal t (.slice A n c) (Y none 0 0)).run P w=.ok A.isNone w:=by
 show (Op.equalIn (9999+1) t (.slice A n c) (Y none 0 0)).run P w=_;unfold Op.equalIn;rw [XL,XR ht,XK];cases A<;>rfl
theorem Ju {A:Option Addr}{c:Nat}(hx:be s x=some (.slice A n c))(ht:P.underlying t=some (.slice e)):Ev P s C ⟨d,.binOp .eql t x (.const (Y none 0 0)) u,ty,pos,af,gd⟩ (.bool A.isNone):=
 fD hx rfl fun w=>by
  rw [XL];show (binOp .eql t (.slice A n c) (Y none 0 0)).run P w=_;have h1:(Op.equal t (.slice A n c) (Y none 0 0)).run P w=.ok A.isNone w:=Mh ht A n c w;simp only [binOp,XL,h1,XK];rfl
theorem Sm {k k2:IntKind}{a b:Int}(hx:be s x=some (.int k a))(hy:be s y=some (.int k b))(ht:P.underlying t=some (.int k2))(hu:P.underlying u=some (.int k2)):Ev P s C ⟨d,.call ⟨.builtin .min, #[x,y], #[t,u]⟩,ty,pos,af,gd⟩ (.int k (min a b)):=fun ρ hρ w _=>by
 rw [fz (P:=P) (ρ:=ρ) (xs:=[x,y]) (vs:=[.int k a,.int k b]) (by simp [hρ x _ hx,hρ y _ hy]) w]
 have e:(if b<a then b else a)=min a b:=by rw [Int.min_def];split<;>split<;>omega
 cases k<;>simp [builtin,Builtin.min_,Builtin.min2,e]
theorem Sn {k k2:IntKind}{a b:Int}(hx:be s x=some (.int k a))(hy:be s y=some (.int k b))(ht:P.underlying t=some (.int k2))(hu:P.underlying u=some (.int k2)):Ev P s C ⟨d,.call ⟨.builtin .max, #[x,y], #[t,u]⟩,ty,pos,af,gd⟩ (.int k (max a b)):=fun ρ hρ w _=>by
 rw [fz (P:=P) (ρ:=ρ) (xs:=[x,y]) (vs:=[.int k a,.int k b]) (by simp [hρ x _ hx,hρ y _ hy]) w]
 have e:(if a<b then b else a)=max a b:=by rw [Int.max_def];split<;>split<;>omega
 cases k<;>simp [builtin,Builtin.max_,Builtin.max2,e]
theorem zu (hx:be s x=some (Y none 0 0))(ht:P.underlying t=some (.slice e)):Ev P s C ⟨d,.call ⟨.builtin .cap, #[x], #[t]⟩,ty,pos,af,gd⟩ (.int .i64 0):=fun ρ hρ w _=>by
 rw [fz (P:=P) (ρ:=ρ) (xs:=[x]) (vs:=[Y none 0 0]) (by simp [hρ x _ hx]) w];simp [builtin,Builtin.cap_,XR ht,goInt]
end
theorem OI {G:Wa}{en:α->Wb}{ev:β->Value}{φ:α->Option β}(h:K1 P v G en ev φ):v.cells.toList=[v]:=by obtain ⟨_,f,bs,caps,rfl,_⟩:=h;rfl
theorem Cq {a b:ByteArray}:a.toList=b.toList↔a=b:=by
 constructor
 ·intro h;rw [ByteArray.toList_eq,ByteArray.toList_eq] at h;exact WideShapes.bytes_inj h
 rintro rfl;rfl
theorem Rt {cd:Code}{R:Rep α}{A:Option Addr}{c:Nat}{xs:List α}{ch:Chunk}(i:Nat)(hi:L[i]? =some ch)(he:Gs R (.slice A n c) xs ch)(hA:A.isNone=true)(k:xs=[]->Wq X cd K s L):Wq X cd K s L:=fun H Ds a w ha hd hw=>by
 obtain ⟨T,S,h⟩:=hw.get (aU hi);obtain ⟨A',cap,e,h1,h2,h3⟩:=he _ _ _ h
 have hx:xs=[]:=by
  rcases Xv xs.length with h0|h0
  ·exact WD h0
  obtain ⟨b,o,vss,e2, -⟩:=h3 h0
  injection e with e
  rw [e,e2] at hA;cases hA
 exact k hx H Ds a w ha hd hw
section
variable {d:Option Nat}
theorem gx {rest:Wa}(hc:Okc P f us pre R)(hx:be s x=some (.func (.func f) #[] caps))(hv:DE s xs=some vs)(hu:vs++caps.toList=us)(hL:Cv L (pre++rest)):OpX P s L ⟨d,.call ⟨.value x,xs.toArray,ats⟩,ty,pos,af,gd⟩ fun u L'=> ∃post,R u post/\L'=post++rest:=fun ρ hρ Z w hw=>by
 subst hu;refine .inr (.inr (.inl ⟨f,_,yZ hc.cal (nL hρ hv) (hρ _ _ hx),?_⟩))
 have h1:Sp (rest++Z) pre w:=by have:=hL Z w hw;unfold Sp at*;simpa only [V3] using this
 refine (hc.run _ w h1).mono ?_;rintro e w' ⟨v,post,rfl,h2,h3⟩;exact ⟨v,post++rest,J,by unfold Sp at*;simpa only [V3] using h2,post,h3,rfl⟩
theorem iS (hc:Okc P f us pre R)(hx:be s x=some (.func (.func f) #[] caps))(hv:DE s xs=some vs)(hu:vs++caps.toList=us)(hp:∀c∈pre,wP L c)(hfr:∀v post,R v post-> ∀c∈post,mT c):OpX P s L ⟨d,.call ⟨.value x,xs.toArray,ats⟩,ty,pos,af,gd⟩ fun u L'=> ∃post,R u post/\L'=post++L:=fun ρ hρ Z w hw=>by
 subst hu;refine .inr (.inr (.inl ⟨f,_,yZ hc.cal (nL hρ hv) (hρ _ _ hx),?_⟩));refine (Fa hc hp hfr Z w hw).mono ?_;rintro e w' ⟨v,post,rfl,h2,h3⟩;exact ⟨v,post++L,J,h2,post,h3,J⟩
end
theorem MR {R:Rep α}{xs:List α}(hi:L[i]? =some (nu R e v xs vw k)):wP L (iD R v xs):=fun T S w h=>by
 obtain ⟨vss,h1,h2⟩:=FA (h.ok hi);rcases h2 with ⟨h2, -⟩|⟨h0,A,rfl⟩
 ·rcases h2.2 with ⟨rfl,h0⟩|⟨g,cap,cur,rfl,g1,g2,g3,g4,g5,g6⟩
  ·exact ⟨none,0,by rw [h0],by omega,by omega,fun h=>absurd h U⟩
  exact ⟨_,cap,J,g3,by unfold maxLen at g4;omega,fun _=>⟨g,0,vss,rfl,Blk.lt (t:=e) (cs:=cur) g2,Blk.lt (t:=e) (cs:=cur) g2,h1.imp fun _ _=>R.mono fun _ hq=>h.lts hq,me (cap:=cap) g2 g6⟩⟩
 exact ⟨A,0,by rw [h0],by omega,by omega,fun h=>absurd h U⟩
end
section
open Go.RowKit
def wj {σ:Type}(P:Program)(l:Nat)(G:σ->Wa)(Q:α->Wb->Wa->Prop)(φ:α->σ->Option (Bool×σ)):Prop:=
 ∀x σ₁ b σ₂,φ x σ₁=some (b,σ₂)-> ∀vs cs,Q x vs cs-> ∀Z w,Sp Z (cs++G σ₁) w-> ∃fn tmps assign body,(Instr.yield l vs.toArray).run P w=.ok (.round l fn tmps assign body) w/\RoundIn Fence.wide 0 P l fn tmps assign body w fun e w'=>e=.returned (.bool b)/\Sp Z (G σ₂) w'
section
variable {d:Option Nat}
theorem GM {σ:Type}{l:Nat}{G:σ->Wa}(E:Wa){Q:α->Wb->Wa->Prop}{φ:α->σ->Option (Bool×σ)}{a:α}{σ₁:σ}{y:Bool×σ}{cs:Wa}(hY:wj P l G Q φ)(hr:φ a σ₁=some y)(hx:be s x=some (.func (.yield l) #[] #[]))(hv:DE s xs=some vs)(hq:Q a vs cs)(hd:Cv (E++G σ₁) (cs++(E++G σ₁))):OpX P s (E++G σ₁) ⟨d,.call ⟨.value x,xs.toArray,ats⟩,ty,pos,af,gd⟩ fun u L'=>u=.bool y.1/\L'=E++G y.2:=fun ρ hρ Z2 w hw=>by
 obtain ⟨b,σ₂⟩:=y;have h0:=hd Z2 w hw
 have h1:Sp (E++Z2) (cs++G σ₁) w:=by
  have h2:SepL ((cs++(E++G σ₁))++Z2) w:=h0;refine SepL.perm h2 ?_;simp only [V3];exact List.Perm.append_left cs (Xi _ _ _)
 obtain ⟨fn,tmps,assign,body,h2,h3⟩:=hY a σ₁ b σ₂ hr vs cs hq _ w h1;refine .inr (.inr (.inr ⟨l,fn,tmps,assign,body,?_,?_⟩))
 ·unfold execOp;simp only [resolve,hρ x _ hx,Deferred.ofValue,W7,nL hρ hv];simp only [invoke,XL,XM,XK];simpa using h2
 refine h3.mono ?_;rintro e w' ⟨rfl,h4⟩;refine ⟨_,_,J,?_,J,J⟩;have h5:SepL (G σ₂++(E++Z2)) w':=h4;refine SepL.perm h5 ?_;simp only [V3];exact Xi _ _ _
end
theorem Nw {Q:ι->Wa}(cs:Wa)(h:∀x,Wq X c K s (cs++Q x)):Wq X c K s (cs++ [dO Q]):=fun H Ds a w ha hd hw=>by
 have h1:Sp (cs++(Ds.map cc++H)) [dO Q] w:=by
  refine SepL.perm hw ?_;simp only [V3];exact Xi _ _ _
 obtain ⟨x,hx⟩:=kK h1
 have h2:Sp (Ds.map cc++H) (cs++Q x) w:=by
  refine SepL.perm hx ?_;simp only [V3,XX];exact Xi _ _ _
 exact h x H Ds a w ha hd h2
theorem Nx {σ:Type}{Q:α->Wb->Wa->Prop}(φ:α->σ->Option (Option Exit×σ))(E:σ->Wa)(pre:Wa)(σ₀:σ){σr:σ}(hr:X.r=none)(hg:be s g=some (.func (.func gf) #[] caps))(hf:qn X.P gf)(hps:ps.all (fun p=>Nat.ble (p+1) X.n)=true)(hen:∀x vs cs,Q x vs cs->vs.length=ps.length)(hit:∀l (G:(Option Exit×σ)->Wa),wj X.P l G Q (cM φ)->Okc X.P gf (.func (.yield l) #[] #[]::caps.toList) (pre++G (none,σ₀)) fun _ post=>post=G (je,σr))(hL:Cv L (pre++E σ₀))(hbody:∀l x σ₁ je' σ₂,φ x σ₁=some (je',σ₂)-> ∀vs cs,Q x vs cs->Wq ⟨X.P,X.n,some l⟩ assign (nx (fun s1 L1=>Wq ⟨X.P,X.n,some l⟩ body (RK je' (E σ₂)) s1 L1) fun _ _ _=>False) (Cl ps vs s) (cs++E σ₁))(hdone:je=none->K .normal s (E σr))(hleft:∀e,je=some e->(wL e).isSome=true/\K e s (E σr)):
  Wq X (.rangeFunc g ps.toArray assign body) K s L:=by
 intro H Ds a w ha hds hw;obtain ⟨P,n,r⟩:=X;simp only at hr hf hps hit hbody;subst hr;refine wpIn_rangeFunc ?_;intro fn hfn;have hev:a.eval g=.func (.func gf) #[] caps:=ha.eval hg
 obtain ⟨rec_,hrec⟩: ∃rec_:Option Exit->LoopState->Loop,rec_=fun j st=>{state:=st,pending:=j.bind wL,fn,tmps:=a.tmps,params:=ps.toArray,assign,body,defers:=w.heap.size}:=⟨_,rfl⟩
 obtain ⟨stOf,hst⟩: ∃stOf:Option Exit->LoopState,stOf=fun j=>if j.isNone then .ready else .done:=⟨_,rfl⟩
 obtain ⟨l,hl⟩: ∃l,l=w.heap.size+1:=⟨_,rfl⟩;obtain ⟨W1,hW1⟩: ∃W1,(w.alloc (.deferred (some []))).alloc (.loop (rec_ none .ready))=W1:=⟨_,rfl⟩
 have hY:wj P l (fun q=>lR l (rec_ q.1 (stOf q.1))::E q.2) Q (cM φ):=by
  rintro x ⟨j₁,σ₁⟩ b ⟨j₂,σ₂⟩ hx vs cs hq Z w1 hw1;unfold cM at hx
  cases j₁ with
  |some e=>cases hx
  | none=>
   simp only at hx
   cases hφ:φ x σ₁ with
   |none=>rw [hφ] at hx;cases hx
   | some y=>
    rw [hφ] at hx;simp only [XG,XI,Prod.mk.injEq] at hx;obtain ⟨hb,hy⟩:=hx;subst hb hy
    have h0:SepL (cs++(lR l (rec_ none .ready)::(E σ₁++Z))) w1:=by
     have:stOf none=.ready:=by rw [hst];rfl
     simp only [this] at hw1;unfold Sp at hw1;simpa only [V3,Wy] using hw1
    have a8:=uN h0;have hy:=run_yield (P:=P) (args:=vs.toArray) a8 (by rw [hrec];simp [hen x vs cs hq]);refine ⟨_,_,_,_,hy,roundIn_of_wpIn (F:=Fence.wide) trivial ?_⟩
    have hfx:Fx ⟨P,n,some l⟩ (Cl ps vs s) ⟨((rec_ none .ready).params.zip vs.toArray).foldl (fun t (p:Nat×Value)=>t.setIfInBounds p.1 p.2) (rec_ none .ready).tmps,[]⟩:=by
     have h1:=H4 (X:=⟨P,n,some l⟩) (ds:=[]) (ps.zip vs) s a.tmps (by
      rw [Wu] at hps⊢;intro p hp
      exact hps p.1 (List.of_mem_zip hp).1) ⟨ha.size,ha.at_⟩
     have e:(((rec_ none .ready).params.zip vs.toArray).foldl (fun t (p:Nat×Value)=>t.setIfInBounds p.1 p.2) (rec_ none .ready).tmps)=(ps.zip vs).foldl (fun t (p:Nat×Value)=>t.setIfInBounds p.1 p.2) a.tmps:=by
      rw [hrec];simp
     rw [e];exact h1
    have hsp:Sp (([]:List Nat).map cc++(lR l (rec_ none .ready)::Z)) (cs++E σ₁) w1:=h0.perm (by simpa only [V3,List.map_nil,XX] using List.Perm.append_left cs Xj.symm);have hrun:=hbody l x σ₁ j₂ σ₂ hφ vs cs hq (lR l (rec_ none .ready)::Z) [] _ w1 hfx rfl hsp
    have hasg:(rec_ none .ready).assign=assign:=by rw [hrec]
    have hbdy:(rec_ none .ready).body=body:=by rw [hrec]
    rw [hasg,hbdy];refine wpIn_mono hrun ?_;rintro e a1 w2 ⟨s1,L1,Ds1,g1,g2,g3,g4⟩
    cases e with
    | normal=>
     have g3':SepL ((L1++Ds1.map cc)++(lR l (rec_ none .ready)::Z)) w2:=by unfold Sp at g3;simpa only [V3] using g3
     have b0:=uN g3';have hbusy:=zc (r':={rec_ none .ready with state:=.busy}) g3';refine ⟨_,run_beginRound b0 (by rw [hrec]),?_⟩
     have b5:Sp (Ds1.map cc++(lR l {rec_ none .ready with state:=.busy}::Z)) L1 (w2.putObj l (.loop {rec_ none .ready with state:=.busy})):=by unfold Sp;simpa only [V3] using hbusy
     refine wpIn_mono (g4 (lR l {rec_ none .ready with state:=.busy}::Z) Ds1 a1 _ g1 g2 b5) ?_;rintro e3 a3 w3 ⟨s3,L3,Ds3,k1,k2,k3,k4,k5⟩
     have k3':SepL ((L3++Ds3.map cc)++(lR l {rec_ none .ready with state:=.busy}::Z)) w3:=by unfold Sp at k3;simpa only [V3] using k3
     have b6:=uN k3'
     have fin: ∀(j:Option Exit) (jump:Option Code),jump=j.bind wL->jump.isNone=j.isNone->j₂=j-> ∃v w',(Instr.endRound l jump).run P w3=.ok v w'/\(Ending.returned v=.returned (.bool j₂.isNone)/\Sp Z (lR l (rec_ j₂ (stOf j₂))::E σ₂) w'):=by
      intro j jump hj1 hj2 hj3;subst hj3;refine ⟨_,_,run_endRound jump b6,by rw [hj2],?_⟩
      have e:({{rec_ none .ready with state:=.busy} with state:=if jump.isNone then LoopState.ready else LoopState.done,pending:=jump}:Loop)=rec_ j₂ (stOf j₂):=by
       rw [hrec,hst,hj2,hj1]
      rw [e];have h6:=zc (r':=rec_ j₂ (stOf j₂)) k3'
      have h7:SepL (L3++(lR l (rec_ j₂ (stOf j₂))::Z)) (w3.putObj l (.loop (rec_ j₂ (stOf j₂)))):=by
       have h8:SepL (Ds3.map cc++(L3++(lR l (rec_ j₂ (stOf j₂))::Z))) (w3.putObj l (.loop (rec_ j₂ (stOf j₂)))):=h6.perm (by
        rw [<-V3]
        exact List.Perm.append_right _ List.perm_append_comm)
       exact h8.dropL
      have h9:=k5 (lR l (rec_ j₂ (stOf j₂))::Z) _ h7;unfold Sp at h9⊢;exact h9.perm Xj
     rcases k4 with ⟨h10,rfl⟩|⟨h10,h11⟩
     ·exact fin none none J J h10
     cases e3 with
     |ret=>exact fin (some .ret) (some .ret) rfl rfl h10
     |exit i=>exact fin (some (.exit i)) (some (.exit i)) rfl rfl h10
     |_=>cases h11
    |_=>exact g4.elim
 have hdeep:SepL (lR l (rec_ none .ready)::cc w.heap.size::((pre++E σ₀)++(Ds.map cc++H))) W1:=by
  have h1:SepL ((pre++E σ₀)++(Ds.map cc++H)) w:=hL _ _ hw
  have h2:SepL (cc w.heap.size::((pre++E σ₀)++(Ds.map cc++H))) (w.alloc (.deferred (some []))):=h1.new (Agr.of_ext ((Ext.refl w).alloc _)) fun _ S _=>⟨(· =w.heap.size),fun q hq=>by subst hq;simp,rfl,World.alloc_heap_new w _⟩
  rw [<-hW1]
  refine h2.new (Agr.of_ext ((Ext.refl _).alloc _)) fun _ S _=>⟨(· =l),fun q hq=>by subst hq;rw [hl];simp,rfl,?_⟩
  have:=World.alloc_heap_new (w.alloc (.deferred (some []))) (.loop (rec_ none .ready));rw [World.size_alloc] at this;rw [hl];exact this
 have hstn:stOf none=.ready:=by rw [hst];rfl
 have hstart:Sp (cc w.heap.size::(Ds.map cc++H)) (pre++(lR l (rec_ none (stOf none))::E σ₀)) W1:=by
  rw [hstn];refine hdeep.perm ?_;refine (List.Perm.swap _ _ _).trans ?_;refine List.Perm.trans ?_ Xj.symm;refine List.Perm.cons _ ?_;rw [<-Wy];exact List.Perm.append_right _ Xj.symm
 obtain ⟨fnc,hfn1,a6,hn1⟩:=hf
 have hn': ¬fnc.name= "runtime.NumGoroutine" :=by simpa using hn1
 have hb': ¬fnc.body=none:=by intro h;rw [h] at a6;cases a6
 refine ⟨l,[{target:=.collected w.heap.size,args:= #[]}],W1,{target:=.fn (.func gf) caps,args:= #[.func (.yield l) #[] #[]]},W1,gf,(.func (.yield l) #[] #[]::caps.toList).toArray,W1,?_,?_,fun _ _=>trivial,?_,(by intro h;cases h),?_⟩
 ·rw [<-hW1,hl,hrec];exact run_enterLoop_outer _ _ _ _ _
 ·simp only [resolve,hev];simp [Deferred.ofValue,Act.eval]
 ·simp [invoke,callFunc,hfn1,hb',hn',XL]
 have h1:=(hit l _ hY).run _ W1 hstart;refine (callsIn_wide.2 h1:CallsIn Fence.wide (0 - 1) P gf _ W1 _).mono ?_;rintro e w3 ⟨v,post,rfl,h2,rfl⟩;have h2':SepL ([]++(lR l (rec_ je (stOf je))::(E σr++(cc w.heap.size::(Ds.map cc++H))))) w3:=h2;have hk:=uN h2';refine ⟨_,_,run_endLoop hk (by rw [hrec,hst];cases je<;>simp),?_⟩;have h3:=zc (r':={rec_ je (stOf je) with state:=.exhausted}) h2';generalize w3.putObj l (.loop {rec_ je (stOf je) with state:=.exhausted})=w4 at h3⊢
 have h4:Sp ((w.heap.size::Ds).map cc++H) (E σr) w4:=by
  have h5:SepL ([lR l {rec_ je (stOf je) with state:=.exhausted}]++(E σr++(cc w.heap.size::(Ds.map cc++H)))) _:=h3;have h6:=h5.dropL;unfold Sp;simpa using h6
 have hfin: ∀e,K e s (E σr)->yP ⟨P,n,none⟩ H K e {a with defers:=[{target:=.collected w.heap.size,args:= #[]}]++a.defers} w4:=fun e he=>⟨s,E σr,w.heap.size::Ds,⟨ha.size,ha.at_⟩,by simp [hds,xb],h4,he⟩
 cases hje:je with
 |none=>
  have:(rec_ je (stOf je)).pending=none:=by rw [hrec,hje];rfl
  rw [<-hje,this];exact hfin .normal (hdone hje)
 |some e=>
  obtain ⟨h7,h8⟩:=hleft e hje
  have:(rec_ je (stOf je)).pending=wL e:=by rw [hrec,hje];rfl
  rw [<-hje,this]
  cases e with
  |ret=>exact wpIn_ret (hfin .ret h8)
  |exit i=>exact wpIn_exit (hfin (.exit i) h8)
  |_=>cases h7
theorem Hm {σ:Type}{R:α->Wb->Wa->Prop}(φ:α->σ->Option (Option Exit×σ))(Q:σ->ι->Wa)(pre:Wa)(σ₀:σ)(x₀:ι){σr:σ}{id:Nat}{vn vr:Option ρ}{vx:Nat->Option ρ}{v:ρ}(hr:X.r=none)(hg:be s g=some (.func (.func gf) #[] caps))(hf:qn X.P gf)(hps:ps.all (fun p=>Nat.ble (p+1) X.n)=true)(hen:∀x vs cs,R x vs cs->vs.length=ps.length)(hit:∀l (G:(Option Exit×σ)->Wa),wj X.P l G R (cM φ)->Okc X.P gf (.func (.yield l) #[] #[]::caps.toList) (pre++G (none,σ₀)) fun _ post=>post=G (je,σr))(hL:Cv L (pre++Q σ₀ x₀))(h:sS je vn vr vx=some v)(hbody:∀l x σ₁ je' σ₂ z,φ x σ₁=some (je',σ₂)-> ∀vs cs,R x vs cs->Wq ⟨X.P,X.n,some l⟩ assign (nx (fun s1 L1=>Wq ⟨X.P,X.n,some l⟩ body (RK je' [dO (Q σ₂)]) s1 L1) fun _ _ _=>False) (Cl ps vs s) (cs++Q σ₁ z))(hn:∀z,vn=some v->bk id K .normal s (Q σr z))(hret:∀z,vr=some v->bk id K .ret s (Q σr z))(hx:∀i z,vx i=some v->bk id K (.exit i) s (Q σr z)):
  Wq X (.block id (.rangeFunc g ps.toArray assign body)) K s L:=by
 refine Cw (LS (K':=fun e s' L'=>s'=s/\L'=[dO (Q σr)]/\ ∀z,bk id K e s (Q σr z)) ?_ ?_)
 ·refine Nx φ (fun q=> [dO (Q q)]) pre σ₀ hr hg hf hps hen hit ?_ ?_ ?_ ?_
  ·exact hL.trans (vv pre (gL x₀ J))
  ·intro l x σ₁ je' σ₂ hφ vs cs hq
   exact Nw cs fun z=>hbody l x σ₁ je' σ₂ z hφ vs cs hq
  ·intro hj;rw [hj] at h;exact ⟨J,J,fun z=>hn z h⟩
  intro e he;rw [he] at h
  cases e with
  |ret=>exact ⟨rfl,rfl,rfl,fun z=>hret z h⟩
  |exit i=>exact ⟨rfl,rfl,rfl,fun z=>hx i z h⟩
  |_=>cases h
 rintro e s' L' ⟨rfl,rfl,h3⟩;exact ⟨ι,Q σr,J,h3⟩
theorem SlR.recap {R:Rep α}{w:World}{A1 A2:Option Addr}{n1 n2 c1 c2:Nat}{ys:List α}(h:SlR R S w (Y A1 n1 c1) ys)(hn:n2=ys.length)(hA:0<ys.length->A2=A1)(h1:ys.length<=c2)(h2:c2<=9223372036854775807):SlR R S w (Y A2 n2 c2) ys:=by
 obtain ⟨A,c,e,g1,g2,g3⟩:=h
 injection e with e1 e2 e3
 subst e1 e3 hn;exact ⟨_,_,J,h1,h2,fun h0=>by rw [hA h0];exact g3 h0⟩
theorem KR {R:Rep α}{w:World}{A:Option Addr}{c:Nat}{xs:List α}(hw:Sp Z L w)(hi:L[i]? =some (iD R (.slice A n c) xs)){l:Nat}(h1:l<=h)(h2:h<=xs.length):Sp Z (iD R (.slice (mu A h l R.sz) (h - l) (h - l)) ((xs.drop l).take (h - l))::L) w:=by
 obtain ⟨T,S,hT⟩:=hw;have hs1:SlR R S w (.slice A n c) xs:=hT.ok (aU hi)
 have hl:((xs.drop l).take (h - l)).length=h - l:=by rw [XT,WZ];omega
 have hb:=hs1;obtain ⟨A2,c2,e2,g1,g2, -⟩:=hb
 injection e2 with q1 q2 q3
 subst q1 q2 q3
 obtain ⟨T',h'⟩:=SepL.facts [iD R (.slice (mu A h l R.sz) (h - l) (h - l)) ((xs.drop l).take (h - l))] hT (fun c hc=>by
  simp only [Xf] at hc;subst hc;refine SlR.recap (hs1.cut l h h1 h2) hl.symm (fun h0=> ?_) U U;rw [hl] at h0;unfold mu
  rw [if_neg U,if_neg U])
 exact ⟨T',S,h'⟩
theorem PC {R:Rep α}{ol:List Oper}{A:Option Addr}{c:Nat}{xs:List α}(i:Nat)(hi:L[i]? =some (iD R (.slice A n c) xs)){l:Nat}(h1:l<=h)(h2:h<=xs.length)(k:∀A' n' c',A'=mu A h l R.sz/\n'=h - l/\c'=h - l->aY X ops ol K s (iD R (.slice A' n' c') ((xs.drop l).take (h - l))::L)):aY X ops ol K s L:=fun H Ds a w ha hd hw=>k _ _ _ ⟨rfl,rfl,rfl⟩ H Ds a w ha hd (KR hw hi h1 h2)
section
variable {d:Option Nat}
theorem Q3 {t e sz:Nat}{o z:Operand}{A:Option Addr}{c l:Nat}(hx:be s x=some (.slice A n c))(hu:P.underlying t=some (.slice e))(hs:kP P e sz=true)(hl:be s o=some (.int .i64 (l:Int)))(hh:be s y=some (.int .i64 (h:Int)))(hm:be s z=some (.int .i64 (h:Int)))(h1:l<=h)(h2:h<=c):Ev P s C ⟨d,.slice t x (some o) (some y) (some z),ty,pos,af,gd⟩ (.slice (mu A h l sz) (h - l) (h - l)):=fun ρ hρ w _=>by
 unfold execOp;simp only [XG,Option.map_none,hρ x _ hx,hρ o _ hl,hρ y _ hh,hρ z _ hm,Instr.sliceAt,Instr.slice,Instr.sliceBounds,XL,XR hu,XK,pn h2,pn h1,pn (Xx h),kO hs w,XM];rfl
theorem Lg {R:Rep α}{t e sz:Nat}{o z:Operand}{A A':Option Addr}{c n' c':Nat}{xs:List α}{l:Nat}(i:Nat)(hL:L[i]? =some (iD R (.slice A n c) xs))(he:A'=mu A h l R.sz/\n'=h - l/\c'=h - l)(hx:be s x=some (.slice A n c))(hu:P.underlying t=some (.slice e))(hs:kP P e sz=true)(hsz:R.sz=sz)(hl:be s o=some (.int .i64 (l:Int)))(hh:be s y=some (.int .i64 (h:Int)))(hm:be s z=some (.int .i64 (h:Int)))(h1:l<=h)(h2:h<=xs.length):Rd P s L ⟨d,.slice t x (some o) (some y) (some z),ty,pos,af,gd⟩ (.slice A' n' c'):=fun Z w hw=>by
 obtain ⟨rfl,rfl,rfl⟩:=he;subst hsz;obtain ⟨T,S,A2,c2,e2,g1, -⟩:=hw.get (aU hL)
 injection e2 with q1 q2 q3
 subst q1 q2 q3;exact Q3 hx hu hs hl hh hm h1 U
end
end
section
open Go.RowKit
theorem Jz: ∀(cs:Wa),Cv (cs++L) L
 | []=>ah _
 |_::cs=>cv_tl.trans (Jz cs)
inductive Asn:Type 1
 |aV (v:Value)
 |aX1 {ι0:Type} (v:ι0->Value) (ch:ι0->Wa)
 |aX2 {ι0 ι1:Type} (v:ι0->ι1->Value) (ch:ι0->ι1->Wa)
 |aX3 {ι0 ι1 ι2:Type} (v:ι0->ι1->ι2->Value) (ch:ι0->ι1->ι2->Wa)
 |aX4 {ι0 ι1 ι2 ι3:Type} (v:ι0->ι1->ι2->ι3->Value) (ch:ι0->ι1->ι2->ι3->Wa)
 |aX5 {ι0 ι1 ι2 ι3 ι4:Type} (v:ι0->ι1->ι2->ι3->ι4->Value) (ch:ι0->ι1->ι2->ι3->ι4->Wa)
 |aX6 {ι0 ι1 ι2 ι3 ι4 ι5:Type} (v:ι0->ι1->ι2->ι3->ι4->ι5->Value) (ch:ι0->ι1->ι2->ι3->ι4->ι5->Wa)
 |aX7 {ι0 ι1 ι2 ι3 ι4 ι5 ι6:Type} (v:ι0->ι1->ι2->ι3->ι4->ι5->ι6->Value) (ch:ι0->ι1->ι2->ι3->ι4->ι5->ι6->Wa)
 |aX8 {ι0 ι1 ι2 ι3 ι4 ι5 ι6 ι7:Type} (v:ι0->ι1->ι2->ι3->ι4->ι5->ι6->ι7->Value) (ch:ι0->ι1->ι2->ι3->ι4->ι5->ι6->ι7->Wa)
 |aX9 {ι0 ι1 ι2 ι3 ι4 ι5 ι6 ι7 ι8:Type} (v:ι0->ι1->ι2->ι3->ι4->ι5->ι6->ι7->ι8->Value) (ch:ι0->ι1->ι2->ι3->ι4->ι5->ι6->ι7->ι8->Wa)
 |aX10 {ι0 ι1 ι2 ι3 ι4 ι5 ι6 ι7 ι8 ι9:Type} (v:ι0->ι1->ι2->ι3->ι4->ι5->ι6->ι7->ι8->ι9->Value) (ch:ι0->ι1->ι2->ι3->ι4->ι5->ι6->ι7->ι8->ι9->Wa)
 |aX11 {ι0 ι1 ι2 ι3 ι4 ι5 ι6 ι7 ι8 ι9 ι10:Type} (v:ι0->ι1->ι2->ι3->ι4->ι5->ι6->ι7->ι8->ι9->ι10->Value) (ch:ι0->ι1->ι2->ι3->ι4->ι5->ι6->ι7->ι8->ι9->ι10->Wa)
 |aX12 {ι0 ι1 ι2 ι3 ι4 ι5 ι6 ι7 ι8 ι9 ι10 ι11:Type} (v:ι0->ι1->ι2->ι3->ι4->ι5->ι6->ι7->ι8->ι9->ι10->ι11->Value) (ch:ι0->ι1->ι2->ι3->ι4->ι5->ι6->ι7->ι8->ι9->ι10->ι11->Wa)
 |aX15 {ι0 ι1 ι2 ι3 ι4 ι5 ι6 ι7 ι8 ι9 ι10 ι11 ι12 ι13 ι14:Type} (v:ι0->ι1->ι2->ι3->ι4->ι5->ι6->ι7->ι8->ι9->ι10->ι11->ι12->ι13->ι14->Value) (ch:ι0->ι1->ι2->ι3->ι4->ι5->ι6->ι7->ι8->ι9->ι10->ι11->ι12->ι13->ι14->Wa)
 |aX21 {ι0 ι1 ι2 ι3 ι4 ι5 ι6 ι7 ι8 ι9 ι10 ι11 ι12 ι13 ι14 ι15 ι16 ι17 ι18 ι19 ι20:Type} (v:ι0->ι1->ι2->ι3->ι4->ι5->ι6->ι7->ι8->ι9->ι10->ι11->ι12->ι13->ι14->ι15->ι16->ι17->ι18->ι19->ι20->Value) (ch:ι0->ι1->ι2->ι3->ι4->ι5->ι6->ι7->ι8->ι9->ι10->ι11->ι12->ι13->ι14->ι15->ι16->ι17->ι18->ι19->ι20->Wa)
namespace Asn
def full:Asn->Value->Wa
 |aV v,u=> [NY (u=v)]
 | @aX1 ι0 v ch,u=> [dO fun x:{x:ι0 // u=v x}=>ch x.1]
 | @aX2 ι0 ι1 v ch,u=> [dO fun x:{x:ι0×ι1 // u=v x.1 x.2}=>ch x.1.1 x.1.2]
 | @aX3 ι0 ι1 ι2 v ch,u=> [dO fun x:{x:ι0×ι1×ι2 // u=v x.1 x.2.1 x.2.2}=>ch x.1.1 x.1.2.1 x.1.2.2]
 | @aX4 ι0 ι1 ι2 ι3 v ch,u=> [dO fun x:{x:ι0×ι1×ι2×ι3 // u=v x.1 x.2.1 x.2.2.1 x.2.2.2}=>ch x.1.1 x.1.2.1 x.1.2.2.1 x.1.2.2.2]
 | @aX5 ι0 ι1 ι2 ι3 ι4 v ch,u=> [dO fun x:{x:ι0×ι1×ι2×ι3×ι4 // u=v x.1 x.2.1 x.2.2.1 x.2.2.2.1 x.2.2.2.2}=>ch x.1.1 x.1.2.1 x.1.2.2.1 x.1.2.2.2.1 x.1.2.2.2.2]
 | @aX6 ι0 ι1 ι2 ι3 ι4 ι5 v ch,u=> [dO fun x:{x:ι0×ι1×ι2×ι3×ι4×ι5 // u=v x.1 x.2.1 x.2.2.1 x.2.2.2.1 x.2.2.2.2.1 x.2.2.2.2.2}=>ch x.1.1 x.1.2.1 x.1.2.2.1 x.1.2.2.2.1 x.1.2.2.2.2.1 x.1.2.2.2.2.2]
 | @aX7 ι0 ι1 ι2 ι3 ι4 ι5 ι6 v ch,u=> [dO fun x:{x:ι0×ι1×ι2×ι3×ι4×ι5×ι6 // u=v x.1 x.2.1 x.2.2.1 x.2.2.2.1 x.2.2.2.2.1 x.2.2.2.2.2.1 x.2.2.2.2.2.2}=>ch x.1.1 x.1.2.1 x.1.2.2.1 x.1.2.2.2.1 x.1.2.2.2.2.1 x.1.2.2.2.2.2.1 x.1.2.2.2.2.2.2]
 | @aX8 ι0 ι1 ι2 ι3 ι4 ι5 ι6 ι7 v ch,u=> [dO fun x:{x:ι0×ι1×ι2×ι3×ι4×ι5×ι6×ι7 // u=v x.1 x.2.1 x.2.2.1 x.2.2.2.1 x.2.2.2.2.1 x.2.2.2.2.2.1 x.2.2.2.2.2.2.1 x.2.2.2.2.2.2.2}=>ch x.1.1 x.1.2.1 x.1.2.2.1 x.1.2.2.2.1 x.1.2.2.2.2.1 x.1.2.2.2.2.2.1 x.1.2.2.2.2.2.2.1 x.1.2.2.2.2.2.2.2]
 | @aX9 ι0 ι1 ι2 ι3 ι4 ι5 ι6 ι7 ι8 v ch,u=> [dO fun x:{x:ι0×ι1×ι2×ι3×ι4×ι5×ι6×ι7×ι8 // u=v x.1 x.2.1 x.2.2.1 x.2.2.2.1 x.2.2.2.2.1 x.2.2.2.2.2.1 x.2.2.2.2.2.2.1 x.2.2.2.2.2.2.2.1 x.2.2.2.2.2.2.2.2}=>ch x.1.1 x.1.2.1 x.1.2.2.1 x.1.2.2.2.1 x.1.2.2.2.2.1 x.1.2.2.2.2.2.1 x.1.2.2.2.2.2.2.1 x.1.2.2.2.2.2.2.2.1 x.1.2.2.2.2.2.2.2.2]
 | @aX10 ι0 ι1 ι2 ι3 ι4 ι5 ι6 ι7 ι8 ι9 v ch,u=> [dO fun x:{x:ι0×ι1×ι2×ι3×ι4×ι5×ι6×ι7×ι8×ι9 // u=v x.1 x.2.1 x.2.2.1 x.2.2.2.1 x.2.2.2.2.1 x.2.2.2.2.2.1 x.2.2.2.2.2.2.1 x.2.2.2.2.2.2.2.1 x.2.2.2.2.2.2.2.2.1 x.2.2.2.2.2.2.2.2.2}=>ch x.1.1 x.1.2.1 x.1.2.2.1 x.1.2.2.2.1 x.1.2.2.2.2.1 x.1.2.2.2.2.2.1 x.1.2.2.2.2.2.2.1 x.1.2.2.2.2.2.2.2.1 x.1.2.2.2.2.2.2.2.2.1 x.1.2.2.2.2.2.2.2.2.2]
 | @aX11 ι0 ι1 ι2 ι3 ι4 ι5 ι6 ι7 ι8 ι9 ι10 v ch,u=> [dO fun x:{x:ι0×ι1×ι2×ι3×ι4×ι5×ι6×ι7×ι8×ι9×ι10 // u=v x.1 x.2.1 x.2.2.1 x.2.2.2.1 x.2.2.2.2.1 x.2.2.2.2.2.1 x.2.2.2.2.2.2.1 x.2.2.2.2.2.2.2.1 x.2.2.2.2.2.2.2.2.1 x.2.2.2.2.2.2.2.2.2.1 x.2.2.2.2.2.2.2.2.2.2}=>ch x.1.1 x.1.2.1 x.1.2.2.1 x.1.2.2.2.1 x.1.2.2.2.2.1 x.1.2.2.2.2.2.1 x.1.2.2.2.2.2.2.1 x.1.2.2.2.2.2.2.2.1 x.1.2.2.2.2.2.2.2.2.1 x.1.2.2.2.2.2.2.2.2.2.1 x.1.2.2.2.2.2.2.2.2.2.2]
 | @aX12 ι0 ι1 ι2 ι3 ι4 ι5 ι6 ι7 ι8 ι9 ι10 ι11 v ch,u=> [dO fun x:{x:ι0×ι1×ι2×ι3×ι4×ι5×ι6×ι7×ι8×ι9×ι10×ι11 // u=v x.1 x.2.1 x.2.2.1 x.2.2.2.1 x.2.2.2.2.1 x.2.2.2.2.2.1 x.2.2.2.2.2.2.1 x.2.2.2.2.2.2.2.1 x.2.2.2.2.2.2.2.2.1 x.2.2.2.2.2.2.2.2.2.1 x.2.2.2.2.2.2.2.2.2.2.1 x.2.2.2.2.2.2.2.2.2.2.2}=>ch x.1.1 x.1.2.1 x.1.2.2.1 x.1.2.2.2.1 x.1.2.2.2.2.1 x.1.2.2.2.2.2.1 x.1.2.2.2.2.2.2.1 x.1.2.2.2.2.2.2.2.1 x.1.2.2.2.2.2.2.2.2.1 x.1.2.2.2.2.2.2.2.2.2.1 x.1.2.2.2.2.2.2.2.2.2.2.1 x.1.2.2.2.2.2.2.2.2.2.2.2]
 | @aX15 ι0 ι1 ι2 ι3 ι4 ι5 ι6 ι7 ι8 ι9 ι10 ι11 ι12 ι13 ι14 v ch,u=> [dO fun x:{x:ι0×ι1×ι2×ι3×ι4×ι5×ι6×ι7×ι8×ι9×ι10×ι11×ι12×ι13×ι14 // u=v x.1 x.2.1 x.2.2.1 x.2.2.2.1 x.2.2.2.2.1 x.2.2.2.2.2.1 x.2.2.2.2.2.2.1 x.2.2.2.2.2.2.2.1 x.2.2.2.2.2.2.2.2.1 x.2.2.2.2.2.2.2.2.2.1 x.2.2.2.2.2.2.2.2.2.2.1 x.2.2.2.2.2.2.2.2.2.2.2.1 x.2.2.2.2.2.2.2.2.2.2.2.2.1 x.2.2.2.2.2.2.2.2.2.2.2.2.2.1 x.2.2.2.2.2.2.2.2.2.2.2.2.2.2}=>ch x.1.1 x.1.2.1 x.1.2.2.1 x.1.2.2.2.1 x.1.2.2.2.2.1 x.1.2.2.2.2.2.1 x.1.2.2.2.2.2.2.1 x.1.2.2.2.2.2.2.2.1 x.1.2.2.2.2.2.2.2.2.1 x.1.2.2.2.2.2.2.2.2.2.1 x.1.2.2.2.2.2.2.2.2.2.2.1 x.1.2.2.2.2.2.2.2.2.2.2.2.1 x.1.2.2.2.2.2.2.2.2.2.2.2.2.1 x.1.2.2.2.2.2.2.2.2.2.2.2.2.2.1 x.1.2.2.2.2.2.2.2.2.2.2.2.2.2.2]
 | @aX21 ι0 ι1 ι2 ι3 ι4 ι5 ι6 ι7 ι8 ι9 ι10 ι11 ι12 ι13 ι14 ι15 ι16 ι17 ι18 ι19 ι20 v ch,u=> [dO fun x:{x:ι0×ι1×ι2×ι3×ι4×ι5×ι6×ι7×ι8×ι9×ι10×ι11×ι12×ι13×ι14×ι15×ι16×ι17×ι18×ι19×ι20 // u=v x.1 x.2.1 x.2.2.1 x.2.2.2.1 x.2.2.2.2.1 x.2.2.2.2.2.1 x.2.2.2.2.2.2.1 x.2.2.2.2.2.2.2.1 x.2.2.2.2.2.2.2.2.1 x.2.2.2.2.2.2.2.2.2.1 x.2.2.2.2.2.2.2.2.2.2.1 x.2.2.2.2.2.2.2.2.2.2.2.1 x.2.2.2.2.2.2.2.2.2.2.2.2.1 x.2.2.2.2.2.2.2.2.2.2.2.2.2.1 x.2.2.2.2.2.2.2.2.2.2.2.2.2.2.1 x.2.2.2.2.2.2.2.2.2.2.2.2.2.2.2.1 x.2.2.2.2.2.2.2.2.2.2.2.2.2.2.2.2.1 x.2.2.2.2.2.2.2.2.2.2.2.2.2.2.2.2.2.1 x.2.2.2.2.2.2.2.2.2.2.2.2.2.2.2.2.2.2.1 x.2.2.2.2.2.2.2.2.2.2.2.2.2.2.2.2.2.2.2.1 x.2.2.2.2.2.2.2.2.2.2.2.2.2.2.2.2.2.2.2.2}=>ch x.1.1 x.1.2.1 x.1.2.2.1 x.1.2.2.2.1 x.1.2.2.2.2.1 x.1.2.2.2.2.2.1 x.1.2.2.2.2.2.2.1 x.1.2.2.2.2.2.2.2.1 x.1.2.2.2.2.2.2.2.2.1 x.1.2.2.2.2.2.2.2.2.2.1 x.1.2.2.2.2.2.2.2.2.2.2.1 x.1.2.2.2.2.2.2.2.2.2.2.2.1 x.1.2.2.2.2.2.2.2.2.2.2.2.2.1 x.1.2.2.2.2.2.2.2.2.2.2.2.2.2.1 x.1.2.2.2.2.2.2.2.2.2.2.2.2.2.2.1 x.1.2.2.2.2.2.2.2.2.2.2.2.2.2.2.2.1 x.1.2.2.2.2.2.2.2.2.2.2.2.2.2.2.2.2.1 x.1.2.2.2.2.2.2.2.2.2.2.2.2.2.2.2.2.2.1 x.1.2.2.2.2.2.2.2.2.2.2.2.2.2.2.2.2.2.2.1 x.1.2.2.2.2.2.2.2.2.2.2.2.2.2.2.2.2.2.2.2.1 x.1.2.2.2.2.2.2.2.2.2.2.2.2.2.2.2.2.2.2.2.2]
def Op:Asn->(Value->Wa->Prop)->Prop
 |aV v,K=>K v []
 |aX1 v ch,K=> ∀x0,K (v x0) (ch x0)
 |aX2 v ch,K=> ∀x0 x1,K (v x0 x1) (ch x0 x1)
 |aX3 v ch,K=> ∀x0 x1 x2,K (v x0 x1 x2) (ch x0 x1 x2)
 |aX4 v ch,K=> ∀x0 x1 x2 x3,K (v x0 x1 x2 x3) (ch x0 x1 x2 x3)
 |aX5 v ch,K=> ∀x0 x1 x2 x3 x4,K (v x0 x1 x2 x3 x4) (ch x0 x1 x2 x3 x4)
 |aX6 v ch,K=> ∀x0 x1 x2 x3 x4 x5,K (v x0 x1 x2 x3 x4 x5) (ch x0 x1 x2 x3 x4 x5)
 |aX7 v ch,K=> ∀x0 x1 x2 x3 x4 x5 x6,K (v x0 x1 x2 x3 x4 x5 x6) (ch x0 x1 x2 x3 x4 x5 x6)
 |aX8 v ch,K=> ∀x0 x1 x2 x3 x4 x5 x6 x7,K (v x0 x1 x2 x3 x4 x5 x6 x7) (ch x0 x1 x2 x3 x4 x5 x6 x7)
 |aX9 v ch,K=> ∀x0 x1 x2 x3 x4 x5 x6 x7 x8,K (v x0 x1 x2 x3 x4 x5 x6 x7 x8) (ch x0 x1 x2 x3 x4 x5 x6 x7 x8)
 |aX10 v ch,K=> ∀x0 x1 x2 x3 x4 x5 x6 x7 x8 x9,K (v x0 x1 x2 x3 x4 x5 x6 x7 x8 x9) (ch x0 x1 x2 x3 x4 x5 x6 x7 x8 x9)
 |aX11 v ch,K=> ∀x0 x1 x2 x3 x4 x5 x6 x7 x8 x9 a6,K (v x0 x1 x2 x3 x4 x5 x6 x7 x8 x9 a6) (ch x0 x1 x2 x3 x4 x5 x6 x7 x8 x9 a6)
 |aX12 v ch,K=> ∀x0 x1 x2 x3 x4 x5 x6 x7 x8 x9 a6 a8,K (v x0 x1 x2 x3 x4 x5 x6 x7 x8 x9 a6 a8) (ch x0 x1 x2 x3 x4 x5 x6 x7 x8 x9 a6 a8)
 |aX15 v ch,K=> ∀x0 x1 x2 x3 x4 x5 x6 x7 x8 x9 a6 a8 b0 b5 b6,K (v x0 x1 x2 x3 x4 x5 x6 x7 x8 x9 a6 a8 b0 b5 b6) (ch x0 x1 x2 x3 x4 x5 x6 x7 x8 x9 a6 a8 b0 b5 b6)
 |aX21 v ch,K=> ∀x0 x1 x2 x3 x4 x5 x6 x7 x8 x9 a6 a8 b0 b5 b6 b7 b9 c0 c7 c8 c9,K (v x0 x1 x2 x3 x4 x5 x6 x7 x8 x9 a6 a8 b0 b5 b6 b7 b9 c0 c7 c8 c9) (ch x0 x1 x2 x3 x4 x5 x6 x7 x8 x9 a6 a8 b0 b5 b6 b7 b9 c0 c7 c8 c9)
theorem hop: ∀(a:Asn) (K:Value->Wa->Prop) (u:Value) (L Z:Wa) (w:World),Sp Z (a.full u++L) w->a.Op K-> ∃c,K u c/\Sp Z (c++L) w/\ ∀L',Cv (c++L') (a.full u++L')
 |aV v,K,u,L,Z,w,hs,hk=>by
  have h:u=v:=PN hs 0 rfl;subst h;exact ⟨[],hk,cv_tl _ _ hs,fun L'=>LH J⟩
 | @aX1 ι0 v ch,K,u,L,Z,w,hs,hk=>by
  obtain ⟨⟨x,hx⟩,hs⟩:=kK hs;subst hx;exact ⟨_,hk x,hs,fun L'=>fb (Q:=fun y:{y:ι0 // v x=v y}=>ch y.1) ⟨x,J⟩⟩
 | @aX2 ι0 ι1 v ch,K,u,L,Z,w,hs,hk=>by
  obtain ⟨⟨x,hx⟩,hs⟩:=kK hs;subst hx;exact ⟨_,hk x.1 x.2,hs,fun L'=>fb (Q:=fun y:{y:ι0×ι1 // v x.1 x.2=v y.1 y.2}=>ch y.1.1 y.1.2) ⟨x,J⟩⟩
 | @aX3 ι0 ι1 ι2 v ch,K,u,L,Z,w,hs,hk=>by
  obtain ⟨⟨x,hx⟩,hs⟩:=kK hs;subst hx;exact ⟨_,hk x.1 x.2.1 x.2.2,hs,fun L'=>fb (Q:=fun y:{y:ι0×ι1×ι2 // v x.1 x.2.1 x.2.2=v y.1 y.2.1 y.2.2}=>ch y.1.1 y.1.2.1 y.1.2.2) ⟨x,J⟩⟩
 | @aX4 ι0 ι1 ι2 ι3 v ch,K,u,L,Z,w,hs,hk=>by
  obtain ⟨⟨x,hx⟩,hs⟩:=kK hs;subst hx;exact ⟨_,hk x.1 x.2.1 x.2.2.1 x.2.2.2,hs,fun L'=>fb (Q:=fun y:{y:ι0×ι1×ι2×ι3 // v x.1 x.2.1 x.2.2.1 x.2.2.2=v y.1 y.2.1 y.2.2.1 y.2.2.2}=>ch y.1.1 y.1.2.1 y.1.2.2.1 y.1.2.2.2) ⟨x,J⟩⟩
 | @aX5 ι0 ι1 ι2 ι3 ι4 v ch,K,u,L,Z,w,hs,hk=>by
  obtain ⟨⟨x,hx⟩,hs⟩:=kK hs;subst hx;exact ⟨_,hk x.1 x.2.1 x.2.2.1 x.2.2.2.1 x.2.2.2.2,hs,fun L'=>fb (Q:=fun y:{y:ι0×ι1×ι2×ι3×ι4 // v x.1 x.2.1 x.2.2.1 x.2.2.2.1 x.2.2.2.2=v y.1 y.2.1 y.2.2.1 y.2.2.2.1 y.2.2.2.2}=>ch y.1.1 y.1.2.1 y.1.2.2.1 y.1.2.2.2.1 y.1.2.2.2.2) ⟨x,J⟩⟩
 | @aX6 ι0 ι1 ι2 ι3 ι4 ι5 v ch,K,u,L,Z,w,hs,hk=>by
  obtain ⟨⟨x,hx⟩,hs⟩:=kK hs;subst hx;exact ⟨_,hk x.1 x.2.1 x.2.2.1 x.2.2.2.1 x.2.2.2.2.1 x.2.2.2.2.2,hs,fun L'=>fb (Q:=fun y:{y:ι0×ι1×ι2×ι3×ι4×ι5 // v x.1 x.2.1 x.2.2.1 x.2.2.2.1 x.2.2.2.2.1 x.2.2.2.2.2=v y.1 y.2.1 y.2.2.1 y.2.2.2.1 y.2.2.2.2.1 y.2.2.2.2.2}=>ch y.1.1 y.1.2.1 y.1.2.2.1 y.1.2.2.2.1 y.1.2.2.2.2.1 y.1.2.2.2.2.2) ⟨x,J⟩⟩
 | @aX7 ι0 ι1 ι2 ι3 ι4 ι5 ι6 v ch,K,u,L,Z,w,hs,hk=>by
  obtain ⟨⟨x,hx⟩,hs⟩:=kK hs;subst hx;exact ⟨_,hk x.1 x.2.1 x.2.2.1 x.2.2.2.1 x.2.2.2.2.1 x.2.2.2.2.2.1 x.2.2.2.2.2.2,hs,fun L'=>fb (Q:=fun y:{y:ι0×ι1×ι2×ι3×ι4×ι5×ι6 // v x.1 x.2.1 x.2.2.1 x.2.2.2.1 x.2.2.2.2.1 x.2.2.2.2.2.1 x.2.2.2.2.2.2=v y.1 y.2.1 y.2.2.1 y.2.2.2.1 y.2.2.2.2.1 y.2.2.2.2.2.1 y.2.2.2.2.2.2}=>ch y.1.1 y.1.2.1 y.1.2.2.1 y.1.2.2.2.1 y.1.2.2.2.2.1 y.1.2.2.2.2.2.1 y.1.2.2.2.2.2.2) ⟨x,J⟩⟩
 | @aX8 ι0 ι1 ι2 ι3 ι4 ι5 ι6 ι7 v ch,K,u,L,Z,w,hs,hk=>by
  obtain ⟨⟨x,hx⟩,hs⟩:=kK hs;subst hx;exact ⟨_,hk x.1 x.2.1 x.2.2.1 x.2.2.2.1 x.2.2.2.2.1 x.2.2.2.2.2.1 x.2.2.2.2.2.2.1 x.2.2.2.2.2.2.2,hs,fun L'=>fb (Q:=fun y:{y:ι0×ι1×ι2×ι3×ι4×ι5×ι6×ι7 // v x.1 x.2.1 x.2.2.1 x.2.2.2.1 x.2.2.2.2.1 x.2.2.2.2.2.1 x.2.2.2.2.2.2.1 x.2.2.2.2.2.2.2=v y.1 y.2.1 y.2.2.1 y.2.2.2.1 y.2.2.2.2.1 y.2.2.2.2.2.1 y.2.2.2.2.2.2.1 y.2.2.2.2.2.2.2}=>ch y.1.1 y.1.2.1 y.1.2.2.1 y.1.2.2.2.1 y.1.2.2.2.2.1 y.1.2.2.2.2.2.1 y.1.2.2.2.2.2.2.1 y.1.2.2.2.2.2.2.2) ⟨x,J⟩⟩
 | @aX9 ι0 ι1 ι2 ι3 ι4 ι5 ι6 ι7 ι8 v ch,K,u,L,Z,w,hs,hk=>by
  obtain ⟨⟨x,hx⟩,hs⟩:=kK hs;subst hx;exact ⟨_,hk x.1 x.2.1 x.2.2.1 x.2.2.2.1 x.2.2.2.2.1 x.2.2.2.2.2.1 x.2.2.2.2.2.2.1 x.2.2.2.2.2.2.2.1 x.2.2.2.2.2.2.2.2,hs,fun L'=>fb (Q:=fun y:{y:ι0×ι1×ι2×ι3×ι4×ι5×ι6×ι7×ι8 // v x.1 x.2.1 x.2.2.1 x.2.2.2.1 x.2.2.2.2.1 x.2.2.2.2.2.1 x.2.2.2.2.2.2.1 x.2.2.2.2.2.2.2.1 x.2.2.2.2.2.2.2.2=v y.1 y.2.1 y.2.2.1 y.2.2.2.1 y.2.2.2.2.1 y.2.2.2.2.2.1 y.2.2.2.2.2.2.1 y.2.2.2.2.2.2.2.1 y.2.2.2.2.2.2.2.2}=>ch y.1.1 y.1.2.1 y.1.2.2.1 y.1.2.2.2.1 y.1.2.2.2.2.1 y.1.2.2.2.2.2.1 y.1.2.2.2.2.2.2.1 y.1.2.2.2.2.2.2.2.1 y.1.2.2.2.2.2.2.2.2) ⟨x,J⟩⟩
 | @aX10 ι0 ι1 ι2 ι3 ι4 ι5 ι6 ι7 ι8 ι9 v ch,K,u,L,Z,w,hs,hk=>by
  obtain ⟨⟨x,hx⟩,hs⟩:=kK hs;subst hx;exact ⟨_,hk x.1 x.2.1 x.2.2.1 x.2.2.2.1 x.2.2.2.2.1 x.2.2.2.2.2.1 x.2.2.2.2.2.2.1 x.2.2.2.2.2.2.2.1 x.2.2.2.2.2.2.2.2.1 x.2.2.2.2.2.2.2.2.2,hs,fun L'=>fb (Q:=fun y:{y:ι0×ι1×ι2×ι3×ι4×ι5×ι6×ι7×ι8×ι9 // v x.1 x.2.1 x.2.2.1 x.2.2.2.1 x.2.2.2.2.1 x.2.2.2.2.2.1 x.2.2.2.2.2.2.1 x.2.2.2.2.2.2.2.1 x.2.2.2.2.2.2.2.2.1 x.2.2.2.2.2.2.2.2.2=v y.1 y.2.1 y.2.2.1 y.2.2.2.1 y.2.2.2.2.1 y.2.2.2.2.2.1 y.2.2.2.2.2.2.1 y.2.2.2.2.2.2.2.1 y.2.2.2.2.2.2.2.2.1 y.2.2.2.2.2.2.2.2.2}=>ch y.1.1 y.1.2.1 y.1.2.2.1 y.1.2.2.2.1 y.1.2.2.2.2.1 y.1.2.2.2.2.2.1 y.1.2.2.2.2.2.2.1 y.1.2.2.2.2.2.2.2.1 y.1.2.2.2.2.2.2.2.2.1 y.1.2.2.2.2.2.2.2.2.2) ⟨x,J⟩⟩
 | @aX11 ι0 ι1 ι2 ι3 ι4 ι5 ι6 ι7 ι8 ι9 ι10 v ch,K,u,L,Z,w,hs,hk=>by
  obtain ⟨⟨x,hx⟩,hs⟩:=kK hs;subst hx;exact ⟨_,hk x.1 x.2.1 x.2.2.1 x.2.2.2.1 x.2.2.2.2.1 x.2.2.2.2.2.1 x.2.2.2.2.2.2.1 x.2.2.2.2.2.2.2.1 x.2.2.2.2.2.2.2.2.1 x.2.2.2.2.2.2.2.2.2.1 x.2.2.2.2.2.2.2.2.2.2,hs,fun L'=>fb (Q:=fun y:{y:ι0×ι1×ι2×ι3×ι4×ι5×ι6×ι7×ι8×ι9×ι10 // v x.1 x.2.1 x.2.2.1 x.2.2.2.1 x.2.2.2.2.1 x.2.2.2.2.2.1 x.2.2.2.2.2.2.1 x.2.2.2.2.2.2.2.1 x.2.2.2.2.2.2.2.2.1 x.2.2.2.2.2.2.2.2.2.1 x.2.2.2.2.2.2.2.2.2.2=v y.1 y.2.1 y.2.2.1 y.2.2.2.1 y.2.2.2.2.1 y.2.2.2.2.2.1 y.2.2.2.2.2.2.1 y.2.2.2.2.2.2.2.1 y.2.2.2.2.2.2.2.2.1 y.2.2.2.2.2.2.2.2.2.1 y.2.2.2.2.2.2.2.2.2.2}=>ch y.1.1 y.1.2.1 y.1.2.2.1 y.1.2.2.2.1 y.1.2.2.2.2.1 y.1.2.2.2.2.2.1 y.1.2.2.2.2.2.2.1 y.1.2.2.2.2.2.2.2.1 y.1.2.2.2.2.2.2.2.2.1 y.1.2.2.2.2.2.2.2.2.2.1 y.1.2.2.2.2.2.2.2.2.2.2) ⟨x,J⟩⟩
 | @aX12 ι0 ι1 ι2 ι3 ι4 ι5 ι6 ι7 ι8 ι9 ι10 ι11 v ch,K,u,L,Z,w,hs,hk=>by
  obtain ⟨⟨x,hx⟩,hs⟩:=kK hs;subst hx;exact ⟨_,hk x.1 x.2.1 x.2.2.1 x.2.2.2.1 x.2.2.2.2.1 x.2.2.2.2.2.1 x.2.2.2.2.2.2.1 x.2.2.2.2.2.2.2.1 x.2.2.2.2.2.2.2.2.1 x.2.2.2.2.2.2.2.2.2.1 x.2.2.2.2.2.2.2.2.2.2.1 x.2.2.2.2.2.2.2.2.2.2.2,hs,fun L'=>fb (Q:=fun y:{y:ι0×ι1×ι2×ι3×ι4×ι5×ι6×ι7×ι8×ι9×ι10×ι11 // v x.1 x.2.1 x.2.2.1 x.2.2.2.1 x.2.2.2.2.1 x.2.2.2.2.2.1 x.2.2.2.2.2.2.1 x.2.2.2.2.2.2.2.1 x.2.2.2.2.2.2.2.2.1 x.2.2.2.2.2.2.2.2.2.1 x.2.2.2.2.2.2.2.2.2.2.1 x.2.2.2.2.2.2.2.2.2.2.2=v y.1 y.2.1 y.2.2.1 y.2.2.2.1 y.2.2.2.2.1 y.2.2.2.2.2.1 y.2.2.2.2.2.2.1 y.2.2.2.2.2.2.2.1 y.2.2.2.2.2.2.2.2.1 y.2.2.2.2.2.2.2.2.2.1 y.2.2.2.2.2.2.2.2.2.2.1 y.2.2.2.2.2.2.2.2.2.2.2}=>ch y.1.1 y.1.2.1 y.1.2.2.1 y.1.2.2.2.1 y.1.2.2.2.2.1 y.1.2.2.2.2.2.1 y.1.2.2.2.2.2.2.1 y.1.2.2.2.2.2.2.2.1 y.1.2.2.2.2.2.2.2.2.1 y.1.2.2.2.2.2.2.2.2.2.1 y.1.2.2.2.2.2.2.2.2.2.2.1 y.1.2.2.2.2.2.2.2.2.2.2.2) ⟨x,J⟩⟩
 | @aX15 ι0 ι1 ι2 ι3 ι4 ι5 ι6 ι7 ι8 ι9 ι10 ι11 ι12 ι13 ι14 v ch,K,u,L,Z,w,hs,hk=>by
  obtain ⟨⟨x,hx⟩,hs⟩:=kK hs;subst hx;exact ⟨_,hk x.1 x.2.1 x.2.2.1 x.2.2.2.1 x.2.2.2.2.1 x.2.2.2.2.2.1 x.2.2.2.2.2.2.1 x.2.2.2.2.2.2.2.1 x.2.2.2.2.2.2.2.2.1 x.2.2.2.2.2.2.2.2.2.1 x.2.2.2.2.2.2.2.2.2.2.1 x.2.2.2.2.2.2.2.2.2.2.2.1 x.2.2.2.2.2.2.2.2.2.2.2.2.1 x.2.2.2.2.2.2.2.2.2.2.2.2.2.1 x.2.2.2.2.2.2.2.2.2.2.2.2.2.2,hs,fun L'=>fb (Q:=fun y:{y:ι0×ι1×ι2×ι3×ι4×ι5×ι6×ι7×ι8×ι9×ι10×ι11×ι12×ι13×ι14 // v x.1 x.2.1 x.2.2.1 x.2.2.2.1 x.2.2.2.2.1 x.2.2.2.2.2.1 x.2.2.2.2.2.2.1 x.2.2.2.2.2.2.2.1 x.2.2.2.2.2.2.2.2.1 x.2.2.2.2.2.2.2.2.2.1 x.2.2.2.2.2.2.2.2.2.2.1 x.2.2.2.2.2.2.2.2.2.2.2.1 x.2.2.2.2.2.2.2.2.2.2.2.2.1 x.2.2.2.2.2.2.2.2.2.2.2.2.2.1 x.2.2.2.2.2.2.2.2.2.2.2.2.2.2=v y.1 y.2.1 y.2.2.1 y.2.2.2.1 y.2.2.2.2.1 y.2.2.2.2.2.1 y.2.2.2.2.2.2.1 y.2.2.2.2.2.2.2.1 y.2.2.2.2.2.2.2.2.1 y.2.2.2.2.2.2.2.2.2.1 y.2.2.2.2.2.2.2.2.2.2.1 y.2.2.2.2.2.2.2.2.2.2.2.1 y.2.2.2.2.2.2.2.2.2.2.2.2.1 y.2.2.2.2.2.2.2.2.2.2.2.2.2.1 y.2.2.2.2.2.2.2.2.2.2.2.2.2.2}=>ch y.1.1 y.1.2.1 y.1.2.2.1 y.1.2.2.2.1 y.1.2.2.2.2.1 y.1.2.2.2.2.2.1 y.1.2.2.2.2.2.2.1 y.1.2.2.2.2.2.2.2.1 y.1.2.2.2.2.2.2.2.2.1 y.1.2.2.2.2.2.2.2.2.2.1 y.1.2.2.2.2.2.2.2.2.2.2.1 y.1.2.2.2.2.2.2.2.2.2.2.2.1 y.1.2.2.2.2.2.2.2.2.2.2.2.2.1 y.1.2.2.2.2.2.2.2.2.2.2.2.2.2.1 y.1.2.2.2.2.2.2.2.2.2.2.2.2.2.2) ⟨x,J⟩⟩
 | @aX21 ι0 ι1 ι2 ι3 ι4 ι5 ι6 ι7 ι8 ι9 ι10 ι11 ι12 ι13 ι14 ι15 ι16 ι17 ι18 ι19 ι20 v ch,K,u,L,Z,w,hs,hk=>by
  obtain ⟨⟨x,hx⟩,hs⟩:=kK hs;subst hx
  exact ⟨_,hk x.1 x.2.1 x.2.2.1 x.2.2.2.1 x.2.2.2.2.1 x.2.2.2.2.2.1 x.2.2.2.2.2.2.1 x.2.2.2.2.2.2.2.1 x.2.2.2.2.2.2.2.2.1 x.2.2.2.2.2.2.2.2.2.1 x.2.2.2.2.2.2.2.2.2.2.1 x.2.2.2.2.2.2.2.2.2.2.2.1 x.2.2.2.2.2.2.2.2.2.2.2.2.1 x.2.2.2.2.2.2.2.2.2.2.2.2.2.1 x.2.2.2.2.2.2.2.2.2.2.2.2.2.2.1 x.2.2.2.2.2.2.2.2.2.2.2.2.2.2.2.1 x.2.2.2.2.2.2.2.2.2.2.2.2.2.2.2.2.1 x.2.2.2.2.2.2.2.2.2.2.2.2.2.2.2.2.2.1 x.2.2.2.2.2.2.2.2.2.2.2.2.2.2.2.2.2.2.1 x.2.2.2.2.2.2.2.2.2.2.2.2.2.2.2.2.2.2.2.1 x.2.2.2.2.2.2.2.2.2.2.2.2.2.2.2.2.2.2.2.2,hs,fun L'=>fb (Q:=fun y:{y:ι0×ι1×ι2×ι3×ι4×ι5×ι6×ι7×ι8×ι9×ι10×ι11×ι12×ι13×ι14×ι15×ι16×ι17×ι18×ι19×ι20 // v x.1 x.2.1 x.2.2.1 x.2.2.2.1 x.2.2.2.2.1 x.2.2.2.2.2.1 x.2.2.2.2.2.2.1 x.2.2.2.2.2.2.2.1 x.2.2.2.2.2.2.2.2.1 x.2.2.2.2.2.2.2.2.2.1 x.2.2.2.2.2.2.2.2.2.2.1 x.2.2.2.2.2.2.2.2.2.2.2.1 x.2.2.2.2.2.2.2.2.2.2.2.2.1 x.2.2.2.2.2.2.2.2.2.2.2.2.2.1 x.2.2.2.2.2.2.2.2.2.2.2.2.2.2.1 x.2.2.2.2.2.2.2.2.2.2.2.2.2.2.2.1 x.2.2.2.2.2.2.2.2.2.2.2.2.2.2.2.2.1 x.2.2.2.2.2.2.2.2.2.2.2.2.2.2.2.2.2.1 x.2.2.2.2.2.2.2.2.2.2.2.2.2.2.2.2.2.2.1 x.2.2.2.2.2.2.2.2.2.2.2.2.2.2.2.2.2.2.2.1 x.2.2.2.2.2.2.2.2.2.2.2.2.2.2.2.2.2.2.2.2=v y.1 y.2.1 y.2.2.1 y.2.2.2.1 y.2.2.2.2.1 y.2.2.2.2.2.1 y.2.2.2.2.2.2.1 y.2.2.2.2.2.2.2.1 y.2.2.2.2.2.2.2.2.1 y.2.2.2.2.2.2.2.2.2.1 y.2.2.2.2.2.2.2.2.2.2.1 y.2.2.2.2.2.2.2.2.2.2.2.1 y.2.2.2.2.2.2.2.2.2.2.2.2.1 y.2.2.2.2.2.2.2.2.2.2.2.2.2.1 y.2.2.2.2.2.2.2.2.2.2.2.2.2.2.1 y.2.2.2.2.2.2.2.2.2.2.2.2.2.2.2.1 y.2.2.2.2.2.2.2.2.2.2.2.2.2.2.2.2.1 y.2.2.2.2.2.2.2.2.2.2.2.2.2.2.2.2.2.1 y.2.2.2.2.2.2.2.2.2.2.2.2.2.2.2.2.2.2.1 y.2.2.2.2.2.2.2.2.2.2.2.2.2.2.2.2.2.2.2.1 y.2.2.2.2.2.2.2.2.2.2.2.2.2.2.2.2.2.2.2.2}=>ch y.1.1 y.1.2.1 y.1.2.2.1 y.1.2.2.2.1 y.1.2.2.2.2.1 y.1.2.2.2.2.2.1 y.1.2.2.2.2.2.2.1 y.1.2.2.2.2.2.2.2.1 y.1.2.2.2.2.2.2.2.2.1 y.1.2.2.2.2.2.2.2.2.2.1 y.1.2.2.2.2.2.2.2.2.2.2.1 y.1.2.2.2.2.2.2.2.2.2.2.2.1 y.1.2.2.2.2.2.2.2.2.2.2.2.2.1 y.1.2.2.2.2.2.2.2.2.2.2.2.2.2.1 y.1.2.2.2.2.2.2.2.2.2.2.2.2.2.2.1 y.1.2.2.2.2.2.2.2.2.2.2.2.2.2.2.2.1 y.1.2.2.2.2.2.2.2.2.2.2.2.2.2.2.2.2.1 y.1.2.2.2.2.2.2.2.2.2.2.2.2.2.2.2.2.2.1 y.1.2.2.2.2.2.2.2.2.2.2.2.2.2.2.2.2.2.2.1 y.1.2.2.2.2.2.2.2.2.2.2.2.2.2.2.2.2.2.2.2.1 y.1.2.2.2.2.2.2.2.2.2.2.2.2.2.2.2.2.2.2.2.2) ⟨x,J⟩⟩
end Asn
open Asn
theorem ku {u:Value}(hp:u=v)(h:Cv L L0):Cv L ((Asn.aV v).full u++L0):=h.trans (LH hp)
theorem Sr {v:ι0->Value}{ch:ι0->Wa}(x0:ι0)(h:Cv L (ch x0++L0)):Cv L ((Asn.aX1 v ch).full (v x0)++L0):=h.trans (fb (Q:=fun y:{y:ι0 // v x0=v y}=>ch y.1) ⟨x0,rfl⟩)
theorem Ic {ι1 ι2:Type}{v:ι0->ι1->ι2->Value}{ch:ι0->ι1->ι2->Wa}(x0:ι0)(x1:ι1)(x2:ι2)(h:Cv L (ch x0 x1 x2++L0)):Cv L ((Asn.aX3 v ch).full (v x0 x1 x2)++L0):=h.trans (fb (Q:=fun y:{y:ι0×ι1×ι2 // v x0 x1 x2=v y.1 y.2.1 y.2.2}=>ch y.1.1 y.1.2.1 y.1.2.2) ⟨(x0,x1,x2),rfl⟩)
theorem Sq {ι1 ι2 ι3 ι4 ι5:Type}{v:ι0->ι1->ι2->ι3->ι4->ι5->Value}{ch:ι0->ι1->ι2->ι3->ι4->ι5->Wa}(x0:ι0)(x1:ι1)(x2:ι2)(x3:ι3)(x4:ι4)(x5:ι5)(h:Cv L (ch x0 x1 x2 x3 x4 x5++L0)):Cv L ((Asn.aX6 v ch).full (v x0 x1 x2 x3 x4 x5)++L0):=h.trans (fb (Q:=fun y:{y:ι0×ι1×ι2×ι3×ι4×ι5 // v x0 x1 x2 x3 x4 x5=v y.1 y.2.1 y.2.2.1 y.2.2.2.1 y.2.2.2.2.1 y.2.2.2.2.2}=>ch y.1.1 y.1.2.1 y.1.2.2.1 y.1.2.2.2.1 y.1.2.2.2.2.1 y.1.2.2.2.2.2) ⟨(x0,x1,x2,x3,x4,x5),rfl⟩)
def Ji (ds:List Nat)(As:List Asn):List Nat->(bA->Wa->Wa->Prop)->bA->Wa->Wa->Prop
 | [],K,s,L,L2=>K s L L2
 |i::r,K,s,L,L2=>(As.getD i (aV undef)).Op fun u c=>Ji ds As r (fun s' L' L2'=>K ((ds.getD i 0,u)::s') (c++L') (c++L2')) s L L2
abbrev Qt (ds:List Nat)(As:List Asn)(ix:List Nat)(K:bA->Wa->Prop)(s:bA)(L:Wa):Prop:=Ji ds As ix (fun s L _=>K s L) s L L
def uX (As:List Asn):List (Value->Wa):=As.map Asn.full
theorem C8 (As:List Asn)(i:Nat)(h:i<As.length):(uX As).getD i (fun _=> [])=(As.getD i (aV undef)).full:=by
 simp [uX,h]
section
variable {As:List Asn}{val:Nat->Value}
theorem JF {r:List Nat}(hi:i<As.length):DJ (uX As) val (i::r) L=(As.getD i (aV undef)).full (val i)++DJ (uX As) val r L:=by
 unfold DJ;rw [WH,C8 _ _ hi,V3]
theorem wJ {w:World}: ∀(ix:List Nat) (K:bA->Wa->Wa->Prop) (Z:Wa),(∀i∈ix,i<As.length)->Sp Z (DJ (uX As) val ix L) w->Ji ds As ix K s L L2-> ∃C,K (Gm ds val ix s) (C++L) (C++L2)/\Sp Z (C++L) w/\ ∀L',Cv (C++L') (DJ (uX As) val ix L')
 | [],K,Z,_,hw,h=>⟨[],h,hw,fun L'=>ah _⟩
 | i::r,K,Z,hi,hw,h=>by
  have hil:=hi i (by simp);rw [JF hil] at hw;obtain ⟨c,h1,h2,h3⟩:=(As.getD i (aV undef)).hop _ _ _ _ _ hw h
  have h4:Sp (c++Z) (DJ (uX As) val r L) w:=SepL.perm h2 (by
   show ((c++DJ (uX As) val r L)++Z).Perm (DJ (uX As) val r L++(c++Z));rw [V3]
   exact (Xi _ _ _))
  obtain ⟨C,g1,g2,g3⟩:=wJ r _ (c++Z) (fun j hj=>hi j (by simp [hj])) h4 h1;refine ⟨c++C,?_,?_,fun L'=> ?_⟩
  ·rw [V3,V3];exact g1
  ·rw [V3];refine SepL.perm g2 ?_;show ((C++L)++(c++Z)).Perm ((c++(C++L))++Z);rw [V3 c (C++L) Z];exact Xi _ _ _
  rw [V3,JF hil];exact (vv c (g3 L')).trans (h3 _)
variable {A:Value->Wa}
theorem NH {ix:List Nat}(hi:∀i∈ix,i<As.length)(h:Ji ds As ix (fun s' L' L''=>Rp P ops s' L' L'' o A) s L L2):Rp P ops (Gm ds val ix s) (DJ (uX As) val ix L) (DJ (uX As) val ix L2) o A:=fun Z w hw=>by
 obtain ⟨C,h1,h2,h3⟩:=wJ ix _ Z hi hw h;rcases h1 Z w h2 with ⟨h1,h2⟩|⟨h1,h2⟩
 ·refine .inl ⟨h1,fun ρ hρ=> ?_⟩;rcases h2 ρ hρ with ⟨v,w',L',h1,h2,h4⟩|⟨w',L',h1,h2,h4⟩|⟨f,args,h1,h2⟩|⟨l,f,t,a,b,h1,h2⟩
  ·exact .inl ⟨v,w',L',h1,h2,h4.trans (vv _ (h3 _))⟩
  ·exact .inr (.inl ⟨w',L',h1,h2,h4.trans (vv _ (h3 _))⟩)
  ·exact .inr (.inr (.inl ⟨f,args,h1,h2.mono fun e w' ⟨v,L',g1,g2,g3⟩=>⟨v,L',g1,g2,g3.trans (vv _ (h3 _))⟩⟩))
  exact .inr (.inr (.inr ⟨l,f,t,a,b,h1,h2.mono fun e w' ⟨v,L',g1,g2,g3⟩=>⟨v,L',g1,g2,g3.trans (vv _ (h3 _))⟩⟩))
 exact .inr ⟨h1,vv _ (h3 _) _ _ h2⟩
theorem NX {ix:List Nat}(hi:∀i∈ix,i<As.length)(h:Qt ds As ix (fun s' L'=>UM P ops s' L' L' o A) s L):QS P ops (Gm ds val ix s) (DJ (uX As) val ix L) o A:=fun Z w hw=>by
 obtain ⟨C,h1,h2,h3⟩:=wJ ix _ Z hi hw h;obtain ⟨v,g1,g2,g3⟩:=h1 Z w h2;exact ⟨v,g1,g2,vv _ (h3 _) _ _ g3⟩
theorem Sl {ix:List Nat}(hi:∀i∈ix,i<As.length)(h:Qt ds As ix (fun s' L'=>Iq X ops K fuel listed s' L') s L):Iq X ops K fuel listed (Gm ds val ix s) (DJ (uX As) val ix L):=fun H Ds a w ha hds hw=>by
 obtain ⟨C,h1,h2,h3⟩:=wJ ix _ _ hi hw h;exact h1 H Ds a w ha hds h2
end
theorem lj {t:bA}(h:AV s t:=by first|exact dl|(repeat (first|exact PM|refine xB rfl ?_))):AV s t:=h
end
section
open Go.RowKit
class Fc (p:Prop):Prop where out:p
class FcA (P:Program) (t f:Nat) (o':outParam Nat):Prop where
  out: ∀b o w,(Instr.fieldAt t (.pointer (some ⟨b,o,none⟩)) f).run P w=.ok (.pointer (some ⟨b,o+o',none⟩)) w
class FcA0 (P:Program) (t f:Nat):Prop where
  out: ∀b o w,(Instr.fieldAt t (.pointer (some ⟨b,o,none⟩)) f).run P w=.ok (.pointer (some ⟨b,o,none⟩)) w
class FcS (P:Program) (t:Nat) (e:outParam Nat):Prop where
  out:P.underlying t=some (.slice e)
class FcG (P:Program) (t:Nat) (m:outParam Nat):Prop where
  out:Gq P t m=true
class FcZ (P:Program) (e:Nat) (sz:outParam Nat):Prop where
  out:kP P e sz=true
def MV:IntKind->IntKind->Bool
  | .i64,.i64=>true
  | .u64,.u64=>true
  | .u8,.u8=>true
  | .i32,.i32=>true
  | .u32,.u32=>true
  | .u16,.u16=>true
  | .i16,.i16=>true
  | .i8,.i8=>true
  |_,_=>false
theorem C3 {a b:IntKind}(h:MV a b=true):a=b:=by
  cases a<;>cases b<;>first|rfl|cases h
def TW (s:bA):Op->Option Value
  | .move x=>be s x
  | .assign x=>be s x
  | .unOp .not _ x=>match be s x with|some (.bool b)=>some (.bool (!b))|_=>none
  | .binOp .eql _ x y _=>match be s x,be s y with|some (.int k a),some (.int k' b)=>bif MV k k' then some (.bool (decide (a=b))) else none|_,_=>none
  | .binOp .neq _ x y _=>match be s x,be s y with|some (.int k a),some (.int k' b)=>bif MV k k' then some (.bool (!decide (a=b))) else none|_,_=>none
  | .binOp .lss _ x y _=>match be s x,be s y with|some (.int k a),some (.int k' b)=>bif MV k k' then some (.bool (decide (a<b))) else none|_,_=>none
  | .binOp .leq _ x y _=>match be s x,be s y with|some (.int k a),some (.int k' b)=>bif MV k k' then some (.bool (decide (a<=b))) else none|_,_=>none
  | .binOp .gtr _ x y _=>match be s x,be s y with|some (.int k a),some (.int k' b)=>bif MV k k' then some (.bool (decide (b<a))) else none|_,_=>none
  | .binOp .geq _ x y _=>match be s x,be s y with|some (.int k a),some (.int k' b)=>bif MV k k' then some (.bool (decide (b<=a))) else none|_,_=>none
  | .pick c x y=>match be s c with|some (.bool true)=>be s x|some (.bool false)=>be s y|_=>none
  | .extract x i=>match be s x with|some (.tuple vs)=>vs[i]? |_=>none
  | .nilCheck x=>match be s x with|some (.pointer (some a))=>some (.pointer (some a))|_=>none
  |_=>none
section
variable {d:Option Nat}{op:Op}
theorem O1 (h:TW s op=some v):Ev P s (fun _=>True) ⟨d,op,ty,pos,af,gd⟩ v:=by
  unfold TW at h;split at h
  ·exact ao h
  ·exact mi h
  · split at h
    ·cases h;exact OZ ‹_›
    ·cases h
  · split at h
    · rename_i k a k' b hx hy
      cases hk:MV k k' with
      |false=>rw [hk] at h;cases h
      |true=>rw [hk] at h;cases C3 hk;cases h;exact RF hx hy
    ·cases h
  · split at h
    · rename_i k a k' b hx hy
      cases hk:MV k k' with
      |false=>rw [hk] at h;cases h
      |true=>rw [hk] at h;cases C3 hk;cases h;exact RE hx hy
    ·cases h
  · split at h
    · rename_i k a k' b hx hy
      cases hk:MV k k' with
      |false=>rw [hk] at h;cases h
      |true=>rw [hk] at h;cases C3 hk;cases h;exact Tl hx hy
    ·cases h
  · split at h
    · rename_i k a k' b hx hy
      cases hk:MV k k' with
      |false=>rw [hk] at h;cases h
      |true=>rw [hk] at h;cases C3 hk;cases h;exact Tm hx hy
    ·cases h
  · split at h
    · rename_i k a k' b hx hy
      cases hk:MV k k' with
      |false=>rw [hk] at h;cases h
      |true=>rw [hk] at h;cases C3 hk;cases h;exact Tn hx hy
    ·cases h
  · split at h
    · rename_i k a k' b hx hy
      cases hk:MV k k' with
      |false=>rw [hk] at h;cases h
      |true=>rw [hk] at h;cases C3 hk;cases h;exact To hx hy
    ·cases h
  · split at h
    ·exact GZ ‹_› h
    ·exact G0 ‹_› h
    ·cases h
  · split at h
    ·exact uy ‹_› h
    ·cases h
  · split at h
    ·cases h;exact bF ‹_›
    ·cases h
  ·cases h
end
structure RunT (X:Cx) (ops:Array Oper) (o:Oper) (rest:List Oper) (K:K3) (s:bA) (L:Wa):Prop where
  out:aA ops s o=some true->aY X ops (o::rest) K s L
section
variable {rest:List Oper}{d:Nat}{op:Op}
theorem Ug (h:RunT X ops o rest K s L)(hg:aA ops s o=some true:=by first|exact rfl|exact el (by assumption) rfl|exact pc (by assumption) rfl):aY X ops (o::rest) K s L:=h.out hg
theorem Uh (k:aY X ops rest K ((d,undef)::s) L)(hg:aA ops s ⟨some d,op,ty,pos,af,gd⟩=some false:=by first|exact rfl|exact KM (by assumption) rfl|exact Th (by assumption) rfl)(hd:Nat.ble (d+1) X.n=true:=by exact rfl):aY X ops (⟨some d,op,ty,pos,af,gd⟩::rest) K s L:=UO hg hd k
theorem tE (h:TW s op=some v)(hn:eF ⟨some d,op,ty,pos,af,gd⟩=true)(hd:Nat.ble (d+1) X.n=true)(k:aY X ops rest K ((d,v)::s) L):RunT X ops ⟨some d,op,ty,pos,af,gd⟩ rest K s L:=⟨fun hg=>gT (O1 h) hn hg hd k⟩
theorem tP {c:Operand}{g:Bool}(hc:be s c=some (.bool g))(hg:g=true)(hx:be s x=some v)(hd:Nat.ble (d+1) X.n=true)(k:aY X ops rest K ((d,v)::s) L):RunT X ops ⟨some d,.pick c x y,ty,pos,af,gd⟩ rest K s L:=⟨fun hh=>gT (AN hg hc hx) rfl hh hd k⟩
theorem tQ {c:Operand}{g:Bool}(hc:be s c=some (.bool g))(hg:g=false)(hy:be s y=some v)(hd:Nat.ble (d+1) X.n=true)(k:aY X ops rest K ((d,v)::s) L):RunT X ops ⟨some d,.pick c x y,ty,pos,af,gd⟩ rest K s L:=⟨fun hh=>gT (AO hg hc hy) rfl hh hd k⟩
theorem US {t f b o:Nat}[h:FcA0 X.P t f](hx:be s x=some (.pointer (some ⟨b,o,none⟩)))(hd:Nat.ble (d+1) X.n=true)(k:aY X ops rest K ((d,.pointer (some ⟨b,o,none⟩))::s) L):RunT X ops ⟨some d,.fieldAddr t x f,ty,pos,af,gd⟩ rest K s L:=⟨fun hh=>gT (sC hx h.out) rfl hh hd k⟩
theorem tF {t f o' b o:Nat}[h:FcA X.P t f o'](hx:be s x=some (.pointer (some ⟨b,o,none⟩)))(hd:Nat.ble (d+1) X.n=true)(k:aY X ops rest K ((d,.pointer (some ⟨b,o+o',none⟩))::s) L):RunT X ops ⟨some d,.fieldAddr t x f,ty,pos,af,gd⟩ rest K s L:=⟨fun hh=>gT (jW hx h.out) rfl hh hd k⟩
theorem tB {bt:TypeId}{b o:Nat}[hu:Fc (i9 X.P t=true)](i:Nat)(hi:L[i]? =some (ae b bt cs))(hx:be s x=some (.pointer (some ⟨b,o,none⟩)))(hc:cs[o]? =some v)(hd:Nat.ble (d+1) X.n=true)(k:aY X ops rest K ((d,v)::s) L):RunT X ops ⟨some d,.load t x,ty,pos,af,gd⟩ rest K s L:=⟨fun hh=>sG (bM i hi hx hu.out hc) rfl hh hd k⟩
theorem SK (h:aY X ops l K s L):aY X ops l K s L:=h
theorem Uv {s2:bA}(h:aY X ops l (vd s2 L2) s L):aY X ops l (vd s2 L2) s L:=h
theorem Ux (hl:l'=o::l)(h:aY X ops (o::l) K s L):aY X ops l' K s L:=hl▸h
theorem Uu (hl:l'=[])(h:K .normal s L):aY X ops l' K s L:=hl▸Aj h
theorem Uw {id:Nat}{ps:Array Nat}{x y:Code}(h:Wq X (.block id (.rangeFunc g ps x y)) K s L):Wq X (.block id (.rangeFunc g ps x y)) K s L:=h
theorem Us (h:Wq X c K s L):Wq X c K s L:=h
end
structure Bxd (q:Prop):Prop where un:q
theorem B {p q:Prop}(k:q)(h:Bxd q->p:=by
  intro k
  repeat (first
    | (with_reducible refine SK ?_
       refine Ux J ?_
       first
         | (refine Ug ?_
            first
              |refine tE rfl rfl rfl ?_
              |refine US rfl rfl ?_
              |refine tF rfl rfl ?_
              |refine tB 0 rfl rfl rfl rfl ?_
              |refine tB 1 rfl rfl rfl rfl ?_
              |refine tB 2 rfl rfl rfl rfl ?_
              |refine tB 3 rfl rfl rfl rfl ?_
              |refine tB 4 rfl rfl rfl rfl ?_
              |refine tB 5 rfl rfl rfl rfl ?_
              |refine tB 6 rfl rfl rfl rfl ?_
              |refine tB 7 rfl rfl rfl rfl ?_
              |refine tP rfl (by assumption) rfl rfl ?_
              |refine tQ rfl (by assumption) rfl rfl ?_)
         |refine Uh ?_)
    | (with_reducible refine SK ?_
       fail_if_success with_reducible refine Uv ?_
       refine Uu J ?_)
    | (with_reducible refine Us ?_
       first
         |refine au (ke ?_)
         |with_reducible refine ke ?_
         |with_reducible refine Is ?_
         | (fail_if_success with_reducible refine Uw ?_
            with_reducible refine Cw ?_)
         |with_reducible refine JV ?_
         |with_reducible refine KZ ?_)
    |with_reducible refine AB ?_
    |with_reducible refine Re ?_
    |with_reducible refine Sw ?_
    |with_reducible refine Sv ?_
    |with_reducible refine P9 ?_
    |with_reducible refine R7 ?_)
  exact k.un):p:=h ⟨k⟩
theorem Vd {p q:Prop}(k:q)(h:Bxd q->p:=by
  intro k
  repeat (first
    | (with_reducible refine SK ?_
       refine Ux J ?_
       first
         | (refine Ug ?_
            first
              |refine tE rfl rfl rfl ?_
              |refine US rfl rfl ?_
              |refine tF rfl rfl ?_
              |refine tB 0 rfl rfl rfl rfl ?_
              |refine tB 1 rfl rfl rfl rfl ?_
              |refine tB 2 rfl rfl rfl rfl ?_
              |refine tB 3 rfl rfl rfl rfl ?_
              |refine tB 4 rfl rfl rfl rfl ?_
              |refine tB 5 rfl rfl rfl rfl ?_
              |refine tB 6 rfl rfl rfl rfl ?_
              |refine tB 7 rfl rfl rfl rfl ?_
              |refine tP rfl (by assumption) rfl rfl ?_
              |refine tQ rfl (by assumption) rfl rfl ?_)
         |refine Uh ?_))
  exact k.un):p:=h ⟨k⟩
theorem Vc {p q:Prop}(k:q)(h:Bxd q->p:=by
  intro k
  repeat (first
    | (with_reducible refine SK ?_
       fail_if_success with_reducible refine Uv ?_
       refine Uu J ?_)
    | (with_reducible refine Us ?_
       first
         |refine au (ke ?_)
         |with_reducible refine ke ?_
         |with_reducible refine Is ?_
         | (fail_if_success with_reducible refine Uw ?_
            with_reducible refine Cw ?_)
         |with_reducible refine JV ?_
         |with_reducible refine KZ ?_)
    |with_reducible refine AB ?_
    |with_reducible refine Re ?_
    |with_reducible refine Sw ?_
    |with_reducible refine Sv ?_
    |with_reducible refine P9 ?_
    |with_reducible refine R7 ?_)
  exact k.un):p:=h ⟨k⟩
end
section
open Go.RowKit
open Asn
def K9 (m:Nat)(listed:Array Bool)(Bs:List Wa):Wa:=((List.range m).filter fun i=> !listed.getD i false).flatMap fun i=>Bs.getD i []
theorem K8 (h:∀i,i<m->listed.getD i false=true):K9 m listed Bs=[]:=by
 unfold K9;rw [List.filter_eq_nil_iff.2 fun i hi=>by rw [h i (Xe.1 hi)];simp];rfl
theorem NC (hj:j<m)(hf:listed.getD j false=false)(hs:j<listed.size):(K9 m listed Bs).Perm (Bs.getD j []++K9 m (listed.setIfInBounds j true) Bs):=by
 unfold K9
 have hp:((List.range m).filter fun i=> !listed.getD i false).Perm (j::(List.range m).filter fun i=> !(listed.setIfInBounds j true).getD i false):=by
  refine (List.perm_ext_iff_of_nodup (List.nodup_range.filter _) (List.nodup_cons.2 ⟨fun h=> ?_,List.nodup_range.filter _⟩)).2 fun k=> ?_
  ·have h2:=(Xb.1 h).2;simp [hs] at h2
  rw [W9,Xb,Xb];by_cases e:k=j
  ·subst e;simp [hj,hf]
  have h3:(listed.setIfInBounds j true).getD k false=listed.getD k false:=by
   simp [Wh (fun h=>e h.symm)]
  rw [h3];simp [e]
 exact hp.flatMap_right _
theorem Mu {F Fp Fr hE hU U' L D:List α}(h1:F.Perm (Fp++Fr))(h2:hE.Perm (hU++U')):(F++(hE++L)++D).Perm ((Fp++(hU++L))++(Fr++(U'++D))):=by
 classical
 rw [List.perm_iff_count] at h1 h2⊢;intro x;have:=h1 x;have:=h2 x;simp only [List.count_append] at*;omega
theorem NZ {F F' Fp Fr A hE L D:List α}(h1:F'.Perm (A++F))(h2:F.Perm (Fp++Fr)):((A++(Fp++L))++(Fr++(hE++D))).Perm (F'++(hE++L)++D):=by
 classical
 rw [List.perm_iff_count] at h1 h2⊢;intro x;have:=h1 x;have:=h2 x;simp only [List.count_append] at*;omega
theorem Rs {id:Nat}(hm:X.P.follows .mixedOrders=true)(m:Nat)(qs ds:List Nat)(pr:List (List Nat))(As:List (Value->Wa))(Bs:List Wa)(hL:Cv L0 (K9 m (Array.replicate l.length false) Bs++L))(hBq:∀q∈qs,Bs.getD q []=[])(hok:SX l.toArray m qs ds pr s X.n=true)(qstep:∀q∈qs, ∀(o:Oper),q<m->l.toArray[q]? =some o-> ∀val:Nat->Value,QS X.P l.toArray (Gm ds val (pr.getD q []) s) (DJ As val (pr.getD q []) L) o (As.getD q fun _=> []))(step:∀(i:Nat) (o:Oper),i<m->l.toArray[i]? =some o-> ∀val:Nat->Value,Rp X.P l.toArray (Gm ds val (pr.getD i []) s) (DJ As val (pr.getD i []) (Bs.getD i []++L)) (DJ As val (pr.getD i []) L) o (As.getD i fun _=> []))(fin:∀val:Nat->Value,Iq X l.toArray K (l.length - m) (pE (Array.replicate l.length false) (List.range m)) (Gm ds val (List.range m) s) (DJ As val (List.range m) L)):Wq X (.region id l.toArray true) K s L0:=by
 unfold SX at hok;simp only [XW,XO,Wu,Xe] at hok;obtain ⟨⟨⟨⟨⟨⟨⟨⟨hns,hqs⟩,h1⟩,h2⟩,h3⟩,h4⟩,h5⟩,h6⟩,h7⟩:=hok;simp only [List.size_toArray] at h2 h7 hqs
 have hdst: ∀i o,i<m->l.toArray[i]? =some o->o.dst=some (ds.getD i 0):=fun i o hi ho=>by
  have h8:=(h6 i hi).1.1.1;rw [ho] at h8
  have h9:o.dst=ds[i]? :=by simpa using h8
  rw [h9];simp [List.getD,h3,hi]
 have hds: ∀i j,i<m->j<m->ds.getD i 0=ds.getD j 0->i=j:=fun i j hi hj e=>by
  have e1:ds.getD i 0=ds[i]'U:=by simp [List.getD,h3,hi]
  have e2:ds.getD j 0=ds[j]'U:=by simp [List.getD,h3,hj]
  rw [e1,e2] at e;have hp:=Xh.1 h4;rcases Nat.lt_trichotomy i j with h|h|h
  ·exact absurd e (hp i j U U h)
  ·exact h
  exact absurd e.symm (hp j i U U h)
 have hdn: ∀i,i<m->ds.getD i 0<X.n/\ ∀k v,jq s k=some v->k≠ds.getD i 0:=fun i hi=>by
  have hmem:ds.getD i 0∈ds:=by
   have e1:ds.getD i 0=ds[i]'U:=by simp [List.getD,h3,hi]
   rw [e1];exact XY _
  have h8:=h5 _ hmem;refine ⟨Xw h8.1,fun k v hp e=> ?_⟩;have h9:=h8.2 _ (wb _ _ _ hp);simp only [e,Nat.beq_refl] at h9;cases h9
 have hpr: ∀i,i<m->(∀k∈pr.getD i [],k∈CN l.toArray i/\k<m)/\(pr.getD i []).Nodup/\ ∀k∈BD l.toArray i,k<i:=fun i hi=>by
  obtain ⟨⟨⟨-,g2⟩,g3⟩,g4⟩:=h6 i hi;refine ⟨fun k hk=> ?_,g3,fun k hk=> ?_⟩
  ·have g5:=g2 k hk;exact ⟨by simpa using g5.1,Nat.lt_of_succ_le (Xw g5.2)⟩
  exact Nat.lt_of_succ_le (Xw (g4 k hk))
 -- the invariant
 have main: ∀(fuel:Nat) (listed:Array Bool) (val:Nat->Value) (H:Wa) (Ds:List Nat) (a:Act) (w:World),listed.size=l.length->Er l.toArray listed->(∀t,m<=t->listed.getD t false=false)->fuel+(F4 m listed).length=l.length->Fx X s a->(∀i,i<m->listed.getD i false=true->a.tmps.getD (ds.getD i 0) undef=val i)->a.defers=Ds.map xb->Sp (Ds.map cc++H) (DJ As val (F4 m listed) (K9 m listed Bs++L)) w->wpAnyIn (D5 X.r) 0 X.P .any l.toArray (yP X H (z7 K)) fuel listed a w:=by
  intro fuel
  induction fuel with
  | zero=>
   intro listed val H Ds a w hsz hcl hhi hfu hfx hval hdf hsp;have hle:(F4 m listed).length<=(List.range m).length:=W0 _ _
   have hm':m=l.length:=by rw [List.length_range] at hle;omega
   have hlst:F4 m listed=List.range m:=List.filter_eq_self.2 fun i hi=>List.length_filter_eq_length_iff.1 (show (F4 m listed).length=(List.range m).length by rw [List.length_range];omega) i hi
   have hli:pE (Array.replicate l.length false) (List.range m)=listed:=by
    apply Array.ext
    ·rw [nb];simp [hsz]
    intro k hk a6;rw [nb] at hk;have e1:=Ao (List.range m) (Array.replicate l.length false) k hk;simp only [Array.size_replicate] at hk
    have hin:k∈F4 m listed:=by rw [hlst];simp;omega
    have e2:=(pY.1 hin).2
    have e3:(List.range m).contains k=true:=by simp;omega
    rw [e3,Bool.or_true] at e1;simp only [We,Wf,a6,XF] at e2
    have a8:k<(pE (Array.replicate l.length false) (List.range m)).size:=by rw [nb];simpa using hk
    simp only [We,Wf,a8,XF] at e1;rw [e1,e2]
   have hunl:K9 m listed Bs=[]:=K8 fun i hi=>(pY.1 (by rw [hlst];exact Xe.2 hi)).2
   rw [hlst,hunl,XX] at hsp
   have hf:=fin val H Ds a w ⟨hfx.size,fun k v hk=>by
    rcases BM _ _ _ _ hk with h|h
    ·obtain ⟨i,hi,he⟩:=Xc.1 (wb _ _ _ h);cases he
     have hi':i∈F4 m listed:=by rw [hlst];exact hi
     exact hval i (pY.1 hi').1 (pY.1 hi').2
    ·exact hfx.at_ k v h⟩ hdf hsp
   rw [hli,show l.length - m=0 by omega] at hf;exact hf
  | succ fuel ih=>
   intro listed val H Ds a w hsz hcl hhi hfu hfx hval hdf hsp;by_cases hall: ∀i,i<m->listed.getD i false=true
   ·have hlst:F4 m listed=List.range m:=List.filter_eq_self.2 fun i hi=>hall i (by simpa using hi)
    have hli:pE (Array.replicate l.length false) (List.range m)=listed:=by
     apply Array.ext
     ·rw [nb];simp [hsz]
     intro k hk a6;rw [nb] at hk;have e1:=Ao (List.range m) (Array.replicate l.length false) k hk
     have a8:k<(pE (Array.replicate l.length false) (List.range m)).size:=by rw [nb];exact hk
     simp only [We,Wf,a8,XF] at e1;rw [e1];simp only [Array.size_replicate] at hk;by_cases hkm:k<m
     ·have e2:=hall k hkm;simp only [We,Wf,a6,XF] at e2;rw [e2];simp [hkm]
     have e2:=hhi k U;simp only [We,Wf,a6,XF] at e2;rw [e2];simp [hk,hkm]
    rw [hlst,K8 hall,XX] at hsp;rw [hlst] at hfu;rw [List.length_range] at hfu
    have hf:=fin val H Ds a w ⟨hfx.size,fun k v hk=>by
     rcases BM _ _ _ _ hk with h|h
     ·obtain ⟨i,hi,he⟩:=Xc.1 (wb _ _ _ h);cases he
      have hi':i<m:=by simpa using hi
      exact hval i hi' (hall i hi')
     ·exact hfx.at_ k v h⟩ hdf hsp
    rw [hli,show l.length - m=fuel+1 by omega] at hf;exact hf
   have hex: ∃i,i<m/\listed.getD i false=false:=by
    refine Classical.byContradiction fun h=>hall fun i hi=> ?_
    cases hb:listed.getD i false with
    |true=>rfl
    |false=>exact absurd ⟨i,hi,hb⟩ h
   have hun: ∀i,listed.getD i false=false->i<l.length->listed.getD i true=false:=fun i hi hlt=>by
    simp only [We,Wf,hsz,hlt,XF] at hi⊢;exact hi
   have hleast: ∃i0,i0<m/\listed.getD i0 false=false/\i0∈Region.ready .any l.toArray listed:=by
    obtain ⟨⟨hi0,hu0⟩,hmin⟩:=leastOf_spec hex;generalize leastOf (fun i=>i<m/\listed.getD i false=false)=i0 at hi0 hu0 hmin
    have hlt:i0<l.length:=by omega
    refine ⟨i0,hi0,hu0,?_⟩
    
    refine mem_ready.2 ⟨hun i0 hu0 hlt,l[i0],by simp [hlt],fun e he hb=> ?_⟩
    have hon:e.on∈BD l.toArray i0:=by
     unfold BD;rw [show l.toArray[i0]? =some l[i0] by simp [hlt]];exact Xc.2 ⟨e,Xb.2 ⟨by simpa using he,hb⟩,J⟩
    have hlt2:=(hpr i0 hi0).2.2 _ hon
    cases b6:listed.getD e.on false with
    |true=>rfl
    |false=>have:=hmin _ ⟨by omega,b6⟩;omega
   -- what an operation takes,and going on behind it
   have prep: ∀j o,j∈Region.ready .any l.toArray listed->j<m->l.toArray[j]? =some o-> ∃rest:List Nat,
     Sp ((rest.flatMap fun i=>(As.getD i fun _=> []) (val i))++(K9 m (listed.setIfInBounds j true) Bs++(Ds.map cc++H))) (DJ As val (pr.getD j []) (Bs.getD j []++L)) w/\Fx X (Gm ds val (pr.getD j []) s) a/\
     ∀(v:Value) (w':World),Sp ((rest.flatMap fun i=>(As.getD i fun _=> []) (val i))++(K9 m (listed.setIfInBounds j true) Bs++(Ds.map cc++H))) ((As.getD j fun _=> []) v++DJ As val (pr.getD j []) L) w'->wpAnyIn (D5 X.r) 0 X.P .any l.toArray (yP X H (z7 K)) fuel (listed.setIfInBounds j true) (a.put o.dst v) w':=by
    intro j o hj hjm ho;obtain ⟨hju,o2,ho2,hedge⟩:=mem_ready.1 hj;rw [ho] at ho2;cases ho2
    have hjl:j<l.length:=by
     have:=(Array.getElem?_eq_some_iff.1 ho).1;simpa using this
    have hjf:listed.getD j false=false:=by
     simp only [We,Wf,hsz,hjl,XF] at hju⊢;exact hju
    obtain ⟨hp1,hp2,hp3⟩:=hpr j hjm
    have hps: ∀k∈pr.getD j [],k∈F4 m listed:=fun k hk=>by
     obtain ⟨g1,g2⟩:=hp1 k hk;exact pY.2 ⟨g2,At hcl hj (xV k g1)⟩
    have hd:=hdst j o hjm ho;obtain ⟨hdlt,hdne⟩:=hdn j hjm
    -- the chunks that the operation takes,and the rest
    have hperm:(F4 m listed).Perm (pr.getD j []++(F4 m listed).filter fun k=> !(pr.getD j []).contains k):=by
     refine (List.perm_ext_iff_of_nodup lst_nodup ?_).2 fun k=> ?_
     ·refine Xg.2 ⟨hp2,lst_nodup.filter _,fun x hx y hy e=> ?_⟩;subst e;have h11:=(Xb.1 hy).2;have h12:(pr.getD j []).contains x=true:=List.contains_iff_mem.2 hx;rw [h12] at h11;cases h11
     constructor
     ·intro hk;by_cases hkp:k∈pr.getD j []
      ·exact V4 _ hkp
      exact V5 _ (Xb.2 ⟨hk,by simpa using hkp⟩)
     intro hk;rcases W8.1 hk with hk|hk
     ·exact hps k hk
     exact (Xb.1 hk).1
    generalize hrest:(F4 m listed).filter (fun k=> !(pr.getD j []).contains k)=rest at hperm
    have hsp1:Sp ((rest.flatMap fun i=>(As.getD i fun _=> []) (val i))++(K9 m (listed.setIfInBounds j true) Bs++(Ds.map cc++H))) (DJ As val (pr.getD j []) (Bs.getD j []++L)) w:=by
     refine SepL.perm hsp ?_;unfold DJ;have e1:=En (As:=As) (val:=val) hperm;rw [WG] at e1;have e9:=NC (Bs:=Bs) (m:=m) (listed:=listed) hjm hjf (by rw [hsz];exact hjl);exact Mu e1 e9
    have hfxs:Fx X (Gm ds val (pr.getD j []) s) a:=⟨hfx.size,fun k v hk=>by
     rcases BM _ _ _ _ hk with h|h
     ·obtain ⟨i,hi,he⟩:=Xc.1 (wb _ _ _ h);cases he;exact hval i (pY.1 (hps i hi)).1 (pY.1 (hps i hi)).2
     ·exact hfx.at_ k v h⟩
    refine ⟨rest,hsp1,hfxs,?_⟩
    have go: ∀(v:Value) (w':World),Sp ((rest.flatMap fun i=>(As.getD i fun _=> []) (val i))++(K9 m (listed.setIfInBounds j true) Bs++(Ds.map cc++H))) ((As.getD j fun _=> []) v++DJ As val (pr.getD j []) L) w'->wpAnyIn (D5 X.r) 0 X.P .any l.toArray (yP X H (z7 K)) fuel (listed.setIfInBounds j true) (a.put o.dst v) w':=by
     intro v w' hsp2;rw [hd]
     have hjn:j∉F4 m listed:=fun h=>by have:=(pY.1 h).2;rw [hjf] at this;cases this
     have b0:(F4 m (listed.setIfInBounds j true)).Perm (j::F4 m listed):=by
      refine (List.perm_ext_iff_of_nodup lst_nodup (List.nodup_cons.2 ⟨hjn,lst_nodup⟩)).2 fun k=> ?_
      rw [pY,W9,pY];constructor
      ·rintro ⟨g1,g2⟩;rcases uv g2 with e|e
       ·exact .inl e
       exact .inr ⟨g1,e⟩
      rintro (e|⟨g1,g2⟩)
      ·subst e;refine ⟨hjm,?_⟩;simp [hsz,hjl]
      exact ⟨g1,getD_set_true g2⟩
     refine ih (listed.setIfInBounds j true) (fun k=>if k=j then v else val k) H Ds (a.put (some (ds.getD j 0)) v) w' (by simpa using hsz) (KS hcl hj) (fun t ht=> ?_) ?_ ?_ ?_ ((put_defers _ _ _).trans hdf) ?_
     ·rw [getD_set_ne false U];exact hhi t ht
     ·have:=b0.length_eq;rw [WY] at this;omega
     ·refine (hfx.put v hdlt).sub fun k u hk=> ?_
      rw [kX,if_neg (fun e=>hdne k u hk e.symm)];exact hk
     ·intro i hi hli;have hput:(a.put (some (ds.getD j 0)) v).tmps=a.tmps.setIfInBounds (ds.getD j 0) v:=rfl;rw [hput];by_cases e:i=j
      ·subst e;rw [if_pos rfl]
       have h13:ds.getD i 0<a.tmps.size:=by rw [hfx.size];exact hdlt
       generalize ds.getD i 0=dd at h13⊢;simp [h13]
      rw [if_neg e];rcases uv hli with e2|e2
      ·exact absurd e2 e
      rw [<-hval i hi e2]
      have hne:ds.getD j 0≠ds.getD i 0:=fun h=>e (hds j i hjm hi h).symm
      generalize ds.getD j 0=dd at hne⊢;generalize ds.getD i 0=de at hne⊢;simp [Wh hne]
     refine SepL.perm hsp2 ?_;unfold DJ;have e1:=En (As:=As) (val:=fun k=>if k=j then v else val k) b0;rw [WH,if_pos rfl] at e1
     have e2:((F4 m listed).flatMap fun i=>(As.getD i fun _=> []) (if i=j then v else val i))=(F4 m listed).flatMap fun i=>(As.getD i fun _=> []) (val i):=by
      have key: ∀l':List Nat,(∀i∈l',i∈F4 m listed)->(l'.flatMap fun i=>(As.getD i fun _=> []) (if i=j then v else val i))=l'.flatMap fun i=>(As.getD i fun _=> []) (val i):=by
       intro l'
       induction l' with
       |nil=>intro _;rfl
       |cons i l' ihl=>
        intro hl';rw [WH,WH,ihl fun q hq=>hl' q (by simp [hq]),if_neg (fun e:i=j=>hjn (e▸hl' i (by simp)))]
      exact key _ fun _ h=>h
     rw [e2] at e1;have e3:=En (As:=As) (val:=val) hperm;rw [WG] at e3;exact NZ e1 e3
    exact go
   by_cases hq: ∃q∈qs,q<m/\q∈Region.ready .any l.toArray listed
   ·-- an operation whose value does not depend on the world comes first
    obtain ⟨q,hqm,hqlt,hqr⟩:=hq;obtain ⟨hqu,o,ho,hedge⟩:=mem_ready.1 hqr;obtain ⟨rest,hsp1,hfxs,go⟩:=prep q o hqr hqlt ho;rw [hBq q hqm,XX] at hsp1;obtain ⟨v,hg,hev,hcv⟩:=qstep q hqm o hqlt ho val _ _ hsp1;have hfree:=hqs q hqm;rw [ho] at hfree;simp only [Wu,Xe] at hfree;refine AY _ _ _ _ (Ak (C:=fun _=>True) (oi:=o) (v:=v) ho (zi h1) (Region.noSelect_spec hns) (fun c a w ⟨_,_,_,_,_,_,he,_⟩=>(by cases he)) fuel listed a w trivial ?_ hqr (.inl ⟨eG hfxs hg,fun w' _=>hev a.eval (fun x u hx=>hfxs.eval hx) w' trivial⟩) (Ps _ _ _ _ (go v w hcv)));intro j oj hoj hne hul hno
    have hjl:j<l.length:=by
     have:=(Array.getElem?_eq_some_iff.1 hoj).1;simpa using this
    have h8:=hfree j hjl;rw [hoj] at h8;simp only [Bool.or_eq_true] at h8;rcases h8 with ((h8|h8)|h8)|h8
    ·exact absurd (Xu h8) hne
    ·obtain ⟨o',e,ho',he,hb,heq⟩:=E7 (List.contains_iff_mem.1 h8);rw [hoj] at ho';cases ho';exact absurd heq (hno e he hb)
    ·have h14:=At hcl hqr (xV j (List.contains_iff_mem.1 h8));simp only [We,Wf,hsz,hjl,XF] at h14 hul;rw [h14] at hul;cases hul
    exact h8
   refine ⟨fun hr=> ?_,fun j hj=> ?_⟩
   ·obtain ⟨i0, -, -,hin⟩:=hleast;rw [hr] at hin;cases hin
   obtain ⟨hju,o,ho,hedge⟩:=mem_ready.1 hj
   have hjl:j<l.length:=by
    have:=(Array.getElem?_eq_some_iff.1 ho).1;simpa using this
   have hjm:j<m:=by
    refine Classical.byContradiction fun hge=> ?_
    obtain ⟨i0,hi0,hu0,hin0⟩:=hleast;have h8:=h7 j hjl
    have h9:Nat.blt j m=false:=by
     cases hb:Nat.blt j m with
     |false=>rfl
     |true=>exact absurd (Nat.lt_of_succ_le (Xw hb)) hge
    rw [h9,Bool.false_or,Wu] at h8;have h10:=h8 i0 (by simpa using hi0);rw [Bool.or_eq_true] at h10;rcases h10 with h10|h10
    ·exact hq ⟨i0,List.contains_iff_mem.1 h10,hi0,hin0⟩
    have:=At hcl hj (xV i0 (by simpa using h10));rw [hu0] at this;cases this
   have hndef:eF o=true:=zi h1 j o ho;obtain ⟨rest,hsp1,hfxs,go⟩:=prep j o hj hjm ho;unfold wpOpIn;rw [ho]
   dsimp only
   rcases step j o hjm ho val _ _ hsp1 with ⟨hg,hop⟩|⟨hg,hsp2⟩
   ·rw [if_pos (eG hfxs hg)]
    refine (hop a.eval fun x u hx=>hfxs.eval hx).wpIn hndef fun v L' w' hc hs=> ?_
    exact go v w' (hc _ _ hs)
   rw [if_neg (by rw [eG hfxs hg];exact Bool.false_ne_true)];exact ⟨fun _ _=>trivial,go undef w hsp2⟩
 intro H Ds a w ha hds' hw;have hw1:Sp (Ds.map cc++H) (K9 m (Array.replicate l.length false) Bs++L) {w with drawn:=w.drawn+1}:=SepL.same (hL _ _ hw) ⟨rfl,rfl,rfl,Xx _,fun _ _ _=>rfl⟩
 have hf: ∀k,(Array.replicate l.length false).getD k false=false:=fun k=>by
  simp only [We,Array.getElem?_replicate];split<;>rfl
 have b5:F4 m (Array.replicate l.length false)=[]:=by
  refine List.eq_nil_iff_forall_not_mem.2 fun i hi=> ?_
  have:=(pY.1 hi).2;rw [hf] at this;cases this
 have h9:=main l.length (Array.replicate l.length false) (fun _=>undef) H Ds a _ (by simp) (fun k o e hk=>by rw [hf] at hk;cases hk) (fun t _=>hf t) (by rw [b5];simp) ha (fun i _ hi=>by rw [hf] at hi;cases hi) hds' (by rw [b5];exact hw1);refine wpIn_mono (wpIn_region_any hm (by simpa using h9)) ?_;rintro e a' w' ⟨s',L',Ds',g1,g2,g3,rfl,g4⟩;exact ⟨s',L',Ds',g1,g2,g3,g4⟩
theorem kU: ∀q∈([]:List Nat),Bs.getD q []=[]:=fun _ h=>nomatch h
theorem ia (h:Bs.getD q' []=[])(t:∀q∈qs,Bs.getD q []=[]): ∀q∈q'::qs,Bs.getD q []=[]:=fun q hq=>(W9.1 hq).elim (fun e=>e▸h) (t q)
theorem Fo {val:Nat->Value}: ∀(l:List Nat),(∀i∈l, ∀j∈l,ds.getD i 0=ds.getD j 0->i=j)-> ∀i∈l,jq (l.map (fun i=>(ds.getD i 0,val i))++s) (ds.getD i 0)=some (val i)
 | [],_,i,h=>by cases h
 |j::l,hd,i,h=>by
  rw [W6,Wy,kX];by_cases e:ds.getD j 0=ds.getD i 0
  ·rw [if_pos e,hd j (by simp) i h e]
  rw [if_neg e];rcases W9.1 h with e2|h
  ·subst e2;exact absurd J e
  exact Fo l (fun a ha b hb=>hd a (by simp [ha]) b (by simp [hb])) i h
theorem C0 {val:Nat->Value}: ∀(l:List Nat),(∀i∈l,ds.getD i 0≠k)->jq (l.map (fun i=>(ds.getD i 0,val i))++s) k=jq s k
 | [],_=>rfl
 |j::l,hd=>by
  rw [W6,Wy,kX,if_neg (hd j (by simp))]
  exact C0 l fun i hi=>hd i (by simp [hi])
theorem Pb {As:List (Value->Wa)}{val:Nat->Value}{ix:List Nat}(hn:ix.Nodup)(hm:∀i∈ix,i<m):Cv (DJ As val (List.range m) L) (DJ As val ix L):=by
 have hp:(List.range m).Perm (((List.range m).filter fun i=> !ix.contains i)++ix):=by
  refine (List.perm_ext_iff_of_nodup List.nodup_range ?_).2 fun k=> ?_
  ·refine Xg.2 ⟨List.nodup_range.filter _,hn,fun x hx y hy e=> ?_⟩;subst e;have h1:=(Xb.1 hx).2;rw [List.contains_iff_mem.2 hy] at h1;cases h1
  rw [W8,Xb,Xe];by_cases h:k∈ix
  ·simp [h,hm k h]
  simp [h]
 have e:=En (As:=As) (val:=val) hp;rw [WG] at e;unfold DJ;refine Cv.trans (fun Z w h=>SepL.perm h ((e.append_right L).append_right Z)) ?_;rw [V3];exact Jz _
theorem ig {id:Nat}(hm:X.P.follows .mixedOrders=true)(m:Nat)(qs ix ds:List Nat)(pr:List (List Nat))(As:List Asn)(Bs:List Wa)(hL:Cv L0 (K9 m (Array.replicate l.length false) Bs++L))(hBq:∀q∈qs,Bs.getD q []=[])(hok:SX l.toArray m qs ds pr s X.n=true)(hlen:Nat.beq As.length m=true)(hix:(ix.all (fun i=>Nat.blt i m)&&decide ix.Nodup)=true)(qstep:∀q∈qs, ∀(o:Oper),q<m->l.toArray[q]? =some o->Qt ds As (pr.getD q []) (fun s' L'=>UM X.P l.toArray s' L' L' o (As.getD q (aV undef)).full) s L)(step:∀(i:Nat) (o:Oper),i<m->l.toArray[i]? =some o->Ji ds As (pr.getD i []) (fun s' L' L''=>Rp X.P l.toArray s' L' L'' o (As.getD i (aV undef)).full) s (Bs.getD i []++L) L)(fin:Qt ds As ix (fun s' L'=>Iq X l.toArray K (l.length - m) (pE (Array.replicate l.length false) (List.range m)) s' L') s L):Wq X (.region id l.toArray true) K s L0:=by
 have hl:As.length=m:=Xu hlen
 have hpr: ∀i,i<m-> ∀k∈pr.getD i [],k<As.length:=fun i hi k hk=>by
  unfold SX at hok;simp only [XW,Wu,Xe] at hok;have h6:=(hok.1.2 i hi).1.1.2 k hk;have h7:=Xw h6.2;omega
 simp only [XW,Wu,XO] at hix
 have hixm: ∀i∈ix,i<m:=fun i hi=>Nat.lt_of_succ_le (Xw (hix.1 i hi))
 have hds:(∀i j,i<m->j<m->ds.getD i 0=ds.getD j 0->i=j)/\ ∀i,i<m-> ∀k v,jq s k=some v->k≠ds.getD i 0:=by
  have hok2:=hok;unfold SX at hok2;simp only [XW,XO,Wu,Xe] at hok2;obtain ⟨⟨⟨⟨⟨⟨⟨⟨-, -⟩, -⟩, -⟩,h3⟩,h4⟩,h5⟩, -⟩, -⟩:=hok2;refine ⟨fun i j hi hj e=> ?_,fun i hi k v hp e=> ?_⟩
  ·have e1:ds.getD i 0=ds[i]'U:=by simp [List.getD,h3,hi]
   have e2:ds.getD j 0=ds[j]'U:=by simp [List.getD,h3,hj]
   rw [e1,e2] at e;have hp:=Xh.1 h4;rcases Nat.lt_trichotomy i j with h|h|h
   ·exact absurd e (hp i j U U h)
   ·exact h
   exact absurd e.symm (hp j i U U h)
  have hmem:ds.getD i 0∈ds:=by
   have e1:ds.getD i 0=ds[i]'U:=by simp [List.getD,h3,hi]
   rw [e1];exact XY _
  have h9:=(h5 _ hmem).2 _ (wb _ _ _ hp);simp only [e,Nat.beq_refl] at h9;cases h9
 refine Rs hm m qs ds pr (uX As) Bs hL hBq hok (fun q hq o hqm ho val=> ?_) (fun i o him ho val=> ?_) fun val=> ?_
 ·rw [C8 _ _ U];exact NX (hpr q hqm) (qstep q hq o hqm ho)
 ·rw [C8 _ _ U];exact NH (hpr i him) (step i o him ho)
 refine nB (Sl (fun i hi=>by have:=hixm i hi;omega) fin) (fun k v hk=> ?_) (Pb hix.2 hixm);unfold Gm at hk⊢;by_cases hex: ∃i∈ix,ds.getD i 0=k
 ·obtain ⟨i,hi,rfl⟩:=hex;rw [Fo ix (fun a ha b hb e=>hds.1 a b (hixm a ha) (hixm b hb) e) i hi] at hk;rw [Fo (List.range m) (fun a ha b hb e=>hds.1 a b (Xe.1 ha) (Xe.1 hb) e) i (Xe.2 (hixm i hi))];exact hk
 rw [C0 ix fun i hi e=>hex ⟨i,hi,e⟩] at hk;rw [C0 (List.range m) fun i hi e=>hds.2 i (Xe.1 hi) k v hk e.symm];exact hk
end
section
open Go.RowKit
def PT (e:TypeId)(sz:Nat)(v:Value):Chunk where
 ok T _ w:= ∃g n cap cur,v=.slice (some ⟨g,0,none⟩) n cap/\T g/\w.heap[g]? =some (.cells cur e (0,0))/\n<=cap/\cap<=maxLen/\cur.size=cap*sz
 loc:=fun h ⟨g,n,cap,cur,e1,h1,h2,h3⟩=>⟨g,n,cap,cur,e1,h1,Blk.agr (t:=e) h2 h (.inl h1),h3⟩
 mono:=fun _ h=>h
 ro:=false
 dup:=fun h=>Bool.noConfusion h
section
variable {d:Option Nat}
theorem Az {tn:TypeId}{n:Int}{k kn:IntKind}{sz by_:Nat}(hx:be s x=some (Y none 0 0))(hy:be s y=some (.int k n))(ht:P.underlying t=some (.slice e))(htn:P.underlying tn=some (.int kn))(hz:ry P e sz by_=true)(hby:Nat.ble by_ 127=true)(h0:0<n)(hb:n<=1099511627776):OpX P s L ⟨d,.call ⟨.builtin .append, #[x,y], #[t,tn]⟩,ty,pos,af,gd⟩ fun u L'=> ∃A n c,u=.slice A n c/\L'=PT e sz (.slice A n c)::L:=fun ρ hρ Z w hw=>by
 have hbuilt:=fz (P:=P) (ρ:=ρ) (d:=d) (ty:=ty) (pos:=pos) (af:=af) (gd:=gd) (b:=.append) (xs:=[x,y]) (ats:= #[t,tn]) (vs:=[Y none 0 0,.int k n]) (by simp [hρ x _ hx,hρ y _ hy]) w
 have hby':=Xw hby
 obtain ⟨m,rfl⟩: ∃m:Nat,n=m:=⟨n.toNat,by omega⟩;unfold ry at hz
 cases hinfo:P.info? e with
 |none=>rw [hinfo] at hz;cases hz
 | some inf=>
  rw [hinfo] at hz;simp only [XW] at hz;obtain ⟨⟨⟨q2,q3⟩,q4⟩,q5⟩:=hz
  cases hzz:inf.zero with
  |none=>rw [hzz] at q4;cases q4
  | some z=>
   rw [hzz] at q4;have e2:=Xu q2;have e3:=Xu q3;have e4:=Xu q4
   have e5:0<sz:=by have h6:1<=sz:=(by simpa [Nat.blt] using q5);omega
   have hm:m*inf.bytes<=281474976710656:=Xy (Nat.mul_le_mul (show m<=1099511627776 by omega) (show inf.bytes<=127 by omega)) (by decide);have hr:=Lib.run_append_nil_zeros (P:=P) w t tn ty e inf z k kn ht htn hinfo hzz m U U U hm;have hge:=grownCap_ge w m 0 e;have hcm:=grownCap_le_maxLen w m 0 e (by unfold maxLen;omega)
   have hcur:(Builtin.zeroCells z.cells m++Builtin.zeroCells z.cells (grownCap w m 0 e - m)).size=grownCap w m 0 e*sz:=by
    simp only [Array.size_append,size_zeroCells,e4, <-Xt]
    congr 1
    omega
   generalize Builtin.zeroCells z.cells m++Builtin.zeroCells z.cells (grownCap w m 0 e - m)=cur at*;have hA:Agr (fun _=>True) w (w.drew.alloc (.cells cur e)):=⟨rfl,rfl,rfl,by simp,fun q hq _=>heap_alloc_old w.drew (.cells cur e) hq⟩;have hN:(w.drew.alloc (.cells cur e)).heap[w.heap.size]? =some (.cells cur e (0,0)):=heap_alloc_new w.drew (.cells cur e)
   have hZ:(w.drew.alloc (.cells cur e)).heap.size=w.heap.size+1:=by simp
   refine .inl ⟨_,w.drew.alloc (.cells cur e),PT e sz (.slice (some ⟨w.heap.size,0,none⟩) m (grownCap w m 0 e))::L,?_,SepL.new (c:=PT e sz (.slice (some ⟨w.heap.size,0,none⟩) m (grownCap w m 0 e))) hw hA fun T S _=>⟨(· =w.heap.size),fun q hq=>by subst hq;omega,w.heap.size,m,grownCap w m 0 e,cur,rfl,rfl,hN,hge,hcm,hcur⟩,_,_,_,J,J⟩;rw [hbuilt];simp only [builtin,XL];have hr':(Builtin.append_ #[t,tn] ty [Value.slice none 0 0,.int k (m:Int)].toArray).run P w=_:=hr;rw [hr'];rfl
theorem HI {R:Rep α}{t e sz:Nat}(i:Nat)(hi:L[i]? =some (PT e sz v))(hx:be s x=some v)(hu:P.underlying t=some (.slice e))(hs:kP P e sz=true)(hsz:R.sz=sz)(hh:be s y=some (.int .i64 0)):OpX P s L ⟨d,.slice t x none (some y) none,ty,pos,af,gd⟩ fun u L'=> ∃A n c,u=.slice A n c/\L'=L.set i (bh R e (.slice A n c) []):=fun ρ hρ Z w hw=>by
 have hw0:=hw;obtain ⟨T,S,hT⟩:=hw;obtain ⟨g,n,cap,cur,rfl,g1,g2,g3,g4,g5⟩:=hT.ok (aU hi);have hrun:=rT (P:=P) (C:=fun _=>True) (d:=d) (ty:=ty) (pos:=pos) (af:=af) (gd:=gd) (lo:=none) (hi:=some y) (l:=0) (h:=0) hx hu hs rfl hh (Xx _) U ρ hρ w trivial
 have hc:mu (some ⟨g,0,none⟩) cap 0 sz=some ⟨g,0,none⟩:=by
  unfold mu;split
  ·rfl
  simp [Addr.add]
 rw [hc] at hrun;refine .inl ⟨_,w,L.set i (bh R e (.slice (some ⟨g,0,none⟩) 0 cap) []),hrun,?_,_,_,_,J,J⟩
 have hfin:SepL ((L++Z).set i (bh R e (.slice (some ⟨g,0,none⟩) 0 cap) [])) w:=by
  refine hw0.weak (aU hi) fun T S ⟨g',n',cap',cur',e1,q1,q2,q3,q4,q5⟩=> ?_
  obtain ⟨e2,rfl,rfl⟩:=Value.slice.inj e1;cases e2;exact ⟨[],.nil,.inl ⟨⟨by simp,.inr ⟨g,cap,cur',rfl,XD _,q2,XD _,q4,by rw [hsz];exact ⟨cap,Xx _,q4,q5⟩,by simp⟩⟩,fun q hq=>by cases hq;exact q1⟩⟩
 rw [lL Z hi] at hfin;exact hfin
theorem Db {t e sz:Nat}(hx:be s x=some (Y none 0 0))(hu:P.underlying t=some (.slice e))(hs:kP P e sz=true)(hh:be s y=some (.int .i64 0)):Ev P s C ⟨d,.slice t x none (some y) none,ty,pos,af,gd⟩ (Y none 0 0):=
 rT (lo:=none) (hi:=some y) (l:=0) (h:=0) hx hu hs rfl hh (Xx _) (Xx _)
theorem i7 {ps:List (Nat×Operand)}{vs:List (Nat×Value)}(hp:Nd s ps=some vs)(hr:∀w,(Instr.buildSlice t m vs.toArray).run P w=.ok (.slice (some ⟨w.heap.size,0,none⟩) m m) (w.alloc (.cells cs.toArray e))):OpX P s L ⟨d,.buildSlice t m ps.toArray,ty,pos,af,gd⟩ fun u L'=> ∃b,u=.slice (some ⟨b,0,none⟩) m m/\L'=ae b e cs::L:=fun ρ hρ Z w hw=>by
 refine .inl ⟨_,w.alloc (.cells cs.toArray e),ae w.heap.size e cs::L,?_,SepL.new (c:=ae w.heap.size e cs) hw (Agr.of_ext ((Ext.refl w).alloc _)) fun _ S _=>⟨(· =w.heap.size),fun q hq=> ?_,J,Blk.new w e _⟩,_,J,J⟩
 ·unfold execOp;simp only [W7,El hρ hp,XL,hr,XK];rfl
 subst hq;simp
end
def Wr (X:Cx)(c:Code)(K:K3)(m:Nat)(s:bA)(L:Wa):Prop:= ∀(H:Wa) (Ds:List Nat) (a:Act) (w:World),Fx X s a->a.defers=Ds.map xb->Sp (Ds.map cc++H) L w->Code.roundsIn (D5 X.r) 0 X.P c (yP X H K) m a w
section
theorem uJ (m:Nat)(h:Wr X c K m s L):Wq X (.loop c) K s L:=fun H Ds a w ha hd hw=>wpIn_loop_rounds m (h H Ds a w ha hd hw)
theorem vD (h:Wq X c (nx (fun s L=>Wr X c K m s L) K) s L):Wr X c K (m+1) s L:=fun H Ds a w ha hd hw=>by
 rw [roundsIn_succ];refine wpIn_mono (h H Ds a w ha hd hw) ?_;rintro e a' w' ⟨s',L',Ds',h1,h2,h3,h4⟩
 cases e with
 |normal=>exact h4 H Ds' a' w' h1 h2 h3
 |_=>exact ⟨s',L',Ds',h1,h2,h3,h4⟩
end
end
section
open Go.RowKit
def SD (s:bA):List Nat->bA->Prop
 |_,[]=>True
 |ks,(d,v)::t=>(jq s d=some v\/ks.contains d=true)/\SD s (d::ks) t
theorem IH: ∀{t:bA} {ks:List Nat},SD s ks t-> ∀k v,ks.contains k=false->jq t k=some v->jq s k=some v
 | [],_,_=>fun _ _ _ h=>by cases h
 |(d,u)::t,ks,h=>fun k v hk hl=>by
  rw [kX] at hl;by_cases e:d=k
  ·subst e;rw [if_pos rfl] at hl;cases hl;rcases h.1 with h1|h1
   ·exact h1
   rw [hk] at h1;cases h1
  rw [if_neg e] at hl;exact IH h.2 k v (by simp only [List.contains_cons,Bool.or_eq_false_iff];exact ⟨by simpa using fun h=>e h.symm,hk⟩) hl
theorem sA {t:bA}(h:SD s [] t:=by repeat (first|exact trivial|refine ⟨.inl rfl,?_⟩|refine ⟨.inr rfl,?_⟩)):AV s t:=fun k v hl=>IH h k v rfl hl
section
variable {rest:List Oper}{d:Nat}{op:Op}
theorem gD (h:OpX X.P s L ⟨some d,op,ty,pos,af,gd⟩ R)(k:∀v L',R v L'->aY X ops rest K ((d,v)::s) L')(hn:eF ⟨some d,op,ty,pos,af,gd⟩=true:=by rfl)(hg:aA ops s ⟨some d,op,ty,pos,af,gd⟩=some true:=by rfl)(hd:Nat.ble (d+1) X.n=true:=by rfl):aY X ops (⟨some d,op,ty,pos,af,gd⟩::rest) K s L:=LT h hn hg hd k
theorem gO (h:OpX X.P s L ⟨none,op,ty,pos,af,gd⟩ R)(k:∀v L',R v L'->aY X ops rest K s L')(hn:eF ⟨none,op,ty,pos,af,gd⟩=true:=by rfl)(hg:aA ops s ⟨none,op,ty,pos,af,gd⟩=some true:=by rfl):aY X ops (⟨none,op,ty,pos,af,gd⟩::rest) K s L:=RL h hn hg k
theorem gE (h:Ev X.P s (fun _=>True) ⟨some d,op,ty,pos,af,gd⟩ v)(k:aY X ops rest K ((d,v)::s) L)(hn:eF ⟨some d,op,ty,pos,af,gd⟩=true:=by rfl)(hg:aA ops s ⟨some d,op,ty,pos,af,gd⟩=some true:=by rfl)(hd:Nat.ble (d+1) X.n=true:=by rfl):aY X ops (⟨some d,op,ty,pos,af,gd⟩::rest) K s L:=gT h hn hg hd k
theorem gR (h:Rd X.P s L ⟨some d,op,ty,pos,af,gd⟩ v)(k:aY X ops rest K ((d,v)::s) L)(hn:eF ⟨some d,op,ty,pos,af,gd⟩=true:=by rfl)(hg:aA ops s ⟨some d,op,ty,pos,af,gd⟩=some true:=by rfl)(hd:Nat.ble (d+1) X.n=true:=by rfl):aY X ops (⟨some d,op,ty,pos,af,gd⟩::rest) K s L:=sG h hn hg hd k
end
abbrev iV (z:Int):Value:=.int .i64 z
abbrev pV (b o:Nat):Value:=.pointer (some ⟨b,o,none⟩)
theorem ms (h:L'=[]):L'=[]:=h
theorem jl {t T:Wa}{a:Chunk}(h:L'=a::t)(k:t=T):L'=a::T:=k▸h
theorem Lw (k:aY X ops l K s L)(h:L'=L:=by repeat (first|exact ms rfl|apply jl rfl|exact rfl)):aY X ops l K s L':=h▸k
theorem bp (k:mR X ops K M fuel listed s L)(h:L'=L:=by repeat (first|exact ms rfl|apply jl rfl|exact rfl)):mR X ops K M fuel listed s L':=h▸k
theorem SQ (k:Wq X c K s L)(h:L'=L:=by repeat (first|exact ms rfl|apply jl rfl|exact rfl)):Wq X c K s L':=h▸k
theorem yg (k:Iq X ops K fuel listed s L)(h:L'=L:=by repeat (first|exact ms rfl|apply jl rfl|exact rfl)):Iq X ops K fuel listed s L':=h▸k
theorem Ka {P:Wa->Prop}(h:Cv L M)(k:P M): ∃M',Cv L M'/\Cv M' M/\P M':=⟨M,h,ah _,k⟩
theorem cS (ix:List Nat)(k:Nat)(hk:Gg ix k=true:=by exact rfl)(hl:Nat.ble k L.length=true:=by exact rfl):Cv L (DT ix k L):=yC ix k hk hl
section
variable {d:Nat}{op:Op}
theorem zE (i:Nat)(hi:ops[i]? =some ⟨some d,op,ty,pos,af,gd⟩)(h:Ev X.P s (fun _=>True) ⟨some d,op,ty,pos,af,gd⟩ v)(k:mR X ops K M fuel (listed.setIfInBounds i true) ((d,v)::s) L)(hk:Od ops listed i=true:=by kernel_rfl)(hg:aA ops s ⟨some d,op,ty,pos,af,gd⟩=some true:=by exact rfl)(hd:Nat.ble (d+1) X.n=true:=by exact rfl):mR X ops K M (fuel+1) listed s L:=yM i hi hk h hg hd k
theorem zR (i:Nat)(hi:ops[i]? =some ⟨some d,op,ty,pos,af,gd⟩)(h:Rd X.P s M ⟨some d,op,ty,pos,af,gd⟩ v)(k:mR X ops K M fuel (listed.setIfInBounds i true) ((d,v)::s) L)(hk:Od ops listed i=true:=by kernel_rfl)(hg:aA ops s ⟨some d,op,ty,pos,af,gd⟩=some true:=by exact rfl)(hd:Nat.ble (d+1) X.n=true:=by exact rfl):mR X ops K M (fuel+1) listed s L:=LP i hi hk h hg hd k
theorem zD (i:Nat)(hi:ops[i]? =some ⟨some d,op,ty,pos,af,gd⟩)(h:OpX X.P s L ⟨some d,op,ty,pos,af,gd⟩ R)(k:∀v L',R v L'-> ∃M',Cv L' M'/\Cv M' M/\mR X ops K M' fuel (listed.setIfInBounds i true) ((d,v)::s) L')(hr:Region.ready .any ops listed=[i]:=by kernel_rfl)(hn:eF ⟨some d,op,ty,pos,af,gd⟩=true:=by exact rfl)(hg:aA ops s ⟨some d,op,ty,pos,af,gd⟩=some true:=by exact rfl)(hd:Nat.ble (d+1) X.n=true:=by exact rfl):mR X ops K M (fuel+1) listed s L:=Dj i hi hr h hn hg hd k
theorem zO (i:Nat)(hi:ops[i]? =some ⟨none,op,ty,pos,af,gd⟩)(h:OpX X.P s L ⟨none,op,ty,pos,af,gd⟩ R)(k:∀v L',R v L'-> ∃M',Cv L' M'/\Cv M' M/\mR X ops K M' fuel (listed.setIfInBounds i true) s L')(hr:Region.ready .any ops listed=[i]:=by kernel_rfl)(hn:eF ⟨none,op,ty,pos,af,gd⟩=true:=by exact rfl)(hg:aA ops s ⟨none,op,ty,pos,af,gd⟩=some true:=by exact rfl):mR X ops K M (fuel+1) listed s L:=SC i hi hr h hn hg k
end
end
section
open Go.RowKit
abbrev PO (f:α->Prop)(g:β->Prop)(r:α ⊕ β):Prop:=match r with
 | .inl a=>f a
 | .inr b=>g b
def zy {γ:Type}(s:α ⊕ β)(f:α->γ)(g:β->γ):γ:=match s with
 | .inl a=>f a
 | .inr b=>g b
theorem DQ {γ:Type}{a:α}{f:α->γ}{g:β->γ}{r:γ}(h:zy (.inl a) f g=r):f a=r:=h
theorem DP {γ:Type}{b:β}{f:α->γ}{g:β->γ}{r:γ}(h:zy (.inr b) f g=r):g b=r:=h
theorem Ei {xs:List α}{x z:α}(h:xs[k]? =some x):(xs.set k z)[k]? =some z:=by
 have h1:=(WQ.1 h).1;simp [h1]
theorem su {xs:List α}{z:α}(h:k<xs.length):k<(xs.set j z).length:=by rwa [W3]
theorem yV (hl:Cv L L')(hm:Cv L' M)(h:JQ X ops K M fuel listed s L' i):JQ X ops K M fuel listed s L i:=fun _ H Ds a w ha hds hw=>h hm H Ds a w ha hds (hl _ _ hw)
theorem Rx (k:JQ X ops K M fuel listed s L i)(h:L'=L:=by repeat (first|exact ms rfl|apply jl rfl|exact rfl)):JQ X ops K M fuel listed s L' i:=h▸k
theorem mE {d:Option Nat}{R:Rep α}{sz:Nat}{xs:List α}{c:Chunk}(i:Nat)(hi:L[i]? =some c)(he:Gs R v xs c)(hx:be s x=some (dh v k sz off))(h1:k<xs.length):Rd P s L ⟨d,.nilCheck x,ty,pos,af,gd⟩ (dh v k sz off):=fun Z w hw=>by
 obtain ⟨T,S,h⟩:=hw.get (aU hi);obtain ⟨A,cap,rfl, -, -,h4⟩:=he _ _ _ h;obtain ⟨b,o,vss,rfl, -⟩:=h4 U;exact bF (C:=(· =w)) (d:=d) (ty:=ty) (pos:=pos) (af:=af) (gd:=gd) hx
theorem ownsX.base {w:World}{sz:Nat}{A:Option Addr}{c:Nat}(h:ownsX w e sz (.slice A n c) n cs)(hv:(Value.slice A n c)≠ Y none 0 0): ∃c0,w.ownsRow 0 e sz (.slice A n c0) n cs/\(Value.slice A n c0)≠ Y none 0 0/\n<=c/\c<=c0:=by
 rcases h.2 with ⟨e1, -⟩|⟨g,cap,cur,e1,p1,p2,p3,p4,p5,p6⟩
 ·exact absurd e1 hv
 injection e1 with e1 _ e3
 subst e1 e3;obtain ⟨c0,q1,q2,q3⟩:=p5;exact ⟨c0,⟨h.1,.inr ⟨g,c0,cur,J,p1,p2,Xy p3 q1,q2,q3,p6⟩⟩,by simp,p3,q1⟩
theorem ownsX.recap {w:World}{sz:Nat}{A:Option Addr}{c c0:Nat}(h:w.ownsRow 0 e sz (.slice A n c0) n cs)(hv:(Value.slice A n c0)≠ Y none 0 0)(hc:n<=c/\c<=c0):ownsX w e sz (.slice A n c) n cs:=by
 rcases h.2 with ⟨e1, -⟩|⟨g,cap,cur,e1,p1,p2,p3,p4,p5,p6⟩
 ·exact absurd e1 hv
 injection e1 with e1 _ e3
 subst e1 e3;exact ⟨h.1,.inr ⟨g,c,cur,J,p1,p2,hc.1,Xy hc.2 p4,⟨c0,hc.2,p4,p5⟩,p6⟩⟩
theorem P4 {d:Option Nat}{R:Rep α}{t e sz:Nat}{z:Operand}{xs:List α}(i:Nat)(hi:L[i]? =some (bh R e v xs))(hx:be s x=some v)(hu:P.underlying t=some (.slice e))(hs:kP P e sz=true)(hsz:R.sz=sz)(hh:be s y=some (.int .i64 (k:Int)))(hm:be s z=some (.int .i64 (k:Int)))(h1:k<=xs.length):OpX P s L ⟨d,.slice t x none (some y) (some z),ty,pos,af,gd⟩ fun u L'=> ∃A n c,u=.slice A n c/\L'=L.set i (bh R e (.slice A n c) (xs.take k)):=fun ρ hρ Z w hw=>by
 have hw0:=hw;obtain ⟨T,S,hT⟩:=hw;obtain ⟨A,c,rfl,q1,q2, -⟩:=ak _ _ _ (hT.ok (aU hi));have hrun:=GY (C:=fun _=>True) (d:=d) (ty:=ty) (pos:=pos) (af:=af) (gd:=gd) hx hu hs hh hm (Xx _) U ρ hρ w trivial;refine .inl ⟨_,w,L.set i (bh R e (.slice (if k=0 then A else A.map (·.add 0)) k k) (xs.take k)),hrun,?_,_,_,_,J,J⟩
 have hl:(xs.take k).length=k:=by rw [XT];omega
 have hfin:SepL ((L++Z).set i (bh R e (.slice (if k=0 then A else A.map (·.add 0)) k k) (xs.take k))) w:=by
  refine hw0.weak (aU hi) fun T S ⟨vss,g1,g2⟩=>⟨vss.take k,g1.take k,?_⟩
  rcases Xv k with rfl|hk
  ·exact .inr ⟨by simp,_,rfl⟩
  rcases g2 with ⟨g2,g4⟩|⟨h9, -⟩
  ·rcases g2.2 with ⟨e1,h9⟩|⟨g,cap,cur,e1,p1,p2,p3,p4,p5,p6⟩
   ·omega
   injection e1 with e1 _ e3
   subst e1 e3
   have hv:(Value.slice (if k=0 then some ⟨g,0,none⟩ else (some (⟨g,0,none⟩:Addr)).map (·.add 0)) k k)=.slice (some ⟨g,0,none⟩) k k:=by rw [if_neg U];simp [kc]
   rw [hv,hl];have hn:=oo (g1.take k);rw [hl] at hn;refine .inl ⟨⟨hn,.inr ⟨g,k,cur,J,XD _,p2,Xx _,by omega,?_,?_⟩⟩,fun q hq=>g4 q hq⟩
   ·obtain ⟨c0,r1,r2,r3⟩:=p5;exact ⟨c0,by omega,r2,r3⟩
   have h5:vss.flatten=(vss.take k).flatten++(vss.drop k).flatten:=by rw [<-List.flatten_append,Xm]
   have h6:cur.toList.take (k*R.sz)=(cur.toList.take (xs.length*R.sz)).take (k*R.sz):=by rw [List.take_take,Nat.min_eq_left (XB _ h1)]
   rw [h6,p6,h5, <-hn,List.take_left]
  omega
 rw [lL Z hi] at hfin;exact hfin
def P5 (w0:World)(X:Nat->Prop):Chunk where
 ok _ S w:=Agr X w0 w/\ ∀q,X q->S q
 loc:=fun h ⟨h1,h2⟩=>⟨h1.trans (h.mono fun q hq=> .inr (h2 q hq)),h2⟩
 mono:=fun hs ⟨h1,h2⟩=>⟨h1,fun q hq=>hs q (h2 q hq)⟩
 ro:=true
 dup:=fun _ _ _ _ h=>h
def Py (L:Wa)(n:Nat)(c:Chunk):Prop:= ∀(T:Nat->Nat->Prop) (S:Nat->Prop) (w:World),(∀(i:Nat) (c:Chunk),L[i]? =some c->c.ok (T i) S w)->c.ok (fun _=>False) (fun q=>S q\/ ∃j,n<=j/\T j q) w
section
theorem pw {R:Rep α}{xs:List α}(hn:Nat.ble n i=true)(hi:L[i]? =some (bh R e v xs)):Py L n (iD R v xs):=fun T S w h=>by
 obtain ⟨vss,h1,h2⟩:=h _ _ hi;rcases h2 with ⟨h2,hT⟩|⟨h0,A,rfl⟩
 ·rcases h2.2 with ⟨rfl,h0⟩|⟨g,cap,cur,rfl,g1,g2,g3,g4,g5,g6⟩
  ·exact ⟨none,0,by rw [h0],by omega,by omega,fun h=>absurd h U⟩
  exact ⟨_,cap,J,g3,by unfold maxLen at g4;omega,fun _=>⟨g,0,vss,rfl,.inr ⟨i,Xw hn,hT g rfl⟩,Blk.lt (t:=e) (cs:=cur) g2,h1.imp fun _ _=>R.mono fun _ hq=> .inl hq,me (cap:=cap) g2 g6⟩⟩
 exact ⟨A,0,by rw [h0],by omega,by omega,fun h=>absurd h U⟩
end
theorem P7 (k n:Nat)(hc:Okc P f vs pre R)(hpre:pre.drop k=L.take n)(hn:Nat.ble n L.length=true)(hk:Nat.ble k pre.length=true)(hp:∀c∈pre.take k,Py L n c)(hfr:∀v post,R v post-> ∀c∈post,mT c): ∀Z w,Sp Z L w->Calls P f vs.toArray w fun e w'=> ∃v post,e=.returned v/\Sp Z (post++L.drop n) w'/\R v post:=fun Z w hw=>by
 obtain ⟨T,S,hT⟩:=hw;have hn':=Xw hn;have hk':=Xw hk
 let X:Nat->Prop:=fun q=>S q\/ ∃j,n<=j/\T j q
 have hlen:pre.length=k+n:=by
  have h:=congrArg List.length hpre;rw [WZ,XT] at h;omega
 have hX: ∀{i q},i<n->T i q->X q->False:=fun hi h1 h2=>h2.elim (fun h=>hT.ro h1 h) fun ⟨j,hj,h3⟩=>hT.apart U h1 h3
 have h1:Sp [P5 w X] pre w:=by
  refine ⟨fun i q=>k<=i/\i<k+n/\T (i - k) q,X,?_,?_,?_,?_,?_⟩
  ·intro i c hi;rcases XA i pre.length with hlt|hge
   ·rw [WJ hlt] at hi;rcases XA i k with hik|hik
    ·have hm:c∈pre.take k:=Xd (show (pre.take k)[i]? =some c by rw [WU,if_pos hik];exact hi)
     have h2:=hp c hm T S w fun j d hj=>hT.ok (aU hj)
     have:(fun q=>k<=i/\i<k+n/\T (i - k) q)=fun _=>False:=by funext q;exact propext ⟨fun h=>by omega,fun h=>h.elim⟩
     rw [this];exact h2
    have hd:(pre.drop k)[i - k]? =some c:=by rw [WN,show k+(i - k)=i by omega];exact hi
    rw [hpre,WU,if_pos U] at hd;have h2:=hT.ok (aU (Z:=Z) hd)
    have:(fun q=>k<=i/\i<k+n/\T (i - k) q)=T (i - k):=by funext q;exact propext ⟨fun h=>h.2.2,fun h=>⟨hik,by omega,h⟩⟩
    rw [this];exact c.mono (fun _ h=> .inl h) h2
   rw [WK hge] at hi
   have hc:c=P5 w X:=by
    cases hk:i - pre.length with
    |zero=>rw [hk] at hi;simpa using hi.symm
    |succ k=>rw [hk] at hi;simp at hi
   subst hc;exact ⟨Agr.refl _ _,fun _ h=>h⟩
  ·rintro i j q hij ⟨a1,a2,a3⟩ ⟨b1,b2,b3⟩;exact hT.apart U a3 b3
  ·rintro i q ⟨a1,a2,a3⟩ h;exact hX U a3 h
  ·rintro i q ⟨_,_,a3⟩;exact hT.lt a3
  rintro q (h|⟨j,_,h⟩)
  ·exact hT.lts h
  exact hT.lt h
 refine (hc.run _ w h1).mono ?_;rintro e w' ⟨v,post,rfl,⟨T',S',h2⟩,h3⟩;obtain ⟨hx,hS⟩:(P5 w X).ok (T' post.length) S' w':=h2.ok (by simp);refine ⟨v,post,J,⟨fun i q=>if i<post.length then T' i q else T (i - post.length+n) q,S,?_,?_,?_,?_,fun hq=>Xz (hT.lts hq) hx.size⟩,h3⟩
 ·intro i c hi;rw [V3] at hi;rcases XA i post.length with hlt|hge
  ·rw [WJ hlt] at hi;have h4:=h2.ok (show (post++ [P5 w X])[i]? =some c by rw [WJ hlt];exact hi);simp only [hlt,if_true];exact hfr v post h3 c (Xd hi) _ _ _ _ h4
  rw [WK hge] at hi;simp only [show¬i<post.length by omega,if_false]
  have h5:(L++Z)[i - post.length+n]? =some c:=by
   rw [<-List.drop_append_of_le_length hn',WN,Nat.add_comm] at hi;exact hi
  exact c.loc (hx.mono fun q hq=>hq.elim (fun h=> .inr ⟨_,by omega,h⟩) .inl) (hT.ok h5)
 ·intro i j q hij h4 h5;by_cases e1:i<post.length<;>by_cases e2:j<post.length
  ·simp only [e1,e2,if_true] at h4 h5;exact h2.apart hij h4 h5
  ·simp only [e1,e2,if_true,if_false] at h4 h5;exact h2.ro h4 (hS q (.inr ⟨_,by omega,h5⟩))
  ·simp only [e1,e2,if_true,if_false] at h4 h5;exact h2.ro h5 (hS q (.inr ⟨_,by omega,h4⟩))
  simp only [e1,e2,if_false] at h4 h5;exact hT.apart U h4 h5
 ·intro i q h4 h5;by_cases e1:i<post.length
  ·simp only [e1,if_true] at h4;exact h2.ro h4 (hS q (.inl h5))
  simp only [e1,if_false] at h4;exact hT.ro h4 h5
 intro i q h4;by_cases e1:i<post.length
 ·simp only [e1,if_true] at h4;exact h2.lt h4
 simp only [e1,if_false] at h4;exact Xz (hT.lt h4) hx.size
theorem BC {d:Option Nat}(k n:Nat)(hc:Okc P f vs pre R)(hv:DE s xs=some vs)(hpre:pre.drop k=L.take n)(hn:Nat.ble n L.length=true)(hk:Nat.ble k pre.length=true)(hp:∀c∈pre.take k,Py L n c)(hfr:∀v post,R v post-> ∀c∈post,mT c):OpX P s L ⟨d,.call ⟨.value (.func f),xs.toArray,ats⟩,ty,pos,af,gd⟩ fun u L'=> ∃post,R u post/\L'=post++L.drop n:=fun ρ hρ Z w hw=>by
 refine .inr (.inr (.inl ⟨f,vs.toArray,xI hc.cal (nL hρ hv) (hρ _ _ J),?_⟩));refine (P7 k n hc hpre hn hk hp hfr Z w hw).mono ?_;rintro e w' ⟨v,post,rfl,h2,h3⟩;exact ⟨v,post++L.drop n,J,h2,post,h3,J⟩
theorem C9 {ek:α->Value}{ev:β->Value}{kv:List (α×β)}:mT (ax ek ev m kv):=fun _ _ _ _ h=>h
end
end Go.Proofs.YthhiddkljcacaaaGreat
namespace Go.Proofs
open Go.Shelf
def Tryz.lays128_ren:Go.Shelf.Ren:=⟨fun|128=>238|n=>n,fun|51=>282|3=>3|4=>4|46=>233|5=>5|9=>9|n=>n,fun|n=>n⟩
theorem Tryz.lays128:Go.Proofs.Lays.n128 Tryz.prog Tryz.lays128_ren:={
 mixed:=by kernel_rfl
 f128:=Tryz.func238.trans (congrArg some (by kernel_rfl))
 t3:=Tryz.underlying3
 a3:=Tryz.isAgg3
 z3:=Tryz.sizeOf3
 v3:=Tryz.zeroValue3
 t4:=Tryz.underlying4
 a4:=Tryz.isAgg4
 z4:=Tryz.sizeOf4
 v4:=Tryz.zeroValue4
 t5:=Tryz.underlying5
 a5:=Tryz.isAgg5
 z5:=Tryz.sizeOf5
 v5:=Tryz.zeroValue5
 t9:=Tryz.underlying9
 a9:=Tryz.isAgg9
 z9:=Tryz.sizeOf9
 v9:=Tryz.zeroValue9
 t46:=Tryz.underlying233
 a46:=Tryz.isAgg233
 z46:=Tryz.sizeOf233
 v46:=Tryz.zeroValue233
 t51:=Tryz.underlying282
 a51:=Tryz.isAgg282
 z51:=Tryz.sizeOf282
 v51:=Tryz.zeroValue282}
theorem Tryz.bits_Len32 (x:Int)(w:World)(h0:0≤x)(h1:x≤4294967295):
  Calls Tryz.prog 238 #[.int .u32 x] w fun e w'=>e=.returned (.int .i64 (Lib.bitLen x.toNat))∧w'=w:=Any.bits_Len32 Tryz.lays128 x w h0 h1
def Tryz.lays125_ren:Go.Shelf.Ren:=⟨fun|125=>215|128=>238|129=>239|n=>n,fun|46=>233|3=>3|51=>282|53=>284|4=>4|5=>5|9=>9|n=>n,fun|n=>n⟩
theorem Tryz.lays125:Go.Proofs.Lays.n125 Tryz.prog Tryz.lays125_ren:={
 mixed:=by kernel_rfl
 f125:=Tryz.func215.trans (congrArg some (by kernel_rfl))
 f128:=Tryz.func238.trans (congrArg some (by kernel_rfl))
 f129:=Tryz.func239.trans (congrArg some (by kernel_rfl))
 t3:=Tryz.underlying3
 a3:=Tryz.isAgg3
 z3:=Tryz.sizeOf3
 v3:=Tryz.zeroValue3
 t4:=Tryz.underlying4
 a4:=Tryz.isAgg4
 z4:=Tryz.sizeOf4
 v4:=Tryz.zeroValue4
 t5:=Tryz.underlying5
 a5:=Tryz.isAgg5
 z5:=Tryz.sizeOf5
 v5:=Tryz.zeroValue5
 t9:=Tryz.underlying9
 a9:=Tryz.isAgg9
 z9:=Tryz.sizeOf9
 v9:=Tryz.zeroValue9
 t46:=Tryz.underlying233
 a46:=Tryz.isAgg233
 z46:=Tryz.sizeOf233
 v46:=Tryz.zeroValue233
 t51:=Tryz.underlying282
 a51:=Tryz.isAgg282
 z51:=Tryz.sizeOf282
 v51:=Tryz.zeroValue282
 t53:=Tryz.underlying284
 a53:=Tryz.isAgg284
 z53:=Tryz.sizeOf284
 v53:=Tryz.zeroValue284}
theorem Tryz.bits_Len (x:Int)(w:World)(h0:0≤x)(h1:x≤18446744073709551615):
  Calls Tryz.prog 215 #[.int .u64 x] w fun e w'=>e=.returned (.int .i64 (Lib.bitLen x.toNat))∧w'=w:=Any.bits_Len Tryz.lays125 x w h0 h1
def Tryz.lays215_ren:Go.Shelf.Ren:=⟨fun|215=>212|n=>n,fun|3=>3|4=>4|n=>n,fun|n=>n⟩
theorem Tryz.lays215:Go.Proofs.Lays.n215 Tryz.prog Tryz.lays215_ren:={
 mixed:=by kernel_rfl
 f215:=Tryz.func212.trans (congrArg some (by kernel_rfl))
 t3:=Tryz.underlying3
 a3:=Tryz.isAgg3
 z3:=Tryz.sizeOf3
 v3:=Tryz.zeroValue3
 t4:=Tryz.underlying4
 a4:=Tryz.isAgg4
 z4:=Tryz.sizeOf4
 v4:=Tryz.zeroValue4}
open Go.RowKit in
theorem Tryz.cmp_isNaN_int (x:Int)(w:World):
  Calls Tryz.prog 212 #[.int .i64 x] w fun e w'=>e=.returned (.bool false)∧w'=w:=Any.cmp_isNaN_int Tryz.lays215 x w
def Tryz.lays122_ren:Go.Shelf.Ren:=⟨fun|122=>179|215=>212|n=>n,fun|3=>3|4=>4|n=>n,fun|n=>n⟩
theorem Tryz.lays122:Go.Proofs.Lays.n122 Tryz.prog Tryz.lays122_ren:={
 mixed:=by kernel_rfl
 f122:=Tryz.func179.trans (congrArg some (by kernel_rfl))
 f215:=Tryz.func212.trans (congrArg some (by kernel_rfl))
 t3:=Tryz.underlying3
 a3:=Tryz.isAgg3
 z3:=Tryz.sizeOf3
 v3:=Tryz.zeroValue3
 t4:=Tryz.underlying4
 a4:=Tryz.isAgg4
 z4:=Tryz.sizeOf4
 v4:=Tryz.zeroValue4}
open Go.RowKit in
theorem Tryz.cmp_Compare_int (x y:Int)(w:World):
  Calls Tryz.prog 179 #[.int .i64 x,.int .i64 y] w fun e w'=>e=.returned (.int .i64 (Lib.compareInt x y))∧w'=w:=Any.cmp_Compare_int Tryz.lays122 x y w
def Tryz.lays129_ren:Go.Shelf.Ren:=⟨fun|129=>239|n=>n,fun|53=>284|3=>3|4=>4|46=>233|5=>5|9=>9|n=>n,fun|n=>n⟩
theorem Tryz.lays129:Go.Proofs.Lays.n129 Tryz.prog Tryz.lays129_ren:={
 mixed:=by kernel_rfl
 f129:=Tryz.func239.trans (congrArg some (by kernel_rfl))
 t3:=Tryz.underlying3
 a3:=Tryz.isAgg3
 z3:=Tryz.sizeOf3
 v3:=Tryz.zeroValue3
 t4:=Tryz.underlying4
 a4:=Tryz.isAgg4
 z4:=Tryz.sizeOf4
 v4:=Tryz.zeroValue4
 t5:=Tryz.underlying5
 a5:=Tryz.isAgg5
 z5:=Tryz.sizeOf5
 v5:=Tryz.zeroValue5
 t9:=Tryz.underlying9
 a9:=Tryz.isAgg9
 z9:=Tryz.sizeOf9
 v9:=Tryz.zeroValue9
 t46:=Tryz.underlying233
 a46:=Tryz.isAgg233
 z46:=Tryz.sizeOf233
 v46:=Tryz.zeroValue233
 t53:=Tryz.underlying284
 a53:=Tryz.isAgg284
 z53:=Tryz.sizeOf284
 v53:=Tryz.zeroValue284}
theorem Tryz.bits_Len64 (x:Int)(w:World)(h0:0≤x)(h1:x≤18446744073709551615):
  Calls Tryz.prog 239 #[.int .u64 x] w fun e w'=>e=.returned (.int .i64 (Lib.bitLen x.toNat))∧w'=w:=Any.bits_Len64 Tryz.lays129 x w h0 h1
def Tryz.lays108_ren:Go.Shelf.Ren:=⟨fun|108=>208|n=>n,fun|28=>99|3=>3|0=>0|4=>4|n=>n,fun|n=>n⟩
theorem Tryz.lays108:Go.Proofs.Lays.n108 Tryz.prog Tryz.lays108_ren:={
 mixed:=by kernel_rfl
 f108:=Tryz.func208.trans (congrArg some (by kernel_rfl))
 t0:=Tryz.underlying0
 a0:=Tryz.isAgg0
 z0:=Tryz.sizeOf0
 v0:=Tryz.zeroValue0
 t3:=Tryz.underlying3
 a3:=Tryz.isAgg3
 z3:=Tryz.sizeOf3
 v3:=Tryz.zeroValue3
 t4:=Tryz.underlying4
 a4:=Tryz.isAgg4
 z4:=Tryz.sizeOf4
 v4:=Tryz.zeroValue4
 t28:=Tryz.underlying99
 a28:=Tryz.isAgg99
 z28:=Tryz.sizeOf99
 v28:=Tryz.zeroValue99}
open Go.Lib in
theorem Tryz.slices_Index_int (b off n c:Nat)(zs:List Int)(x:Int)(w:World)(hz:n≤zs.length)(hbig:n≤9223372036854775807)(hc: ∀j,j<zs.length→w.cell? ⟨b,off+j,none⟩=some (.int .i64 (zs.getD j 0))):
  Calls Tryz.prog 208 #[.slice (some ⟨b,off,none⟩) n c,.int .i64 x] w fun e w'=>e=.returned (.int .i64 (Lib.idxOf (zs.take n) x))∧w'=w:=Any.slices_Index_int Tryz.lays108 b off n c zs x w hz hbig hc
open Go.Lib in
theorem Tryz.slices_Index_int_empty (a:Option Addr)(c:Nat)(x:Int)(w:World):
  Calls Tryz.prog 208 #[.slice a 0 c,.int .i64 x] w fun e w'=>e=.returned (.int .i64 (Lib.idxOf [] x))∧w'=w:=Any.slices_Index_int_empty Tryz.lays108 a c x w
def Tryz.lays107_ren:Go.Shelf.Ren:=⟨fun|107=>158|108=>208|n=>n,fun|28=>99|3=>3|4=>4|0=>0|n=>n,fun|n=>n⟩
theorem Tryz.lays107:Go.Proofs.Lays.n107 Tryz.prog Tryz.lays107_ren:={
 mixed:=by kernel_rfl
 f107:=Tryz.func158.trans (congrArg some (by kernel_rfl))
 f108:=Tryz.func208.trans (congrArg some (by kernel_rfl))
 t0:=Tryz.underlying0
 a0:=Tryz.isAgg0
 z0:=Tryz.sizeOf0
 v0:=Tryz.zeroValue0
 t3:=Tryz.underlying3
 a3:=Tryz.isAgg3
 z3:=Tryz.sizeOf3
 v3:=Tryz.zeroValue3
 t4:=Tryz.underlying4
 a4:=Tryz.isAgg4
 z4:=Tryz.sizeOf4
 v4:=Tryz.zeroValue4
 t28:=Tryz.underlying99
 a28:=Tryz.isAgg99
 z28:=Tryz.sizeOf99
 v28:=Tryz.zeroValue99}
open Go.Lib in
theorem Tryz.slices_Contains_int (b off n c:Nat)(zs:List Int)(x:Int)(w:World)(hz:n≤zs.length)(hbig:n≤9223372036854775807)(hc: ∀j,j<zs.length→w.cell? ⟨b,off+j,none⟩=some (.int .i64 (zs.getD j 0))):
  Calls Tryz.prog 158 #[.slice (some ⟨b,off,none⟩) n c,.int .i64 x] w fun e w'=>e=.returned (.bool ((zs.take n).contains x))∧w'=w:=Any.slices_Contains_int Tryz.lays107 b off n c zs x w hz hbig hc
open Go.Lib in
theorem Tryz.slices_Contains_int_empty (a:Option Addr)(c:Nat)(x:Int)(w:World):
  Calls Tryz.prog 158 #[.slice a 0 c,.int .i64 x] w fun e w'=>e=.returned (.bool false)∧w'=w:=Any.slices_Contains_int_empty Tryz.lays107 a c x w
def Tryz.laysNm237_ren:Go.Shelf.Ren:=⟨fun|37=>212|n=>n,fun|3=>3|4=>4|n=>n,fun|n=>n⟩
theorem Tryz.laysNm237:Go.Proofs.Lays2.n37 Tryz.prog Tryz.laysNm237_ren:={
 mixed:=by kernel_rfl
 f37:=Tryz.func212.trans (congrArg some (by kernel_rfl))
 t3:=Tryz.underlying3
 a3:=Tryz.isAgg3
 z3:=Tryz.sizeOf3
 v3:=Tryz.zeroValue3
 t4:=Tryz.underlying4
 a4:=Tryz.isAgg4
 z4:=Tryz.sizeOf4
 v4:=Tryz.zeroValue4}
open Go.RowKit Go.Lib in
theorem Tryz.cmp_isNaN_int2 (x:Int)(w:World):
  Calls Tryz.prog 212 #[.int .i64 x] w fun e w'=>e=.returned (.bool false)∧w'=w:=Any.cmp_isNaN_int2 Tryz.laysNm237 x w
def Tryz.laysNm232_ren:Go.Shelf.Ren:=⟨fun|32=>172|n=>n,fun|3=>3|4=>4|n=>n,fun|n=>n⟩
theorem Tryz.laysNm232:Go.Proofs.Lays2.n32 Tryz.prog Tryz.laysNm232_ren:={
 mixed:=by kernel_rfl
 f32:=Tryz.func172.trans (congrArg some (by kernel_rfl))
 t3:=Tryz.underlying3
 a3:=Tryz.isAgg3
 z3:=Tryz.sizeOf3
 v3:=Tryz.zeroValue3
 t4:=Tryz.underlying4
 a4:=Tryz.isAgg4
 z4:=Tryz.sizeOf4
 v4:=Tryz.zeroValue4}
open Go.RowKit Go.Lib in
theorem Tryz.slices_isNaN_int2 (x:Int)(w:World):
  Calls Tryz.prog 172 #[.int .i64 x] w fun e w'=>e=.returned (.bool false)∧w'=w:=Any.slices_isNaN_int2 Tryz.laysNm232 x w
def Tryz.laysNm231_ren:Go.Shelf.Ren:=⟨fun|31=>171|37=>212|n=>n,fun|3=>3|4=>4|n=>n,fun|n=>n⟩
theorem Tryz.laysNm231:Go.Proofs.Lays2.n31 Tryz.prog Tryz.laysNm231_ren:={
 mixed:=by kernel_rfl
 f31:=Tryz.func171.trans (congrArg some (by kernel_rfl))
 f37:=Tryz.func212.trans (congrArg some (by kernel_rfl))
 t3:=Tryz.underlying3
 a3:=Tryz.isAgg3
 z3:=Tryz.sizeOf3
 v3:=Tryz.zeroValue3
 t4:=Tryz.underlying4
 a4:=Tryz.isAgg4
 z4:=Tryz.sizeOf4
 v4:=Tryz.zeroValue4}
open Go.RowKit Go.Lib in
theorem Tryz.cmp_Less_int2 (x y:Int)(w:World):
  Calls Tryz.prog 171 #[.int .i64 x,.int .i64 y] w fun e w'=>e=.returned (.bool (decide (x<y)))∧w'=w:=Any.cmp_Less_int2 Tryz.laysNm231 x y w
def Tryz.laysNm225_ren:Go.Shelf.Ren:=⟨fun|25=>123|31=>171|32=>172|37=>212|n=>n,fun|22=>99|3=>3|4=>4|40=>233|0=>0|n=>n,fun|n=>n⟩
theorem Tryz.laysNm225:Go.Proofs.Lays2.n25 Tryz.prog Tryz.laysNm225_ren:={
 mixed:=by kernel_rfl
 f25:=Tryz.func123.trans (congrArg some (by kernel_rfl))
 f31:=Tryz.func171.trans (congrArg some (by kernel_rfl))
 f32:=Tryz.func172.trans (congrArg some (by kernel_rfl))
 f37:=Tryz.func212.trans (congrArg some (by kernel_rfl))
 t0:=Tryz.underlying0
 a0:=Tryz.isAgg0
 z0:=Tryz.sizeOf0
 v0:=Tryz.zeroValue0
 t3:=Tryz.underlying3
 a3:=Tryz.isAgg3
 z3:=Tryz.sizeOf3
 v3:=Tryz.zeroValue3
 t4:=Tryz.underlying4
 a4:=Tryz.isAgg4
 z4:=Tryz.sizeOf4
 v4:=Tryz.zeroValue4
 t22:=Tryz.underlying99
 a22:=Tryz.isAgg99
 z22:=Tryz.sizeOf99
 v22:=Tryz.zeroValue99
 t40:=Tryz.underlying233
 a40:=Tryz.isAgg233
 z40:=Tryz.sizeOf233
 v40:=Tryz.zeroValue233}
open Go.RowKit Go.Lib in
theorem Tryz.slices_BinarySearch_int (b off n c:Nat)(zs:List Int)(x:Int)(w:World)(hz:n≤zs.length)(hbig:n<4611686018427387904)(hc: ∀j,j<zs.length→w.cell? ⟨b,off+j,none⟩=some (.int .i64 (zs.getD j 0)))(hs:(zs.take n).Pairwise (· ≤ ·)):
  Calls Tryz.prog 123 #[.slice (some ⟨b,off,none⟩) n c,.int .i64 x] w fun e w'=>e=.returned (.tuple #[.int .i64 ((zs.take n).countP (· <x):Nat),.bool ((zs.take n).contains x)])∧ ∃q,w'=w.drewN q:=Any.slices_BinarySearch_int Tryz.laysNm225 b off n c zs x w hz hbig hc hs
open Go.RowKit Go.Lib in
theorem Tryz.slices_BinarySearch_int_empty (a:Option Addr)(c:Nat)(x:Int)(w:World):
  Calls Tryz.prog 123 #[.slice a 0 c,.int .i64 x] w fun e w'=>e=.returned (.tuple #[.int .i64 0,.bool false])∧w'=w:=Any.slices_BinarySearch_int_empty Tryz.laysNm225 a c x w
def Tryz.laysSlM5_f175_ren:Go.Shelf.Ren:=⟨fun|5=>175|8=>215|7=>214|19=>238|20=>239|10=>230|11=>231|12=>232|13=>233|14=>234|15=>235|16=>171|17=>236|18=>237|30=>246|31=>247|32=>248|33=>249|34=>250|35=>212|40=>253|n=>n,fun|23=>99|25=>3|3=>3|32=>233|22=>99|0=>0|44=>282|46=>284|4=>4|36=>276|35=>275|41=>163|5=>5|9=>9|53=>289|57=>293|63=>298|64=>299|n=>n,fun|n=>n⟩
theorem Tryz.laysSlM5_f175:Go.Proofs.SlLaysM.n5 Tryz.prog Tryz.laysSlM5_f175_ren:={
 mixed:=by kernel_rfl
 f5:=⟨Tryz.f175.name,by decide,Tryz.func175.trans (congrArg some (by kernel_rfl))⟩
 f7:=⟨Tryz.f214.name,by decide,Tryz.func214.trans (congrArg some (by kernel_rfl))⟩
 f8:=Tryz.func215.trans (congrArg some (by kernel_rfl))
 f10:=⟨Tryz.f230.name,by decide,Tryz.func230.trans (congrArg some (by kernel_rfl))⟩
 f11:=⟨Tryz.f231.name,by decide,Tryz.func231.trans (congrArg some (by kernel_rfl))⟩
 f12:=⟨Tryz.f232.name,by decide,Tryz.func232.trans (congrArg some (by kernel_rfl))⟩
 f13:=⟨Tryz.f233.name,by decide,Tryz.func233.trans (congrArg some (by kernel_rfl))⟩
 f14:=⟨Tryz.f234.name,by decide,Tryz.func234.trans (congrArg some (by kernel_rfl))⟩
 f15:=⟨Tryz.f235.name,by decide,Tryz.func235.trans (congrArg some (by kernel_rfl))⟩
 f16:=⟨Tryz.f171.name,by decide,Tryz.func171.trans (congrArg some (by kernel_rfl))⟩
 f17:=⟨Tryz.f236.name,by decide,Tryz.func236.trans (congrArg some (by kernel_rfl))⟩
 f18:=⟨Tryz.f237.name,by decide,Tryz.func237.trans (congrArg some (by kernel_rfl))⟩
 f19:=Tryz.func238.trans (congrArg some (by kernel_rfl))
 f20:=Tryz.func239.trans (congrArg some (by kernel_rfl))
 f30:=⟨Tryz.f246.name,by decide,Tryz.func246.trans (congrArg some (by kernel_rfl))⟩
 f31:=Tryz.func247.trans (congrArg some (by kernel_rfl))
 f32:=Tryz.func248.trans (congrArg some (by kernel_rfl))
 f33:=⟨Tryz.f249.name,by decide,Tryz.func249.trans (congrArg some (by kernel_rfl))⟩
 f34:=⟨Tryz.f250.name,by decide,Tryz.func250.trans (congrArg some (by kernel_rfl))⟩
 f35:=⟨Tryz.f212.name,by decide,Tryz.func212.trans (congrArg some (by kernel_rfl))⟩
 f40:=⟨Tryz.f253.name,by decide,Tryz.func253.trans (congrArg some (by kernel_rfl))⟩
 t0:=Tryz.underlying0
 a0:=Tryz.isAgg0
 z0:=Tryz.sizeOf0
 v0:=Tryz.zeroValue0
 t3:=Tryz.underlying3
 a3:=Tryz.isAgg3
 z3:=Tryz.sizeOf3
 v3:=Tryz.zeroValue3
 t4:=Tryz.underlying4
 a4:=Tryz.isAgg4
 z4:=Tryz.sizeOf4
 v4:=Tryz.zeroValue4
 t5:=Tryz.underlying5
 a5:=Tryz.isAgg5
 z5:=Tryz.sizeOf5
 v5:=Tryz.zeroValue5
 t9:=Tryz.underlying9
 a9:=Tryz.isAgg9
 z9:=Tryz.sizeOf9
 v9:=Tryz.zeroValue9
 t22:=Tryz.underlying99
 a22:=Tryz.isAgg99
 z22:=Tryz.sizeOf99
 v22:=Tryz.zeroValue99
 t23:=Tryz.underlying99
 a23:=Tryz.isAgg99
 z23:=Tryz.sizeOf99
 v23:=Tryz.zeroValue99
 t25:=Tryz.underlying3
 a25:=Tryz.isAgg3
 z25:=Tryz.sizeOf3
 v25:=Tryz.zeroValue3
 t32:=Tryz.underlying233
 a32:=Tryz.isAgg233
 z32:=Tryz.sizeOf233
 v32:=Tryz.zeroValue233
 t35:=Tryz.underlying275
 a35:=Tryz.isAgg275
 z35:=Tryz.sizeOf275
 v35:=Tryz.zeroValue275
 t36:=Tryz.underlying276
 a36:=Tryz.isAgg276
 z36:=Tryz.sizeOf276
 v36:=Tryz.zeroValue276
 t41:=Tryz.underlying163
 a41:=Tryz.isAgg163
 z41:=Tryz.sizeOf163
 v41:=Tryz.zeroValue163
 t44:=Tryz.underlying282
 a44:=Tryz.isAgg282
 z44:=Tryz.sizeOf282
 v44:=Tryz.zeroValue282
 t46:=Tryz.underlying284
 a46:=Tryz.isAgg284
 z46:=Tryz.sizeOf284
 v46:=Tryz.zeroValue284
 t53:=Tryz.underlying289
 a53:=Tryz.isAgg289
 z53:=Tryz.sizeOf289
 v53:=Tryz.zeroValue289
 t57:=Tryz.underlying293
 a57:=Tryz.isAgg293
 z57:=Tryz.sizeOf293
 v57:=Tryz.zeroValue293
 t63:=Tryz.underlying298
 a63:=Tryz.isAgg298
 z63:=Tryz.sizeOf298
 v63:=Tryz.zeroValue298
 t64:=Tryz.underlying299
 a64:=Tryz.isAgg299
 z64:=Tryz.sizeOf299
 v64:=Tryz.zeroValue299}
open Go.Sort Go.RowKit in
theorem Tryz.slices_Sort_int (RH off cap:Nat)(zs:List Int)(w:World)(hH:Holds (Value.int .i64) w RH off zs.toArray)(hblk:RH<w.heap.size)(hsz:zs.length<4611686018427387904):
  Calls Tryz.prog 175 #[.slice (some ⟨RH,off,none⟩) zs.length cap] w fun e w'=>
   e=.returned (.tuple #[])∧ ∃n os,w'=grow (putRow (Value.int .i64) (Sort.ahead w n) RH off (zs.mergeSort fun x y=>decide (x≤y)).toArray) os:=AnyM.slices_Sort_int Tryz.laysSlM5_f175 RH off cap zs w hH hblk hsz
open Go.RowKit Go.Sort in
theorem Tryz.slices_Sort_int_none (p:Option Addr)(cap:Nat)(w:World):
  Calls Tryz.prog 175 #[.slice p 0 cap] w fun e w'=>e=.returned (.tuple #[])∧w'=w:=AnyM.slices_Sort_int_none Tryz.laysSlM5_f175 p cap w
end Go.Proofs
namespace Go.Proofs.YthhiddkljcacaaaGreat
variable {a:Act}{listed:Array Bool}{af:Array Edge}{ops:Array Oper}{ats:Array TypeId}{caps:Array Value}{assign body c:Code}{X:Cx}{Q:Exit->Act->World->Prop}{f gf:FuncId}{K:K3}{ds ps qs:List Nat}{l l':List Oper}{xs:List Operand}{Bs:List Wa}{vss:List Wb}{fuel h i j k m n off q':Nat}{p:Nat->Oper->Prop}{S:Nat->Prop}{o o':Oper}{g x y:Operand}{gd:Option (Nat×Bool)}{je:Option Exit}{P:Program}{pos:String}{H α β ι ι0 ρ:Type}{e t ty u:TypeId}{v vw:Value}{R:Value->Wa->Prop}{L L' L0 L2 M Z pre:Wa}{cs us vs:Wb}{C:World->Prop}{s:bA}
section
open Go.RowKit Go.Lib Go.Sort
abbrev Tp (z:Int):Value:=.int .i64 z
def kq (zs:List Int):List Int:=zs.mergeSort fun x y=>decide (x<=y)
theorem vJ (zs:List Int):(kq zs).length=zs.length:=by simp [kq]
theorem P0 {w w':World}{base:Nat}{xs:Wb}(h:w.ownsRow base 3 1 v n xs)(hb:Ext w w'):w'.ownsRow base 3 1 v n xs:=by
 refine ⟨h.1,?_⟩;rcases h.2 with h3|⟨g,cap,cur,e,hg,hh,r⟩
 ·exact .inl h3
 exact .inr ⟨g,cap,cur,e,hg,(Blk.ext (t:=3) hh hb),r⟩
theorem OW (w:World)(os:Array Obj):Ext w (grow w os):=⟨rfl,rfl,rfl,by simp,fun _ hk=>heap_grow_old w os hk⟩
theorem Nb {w:World}{xs:List Int}(h:All2 ((jM .i64).rel S w) vss xs):vss.flatten=xs.map Tp:=by
 induction h with
 |nil=>rfl
 |cons h1 h2 ih=>
  simp only [WI,W6,ih];rw [show _=_ from h1];rfl
theorem GA (S:Nat->Prop)(w:World): ∀(xs:List Int),All2 ((jM .i64).rel S w) (xs.map fun x=> [.int .i64 x]) xs
 | []=> .nil
 |x::xs=> .cons rfl (GA S w xs)
theorem OL (xs:List Int):((xs.map fun x=> [Value.int .i64 x])).flatten=xs.map Tp:=by
 induction xs with
 |nil=>rfl
 |cons x l ih=>simp only [W6,WI,ih];rfl
def qY (_:Nat)(a0:List Int):Option VZ:=aE (ci a0.length) (some (kq a0))
theorem EC {N:Nat}{a0 r:List Int}(h:qY N a0=some r){A:Option Addr}{c:Nat}:Okc Wc 175 [.slice A n c] [bh (jM .i64) 3 (.slice A n c) a0] fun u post=>u=.tuple #[]/\post=[bh (jM .i64) 3 (.slice A n c) r]:=by
 refine ⟨⟨_,Tryz.func175,J,J⟩,?_⟩;intro Z w hw;obtain ⟨hf,h⟩:=ac h;obtain rfl:=jn h;have hw0:=hw;obtain ⟨T,S,hT⟩:=hw;obtain ⟨vss,g1,g2⟩:=hT.ok (i:=0) (c:=bh (jM .i64) 3 (.slice A n c) a0) rfl
 have none_:a0=[]->n=0->Calls Wc 175 #[.slice A n c] w fun e w'=> ∃v post,e=.returned v/\Sp Z post w'/\v=.tuple #[]/\post=[bh (jM .i64) 3 (.slice A n c) (kq a0)]:=by
  rintro rfl rfl;refine (Tryz.slices_Sort_int_none A c w).mono ?_;rintro e w' ⟨rfl,rfl⟩
  have e0:kq []=[]:=by simp [kq]
  rw [e0];exact ⟨_,_,J,hw0,J,J⟩
 rcases g2 with ⟨ho,h3⟩|⟨h0,A',e⟩
 ·by_cases hv:(Value.slice A n c)=Y none 0 0
  ·have hn:a0=[]:=by
    rcases ho.2 with ⟨_,h⟩|⟨g,cap,cur,e,_⟩
    ·exact WD h
    rw [hv] at e;cases e
   injection hv with _ e2 _
   exact none_ hn e2
  have hnl:n=a0.length:=by
   rcases ho.2 with ⟨e1, -⟩|⟨g,cap,cur,e1, -⟩
   ·exact absurd e1 hv
   injection e1
  subst hnl;obtain ⟨c0,ho1,hv0,hc⟩:=ownsX.base ho hv;rw [Nb g1] at ho1;obtain ⟨g,cap,e,hg,hlt,hn,hm, -,hH⟩:=holds_of_ownsRow ho1 hv0
  injection e with e1 e2 e3
  subst e1 e3;refine (Tryz.slices_Sort_int g 0 c a0 w hH hlt (by unfold ci at hf;omega)).mono ?_;rintro e w' ⟨rfl,k,os,rfl⟩;refine ⟨_,_,J,?_,J,J⟩;have hTg:T 0 g:=h3 g rfl;have h1:=ownsRow_putRow (q:=k) (ys:=kq a0) (k:=a0.length) ho1 (vJ a0) (Xx _);rw [Xn (by rw [vJ];exact Xx _)] at h1;have h2:=P0 h1 (OW _ os);refine hT.upd (i:=0) (c:=bh (jM .i64) 3 (.slice (some ⟨g,0,none⟩) a0.length c) a0) J (T':=T 0) ⟨J,J,J,by simp [putRow,mapBlock,Sort.ahead],fun q hq hn=> ?_⟩ (fun _=> .inl) (fun q hq=>Xz (hT.lt hq) (by simp [putRow,mapBlock,Sort.ahead])) ?_
  ·have hne:q≠g:=fun e=>hn (e▸hTg)
   rw [heap_grow_old _ os (by simpa [putRow,mapBlock,Sort.ahead] using hq)];simp [putRow,mapBlock,Sort.ahead,Array.getElem?_modify,Ne.symm hne]
  refine ⟨(kq a0).map fun x=> [.int .i64 x],GA _ _ _,.inl ⟨?_,h3⟩⟩;rw [OL,vJ];exact .recap h2 hv0 hc
 injection e with e1 e2 e3
 exact none_ (WD h0) e2
open Go.RowKit
def aq (k:IntKind)(a b:Int):Int:=k.wrap (BitVec.ofInt k.bits a&&&BitVec.ofInt k.bits b).toNat
def dK (k:IntKind)(a b:Int):Int:=k.wrap (BitVec.ofInt k.bits a|||BitVec.ofInt k.bits b).toNat
def Im (k:IntKind)(a b:Int):Int:=k.wrap (BitVec.ofInt k.bits a ^^^ BitVec.ofInt k.bits b).toNat
def bO (k:IntKind)(a b:Int):Int:=k.wrap (BitVec.ofInt k.bits a&&& ~~~BitVec.ofInt k.bits b).toNat
section
variable {d:Option Nat}
theorem cx {k:IntKind}{a b:Int}(hx:be s x=some (.int k a))(hy:be s y=some (.int k b)):Ev P s C ⟨d,.binOp .and t x y u,ty,pos,af,gd⟩ (.int k (aq k a b)):=fD hx hy fun w=>by cases k<;>rfl
theorem qU {k:IntKind}{a b:Int}(hx:be s x=some (.int k a))(hy:be s y=some (.int k b)):Ev P s C ⟨d,.binOp .or t x y u,ty,pos,af,gd⟩ (.int k (dK k a b)):=fD hx hy fun w=>by cases k<;>rfl
theorem KQ {k:IntKind}{a b:Int}(hx:be s x=some (.int k a))(hy:be s y=some (.int k b)):Ev P s C ⟨d,.binOp .xor t x y u,ty,pos,af,gd⟩ (.int k (Im k a b)):=fD hx hy fun w=>by cases k<;>rfl
theorem Ah {k:IntKind}{a b:Int}(hx:be s x=some (.int k a))(hy:be s y=some (.int k b)):Ev P s C ⟨d,.binOp .andNot t x y u,ty,pos,af,gd⟩ (.int k (bO k a b)):=fD hx hy fun w=>by cases k<;>rfl
end
theorem KV (s:ByteArray):(s==s)=true:=by
 obtain ⟨d⟩:=s;show (d==d)=true;simp
def H2 (b:ByteArray)(i:Int):Option Int:=if 0<=i then b[i.toNat]?.map fun x=>(x.toNat:Int) else none
section
variable {d:Option Nat}
theorem zt {k:IntKind}{b:ByteArray}{i r:Int}(hx:be s x=some (.string b))(hy:be s y=some (.int k i))(ht:P.underlying t=some .string)(h:H2 b i=some r):Ev P s C ⟨d,.index t x y,ty,pos,af,gd⟩ (.int .u8 r):=fun ρ hρ w _=>by
 unfold H2 at h;split at h
 ·rename_i h0
  cases hb:b[i.toNat]? with
  |none=>rw [hb] at h;cases h
  |some z=>
   rw [hb] at h;cases h;unfold execOp;simp only [hρ x _ hx,hρ y _ hy,Instr.index,asIntOf,XL,XM,XR ht,XK,if_pos h0,hb]
 cases h
theorem DD (l:List α): ∀n:Nat,(List.replicate n l).flatten=(List.replicate n ()).flatMap fun _=>l
 |0=>rfl
 |n+1=>by rw [List.replicate_succ,List.replicate_succ,WI,WH,DD l n]
theorem JP {R:α->β->Prop}{a:α}{b:β}(h:R a b): ∀n:Nat,All2 R (List.replicate n a) (List.replicate n b)
 |0=> .nil
 |n+1=>by rw [List.replicate_succ,List.replicate_succ];exact .cons h (JP h n)
theorem P3 {R:Rep α}{k k':IntKind}{l:Int}{i:TypeInfo}{z:Value}{zl:Wb}{x0:α}(hx:be s x=some (.int k l))(hy:be s y=some (.int k' l))(ht:P.underlying t=some (.slice e))(hi:P.info? e=some i)(hz:i.zero=some z)(hzl:z.cells=zl.toArray)(hsz:i.size=R.sz)(hbb:Nat.ble i.bytes 10000=true)(hp:0<zl.length)(hr:∀S w,R.rel S w zl x0)(h0:0<=l/\l<=1000000):OpX P s L ⟨d,.makeSlice t x y,ty,pos,af,gd⟩ fun u L'=> ∃A n c,u=.slice A n c/\L'=bh R e (.slice A n c) (List.replicate l.toNat x0)::L:=fun ρ hρ Z w hw=>by
 have hbb:=Xw hbb
 have hb:(i.bytes:Int)*l<=281474976710656:=by
  have h1:(i.bytes:Int)*l<=10000*1000000:=Int.mul_le_mul U h0.2 h0.1 U;omega
 have e1:=run_make (P:=P) w t e i z ht hi hz k k' l l h0.1 (Int.le_refl _) hb U;have hlen:zl.length=R.sz:=R.len (hr (fun _=>False) w)
 have e2:madeCells z.cells (l.toNat*i.size)=((List.replicate l.toNat ()).flatMap fun _=>zl).toArray:=by
  rw [hsz, <-hlen];exact MQ (en:=fun (_:Unit)=>zl) () hzl l.toNat hp
 have hx':Ext w (w.alloc (.cells (madeCells z.cells (l.toNat*i.size)) e)):=(Ext.refl w).alloc _;refine .inl ⟨_,w.alloc (.cells (madeCells z.cells (l.toNat*i.size)) e),bh R e (.slice (some ⟨w.heap.size,0,none⟩) l.toNat l.toNat) (List.replicate l.toNat x0)::L,?_,?_,_,_,_,J,J⟩
 ·unfold execOp;simp only [hρ x _ hx,hρ y _ hy,XL,e1,XK];rfl
 refine SepL.new hw (Agr.of_ext hx') fun T S h=>⟨(· =w.heap.size),fun q hq=>by subst hq;simp,List.replicate l.toNat zl,JP (hr S _) _,.inl ⟨?_,fun q hq=>by cases hq;rfl⟩⟩
 have hl:(List.replicate l.toNat zl).flatten.length=l.toNat*R.sz:=by simp [hlen]
 have hm:l.toNat<=maxLen:=by simp [maxLen];omega
 refine .of ⟨by simpa using hl,.inr ⟨w.heap.size,l.toNat,madeCells z.cells (l.toNat*i.size),by simp,XD _,Blk.new w e _,by simp,hm,?_,?_⟩⟩
 ·rw [size_madeCells,hsz]
 rw [e2, <-DD];simp only [List.length_replicate];rw [<-hl];exact XV
end
end
section
open Go.RowKit
def Hp (R:Rep α)(e:TypeId)(v:Value)(xs:List α):Chunk where
 ok T S w:= ∃(A:Option Addr) (n c:Nat) (pre:List α),(bh R e (.slice A n c) (pre++xs)).ok T S w/\0<xs.length/\v=.slice (mu A c pre.length R.sz) xs.length (c - pre.length)
 loc:=fun h ⟨A,n,c,pre,h1,h2⟩=>⟨A,n,c,pre,(bh R e _ _).loc h h1,h2⟩
 mono:=fun h ⟨A,n,c,pre,h1,h2⟩=>⟨A,n,c,pre,(bh R e _ _).mono h h1,h2⟩
 ro:=false
 dup:=fun h=>Bool.noConfusion h
theorem LF {R:Rep α}{xs:List α}:Gs R v xs (Hp R e v xs):=fun T S w ⟨A,n,c,pre,h1,h0,h2⟩=>by
 obtain ⟨A',cap,q1,q2,q3,q4⟩:=ak T S w h1
 injection q1 with q1 q5 q6
 subst q1 q5 q6;rw [XS] at q2 q4;obtain ⟨b,o,vss,rfl,k1,k2⟩:=q4 U;subst h2;refine ⟨_,_,J,by omega,by omega,fun _=>⟨b,o+pre.length*R.sz,vss.drop pre.length,?_,?_,?_⟩⟩
 ·unfold mu;rw [if_neg U];simp [kc]
 ·have h3:=k1.drop pre.length;rw [List.drop_left] at h3;exact h3
 have h5:=k2.drop (pre.length*R.sz);rw [<-za k1 pre.length] at h5;exact h5
theorem D9 {T:Nat->Nat->Prop}{w:World}(h:SepT L T S w){c:Chunk}(hc:c.ok (T i) S w):SepT (L.set i c) T S w:=
 ⟨fun {j d} hj=>by
  by_cases e:i=j
  ·subst e;rw [List.getElem?_set_self'] at hj
   cases hq:L[i]? with
   |none=>rw [hq] at hj;cases hj
   |some x=>rw [hq] at hj;cases hj;exact hc
  ·rw [WS e] at hj;exact h.ok hj,h.apart,h.ro,h.lt,h.lts⟩
theorem Iy {R:Rep α}{xs:List α}{w:World}(hw:Sp Z L w)(hi:L[i]? =some (Hp R e v xs)): ∃(A:Option Addr) (n c:Nat) (pre:List α),Sp Z (L.set i (bh R e (.slice A n c) (pre++xs))) w/\0<xs.length/\n=pre.length+xs.length/\n<=c/\v=.slice (mu A c pre.length R.sz) xs.length (c - pre.length)/\ ∃b o,A=some ⟨b,o,none⟩:=by
 obtain ⟨T,S,h⟩:=hw;obtain ⟨A,n,c,pre,h1,h0,h2⟩:=h.ok (aU hi);obtain ⟨A',cap,q1,q2, -,q4⟩:=ak _ _ _ h1
 injection q1 with q1 q5 q6
 subst q1 q5 q6;rw [XS] at q2 q4;obtain ⟨b,o, -,hA, -⟩:=q4 U;refine ⟨A,(pre++xs).length,c,pre,?_,h0,XS,by rw [XS];exact q2,h2,b,o,hA⟩;have h3:=D9 h h1;rw [lL Z hi] at h3;exact ⟨T,S,h3⟩
theorem Q9 {R:Rep α}{xs:List α}(i:Nat)(hi:L[i]? =some (Hp R e v xs)):Cv L (L.set i (iD R v xs)):=fun Z w h=>by
 obtain ⟨A,n,c,pre,h1,h0,hn,hc,rfl, -⟩:=Iy h hi;have hlt:i<L.length:=(WQ.1 hi).1;have h2:Sp Z ((L.set i (bh R e (.slice A n c) (pre++xs))).set i (iD R (.slice A n c) (pre++xs))) w:=bL i (by rw [WT hlt]) Z w h1;rw [List.set_set] at h2
 have h3:Sp Z ((L.set i (iD R (.slice A n c) (pre++xs))).set i (iD R (.slice (mu A c pre.length R.sz) xs.length (c - pre.length)) xs)) w:=by
  obtain ⟨T,S,hT⟩:=h2
  have hg:(L.set i (iD R (.slice A n c) (pre++xs)))[i]? =some (iD R (.slice A n c) (pre++xs)):=by rw [WT hlt]
  have h4:SlR R S w (.slice A n c) (pre++xs):=hT.ok (aU hg);have h5:=h4.cut pre.length n U (by rw [XS];omega);rw [List.drop_left,Xn U,show n - pre.length=xs.length by omega] at h5;have h6:=D9 hT (i:=i) (c:=iD R (.slice (mu A c pre.length R.sz) xs.length (c - pre.length)) xs) h5;rw [lL Z hg] at h6;exact ⟨T,S,h6⟩
 rw [List.set_set] at h3;exact h3
section
variable {d:Option Nat}
theorem RZ {R:Rep α}{t e sz:Nat}{o:Operand}{A:Option Addr}{c:Nat}{xs:List α}{l:Nat}(i:Nat)(hi:L[i]? =some (bh R e (.slice A n c) xs))(hx:be s x=some (.slice A n c))(hu:P.underlying t=some (.slice e))(hs:kP P e sz=true)(hsz:R.sz=sz)(hl:be s o=some (.int .i64 (l:Int)))(h1:l<xs.length):OpX P s L ⟨d,.slice t x (some o) none none,ty,pos,af,gd⟩ fun u L'=> ∃A n c,u=.slice A n c/\L'=L.set i (Hp R e (.slice A n c) (xs.drop l)):=fun ρ hρ Z w hw=>by
 subst hsz;obtain ⟨T,S,hT⟩:=hw;have ho:=hT.ok (aU hi);obtain ⟨A',cap,q1,q2, -⟩:=ak _ _ _ ho
 injection q1 with q1 q5 q6
 subst q1 q5 q6;have hr:=rT (lo:=some o) (hi:=none) (C:=fun _=>True) (d:=d) (ty:=ty) (pos:=pos) (af:=af) (gd:=gd) (l:=l) (h:=xs.length) hx hu hs hl rfl U U ρ hρ w trivial;refine .inl ⟨_,w,_,hr,?_,_,_,_,J,J⟩;have h3:=D9 hT (i:=i) (c:=Hp R e (.slice (mu A c l R.sz) (xs.length - l) (c - l)) (xs.drop l)) ⟨A,xs.length,c,xs.take l,by rw [Xm];exact ho,by rw [WZ];omega,by rw [XT,WZ,Nat.min_eq_left U]⟩;rw [lL Z hi] at h3;exact ⟨T,S,h3⟩
theorem MA {R:Rep α}{u:Value}{xs:List α}{z:α}(i:Nat)(hi:L[i]? =some (Hp R e v xs))(hx:be s x=some (dh v k R.sz off))(hy:be s y=some u)(hv:u.cells.toList=us)(hs:kP P t us.length=true)(h1:us.all (·.oneCell')=true)(hk:k<xs.length)(hle:Nat.ble (off+us.length) R.sz=true)(hrel:∀S w vs xk,xs[k]? =some xk->R.rel S w vs xk->R.rel S w (vs.take off++us++vs.drop (off+us.length)) z):OpX P s L ⟨d,.store t x y,ty,pos,af,gd⟩ fun _ L'=>L'=L.set i (Hp R e v (xs.set k z)):=fun ρ hρ Z w hw=>by
 obtain ⟨A,n,c,pre,h2,h0,hn,hc,rfl,b,o,rfl⟩:=Iy hw hi;have hlt:i<L.length:=(WQ.1 hi).1
 have hx':be s x=some (dh (.slice (some ⟨b,o,none⟩) n c) (pre.length+k) R.sz off):=by
  rw [hx];unfold mu;rw [if_neg U];simp only [XG,kc,dh,Xt]
  congr 4
  omega
 have key:=cF (P:=P) (s:=s) (L:=L.set i (bh R e (.slice (some ⟨b,o,none⟩) n c) (pre++xs))) (d:=d) (ty:=ty) (pos:=pos) (af:=af) (gd:=gd) (t:=t) (k:=pre.length+k) (z:=z) i (by rw [WT hlt]) hx' hy hv hs h1 (by rw [XS];omega) hle (fun S w vs xk hxk hr _=>hrel S w vs xk (by rw [WK U,Nat.add_sub_cancel_left] at hxk;exact hxk) hr) ρ hρ Z w h2
 have fin: ∀w' L',Sp Z L' w'->L'=(L.set i (bh R e (.slice (some ⟨b,o,none⟩) n c) (pre++xs))).set i (bh R e (.slice (some ⟨b,o,none⟩) n c) ((pre++xs).set (pre.length+k) z))->Sp Z (L.set i (Hp R e (.slice (mu (some ⟨b,o,none⟩) c pre.length R.sz) xs.length (c - pre.length)) (xs.set k z))) w':=by
  intro w' L' hL' e';subst e';rw [List.set_set,List.set_append_right _ _ U,Nat.add_sub_cancel_left] at hL';obtain ⟨T,S,hT⟩:=hL'
  have hg:(L.set i (bh R e (.slice (some ⟨b,o,none⟩) n c) (pre++xs.set k z)))[i]? =some (bh R e (.slice (some ⟨b,o,none⟩) n c) (pre++xs.set k z)):=by rw [WT hlt]
  have h3:=D9 hT (i:=i) (c:=Hp R e (.slice (mu (some ⟨b,o,none⟩) c pre.length R.sz) xs.length (c - pre.length)) (xs.set k z)) ⟨_,_,_,_,hT.ok (aU hg),by rw [W3];exact h0,by rw [W3]⟩;rw [lL Z hg,List.set_set] at h3;exact ⟨T,S,h3⟩
 rcases key with ⟨v,w',L',e1,e2,e3⟩|⟨w',L',e1,e2,e3⟩|⟨f,args,e1,e2⟩|⟨l,f,tm,ag,bo,e1,e2⟩
 ·exact .inl ⟨v,w',_,e1,fin w' L' e2 e3,J⟩
 ·exact .inr (.inl ⟨w',_,e1,fin w' L' e2 e3,J⟩)
 ·exact .inr (.inr (.inl ⟨f,args,e1,e2.mono fun e w' ⟨v,L',q1,q2,q3⟩=>⟨v,_,q1,fin w' L' q2 q3,J⟩⟩))
 exact .inr (.inr (.inr ⟨l,f,tm,ag,bo,e1,e2.mono fun e w' ⟨v,L',q1,q2,q3⟩=>⟨v,_,q1,fin w' L' q2 q3,J⟩⟩))
end
end
section
open Go.RowKit
theorem IX {d:Option Nat}{bs:Array Value}{rest:Wa}(hc:Okc P f us pre R)(hx:be s x=some (.func (.func f) bs #[]))(hv:DE s xs=some vs)(hu:bs.toList++vs=us)(hL:Cv L (pre++rest)):OpX P s L ⟨d,.call ⟨.value x,xs.toArray,ats⟩,ty,pos,af,gd⟩ fun u L'=> ∃post,R u post/\L'=post++rest:=fun ρ hρ Z w hw=>by
 subst hu;refine .inr (.inr (.inl ⟨f,(bs.toList++vs).toArray,by simpa using yZ hc.cal (nL hρ hv) (hρ _ _ hx),?_⟩))
 have h1:Sp (rest++Z) pre w:=by have:=hL Z w hw;unfold Sp at*;simpa only [V3] using this
 refine (hc.run _ w h1).mono ?_;rintro e w' ⟨v,post,rfl,h2,h3⟩;exact ⟨v,post++rest,J,by unfold Sp at*;simpa only [V3] using h2,post,h3,rfl⟩
end
end Go.Proofs.YthhiddkljcacaaaGreat