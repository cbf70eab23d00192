/- Merged texts: part 2. No conditions of their own. -/
import Derived.Test.YtmimkglhbmcokaaGreatG1
import Derived.Lib.AppendZeros
import Derived.LoopNIn
import Derived.KernelRfl
import Derived.Shelf.Small.Bits
import Derived.Shelf.Small.Wraps
import Derived.Shelf.Strconv.Itoa0
import Derived.Shelf.Sort.Plain
import Derived.Shelf.Slices.Turned
import Derived.Ground.Names2Prog
import Derived.Shelf.Slices.SearchI
import Derived.Shelf.Slices.In.SortNone
import Derived.Shelf.Slices.Empties
import Derived.Test.YtmimkglhbmcokaaGreatProg
import Derived.Lib.OwnBridge
namespace Go.Proofs.YtmimkglhbmcokaaGreat
section
open Go.RowKit
def lw {ρ:Type}(e:Option Exit)(n r:Option ρ)(x:Nat→Option ρ):Option ρ:=match e with
 |none=>n
 |some .ret=>r
 |some (.exit i)=>x i
 |some _=>none
theorem iR {K:K3}{e:Exit}{s:bE}{L':List Chunk}(L:List Chunk)(h:L'=L)(k:K e s L):K e s L':=h▸k
theorem Aa {X:Cx}{K K':K3}{s:bE}{L:List Chunk}{c:Code}(h:Wq X c K' s L)(hk: ∀e s L,K' e s L→ ∃(ι:Type) (Q:ι→List Chunk),L=[fl Q]∧ ∀x,K e s (Q x)):Wq X c K s L:=fun H Ds a w ha hd hw=>wpIn_mono (h H Ds a w ha hd hw) fun e a' w' ⟨s',L',Ds',h1,h2,h3,h4⟩=>by
 obtain ⟨ι,Q,rfl,h5⟩:=hk _ _ _ h4;obtain ⟨x,hx⟩:=gV h3;exact ⟨s',Q x,Ds',h1,h2,by simpa using hx,h5 x⟩
theorem kS {α σ ι ρ:Type}{X:Cx}{K:K3}{s:bE}{g:Operand}{ps:List Nat}{assign body:Code}{gf:FuncId}{caps:Array Value}{en:α→List Value}(φ:α→σ→Option (Option Exit×σ))(Q:σ→ι→List Chunk)(pre:List Chunk)(σ₀:σ)(x₀:ι){je:Option Exit}{σr:σ}{L:List Chunk}{id:Nat}{vn vr:Option ρ}{vx:Nat→Option ρ}{v:ρ}
  (hr:X.r=none) (hg:bK s g=some (.func (.func gf) #[] caps)) (hf:av X.P gf) (hps:ps.all (fun p=>Nat.ble (p+1) X.n)=true) (hen: ∀x,(en x).length=ps.length)
  (hit: ∀l (G:(Option Exit×σ)→List Chunk),lx X.P l G en (bW φ)→Okc X.P gf (.func (.yield l) #[] #[]::caps.toList) (pre++G (none,σ₀)) fun _ post=>post=G (je,σr))
  (hL:Cv L (pre++Q σ₀ x₀)) (h:lw je vn vr vx=some v)
  (hbody: ∀l x σ₁ je' σ₂ z,φ x σ₁=some (je',σ₂)→Wq ⟨X.P,X.n,some l⟩ assign (nx (fun s1 L1=>Wq ⟨X.P,X.n,some l⟩ body (RK je' [fl (Q σ₂)]) s1 L1) fun _ _ _=>False) (pJ ps (en x) s) (Q σ₁ z))
  (hn: ∀z,vn=some v→bk id K .normal s (Q σr z)) (hret: ∀z,vr=some v→bk id K .ret s (Q σr z)) (hx: ∀i z,vx i=some v→bk id K (.exit i) s (Q σr z)):
  Wq X (.block id (.rangeFunc g ps.toArray assign body)) K s L:=by
 refine cQ (Aa (K':=fun e s' L'=>s'=s∧L'=[fl (Q σr)]∧ ∀z,bk id K e s (Q σr z)) ?_ ?_)
 ·refine DZ φ (fun q=> [fl (Q q)]) pre σ₀ hr hg hf hps hen hit ?_ ?_ ?_ ?_
  ·exact hL.trans (kO pre (dm x₀ J))
  ·intro l x σ₁ je' σ₂ hφ
   exact CA fun z=>hbody l x σ₁ je' σ₂ z hφ
  ·intro hj;rw [hj] at h;exact ⟨J,J,fun z=>hn z h⟩
  intro e he;rw [he] at h
  cases e with
  |ret=>exact ⟨rfl,rfl,rfl,fun z=>hret z h⟩
  |exit i=>exact ⟨rfl,rfl,rfl,fun z=>hx i z h⟩
  |_=>cases h
 rintro e s' L' ⟨rfl,rfl,h3⟩;exact ⟨ι,Q σr,J,h3⟩
theorem yZ {L L':List Chunk}{s:bE}(h:Cv L L'):RK (some .ret) L' .ret s L:=⟨.inr ⟨rfl,rfl⟩,h⟩
theorem rv {L L':List Chunk}{s:bE}(h:Cv L L'):RK none L' .normal s L:=⟨.inl ⟨rfl,rfl⟩,h⟩
def wY (P:Program)(L:List Chunk)(s:bE)(r:ResultVar)(v:Value):Prop:=match r with
 | .tmp t=>eO s t=some v
 | .cell t ty=> ∃b,eO s t=some (.pointer (some ⟨b,0,none⟩))∧ ∀Z w,Sp Z L w→(loadVar ty ⟨b,0,none⟩).run P w=.ok v w
def FJ:List Value→Value
 | [v]=>v
 |vs=> .tuple vs.toArray
def sY (tm:Array Value)(r:ResultVar):Sem Value:=match r with
 | .tmp t=>pure (tm.getD t undef)
 | .cell a t=>do loadVar t (←asAddr (tm.getD a undef))
theorem ym (fn:Func)(tm:Array Value):results fn tm=(do let vs←fn.results.mapM (sY tm);pure (if h:vs.size=1 then vs[0] else .tuple vs)):=rfl
theorem rD {X:Cx}{s:bE}{a:Act}(ha:Fx X s a){L Z:List Chunk}{w:World}(hw:Sp Z L w): ∀{rs:List ResultVar} {vs:List Value},All2 (wY X.P L s) rs vs→(rs.mapM (sY a.tmps)).run X.P w=.ok vs w
 |_,_,.nil=>by simp
 | r::rs,_,.cons (b:=vr) h1 h2=>by
  have ih:=rD ha hw h2
  have h3:(sY a.tmps r).run X.P w=.ok vr w:=by
   cases r with
   |tmp t=>
    have e:=ha.at_ t _ h1;unfold sY;simp only [Sem.run_pure,e]
   |cell t ty=>
    obtain ⟨b,e1,e2⟩:=h1;have e:=ha.at_ t _ e1;unfold sY;simp only [e,asAddr,Sem.run_bind,Sem.run_pure,Result.andThen_ok,e2 _ _ hw]
  rw [List.mapM_cons,Sem.run_bind,h3,Result.andThen_ok,Sem.run_bind,ih,Result.andThen_ok,Sem.run_pure]
theorem dl {X:Cx}{fn:Func}{R:Value→List Chunk→Prop}{s:bE}{L L2:List Chunk}{rs:List ResultVar}{vs:List Value}{v:Value}(hr:fn.results=rs.toArray)(h:All2 (wY X.P L s) rs vs)(hv:FJ vs=v)(hc:Cv L L2)(hR:R v L2):zb X fn R .ret s L:=fun a ha=>⟨v,L2,fun Z w hw=>by
 have h1:=rD ha hw h;rw [ym,hr,Sem.run_bind];simp only [List.mapM_toArray]
 have h2:(List.toArray<$>rs.mapM (sY a.tmps)).run X.P w=.ok vs.toArray w:=by
  show ((rs.mapM (sY a.tmps))>>=fun l=>pure l.toArray).run X.P w=_;rw [Sem.run_bind,h1,Result.andThen_ok,Sem.run_pure]
 rw [h2,Result.andThen_ok,Sem.run_pure];subst hv
 match vs with
 | []=>rfl
 | [v]=>rfl
 |_::_::_=>simp [FJ],hc,hR⟩
theorem im {P:Program}{L:List Chunk}{s:bE}{t:Nat}{v:Value}(h:eO s t=some v):wY P L s (.tmp t) v:=h
theorem bY {P:Program}{L:List Chunk}{s:bE}{t ty bt b:Nat}{cs:List Value}(i:Nat)(hi:L[i]? =some (aw b bt cs))(hl:eO s t=some (.pointer (some ⟨b,0,none⟩)))(hu:rp P ty cs.length=true):wY P L s (.cell t ty) (.agg cs.toArray):=⟨b,hl,fun Z w hw=>by
 obtain ⟨T,S, -,h⟩:=hw.get (bf hi)
 exact uL hu h.all⟩
theorem Ao {P:Program}{t:TypeId}{a:Addr}{v:Value}{w:World}(hu:gk P t=true)(hc:w.cell? a=some v):(loadVar t a).run P w=.ok v w:=by
 have h1:(isAgg t).run P w=.ok false w:=by
  unfold gk at hu;unfold isAgg
  cases hq:P.underlying t with
  |none=>rw [hq] at hu;cases hu
  |some u=>rw [hq] at hu;rw [Sem.run_bind,run_underlying hq];cases u<;>first|rfl|(cases hu)
 simp only [loadVar,Sem.run_bind,Sem.run_pure,Result.andThen_ok,h1,Bool.false_eq_true,if_false,run_load,hc]
theorem jf {P:Program}{L:List Chunk}{s:bE}{t ty bt b:Nat}{v:Value}(i:Nat)(hi:L[i]? =some (aw b bt [v]))(hl:eO s t=some (.pointer (some ⟨b,0,none⟩)))(hu:gk P ty=true):wY P L s (.cell t ty) v:=⟨b,hl,fun Z w hw=>by
 obtain ⟨T,S, -,h⟩:=hw.get (bf hi)
 exact Ao hu (h.at (by simp))⟩
section
variable {P:Program} {s:bE} {L:List Chunk} {d:Option Nat} {ty:TypeId} {pos:String} {af:Array Edge} {gd:Option (Nat×Bool)}
theorem lJ {sz:Nat}: ∀{vss:List (List Value)},(∀r∈vss,r.length=sz)→ ∀{k:Nat} {r:List Value},vss[k]? =some r→ ∀r':List Value,vss.flatten=vss.flatten.take (k*sz)++r++vss.flatten.drop (k*sz+sz)∧(vss.set k r').flatten=vss.flatten.take (k*sz)++r'++vss.flatten.drop (k*sz+sz)
 | [],_,k,r,h,_=>by simp at h
 |a::l,hl,0,r,h,r'=>by
  simp only [List.getElem?_cons_zero,Option.some.injEq] at h;subst h;have e:=hl a (by simp);simp [←e]
 |a::l,hl,k+1,r,h,r'=>by
  simp only [List.getElem?_cons_succ] at h;obtain ⟨h1,h2⟩:=lJ (fun x hx=>hl x (by simp [hx])) h r';have e:=hl a (by simp)
  have e1:(k+1)*sz=a.length+k*sz:=by rw [e,Nat.add_mul];omega
  have e2: ∀m:Nat,(a++l.flatten).take (a.length+m)=a++l.flatten.take m:=fun m=>by rw [List.take_append,List.take_of_length_le Y,Nat.add_sub_cancel_left]
  have e3: ∀m:Nat,(a++l.flatten).drop (a.length+m)=l.flatten.drop m:=fun m=>by rw [List.drop_append,List.drop_eq_nil_of_le Y,Nat.add_sub_cancel_left,List.nil_append]
  rw [List.set_cons_succ,List.flatten_cons,List.flatten_cons,e1,h2,Nat.add_assoc,e2,e3];refine ⟨?_,by simp only [GE]⟩
  conv=>lhs;rw [h1]
  simp only [GE]
theorem wZ {α:Type}{R:Rep α}{S:Nat→Prop}{w:World}{vss:List (List Value)}{xs:List α}(h:All2 (R.rel S w) vss xs): ∀r∈vss,r.length=R.sz:=by
 induction h with
 |nil=>intro r hr;cases hr
 |cons h1 _ ih=>
  intro r hr;rcases List.mem_cons.1 hr with rfl|hr
  ·exact R.len h1
  exact ih r hr
theorem Em (cs us:List Value)(o:Nat)(h:o+us.length≤cs.length):(ow cs.toArray o us).toList=cs.take o++us++cs.drop (o+us.length):=by
 rcases zj cs us o with h1|h1
 ·rw [h1]
 omega
theorem va {α:Type}{R:Rep α}{e:TypeId}{t:TypeId}{x y:Operand}{v u:Value}{us:List Value}{xs:List α}{k off:Nat}{z:α}(i:Nat)(hi:L[i]? =some (dQ R e v xs))(hx:bK s x=some (bO v k R.sz off))(hy:bK s y=some u)(hv:u.cells.toList=us)(hs:dJ P t us.length=true)(h1:us.all (·.oneCell')=true)(hk:k<xs.length)(hle:Nat.ble (off+us.length) R.sz=true)
  (hrel: ∀S w vs xk,xs[k]? =some xk→R.rel S w vs xk→Ro L S w→R.rel S w (vs.take off++us++vs.drop (off+us.length)) z):OpX P s L ⟨d,.store t x y,ty,pos,af,gd⟩ fun _ L'=>L'=L.set i (dQ R e v (xs.set k z)):=fun ρ hρ Z w hw=>by
 obtain ⟨T,S,hT⟩:=hw;obtain ⟨vss,g1,g2⟩:=hT.ok (bf hi);have hle:=Nat.le_of_ble_eq_true hle;rcases g2 with ⟨g2,g3⟩|⟨h0, -⟩
 rotate_left
 ·omega
 rcases g2.2 with ⟨rfl,h0⟩|⟨g,cap,cur,rfl,q1,q2,q3,q4,q5,q6⟩
 ·omega
 obtain ⟨xk,hxk⟩: ∃xk,xs[k]? =some xk:=⟨_,List.getElem?_eq_getElem hk⟩;obtain ⟨vs,hvs,hr⟩:=g1.get hxk;have hl:=R.len hr
 have hlen:k*R.sz+R.sz≤xs.length*R.sz:=by rw [←Nat.succ_mul];exact Nat.mul_le_mul_right _ hk
 have hcap0:cap*R.sz≤cur.size:=by
  rcases q5 with q5|⟨-,c0,h1, -,h3⟩
  ·omega
  rw [h3];exact Nat.mul_le_mul_right _ h1
 have hcap:xs.length*R.sz≤cap*R.sz:=Nat.mul_le_mul_right _ q3
 have hx':bK s x=some (.pointer (some ⟨g,k*R.sz+off,none⟩)):=by rw [hx];simp [bO]
 obtain ⟨w',e1,e2,e3⟩:=fq (P:=P) (t:=e) us w g (k*R.sz+off) 0 cur q2 Y h1;have hz:=hrel S w vs xk hxk hr hT.ros.app;have hfl:=lJ (wZ g1) hvs (vs.take off++us++vs.drop (off+us.length));refine .inr (.inl ⟨w',L.set i (dQ R e (.slice (some ⟨g,0,none⟩) xs.length cap) (xs.set k z)),?_,?_,J⟩)
 ·unfold execOp
  have hcs:u.cells=us.toArray:=by rw [←hv]
  simp only [hρ x _ hx',hρ y _ hy,Instr.storeAt,Instr.sureAddr,storeVar,Sem.run_bind,Sem.run_pure,Result.andThen_ok,eU hs w,hcs,List.size_toArray,ne_eq,not_true,if_false,e1]
 have hfin:SepL ((L++Z).set i (dQ R e (.slice (some ⟨g,0,none⟩) xs.length cap) (xs.set k z))) w':=by
  refine hT.upd (bf hi) (T':=T i) (Agr.of_fr e2 fun q hq e=>hq (e▸g3 g J)) (fun _=> .inl) (fun q hq=>Nat.lt_of_lt_of_le (hT.lt hq) e2.size) ?_
  have hS:Agr S w w':=Agr.of_fr e2 fun q hq e=>hT.ro (g3 g rfl) (e▸hq)
  refine ⟨vss.set k (vs.take off++us++vs.drop (off+us.length)),(g1.imp fun _ _=>R.loc hS).set (R.loc hS hz) k,.inl ⟨?_,g3⟩⟩;rw [List.length_set]
  have hnew:((vss.set k (vs.take off++us++vs.drop (off+us.length))).flatten).length=xs.length*R.sz:=by
   have:=kw (R:=R) (S:=S) (w:=w) (g1.set hz k);rw [this,List.length_set]
  refine ⟨hnew,.inr ⟨g,cap,_,J,Nat.zero_le _,e3,q3,q4,by rw [wb];exact q5,?_⟩⟩
  have hcur:cur=cur.toList.toArray:=by simp
  have hsz:k*R.sz+off+us.length≤cur.toList.length:=by simp;omega
  rw [Nat.add_zero,hcur,Em _ _ _ hsz,hfl.2];have hF:vss.flatten=cur.toList.take (xs.length*R.sz):=q6.symm;have hFl:vss.flatten.length=xs.length*R.sz:=g2.1;apply List.ext_getElem?;intro j;have hvl:vs.length=R.sz:=hl
  have key: ∀j',j'<R.sz→vs[j']? =vss.flatten[k*R.sz+j']? :=fun j' hj'=>by
   have h5:vs[j']? =some (vs[j']'Y):=List.getElem?_eq_getElem Y;rw [h5];exact (lV g1 hvs h5).symm
  by_cases hj:j<xs.length*R.sz
  ·rw [List.getElem?_take,if_pos hj];by_cases c1:j<k*R.sz
   ·rw [GE,List.getElem?_append_left (by rw [List.length_take];simp;omega),List.getElem?_take,if_pos Y,GE,List.getElem?_append_left (by rw [List.length_take];omega),List.getElem?_take,if_pos c1,hF,List.getElem?_take,if_pos hj]
   by_cases c2:j<k*R.sz+off
   ·rw [GE,List.getElem?_append_left (by rw [List.length_take];simp;omega),List.getElem?_take,if_pos c2];rw [GE,List.getElem?_append_right (by rw [List.length_take];omega),List.length_take,show min (k*R.sz) vss.flatten.length=k*R.sz by omega];rw [GE,GE,List.getElem?_append_left (by rw [List.length_take];omega),List.getElem?_take,if_pos Y,key _ Y,show k*R.sz+(j - k*R.sz)=j by omega,hF,List.getElem?_take,if_pos hj]
   by_cases c3:j<k*R.sz+off+us.length
   ·rw [GE,List.getElem?_append_right (by rw [List.length_take];simp;omega),List.length_take,show min (k*R.sz+off) cur.toList.length=k*R.sz+off by omega,List.getElem?_append_left Y];rw [GE,List.getElem?_append_right (by rw [List.length_take];omega),List.length_take,show min (k*R.sz) vss.flatten.length=k*R.sz by omega];rw [GE,GE,List.getElem?_append_right (by rw [List.length_take];omega),List.length_take,show min off vs.length=off by omega,List.getElem?_append_left Y]
    congr 1;omega
   rw [GE,List.getElem?_append_right (by rw [List.length_take];simp;omega),List.length_take,show min (k*R.sz+off) cur.toList.length=k*R.sz+off by omega,List.getElem?_append_right Y,List.getElem?_drop];rw [GE,List.getElem?_append_right (by rw [List.length_take];omega),List.length_take,show min (k*R.sz) vss.flatten.length=k*R.sz by omega];rw [GE,GE,List.getElem?_append_right (by rw [List.length_take];omega),List.length_take,show min off vs.length=off by omega,List.getElem?_append_right Y];by_cases c4:j<k*R.sz+R.sz
   ·rw [List.getElem?_append_left (by rw [List.length_drop];omega),List.getElem?_drop,key _ Y,hF,List.getElem?_take,if_pos Y]
    congr 1;omega
   rw [List.getElem?_append_right (by rw [List.length_drop];omega),List.length_drop,List.getElem?_drop,hF,List.getElem?_take,if_pos Y]
   congr 1;omega
  rw [List.getElem?_take,if_neg hj];refine (List.getElem?_eq_none ?_).symm;rw [←hfl.2,hnew];omega
 rw [fS Z hi] at hfin;exact hfin
theorem xm {α β:Type}{ek:α→Value}{ev:β→Value}{t kt et:TypeId}{x:Operand}{n:Int}(hx:bK s x=some (.int .i64 n))(ht:P.underlying t=some (.map kt et)):OpX P s L ⟨d,.makeMap t (some x),ty,pos,af,gd⟩ fun u L'=> ∃m,u=.map (some m)∧L'=dN ek ev m ([]:List (α×β))::L:=fun ρ hρ Z w hw=>by
 refine .inl ⟨.map (some w.heap.size),w.alloc (.map #[] 0),dN ek ev w.heap.size []::L,?_,SepL.new hw (Agr.of_ext ((Ext.refl w).alloc _)) fun _ S _=>⟨(· =w.heap.size),fun q hq=>by subst hq;simp,rfl, #[],0,heap_alloc_new w _,by simp,by simp,by simp⟩,_,J,J⟩;unfold execOp;simp only [Option.map_some,hρ x _ hx,Instr.makeMap,Sem.run_bind,run_underlying ht,Result.andThen_ok,asInt];rfl
theorem lT {P:Program}{w:World}{m c:Nat}{code:BoundsCode}(h:m≤c):(Instr.sliceBound (.int .i64 (m:Int)) c code).run P w=.ok m w:=by
 unfold Instr.sliceBound;simp only [asIntOf,Sem.run_bind,Sem.run_pure,Result.andThen_ok];rw [if_pos ⟨by omega,by omega⟩];simp
theorem AL {C:World→Prop}{t e sz:Nat}{x y z:Operand}{A:Option Addr}{n c:Nat}{h m:Nat}(hx:bK s x=some (.slice A n c))(hu:P.underlying t=some (.slice e))(hs:dJ P e sz=true)(hh:bK s y=some (.int .i64 (h:Int)))(hm:bK s z=some (.int .i64 (m:Int)))(h1:h≤m)(h2:m≤c):Ev P s C ⟨d,.slice t x none (some y) (some z),ty,pos,af,gd⟩ (.slice (if m=0 then A else A.map (·.add 0)) h m):=fun ρ hρ w _=>by
 unfold execOp;simp only [Option.map_some,Option.map_none,hρ x _ hx,hρ y _ hh,hρ z _ hm,Instr.sliceAt,Instr.slice,Instr.sliceBounds,Sem.run_bind,run_underlying hu,Result.andThen_ok,lT h2,lT h1,eU hs w,Sem.run_pure,Nat.zero_mul];rfl
end
def gc {α:Type}(R:Rep α)(e:TypeId)(v:Value)(xs:List α)(vw:Value)(k:Nat):Chunk where
 ok T S w:= ∃vss,All2 (R.rel S w) vss xs∧((ownsX w e R.sz v xs.length vss.flatten∧ ∀q,v.ownBlock=some q→T q)∨(xs.length=0∧ ∃A,v=.slice A 0 0))∧k≤xs.length∧ ∃A,vw=.slice A k k∧k≤9223372036854775807∧(0<k→ ∃b,A=some ⟨b,0,none⟩∧T b∧b<w.heap.size∧CellsAt w b 0 (vss.take k).flatten)
 loc:=fun h ⟨vss,h1,h2,h3,A,h4,h5,h6⟩=>⟨vss,h1.imp fun _ _=>R.loc (h.mono fun _=> .inr),h2.imp (fun ⟨h2,h3⟩=>⟨ma h2 h fun q hq=> .inl (h3 q hq),h3⟩) id,h3,A,h4,h5,fun h0=>by
  obtain ⟨b,g1,g2,g3,g4⟩:=h6 h0
  exact ⟨b,g1,g2,Nat.lt_of_lt_of_le g3 h.size,g4.agr h (.inl g2) g3⟩⟩
 mono:=fun h ⟨vss,h1,h2,h3⟩=>⟨vss,h1.imp fun _ _=>R.mono h,h2,h3⟩
 ro:=false
 dup:=fun h=>Bool.noConfusion h
theorem tR {α:Type}{R:Rep α}{e:TypeId}{v:Value}{xs:List α}{vw:Value}{k:Nat}{T S:Nat→Prop}{w:World}(h:(gc R e v xs vw k).ok T S w):(dQ R e v xs).ok T S w:=by
 obtain ⟨vss,h1,h2, -⟩:=h;exact ⟨vss,h1,h2⟩
theorem xH {α:Type}{R:Rep α}{e:TypeId}{v:Value}{xs:List α}{vw:Value}{k:Nat}:yb R v xs (gc R e v xs vw k):=fun T S w h=>aJ T S w (tR h)
theorem tX {α:Type}{R:Rep α}{e:TypeId}{v:Value}{xs:List α}{vw:Value}{k:Nat}:yb R vw (xs.take k) (gc R e v xs vw k):=fun T S w ⟨vss,h1,_,h3,A,h4,h5,h6⟩=>by
 have hl:(xs.take k).length=k:=by rw [List.length_take];omega
 refine ⟨A,k,by rw [hl];exact h4,by omega,h5,fun h0=> ?_⟩;rw [hl] at h0;obtain ⟨b,g1,g2,g3,g4⟩:=h6 h0;exact ⟨b,0,vss.take k,g1,h1.take k,g4⟩
theorem BZ {α:Type}{R:Rep α}{e:TypeId}{v:Value}{xs:List α}{L:List Chunk}(i:Nat)(hi:L[i]? =some (dQ R e v xs)):Cv L (L.set i (gc R e v xs (I none 0 0) 0)):=fun Z w h=>by
 have h1:=h.weak (bf hi) (d:=gc R e v xs (I none 0 0) 0) fun T S ⟨vss,h1,h2⟩=>⟨vss,h1,h2,Nat.zero_le _,none,rfl,by omega,fun h=>absurd h Y⟩
 rw [fS Z hi] at h1;exact h1
theorem AO {α:Type}{R:Rep α}{e:TypeId}{v:Value}{xs:List α}{vw:Value}{k:Nat}{L:List Chunk}(i:Nat)(hi:L[i]? =some (gc R e v xs vw k)):Cv L (L.set i (dQ R e v xs)):=fun Z w h=>by
 have h1:=h.weak (bf hi) (d:=dQ R e v xs) fun T S h=>tR h
 rw [fS Z hi] at h1;exact h1
section
variable {P:Program} {s:bE} {L:List Chunk} {d:Option Nat} {ty:TypeId} {pos:String} {af:Array Edge} {gd:Option (Nat×Bool)}
theorem C1 {α:Type}{R:Rep α}{t e sz:Nat}{x y z:Operand}{v vw:Value}{xs:List α}{k n:Nat}(i:Nat)(hi:L[i]? =some (gc R e v xs vw k))(hx:bK s x=some v)(hu:P.underlying t=some (.slice e))(hs:dJ P e sz=true)(hsz:R.sz=sz)(hh:bK s y=some (.int .i64 (n:Int)))(hm:bK s z=some (.int .i64 (n:Int)))(h1:n≤xs.length):OpX P s L ⟨d,.slice t x none (some y) (some z),ty,pos,af,gd⟩ fun u L'=> ∃A,u=.slice A n n∧L'=L.set i (gc R e v xs (.slice A n n) n):=fun ρ hρ Z w hw=>by
 have hw0:=hw;obtain ⟨T,S,hT⟩:=hw;obtain ⟨vss,g1,g2,g3⟩:=hT.ok (bf hi);obtain ⟨A,c,rfl,q1,q2, -⟩:=xH _ _ _ (hT.ok (bf hi));have hrun:=AL (C:=fun _=>True) (d:=d) (ty:=ty) (pos:=pos) (af:=af) (gd:=gd) hx hu hs hh hm (Nat.le_refl _) Y ρ hρ w trivial;refine .inl ⟨_,w,L.set i (gc R e (.slice A xs.length c) xs (.slice (if n=0 then A else A.map (·.add 0)) n n) n),hrun,?_,_,J,J⟩
 have hfin:SepL ((L++Z).set i (gc R e (.slice A xs.length c) xs (.slice (if n=0 then A else A.map (·.add 0)) n n) n)) w:=by
  refine hw0.weak (bf hi) fun T S ⟨vss,g1,g2,g3⟩=>⟨vss,g1,g2,h1,_,J,by omega,fun h0=> ?_⟩
  rw [if_neg Y];rcases g2 with ⟨g2,g4⟩|⟨h9, -⟩
  ·rcases g2.2 with ⟨e1,h9⟩|⟨g,cap,cur,e1,p1,p2,p3,p4,p5,p6⟩
   ·omega
   injection e1 with e1 e2 e3
   subst e1;refine ⟨g,by simp [iQ],g4 g rfl,Blk.lt (t:=e) (cs:=cur) p2,?_⟩;have h5:=ew (cap:=cap) p2 p6;rw [←List.take_append_drop n vss,List.flatten_append] at h5;exact h5.left
  omega
 rw [fS Z hi] at hfin;exact hfin
theorem yu {α:Type}{R:Rep α}{x y:Operand}{t e:TypeId}{v v2 vw:Value}{k:Nat}{xs ys:List α}{c2:Chunk}{sz by_:Nat}(i j:Nat)(hi:L[i]? =some (gc R e v xs vw k))(hj:L[j]? =some c2)(he:yb R v2 ys c2)(hx:bK s x=some v)(hy:bK s y=some v2)(ht:P.underlying t=some (.slice e))(hz:nm P e sz by_=true)(hsz:R.sz=sz)(hby:Nat.ble by_ 127=true)(hb:xs.length+ys.length≤1099511627776):OpX P s L ⟨d,.call ⟨.builtin .append, #[x,y], #[t,t]⟩,ty,pos,af,gd⟩ fun u L'=> ∃A n c,u=.slice A n c∧L'=L.set i (gc R e (.slice A n c) (xs++ys) vw k):=fun ρ hρ Z w hw=>by
 have hbuilt:=gZ (P:=P) (ρ:=ρ) (d:=d) (ty:=ty) (pos:=pos) (af:=af) (gd:=gd) (b:=.append) (xs:=[x,y]) (ats:= #[t,t]) (vs:=[v,v2]) (by simp [hρ x _ hx,hρ y _ hy]) w
 have hby':=Nat.le_of_ble_eq_true hby
 unfold nm at hz
 cases hinfo:P.info? e with
 |none=>rw [hinfo] at hz;cases hz
 | some inf=>
  rw [hinfo] at hz;simp only [Bool.and_eq_true] at hz;obtain ⟨⟨⟨q2,q3⟩,q4⟩,q5⟩:=hz
  cases hzz:inf.zero with
  |none=>rw [hzz] at q4;cases q4
  | some z=>
   rw [hzz] at q4;have e2:=Nat.eq_of_beq_eq_true q2;have e3:=Nat.eq_of_beq_eq_true q3;have e4:=Nat.eq_of_beq_eq_true q4
   have e5:0<sz:=by have h6:1≤sz:=(by simpa [Nat.blt] using q5);omega
   have hsB:dJ P e sz=true:=by unfold dJ;rw [hinfo];exact q2
   subst hsz;have hw0:=hw;obtain ⟨T,S,hT⟩:=hw;have hc2:=hT.ok (bf hj);obtain ⟨vss1,g1,g2,g3,Aw,rfl,g5,g6⟩:=hT.ok (bf hi);obtain ⟨A1,cap1,rfl,p1,p2,p3⟩:=xH _ _ _ (hT.ok (bf hi));obtain ⟨A2,cap2,rfl,k2,k3,k4⟩:=he _ _ _ hc2
   have hown0:xs.length=0∨ ∃g cur,A1=some ⟨g,0,none⟩∧w.heap[g]? =some (.cells cur e (0,0))∧(xs.length<cap1→cur.size=cap1*R.sz)∧cur.toList.take (xs.length*R.sz)=vss1.flatten∧T i g∧cap1≤maxLen:=by
    rcases g2 with ⟨g2,g4⟩|⟨h9, -⟩
    ·rcases g2.2 with ⟨-,h9⟩|⟨g,cap,cur,e1,r1,r2,r3,r4,r5,r6⟩
     ·exact .inl h9
     injection e1 with e1 e2 e3
     subst e1 e3;exact .inr ⟨g,cur,J,r2,fun hl=>r5.elim id fun ⟨k,_⟩=>by omega,r6,g4 g rfl,r4⟩
    exact .inl h9
   have hlen1:=kw g1;rcases Nat.eq_zero_or_pos ys.length with h0|h0
   ·-- nothing is appended
    have hys:ys=[]:=List.eq_nil_of_length_eq_zero h0;subst hys;refine .inl ⟨.slice A1 xs.length cap1,w,L,?_,hw0,A1,_,cap1,J,?_⟩
    ·rw [hbuilt];simp only [builtin,Sem.run_bind]
     have r1':(Builtin.append_ #[t,t] ty [Value.slice A1 xs.length cap1,.slice A2 ([]:List α).length cap2].toArray).run P w=.ok (.slice A1 xs.length cap1) w:=by
      unfold Builtin.append_;simp only [List.getElem?_toArray,List.getElem?_cons_zero,List.getElem?_cons_succ];rw [Sem.run_bind,run_underlying ht,Result.andThen_ok]
      dsimp only
      rw [Sem.run_bind,eU hsB,Result.andThen_ok];rw [Sem.run_bind,run_underlying ht,Result.andThen_ok]
      dsimp only
      rw [Sem.run_bind,Sem.run_pure,Result.andThen_ok];simp only [Bool.false_eq_true,if_false,Bool.not_false,if_true];have h1:(Builtin.lenOf (.slice A2 ([]:List α).length cap2)).run P w=.ok 0 w:=rfl;rw [Sem.run_bind,h1,Result.andThen_ok];rw [if_pos Y];rw [Sem.run_bind,List.length_nil,kK _ w A2 cap2,Result.andThen_ok]
      cases A1 with
      |none=>rfl
      |some a=>simp [storeCells]
     rw [r1'];rfl
    apply List.ext_getElem?;intro q;by_cases e:i=q
    ·subst e;rw [List.getElem?_set_self (List.getElem?_eq_some_iff.1 hi).1,hi,List.append_nil]
    rw [List.getElem?_set_ne e]
   obtain ⟨b,o,vss2,rfl,k5,k6⟩:=k4 h0;have hm:(xs.length+ys.length)*by_≤140737488355328:=Nat.le_trans (Nat.mul_le_mul hb hby') (by decide);have hl2:=kw k5
   have hn2: ∀j u,vss2.flatten[j]? =some u→w.cell? ((⟨b,o,none⟩:Addr).add j)=some u:=fun j u hj=>by rw [iQ];exact k6 j u hj
   have hlen:(vss1.flatten++vss2.flatten).length=(xs.length+ys.length)*R.sz:=by rw [List.length_append,hlen1,hl2,Nat.add_mul]
   have hfl:vss1.flatten++vss2.flatten=(vss1++vss2).flatten:=by rw [List.flatten_append]
   -- the new row in new memory
   have fin: ∀(v':Value) (w':World),(Builtin.append_ #[t,t] ty #[.slice A1 xs.length cap1,.slice (some ⟨b,o,none⟩) ys.length cap2]).run P w=.ok v' w'→(∃A c,v'=.slice A (xs.length+ys.length) c)→w'.ownsRow 0 e R.sz v' (xs.length+ys.length) (vss1.flatten++vss2.flatten)→Agr (fun q=> ¬T i q) w w'→(∀q,v'.ownBlock=some q→T i q∨w.heap.size≤q)→(0<k→ ∀b',Aw=some ⟨b',0,none⟩→CellsAt w b' 0 (vss1.take k).flatten→CellsAt w' b' 0 (vss1.take k).flatten)→
     ∃v w' L',(execOp ρ ⟨d,.call ⟨.builtin .append, #[x,y], #[t,t]⟩,ty,pos,af,gd⟩).run P w=.ok (.value v) w'∧Sp Z L' w'∧ ∃A n c,v=.slice A n c∧L'=L.set i (gc R e (.slice A n c) (xs++ys) (.slice Aw k k) k):=by
    rintro v' w' r1 ⟨A',c',rfl⟩ r2 r3 hnew hvw;refine ⟨_,w',L.set i (gc R e (.slice A' (xs.length+ys.length) c') (xs++ys) (.slice Aw k k) k),?_,?_,A',_,c',J,J⟩
    ·rw [hbuilt];simp only [builtin,Sem.run_bind];have r1':(Builtin.append_ #[t,t] ty [Value.slice A1 xs.length cap1,.slice (some ⟨b,o,none⟩) ys.length cap2].toArray).run P w=.ok (.slice A' (xs.length+ys.length) c') w':=r1;rw [r1'];rfl
    have hfin:SepL ((L++Z).set i (gc R e (.slice A' (xs.length+ys.length) c') (xs++ys) (.slice Aw k k) k)) w':=by
     refine hT.upd (bf hi) (T':=fun q=>T i q∨(Value.slice A' (xs.length+ys.length) c').ownBlock=some q) r3 (fun q hq=>hq.elim .inl (hnew q)) (fun q hq=>hq.elim (fun hq=>Nat.lt_of_lt_of_le (hT.lt hq) r3.size) fun hq=>(World.ownsRow.lt r2 q hq).2) ?_
     have hS:Agr S w w':=r3.mono fun q hq hn=>hT.ro hn hq
     refine ⟨vss1++vss2,(g1.imp fun _ _=>R.loc hS).append (k5.imp fun _ _=>R.loc hS),.inl ⟨by rw [List.flatten_append,List.length_append];exact .of r2,fun _ h=> .inr h⟩,by rw [List.length_append];omega,Aw,rfl,g5,fun hk0=> ?_⟩;obtain ⟨b',t1,t2,t3,t4⟩:=g6 hk0;refine ⟨b',t1,.inl t2,Nat.lt_of_lt_of_le t3 r3.size,?_⟩;rw [List.take_append_of_le_length (by rw [g1.length];exact g3)];exact hvw hk0 b' t1 t4
    rw [fS Z hi] at hfin;exact hfin
   have grown: ∀(old:Nat),let w':=w.drew.alloc (.cells (vss1.flatten.toArray++vss2.flatten.toArray++Builtin.zeroCells z.cells (grownCap w (xs.length+ys.length) old e - (xs.length+ys.length))) e)
     w'.ownsRow 0 e R.sz (.slice (some ⟨w.heap.size,0,none⟩) (xs.length+ys.length) (grownCap w (xs.length+ys.length) old e)) (xs.length+ys.length) (vss1.flatten++vss2.flatten)∧Agr (fun _=>True) w w':=by
    intro old;have hge:=grownCap_ge w (xs.length+ys.length) old e;have hcm:grownCap w (xs.length+ys.length) old e≤maxLen:=grownCap_le_maxLen w _ old e (by unfold maxLen;omega);refine ⟨⟨hlen,.inr ⟨w.heap.size,_,_,J,Nat.zero_le _,heap_alloc_new w.drew _,hge,hcm,?_,?_⟩⟩,⟨J,J,J,by simp,fun q hq _=>heap_alloc_old w.drew _ hq⟩⟩
    ·simp only [Array.size_append,List.size_toArray,size_zeroCells,e4,hlen1,hl2, ←Nat.add_mul]
     congr 1
     omega
    simp only [Array.toList_append,GE];rw [←GE, ←hlen];exact List.take_left
   by_cases hx0:xs.length=0
   ·-- the old slice has no elements
    have hv0:vss1.flatten=[]:=List.eq_nil_of_length_eq_zero (by rw [hlen1,hx0];simp)
    have hk0:k=0:=by omega
    by_cases hroom:xs.length+ys.length≤cap1
    ·rcases g2 with ⟨g2,g4⟩|⟨-,A9,h9⟩
     ·rcases g2.2 with ⟨e1, -⟩|⟨g,cap,cur,e1,r1,r2,r3,r4,r5,r6⟩
      ·injection e1 with _ _ e1;omega
      injection e1 with e1 _ e3'
      subst e1 e3';obtain ⟨v',w',r1,r2,r3, -⟩:=run_append_own w 0 t ty e inf z R.sz by_ ht hinfo hzz e2 e3 e4 e5 _ xs.length vss1.flatten (g2.room Y) ⟨b,o,none⟩ ys.length cap2 vss2.flatten hl2 hn2 (List.all_eq_true.1 (lU k5)) (by unfold maxLen;omega) hm (Nat.zero_le _)
      have hsh: ∃A c,v'=.slice A (xs.length+ys.length) c:=by
       rcases r2.2 with ⟨rfl,h9⟩|⟨g,cap,cur,rfl, -⟩
       ·omega
       exact ⟨_,_,J⟩
      exact .inl (fin v' w' r1 hsh r2 ⟨r3.os,r3.tape,r3.output,r3.size,fun q hq hn=>r3.block q hq fun e=>hn (g4 q e.symm)⟩ (fun q hq=>by
       rcases vB ht r1 with h|⟨q',h,h'⟩
       ·rw [h] at hq;cases hq;exact .inl (g4 _ J)
       ·rw [h] at hq;cases hq;exact .inr h') fun h=>absurd h Y)
     injection h9 with _ _ h9;omega
    -- new memory
    cases A1 with
    | none=>
     have hr:=run_append_nil (P:=P) w t ty e inf z ht hinfo hzz ⟨b,o,none⟩ ys.length cap2 vss2.flatten (by rw [e2];exact hl2) hn2 h0 Y (by rw [e3];have hm':ys.length*by_≤140737488355328:=Nat.le_trans (Nat.mul_le_mul_right _ Y) hm;omega);have hgr:=grown 0
     have hcap0:cap1=0:=by
      rcases g2 with ⟨g2, -⟩|⟨-,A9,h9⟩
      ·rcases g2.2 with ⟨e1, -⟩|⟨g,cap,cur,e1, -⟩
       ·injection e1
       injection e1 with e1;cases e1
      injection h9
     simp only [hx0,hcap0,hv0,Nat.zero_add,List.nil_append,Array.empty_append] at hgr fin⊢;exact .inl (fin _ _ hr ⟨_,_,J⟩ hgr.1 (hgr.2.mono fun _ _=>trivial) (fun q hq=>by cases hq;exact .inr (Nat.le_refl _)) fun h=>absurd h Y)
    |some a1=>
     have hr:=run_append_grow (P:=P) w t ty e inf z ht hinfo hzz a1 xs.length cap1 [] (by rw [hx0];simp) (fun j u hj=>by simp at hj) ⟨b,o,none⟩ ys.length cap2 vss2.flatten (by rw [e2];exact hl2) hn2 Y Y (by rw [e3];exact growslice_fits Y hm);have hgr:=grown cap1;rw [hv0] at hgr fin;exact .inl (fin _ _ hr ⟨_,_,J⟩ hgr.1 (hgr.2.mono fun _ _=>trivial) (fun q hq=>by cases hq;exact .inr (Nat.le_refl _)) fun h=>absurd h Y)
   obtain ⟨g,cur,rfl,c1,c3,c4,c5,c6⟩:=hown0.resolve_left hx0;have holds:CellsAt w g 0 vss1.flatten:=ew (cap:=cap1) c1 c4;by_cases hroom:xs.length+ys.length≤cap1
   ·have c3:=c3 Y;have hg2:w.ownsRow 0 e R.sz (.slice (some ⟨g,0,none⟩) xs.length cap1) xs.length vss1.flatten:=⟨hlen1,.inr ⟨g,cap1,cur,rfl,Nat.zero_le _,c1,p1,c6,c3,c4⟩⟩
    have hfit:xs.length*inf.size+vss2.flatten.length≤cur.size:=by rw [hl2,e2,c3, ←Nat.add_mul];exact Nat.mul_le_mul_right _ hroom
    have hr:=run_append_room (P:=P) w t ty e inf ht hinfo g xs.length cap1 cur c1 ⟨b,o,none⟩ ys.length cap2 vss2.flatten (by rw [e2];exact hl2) hn2 (List.all_eq_true.1 (lU k5)) hroom hfit;obtain ⟨v',w',r1,r2,r3, -⟩:=run_append_own w 0 t ty e inf z R.sz by_ ht hinfo hzz e2 e3 e4 e5 _ xs.length vss1.flatten hg2 ⟨b,o,none⟩ ys.length cap2 vss2.flatten hl2 hn2 (List.all_eq_true.1 (lU k5)) (by unfold maxLen;omega) hm (Nat.zero_le _);have heq:=r1.symm.trans hr;simp only [Result.ok.injEq] at heq;obtain ⟨hv', -⟩:=heq;subst hv';refine .inl (fin _ w' r1 ⟨_,_,J⟩ r2 ⟨r3.os,r3.tape,r3.output,r3.size,fun q hq hn=>r3.block q hq fun e=>hn (by cases e;exact c5)⟩ (fun q hq=>by cases hq;exact .inl c5) fun hk0 b' hb' hc=> ?_);by_cases hbg:b'=g
    ·subst hbg;rcases r2.2 with ⟨e9, -⟩|⟨g',cap',cur',e9, -,d2, -, -, -,d6⟩
     ·cases e9
     injection e9 with e9
     injection e9 with e9
     injection e9 with e9
     subst e9;have h5:CellsAt w' b' 0 (vss1.flatten++vss2.flatten):=ew (cap:=cap') d2 d6;have h6:=h5.left;rw [←List.take_append_drop k vss1,List.flatten_append] at h6;exact h6.left
    intro j u hj;have:=hc j u hj
    have hlt:b'<w.heap.size:=by
     rcases Nat.lt_or_ge b' w.heap.size with h|h
     ·exact h
     exfalso;rw [World.cell?,Array.getElem?_eq_none (by exact h)] at this;cases this
    rw [←this];exact World.cell?_of_block (r3.block b' hlt fun e=>hbg (by cases e;rfl))
   have hr:=run_append_grow (P:=P) w t ty e inf z ht hinfo hzz ⟨g,0,none⟩ xs.length cap1 vss1.flatten (by rw [e2];exact hlen1) (fun j u hj=>by rw [iQ];exact holds j u hj) ⟨b,o,none⟩ ys.length cap2 vss2.flatten (by rw [e2];exact hl2) hn2 Y Y (by rw [e3];exact growslice_fits Y hm);have hgr:=grown cap1;refine .inl (fin _ _ hr ⟨_,_,J⟩ hgr.1 (hgr.2.mono fun _ _=>trivial) (fun q hq=>by cases hq;exact .inr (Nat.le_refl _)) fun hk0 b' hb' hc=> ?_);obtain ⟨b'',t1,t2,t3,t4⟩:=g6 hk0
   have hbb:b''=b':=by rw [t1] at hb';injection hb' with hb';injection hb'
   subst hbb;exact hc.agr hgr.2 trivial t3
end
end
section
open Go.RowKit
def Bv (p:Prop):Chunk where
 ok _ _ _:=p
 loc:=fun _ h=>h
 mono:=fun _ h=>h
 ro:=true
 dup:=fun _ _ _ _ h=>h
theorem CP {L Z:List Chunk}{w:World}{p:Prop}(h:Sp Z L w)(i:Nat)(hi:L[i]? =some (Bv p)):p:=by
 obtain ⟨T,S,h⟩:=h.get (bf hi);exact h
theorem zA {L:List Chunk}{p:Prop}(hp:p):Cv L (Bv p::L):=fun Z w h=>SepL.fact0 h fun _=>hp
inductive Rch (ops:Array Oper):Nat→Nat→Prop
 |one {j:Nat} {o:Oper} {e:Edge}:ops[j]? =some o→e∈o.after→Region.binds .any e=true→Rch ops j e.on
 |more {j k:Nat} {o:Oper} {e:Edge}:Rch ops j k→ops[k]? =some o→e∈o.after→Region.binds .any e=true→Rch ops j e.on
def sI (ops:Array Oper)(listed:Array Bool):Prop:= ∀k o e,listed.getD k false=true→ops[k]? =some o→e∈o.after→Region.binds .any e=true→listed.getD e.on false=true
theorem pA {ops:Array Oper}{listed:Array Bool}{j i:Nat}(hc:sI ops listed)(hr:j∈Region.ready .any ops listed)(h:Rch ops j i):listed.getD i false=true:=by
 induction h with
 |one ho he hb=>obtain ⟨_,o',ho',hall⟩:=mem_ready.1 hr;rw [ho] at ho';cases ho';exact hall _ he hb
 |more _ ho he hb ih=>exact hc _ _ _ ih ho he hb
theorem kJ {listed:Array Bool}{i k:Nat}(h:(listed.setIfInBounds i true).getD k false=true):k=i∨listed.getD k false=true:=by
 by_cases e:i=k
 ·exact .inl e.symm
 rw [getD_set_ne false e] at h;exact .inr h
theorem yK {ops:Array Oper}{listed:Array Bool}{j:Nat}(hc:sI ops listed)(hr:j∈Region.ready .any ops listed):sI ops (listed.setIfInBounds j true):=by
 intro k o e hk ho he hb;rcases kJ hk with e1|hk
 ·subst e1;obtain ⟨_,o',ho',hall⟩:=mem_ready.1 hr;rw [ho] at ho';cases ho';exact getD_set_true (hall _ he hb)
 exact getD_set_true (hc _ _ _ hk ho he hb)
def qr (ops:Array Oper)(k:Nat):List Nat:=match ops[k]? with
 |some o=>(o.after.toList.filter (Region.binds .any)).map (·.on)
 |none=> []
def Bl (ops:Array Oper)(R:List Nat)(k:Nat):List Nat:=if R.contains k then qr ops k++R else R
def qX (ops:Array Oper)(t:Nat):List Nat:=(List.range t).reverse.foldl (Bl ops) (qr ops t)
theorem tC {ops:Array Oper}{k x:Nat}(h:x∈qr ops k): ∃o e,ops[k]? =some o∧e∈o.after∧Region.binds .any e=true∧e.on=x:=by
 unfold qr at h;split at h
 ·rename_i o ho
  obtain ⟨e,he,rfl⟩:=List.mem_map.1 h;obtain ⟨h1,h2⟩:=List.mem_filter.1 he;exact ⟨o,e,ho,by simpa using h1,h2,rfl⟩
 cases h
theorem nC {ops:Array Oper}{t:Nat}: ∀x∈qX ops t,Rch ops t x:=by
 unfold qX
 have key: ∀(l:List Nat) (R:List Nat),(∀x∈R,Rch ops t x)→ ∀x∈l.foldl (Bl ops) R,Rch ops t x:=by
  intro l
  induction l with
  |nil=>intro R h;exact h
  | cons k l ih=>
   intro R h
   refine ih _ fun x hx=> ?_
   unfold Bl at hx;split at hx
   ·rename_i hk
    rcases List.mem_append.1 hx with h1|h1
    ·obtain ⟨o,e,ho,he,hb,rfl⟩:=tC h1;exact .more (h k (by simpa using hk)) ho he hb
    exact h x h1
   exact h x hx
 refine key _ _ fun x hx=> ?_
 obtain ⟨o,e,ho,he,hb,rfl⟩:=tC hx;exact .one ho he hb
def OpAt (P:Program)(ρ:Operand→Value)(o:Oper)(R:Value→List Chunk→Prop)(Z:List Chunk)(w:World):Prop:=
  (∃v w' L',(execOp ρ o).run P w=.ok (.value v) w'∧Sp Z L' w'∧R v L')∨
  (∃w' L',(execOp ρ o).run P w=.ok .skip w'∧Sp Z L' w'∧R undef L')∨
  (∃f args,(execOp ρ o).run P w=.ok (.enter f args) w∧Calls P f args w fun e w'=> ∃v L',e=.returned v∧Sp Z L' w'∧R v L')∨
  (∃l f tmps assign body,(execOp ρ o).run P w=.ok (.round l f tmps assign body) w∧RoundIn Fence.wide 0 P l f tmps assign body w fun e w'=> ∃v L',e=.returned v∧Sp Z L' w'∧R v L')
def MS (P:Program)(ops:Array Oper)(s:bE)(L:List Chunk)(o:Oper)(A:Value→List Chunk):Prop:= ∀Z w,Sp Z L w→(bv ops s o=some true∧ ∀ρ:Operand→Value,(∀x u,bK s x=some u→ρ x=u)→OpAt P ρ o (fun u L'=>Cv L' (A u++L)) Z w)∨(bv ops s o=some false∧Sp Z (A undef++L) w)
section
variable {P:Program} {ops:Array Oper} {s:bE} {L:List Chunk} {o:Oper} {A:Value→List Chunk}
end
def xX (X:Cx)(ops:Array Oper)(K:K3)(fuel:Nat)(listed:Array Bool)(s:bE)(L:List Chunk):Prop:= ∀(H:List Chunk) (Ds:List Nat) (a:Act) (w:World),Fx X s a→a.defers=Ds.map ne→Sp (Ds.map bI++H) L w→wpAnyIn (sw X.r) 0 X.P .any ops (oe X H (pi K)) fuel listed a w
section
variable {X:Cx} {ops:Array Oper} {K:K3} {s:bE} {L:List Chunk} {fuel:Nat} {listed:Array Bool} {d:Nat} {op:Op} {ty:TypeId} {pos:String} {af:Array Edge} {gd:Option (Nat×Bool)}
theorem gx (hr:Region.ready .any ops listed=[])(h:K .normal s L):xX X ops K fuel listed s L:=by
 intro H Ds a w ha hds hw;have hq:oe X H (pi K) .normal a w:=⟨s,L,Ds,ha,hds,hw,rfl,h⟩
 cases fuel with
 |zero=>exact ⟨hr,hq⟩
 |succ n=>exact ⟨fun _=>hq,by rw [hr];simp⟩
theorem gP {t:bE}{L':List Chunk}(h:xX X ops K fuel listed t L')(hs:ud s t)(hl:Cv L L'):xX X ops K fuel listed s L:=fun H Ds a w ha hds hw=>h H Ds a w (ha.sub hs) hds (hl _ _ hw)
theorem Fl (i:Nat){o:Oper}{R:Value→List Chunk→Prop}(hi:ops[i]? =some o)(hr:Region.ready .any ops listed=[i])(h:OpX X.P s L o R)(hn:gl o=true)(hg:bv ops s o=some true)(hd:vt X.n o.dst=true)(k: ∀v L',R v L'→xX X ops K fuel (listed.setIfInBounds i true) (putE o.dst v s) L'):xX X ops K (fuel+1) listed s L:=
 fun H Ds a w ha hds hw=>⟨fun h=>absurd (hr.symm.trans h) (by simp),fun j hj=>by
  rw [hr,List.mem_singleton] at hj;subst hj;unfold wpOpIn;rw [hi];simp only [cZ ha hg,if_true]
  exact h.wpIn hn ha hw fun v L' w' h1 h2=>k v L' h1 H Ds _ _ (ha.putE v hd) ((put_defers _ _ _).trans hds) h2⟩
theorem kR (i:Nat){R:Value→List Chunk→Prop}(hi:ops[i]? =some ⟨some d,op,ty,pos,af,gd⟩)(hr:Region.ready .any ops listed=[i])(h:OpX X.P s L ⟨some d,op,ty,pos,af,gd⟩ R)(hn:gl ⟨some d,op,ty,pos,af,gd⟩=true)(hg:bv ops s ⟨some d,op,ty,pos,af,gd⟩=some true)(hd:Nat.ble (d+1) X.n=true)(k: ∀v L',R v L'→xX X ops K fuel (listed.setIfInBounds i true) ((d,v)::s) L'):xX X ops K (fuel+1) listed s L:=Fl i hi hr h hn hg hd k
theorem nh (i:Nat){R:Value→List Chunk→Prop}(hi:ops[i]? =some ⟨none,op,ty,pos,af,gd⟩)(hr:Region.ready .any ops listed=[i])(h:OpX X.P s L ⟨none,op,ty,pos,af,gd⟩ R)(hn:gl ⟨none,op,ty,pos,af,gd⟩=true)(hg:bv ops s ⟨none,op,ty,pos,af,gd⟩=some true)(k: ∀v L',R v L'→xX X ops K fuel (listed.setIfInBounds i true) s L'):xX X ops K (fuel+1) listed s L:=Fl i hi hr h hn hg rfl k
theorem pS (i:Nat){v:Value}(hi:ops[i]? =some ⟨some d,op,ty,pos,af,gd⟩)(hr:Region.ready .any ops listed=[i])(h:Ev X.P s (fun _=>True) ⟨some d,op,ty,pos,af,gd⟩ v)(hn:gl ⟨some d,op,ty,pos,af,gd⟩=true)(hg:bv ops s ⟨some d,op,ty,pos,af,gd⟩=some true)(hd:Nat.ble (d+1) X.n=true)(k:xX X ops K fuel (listed.setIfInBounds i true) ((d,v)::s) L):xX X ops K (fuel+1) listed s L:=kR i hi hr (BC h) hn hg hd fun _ _ ⟨e1,e2⟩=>by subst e1 e2;exact k
end
def ug (m:Nat)(listed:Array Bool):List Nat:=(List.range m).filter fun i=>listed.getD i false
def E5 (ops:Array Oper)(m:Nat)(qs:List Nat)(ds:List Nat)(pr:List (List Nat))(s:bE)(n:Nat):Bool:=
 Region.noSelect ops&&qs.all (fun q=>(match ops[q]? with|some o=>(List.range ops.size).all fun j=>Nat.beq j q||(qr ops j).contains q||(qX ops q).contains j||(match ops[j]? with|some oj=>o.apart ops oj|none=>true)|none=>false))&&BG ops&&decide (m≤ops.size)&&decide (ds.length=m)&&decide ds.Nodup&&ds.all (fun d=>Nat.ble (d+1) n&&s.all fun p=> !Nat.beq p.1 d)
 &&(List.range m).all (fun i=>(match ops[i]? with|some o=>o.dst==ds[i]? |none=>false)&&(pr.getD i []).all (fun k=>(qX ops i).contains k&&Nat.blt k m)&&decide (pr.getD i []).Nodup&&(qr ops i).all fun k=>Nat.blt k i)
 &&(List.range ops.size).all (fun t=>Nat.blt t m||(List.range m).all fun i=>qs.contains i||(qX ops t).contains i)
def uA (ds:List Nat)(val:Nat→Value)(ix:List Nat)(s:bE):bE:=ix.map (fun i=>(ds.getD i 0,val i))++s
def rY (As:List (Value→List Chunk))(val:Nat→Value)(ix:List Nat)(L:List Chunk):List Chunk:=(ix.flatMap fun i=>(As.getD i fun _=> []) (val i))++L
theorem qw: ∀(a b:bE) (k:Nat) (v:Value),eO (a++b) k=some v→eO a k=some v∨(eO b k=some v)
 | [],_,_,_,h=> .inr h
 |(d,u)::a,b,k,v,h=>by
  rw [List.cons_append,fa] at h;rw [fa];split at h
  ·rename_i e;rw [if_pos e];exact .inl h
  rename_i e
  rw [if_neg e];exact qw a b k v h
theorem mc: ∀(a:bE) (k:Nat) (v:Value),eO a k=some v→(k,v)∈a
 | [],_,_,h=>by cases h
 |(d,u)::a,k,v,h=>by
  rw [fa] at h;split at h
  ·rename_i e;cases h;subst e;simp
  simp [mc a k v h]
theorem OpAt.wpIn {X:Cx}{o:Oper}{R:Value→List Chunk→Prop}{Z:List Chunk}{a:Act}{w:World}(h:OpAt X.P a.eval o R Z w)(hn:gl o=true)
  {K:Act→World→Prop} {Q:Exit→Act→World→Prop} (hK: ∀v L' w',R v L'→Sp Z L' w'→K (a.put o.dst v) w'):o.wpIn (sw X.r) 0 X.P a w K Q:=by
 refine ⟨fun _ _=>trivial,?_⟩
 have e:o.semAt (sw X.r).round a.eval=execOp a.eval o:=Oper.semAt_eq _ _ _ fun c hc=>by unfold gl at hn;rw [hc] at hn;cases hn
 rw [e];rcases h with ⟨v,w',L',h1,h2,h3⟩|⟨w',L',h1,h2,h3⟩|⟨f,args,h1,h2⟩|⟨l,f,tmps,assign,body,h1,h2⟩
 ·rw [h1];exact hK _ _ _ h3 h2
 ·rw [h1];exact hK _ _ _ h3 h2
 ·rw [h1];refine ⟨(by intro h;cases h),?_⟩;have h3:CallsIn (sw X.r) (0 - 1) X.P f args w _:=callsIn_wide.2 h2;refine h3.mono ?_;rintro e w' ⟨v,L',rfl,h4,h5⟩;exact hK _ _ _ h5 h4
 rw [h1];refine ⟨(by intro h;cases h),?_⟩;have h3:RoundIn (sw X.r) (0 - 1) X.P l f tmps assign body w _:=h2;refine h3.mono ?_;rintro e w' ⟨v,L',rfl,h4,h5⟩;exact hK _ _ _ h5 h4
theorem fY: ∀(ix:List Nat) (l:Array Bool),(kr l ix).size=l.size
 | [],_=>rfl
 |i::ix,l=>by show (kr (l.setIfInBounds i true) ix).size=_;rw [fY ix];simp
theorem px: ∀(ix:List Nat) (l:Array Bool) (k:Nat),k<l.size→(kr l ix).getD k false=(l.getD k false||ix.contains k)
 | [],_,_,_=>by simp [kr]
 | i::ix,l,k,hk=>by
  show (kr (l.setIfInBounds i true) ix).getD k false=_;rw [px ix _ k (by simpa using hk)];by_cases e:i=k
  ·subst e;simp [hk]
  rw [getD_set_ne false e];simp [show¬k=i from fun h=>e h.symm]
theorem iI {m:Nat}{listed:Array Bool}{i:Nat}:i∈ug m listed↔i<m∧listed.getD i false=true:=by unfold ug;simp
theorem lst_nodup {m:Nat}{listed:Array Bool}:(ug m listed).Nodup:=List.nodup_range.filter _
theorem sF {As:List (Value→List Chunk)}{val:Nat→Value}{a b:List Nat}(h:a.Perm b):(a.flatMap fun i=>(As.getD i fun _=> []) (val i)).Perm (b.flatMap fun i=>(As.getD i fun _=> []) (val i)):=h.flatMap_right _
theorem Cr {r:Option Nat}{P:Program}{ops:Array Oper}{Q:Exit→Act→World→Prop}: ∀(fuel:Nat) (listed:Array Bool) (a:Act) (w:World),wpAnyIn (sw r) 0 P .any ops Q fuel listed a w→vG r P ops Q (fun _=>True) fuel listed a w
 |0,_,_,_,h=>h
 |fuel+1,listed,a,w,h=>⟨h.1,fun i hi=>wpOpIn_mono (fun a w hh=> .inl ⟨trivial,Cr fuel _ a w hh⟩) (h.2 i hi)⟩
def QS (P:Program)(ops:Array Oper)(s:bE)(L:List Chunk)(o:Oper)(A:Value→List Chunk):Prop:= ∀Z w,Sp Z L w→ ∃v,bv ops s o=some true∧Ev P s (fun _=>True) o v∧Sp Z (A v++L) w
def FF (P:Program)(ops:Array Oper)(s:bE)(L L0:List Chunk)(o:Oper)(A:Value→List Chunk):Prop:= ∀Z w,Sp Z L w→ ∃v,bv ops s o=some true∧Ev P s (fun _=>True) o v∧Sp Z (A v++L0) w
theorem r7 {P:Program}{ops:Array Oper}{s:bE}{L L0:List Chunk}{o:Oper}{A:Value→List Chunk}{v:Value}(h:Ev P s (fun _=>True) o v)(hg:bv ops s o=some true)(k:Cv L (A v++L0)):FF P ops s L L0 o A:=fun _ _ hw=>⟨v,hg,h,k _ _ hw⟩
theorem dh {p:Nat→Oper→Prop}{ops:Array Oper}: ∀(i:Nat) (o:Oper),i<0→ops[i]? =some o→p i o:=fun i o h=>by omega
theorem ac {p:Nat→Oper→Prop}{ops:Array Oper}{n:Nat}{o':Oper}(ho:ops[n]? =some o')(h2:p n o')(h1: ∀(i:Nat) (o:Oper),i<n→ops[i]? =some o→p i o): ∀(i:Nat) (o:Oper),i<n+1→ops[i]? =some o→p i o:=fun i o hi h=>by
 by_cases e:i=n
 ·subst e;rw [ho] at h;cases h;exact h2
 exact h1 i o Y h
theorem gt {p:Nat→Oper→Prop}{ops:Array Oper}{m:Nat}: ∀q∈([]:List Nat), ∀(o:Oper),q<m→ops[q]? =some o→p q o:=fun q h=>by cases h
theorem ll {p:Nat→Oper→Prop}{ops:Array Oper}{m q':Nat}{qs:List Nat}{o':Oper}(ho:ops[q']? =some o')(h2:p q' o')(h1: ∀q∈qs, ∀(o:Oper),q<m→ops[q]? =some o→p q o): ∀q∈q'::qs, ∀(o:Oper),q<m→ops[q]? =some o→p q o:=fun q hq o hm h=>by
 rcases List.mem_cons.1 hq with e|hq
 ·subst e;rw [ho] at h;cases h;exact h2
 exact h1 q hq o hm h
def AZ (P:Program)(ops:Array Oper)(s:bE)(L L0:List Chunk)(o:Oper)(A:Value→List Chunk):Prop:= ∀Z w,Sp Z L w→(bv ops s o=some true∧ ∀ρ:Operand→Value,(∀x u,bK s x=some u→ρ x=u)→OpAt P ρ o (fun u L'=>Cv L' (A u++L0)) Z w)∨(bv ops s o=some false∧Sp Z (A undef++L0) w)
section
variable {P:Program} {ops:Array Oper} {s:bE} {L L0:List Chunk} {o:Oper} {A:Value→List Chunk}
theorem FC {L':List Chunk}(hl:Cv L L')(h:AZ P ops s L' L0 o A):AZ P ops s L L0 o A:=fun Z w hw=>h Z w (hl _ _ hw)
theorem Ee {α:Type}{R:Rep α}{v:Value}{xs:List α}{k:Nat}{x:α}{Q:List Value→List Chunk→Prop}(i:Nat)(hi:L[i]? =some (iS R v xs))(hx:xs[k]? =some x)(ho:vD R x Q)(h: ∀vs cs,Q vs cs→AZ P ops s (vL (bO v k R.sz 0) vs::(cs++L)) L0 o A):AZ P ops s L L0 o A:=fun Z w hw=>by
 obtain ⟨vs,cs,h1,h2⟩:=qT hw hi hx ho;exact h vs cs h1 Z w h2
theorem fx {R:Value→List Chunk→Prop}(h:OpX P s L o R)(hg:bv ops s o=some true)(k: ∀u L',R u L'→Cv L' (A u++L0)):AZ P ops s L L0 o A:=fun Z w hw=> .inl ⟨hg,fun ρ hρ=>by
 rcases h ρ hρ Z w hw with ⟨v,w',L',h1,h2,h3⟩|⟨w',L',h1,h2,h3⟩|⟨f,args,h1,h2⟩|⟨l,f,t,a,b,h1,h2⟩
 ·exact .inl ⟨v,w',L',h1,h2,k _ _ h3⟩
 ·exact .inr (.inl ⟨w',L',h1,h2,k _ _ h3⟩)
 ·exact .inr (.inr (.inl ⟨f,args,h1,h2.mono fun e w' ⟨v,L',g1,g2,g3⟩=>⟨v,L',g1,g2,k _ _ g3⟩⟩))
 ·exact .inr (.inr (.inr ⟨l,f,t,a,b,h1,h2.mono fun e w' ⟨v,L',g1,g2,g3⟩=>⟨v,L',g1,g2,k _ _ g3⟩⟩))⟩
theorem bh {v:Value}(h:Ev P s (fun _=>True) o v)(hg:bv ops s o=some true)(k:Cv L (A v++L0)):AZ P ops s L L0 o A:=fx (BC h) hg fun u L' ⟨e1,e2⟩=>by subst e1 e2;exact k
theorem bT {v:Value}(h:Rd P s L o v)(hg:bv ops s o=some true)(k:Cv L (A v++L0)):AZ P ops s L L0 o A:=fx (D4 h) hg fun u L' ⟨e1,e2⟩=>by subst e1 e2;exact k
theorem dB (hg:bv ops s o=some false)(k:Cv L (A undef++L0)):AZ P ops s L L0 o A:=fun Z w hw=> .inr ⟨hg,k _ _ hw⟩
end
def cl (u:Value)(k:Nat):Value:=u.cells.getD k undef
def tl (u:Value)(k:Nat):Value:=match u with| .tuple vs=>vs.getD k undef|_=>undef
def pb (u:Value):Nat:=match u with| .pointer (some a)=>a.block|_=>0
def mb (u:Value):Nat:=match u with| .map (some m)=>m|_=>0
end
section
open Go.RowKit
section
variable {P:Program} {s:bE} {C:World→Prop} {d:Option Nat} {ty:TypeId} {pos:String} {af:Array Edge} {gd:Option (Nat×Bool)}
theorem An {t e:TypeId}(ht:P.underlying t=some (.slice e))(A:Option Addr)(n c:Nat)(w:World):(Op.equal t (.slice A n c) (I none 0 0)).run P w=.ok A.isNone w:=by
 show (Op.equalIn (9999+1) t (.slice A n c) (I none 0 0)).run P w=_;unfold Op.equalIn;rw [Sem.run_bind,run_underlying ht,Result.andThen_ok];cases A<;>rfl
theorem xF {t e u:TypeId}{x:Operand}{A:Option Addr}{n c:Nat}(hx:bK s x=some (.slice A n c))(ht:P.underlying t=some (.slice e)):Ev P s C ⟨d,.binOp .eql t x (.const (I none 0 0)) u,ty,pos,af,gd⟩ (.bool A.isNone):=
 gw hx rfl fun w=>by
  rw [Sem.run_bind];show (binOp .eql t (.slice A n c) (I none 0 0)).run P w=_;have h1:(Op.equal t (.slice A n c) (I none 0 0)).run P w=.ok A.isNone w:=An ht A n c w;simp only [binOp,Sem.run_bind,h1,Result.andThen_ok];rfl
theorem EB {t u:TypeId}{x y:Operand}{k k2:IntKind}{a b:Int}(hx:bK s x=some (.int k a))(hy:bK s y=some (.int k b))(ht:P.underlying t=some (.int k2))(hu:P.underlying u=some (.int k2)):Ev P s C ⟨d,.call ⟨.builtin .min, #[x,y], #[t,u]⟩,ty,pos,af,gd⟩ (.int k (min a b)):=fun ρ hρ w _=>by
 rw [gZ (P:=P) (ρ:=ρ) (xs:=[x,y]) (vs:=[.int k a,.int k b]) (by simp [hρ x _ hx,hρ y _ hy]) w]
 have e:(if b<a then b else a)=min a b:=by rw [Int.min_def];split<;>split<;>omega
 cases k<;>simp [builtin,Builtin.min_,Builtin.min2,e]
end
def Gj (P:Program)(s:bE)(L:List Chunk)(o:Oper)(v:Value):Prop:= ∀Z w,Sp Z L w→Ev P s (fun _=>True) o v
section
variable {P:Program} {s:bE} {L:List Chunk} {d:Option Nat} {ty:TypeId} {pos:String} {af:Array Edge} {gd:Option (Nat×Bool)}
end
theorem BO {α β:Type}{P:Program}{v:Value}{G:List Chunk}{en:α→List Value}{ev:β→Value}{φ:α→Option β}(h:CE P v G en ev φ):v.cells.toList=[v]:=by obtain ⟨_,f,bs,caps,rfl,_⟩:=h;rfl
theorem Cm {a b:ByteArray}:a.toList=b.toList↔a=b:=by
 constructor
 ·intro h;rw [ByteArray.toList_eq,ByteArray.toList_eq] at h;exact WideShapes.bytes_inj h
 rintro rfl;rfl
theorem D2 {X:Cx}{K:K3}{s:bE}{L:List Chunk}{cd:Code}{α:Type}{R:Rep α}{A:Option Addr}{n c:Nat}{xs:List α}{ch:Chunk}(i:Nat)(hi:L[i]? =some ch)(he:yb R (.slice A n c) xs ch)(hA:A.isNone=true)(k:xs=[]→Wq X cd K s L):Wq X cd K s L:=fun H Ds a w ha hd hw=>by
 obtain ⟨T,S,h⟩:=hw.get (bf hi);obtain ⟨A',cap,e,h1,h2,h3⟩:=he _ _ _ h
 have hx:xs=[]:=by
  rcases Nat.eq_zero_or_pos xs.length with h0|h0
  ·exact List.eq_nil_of_length_eq_zero h0
  obtain ⟨b,o,vss,e2, -⟩:=h3 h0
  injection e with e
  rw [e,e2] at hA;cases hA
 exact k hx H Ds a w ha hd hw
section
variable {P:Program} {s:bE} {L:List Chunk} {d:Option Nat} {ty:TypeId} {pos:String} {af:Array Edge} {gd:Option (Nat×Bool)}
theorem jA {f:FuncId}{x:Operand}{xs:List Operand}{ats:Array TypeId}{vs us:List Value}{caps:Array Value}{pre rest:List Chunk}{R:Value→List Chunk→Prop}(hc:Okc P f us pre R)(hf:av P f)(hx:bK s x=some (.func (.func f) #[] caps))(hv:AK s xs=some vs)(hu:vs++caps.toList=us)(hL:Cv L (pre++rest)):OpX P s L ⟨d,.call ⟨.value x,xs.toArray,ats⟩,ty,pos,af,gd⟩ fun u L'=> ∃post,R u post∧L'=post++rest:=fun ρ hρ Z w hw=>by
 subst hu;refine .inr (.inr (.inl ⟨f,_,uM hf (ls hρ hv) (hρ _ _ hx),?_⟩))
 have h1:Sp (rest++Z) pre w:=by have:=hL Z w hw;unfold Sp at*;simpa only [GE] using this
 refine (hc _ w h1).mono ?_;rintro e w' ⟨v,post,rfl,h2,h3⟩;exact ⟨v,post++rest,J,by unfold Sp at*;simpa only [GE] using h2,post,h3,rfl⟩
end
theorem AD {α:Type}{R:Rep α}{e:TypeId}{v vw:Value}{xs:List α}{k i:Nat}{L:List Chunk}(hi:L[i]? =some (gc R e v xs vw k)):ue L (iS R v xs):=fun T S w h=>by
 obtain ⟨vss,h1,h2⟩:=tR (h.ok hi);rcases h2 with ⟨h2, -⟩|⟨h0,A,rfl⟩
 ·rcases h2.2 with ⟨rfl,h0⟩|⟨g,cap,cur,rfl,g1,g2,g3,g4,g5,g6⟩
  ·exact ⟨none,0,by rw [h0],by omega,by omega,fun h=>absurd h Y⟩
  exact ⟨_,cap,J,g3,by unfold maxLen at g4;omega,fun _=>⟨g,0,vss,rfl,Blk.lt (t:=e) (cs:=cur) g2,Blk.lt (t:=e) (cs:=cur) g2,h1.imp fun _ _=>R.mono fun _ hq=>h.lts hq,ew (cap:=cap) g2 g6⟩⟩
 exact ⟨A,0,by rw [h0],by omega,by omega,fun h=>absurd h Y⟩
end
section
open Go.RowKit
def mh {α σ:Type}(P:Program)(l:Nat)(G:σ→List Chunk)(Q:α→List Value→List Chunk→Prop)(φ:α→σ→Option (Bool×σ)):Prop:=
 ∀x σ₁ b σ₂,φ x σ₁=some (b,σ₂)→ ∀vs cs,Q x vs cs→ ∀Z w,Sp Z (cs++G σ₁) w→ ∃fn tmps assign body,(Instr.yield l vs.toArray).run P w=.ok (.round l fn tmps assign body) w∧RoundIn Fence.wide 0 P l fn tmps assign body w fun e w'=>e=.returned (.bool b)∧Sp Z (G σ₂) w'
section
variable {P:Program} {s:bE} {d:Option Nat} {ty:TypeId} {pos:String} {af:Array Edge} {gd:Option (Nat×Bool)}
theorem uZ {α σ:Type}{l:Nat}{G:σ→List Chunk}(E:List Chunk){Q:α→List Value→List Chunk→Prop}{φ:α→σ→Option (Bool×σ)}{a:α}{σ₁:σ}{y:Bool×σ}{x:Operand}{xs:List Operand}{ats:Array TypeId}{vs:List Value}{cs:List Chunk}(hY:mh P l G Q φ)(hr:φ a σ₁=some y)(hx:bK s x=some (.func (.yield l) #[] #[]))(hv:AK s xs=some vs)(hq:Q a vs cs)(hd:Cv (E++G σ₁) (cs++(E++G σ₁))):OpX P s (E++G σ₁) ⟨d,.call ⟨.value x,xs.toArray,ats⟩,ty,pos,af,gd⟩ fun u L'=>u=.bool y.1∧L'=E++G y.2:=fun ρ hρ Z2 w hw=>by
 obtain ⟨b,σ₂⟩:=y;have h0:=hd Z2 w hw
 have h1:Sp (E++Z2) (cs++G σ₁) w:=by
  have h2:SepL ((cs++(E++G σ₁))++Z2) w:=h0;refine SepL.perm h2 ?_;simp only [GE];exact List.Perm.append_left cs (List.perm_append_comm_assoc _ _ _)
 obtain ⟨fn,tmps,assign,body,h2,h3⟩:=hY a σ₁ b σ₂ hr vs cs hq _ w h1;refine .inr (.inr (.inr ⟨l,fn,tmps,assign,body,?_,?_⟩))
 ·unfold execOp;simp only [resolve,hρ x _ hx,Deferred.ofValue,List.map_toArray,ls hρ hv];simp only [invoke,Sem.run_bind,Sem.run_pure,Result.andThen_ok];simpa using h2
 refine h3.mono ?_;rintro e w' ⟨rfl,h4⟩;refine ⟨_,_,J,?_,J,J⟩;have h5:SepL (G σ₂++(E++Z2)) w':=h4;refine SepL.perm h5 ?_;simp only [GE];exact List.perm_append_comm_assoc _ _ _
end
theorem AX {ι:Type}{Q:ι→List Chunk}{X:Cx}{K:K3}{s:bE}{c:Code}(cs:List Chunk)(h: ∀x,Wq X c K s (cs++Q x)):Wq X c K s (cs++ [fl Q]):=fun H Ds a w ha hd hw=>by
 have h1:Sp (cs++(Ds.map bI++H)) [fl Q] w:=by
  refine SepL.perm hw ?_;simp only [GE];exact List.perm_append_comm_assoc _ _ _
 obtain ⟨x,hx⟩:=gV h1
 have h2:Sp (Ds.map bI++H) (cs++Q x) w:=by
  refine SepL.perm hx ?_;simp only [GE,List.nil_append];exact List.perm_append_comm_assoc _ _ _
 exact h x H Ds a w ha hd h2
theorem AY {α σ:Type}{X:Cx}{K:K3}{s:bE}{g:Operand}{ps:List Nat}{assign body:Code}{gf:FuncId}{caps:Array Value}{Q:α→List Value→List Chunk→Prop}(φ:α→σ→Option (Option Exit×σ))(E:σ→List Chunk)(pre:List Chunk)(σ₀:σ){je:Option Exit}{σr:σ}{L:List Chunk}
  (hr:X.r=none) (hg:bK s g=some (.func (.func gf) #[] caps)) (hf:av X.P gf) (hps:ps.all (fun p=>Nat.ble (p+1) X.n)=true) (hen: ∀x vs cs,Q x vs cs→vs.length=ps.length)
  (hit: ∀l (G:(Option Exit×σ)→List Chunk),mh X.P l G Q (bW φ)→Okc X.P gf (.func (.yield l) #[] #[]::caps.toList) (pre++G (none,σ₀)) fun _ post=>post=G (je,σr))
  (hL:Cv L (pre++E σ₀))
  (hbody: ∀l x σ₁ je' σ₂,φ x σ₁=some (je',σ₂)→ ∀vs cs,Q x vs cs→Wq ⟨X.P,X.n,some l⟩ assign (nx (fun s1 L1=>Wq ⟨X.P,X.n,some l⟩ body (RK je' (E σ₂)) s1 L1) fun _ _ _=>False) (pJ ps vs s) (cs++E σ₁))
  (hdone:je=none→K .normal s (E σr)) (hleft: ∀e,je=some e→(mK e).isSome=true∧K e s (E σr)):
  Wq X (.rangeFunc g ps.toArray assign body) K s L:=by
 intro H Ds a w ha hds hw;obtain ⟨P,n,r⟩:=X;simp only at hr hf hps hit hbody;subst hr;refine wpIn_rangeFunc ?_;intro fn hfn;have hev:a.eval g=.func (.func gf) #[] caps:=ha.eval hg
 obtain ⟨rec_,hrec⟩: ∃rec_:Option Exit→LoopState→Loop,rec_=fun j st=>{state:=st,pending:=j.bind mK,fn,tmps:=a.tmps,params:=ps.toArray,assign,body,defers:=w.heap.size}:=⟨_,rfl⟩
 obtain ⟨stOf,hst⟩: ∃stOf:Option Exit→LoopState,stOf=fun j=>if j.isNone then .ready else .done:=⟨_,rfl⟩
 obtain ⟨l,hl⟩: ∃l,l=w.heap.size+1:=⟨_,rfl⟩;obtain ⟨W1,hW1⟩: ∃W1,(w.alloc (.deferred (some []))).alloc (.loop (rec_ none .ready))=W1:=⟨_,rfl⟩
 have hY:mh P l (fun q=>fA l (rec_ q.1 (stOf q.1))::E q.2) Q (bW φ):=by
  rintro x ⟨j₁,σ₁⟩ b ⟨j₂,σ₂⟩ hx vs cs hq Z w1 hw1;unfold bW at hx
  cases j₁ with
  |some e=>cases hx
  | none=>
   simp only at hx
   cases hφ:φ x σ₁ with
   |none=>rw [hφ] at hx;cases hx
   | some y=>
    rw [hφ] at hx;simp only [Option.map_some,Option.some.injEq,Prod.mk.injEq] at hx;obtain ⟨hb,hy⟩:=hx;subst hb hy
    have h0:SepL (cs++(fA l (rec_ none .ready)::(E σ₁++Z))) w1:=by
     have:stOf none=.ready:=by rw [hst];rfl
     simp only [this] at hw1;unfold Sp at hw1;simpa only [GE,List.cons_append] using hw1
    have hk1:=kZ h0;have hy:=run_yield (P:=P) (args:=vs.toArray) hk1 (by rw [hrec];simp [hen x vs cs hq]);refine ⟨_,_,_,_,hy,roundIn_of_wpIn (F:=Fence.wide) trivial ?_⟩
    have hfx:Fx ⟨P,n,some l⟩ (pJ ps vs s) ⟨((rec_ none .ready).params.zip vs.toArray).foldl (fun t (p:Nat×Value)=>t.setIfInBounds p.1 p.2) (rec_ none .ready).tmps,[]⟩:=by
     have h1:=wn (X:=⟨P,n,some l⟩) (ds:=[]) (ps.zip vs) s a.tmps (by
      rw [List.all_eq_true] at hps⊢;intro p hp
      exact hps p.1 (List.of_mem_zip hp).1) ⟨ha.size,ha.at_⟩
     have e:(((rec_ none .ready).params.zip vs.toArray).foldl (fun t (p:Nat×Value)=>t.setIfInBounds p.1 p.2) (rec_ none .ready).tmps)=(ps.zip vs).foldl (fun t (p:Nat×Value)=>t.setIfInBounds p.1 p.2) a.tmps:=by
      rw [hrec];simp
     rw [e];exact h1
    have hsp:Sp (([]:List Nat).map bI++(fA l (rec_ none .ready)::Z)) (cs++E σ₁) w1:=h0.perm (by simpa only [GE,List.map_nil,List.nil_append] using List.Perm.append_left cs List.perm_middle.symm);have hrun:=hbody l x σ₁ j₂ σ₂ hφ vs cs hq (fA l (rec_ none .ready)::Z) [] _ w1 hfx rfl hsp
    have hasg:(rec_ none .ready).assign=assign:=by rw [hrec]
    have hbdy:(rec_ none .ready).body=body:=by rw [hrec]
    rw [hasg,hbdy];refine wpIn_mono hrun ?_;rintro e a1 w2 ⟨s1,L1,Ds1,g1,g2,g3,g4⟩
    cases e with
    | normal=>
     have g3':SepL ((L1++Ds1.map bI)++(fA l (rec_ none .ready)::Z)) w2:=by unfold Sp at g3;simpa only [GE] using g3
     have hk2:=kZ g3';have hbusy:=ou (r':={rec_ none .ready with state:=.busy}) g3';refine ⟨_,run_beginRound hk2 (by rw [hrec]),?_⟩
     have hb2:Sp (Ds1.map bI++(fA l {rec_ none .ready with state:=.busy}::Z)) L1 (w2.putObj l (.loop {rec_ none .ready with state:=.busy})):=by unfold Sp;simpa only [GE] using hbusy
     refine wpIn_mono (g4 (fA l {rec_ none .ready with state:=.busy}::Z) Ds1 a1 _ g1 g2 hb2) ?_;rintro e3 a3 w3 ⟨s3,L3,Ds3,k1,k2,k3,k4,k5⟩
     have k3':SepL ((L3++Ds3.map bI)++(fA l {rec_ none .ready with state:=.busy}::Z)) w3:=by unfold Sp at k3;simpa only [GE] using k3
     have hk3:=kZ k3'
     have fin: ∀(j:Option Exit) (jump:Option Code),jump=j.bind mK→jump.isNone=j.isNone→j₂=j→ ∃v w',(Instr.endRound l jump).run P w3=.ok v w'∧(Ending.returned v=.returned (.bool j₂.isNone)∧Sp Z (fA l (rec_ j₂ (stOf j₂))::E σ₂) w'):=by
      intro j jump hj1 hj2 hj3;subst hj3;refine ⟨_,_,run_endRound jump hk3,by rw [hj2],?_⟩
      have e:({{rec_ none .ready with state:=.busy} with state:=if jump.isNone then LoopState.ready else LoopState.done,pending:=jump}:Loop)=rec_ j₂ (stOf j₂):=by
       rw [hrec,hst,hj2,hj1]
      rw [e];have h6:=ou (r':=rec_ j₂ (stOf j₂)) k3'
      have h7:SepL (L3++(fA l (rec_ j₂ (stOf j₂))::Z)) (w3.putObj l (.loop (rec_ j₂ (stOf j₂)))):=by
       have h8:SepL (Ds3.map bI++(L3++(fA l (rec_ j₂ (stOf j₂))::Z))) (w3.putObj l (.loop (rec_ j₂ (stOf j₂)))):=h6.perm (by
        rw [←GE]
        exact List.Perm.append_right _ List.perm_append_comm)
       exact h8.dropL
      have h9:=k5 (fA l (rec_ j₂ (stOf j₂))::Z) _ h7;unfold Sp at h9⊢;exact h9.perm List.perm_middle
     rcases k4 with ⟨h10,rfl⟩|⟨h10,h11⟩
     ·exact fin none none J J h10
     cases e3 with
     |ret=>exact fin (some .ret) (some .ret) rfl rfl h10
     |exit i=>exact fin (some (.exit i)) (some (.exit i)) rfl rfl h10
     |_=>cases h11
    |_=>exact g4.elim
 have hdeep:SepL (fA l (rec_ none .ready)::bI w.heap.size::((pre++E σ₀)++(Ds.map bI++H))) W1:=by
  have h1:SepL ((pre++E σ₀)++(Ds.map bI++H)) w:=hL _ _ hw
  have h2:SepL (bI w.heap.size::((pre++E σ₀)++(Ds.map bI++H))) (w.alloc (.deferred (some []))):=h1.new (Agr.of_ext ((Ext.refl w).alloc _)) fun _ S _=>⟨(· =w.heap.size),fun q hq=>by subst hq;simp,rfl,World.alloc_heap_new w _⟩
  rw [←hW1]
  refine h2.new (Agr.of_ext ((Ext.refl _).alloc _)) fun _ S _=>⟨(· =l),fun q hq=>by subst hq;rw [hl];simp,rfl,?_⟩
  have:=World.alloc_heap_new (w.alloc (.deferred (some []))) (.loop (rec_ none .ready));rw [World.size_alloc] at this;rw [hl];exact this
 have hstn:stOf none=.ready:=by rw [hst];rfl
 have hstart:Sp (bI w.heap.size::(Ds.map bI++H)) (pre++(fA l (rec_ none (stOf none))::E σ₀)) W1:=by
  rw [hstn];refine hdeep.perm ?_;refine (List.Perm.swap _ _ _).trans ?_;refine List.Perm.trans ?_ List.perm_middle.symm;refine List.Perm.cons _ ?_;rw [←List.cons_append];exact List.Perm.append_right _ List.perm_middle.symm
 obtain ⟨fnc,hfn1,hb1,hn1⟩:=hf
 have hn': ¬fnc.name= "runtime.NumGoroutine" :=by simpa using hn1
 have hb': ¬fnc.body=none:=by intro h;rw [h] at hb1;cases hb1
 refine ⟨l,[{target:=.collected w.heap.size,args:= #[]}],W1,{target:=.fn (.func gf) caps,args:= #[.func (.yield l) #[] #[]]},W1,gf,(.func (.yield l) #[] #[]::caps.toList).toArray,W1,?_,?_,fun _ _=>trivial,?_,(by intro h;cases h),?_⟩
 ·rw [←hW1,hl,hrec];exact run_enterLoop_outer _ _ _ _ _
 ·simp only [resolve,hev];simp [Deferred.ofValue,Act.eval]
 ·simp [invoke,callFunc,hfn1,hb',hn',Sem.run_bind]
 have h1:=hit l _ hY _ W1 hstart;refine (callsIn_wide.2 h1:CallsIn Fence.wide (0 - 1) P gf _ W1 _).mono ?_;rintro e w3 ⟨v,post,rfl,h2,rfl⟩;have h2':SepL ([]++(fA l (rec_ je (stOf je))::(E σr++(bI w.heap.size::(Ds.map bI++H))))) w3:=h2;have hk:=kZ h2';refine ⟨_,_,run_endLoop hk (by rw [hrec,hst];cases je<;>simp),?_⟩;have h3:=ou (r':={rec_ je (stOf je) with state:=.exhausted}) h2';generalize w3.putObj l (.loop {rec_ je (stOf je) with state:=.exhausted})=w4 at h3⊢
 have h4:Sp ((w.heap.size::Ds).map bI++H) (E σr) w4:=by
  have h5:SepL ([fA l {rec_ je (stOf je) with state:=.exhausted}]++(E σr++(bI w.heap.size::(Ds.map bI++H)))) _:=h3;have h6:=h5.dropL;unfold Sp;simpa using h6
 have hfin: ∀e,K e s (E σr)→oe ⟨P,n,none⟩ H K e {a with defers:=[{target:=.collected w.heap.size,args:= #[]}]++a.defers} w4:=fun e he=>⟨s,E σr,w.heap.size::Ds,⟨ha.size,ha.at_⟩,by simp [hds,ne],h4,he⟩
 cases hje:je with
 |none=>
  have:(rec_ je (stOf je)).pending=none:=by rw [hrec,hje];rfl
  rw [←hje,this];exact hfin .normal (hdone hje)
 |some e=>
  obtain ⟨h7,h8⟩:=hleft e hje
  have:(rec_ je (stOf je)).pending=mK e:=by rw [hrec,hje];rfl
  rw [←hje,this]
  cases e with
  |ret=>exact wpIn_ret (hfin .ret h8)
  |exit i=>exact wpIn_exit (hfin (.exit i) h8)
  |_=>cases h7
theorem vE {α σ ι ρ:Type}{X:Cx}{K:K3}{s:bE}{g:Operand}{ps:List Nat}{assign body:Code}{gf:FuncId}{caps:Array Value}{R:α→List Value→List Chunk→Prop}(φ:α→σ→Option (Option Exit×σ))(Q:σ→ι→List Chunk)(pre:List Chunk)(σ₀:σ)(x₀:ι){je:Option Exit}{σr:σ}{L:List Chunk}{id:Nat}{vn vr:Option ρ}{vx:Nat→Option ρ}{v:ρ}
  (hr:X.r=none) (hg:bK s g=some (.func (.func gf) #[] caps)) (hf:av X.P gf) (hps:ps.all (fun p=>Nat.ble (p+1) X.n)=true) (hen: ∀x vs cs,R x vs cs→vs.length=ps.length)
  (hit: ∀l (G:(Option Exit×σ)→List Chunk),mh X.P l G R (bW φ)→Okc X.P gf (.func (.yield l) #[] #[]::caps.toList) (pre++G (none,σ₀)) fun _ post=>post=G (je,σr))
  (hL:Cv L (pre++Q σ₀ x₀)) (h:lw je vn vr vx=some v)
  (hbody: ∀l x σ₁ je' σ₂ z,φ x σ₁=some (je',σ₂)→ ∀vs cs,R x vs cs→Wq ⟨X.P,X.n,some l⟩ assign (nx (fun s1 L1=>Wq ⟨X.P,X.n,some l⟩ body (RK je' [fl (Q σ₂)]) s1 L1) fun _ _ _=>False) (pJ ps vs s) (cs++Q σ₁ z))
  (hn: ∀z,vn=some v→bk id K .normal s (Q σr z)) (hret: ∀z,vr=some v→bk id K .ret s (Q σr z)) (hx: ∀i z,vx i=some v→bk id K (.exit i) s (Q σr z)):
  Wq X (.block id (.rangeFunc g ps.toArray assign body)) K s L:=by
 refine cQ (Aa (K':=fun e s' L'=>s'=s∧L'=[fl (Q σr)]∧ ∀z,bk id K e s (Q σr z)) ?_ ?_)
 ·refine AY φ (fun q=> [fl (Q q)]) pre σ₀ hr hg hf hps hen hit ?_ ?_ ?_ ?_
  ·exact hL.trans (kO pre (dm x₀ J))
  ·intro l x σ₁ je' σ₂ hφ vs cs hq
   exact AX cs fun z=>hbody l x σ₁ je' σ₂ z hφ vs cs hq
  ·intro hj;rw [hj] at h;exact ⟨J,J,fun z=>hn z h⟩
  intro e he;rw [he] at h
  cases e with
  |ret=>exact ⟨rfl,rfl,rfl,fun z=>hret z h⟩
  |exit i=>exact ⟨rfl,rfl,rfl,fun z=>hx i z h⟩
  |_=>cases h
 rintro e s' L' ⟨rfl,rfl,h3⟩;exact ⟨ι,Q σr,J,h3⟩
theorem SlR.recap {α:Type}{R:Rep α}{S:Nat→Prop}{w:World}{A1 A2:Option Addr}{n1 n2 c1 c2:Nat}{ys:List α}(h:SlR R S w (I A1 n1 c1) ys)(hn:n2=ys.length)(hA:0<ys.length→A2=A1)(h1:ys.length≤c2)(h2:c2≤9223372036854775807):SlR R S w (I A2 n2 c2) ys:=by
 obtain ⟨A,c,e,g1,g2,g3⟩:=h
 injection e with e1 e2 e3
 subst e1 e3 hn;exact ⟨_,_,J,h1,h2,fun h0=>by rw [hA h0];exact g3 h0⟩
theorem yI {α:Type}{R:Rep α}{L Z:List Chunk}{w:World}{A:Option Addr}{n c:Nat}{xs:List α}(hw:Sp Z L w){i:Nat}(hi:L[i]? =some (iS R (.slice A n c) xs)){l h:Nat}(h1:l≤h)(h2:h≤xs.length):Sp Z (iS R (.slice (pK A h l R.sz) (h - l) (h - l)) ((xs.drop l).take (h - l))::L) w:=by
 obtain ⟨T,S,hT⟩:=hw;have hs1:SlR R S w (.slice A n c) xs:=hT.ok (bf hi)
 have hl:((xs.drop l).take (h - l)).length=h - l:=by rw [List.length_take,List.length_drop];omega
 have hb:=hs1;obtain ⟨A2,c2,e2,g1,g2, -⟩:=hb
 injection e2 with q1 q2 q3
 subst q1 q2 q3
 obtain ⟨T',h'⟩:=SepL.facts [iS R (.slice (pK A h l R.sz) (h - l) (h - l)) ((xs.drop l).take (h - l))] hT (fun c hc=>by
  simp only [List.mem_singleton] at hc;subst hc;refine SlR.recap (hs1.cut l h h1 h2) hl.symm (fun h0=> ?_) Y Y;rw [hl] at h0;unfold pK
  rw [if_neg Y,if_neg Y])
 exact ⟨T',S,h'⟩
theorem CD {α:Type}{R:Rep α}{X:Cx}{ops:Array Oper}{K:K3}{s:bE}{L:List Chunk}{ol:List Oper}{A:Option Addr}{n c:Nat}{xs:List α}(i:Nat)(hi:L[i]? =some (iS R (.slice A n c) xs)){l h:Nat}(h1:l≤h)(h2:h≤xs.length)(k: ∀A' n' c',A'=pK A h l R.sz∧n'=h - l∧c'=h - l→cW X ops ol K s (iS R (.slice A' n' c') ((xs.drop l).take (h - l))::L)):cW X ops ol K s L:=fun H Ds a w ha hd hw=>k _ _ _ ⟨rfl,rfl,rfl⟩ H Ds a w ha hd (yI hw hi h1 h2)
section
variable {P:Program} {s:bE} {L:List Chunk} {d:Option Nat} {ty:TypeId} {pos:String} {af:Array Edge} {gd:Option (Nat×Bool)}
theorem Dd {C:World→Prop}{t e sz:Nat}{x o y z:Operand}{A:Option Addr}{n c:Nat}{l h:Nat}(hx:bK s x=some (.slice A n c))(hu:P.underlying t=some (.slice e))(hs:dJ P e sz=true)(hl:bK s o=some (.int .i64 (l:Int)))(hh:bK s y=some (.int .i64 (h:Int)))(hm:bK s z=some (.int .i64 (h:Int)))(h1:l≤h)(h2:h≤c):Ev P s C ⟨d,.slice t x (some o) (some y) (some z),ty,pos,af,gd⟩ (.slice (pK A h l sz) (h - l) (h - l)):=fun ρ hρ w _=>by
 unfold execOp;simp only [Option.map_some,Option.map_none,hρ x _ hx,hρ o _ hl,hρ y _ hh,hρ z _ hm,Instr.sliceAt,Instr.slice,Instr.sliceBounds,Sem.run_bind,run_underlying hu,Result.andThen_ok,lT h2,lT h1,lT (Nat.le_refl h),eU hs w,Sem.run_pure];rfl
theorem zi {α:Type}{R:Rep α}{t e sz:Nat}{x o y z:Operand}{A A':Option Addr}{n c n' c':Nat}{xs:List α}{l h:Nat}(i:Nat)(hL:L[i]? =some (iS R (.slice A n c) xs))(he:A'=pK A h l R.sz∧n'=h - l∧c'=h - l)(hx:bK s x=some (.slice A n c))(hu:P.underlying t=some (.slice e))(hs:dJ P e sz=true)(hsz:R.sz=sz)
  (hl:bK s o=some (.int .i64 (l:Int))) (hh:bK s y=some (.int .i64 (h:Int))) (hm:bK s z=some (.int .i64 (h:Int))) (h1:l≤h) (h2:h≤xs.length):Rd P s L ⟨d,.slice t x (some o) (some y) (some z),ty,pos,af,gd⟩ (.slice A' n' c'):=fun Z w hw=>by
 obtain ⟨rfl,rfl,rfl⟩:=he;subst hsz;obtain ⟨T,S,A2,c2,e2,g1, -⟩:=hw.get (bf hL)
 injection e2 with q1 q2 q3
 subst q1 q2 q3;exact Dd hx hu hs hl hh hm h1 Y
end
end
section
open Go.RowKit
section
variable {α β:Type} [DecidableEq α] {ek:α→Value} {ev:β→Value}
def Gm (w:World)(m:Nat)(ek:α→Value)(ev:β→Value)(kv:List (α×β))(a:α)(s:Nat):Prop:=
 ∃es clk,w.heap[m]? =some (.map es clk)∧es.toList.map (fun e=>(e.key,e.val))=kv.map (fun p=>(ek p.1,ev p.2))∧es.toList.Pairwise (fun a b=>a.born<b.born)∧(∀e∈es.toList,e.born<clk)∧ ∃q e b,es[q]? =some e∧e.born=s∧e.key=ek a∧fp a kv 0=some (q,b)
def Fd (kv:List (α×β))(a:α)(z:β):List (α×β):=match fp a kv 0 with
 |some _=>kv
 |none=>kv++ [(a,z)]
variable {P:Program} {s:bE} {L:List Chunk} {d:Option Nat} {ty t kt et:TypeId} {pos:String} {af:Array Edge} {gd:Option (Nat×Bool)}
end
end
section
open Go.RowKit
theorem xJ {L:List Chunk}: ∀(cs:List Chunk),Cv (cs++L) L
 | []=>ab _
 |_::cs=>cv_tl.trans (xJ cs)
inductive Asn:Type 1
 |aV (v:Value)
 |aX1 {ι0:Type} (v:ι0→Value) (ch:ι0→List Chunk)
 |aX2 {ι0 ι1:Type} (v:ι0→ι1→Value) (ch:ι0→ι1→List Chunk)
 |aX3 {ι0 ι1 ι2:Type} (v:ι0→ι1→ι2→Value) (ch:ι0→ι1→ι2→List Chunk)
 |aX4 {ι0 ι1 ι2 ι3:Type} (v:ι0→ι1→ι2→ι3→Value) (ch:ι0→ι1→ι2→ι3→List Chunk)
 |aX5 {ι0 ι1 ι2 ι3 ι4:Type} (v:ι0→ι1→ι2→ι3→ι4→Value) (ch:ι0→ι1→ι2→ι3→ι4→List Chunk)
 |aX6 {ι0 ι1 ι2 ι3 ι4 ι5:Type} (v:ι0→ι1→ι2→ι3→ι4→ι5→Value) (ch:ι0→ι1→ι2→ι3→ι4→ι5→List Chunk)
 |aX7 {ι0 ι1 ι2 ι3 ι4 ι5 ι6:Type} (v:ι0→ι1→ι2→ι3→ι4→ι5→ι6→Value) (ch:ι0→ι1→ι2→ι3→ι4→ι5→ι6→List Chunk)
 |aX8 {ι0 ι1 ι2 ι3 ι4 ι5 ι6 ι7:Type} (v:ι0→ι1→ι2→ι3→ι4→ι5→ι6→ι7→Value) (ch:ι0→ι1→ι2→ι3→ι4→ι5→ι6→ι7→List Chunk)
 |aX9 {ι0 ι1 ι2 ι3 ι4 ι5 ι6 ι7 ι8:Type} (v:ι0→ι1→ι2→ι3→ι4→ι5→ι6→ι7→ι8→Value) (ch:ι0→ι1→ι2→ι3→ι4→ι5→ι6→ι7→ι8→List Chunk)
 |aX10 {ι0 ι1 ι2 ι3 ι4 ι5 ι6 ι7 ι8 ι9:Type} (v:ι0→ι1→ι2→ι3→ι4→ι5→ι6→ι7→ι8→ι9→Value) (ch:ι0→ι1→ι2→ι3→ι4→ι5→ι6→ι7→ι8→ι9→List Chunk)
 |aX11 {ι0 ι1 ι2 ι3 ι4 ι5 ι6 ι7 ι8 ι9 ι10:Type} (v:ι0→ι1→ι2→ι3→ι4→ι5→ι6→ι7→ι8→ι9→ι10→Value) (ch:ι0→ι1→ι2→ι3→ι4→ι5→ι6→ι7→ι8→ι9→ι10→List Chunk)
 |aX12 {ι0 ι1 ι2 ι3 ι4 ι5 ι6 ι7 ι8 ι9 ι10 ι11:Type} (v:ι0→ι1→ι2→ι3→ι4→ι5→ι6→ι7→ι8→ι9→ι10→ι11→Value) (ch:ι0→ι1→ι2→ι3→ι4→ι5→ι6→ι7→ι8→ι9→ι10→ι11→List Chunk)
namespace Asn
def full:Asn→Value→List Chunk
 |aV v,u=> [Bv (u=v)]
 | @aX1 ι0 v ch,u=> [fl fun x:{x:ι0 // u=v x}=>ch x.1]
 | @aX2 ι0 ι1 v ch,u=> [fl fun x:{x:ι0×ι1 // u=v x.1 x.2}=>ch x.1.1 x.1.2]
 | @aX3 ι0 ι1 ι2 v ch,u=> [fl fun x:{x:ι0×ι1×ι2 // u=v x.1 x.2.1 x.2.2}=>ch x.1.1 x.1.2.1 x.1.2.2]
 | @aX4 ι0 ι1 ι2 ι3 v ch,u=> [fl fun x:{x:ι0×ι1×ι2×ι3 // u=v x.1 x.2.1 x.2.2.1 x.2.2.2}=>ch x.1.1 x.1.2.1 x.1.2.2.1 x.1.2.2.2]
 | @aX5 ι0 ι1 ι2 ι3 ι4 v ch,u=> [fl fun x:{x:ι0×ι1×ι2×ι3×ι4 // u=v x.1 x.2.1 x.2.2.1 x.2.2.2.1 x.2.2.2.2}=>ch x.1.1 x.1.2.1 x.1.2.2.1 x.1.2.2.2.1 x.1.2.2.2.2]
 | @aX6 ι0 ι1 ι2 ι3 ι4 ι5 v ch,u=> [fl fun x:{x:ι0×ι1×ι2×ι3×ι4×ι5 // u=v x.1 x.2.1 x.2.2.1 x.2.2.2.1 x.2.2.2.2.1 x.2.2.2.2.2}=>ch x.1.1 x.1.2.1 x.1.2.2.1 x.1.2.2.2.1 x.1.2.2.2.2.1 x.1.2.2.2.2.2]
 | @aX7 ι0 ι1 ι2 ι3 ι4 ι5 ι6 v ch,u=> [fl fun x:{x:ι0×ι1×ι2×ι3×ι4×ι5×ι6 // u=v x.1 x.2.1 x.2.2.1 x.2.2.2.1 x.2.2.2.2.1 x.2.2.2.2.2.1 x.2.2.2.2.2.2}=>ch x.1.1 x.1.2.1 x.1.2.2.1 x.1.2.2.2.1 x.1.2.2.2.2.1 x.1.2.2.2.2.2.1 x.1.2.2.2.2.2.2]
 | @aX8 ι0 ι1 ι2 ι3 ι4 ι5 ι6 ι7 v ch,u=> [fl fun x:{x:ι0×ι1×ι2×ι3×ι4×ι5×ι6×ι7 // u=v x.1 x.2.1 x.2.2.1 x.2.2.2.1 x.2.2.2.2.1 x.2.2.2.2.2.1 x.2.2.2.2.2.2.1 x.2.2.2.2.2.2.2}=>ch x.1.1 x.1.2.1 x.1.2.2.1 x.1.2.2.2.1 x.1.2.2.2.2.1 x.1.2.2.2.2.2.1 x.1.2.2.2.2.2.2.1 x.1.2.2.2.2.2.2.2]
 | @aX9 ι0 ι1 ι2 ι3 ι4 ι5 ι6 ι7 ι8 v ch,u=> [fl fun x:{x:ι0×ι1×ι2×ι3×ι4×ι5×ι6×ι7×ι8 // u=v x.1 x.2.1 x.2.2.1 x.2.2.2.1 x.2.2.2.2.1 x.2.2.2.2.2.1 x.2.2.2.2.2.2.1 x.2.2.2.2.2.2.2.1 x.2.2.2.2.2.2.2.2}=>ch x.1.1 x.1.2.1 x.1.2.2.1 x.1.2.2.2.1 x.1.2.2.2.2.1 x.1.2.2.2.2.2.1 x.1.2.2.2.2.2.2.1 x.1.2.2.2.2.2.2.2.1 x.1.2.2.2.2.2.2.2.2]
 | @aX10 ι0 ι1 ι2 ι3 ι4 ι5 ι6 ι7 ι8 ι9 v ch,u=> [fl fun x:{x:ι0×ι1×ι2×ι3×ι4×ι5×ι6×ι7×ι8×ι9 // u=v x.1 x.2.1 x.2.2.1 x.2.2.2.1 x.2.2.2.2.1 x.2.2.2.2.2.1 x.2.2.2.2.2.2.1 x.2.2.2.2.2.2.2.1 x.2.2.2.2.2.2.2.2.1 x.2.2.2.2.2.2.2.2.2}=>ch x.1.1 x.1.2.1 x.1.2.2.1 x.1.2.2.2.1 x.1.2.2.2.2.1 x.1.2.2.2.2.2.1 x.1.2.2.2.2.2.2.1 x.1.2.2.2.2.2.2.2.1 x.1.2.2.2.2.2.2.2.2.1 x.1.2.2.2.2.2.2.2.2.2]
 | @aX11 ι0 ι1 ι2 ι3 ι4 ι5 ι6 ι7 ι8 ι9 ι10 v ch,u=> [fl fun x:{x:ι0×ι1×ι2×ι3×ι4×ι5×ι6×ι7×ι8×ι9×ι10 // u=v x.1 x.2.1 x.2.2.1 x.2.2.2.1 x.2.2.2.2.1 x.2.2.2.2.2.1 x.2.2.2.2.2.2.1 x.2.2.2.2.2.2.2.1 x.2.2.2.2.2.2.2.2.1 x.2.2.2.2.2.2.2.2.2.1 x.2.2.2.2.2.2.2.2.2.2}=>ch x.1.1 x.1.2.1 x.1.2.2.1 x.1.2.2.2.1 x.1.2.2.2.2.1 x.1.2.2.2.2.2.1 x.1.2.2.2.2.2.2.1 x.1.2.2.2.2.2.2.2.1 x.1.2.2.2.2.2.2.2.2.1 x.1.2.2.2.2.2.2.2.2.2.1 x.1.2.2.2.2.2.2.2.2.2.2]
 | @aX12 ι0 ι1 ι2 ι3 ι4 ι5 ι6 ι7 ι8 ι9 ι10 ι11 v ch,u=> [fl fun x:{x:ι0×ι1×ι2×ι3×ι4×ι5×ι6×ι7×ι8×ι9×ι10×ι11 // u=v x.1 x.2.1 x.2.2.1 x.2.2.2.1 x.2.2.2.2.1 x.2.2.2.2.2.1 x.2.2.2.2.2.2.1 x.2.2.2.2.2.2.2.1 x.2.2.2.2.2.2.2.2.1 x.2.2.2.2.2.2.2.2.2.1 x.2.2.2.2.2.2.2.2.2.2.1 x.2.2.2.2.2.2.2.2.2.2.2}=>ch x.1.1 x.1.2.1 x.1.2.2.1 x.1.2.2.2.1 x.1.2.2.2.2.1 x.1.2.2.2.2.2.1 x.1.2.2.2.2.2.2.1 x.1.2.2.2.2.2.2.2.1 x.1.2.2.2.2.2.2.2.2.1 x.1.2.2.2.2.2.2.2.2.2.1 x.1.2.2.2.2.2.2.2.2.2.2.1 x.1.2.2.2.2.2.2.2.2.2.2.2]
def Op:Asn→(Value→List Chunk→Prop)→Prop
 |aV v,K=>K v []
 |aX1 v ch,K=> ∀x0,K (v x0) (ch x0)
 |aX2 v ch,K=> ∀x0 x1,K (v x0 x1) (ch x0 x1)
 |aX3 v ch,K=> ∀x0 x1 x2,K (v x0 x1 x2) (ch x0 x1 x2)
 |aX4 v ch,K=> ∀x0 x1 x2 x3,K (v x0 x1 x2 x3) (ch x0 x1 x2 x3)
 |aX5 v ch,K=> ∀x0 x1 x2 x3 x4,K (v x0 x1 x2 x3 x4) (ch x0 x1 x2 x3 x4)
 |aX6 v ch,K=> ∀x0 x1 x2 x3 x4 x5,K (v x0 x1 x2 x3 x4 x5) (ch x0 x1 x2 x3 x4 x5)
 |aX7 v ch,K=> ∀x0 x1 x2 x3 x4 x5 x6,K (v x0 x1 x2 x3 x4 x5 x6) (ch x0 x1 x2 x3 x4 x5 x6)
 |aX8 v ch,K=> ∀x0 x1 x2 x3 x4 x5 x6 x7,K (v x0 x1 x2 x3 x4 x5 x6 x7) (ch x0 x1 x2 x3 x4 x5 x6 x7)
 |aX9 v ch,K=> ∀x0 x1 x2 x3 x4 x5 x6 x7 x8,K (v x0 x1 x2 x3 x4 x5 x6 x7 x8) (ch x0 x1 x2 x3 x4 x5 x6 x7 x8)
 |aX10 v ch,K=> ∀x0 x1 x2 x3 x4 x5 x6 x7 x8 x9,K (v x0 x1 x2 x3 x4 x5 x6 x7 x8 x9) (ch x0 x1 x2 x3 x4 x5 x6 x7 x8 x9)
 |aX11 v ch,K=> ∀x0 x1 x2 x3 x4 x5 x6 x7 x8 x9 x10,K (v x0 x1 x2 x3 x4 x5 x6 x7 x8 x9 x10) (ch x0 x1 x2 x3 x4 x5 x6 x7 x8 x9 x10)
 |aX12 v ch,K=> ∀x0 x1 x2 x3 x4 x5 x6 x7 x8 x9 x10 x11,K (v x0 x1 x2 x3 x4 x5 x6 x7 x8 x9 x10 x11) (ch x0 x1 x2 x3 x4 x5 x6 x7 x8 x9 x10 x11)
theorem hop: ∀(a:Asn) (K:Value→List Chunk→Prop) (u:Value) (L Z:List Chunk) (w:World),Sp Z (a.full u++L) w→a.Op K→ ∃c,K u c∧Sp Z (c++L) w∧ ∀L',Cv (c++L') (a.full u++L')
 |aV v,K,u,L,Z,w,hs,hk=>by
  have h:u=v:=CP hs 0 rfl;subst h;exact ⟨[],hk,cv_tl _ _ hs,fun L'=>zA J⟩
 | @aX1 ι0 v ch,K,u,L,Z,w,hs,hk=>by
  obtain ⟨⟨x,hx⟩,hs⟩:=gV hs;subst hx;exact ⟨_,hk x,hs,fun L'=>eF (Q:=fun y:{y:ι0 // v x=v y}=>ch y.1) ⟨x,J⟩⟩
 | @aX2 ι0 ι1 v ch,K,u,L,Z,w,hs,hk=>by
  obtain ⟨⟨x,hx⟩,hs⟩:=gV hs;subst hx;exact ⟨_,hk x.1 x.2,hs,fun L'=>eF (Q:=fun y:{y:ι0×ι1 // v x.1 x.2=v y.1 y.2}=>ch y.1.1 y.1.2) ⟨x,J⟩⟩
 | @aX3 ι0 ι1 ι2 v ch,K,u,L,Z,w,hs,hk=>by
  obtain ⟨⟨x,hx⟩,hs⟩:=gV hs;subst hx;exact ⟨_,hk x.1 x.2.1 x.2.2,hs,fun L'=>eF (Q:=fun y:{y:ι0×ι1×ι2 // v x.1 x.2.1 x.2.2=v y.1 y.2.1 y.2.2}=>ch y.1.1 y.1.2.1 y.1.2.2) ⟨x,J⟩⟩
 | @aX4 ι0 ι1 ι2 ι3 v ch,K,u,L,Z,w,hs,hk=>by
  obtain ⟨⟨x,hx⟩,hs⟩:=gV hs;subst hx;exact ⟨_,hk x.1 x.2.1 x.2.2.1 x.2.2.2,hs,fun L'=>eF (Q:=fun y:{y:ι0×ι1×ι2×ι3 // v x.1 x.2.1 x.2.2.1 x.2.2.2=v y.1 y.2.1 y.2.2.1 y.2.2.2}=>ch y.1.1 y.1.2.1 y.1.2.2.1 y.1.2.2.2) ⟨x,J⟩⟩
 | @aX5 ι0 ι1 ι2 ι3 ι4 v ch,K,u,L,Z,w,hs,hk=>by
  obtain ⟨⟨x,hx⟩,hs⟩:=gV hs;subst hx;exact ⟨_,hk x.1 x.2.1 x.2.2.1 x.2.2.2.1 x.2.2.2.2,hs,fun L'=>eF (Q:=fun y:{y:ι0×ι1×ι2×ι3×ι4 // v x.1 x.2.1 x.2.2.1 x.2.2.2.1 x.2.2.2.2=v y.1 y.2.1 y.2.2.1 y.2.2.2.1 y.2.2.2.2}=>ch y.1.1 y.1.2.1 y.1.2.2.1 y.1.2.2.2.1 y.1.2.2.2.2) ⟨x,J⟩⟩
 | @aX6 ι0 ι1 ι2 ι3 ι4 ι5 v ch,K,u,L,Z,w,hs,hk=>by
  obtain ⟨⟨x,hx⟩,hs⟩:=gV hs;subst hx;exact ⟨_,hk x.1 x.2.1 x.2.2.1 x.2.2.2.1 x.2.2.2.2.1 x.2.2.2.2.2,hs,fun L'=>eF (Q:=fun y:{y:ι0×ι1×ι2×ι3×ι4×ι5 // v x.1 x.2.1 x.2.2.1 x.2.2.2.1 x.2.2.2.2.1 x.2.2.2.2.2=v y.1 y.2.1 y.2.2.1 y.2.2.2.1 y.2.2.2.2.1 y.2.2.2.2.2}=>ch y.1.1 y.1.2.1 y.1.2.2.1 y.1.2.2.2.1 y.1.2.2.2.2.1 y.1.2.2.2.2.2) ⟨x,J⟩⟩
 | @aX7 ι0 ι1 ι2 ι3 ι4 ι5 ι6 v ch,K,u,L,Z,w,hs,hk=>by
  obtain ⟨⟨x,hx⟩,hs⟩:=gV hs;subst hx;exact ⟨_,hk x.1 x.2.1 x.2.2.1 x.2.2.2.1 x.2.2.2.2.1 x.2.2.2.2.2.1 x.2.2.2.2.2.2,hs,fun L'=>eF (Q:=fun y:{y:ι0×ι1×ι2×ι3×ι4×ι5×ι6 // v x.1 x.2.1 x.2.2.1 x.2.2.2.1 x.2.2.2.2.1 x.2.2.2.2.2.1 x.2.2.2.2.2.2=v y.1 y.2.1 y.2.2.1 y.2.2.2.1 y.2.2.2.2.1 y.2.2.2.2.2.1 y.2.2.2.2.2.2}=>ch y.1.1 y.1.2.1 y.1.2.2.1 y.1.2.2.2.1 y.1.2.2.2.2.1 y.1.2.2.2.2.2.1 y.1.2.2.2.2.2.2) ⟨x,J⟩⟩
 | @aX8 ι0 ι1 ι2 ι3 ι4 ι5 ι6 ι7 v ch,K,u,L,Z,w,hs,hk=>by
  obtain ⟨⟨x,hx⟩,hs⟩:=gV hs;subst hx;exact ⟨_,hk x.1 x.2.1 x.2.2.1 x.2.2.2.1 x.2.2.2.2.1 x.2.2.2.2.2.1 x.2.2.2.2.2.2.1 x.2.2.2.2.2.2.2,hs,fun L'=>eF (Q:=fun y:{y:ι0×ι1×ι2×ι3×ι4×ι5×ι6×ι7 // v x.1 x.2.1 x.2.2.1 x.2.2.2.1 x.2.2.2.2.1 x.2.2.2.2.2.1 x.2.2.2.2.2.2.1 x.2.2.2.2.2.2.2=v y.1 y.2.1 y.2.2.1 y.2.2.2.1 y.2.2.2.2.1 y.2.2.2.2.2.1 y.2.2.2.2.2.2.1 y.2.2.2.2.2.2.2}=>ch y.1.1 y.1.2.1 y.1.2.2.1 y.1.2.2.2.1 y.1.2.2.2.2.1 y.1.2.2.2.2.2.1 y.1.2.2.2.2.2.2.1 y.1.2.2.2.2.2.2.2) ⟨x,J⟩⟩
 | @aX9 ι0 ι1 ι2 ι3 ι4 ι5 ι6 ι7 ι8 v ch,K,u,L,Z,w,hs,hk=>by
  obtain ⟨⟨x,hx⟩,hs⟩:=gV hs;subst hx;exact ⟨_,hk x.1 x.2.1 x.2.2.1 x.2.2.2.1 x.2.2.2.2.1 x.2.2.2.2.2.1 x.2.2.2.2.2.2.1 x.2.2.2.2.2.2.2.1 x.2.2.2.2.2.2.2.2,hs,fun L'=>eF (Q:=fun y:{y:ι0×ι1×ι2×ι3×ι4×ι5×ι6×ι7×ι8 // v x.1 x.2.1 x.2.2.1 x.2.2.2.1 x.2.2.2.2.1 x.2.2.2.2.2.1 x.2.2.2.2.2.2.1 x.2.2.2.2.2.2.2.1 x.2.2.2.2.2.2.2.2=v y.1 y.2.1 y.2.2.1 y.2.2.2.1 y.2.2.2.2.1 y.2.2.2.2.2.1 y.2.2.2.2.2.2.1 y.2.2.2.2.2.2.2.1 y.2.2.2.2.2.2.2.2}=>ch y.1.1 y.1.2.1 y.1.2.2.1 y.1.2.2.2.1 y.1.2.2.2.2.1 y.1.2.2.2.2.2.1 y.1.2.2.2.2.2.2.1 y.1.2.2.2.2.2.2.2.1 y.1.2.2.2.2.2.2.2.2) ⟨x,J⟩⟩
 | @aX10 ι0 ι1 ι2 ι3 ι4 ι5 ι6 ι7 ι8 ι9 v ch,K,u,L,Z,w,hs,hk=>by
  obtain ⟨⟨x,hx⟩,hs⟩:=gV hs;subst hx;exact ⟨_,hk x.1 x.2.1 x.2.2.1 x.2.2.2.1 x.2.2.2.2.1 x.2.2.2.2.2.1 x.2.2.2.2.2.2.1 x.2.2.2.2.2.2.2.1 x.2.2.2.2.2.2.2.2.1 x.2.2.2.2.2.2.2.2.2,hs,fun L'=>eF (Q:=fun y:{y:ι0×ι1×ι2×ι3×ι4×ι5×ι6×ι7×ι8×ι9 // v x.1 x.2.1 x.2.2.1 x.2.2.2.1 x.2.2.2.2.1 x.2.2.2.2.2.1 x.2.2.2.2.2.2.1 x.2.2.2.2.2.2.2.1 x.2.2.2.2.2.2.2.2.1 x.2.2.2.2.2.2.2.2.2=v y.1 y.2.1 y.2.2.1 y.2.2.2.1 y.2.2.2.2.1 y.2.2.2.2.2.1 y.2.2.2.2.2.2.1 y.2.2.2.2.2.2.2.1 y.2.2.2.2.2.2.2.2.1 y.2.2.2.2.2.2.2.2.2}=>ch y.1.1 y.1.2.1 y.1.2.2.1 y.1.2.2.2.1 y.1.2.2.2.2.1 y.1.2.2.2.2.2.1 y.1.2.2.2.2.2.2.1 y.1.2.2.2.2.2.2.2.1 y.1.2.2.2.2.2.2.2.2.1 y.1.2.2.2.2.2.2.2.2.2) ⟨x,J⟩⟩
 | @aX11 ι0 ι1 ι2 ι3 ι4 ι5 ι6 ι7 ι8 ι9 ι10 v ch,K,u,L,Z,w,hs,hk=>by
  obtain ⟨⟨x,hx⟩,hs⟩:=gV hs;subst hx;exact ⟨_,hk x.1 x.2.1 x.2.2.1 x.2.2.2.1 x.2.2.2.2.1 x.2.2.2.2.2.1 x.2.2.2.2.2.2.1 x.2.2.2.2.2.2.2.1 x.2.2.2.2.2.2.2.2.1 x.2.2.2.2.2.2.2.2.2.1 x.2.2.2.2.2.2.2.2.2.2,hs,fun L'=>eF (Q:=fun y:{y:ι0×ι1×ι2×ι3×ι4×ι5×ι6×ι7×ι8×ι9×ι10 // v x.1 x.2.1 x.2.2.1 x.2.2.2.1 x.2.2.2.2.1 x.2.2.2.2.2.1 x.2.2.2.2.2.2.1 x.2.2.2.2.2.2.2.1 x.2.2.2.2.2.2.2.2.1 x.2.2.2.2.2.2.2.2.2.1 x.2.2.2.2.2.2.2.2.2.2=v y.1 y.2.1 y.2.2.1 y.2.2.2.1 y.2.2.2.2.1 y.2.2.2.2.2.1 y.2.2.2.2.2.2.1 y.2.2.2.2.2.2.2.1 y.2.2.2.2.2.2.2.2.1 y.2.2.2.2.2.2.2.2.2.1 y.2.2.2.2.2.2.2.2.2.2}=>ch y.1.1 y.1.2.1 y.1.2.2.1 y.1.2.2.2.1 y.1.2.2.2.2.1 y.1.2.2.2.2.2.1 y.1.2.2.2.2.2.2.1 y.1.2.2.2.2.2.2.2.1 y.1.2.2.2.2.2.2.2.2.1 y.1.2.2.2.2.2.2.2.2.2.1 y.1.2.2.2.2.2.2.2.2.2.2) ⟨x,J⟩⟩
 | @aX12 ι0 ι1 ι2 ι3 ι4 ι5 ι6 ι7 ι8 ι9 ι10 ι11 v ch,K,u,L,Z,w,hs,hk=>by
  obtain ⟨⟨x,hx⟩,hs⟩:=gV hs;subst hx;exact ⟨_,hk x.1 x.2.1 x.2.2.1 x.2.2.2.1 x.2.2.2.2.1 x.2.2.2.2.2.1 x.2.2.2.2.2.2.1 x.2.2.2.2.2.2.2.1 x.2.2.2.2.2.2.2.2.1 x.2.2.2.2.2.2.2.2.2.1 x.2.2.2.2.2.2.2.2.2.2.1 x.2.2.2.2.2.2.2.2.2.2.2,hs,fun L'=>eF (Q:=fun y:{y:ι0×ι1×ι2×ι3×ι4×ι5×ι6×ι7×ι8×ι9×ι10×ι11 // v x.1 x.2.1 x.2.2.1 x.2.2.2.1 x.2.2.2.2.1 x.2.2.2.2.2.1 x.2.2.2.2.2.2.1 x.2.2.2.2.2.2.2.1 x.2.2.2.2.2.2.2.2.1 x.2.2.2.2.2.2.2.2.2.1 x.2.2.2.2.2.2.2.2.2.2.1 x.2.2.2.2.2.2.2.2.2.2.2=v y.1 y.2.1 y.2.2.1 y.2.2.2.1 y.2.2.2.2.1 y.2.2.2.2.2.1 y.2.2.2.2.2.2.1 y.2.2.2.2.2.2.2.1 y.2.2.2.2.2.2.2.2.1 y.2.2.2.2.2.2.2.2.2.1 y.2.2.2.2.2.2.2.2.2.2.1 y.2.2.2.2.2.2.2.2.2.2.2}=>ch y.1.1 y.1.2.1 y.1.2.2.1 y.1.2.2.2.1 y.1.2.2.2.2.1 y.1.2.2.2.2.2.1 y.1.2.2.2.2.2.2.1 y.1.2.2.2.2.2.2.2.1 y.1.2.2.2.2.2.2.2.2.1 y.1.2.2.2.2.2.2.2.2.2.1 y.1.2.2.2.2.2.2.2.2.2.2.1 y.1.2.2.2.2.2.2.2.2.2.2.2) ⟨x,J⟩⟩
end Asn
open Asn
theorem aA {u v:Value}{L L0:List Chunk}(hp:u=v)(h:Cv L L0):Cv L ((Asn.aV v).full u++L0):=h.trans (zA hp)
theorem EE {ι0:Type}{v:ι0→Value}{ch:ι0→List Chunk}{L L0:List Chunk}(x0:ι0)(h:Cv L (ch x0++L0)):Cv L ((Asn.aX1 v ch).full (v x0)++L0):=h.trans (eF (Q:=fun y:{y:ι0 // v x0=v y}=>ch y.1) ⟨x0,rfl⟩)
theorem iT {ι0 ι1 ι2:Type}{v:ι0→ι1→ι2→Value}{ch:ι0→ι1→ι2→List Chunk}{L L0:List Chunk}(x0:ι0)(x1:ι1)(x2:ι2)(h:Cv L (ch x0 x1 x2++L0)):Cv L ((Asn.aX3 v ch).full (v x0 x1 x2)++L0):=h.trans (eF (Q:=fun y:{y:ι0×ι1×ι2 // v x0 x1 x2=v y.1 y.2.1 y.2.2}=>ch y.1.1 y.1.2.1 y.1.2.2) ⟨(x0,x1,x2),rfl⟩)
theorem AN {ι0 ι1 ι2 ι3 ι4 ι5:Type}{v:ι0→ι1→ι2→ι3→ι4→ι5→Value}{ch:ι0→ι1→ι2→ι3→ι4→ι5→List Chunk}{L L0:List Chunk}(x0:ι0)(x1:ι1)(x2:ι2)(x3:ι3)(x4:ι4)(x5:ι5)(h:Cv L (ch x0 x1 x2 x3 x4 x5++L0)):Cv L ((Asn.aX6 v ch).full (v x0 x1 x2 x3 x4 x5)++L0):=h.trans (eF (Q:=fun y:{y:ι0×ι1×ι2×ι3×ι4×ι5 // v x0 x1 x2 x3 x4 x5=v y.1 y.2.1 y.2.2.1 y.2.2.2.1 y.2.2.2.2.1 y.2.2.2.2.2}=>ch y.1.1 y.1.2.1 y.1.2.2.1 y.1.2.2.2.1 y.1.2.2.2.2.1 y.1.2.2.2.2.2) ⟨(x0,x1,x2,x3,x4,x5),rfl⟩)
theorem zz {ι0 ι1 ι2 ι3 ι4 ι5 ι6 ι7 ι8 ι9 ι10 ι11:Type}{v:ι0→ι1→ι2→ι3→ι4→ι5→ι6→ι7→ι8→ι9→ι10→ι11→Value}{ch:ι0→ι1→ι2→ι3→ι4→ι5→ι6→ι7→ι8→ι9→ι10→ι11→List Chunk}{L L0:List Chunk}(x0:ι0)(x1:ι1)(x2:ι2)(x3:ι3)(x4:ι4)(x5:ι5)(x6:ι6)(x7:ι7)(x8:ι8)(x9:ι9)(x10:ι10)(x11:ι11)(h:Cv L (ch x0 x1 x2 x3 x4 x5 x6 x7 x8 x9 x10 x11++L0)):Cv L ((Asn.aX12 v ch).full (v x0 x1 x2 x3 x4 x5 x6 x7 x8 x9 x10 x11)++L0):=h.trans (eF (Q:=fun y:{y:ι0×ι1×ι2×ι3×ι4×ι5×ι6×ι7×ι8×ι9×ι10×ι11 // v x0 x1 x2 x3 x4 x5 x6 x7 x8 x9 x10 x11=v y.1 y.2.1 y.2.2.1 y.2.2.2.1 y.2.2.2.2.1 y.2.2.2.2.2.1 y.2.2.2.2.2.2.1 y.2.2.2.2.2.2.2.1 y.2.2.2.2.2.2.2.2.1 y.2.2.2.2.2.2.2.2.2.1 y.2.2.2.2.2.2.2.2.2.2.1 y.2.2.2.2.2.2.2.2.2.2.2}=>ch y.1.1 y.1.2.1 y.1.2.2.1 y.1.2.2.2.1 y.1.2.2.2.2.1 y.1.2.2.2.2.2.1 y.1.2.2.2.2.2.2.1 y.1.2.2.2.2.2.2.2.1 y.1.2.2.2.2.2.2.2.2.1 y.1.2.2.2.2.2.2.2.2.2.1 y.1.2.2.2.2.2.2.2.2.2.2.1 y.1.2.2.2.2.2.2.2.2.2.2.2) ⟨(x0,x1,x2,x3,x4,x5,x6,x7,x8,x9,x10,x11),rfl⟩)
def xA (ds:List Nat)(As:List Asn):List Nat→(bE→List Chunk→List Chunk→Prop)→bE→List Chunk→List Chunk→Prop
 | [],K,s,L,L2=>K s L L2
 |i::r,K,s,L,L2=>(As.getD i (aV undef)).Op fun u c=>xA ds As r (fun s' L' L2'=>K ((ds.getD i 0,u)::s') (c++L') (c++L2')) s L L2
abbrev Da (ds:List Nat)(As:List Asn)(ix:List Nat)(K:bE→List Chunk→Prop)(s:bE)(L:List Chunk):Prop:=xA ds As ix (fun s L _=>K s L) s L L
def lq (As:List Asn):List (Value→List Chunk):=As.map Asn.full
theorem ri (As:List Asn)(i:Nat)(h:i<As.length):(lq As).getD i (fun _=> [])=(As.getD i (aV undef)).full:=by
 simp [lq,h]
section
variable {As:List Asn} {val:Nat→Value} {ds:List Nat}
theorem xM {i:Nat}{r:List Nat}{L:List Chunk}(hi:i<As.length):rY (lq As) val (i::r) L=(As.getD i (aV undef)).full (val i)++rY (lq As) val r L:=by
 unfold rY;rw [List.flatMap_cons,ri _ _ hi,GE]
theorem mJ {s:bE}{L L2:List Chunk}{w:World}: ∀(ix:List Nat) (K:bE→List Chunk→List Chunk→Prop) (Z:List Chunk),(∀i∈ix,i<As.length)→Sp Z (rY (lq As) val ix L) w→xA ds As ix K s L L2→ ∃C,K (uA ds val ix s) (C++L) (C++L2)∧Sp Z (C++L) w∧ ∀L',Cv (C++L') (rY (lq As) val ix L')
 | [],K,Z,_,hw,h=>⟨[],h,hw,fun L'=>ab _⟩
 | i::r,K,Z,hi,hw,h=>by
  have hil:=hi i (by simp);rw [xM hil] at hw;obtain ⟨c,h1,h2,h3⟩:=(As.getD i (aV undef)).hop _ _ _ _ _ hw h
  have h4:Sp (c++Z) (rY (lq As) val r L) w:=SepL.perm h2 (by
   show ((c++rY (lq As) val r L)++Z).Perm (rY (lq As) val r L++(c++Z));rw [GE]
   exact (List.perm_append_comm_assoc _ _ _))
  obtain ⟨C,g1,g2,g3⟩:=mJ r _ (c++Z) (fun j hj=>hi j (by simp [hj])) h4 h1;refine ⟨c++C,?_,?_,fun L'=> ?_⟩
  ·rw [GE,GE];exact g1
  ·rw [GE];refine SepL.perm g2 ?_;show ((C++L)++(c++Z)).Perm ((c++(C++L))++Z);rw [GE c (C++L) Z];exact List.perm_append_comm_assoc _ _ _
  rw [GE,xM hil];exact (kO c (g3 L')).trans (h3 _)
variable {P:Program} {ops:Array Oper} {s:bE} {o:Oper} {A:Value→List Chunk} {L L2:List Chunk}
theorem Bg {ix:List Nat}(hi: ∀i∈ix,i<As.length)(h:xA ds As ix (fun s' L' L''=>AZ P ops s' L' L'' o A) s L L2):AZ P ops (uA ds val ix s) (rY (lq As) val ix L) (rY (lq As) val ix L2) o A:=fun Z w hw=>by
 obtain ⟨C,h1,h2,h3⟩:=mJ ix _ Z hi hw h;rcases h1 Z w h2 with ⟨h1,h2⟩|⟨h1,h2⟩
 ·refine .inl ⟨h1,fun ρ hρ=> ?_⟩;rcases h2 ρ hρ with ⟨v,w',L',h1,h2,h4⟩|⟨w',L',h1,h2,h4⟩|⟨f,args,h1,h2⟩|⟨l,f,t,a,b,h1,h2⟩
  ·exact .inl ⟨v,w',L',h1,h2,h4.trans (kO _ (h3 _))⟩
  ·exact .inr (.inl ⟨w',L',h1,h2,h4.trans (kO _ (h3 _))⟩)
  ·exact .inr (.inr (.inl ⟨f,args,h1,h2.mono fun e w' ⟨v,L',g1,g2,g3⟩=>⟨v,L',g1,g2,g3.trans (kO _ (h3 _))⟩⟩))
  exact .inr (.inr (.inr ⟨l,f,t,a,b,h1,h2.mono fun e w' ⟨v,L',g1,g2,g3⟩=>⟨v,L',g1,g2,g3.trans (kO _ (h3 _))⟩⟩))
 exact .inr ⟨h1,kO _ (h3 _) _ _ h2⟩
theorem Bu {ix:List Nat}(hi: ∀i∈ix,i<As.length)(h:Da ds As ix (fun s' L'=>FF P ops s' L' L' o A) s L):QS P ops (uA ds val ix s) (rY (lq As) val ix L) o A:=fun Z w hw=>by
 obtain ⟨C,h1,h2,h3⟩:=mJ ix _ Z hi hw h;obtain ⟨v,g1,g2,g3⟩:=h1 Z w h2;exact ⟨v,g1,g2,kO _ (h3 _) _ _ g3⟩
theorem EA {X:Cx}{K:K3}{fuel:Nat}{listed:Array Bool}{ix:List Nat}(hi: ∀i∈ix,i<As.length)(h:Da ds As ix (fun s' L'=>xX X ops K fuel listed s' L') s L):xX X ops K fuel listed (uA ds val ix s) (rY (lq As) val ix L):=fun H Ds a w ha hds hw=>by
 obtain ⟨C,h1,h2,h3⟩:=mJ ix _ _ hi hw h;exact h1 H Ds a w ha hds h2
end
theorem gA {s t:bE}(h:ud s t:=by first|exact bH|(repeat (first|exact CO|refine kn rfl ?_))):ud s t:=h
end
section
open Go.RowKit
class Fc (p:Prop):Prop where out:p
class FcA (P:Program) (t f:Nat) (o':outParam Nat):Prop where
  out: ∀b o w,(Instr.fieldAt t (.pointer (some ⟨b,o,none⟩)) f).run P w=.ok (.pointer (some ⟨b,o+o',none⟩)) w
class FcA0 (P:Program) (t f:Nat):Prop where
  out: ∀b o w,(Instr.fieldAt t (.pointer (some ⟨b,o,none⟩)) f).run P w=.ok (.pointer (some ⟨b,o,none⟩)) w
class FcS (P:Program) (t:Nat) (e:outParam Nat):Prop where
  out:P.underlying t=some (.slice e)
class FcG (P:Program) (t:Nat) (m:outParam Nat):Prop where
  out:rp P t m=true
class FcZ (P:Program) (e:Nat) (sz:outParam Nat):Prop where
  out:dJ P e sz=true
def AF:IntKind→IntKind→Bool
  | .i64,.i64=>true
  | .u64,.u64=>true
  | .u8,.u8=>true
  | .i32,.i32=>true
  | .u32,.u32=>true
  | .u16,.u16=>true
  | .i16,.i16=>true
  | .i8,.i8=>true
  |_,_=>false
theorem rh {a b:IntKind}(h:AF a b=true):a=b:=by
  cases a<;>cases b<;>first|rfl|cases h
def Fz (s:bE):Op→Option Value
  | .move x=>bK s x
  | .assign x=>bK s x
  | .unOp .not _ x=>match bK s x with|some (.bool b)=>some (.bool (!b))|_=>none
  | .binOp .eql _ x y _=>match bK s x,bK s y with|some (.int k a),some (.int k' b)=>bif AF k k' then some (.bool (decide (a=b))) else none|_,_=>none
  | .binOp .neq _ x y _=>match bK s x,bK s y with|some (.int k a),some (.int k' b)=>bif AF k k' then some (.bool (!decide (a=b))) else none|_,_=>none
  | .binOp .lss _ x y _=>match bK s x,bK s y with|some (.int k a),some (.int k' b)=>bif AF k k' then some (.bool (decide (a<b))) else none|_,_=>none
  | .binOp .leq _ x y _=>match bK s x,bK s y with|some (.int k a),some (.int k' b)=>bif AF k k' then some (.bool (decide (a≤b))) else none|_,_=>none
  | .binOp .gtr _ x y _=>match bK s x,bK s y with|some (.int k a),some (.int k' b)=>bif AF k k' then some (.bool (decide (b<a))) else none|_,_=>none
  | .binOp .geq _ x y _=>match bK s x,bK s y with|some (.int k a),some (.int k' b)=>bif AF k k' then some (.bool (decide (b≤a))) else none|_,_=>none
  | .pick c x y=>match bK s c with|some (.bool true)=>bK s x|some (.bool false)=>bK s y|_=>none
  | .extract x i=>match bK s x with|some (.tuple vs)=>vs[i]? |_=>none
  | .nilCheck x=>match bK s x with|some (.pointer (some a))=>some (.pointer (some a))|_=>none
  |_=>none
section
variable {P:Program} {s:bE} {L:List Chunk} {d:Option Nat} {ty:TypeId} {pos:String} {af:Array Edge} {gd:Option (Nat×Bool)} {op:Op} {v:Value}
theorem ED (h:Fz s op=some v):Ev P s (fun _=>True) ⟨d,op,ty,pos,af,gd⟩ v:=by
  unfold Fz at h;split at h
  ·exact ax h
  ·exact bz h
  · split at h
    ·cases h;exact rl ‹_›
    ·cases h
  · split at h
    · rename_i k a k' b hx hy
      cases hk:AF k k' with
      |false=>rw [hk] at h;cases h
      |true=>rw [hk] at h;cases rh hk;cases h;exact nc hx hy
    ·cases h
  · split at h
    · rename_i k a k' b hx hy
      cases hk:AF k k' with
      |false=>rw [hk] at h;cases h
      |true=>rw [hk] at h;cases rh hk;cases h;exact D8 hx hy
    ·cases h
  · split at h
    · rename_i k a k' b hx hy
      cases hk:AF k k' with
      |false=>rw [hk] at h;cases h
      |true=>rw [hk] at h;cases rh hk;cases h;exact D9 hx hy
    ·cases h
  · split at h
    · rename_i k a k' b hx hy
      cases hk:AF k k' with
      |false=>rw [hk] at h;cases h
      |true=>rw [hk] at h;cases rh hk;cases h;exact Fa hx hy
    ·cases h
  · split at h
    · rename_i k a k' b hx hy
      cases hk:AF k k' with
      |false=>rw [hk] at h;cases h
      |true=>rw [hk] at h;cases rh hk;cases h;exact BV hx hy
    ·cases h
  · split at h
    · rename_i k a k' b hx hy
      cases hk:AF k k' with
      |false=>rw [hk] at h;cases h
      |true=>rw [hk] at h;cases rh hk;cases h;exact Fb hx hy
    ·cases h
  · split at h
    ·exact vl ‹_› h
    ·exact vm ‹_› h
    ·cases h
  · split at h
    ·exact cn ‹_› h
    ·cases h
  · split at h
    ·cases h;exact ge ‹_›
    ·cases h
  ·cases h
end
structure RunT (X:Cx) (ops:Array Oper) (o:Oper) (rest:List Oper) (K:K3) (s:bE) (L:List Chunk):Prop where
  out:bv ops s o=some true→cW X ops (o::rest) K s L
section
variable {X:Cx} {ops:Array Oper} {K:K3} {s:bE} {L:List Chunk} {l rest:List Oper} {c:Code} {d:Nat} {op:Op} {ty:TypeId} {pos:String} {af:Array Edge} {gd:Option (Nat×Bool)} {v:Value}
theorem FK {o:Oper}(h:RunT X ops o rest K s L)(hg:bv ops s o=some true:=by first|exact rfl|exact aO (by assumption) rfl|exact fW (by assumption) rfl):cW X ops (o::rest) K s L:=h.out hg
theorem FL (k:cW X ops rest K ((d,undef)::s) L)(hg:bv ops s ⟨some d,op,ty,pos,af,gd⟩=some false:=by first|exact rfl|exact cr (by assumption) rfl|exact C8 (by assumption) rfl)(hd:Nat.ble (d+1) X.n=true:=by exact rfl):cW X ops (⟨some d,op,ty,pos,af,gd⟩::rest) K s L:=FI hg hd k
theorem tE (h:Fz s op=some v)(hn:gl ⟨some d,op,ty,pos,af,gd⟩=true)(hd:Nat.ble (d+1) X.n=true)(k:cW X ops rest K ((d,v)::s) L):RunT X ops ⟨some d,op,ty,pos,af,gd⟩ rest K s L:=⟨fun hg=>pU (ED h) hn hg hd k⟩
theorem tP {c x y:Operand}{g:Bool}(hc:bK s c=some (.bool g))(hg:g=true)(hx:bK s x=some v)(hd:Nat.ble (d+1) X.n=true)(k:cW X ops rest K ((d,v)::s) L):RunT X ops ⟨some d,.pick c x y,ty,pos,af,gd⟩ rest K s L:=⟨fun hh=>pU (cC hg hc hx) rfl hh hd k⟩
theorem tQ {c x y:Operand}{g:Bool}(hc:bK s c=some (.bool g))(hg:g=false)(hy:bK s y=some v)(hd:Nat.ble (d+1) X.n=true)(k:cW X ops rest K ((d,v)::s) L):RunT X ops ⟨some d,.pick c x y,ty,pos,af,gd⟩ rest K s L:=⟨fun hh=>pU (cD hg hc hy) rfl hh hd k⟩
theorem FM {t f:Nat}{x:Operand}{b o:Nat}[h:FcA0 X.P t f](hx:bK s x=some (.pointer (some ⟨b,o,none⟩)))(hd:Nat.ble (d+1) X.n=true)(k:cW X ops rest K ((d,.pointer (some ⟨b,o,none⟩))::s) L):RunT X ops ⟨some d,.fieldAddr t x f,ty,pos,af,gd⟩ rest K s L:=⟨fun hh=>pU (jN hx h.out) rfl hh hd k⟩
theorem tF {t f o':Nat}{x:Operand}{b o:Nat}[h:FcA X.P t f o'](hx:bK s x=some (.pointer (some ⟨b,o,none⟩)))(hd:Nat.ble (d+1) X.n=true)(k:cW X ops rest K ((d,.pointer (some ⟨b,o+o',none⟩))::s) L):RunT X ops ⟨some d,.fieldAddr t x f,ty,pos,af,gd⟩ rest K s L:=⟨fun hh=>pU (bQ hx h.out) rfl hh hd k⟩
theorem tB {t bt:TypeId}{x:Operand}{b o:Nat}{cs:List Value}[hu:Fc (gk X.P t=true)](i:Nat)(hi:L[i]? =some (aw b bt cs))(hx:bK s x=some (.pointer (some ⟨b,o,none⟩)))(hc:cs[o]? =some v)(hd:Nat.ble (d+1) X.n=true)(k:cW X ops rest K ((d,v)::s) L):RunT X ops ⟨some d,.load t x,ty,pos,af,gd⟩ rest K s L:=⟨fun hh=>bA (aR i hi hx hu.out hc) rfl hh hd k⟩
theorem Fo (h:cW X ops l K s L):cW X ops l K s L:=h
theorem FP {s2:bE}{L2:List Chunk}(h:cW X ops l (xY s2 L2) s L):cW X ops l (xY s2 L2) s L:=h
theorem FR {o:Oper}{l':List Oper}(hl:l'=o::l)(h:cW X ops (o::l) K s L):cW X ops l' K s L:=hl▸h
theorem FO {l':List Oper}(hl:l'=[])(h:K .normal s L):cW X ops l' K s L:=hl▸mj h
theorem FQ {id:Nat}{g:Operand}{ps:Array Nat}{x y:Code}(h:Wq X (.block id (.rangeFunc g ps x y)) K s L):Wq X (.block id (.rangeFunc g ps x y)) K s L:=h
theorem FN (h:Wq X c K s L):Wq X c K s L:=h
end
structure Bxd (q:Prop):Prop where un:q
theorem V {p q:Prop}(k:q)(h:Bxd q→p:=by
  intro k
  repeat (first
    | (with_reducible refine Fo ?_
       refine FR J ?_
       first
         | (refine FK ?_
            first
              |refine tE rfl rfl rfl ?_
              |refine FM rfl rfl ?_
              |refine tF rfl rfl ?_
              |refine tB 0 rfl rfl rfl rfl ?_
              |refine tB 1 rfl rfl rfl rfl ?_
              |refine tB 2 rfl rfl rfl rfl ?_
              |refine tB 3 rfl rfl rfl rfl ?_
              |refine tB 4 rfl rfl rfl rfl ?_
              |refine tB 5 rfl rfl rfl rfl ?_
              |refine tB 6 rfl rfl rfl rfl ?_
              |refine tB 7 rfl rfl rfl rfl ?_
              |refine tP rfl (by assumption) rfl rfl ?_
              |refine tQ rfl (by assumption) rfl rfl ?_)
         |refine FL ?_)
    | (with_reducible refine Fo ?_
       fail_if_success with_reducible refine FP ?_
       refine FO J ?_)
    | (with_reducible refine FN ?_
       first
         |refine ay (dA ?_)
         |with_reducible refine dA ?_
         |with_reducible refine za ?_
         | (fail_if_success with_reducible refine FQ ?_
            with_reducible refine cQ ?_)
         |with_reducible refine Ei ?_
         |with_reducible refine CC ?_)
    |with_reducible refine jB ?_
    |with_reducible refine DX ?_
    |with_reducible refine Fi ?_
    |with_reducible refine Fh ?_
    |with_reducible refine E6 ?_
    |with_reducible refine E7 ?_)
  exact k.un):p:=h ⟨k⟩
theorem Bk {p q:Prop}(k:q)(h:Bxd q→p:=by
  intro k
  repeat (first
    | (with_reducible refine Fo ?_
       refine FR J ?_
       first
         | (refine FK ?_
            first
              |refine tE rfl rfl rfl ?_
              |refine FM rfl rfl ?_
              |refine tF rfl rfl ?_
              |refine tB 0 rfl rfl rfl rfl ?_
              |refine tB 1 rfl rfl rfl rfl ?_
              |refine tB 2 rfl rfl rfl rfl ?_
              |refine tB 3 rfl rfl rfl rfl ?_
              |refine tB 4 rfl rfl rfl rfl ?_
              |refine tB 5 rfl rfl rfl rfl ?_
              |refine tB 6 rfl rfl rfl rfl ?_
              |refine tB 7 rfl rfl rfl rfl ?_
              |refine tP rfl (by assumption) rfl rfl ?_
              |refine tQ rfl (by assumption) rfl rfl ?_)
         |refine FL ?_))
  exact k.un):p:=h ⟨k⟩
theorem El {p q:Prop}(k:q)(h:Bxd q→p:=by
  intro k
  repeat (first
    | (with_reducible refine Fo ?_
       fail_if_success with_reducible refine FP ?_
       refine FO J ?_)
    | (with_reducible refine FN ?_
       first
         |refine ay (dA ?_)
         |with_reducible refine dA ?_
         |with_reducible refine za ?_
         | (fail_if_success with_reducible refine FQ ?_
            with_reducible refine cQ ?_)
         |with_reducible refine Ei ?_
         |with_reducible refine CC ?_)
    |with_reducible refine jB ?_
    |with_reducible refine DX ?_
    |with_reducible refine Fi ?_
    |with_reducible refine Fh ?_
    |with_reducible refine E6 ?_
    |with_reducible refine E7 ?_)
  exact k.un):p:=h ⟨k⟩
end
section
open Go.RowKit
open Asn
def zf (m:Nat)(listed:Array Bool)(Bs:List (List Chunk)):List Chunk:=((List.range m).filter fun i=> !listed.getD i false).flatMap fun i=>Bs.getD i []
theorem ze {m:Nat}{listed:Array Bool}{Bs:List (List Chunk)}(h: ∀i,i<m→listed.getD i false=true):zf m listed Bs=[]:=by
 unfold zf;rw [List.filter_eq_nil_iff.2 fun i hi=>by rw [h i (List.mem_range.1 hi)];simp];rfl
theorem Bd {m j:Nat}{listed:Array Bool}{Bs:List (List Chunk)}(hj:j<m)(hf:listed.getD j false=false)(hs:j<listed.size):(zf m listed Bs).Perm (Bs.getD j []++zf m (listed.setIfInBounds j true) Bs):=by
 unfold zf
 have hp:((List.range m).filter fun i=> !listed.getD i false).Perm (j::(List.range m).filter fun i=> !(listed.setIfInBounds j true).getD i false):=by
  refine (List.perm_ext_iff_of_nodup (List.nodup_range.filter _) (List.nodup_cons.2 ⟨fun h=> ?_,List.nodup_range.filter _⟩)).2 fun k=> ?_
  ·have h2:=(List.mem_filter.1 h).2;simp [hs] at h2
  rw [List.mem_cons,List.mem_filter,List.mem_filter];by_cases e:k=j
  ·subst e;simp [hj,hf]
  have h3:(listed.setIfInBounds j true).getD k false=listed.getD k false:=by
   simp [Array.getElem?_setIfInBounds_ne (fun h=>e h.symm)]
  rw [h3];simp [e]
 exact hp.flatMap_right _
theorem At {α:Type}{F Fp Fr U B U' L D:List α}(h1:F.Perm (Fp++Fr))(h2:U.Perm (B++U')):(F++(U++L)++D).Perm ((Fp++(B++L))++(Fr++(U'++D))):=by
 classical
 rw [List.perm_iff_count] at h1 h2⊢;intro x;have:=h1 x;have:=h2 x;simp only [List.count_append] at*;omega
theorem Bx {α:Type}{F F' Fp Fr A U L D:List α}(h1:F'.Perm (A++F))(h2:F.Perm (Fp++Fr)):((A++(Fp++L))++(Fr++(U++D))).Perm (F'++(U++L)++D):=by
 classical
 rw [List.perm_iff_count] at h1 h2⊢;intro x;have:=h1 x;have:=h2 x;simp only [List.count_append] at*;omega
theorem D1 {X:Cx}{K:K3}{s:bE}{L:List Chunk}{id:Nat}{l:List Oper}(hm:X.P.follows .mixedOrders=true)(m:Nat)(qs:List Nat)(ds:List Nat)(pr:List (List Nat))(As:List (Value→List Chunk))(Bs:List (List Chunk)){L0:List Chunk}(hL:Cv L0 (zf m (Array.replicate l.length false) Bs++L))(hBq: ∀q∈qs,Bs.getD q []=[])(hok:E5 l.toArray m qs ds pr s X.n=true)
  (qstep: ∀q∈qs, ∀(o:Oper),q<m→l.toArray[q]? =some o→ ∀val:Nat→Value,QS X.P l.toArray (uA ds val (pr.getD q []) s) (rY As val (pr.getD q []) L) o (As.getD q fun _=> []))
  (step: ∀(i:Nat) (o:Oper),i<m→l.toArray[i]? =some o→ ∀val:Nat→Value,AZ X.P l.toArray (uA ds val (pr.getD i []) s) (rY As val (pr.getD i []) (Bs.getD i []++L)) (rY As val (pr.getD i []) L) o (As.getD i fun _=> []))
  (fin: ∀val:Nat→Value,xX X l.toArray K (l.length - m) (kr (Array.replicate l.length false) (List.range m)) (uA ds val (List.range m) s) (rY As val (List.range m) L)):Wq X (.region id l.toArray true) K s L0:=by
 unfold E5 at hok;simp only [Bool.and_eq_true,decide_eq_true_eq,List.all_eq_true,List.mem_range] at hok;obtain ⟨⟨⟨⟨⟨⟨⟨⟨hns,hqs⟩,h1⟩,h2⟩,h3⟩,h4⟩,h5⟩,h6⟩,h7⟩:=hok;simp only [List.size_toArray] at h2 h7 hqs
 have hdst: ∀i o,i<m→l.toArray[i]? =some o→o.dst=some (ds.getD i 0):=fun i o hi ho=>by
  have h8:=(h6 i hi).1.1.1;rw [ho] at h8
  have h9:o.dst=ds[i]? :=by simpa using h8
  rw [h9];simp [List.getD,h3,hi]
 have hds: ∀i j,i<m→j<m→ds.getD i 0=ds.getD j 0→i=j:=fun i j hi hj e=>by
  have e1:ds.getD i 0=ds[i]'Y:=by simp [List.getD,h3,hi]
  have e2:ds.getD j 0=ds[j]'Y:=by simp [List.getD,h3,hj]
  rw [e1,e2] at e;have hp:=List.pairwise_iff_getElem.1 h4;rcases Nat.lt_trichotomy i j with h|h|h
  ·exact absurd e (hp i j Y Y h)
  ·exact h
  exact absurd e.symm (hp j i Y Y h)
 have hdn: ∀i,i<m→ds.getD i 0<X.n∧ ∀k v,eO s k=some v→k≠ds.getD i 0:=fun i hi=>by
  have hmem:ds.getD i 0∈ds:=by
   have e1:ds.getD i 0=ds[i]'Y:=by simp [List.getD,h3,hi]
   rw [e1];exact List.getElem_mem _
  have h8:=h5 _ hmem;refine ⟨Nat.le_of_ble_eq_true h8.1,fun k v hp e=> ?_⟩;have h9:=h8.2 _ (mc _ _ _ hp);simp only [e,Nat.beq_refl] at h9;cases h9
 have hpr: ∀i,i<m→(∀k∈pr.getD i [],k∈qX l.toArray i∧k<m)∧(pr.getD i []).Nodup∧ ∀k∈qr l.toArray i,k<i:=fun i hi=>by
  obtain ⟨⟨⟨-,g2⟩,g3⟩,g4⟩:=h6 i hi;refine ⟨fun k hk=> ?_,g3,fun k hk=> ?_⟩
  ·have g5:=g2 k hk;exact ⟨by simpa using g5.1,Nat.lt_of_succ_le (Nat.le_of_ble_eq_true g5.2)⟩
  exact Nat.lt_of_succ_le (Nat.le_of_ble_eq_true (g4 k hk))
 -- the invariant
 have main: ∀(fuel:Nat) (listed:Array Bool) (val:Nat→Value) (H:List Chunk) (Ds:List Nat) (a:Act) (w:World),listed.size=l.length→sI l.toArray listed→(∀t,m≤t→listed.getD t false=false)→fuel+(ug m listed).length=l.length→Fx X s a→(∀i,i<m→listed.getD i false=true→a.tmps.getD (ds.getD i 0) undef=val i)→a.defers=Ds.map ne→Sp (Ds.map bI++H) (rY As val (ug m listed) (zf m listed Bs++L)) w→wpAnyIn (sw X.r) 0 X.P .any l.toArray (oe X H (pi K)) fuel listed a w:=by
  intro fuel
  induction fuel with
  | zero=>
   intro listed val H Ds a w hsz hcl hhi hfu hfx hval hdf hsp;have hle:(ug m listed).length≤(List.range m).length:=List.length_filter_le _ _
   have hm':m=l.length:=by rw [List.length_range] at hle;omega
   have hlst:ug m listed=List.range m:=List.filter_eq_self.2 fun i hi=>List.length_filter_eq_length_iff.1 (show (ug m listed).length=(List.range m).length by rw [List.length_range];omega) i hi
   have hli:kr (Array.replicate l.length false) (List.range m)=listed:=by
    apply Array.ext
    ·rw [fY];simp [hsz]
    intro k hk hk2;rw [fY] at hk;have e1:=px (List.range m) (Array.replicate l.length false) k hk;simp only [Array.size_replicate] at hk
    have hin:k∈ug m listed:=by rw [hlst];simp;omega
    have e2:=(iI.1 hin).2
    have e3:(List.range m).contains k=true:=by simp;omega
    rw [e3,Bool.or_true] at e1;simp only [Array.getD_eq_getD_getElem?,Array.getElem?_eq_getElem,hk2,Option.getD_some] at e2
    have hk3:k<(kr (Array.replicate l.length false) (List.range m)).size:=by rw [fY];simpa using hk
    simp only [Array.getD_eq_getD_getElem?,Array.getElem?_eq_getElem,hk3,Option.getD_some] at e1;rw [e1,e2]
   have hunl:zf m listed Bs=[]:=ze fun i hi=>(iI.1 (by rw [hlst];exact List.mem_range.2 hi)).2
   rw [hlst,hunl,List.nil_append] at hsp
   have hf:=fin val H Ds a w ⟨hfx.size,fun k v hk=>by
    rcases qw _ _ _ _ hk with h|h
    ·obtain ⟨i,hi,he⟩:=List.mem_map.1 (mc _ _ _ h);cases he
     have hi':i∈ug m listed:=by rw [hlst];exact hi
     exact hval i (iI.1 hi').1 (iI.1 hi').2
    ·exact hfx.at_ k v h⟩ hdf hsp
   rw [hli,show l.length - m=0 by omega] at hf;exact hf
  | succ fuel ih=>
   intro listed val H Ds a w hsz hcl hhi hfu hfx hval hdf hsp;by_cases hall: ∀i,i<m→listed.getD i false=true
   ·have hlst:ug m listed=List.range m:=List.filter_eq_self.2 fun i hi=>hall i (by simpa using hi)
    have hli:kr (Array.replicate l.length false) (List.range m)=listed:=by
     apply Array.ext
     ·rw [fY];simp [hsz]
     intro k hk hk2;rw [fY] at hk;have e1:=px (List.range m) (Array.replicate l.length false) k hk
     have hk3:k<(kr (Array.replicate l.length false) (List.range m)).size:=by rw [fY];exact hk
     simp only [Array.getD_eq_getD_getElem?,Array.getElem?_eq_getElem,hk3,Option.getD_some] at e1;rw [e1];simp only [Array.size_replicate] at hk;by_cases hkm:k<m
     ·have e2:=hall k hkm;simp only [Array.getD_eq_getD_getElem?,Array.getElem?_eq_getElem,hk2,Option.getD_some] at e2;rw [e2];simp [hkm]
     have e2:=hhi k Y;simp only [Array.getD_eq_getD_getElem?,Array.getElem?_eq_getElem,hk2,Option.getD_some] at e2;rw [e2];simp [hk,hkm]
    rw [hlst,ze hall,List.nil_append] at hsp;rw [hlst] at hfu;rw [List.length_range] at hfu
    have hf:=fin val H Ds a w ⟨hfx.size,fun k v hk=>by
     rcases qw _ _ _ _ hk with h|h
     ·obtain ⟨i,hi,he⟩:=List.mem_map.1 (mc _ _ _ h);cases he
      have hi':i<m:=by simpa using hi
      exact hval i hi' (hall i hi')
     ·exact hfx.at_ k v h⟩ hdf hsp
    rw [hli,show l.length - m=fuel+1 by omega] at hf;exact hf
   have hex: ∃i,i<m∧listed.getD i false=false:=by
    refine Classical.byContradiction fun h=>hall fun i hi=> ?_
    cases hb:listed.getD i false with
    |true=>rfl
    |false=>exact absurd ⟨i,hi,hb⟩ h
   have hun: ∀i,listed.getD i false=false→i<l.length→listed.getD i true=false:=fun i hi hlt=>by
    simp only [Array.getD_eq_getD_getElem?,Array.getElem?_eq_getElem,hsz,hlt,Option.getD_some] at hi⊢;exact hi
   have hleast: ∃i0,i0<m∧listed.getD i0 false=false∧i0∈Region.ready .any l.toArray listed:=by
    obtain ⟨⟨hi0,hu0⟩,hmin⟩:=leastOf_spec hex;generalize leastOf (fun i=>i<m∧listed.getD i false=false)=i0 at hi0 hu0 hmin
    have hlt:i0<l.length:=by omega
    refine ⟨i0,hi0,hu0,?_⟩
    
    refine mem_ready.2 ⟨hun i0 hu0 hlt,l[i0],by simp [hlt],fun e he hb=> ?_⟩
    have hon:e.on∈qr l.toArray i0:=by
     unfold qr;rw [show l.toArray[i0]? =some l[i0] by simp [hlt]];exact List.mem_map.2 ⟨e,List.mem_filter.2 ⟨by simpa using he,hb⟩,J⟩
    have hlt2:=(hpr i0 hi0).2.2 _ hon
    cases hb2:listed.getD e.on false with
    |true=>rfl
    |false=>have:=hmin _ ⟨by omega,hb2⟩;omega
   -- what an operation takes,and going on behind it
   have prep: ∀j o,j∈Region.ready .any l.toArray listed→j<m→l.toArray[j]? =some o→ ∃rest:List Nat,
     Sp ((rest.flatMap fun i=>(As.getD i fun _=> []) (val i))++(zf m (listed.setIfInBounds j true) Bs++(Ds.map bI++H))) (rY As val (pr.getD j []) (Bs.getD j []++L)) w∧Fx X (uA ds val (pr.getD j []) s) a∧
     ∀(v:Value) (w':World),Sp ((rest.flatMap fun i=>(As.getD i fun _=> []) (val i))++(zf m (listed.setIfInBounds j true) Bs++(Ds.map bI++H))) ((As.getD j fun _=> []) v++rY As val (pr.getD j []) L) w'→wpAnyIn (sw X.r) 0 X.P .any l.toArray (oe X H (pi K)) fuel (listed.setIfInBounds j true) (a.put o.dst v) w':=by
    intro j o hj hjm ho;obtain ⟨hju,o2,ho2,hedge⟩:=mem_ready.1 hj;rw [ho] at ho2;cases ho2
    have hjl:j<l.length:=by
     have:=(Array.getElem?_eq_some_iff.1 ho).1;simpa using this
    have hjf:listed.getD j false=false:=by
     simp only [Array.getD_eq_getD_getElem?,Array.getElem?_eq_getElem,hsz,hjl,Option.getD_some] at hju⊢;exact hju
    obtain ⟨hp1,hp2,hp3⟩:=hpr j hjm
    have hps: ∀k∈pr.getD j [],k∈ug m listed:=fun k hk=>by
     obtain ⟨g1,g2⟩:=hp1 k hk;exact iI.2 ⟨g2,pA hcl hj (nC k g1)⟩
    have hd:=hdst j o hjm ho;obtain ⟨hdlt,hdne⟩:=hdn j hjm
    -- the chunks that the operation takes,and the rest
    have hperm:(ug m listed).Perm (pr.getD j []++(ug m listed).filter fun k=> !(pr.getD j []).contains k):=by
     refine (List.perm_ext_iff_of_nodup lst_nodup ?_).2 fun k=> ?_
     ·refine List.nodup_append.2 ⟨hp2,lst_nodup.filter _,fun x hx y hy e=> ?_⟩;subst e;have h11:=(List.mem_filter.1 hy).2;have h12:(pr.getD j []).contains x=true:=List.contains_iff_mem.2 hx;rw [h12] at h11;cases h11
     constructor
     ·intro hk;by_cases hkp:k∈pr.getD j []
      ·exact GF _ hkp
      exact GG _ (List.mem_filter.2 ⟨hk,by simpa using hkp⟩)
     intro hk;rcases List.mem_append.1 hk with hk|hk
     ·exact hps k hk
     exact (List.mem_filter.1 hk).1
    generalize hrest:(ug m listed).filter (fun k=> !(pr.getD j []).contains k)=rest at hperm
    have hsp1:Sp ((rest.flatMap fun i=>(As.getD i fun _=> []) (val i))++(zf m (listed.setIfInBounds j true) Bs++(Ds.map bI++H))) (rY As val (pr.getD j []) (Bs.getD j []++L)) w:=by
     refine SepL.perm hsp ?_;unfold rY;have e1:=sF (As:=As) (val:=val) hperm;rw [List.flatMap_append] at e1;have e9:=Bd (Bs:=Bs) (m:=m) (listed:=listed) hjm hjf (by rw [hsz];exact hjl);exact At e1 e9
    have hfxs:Fx X (uA ds val (pr.getD j []) s) a:=⟨hfx.size,fun k v hk=>by
     rcases qw _ _ _ _ hk with h|h
     ·obtain ⟨i,hi,he⟩:=List.mem_map.1 (mc _ _ _ h);cases he;exact hval i (iI.1 (hps i hi)).1 (iI.1 (hps i hi)).2
     ·exact hfx.at_ k v h⟩
    refine ⟨rest,hsp1,hfxs,?_⟩
    have go: ∀(v:Value) (w':World),Sp ((rest.flatMap fun i=>(As.getD i fun _=> []) (val i))++(zf m (listed.setIfInBounds j true) Bs++(Ds.map bI++H))) ((As.getD j fun _=> []) v++rY As val (pr.getD j []) L) w'→wpAnyIn (sw X.r) 0 X.P .any l.toArray (oe X H (pi K)) fuel (listed.setIfInBounds j true) (a.put o.dst v) w':=by
     intro v w' hsp2;rw [hd]
     have hjn:j∉ug m listed:=fun h=>by have:=(iI.1 h).2;rw [hjf] at this;cases this
     have hl2:(ug m (listed.setIfInBounds j true)).Perm (j::ug m listed):=by
      refine (List.perm_ext_iff_of_nodup lst_nodup (List.nodup_cons.2 ⟨hjn,lst_nodup⟩)).2 fun k=> ?_
      rw [iI,List.mem_cons,iI];constructor
      ·rintro ⟨g1,g2⟩;rcases kJ g2 with e|e
       ·exact .inl e
       exact .inr ⟨g1,e⟩
      rintro (e|⟨g1,g2⟩)
      ·subst e;refine ⟨hjm,?_⟩;simp [hsz,hjl]
      exact ⟨g1,getD_set_true g2⟩
     refine ih (listed.setIfInBounds j true) (fun k=>if k=j then v else val k) H Ds (a.put (some (ds.getD j 0)) v) w' (by simpa using hsz) (yK hcl hj) (fun t ht=> ?_) ?_ ?_ ?_ ((put_defers _ _ _).trans hdf) ?_
     ·rw [getD_set_ne false Y];exact hhi t ht
     ·have:=hl2.length_eq;rw [List.length_cons] at this;omega
     ·refine (hfx.put v hdlt).sub fun k u hk=> ?_
      rw [fa,if_neg (fun e=>hdne k u hk e.symm)];exact hk
     ·intro i hi hli;have hput:(a.put (some (ds.getD j 0)) v).tmps=a.tmps.setIfInBounds (ds.getD j 0) v:=rfl;rw [hput];by_cases e:i=j
      ·subst e;rw [if_pos rfl]
       have h13:ds.getD i 0<a.tmps.size:=by rw [hfx.size];exact hdlt
       generalize ds.getD i 0=dd at h13⊢;simp [h13]
      rw [if_neg e];rcases kJ hli with e2|e2
      ·exact absurd e2 e
      rw [←hval i hi e2]
      have hne:ds.getD j 0≠ds.getD i 0:=fun h=>e (hds j i hjm hi h).symm
      generalize ds.getD j 0=dd at hne⊢;generalize ds.getD i 0=de at hne⊢;simp [Array.getElem?_setIfInBounds_ne hne]
     refine SepL.perm hsp2 ?_;unfold rY;have e1:=sF (As:=As) (val:=fun k=>if k=j then v else val k) hl2;rw [List.flatMap_cons,if_pos rfl] at e1
     have e2:((ug m listed).flatMap fun i=>(As.getD i fun _=> []) (if i=j then v else val i))=(ug m listed).flatMap fun i=>(As.getD i fun _=> []) (val i):=by
      have key: ∀l':List Nat,(∀i∈l',i∈ug m listed)→(l'.flatMap fun i=>(As.getD i fun _=> []) (if i=j then v else val i))=l'.flatMap fun i=>(As.getD i fun _=> []) (val i):=by
       intro l'
       induction l' with
       |nil=>intro _;rfl
       |cons i l' ihl=>
        intro hl';rw [List.flatMap_cons,List.flatMap_cons,ihl fun q hq=>hl' q (by simp [hq]),if_neg (fun e:i=j=>hjn (e▸hl' i (by simp)))]
      exact key _ fun _ h=>h
     rw [e2] at e1;have e3:=sF (As:=As) (val:=val) hperm;rw [List.flatMap_append] at e3;exact Bx e1 e3
    exact go
   by_cases hq: ∃q∈qs,q<m∧q∈Region.ready .any l.toArray listed
   ·-- an operation whose value does not depend on the world comes first
    obtain ⟨q,hqm,hqlt,hqr⟩:=hq;obtain ⟨hqu,o,ho,hedge⟩:=mem_ready.1 hqr;obtain ⟨rest,hsp1,hfxs,go⟩:=prep q o hqr hqlt ho;rw [hBq q hqm,List.nil_append] at hsp1;obtain ⟨v,hg,hev,hcv⟩:=qstep q hqm o hqlt ho val _ _ hsp1;have hfree:=hqs q hqm;rw [ho] at hfree;simp only [List.all_eq_true,List.mem_range] at hfree;refine pW _ _ _ _ (pp (C:=fun _=>True) (oi:=o) (v:=v) ho (oB h1) (Region.noSelect_spec hns) (fun c a w ⟨_,_,_,_,_,_,he,_⟩=>(by cases he)) fuel listed a w trivial ?_ hqr (.inl ⟨cZ hfxs hg,fun w' _=>hev a.eval (fun x u hx=>hfxs.eval hx) w' trivial⟩) (Cr _ _ _ _ (go v w hcv)));intro j oj hoj hne hul hno
    have hjl:j<l.length:=by
     have:=(Array.getElem?_eq_some_iff.1 hoj).1;simpa using this
    have h8:=hfree j hjl;rw [hoj] at h8;simp only [Bool.or_eq_true] at h8;rcases h8 with ((h8|h8)|h8)|h8
    ·exact absurd (Nat.eq_of_beq_eq_true h8) hne
    ·obtain ⟨o',e,ho',he,hb,heq⟩:=tC (List.contains_iff_mem.1 h8);rw [hoj] at ho';cases ho';exact absurd heq (hno e he hb)
    ·have h14:=pA hcl hqr (nC j (List.contains_iff_mem.1 h8));simp only [Array.getD_eq_getD_getElem?,Array.getElem?_eq_getElem,hsz,hjl,Option.getD_some] at h14 hul;rw [h14] at hul;cases hul
    exact h8
   refine ⟨fun hr=> ?_,fun j hj=> ?_⟩
   ·obtain ⟨i0, -, -,hin⟩:=hleast;rw [hr] at hin;cases hin
   obtain ⟨hju,o,ho,hedge⟩:=mem_ready.1 hj
   have hjl:j<l.length:=by
    have:=(Array.getElem?_eq_some_iff.1 ho).1;simpa using this
   have hjm:j<m:=by
    refine Classical.byContradiction fun hge=> ?_
    obtain ⟨i0,hi0,hu0,hin0⟩:=hleast;have h8:=h7 j hjl
    have h9:Nat.blt j m=false:=by
     cases hb:Nat.blt j m with
     |false=>rfl
     |true=>exact absurd (Nat.lt_of_succ_le (Nat.le_of_ble_eq_true hb)) hge
    rw [h9,Bool.false_or,List.all_eq_true] at h8;have h10:=h8 i0 (by simpa using hi0);rw [Bool.or_eq_true] at h10;rcases h10 with h10|h10
    ·exact hq ⟨i0,List.contains_iff_mem.1 h10,hi0,hin0⟩
    have:=pA hcl hj (nC i0 (by simpa using h10));rw [hu0] at this;cases this
   have hndef:gl o=true:=oB h1 j o ho;obtain ⟨rest,hsp1,hfxs,go⟩:=prep j o hj hjm ho;unfold wpOpIn;rw [ho]
   dsimp only
   rcases step j o hjm ho val _ _ hsp1 with ⟨hg,hop⟩|⟨hg,hsp2⟩
   ·rw [if_pos (cZ hfxs hg)]
    refine (hop a.eval fun x u hx=>hfxs.eval hx).wpIn hndef fun v L' w' hc hs=> ?_
    exact go v w' (hc _ _ hs)
   rw [if_neg (by rw [cZ hfxs hg];exact Bool.false_ne_true)];exact ⟨fun _ _=>trivial,go undef w hsp2⟩
 intro H Ds a w ha hds' hw;have hw1:Sp (Ds.map bI++H) (zf m (Array.replicate l.length false) Bs++L) {w with drawn:=w.drawn+1}:=SepL.same (hL _ _ hw) ⟨rfl,rfl,rfl,Nat.le_refl _,fun _ _ _=>rfl⟩
 have hf: ∀k,(Array.replicate l.length false).getD k false=false:=fun k=>by
  simp only [Array.getD_eq_getD_getElem?,Array.getElem?_replicate];split<;>rfl
 have hl0:ug m (Array.replicate l.length false)=[]:=by
  refine List.eq_nil_iff_forall_not_mem.2 fun i hi=> ?_
  have:=(iI.1 hi).2;rw [hf] at this;cases this
 have h9:=main l.length (Array.replicate l.length false) (fun _=>undef) H Ds a _ (by simp) (fun k o e hk=>by rw [hf] at hk;cases hk) (fun t _=>hf t) (by rw [hl0];simp) ha (fun i _ hi=>by rw [hf] at hi;cases hi) hds' (by rw [hl0];exact hw1);refine wpIn_mono (wpIn_region_any hm (by simpa using h9)) ?_;rintro e a' w' ⟨s',L',Ds',g1,g2,g3,rfl,g4⟩;exact ⟨s',L',Ds',g1,g2,g3,g4⟩
theorem gu {Bs:List (List Chunk)}: ∀q∈([]:List Nat),Bs.getD q []=[]:=fun _ h=>nomatch h
theorem lm {Bs:List (List Chunk)}{q':Nat}{qs:List Nat}(h:Bs.getD q' []=[])(t: ∀q∈qs,Bs.getD q []=[]): ∀q∈q'::qs,Bs.getD q []=[]:=fun q hq=>(List.mem_cons.1 hq).elim (fun e=>e▸h) (t q)
theorem tI {ds:List Nat}{val:Nat→Value}{s:bE}: ∀(l:List Nat),(∀i∈l, ∀j∈l,ds.getD i 0=ds.getD j 0→i=j)→ ∀i∈l,eO (l.map (fun i=>(ds.getD i 0,val i))++s) (ds.getD i 0)=some (val i)
 | [],_,i,h=>by cases h
 |j::l,hd,i,h=>by
  rw [List.map_cons,List.cons_append,fa];by_cases e:ds.getD j 0=ds.getD i 0
  ·rw [if_pos e,hd j (by simp) i h e]
  rw [if_neg e];rcases List.mem_cons.1 h with e2|h
  ·subst e2;exact absurd J e
  exact tI l (fun a ha b hb=>hd a (by simp [ha]) b (by simp [hb])) i h
theorem rf {ds:List Nat}{val:Nat→Value}{s:bE}{k:Nat}: ∀(l:List Nat),(∀i∈l,ds.getD i 0≠k)→eO (l.map (fun i=>(ds.getD i 0,val i))++s) k=eO s k
 | [],_=>rfl
 |j::l,hd=>by
  rw [List.map_cons,List.cons_append,fa,if_neg (hd j (by simp))]
  exact rf l fun i hi=>hd i (by simp [hi])
theorem Ca {As:List (Value→List Chunk)}{val:Nat→Value}{L:List Chunk}{m:Nat}{ix:List Nat}(hn:ix.Nodup)(hm: ∀i∈ix,i<m):Cv (rY As val (List.range m) L) (rY As val ix L):=by
 have hp:(List.range m).Perm (((List.range m).filter fun i=> !ix.contains i)++ix):=by
  refine (List.perm_ext_iff_of_nodup List.nodup_range ?_).2 fun k=> ?_
  ·refine List.nodup_append.2 ⟨List.nodup_range.filter _,hn,fun x hx y hy e=> ?_⟩;subst e;have h1:=(List.mem_filter.1 hx).2;rw [List.contains_iff_mem.2 hy] at h1;cases h1
  rw [List.mem_append,List.mem_filter,List.mem_range];by_cases h:k∈ix
  ·simp [h,hm k h]
  simp [h]
 have e:=sF (As:=As) (val:=val) hp;rw [List.flatMap_append] at e;unfold rY;refine Cv.trans (fun Z w h=>SepL.perm h ((e.append_right L).append_right Z)) ?_;rw [GE];exact xJ _
theorem eR {X:Cx}{K:K3}{s:bE}{L L0:List Chunk}{id:Nat}{l:List Oper}(hm:X.P.follows .mixedOrders=true)(m:Nat)(qs:List Nat)(ix:List Nat)(ds:List Nat)(pr:List (List Nat))(As:List Asn)(Bs:List (List Chunk))(hL:Cv L0 (zf m (Array.replicate l.length false) Bs++L))(hBq: ∀q∈qs,Bs.getD q []=[])(hok:E5 l.toArray m qs ds pr s X.n=true)(hlen:Nat.beq As.length m=true)(hix:(ix.all (fun i=>Nat.blt i m)&&decide ix.Nodup)=true)
  (qstep: ∀q∈qs, ∀(o:Oper),q<m→l.toArray[q]? =some o→Da ds As (pr.getD q []) (fun s' L'=>FF X.P l.toArray s' L' L' o (As.getD q (aV undef)).full) s L)
  (step: ∀(i:Nat) (o:Oper),i<m→l.toArray[i]? =some o→xA ds As (pr.getD i []) (fun s' L' L''=>AZ X.P l.toArray s' L' L'' o (As.getD i (aV undef)).full) s (Bs.getD i []++L) L)
  (fin:Da ds As ix (fun s' L'=>xX X l.toArray K (l.length - m) (kr (Array.replicate l.length false) (List.range m)) s' L') s L):Wq X (.region id l.toArray true) K s L0:=by
 have hl:As.length=m:=Nat.eq_of_beq_eq_true hlen
 have hpr: ∀i,i<m→ ∀k∈pr.getD i [],k<As.length:=fun i hi k hk=>by
  unfold E5 at hok;simp only [Bool.and_eq_true,List.all_eq_true,List.mem_range] at hok;have h6:=(hok.1.2 i hi).1.1.2 k hk;have h7:=Nat.le_of_ble_eq_true h6.2;omega
 simp only [Bool.and_eq_true,List.all_eq_true,decide_eq_true_eq] at hix
 have hixm: ∀i∈ix,i<m:=fun i hi=>Nat.lt_of_succ_le (Nat.le_of_ble_eq_true (hix.1 i hi))
 have hds:(∀i j,i<m→j<m→ds.getD i 0=ds.getD j 0→i=j)∧ ∀i,i<m→ ∀k v,eO s k=some v→k≠ds.getD i 0:=by
  have hok2:=hok;unfold E5 at hok2;simp only [Bool.and_eq_true,decide_eq_true_eq,List.all_eq_true,List.mem_range] at hok2;obtain ⟨⟨⟨⟨⟨⟨⟨⟨-, -⟩, -⟩, -⟩,h3⟩,h4⟩,h5⟩, -⟩, -⟩:=hok2;refine ⟨fun i j hi hj e=> ?_,fun i hi k v hp e=> ?_⟩
  ·have e1:ds.getD i 0=ds[i]'Y:=by simp [List.getD,h3,hi]
   have e2:ds.getD j 0=ds[j]'Y:=by simp [List.getD,h3,hj]
   rw [e1,e2] at e;have hp:=List.pairwise_iff_getElem.1 h4;rcases Nat.lt_trichotomy i j with h|h|h
   ·exact absurd e (hp i j Y Y h)
   ·exact h
   exact absurd e.symm (hp j i Y Y h)
  have hmem:ds.getD i 0∈ds:=by
   have e1:ds.getD i 0=ds[i]'Y:=by simp [List.getD,h3,hi]
   rw [e1];exact List.getElem_mem _
  have h9:=(h5 _ hmem).2 _ (mc _ _ _ hp);simp only [e,Nat.beq_refl] at h9;cases h9
 refine D1 hm m qs ds pr (lq As) Bs hL hBq hok (fun q hq o hqm ho val=> ?_) (fun i o him ho val=> ?_) fun val=> ?_
 ·rw [ri _ _ Y];exact Bu (hpr q hqm) (qstep q hq o hqm ho)
 ·rw [ri _ _ Y];exact Bg (hpr i him) (step i o him ho)
 refine gP (EA (fun i hi=>by have:=hixm i hi;omega) fin) (fun k v hk=> ?_) (Ca hix.2 hixm);unfold uA at hk⊢;by_cases hex: ∃i∈ix,ds.getD i 0=k
 ·obtain ⟨i,hi,rfl⟩:=hex;rw [tI ix (fun a ha b hb e=>hds.1 a b (hixm a ha) (hixm b hb) e) i hi] at hk;rw [tI (List.range m) (fun a ha b hb e=>hds.1 a b (List.mem_range.1 ha) (List.mem_range.1 hb) e) i (List.mem_range.2 (hixm i hi))];exact hk
 rw [rf ix fun i hi e=>hex ⟨i,hi,e⟩] at hk;rw [rf (List.range m) fun i hi e=>hds.2 i (List.mem_range.1 hi) k v hk e.symm];exact hk
section
variable {P:Program} {s:bE} {C:World→Prop} {d:Option Nat} {ty:TypeId} {pos:String} {af:Array Edge} {gd:Option (Nat×Bool)}
end
end
section
open Go.RowKit
def FZ (e:TypeId)(sz:Nat)(v:Value):Chunk where
 ok T _ w:= ∃g n cap cur,v=.slice (some ⟨g,0,none⟩) n cap∧T g∧w.heap[g]? =some (.cells cur e (0,0))∧n≤cap∧cap≤maxLen∧cur.size=cap*sz
 loc:=fun h ⟨g,n,cap,cur,e1,h1,h2,h3⟩=>⟨g,n,cap,cur,e1,h1,Blk.agr (t:=e) h2 h (.inl h1),h3⟩
 mono:=fun _ h=>h
 ro:=false
 dup:=fun h=>Bool.noConfusion h
section
variable {P:Program} {s:bE} {L:List Chunk} {d:Option Nat} {ty:TypeId} {pos:String} {af:Array Edge} {gd:Option (Nat×Bool)}
end
def Wr (X:Cx)(c:Code)(K:K3)(m:Nat)(s:bE)(L:List Chunk):Prop:= ∀(H:List Chunk) (Ds:List Nat) (a:Act) (w:World),Fx X s a→a.defers=Ds.map ne→Sp (Ds.map bI++H) L w→Code.roundsIn (sw X.r) 0 X.P c (oe X H K) m a w
section
variable {X:Cx} {K:K3} {s:bE} {L:List Chunk}
end
end
section
open Go.RowKit
def EV (s:bE):List Nat→bE→Prop
 |_,[]=>True
 |ks,(d,v)::t=>(eO s d=some v∨ks.contains d=true)∧EV s (d::ks) t
theorem wW {s:bE}: ∀{t:bE} {ks:List Nat},EV s ks t→ ∀k v,ks.contains k=false→eO t k=some v→eO s k=some v
 | [],_,_=>fun _ _ _ h=>by cases h
 |(d,u)::t,ks,h=>fun k v hk hl=>by
  rw [fa] at hl;by_cases e:d=k
  ·subst e;rw [if_pos rfl] at hl;cases hl;rcases h.1 with h1|h1
   ·exact h1
   rw [hk] at h1;cases h1
  rw [if_neg e] at hl;exact wW h.2 k v (by simp only [List.contains_cons,Bool.or_eq_false_iff];exact ⟨by simpa using fun h=>e h.symm,hk⟩) hl
theorem sA {s t:bE}(h:EV s [] t:=by repeat (first|exact trivial|refine ⟨.inl rfl,?_⟩|refine ⟨.inr rfl,?_⟩)):ud s t:=fun k v hl=>wW h k v rfl hl
section
variable {X:Cx} {ops:Array Oper} {K:K3} {s:bE} {L:List Chunk} {rest:List Oper} {d:Nat} {op:Op} {ty:TypeId} {pos:String} {af:Array Edge} {gd:Option (Nat×Bool)}
theorem gD {R:Value→List Chunk→Prop}(h:OpX X.P s L ⟨some d,op,ty,pos,af,gd⟩ R)(k: ∀v L',R v L'→cW X ops rest K ((d,v)::s) L')(hn:gl ⟨some d,op,ty,pos,af,gd⟩=true:=by rfl)(hg:bv ops s ⟨some d,op,ty,pos,af,gd⟩=some true:=by rfl)(hd:Nat.ble (d+1) X.n=true:=by rfl):cW X ops (⟨some d,op,ty,pos,af,gd⟩::rest) K s L:=ca h hn hg hd k
theorem gO {R:Value→List Chunk→Prop}(h:OpX X.P s L ⟨none,op,ty,pos,af,gd⟩ R)(k: ∀v L',R v L'→cW X ops rest K s L')(hn:gl ⟨none,op,ty,pos,af,gd⟩=true:=by rfl)(hg:bv ops s ⟨none,op,ty,pos,af,gd⟩=some true:=by rfl):cW X ops (⟨none,op,ty,pos,af,gd⟩::rest) K s L:=Fn h hn hg k
theorem gE {v:Value}(h:Ev X.P s (fun _=>True) ⟨some d,op,ty,pos,af,gd⟩ v)(k:cW X ops rest K ((d,v)::s) L)(hn:gl ⟨some d,op,ty,pos,af,gd⟩=true:=by rfl)(hg:bv ops s ⟨some d,op,ty,pos,af,gd⟩=some true:=by rfl)(hd:Nat.ble (d+1) X.n=true:=by rfl):cW X ops (⟨some d,op,ty,pos,af,gd⟩::rest) K s L:=pU h hn hg hd k
theorem gR {v:Value}(h:Rd X.P s L ⟨some d,op,ty,pos,af,gd⟩ v)(k:cW X ops rest K ((d,v)::s) L)(hn:gl ⟨some d,op,ty,pos,af,gd⟩=true:=by rfl)(hg:bv ops s ⟨some d,op,ty,pos,af,gd⟩=some true:=by rfl)(hd:Nat.ble (d+1) X.n=true:=by rfl):cW X ops (⟨some d,op,ty,pos,af,gd⟩::rest) K s L:=bA h hn hg hd k
end
abbrev iV (z:Int):Value:=.int .i64 z
abbrev pV (b o:Nat):Value:=.pointer (some ⟨b,o,none⟩)
theorem yG {L':List Chunk}(h:L'=[]):L'=[]:=h
theorem wr {L' t T:List Chunk}{a:Chunk}(h:L'=a::t)(k:t=T):L'=a::T:=k▸h
theorem bX {X:Cx}{ops:Array Oper}{K:K3}{s:bE}{L' L:List Chunk}{l:List Oper}(k:cW X ops l K s L)(h:L'=L:=by repeat (first|exact yG rfl|apply wr rfl|exact rfl)):cW X ops l K s L':=h▸k
theorem sN {X:Cx}{K:K3}{s:bE}{L' L:List Chunk}{c:Code}(k:Wq X c K s L)(h:L'=L:=by repeat (first|exact yG rfl|apply wr rfl|exact rfl)):Wq X c K s L':=h▸k
theorem qu {X:Cx}{ops:Array Oper}{K:K3}{fuel:Nat}{listed:Array Bool}{s:bE}{L' L:List Chunk}(k:xX X ops K fuel listed s L)(h:L'=L:=by repeat (first|exact yG rfl|apply wr rfl|exact rfl)):xX X ops K fuel listed s L':=h▸k
theorem gX {P:List Chunk→Prop}{L M:List Chunk}(h:Cv L M)(k:P M): ∃M',Cv L M'∧Cv M' M∧P M':=⟨M,h,ab _,k⟩
theorem cS {L:List Chunk}(ix:List Nat)(k:Nat)(hk:wc ix k=true:=by exact rfl)(hl:Nat.ble k L.length=true:=by exact rfl):Cv L (sT ix k L):=yH ix k hk hl
section
variable {X:Cx} {ops:Array Oper} {K:K3} {s:bE} {L M:List Chunk} {fuel:Nat} {listed:Array Bool} {d:Nat} {op:Op} {ty:TypeId} {pos:String} {af:Array Edge} {gd:Option (Nat×Bool)}
theorem zE (i:Nat){v:Value}(hi:ops[i]? =some ⟨some d,op,ty,pos,af,gd⟩)(h:Ev X.P s (fun _=>True) ⟨some d,op,ty,pos,af,gd⟩ v)(k:lQ X ops K M fuel (listed.setIfInBounds i true) ((d,v)::s) L)(hk:Ep ops listed i=true:=by kernel_rfl)(hg:bv ops s ⟨some d,op,ty,pos,af,gd⟩=some true:=by exact rfl)(hd:Nat.ble (d+1) X.n=true:=by exact rfl):lQ X ops K M (fuel+1) listed s L:=mi i hi hk h hg hd k
theorem zR (i:Nat){v:Value}(hi:ops[i]? =some ⟨some d,op,ty,pos,af,gd⟩)(h:Rd X.P s M ⟨some d,op,ty,pos,af,gd⟩ v)(k:lQ X ops K M fuel (listed.setIfInBounds i true) ((d,v)::s) L)(hk:Ep ops listed i=true:=by kernel_rfl)(hg:bv ops s ⟨some d,op,ty,pos,af,gd⟩=some true:=by exact rfl)(hd:Nat.ble (d+1) X.n=true:=by exact rfl):lQ X ops K M (fuel+1) listed s L:=qQ i hi hk h hg hd k
theorem zD (i:Nat){R:Value→List Chunk→Prop}(hi:ops[i]? =some ⟨some d,op,ty,pos,af,gd⟩)(h:OpX X.P s L ⟨some d,op,ty,pos,af,gd⟩ R)(k: ∀v L',R v L'→ ∃M',Cv L' M'∧Cv M' M∧lQ X ops K M' fuel (listed.setIfInBounds i true) ((d,v)::s) L')(hr:Region.ready .any ops listed=[i]:=by kernel_rfl)(hn:gl ⟨some d,op,ty,pos,af,gd⟩=true:=by exact rfl)(hg:bv ops s ⟨some d,op,ty,pos,af,gd⟩=some true:=by exact rfl)(hd:Nat.ble (d+1) X.n=true:=by exact rfl):lQ X ops K M (fuel+1) listed s L:=Cy i hi hr h hn hg hd k
theorem zO (i:Nat){R:Value→List Chunk→Prop}(hi:ops[i]? =some ⟨none,op,ty,pos,af,gd⟩)(h:OpX X.P s L ⟨none,op,ty,pos,af,gd⟩ R)(k: ∀v L',R v L'→ ∃M',Cv L' M'∧Cv M' M∧lQ X ops K M' fuel (listed.setIfInBounds i true) s L')(hr:Region.ready .any ops listed=[i]:=by kernel_rfl)(hn:gl ⟨none,op,ty,pos,af,gd⟩=true:=by exact rfl)(hg:bv ops s ⟨none,op,ty,pos,af,gd⟩=some true:=by exact rfl):lQ X ops K M (fuel+1) listed s L:=ES i hi hr h hn hg k
end
end
section
open Go.RowKit
abbrev F8 {α β:Type}(f:α→Prop)(g:β→Prop)(r:α ⊕ β):Prop:=match r with
 | .inl a=>f a
 | .inr b=>g b
def F9 {α β γ:Type}(s:α ⊕ β)(f:α→γ)(g:β→γ):γ:=match s with
 | .inl a=>f a
 | .inr b=>g b
theorem ownsX.base {w:World}{e:TypeId}{sz:Nat}{A:Option Addr}{n c:Nat}{cs:List Value}(h:ownsX w e sz (.slice A n c) n cs)(hv:(Value.slice A n c)≠ I none 0 0): ∃c0,w.ownsRow 0 e sz (.slice A n c0) n cs∧(Value.slice A n c0)≠ I none 0 0∧(c=c0∨c=n∧n≤c0):=by
 rcases h.2 with ⟨e1, -⟩|⟨g,cap,cur,e1,p1,p2,p3,p4,p5,p6⟩
 ·exact absurd e1 hv
 injection e1 with e1 _ e3
 subst e1 e3;rcases p5 with p5|⟨rfl,c0,q1,q2,q3⟩
 ·exact ⟨c,⟨h.1,.inr ⟨g,c,cur,J,p1,p2,p3,p4,p5,p6⟩⟩,by simp,.inl rfl⟩
 exact ⟨c0,⟨h.1,.inr ⟨g,c0,cur,J,p1,p2,q1,q2,q3,p6⟩⟩,by simp,.inr ⟨rfl,q1⟩⟩
theorem ownsX.recap {w:World}{e:TypeId}{sz:Nat}{A:Option Addr}{n c c0:Nat}{cs:List Value}(h:w.ownsRow 0 e sz (.slice A n c0) n cs)(hv:(Value.slice A n c0)≠ I none 0 0)(hc:c=c0∨c=n∧n≤c0):ownsX w e sz (.slice A n c) n cs:=by
 rcases hc with rfl|⟨rfl,h1⟩
 ·exact .of h
 rcases h.2 with ⟨e1, -⟩|⟨g,cap,cur,e1,p1,p2,p3,p4,p5,p6⟩
 ·exact absurd e1 hv
 injection e1 with e1 _ e3
 subst e1 e3;exact ⟨h.1,.inr ⟨g,c,cur,J,p1,p2,Nat.le_refl _,Nat.le_trans h1 p4,.inr ⟨J,c0,h1,p4,p5⟩,p6⟩⟩
def F0 (w0:World)(X:Nat→Prop):Chunk where
 ok _ S w:=Agr X w0 w∧ ∀q,X q→S q
 loc:=fun h ⟨h1,h2⟩=>⟨h1.trans (h.mono fun q hq=> .inr (h2 q hq)),h2⟩
 mono:=fun hs ⟨h1,h2⟩=>⟨h1,fun q hq=>hs q (h2 q hq)⟩
 ro:=true
 dup:=fun _ _ _ _ h=>h
def FX (L:List Chunk)(n:Nat)(c:Chunk):Prop:= ∀(T:Nat→Nat→Prop) (S:Nat→Prop) (w:World),(∀(i:Nat) (c:Chunk),L[i]? =some c→c.ok (T i) S w)→c.ok (fun _=>False) (fun q=>S q∨ ∃j,n≤j∧T j q) w
section
variable {L:List Chunk} {n i:Nat}
end
end
end Go.Proofs.YtmimkglhbmcokaaGreat
namespace Go.Proofs
open Go.Shelf
def Tryz.lays128_ren:Go.Shelf.Ren:=⟨fun|128=>237|n=>n,fun|51=>220|3=>3|4=>4|46=>187|5=>5|9=>9|n=>n,fun|n=>n⟩
theorem Tryz.lays128:Go.Proofs.Lays.n128 Tryz.prog Tryz.lays128_ren:={
 mixed:=by kernel_rfl
 f128:=Tryz.func237.trans (congrArg some (by kernel_rfl))
 t3:=Tryz.underlying3
 a3:=Tryz.isAgg3
 z3:=Tryz.sizeOf3
 v3:=Tryz.zeroValue3
 t4:=Tryz.underlying4
 a4:=Tryz.isAgg4
 z4:=Tryz.sizeOf4
 v4:=Tryz.zeroValue4
 t5:=Tryz.underlying5
 a5:=Tryz.isAgg5
 z5:=Tryz.sizeOf5
 v5:=Tryz.zeroValue5
 t9:=Tryz.underlying9
 a9:=Tryz.isAgg9
 z9:=Tryz.sizeOf9
 v9:=Tryz.zeroValue9
 t46:=Tryz.underlying187
 a46:=Tryz.isAgg187
 z46:=Tryz.sizeOf187
 v46:=Tryz.zeroValue187
 t51:=Tryz.underlying220
 a51:=Tryz.isAgg220
 z51:=Tryz.sizeOf220
 v51:=Tryz.zeroValue220}
theorem Tryz.bits_Len32 (x:Int)(w:World)(h0:0≤x)(h1:x≤4294967295):
  Calls Tryz.prog 237 #[.int .u32 x] w fun e w'=>e=.returned (.int .i64 (Lib.bitLen x.toNat))∧w'=w:=Any.bits_Len32 Tryz.lays128 x w h0 h1
def Tryz.lays125_ren:Go.Shelf.Ren:=⟨fun|125=>180|128=>237|129=>238|n=>n,fun|46=>187|3=>3|51=>220|53=>222|4=>4|5=>5|9=>9|n=>n,fun|n=>n⟩
theorem Tryz.lays125:Go.Proofs.Lays.n125 Tryz.prog Tryz.lays125_ren:={
 mixed:=by kernel_rfl
 f125:=Tryz.func180.trans (congrArg some (by kernel_rfl))
 f128:=Tryz.func237.trans (congrArg some (by kernel_rfl))
 f129:=Tryz.func238.trans (congrArg some (by kernel_rfl))
 t3:=Tryz.underlying3
 a3:=Tryz.isAgg3
 z3:=Tryz.sizeOf3
 v3:=Tryz.zeroValue3
 t4:=Tryz.underlying4
 a4:=Tryz.isAgg4
 z4:=Tryz.sizeOf4
 v4:=Tryz.zeroValue4
 t5:=Tryz.underlying5
 a5:=Tryz.isAgg5
 z5:=Tryz.sizeOf5
 v5:=Tryz.zeroValue5
 t9:=Tryz.underlying9
 a9:=Tryz.isAgg9
 z9:=Tryz.sizeOf9
 v9:=Tryz.zeroValue9
 t46:=Tryz.underlying187
 a46:=Tryz.isAgg187
 z46:=Tryz.sizeOf187
 v46:=Tryz.zeroValue187
 t51:=Tryz.underlying220
 a51:=Tryz.isAgg220
 z51:=Tryz.sizeOf220
 v51:=Tryz.zeroValue220
 t53:=Tryz.underlying222
 a53:=Tryz.isAgg222
 z53:=Tryz.sizeOf222
 v53:=Tryz.zeroValue222}
theorem Tryz.bits_Len (x:Int)(w:World)(h0:0≤x)(h1:x≤18446744073709551615):
  Calls Tryz.prog 180 #[.int .u64 x] w fun e w'=>e=.returned (.int .i64 (Lib.bitLen x.toNat))∧w'=w:=Any.bits_Len Tryz.lays125 x w h0 h1
def Tryz.lays215_ren:Go.Shelf.Ren:=⟨fun|215=>254|n=>n,fun|3=>3|4=>4|n=>n,fun|n=>n⟩
theorem Tryz.lays215:Go.Proofs.Lays.n215 Tryz.prog Tryz.lays215_ren:={
 mixed:=by kernel_rfl
 f215:=Tryz.func254.trans (congrArg some (by kernel_rfl))
 t3:=Tryz.underlying3
 a3:=Tryz.isAgg3
 z3:=Tryz.sizeOf3
 v3:=Tryz.zeroValue3
 t4:=Tryz.underlying4
 a4:=Tryz.isAgg4
 z4:=Tryz.sizeOf4
 v4:=Tryz.zeroValue4}
open Go.RowKit in
theorem Tryz.cmp_isNaN_int (x:Int)(w:World):
  Calls Tryz.prog 254 #[.int .i64 x] w fun e w'=>e=.returned (.bool false)∧w'=w:=Any.cmp_isNaN_int Tryz.lays215 x w
def Tryz.lays129_ren:Go.Shelf.Ren:=⟨fun|129=>238|n=>n,fun|53=>222|3=>3|4=>4|46=>187|5=>5|9=>9|n=>n,fun|n=>n⟩
theorem Tryz.lays129:Go.Proofs.Lays.n129 Tryz.prog Tryz.lays129_ren:={
 mixed:=by kernel_rfl
 f129:=Tryz.func238.trans (congrArg some (by kernel_rfl))
 t3:=Tryz.underlying3
 a3:=Tryz.isAgg3
 z3:=Tryz.sizeOf3
 v3:=Tryz.zeroValue3
 t4:=Tryz.underlying4
 a4:=Tryz.isAgg4
 z4:=Tryz.sizeOf4
 v4:=Tryz.zeroValue4
 t5:=Tryz.underlying5
 a5:=Tryz.isAgg5
 z5:=Tryz.sizeOf5
 v5:=Tryz.zeroValue5
 t9:=Tryz.underlying9
 a9:=Tryz.isAgg9
 z9:=Tryz.sizeOf9
 v9:=Tryz.zeroValue9
 t46:=Tryz.underlying187
 a46:=Tryz.isAgg187
 z46:=Tryz.sizeOf187
 v46:=Tryz.zeroValue187
 t53:=Tryz.underlying222
 a53:=Tryz.isAgg222
 z53:=Tryz.sizeOf222
 v53:=Tryz.zeroValue222}
theorem Tryz.bits_Len64 (x:Int)(w:World)(h0:0≤x)(h1:x≤18446744073709551615):
  Calls Tryz.prog 238 #[.int .u64 x] w fun e w'=>e=.returned (.int .i64 (Lib.bitLen x.toNat))∧w'=w:=Any.bits_Len64 Tryz.lays129 x w h0 h1
def Tryz.lays189_ren:Go.Shelf.Ren:=⟨fun|189=>107|125=>180|257=>179|128=>237|129=>238|294=>229|295=>230|296=>231|297=>232|298=>233|299=>234|216=>220|300=>235|301=>236|328=>256|329=>257|330=>258|331=>259|332=>260|215=>254|343=>266|n=>n,fun|28=>23|3=>3|46=>187|0=>0|51=>220|53=>222|4=>4|183=>214|182=>213|131=>115|5=>5|9=>9|218=>231|222=>235|228=>239|229=>240|n=>n,fun|n=>n⟩
theorem Tryz.lays189:Go.Proofs.Lays.n189 Tryz.prog Tryz.lays189_ren:={
 mixed:=by kernel_rfl
 f125:=Tryz.func180.trans (congrArg some (by kernel_rfl))
 f128:=Tryz.func237.trans (congrArg some (by kernel_rfl))
 f129:=Tryz.func238.trans (congrArg some (by kernel_rfl))
 f189:=Tryz.func107.trans (congrArg some (by kernel_rfl))
 f215:=Tryz.func254.trans (congrArg some (by kernel_rfl))
 f216:=Tryz.func220.trans (congrArg some (by kernel_rfl))
 f257:=Tryz.func179.trans (congrArg some (by kernel_rfl))
 f294:=Tryz.func229.trans (congrArg some (by kernel_rfl))
 f295:=Tryz.func230.trans (congrArg some (by kernel_rfl))
 f296:=Tryz.func231.trans (congrArg some (by kernel_rfl))
 f297:=Tryz.func232.trans (congrArg some (by kernel_rfl))
 f298:=Tryz.func233.trans (congrArg some (by kernel_rfl))
 f299:=Tryz.func234.trans (congrArg some (by kernel_rfl))
 f300:=Tryz.func235.trans (congrArg some (by kernel_rfl))
 f301:=Tryz.func236.trans (congrArg some (by kernel_rfl))
 f328:=Tryz.func256.trans (congrArg some (by kernel_rfl))
 f329:=Tryz.func257.trans (congrArg some (by kernel_rfl))
 f330:=Tryz.func258.trans (congrArg some (by kernel_rfl))
 f331:=Tryz.func259.trans (congrArg some (by kernel_rfl))
 f332:=Tryz.func260.trans (congrArg some (by kernel_rfl))
 f343:=Tryz.func266.trans (congrArg some (by kernel_rfl))
 t0:=Tryz.underlying0
 a0:=Tryz.isAgg0
 z0:=Tryz.sizeOf0
 v0:=Tryz.zeroValue0
 t3:=Tryz.underlying3
 a3:=Tryz.isAgg3
 z3:=Tryz.sizeOf3
 v3:=Tryz.zeroValue3
 t4:=Tryz.underlying4
 a4:=Tryz.isAgg4
 z4:=Tryz.sizeOf4
 v4:=Tryz.zeroValue4
 t5:=Tryz.underlying5
 a5:=Tryz.isAgg5
 z5:=Tryz.sizeOf5
 v5:=Tryz.zeroValue5
 t9:=Tryz.underlying9
 a9:=Tryz.isAgg9
 z9:=Tryz.sizeOf9
 v9:=Tryz.zeroValue9
 t28:=Tryz.underlying23
 a28:=Tryz.isAgg23
 z28:=Tryz.sizeOf23
 v28:=Tryz.zeroValue23
 t46:=Tryz.underlying187
 a46:=Tryz.isAgg187
 z46:=Tryz.sizeOf187
 v46:=Tryz.zeroValue187
 t51:=Tryz.underlying220
 a51:=Tryz.isAgg220
 z51:=Tryz.sizeOf220
 v51:=Tryz.zeroValue220
 t53:=Tryz.underlying222
 a53:=Tryz.isAgg222
 z53:=Tryz.sizeOf222
 v53:=Tryz.zeroValue222
 t131:=Tryz.underlying115
 a131:=Tryz.isAgg115
 z131:=Tryz.sizeOf115
 v131:=Tryz.zeroValue115
 t182:=Tryz.underlying213
 a182:=Tryz.isAgg213
 z182:=Tryz.sizeOf213
 v182:=Tryz.zeroValue213
 t183:=Tryz.underlying214
 a183:=Tryz.isAgg214
 z183:=Tryz.sizeOf214
 v183:=Tryz.zeroValue214
 t218:=Tryz.underlying231
 a218:=Tryz.isAgg231
 z218:=Tryz.sizeOf231
 v218:=Tryz.zeroValue231
 t222:=Tryz.underlying235
 a222:=Tryz.isAgg235
 z222:=Tryz.sizeOf235
 v222:=Tryz.zeroValue235
 t228:=Tryz.underlying239
 a228:=Tryz.isAgg239
 z228:=Tryz.sizeOf239
 v228:=Tryz.zeroValue239
 t229:=Tryz.underlying240
 a229:=Tryz.isAgg240
 z229:=Tryz.sizeOf240
 v229:=Tryz.zeroValue240}
open Go.Sort Go.RowKit in
theorem Tryz.slices_Sort_int (EZ off cap:Nat)(zs:List Int)(w:World)(hH:Holds (Value.int .i64) w EZ off zs.toArray)(hblk:EZ<w.heap.size)(hsz:zs.length<4611686018427387904):
  Calls Tryz.prog 107 #[.slice (some ⟨EZ,off,none⟩) zs.length cap] w fun e w'=>
   e=.returned (.tuple #[])∧ ∃n os,w'=grow (putRow (Value.int .i64) (Sort.ahead w n) EZ off (zs.mergeSort fun x y=>decide (x≤y)).toArray) os:=Any.slices_Sort_int Tryz.lays189 EZ off cap zs w hH hblk hsz
def Tryz.lays108_ren:Go.Shelf.Ren:=⟨fun|108=>213|n=>n,fun|28=>23|3=>3|0=>0|4=>4|n=>n,fun|n=>n⟩
theorem Tryz.lays108:Go.Proofs.Lays.n108 Tryz.prog Tryz.lays108_ren:={
 mixed:=by kernel_rfl
 f108:=Tryz.func213.trans (congrArg some (by kernel_rfl))
 t0:=Tryz.underlying0
 a0:=Tryz.isAgg0
 z0:=Tryz.sizeOf0
 v0:=Tryz.zeroValue0
 t3:=Tryz.underlying3
 a3:=Tryz.isAgg3
 z3:=Tryz.sizeOf3
 v3:=Tryz.zeroValue3
 t4:=Tryz.underlying4
 a4:=Tryz.isAgg4
 z4:=Tryz.sizeOf4
 v4:=Tryz.zeroValue4
 t28:=Tryz.underlying23
 a28:=Tryz.isAgg23
 z28:=Tryz.sizeOf23
 v28:=Tryz.zeroValue23}
open Go.Lib in
theorem Tryz.slices_Index_int (b off n c:Nat)(zs:List Int)(x:Int)(w:World)(hz:n≤zs.length)(hbig:n≤9223372036854775807)(hc: ∀j,j<zs.length→w.cell? ⟨b,off+j,none⟩=some (.int .i64 (zs.getD j 0))):
  Calls Tryz.prog 213 #[.slice (some ⟨b,off,none⟩) n c,.int .i64 x] w fun e w'=>e=.returned (.int .i64 (Lib.idxOf (zs.take n) x))∧w'=w:=Any.slices_Index_int Tryz.lays108 b off n c zs x w hz hbig hc
open Go.Lib in
theorem Tryz.slices_Index_int_empty (a:Option Addr)(c:Nat)(x:Int)(w:World):
  Calls Tryz.prog 213 #[.slice a 0 c,.int .i64 x] w fun e w'=>e=.returned (.int .i64 (Lib.idxOf [] x))∧w'=w:=Any.slices_Index_int_empty Tryz.lays108 a c x w
def Tryz.lays107_ren:Go.Shelf.Ren:=⟨fun|107=>139|108=>213|n=>n,fun|28=>23|3=>3|4=>4|0=>0|n=>n,fun|n=>n⟩
theorem Tryz.lays107:Go.Proofs.Lays.n107 Tryz.prog Tryz.lays107_ren:={
 mixed:=by kernel_rfl
 f107:=Tryz.func139.trans (congrArg some (by kernel_rfl))
 f108:=Tryz.func213.trans (congrArg some (by kernel_rfl))
 t0:=Tryz.underlying0
 a0:=Tryz.isAgg0
 z0:=Tryz.sizeOf0
 v0:=Tryz.zeroValue0
 t3:=Tryz.underlying3
 a3:=Tryz.isAgg3
 z3:=Tryz.sizeOf3
 v3:=Tryz.zeroValue3
 t4:=Tryz.underlying4
 a4:=Tryz.isAgg4
 z4:=Tryz.sizeOf4
 v4:=Tryz.zeroValue4
 t28:=Tryz.underlying23
 a28:=Tryz.isAgg23
 z28:=Tryz.sizeOf23
 v28:=Tryz.zeroValue23}
open Go.Lib in
theorem Tryz.slices_Contains_int (b off n c:Nat)(zs:List Int)(x:Int)(w:World)(hz:n≤zs.length)(hbig:n≤9223372036854775807)(hc: ∀j,j<zs.length→w.cell? ⟨b,off+j,none⟩=some (.int .i64 (zs.getD j 0))):
  Calls Tryz.prog 139 #[.slice (some ⟨b,off,none⟩) n c,.int .i64 x] w fun e w'=>e=.returned (.bool ((zs.take n).contains x))∧w'=w:=Any.slices_Contains_int Tryz.lays107 b off n c zs x w hz hbig hc
open Go.Lib in
theorem Tryz.slices_Contains_int_empty (a:Option Addr)(c:Nat)(x:Int)(w:World):
  Calls Tryz.prog 139 #[.slice a 0 c,.int .i64 x] w fun e w'=>e=.returned (.bool false)∧w'=w:=Any.slices_Contains_int_empty Tryz.lays107 a c x w
def Tryz.laysNm237_ren:Go.Shelf.Ren:=⟨fun|37=>254|n=>n,fun|3=>3|4=>4|n=>n,fun|n=>n⟩
theorem Tryz.laysNm237:Go.Proofs.Lays2.n37 Tryz.prog Tryz.laysNm237_ren:={
 mixed:=by kernel_rfl
 f37:=Tryz.func254.trans (congrArg some (by kernel_rfl))
 t3:=Tryz.underlying3
 a3:=Tryz.isAgg3
 z3:=Tryz.sizeOf3
 v3:=Tryz.zeroValue3
 t4:=Tryz.underlying4
 a4:=Tryz.isAgg4
 z4:=Tryz.sizeOf4
 v4:=Tryz.zeroValue4}
open Go.RowKit Go.Lib in
theorem Tryz.cmp_isNaN_int2 (x:Int)(w:World):
  Calls Tryz.prog 254 #[.int .i64 x] w fun e w'=>e=.returned (.bool false)∧w'=w:=Any.cmp_isNaN_int2 Tryz.laysNm237 x w
def Tryz.laysNm232_ren:Go.Shelf.Ren:=⟨fun|32=>221|n=>n,fun|3=>3|4=>4|n=>n,fun|n=>n⟩
theorem Tryz.laysNm232:Go.Proofs.Lays2.n32 Tryz.prog Tryz.laysNm232_ren:={
 mixed:=by kernel_rfl
 f32:=Tryz.func221.trans (congrArg some (by kernel_rfl))
 t3:=Tryz.underlying3
 a3:=Tryz.isAgg3
 z3:=Tryz.sizeOf3
 v3:=Tryz.zeroValue3
 t4:=Tryz.underlying4
 a4:=Tryz.isAgg4
 z4:=Tryz.sizeOf4
 v4:=Tryz.zeroValue4}
open Go.RowKit Go.Lib in
theorem Tryz.slices_isNaN_int2 (x:Int)(w:World):
  Calls Tryz.prog 221 #[.int .i64 x] w fun e w'=>e=.returned (.bool false)∧w'=w:=Any.slices_isNaN_int2 Tryz.laysNm232 x w
def Tryz.laysNm231_ren:Go.Shelf.Ren:=⟨fun|31=>220|37=>254|n=>n,fun|3=>3|4=>4|n=>n,fun|n=>n⟩
theorem Tryz.laysNm231:Go.Proofs.Lays2.n31 Tryz.prog Tryz.laysNm231_ren:={
 mixed:=by kernel_rfl
 f31:=Tryz.func220.trans (congrArg some (by kernel_rfl))
 f37:=Tryz.func254.trans (congrArg some (by kernel_rfl))
 t3:=Tryz.underlying3
 a3:=Tryz.isAgg3
 z3:=Tryz.sizeOf3
 v3:=Tryz.zeroValue3
 t4:=Tryz.underlying4
 a4:=Tryz.isAgg4
 z4:=Tryz.sizeOf4
 v4:=Tryz.zeroValue4}
open Go.RowKit Go.Lib in
theorem Tryz.cmp_Less_int2 (x y:Int)(w:World):
  Calls Tryz.prog 220 #[.int .i64 x,.int .i64 y] w fun e w'=>e=.returned (.bool (decide (x<y)))∧w'=w:=Any.cmp_Less_int2 Tryz.laysNm231 x y w
def Tryz.laysNm225_ren:Go.Shelf.Ren:=⟨fun|25=>164|31=>220|32=>221|37=>254|n=>n,fun|22=>23|3=>3|4=>4|40=>187|0=>0|n=>n,fun|n=>n⟩
theorem Tryz.laysNm225:Go.Proofs.Lays2.n25 Tryz.prog Tryz.laysNm225_ren:={
 mixed:=by kernel_rfl
 f25:=Tryz.func164.trans (congrArg some (by kernel_rfl))
 f31:=Tryz.func220.trans (congrArg some (by kernel_rfl))
 f32:=Tryz.func221.trans (congrArg some (by kernel_rfl))
 f37:=Tryz.func254.trans (congrArg some (by kernel_rfl))
 t0:=Tryz.underlying0
 a0:=Tryz.isAgg0
 z0:=Tryz.sizeOf0
 v0:=Tryz.zeroValue0
 t3:=Tryz.underlying3
 a3:=Tryz.isAgg3
 z3:=Tryz.sizeOf3
 v3:=Tryz.zeroValue3
 t4:=Tryz.underlying4
 a4:=Tryz.isAgg4
 z4:=Tryz.sizeOf4
 v4:=Tryz.zeroValue4
 t22:=Tryz.underlying23
 a22:=Tryz.isAgg23
 z22:=Tryz.sizeOf23
 v22:=Tryz.zeroValue23
 t40:=Tryz.underlying187
 a40:=Tryz.isAgg187
 z40:=Tryz.sizeOf187
 v40:=Tryz.zeroValue187}
open Go.RowKit Go.Lib in
theorem Tryz.slices_BinarySearch_int (b off n c:Nat)(zs:List Int)(x:Int)(w:World)(hz:n≤zs.length)(hbig:n<4611686018427387904)(hc: ∀j,j<zs.length→w.cell? ⟨b,off+j,none⟩=some (.int .i64 (zs.getD j 0)))(hs:(zs.take n).Pairwise (· ≤ ·)):
  Calls Tryz.prog 164 #[.slice (some ⟨b,off,none⟩) n c,.int .i64 x] w fun e w'=>e=.returned (.tuple #[.int .i64 ((zs.take n).countP (· <x):Nat),.bool ((zs.take n).contains x)])∧ ∃q,w'=w.drewN q:=Any.slices_BinarySearch_int Tryz.laysNm225 b off n c zs x w hz hbig hc hs
open Go.RowKit Go.Sort in
theorem Tryz.slices_Sort_int_none (p:Option Addr)(cap:Nat)(w:World):
  Calls Tryz.prog 107 #[.slice p 0 cap] w fun e w'=>e=.returned (.tuple #[])∧w'=w:=Any.slices_Sort_int_none Tryz.lays189 p cap w
open Go.RowKit Go.Lib in
theorem Tryz.slices_BinarySearch_int_empty (a:Option Addr)(c:Nat)(x:Int)(w:World):
  Calls Tryz.prog 164 #[.slice a 0 c,.int .i64 x] w fun e w'=>e=.returned (.tuple #[.int .i64 0,.bool false])∧w'=w:=Any.slices_BinarySearch_int_empty Tryz.laysNm225 a c x w
end Go.Proofs
namespace Go.Proofs.YtmimkglhbmcokaaGreat
section
open Go.RowKit Go.Lib Go.Sort
abbrev Ff (z:Int):Value:=.int .i64 z
def fi (zs:List Int):List Int:=zs.mergeSort fun x y=>decide (x≤y)
theorem oq (zs:List Int):(fi zs).length=zs.length:=by simp [fi]
theorem CZ {w w':World}{base n:Nat}{v:Value}{xs:List Value}(h:w.ownsRow base 3 1 v n xs)(hb:Ext w w'):w'.ownsRow base 3 1 v n xs:=by
 refine ⟨h.1,?_⟩;rcases h.2 with h3|⟨g,cap,cur,e,hg,hh,r⟩
 ·exact .inl h3
 exact .inr ⟨g,cap,cur,e,hg,(Blk.ext (t:=3) hh hb),r⟩
theorem BS (w:World)(os:Array Obj):Ext w (grow w os):=⟨rfl,rfl,rfl,by simp,fun _ hk=>heap_grow_old w os hk⟩
theorem AJ {S:Nat→Prop}{w:World}{vss:List (List Value)}{xs:List Int}(h:All2 ((dn .i64).rel S w) vss xs):vss.flatten=xs.map Ff:=by
 induction h with
 |nil=>rfl
 |cons h1 h2 ih=>
  simp only [List.flatten_cons,List.map_cons,ih];rw [show _=_ from h1];rfl
theorem uN (S:Nat→Prop)(w:World): ∀(xs:List Int),All2 ((dn .i64).rel S w) (xs.map fun x=> [.int .i64 x]) xs
 | []=> .nil
 |x::xs=> .cons rfl (uN S w xs)
theorem BQ (xs:List Int):((xs.map fun x=> [Value.int .i64 x])).flatten=xs.map Ff:=by
 induction xs with
 |nil=>rfl
 |cons x l ih=>simp only [List.map_cons,List.flatten_cons,ih];rfl
def gB (_:Nat)(a0:List Int):Option (List Int):=bD (bN a0.length) (some (fi a0))
theorem sS {N:Nat}{a0:List Int}{r:List Int}(h:gB N a0=some r){A:Option Addr}{n c:Nat}:Okc Tryz.prog 107 [.slice A n c] [dQ (dn .i64) 3 (.slice A n c) a0] fun u post=>u=.tuple #[]∧post=[dQ (dn .i64) 3 (.slice A n c) r]:=fun Z w hw=>by
 obtain ⟨hf,h⟩:=am h;obtain rfl:=ao h;have hw0:=hw;obtain ⟨T,S,hT⟩:=hw;obtain ⟨vss,g1,g2⟩:=hT.ok (i:=0) (c:=dQ (dn .i64) 3 (.slice A n c) a0) rfl
 have none_:a0=[]→n=0→Calls Tryz.prog 107 #[.slice A n c] w fun e w'=> ∃v post,e=.returned v∧Sp Z post w'∧v=.tuple #[]∧post=[dQ (dn .i64) 3 (.slice A n c) (fi a0)]:=by
  rintro rfl rfl;refine (Tryz.slices_Sort_int_none A c w).mono ?_;rintro e w' ⟨rfl,rfl⟩
  have e0:fi []=[]:=by simp [fi]
  rw [e0];exact ⟨_,_,J,hw0,J,J⟩
 rcases g2 with ⟨ho,h3⟩|⟨h0,A',e⟩
 ·by_cases hv:(Value.slice A n c)=I none 0 0
  ·have hn:a0=[]:=by
    rcases ho.2 with ⟨_,h⟩|⟨g,cap,cur,e,_⟩
    ·exact List.eq_nil_of_length_eq_zero h
    rw [hv] at e;cases e
   injection hv with _ e2 _
   exact none_ hn e2
  have hnl:n=a0.length:=by
   rcases ho.2 with ⟨e1, -⟩|⟨g,cap,cur,e1, -⟩
   ·exact absurd e1 hv
   injection e1
  subst hnl;obtain ⟨c0,ho1,hv0,hc⟩:=ownsX.base ho hv;rw [AJ g1] at ho1;obtain ⟨g,cap,e,hg,hlt,hn,hm, -,hH⟩:=holds_of_ownsRow ho1 hv0
  injection e with e1 e2 e3
  subst e1 e3;refine (Tryz.slices_Sort_int g 0 c a0 w hH hlt (by unfold bN at hf;omega)).mono ?_;rintro e w' ⟨rfl,k,os,rfl⟩;refine ⟨_,_,J,?_,J,J⟩;have hTg:T 0 g:=h3 g rfl;have h1:=ownsRow_putRow (q:=k) (ys:=fi a0) (k:=a0.length) ho1 (oq a0) (Nat.le_refl _);rw [List.take_of_length_le (by rw [oq];exact Nat.le_refl _)] at h1;have h2:=CZ h1 (BS _ os);refine hT.upd (i:=0) (c:=dQ (dn .i64) 3 (.slice (some ⟨g,0,none⟩) a0.length c) a0) J (T':=T 0) ⟨J,J,J,by simp [putRow,mapBlock,Sort.ahead],fun q hq hn=> ?_⟩ (fun _=> .inl) (fun q hq=>Nat.lt_of_lt_of_le (hT.lt hq) (by simp [putRow,mapBlock,Sort.ahead])) ?_
  ·have hne:q≠g:=fun e=>hn (e▸hTg)
   rw [heap_grow_old _ os (by simpa [putRow,mapBlock,Sort.ahead] using hq)];simp [putRow,mapBlock,Sort.ahead,Array.getElem?_modify,Ne.symm hne]
  refine ⟨(fi a0).map fun x=> [.int .i64 x],uN _ _ _,.inl ⟨?_,h3⟩⟩;rw [BQ,oq];exact .recap h2 hv0 hc
 injection e with e1 e2 e3
 exact none_ (List.eq_nil_of_length_eq_zero h0) e2
open Go.RowKit
def inB (Q:Nat→Prop)(w:World)(sz:Nat)(u:Value):Prop:= ∃A n c,u=.slice A n c∧(0<n→ ∃b t cur,A=some ⟨b,0,none⟩∧Q b∧Blk w b t cur∧n*sz≤cur.size)
theorem inB.loc {Q:Nat→Prop}{w w':World}{sz:Nat}{u:Value}(h:inB Q w sz u)(hx:Agr Q w w'):inB Q w' sz u:=by
 obtain ⟨A,n,c,e,h1⟩:=h;refine ⟨A,n,c,e,fun h0=> ?_⟩;obtain ⟨b,t,cur,e1,h2,h3,h4⟩:=h1 h0;exact ⟨b,t,cur,e1,h2,h3.agr hx h2,h4⟩
theorem inB.mono {Q Q':Nat→Prop}{w:World}{sz:Nat}{u:Value}(hq: ∀q,Q q→Q' q)(h:inB Q w sz u):inB Q' w sz u:=by
 obtain ⟨A,n,c,e,h1⟩:=h;refine ⟨A,n,c,e,fun h0=> ?_⟩;obtain ⟨b,t,cur,e1,h2,h3,h4⟩:=h1 h0;exact ⟨b,t,cur,e1,hq b h2,h3,h4⟩
def ie {α:Type}(R:Rep α)(e:TypeId)(j sz:Nat)(v:Value)(xs:List α):Chunk where
 ok T S w:= ∃(Q:Nat→Prop) (vss:List (List Value)),(∀q,Q q→T q)∧(∀q,v.ownBlock=some q→T q∧ ¬Q q)∧All2 (R.rel (fun q=>S q∨Q q) w) vss xs∧(∀vs∈vss, ∀u,vs[j]? =some u→inB Q w sz u)∧ownsX w e R.sz v xs.length vss.flatten
 loc:=fun h ⟨Q,vss,h1,h2,h3,h4,h5⟩=>⟨Q,vss,h1,h2,h3.imp fun _ _=>R.loc (h.mono fun q hq=>hq.elim .inr fun hq=> .inl (h1 q hq)),fun vs hv u hu=>(h4 vs hv u hu).loc (h.mono fun q hq=> .inl (h1 q hq)),ma h5 h fun q hq=> .inl (h2 q hq).1⟩
 mono:=fun h ⟨Q,vss,h1,h2,h3,h4,h5⟩=>⟨Q,vss,h1,h2,h3.imp fun _ _=>R.mono fun q hq=>hq.imp (h q) id,h4,h5⟩
 ro:=false
 dup:=fun h=>Bool.noConfusion h
theorem zB {α:Type}(R:Rep α)(e:TypeId)(j sz:Nat)(L:List Chunk):Cv L (ie R e j sz (I none 0 0) ([]:List α)::L):=fun Z w h=>SepL.fact0 h fun S=>⟨fun _=>False,[],fun _ h=>h,(fun _ h=>by cases h),.nil,(fun _ h=>by cases h),.of (World.ownsRow_nil w 0 e R.sz)⟩
def uH:Chunk where
 ok _ _ _:=True
 loc:=fun _ h=>h
 mono:=fun _ h=>h
 ro:=true
 dup:=fun _ _ _ _ h=>h
theorem SepT.upd2 {L:List Chunk}{w w':World}{T:Nat→Nat→Prop}{S:Nat→Prop}(h:SepT L T S w){i k:Nat}{c c2 d:Chunk}(hi:L[i]? =some c)(hk:L[k]? =some c2)(hik:i≠k)(hx:Agr (fun q=> ¬T i q) w w'){T':Nat→Prop}(h1: ∀q,T' q→T i q∨T k q∨w.heap.size≤q)(h2: ∀q,T' q→q<w'.heap.size)(h3:d.ok T' S w'):SepL ((L.set i d).set k uH) w':=by
 have hil:i<L.length:=(List.getElem?_eq_some_iff.1 hi).1;have hkl:k<L.length:=(List.getElem?_eq_some_iff.1 hk).1
 have hop: ∀{j q},(if j=i then T' else if j=k then fun _=>False else T j) q→(j=i∧T' q)∨(j≠i∧j≠k∧T j q):=by
  intro j q hq;by_cases e1:j=i
  ·simp only [e1,if_true] at hq;exact .inl ⟨e1,hq⟩
  by_cases e2:j=k
  ·rw [if_neg e1,if_pos e2] at hq;exact hq.elim
  rw [if_neg e1,if_neg e2] at hq;exact .inr ⟨e1,e2,hq⟩
 refine ⟨fun j=>if j=i then T' else if j=k then fun _=>False else T j,S,?_,?_,?_,?_,fun h4=>Nat.lt_of_lt_of_le (h.lts h4) hx.size⟩
 ·intro j e hj;by_cases e1:j=k
  ·subst e1;rw [List.getElem?_set_self (by simpa using hkl)] at hj;cases hj;exact trivial
  rw [List.getElem?_set_ne (fun e=>e1 e.symm)] at hj;by_cases e2:j=i
  ·subst e2;rw [List.getElem?_set_self hil] at hj;cases hj;simpa using h3
  rw [List.getElem?_set_ne (fun e=>e2 e.symm)] at hj;simp only [e1,e2,if_false];refine e.loc (hx.mono ?_) (h.ok hj);rintro q (h4|h4)
  ·exact fun h5=>h.apart e2 h4 h5
  exact fun h5=>h.ro h5 h4
 ·intro j l q hjl h4 h5;rcases hop h4 with ⟨e1,g1⟩|⟨e1,e1',g1⟩<;>rcases hop h5 with ⟨e2,g2⟩|⟨e2,e2',g2⟩
  ·exact hjl (e1.trans e2.symm)
  ·rcases h1 q g1 with h6|h6|h6
   ·exact h.apart (fun e=>e2 e.symm) h6 g2
   ·exact h.apart (fun e=>e2' e.symm) h6 g2
   have:=h.lt g2;omega
  ·rcases h1 q g2 with h6|h6|h6
   ·exact h.apart e1 g1 h6
   ·exact h.apart e1' g1 h6
   have:=h.lt g1;omega
  exact h.apart hjl g1 g2
 ·intro j q h4 h5;rcases hop h4 with ⟨e1,g1⟩|⟨e1,e1',g1⟩
  ·rcases h1 q g1 with h6|h6|h6
   ·exact h.ro h6 h5
   ·exact h.ro h6 h5
   have:=h.lts h5;omega
  exact h.ro g1 h5
 intro j q h4;rcases hop h4 with ⟨e1,g1⟩|⟨e1,e1',g1⟩
 ·exact h2 q g1
 exact Nat.lt_of_lt_of_le (h.lt g1) hx.size
theorem SepL.frzP {L:List Chunk}{w:World}(h:SepL L w){i:Nat}{c d:Chunk}(hi:L[i]? =some c)(hd: ∀T S,c.ok T S w→ ∃Q:Nat→Prop,(∀q,Q q→T q)∧d.ok (fun q=>T q∧ ¬Q q) (fun q=>S q∨Q q) w):SepL (L.set i d) w:=by
 obtain ⟨T,S,h⟩:=h;have hil:i<L.length:=(List.getElem?_eq_some_iff.1 hi).1;obtain ⟨Q,q1,q2⟩:=hd _ _ (h.ok hi)
 have hop: ∀{j q},(if j=i then fun q=>T i q∧ ¬Q q else T j) q→T j q∧(j=i→ ¬Q q):=by
  intro j q hq;by_cases e1:j=i
  ·subst e1;simp only [if_true] at hq;exact ⟨hq.1,fun _=>hq.2⟩
  rw [if_neg e1] at hq;exact ⟨hq,fun e=>absurd e e1⟩
 refine ⟨fun j=>if j=i then fun q=>T i q∧ ¬Q q else T j,fun q=>S q∨Q q,?_,?_,?_,?_,?_⟩
 ·intro j e hj;by_cases e1:j=i
  ·subst e1;rw [List.getElem?_set_self hil] at hj;cases hj;simpa using q2
  rw [List.getElem?_set_ne (fun e=>e1 e.symm)] at hj;simp only [e1,if_false];exact e.mono (fun _=> .inl) (h.ok hj)
 ·intro j l q hjl h4 h5;exact h.apart hjl (hop h4).1 (hop h5).1
 ·intro j q h4 h5;rcases h5 with h5|h5
  ·exact h.ro (hop h4).1 h5
  by_cases e1:j=i
  ·exact (hop h4).2 e1 h5
  exact h.apart e1 (hop h4).1 (q1 q h5)
 ·intro j q h4;exact h.lt (hop h4).1
 rintro q (h4|h4)
 ·exact h.lts h4
 exact h.lt (q1 q h4)
theorem vu {α:Type}{R:Rep α}{e:TypeId}{j sz:Nat}{v:Value}{xs:List α}{L:List Chunk}(i:Nat)(hi:L[i]? =some (ie R e j sz v xs)):Cv L (L.set i (dQ R e v xs)):=fun Z w h=>by
 have h1:=SepL.frzP h (bf hi) (d:=dQ R e v xs) fun T S ⟨Q,vss,h1,h2,h3,h4,h5⟩=>⟨Q,h1,vss,h3,.inl ⟨h5,fun q hq=>h2 q hq⟩⟩
 rw [fS Z hi] at h1;exact h1
theorem AC {α:Type}{R:Rep α}{L:List Chunk}{e:TypeId}{j sz:Nat}{v:Value}{xs:List α}{i:Nat}(hi:L[i]? =some (ie R e j sz v xs)):ue L (iS R v xs):=fun T S w h=>by
 obtain ⟨Q,vss,h1,h2,h3,h4,h5⟩:=h.ok hi;rcases h5.2 with ⟨rfl,h0⟩|⟨g,cap,cur,rfl,g1,g2,g3,g4,g5,g6⟩
 ·exact ⟨none,0,by rw [h0],by omega,by omega,fun h=>absurd h Y⟩
 exact ⟨_,cap,J,g3,by unfold maxLen at g4;omega,fun _=>⟨g,0,vss,rfl,Blk.lt (t:=e) (cs:=cur) g2,Blk.lt (t:=e) (cs:=cur) g2,h3.imp fun _ _=>R.mono fun _ hq=>hq.elim (fun hq=>h.lts hq) fun hq=>h.lt (h1 _ hq),ew (cap:=cap) g2 g6⟩⟩
section
variable {P:Program} {s:bE} {L:List Chunk} {d:Option Nat} {ty:TypeId} {pos:String} {af:Array Edge} {gd:Option (Nat×Bool)}
def Pl (v:Value)(n:Nat)(c:Chunk):Prop:= ∀T S w,c.ok T S w→ ∃A cap,v=.slice A n cap∧(0<n→ ∃b o,A=some ⟨b,o,none⟩)
theorem CX {α:Type}{R:Rep α}{e:TypeId}{j sz:Nat}{v:Value}{xs:List α}:Pl v xs.length (ie R e j sz v xs):=fun T S w ⟨Q,vss,h1,h2,h3,h4,h5⟩=>by
 rcases h5.2 with ⟨rfl,h0⟩|⟨g,cap,cur,rfl, -⟩
 ·exact ⟨none,0,by rw [h0],fun h=>by omega⟩
 exact ⟨_,cap,J,fun _=>⟨g,0,J⟩⟩
theorem CV {t e:TypeId}{x:Operand}{v:Value}{n:Nat}{c:Chunk}(i:Nat)(hi:L[i]? =some c)(he:Pl v n c)(hx:bK s x=some v)(ht:P.underlying t=some (.slice e)):Rd P s L ⟨d,.call ⟨.builtin .len, #[x], #[t]⟩,ty,pos,af,gd⟩ (.int .i64 (n:Int)):=fun Z w hw=>by
 obtain ⟨T,S,h⟩:=hw.get (bf hi);obtain ⟨A,cap,rfl, -⟩:=he _ _ _ h;exact yF hx ht
theorem vN {t e sz:Nat}{x y:Operand}{v:Value}{n:Nat}{c:Chunk}{k:Int}(i:Nat)(hi:L[i]? =some c)(he:Pl v n c)(hx:bK s x=some v)(hy:bK s y=some (.int .i64 k))(ht:P.underlying t=some (.slice e))(hs:dJ P e sz=true)(h0:0≤k)(h1:k<n):Rd P s L ⟨d,.indexAddr t x y,ty,pos,af,gd⟩ (bO v k.toNat sz 0):=fun Z w hw=>by
 obtain ⟨T,S,h⟩:=hw.get (bf hi);obtain ⟨A,cap,rfl,h4⟩:=he _ _ _ h;obtain ⟨b,o,rfl⟩:=h4 Y;exact BU hx hy ht hs h0 h1
theorem Br {t f sz off o':Nat}{x:Operand}{v:Value}{n:Nat}{c:Chunk}{k:Nat}(i:Nat)(hi:L[i]? =some c)(he:Pl v n c)(hx:bK s x=some (bO v k sz off))(h1:k<n)(hr: ∀b o w,(Instr.fieldAt t (.pointer (some ⟨b,o,none⟩)) f).run P w=.ok (.pointer (some ⟨b,o+o',none⟩)) w):Rd P s L ⟨d,.fieldAddr t x f,ty,pos,af,gd⟩ (bO v k sz (off+o')):=fun Z w hw=>by
 obtain ⟨T,S,h⟩:=hw.get (bf hi);obtain ⟨A,cap,rfl,h4⟩:=he _ _ _ h;obtain ⟨b,o,rfl⟩:=h4 Y;have h9:=bQ (C:=(· =w)) (d:=d) (ty:=ty) (pos:=pos) (af:=af) (gd:=gd) (o:=o+k*sz+off) hx hr;rw [Nat.add_assoc (o+k*sz)] at h9;exact h9
theorem CW {t f sz off:Nat}{x:Operand}{v:Value}{n:Nat}{c:Chunk}{k:Nat}(i:Nat)(hi:L[i]? =some c)(he:Pl v n c)(hx:bK s x=some (bO v k sz off))(h1:k<n)(hr: ∀b o w,(Instr.fieldAt t (.pointer (some ⟨b,o,none⟩)) f).run P w=.ok (.pointer (some ⟨b,o,none⟩)) w):Rd P s L ⟨d,.fieldAddr t x f,ty,pos,af,gd⟩ (bO v k sz off):=fun Z w hw=>by
 obtain ⟨T,S,h⟩:=hw.get (bf hi);obtain ⟨A,cap,rfl,h4⟩:=he _ _ _ h;obtain ⟨b,o,rfl⟩:=h4 Y;exact jN (C:=(· =w)) (d:=d) (ty:=ty) (pos:=pos) (af:=af) (gd:=gd) hx hr
theorem yt {α β:Type}{R:Rep α}{RV:Rep β}{t e eV:TypeId}{ps:List (Nat×Operand)}{vs:List (Nat×Value)}{vs1:List Value}{x:α}{A:Option Addr}{n c:Nat}{ys:List β}{sz:Nat}(i j:Nat)(hi:L[i]? =some (dQ RV eV (.slice A n c) ys))(hp:D7 s ps=some vs)(hr: ∀w,(Instr.buildSlice t 1 vs.toArray).run P w=.ok (.slice (some ⟨w.heap.size,0,none⟩) 1 1) (w.alloc (.cells [vs1].flatten.toArray e)))(hj:vs1[j]? =some (.slice A n c))(hsz:RV.sz=sz)(hrel: ∀S w,Ro (L.set i (iS RV (.slice A n c) ys)) S w→R.rel S w vs1 x):OpX P s L ⟨d,.buildSlice t 1 ps.toArray,ty,pos,af,gd⟩ fun u L'=> ∃A' n' c',u=.slice A' n' c'∧L'=L.set i (ie R e j sz (.slice A' n' c') [x]):=fun ρ hρ Z w hw=>by
 have hx:Ext w (w.alloc (.cells [vs1].flatten.toArray e)):=(Ext.refl w).alloc _;obtain ⟨T,S,hT⟩:=hw;have hil:i<L.length:=(List.getElem?_eq_some_iff.1 hi).1;refine .inl ⟨_,w.alloc (.cells [vs1].flatten.toArray e),L.set i (ie R e j sz (.slice (some ⟨w.heap.size,0,none⟩) 1 1) [x]),?_,?_,_,_,_,J,J⟩
 ·unfold execOp;simp only [List.map_toArray,sC hρ hp,Sem.run_bind,hr,Result.andThen_ok];rfl
 have hc:=hT.ok (bf hi)
 have hsl:SlR RV (fun q=>S q∨T i q) w (.slice A n c) ys:=by
  obtain ⟨vss,g1,g2⟩:=hc;rcases g2 with ⟨g2,g3⟩|⟨h0,A0,e0⟩
  ·rcases g2.2 with ⟨e0,h0⟩|⟨g,cap,cur,e0,p1,p2,p3,p4,p5,p6⟩
   ·rw [e0];exact ⟨none,0,by rw [h0],by omega,by omega,fun h=>absurd h Y⟩
   rw [e0];exact ⟨_,cap,J,p3,by unfold maxLen at p4;omega,fun _=>⟨g,0,vss,rfl,.inr (g3 g (by rw [e0];rfl)),Blk.lt (t:=eV) (cs:=cur) p2,g1.imp fun _ _=>RV.mono fun _=> .inl,ew (cap:=cap) p2 p6⟩⟩
  rw [e0];exact ⟨A0,0,by rw [h0],by omega,by omega,fun h=>absurd h Y⟩
 have hin:inB (T i) w sz (.slice A n c):=by
  obtain ⟨vss,g1,g2⟩:=hc;rcases g2 with ⟨g2,g3⟩|⟨h0,A0,e0⟩
  ·rcases g2.2 with ⟨e0,h0⟩|⟨g,cap,cur,e0,p1,p2,p3,p4,p5,p6⟩
   ·rw [e0];exact ⟨_,_,_,J,fun h=>absurd h Y⟩
   have hn:n=ys.length:=by injection e0
   refine ⟨_,_,_,J,fun _=>⟨g,eV,cur,by injection e0,g3 g (by rw [e0];rfl),p2,?_⟩⟩;have h9:ys.length*RV.sz≤cap*RV.sz:=Nat.mul_le_mul_right _ p3;rw [hn, ←hsz];rcases p5 with p5|⟨-,c0,q1, -,q3⟩
   ·omega
   have h8:cap*RV.sz≤c0*RV.sz:=Nat.mul_le_mul_right _ q1;omega
  rw [e0];exact ⟨_,_,_,J,fun h=>absurd h Y⟩
 have hro:Ro (L.set i (iS RV (.slice A n c) ys)) (fun q=>S q∨T i q) w:=by
  intro k c2 hk hc2;by_cases e1:k=i
  ·subst e1;rw [List.getElem?_set_self hil] at hk;cases hk;exact hsl
  rw [List.getElem?_set_ne (fun e=>e1 e.symm)] at hk;exact c2.mono (fun _=> .inl) (hT.ros.app k c2 hk hc2)
 have hrow:=hrel _ _ (hro.loc (Agr.of_ext hx));have hlen:=R.len hrow
 have hfin:SepL ((L++Z).set i (ie R e j sz (.slice (some ⟨w.heap.size,0,none⟩) 1 1) [x])) (w.alloc (.cells [vs1].flatten.toArray e)):=by
  refine hT.upd (bf hi) (Agr.of_ext hx) (T':=fun q=>T i q∨q=w.heap.size) (fun q hq=>hq.imp id fun h=>by omega) (fun q hq=> ?_) ?_
  ·rcases hq with hq|rfl
   ·exact Nat.lt_of_lt_of_le (hT.lt hq) hx.size
   simp
  refine ⟨T i,[vs1],fun _=> .inl,fun q hq=> ?_,.cons hrow .nil,fun vs hv u hu=> ?_,?_⟩
  ·cases hq;exact ⟨.inr J,fun h=>Nat.lt_irrefl _ (hT.lt h)⟩
  ·rcases List.mem_singleton.1 hv with rfl;rw [hj] at hu;cases hu;exact hin.loc (Agr.of_ext hx)
  have hl:[vs1].flatten.length=1*R.sz:=by simp [hlen]
  exact .of ⟨by simpa using hl,.inr ⟨w.heap.size,1,[vs1].flatten.toArray,rfl,Nat.zero_le _,Blk.new w e _,Nat.le_refl _,by decide,by simpa using hl,by rw [show ([x]:List α).length*R.sz=[vs1].flatten.length by rw [hl];rfl];exact List.take_length⟩⟩
 rw [fS Z hi] at hfin;exact hfin
theorem yw {α:Type}{R:Rep α}{x y:Operand}{t e:TypeId}{v v2:Value}{xs ys:List α}{jj sv sz by_:Nat}(i k:Nat)(hi:L[i]? =some (ie R e jj sv v xs))(hk:L[k]? =some (ie R e jj sv v2 ys))(hik:Nat.beq i k=false)(h0:0<ys.length)(hx:bK s x=some v)(hy:bK s y=some v2)(ht:P.underlying t=some (.slice e))(hz:nm P e sz by_=true)(hsz:R.sz=sz)(hby:Nat.ble by_ 127=true)(hb:xs.length+ys.length≤1099511627776):OpX P s L ⟨d,.call ⟨.builtin .append, #[x,y], #[t,t]⟩,ty,pos,af,gd⟩ fun u L'=> ∃A n c,u=.slice A n c∧L'=(L.set i (ie R e jj sv (.slice A n c) (xs++ys))).set k uH:=fun ρ hρ Z w hw=>by
 have hbuilt:=gZ (P:=P) (ρ:=ρ) (d:=d) (ty:=ty) (pos:=pos) (af:=af) (gd:=gd) (b:=.append) (xs:=[x,y]) (ats:= #[t,t]) (vs:=[v,v2]) (by simp [hρ x _ hx,hρ y _ hy]) w
 have hby':=Nat.le_of_ble_eq_true hby
 have hne:i≠k:=fun e=>by rw [e] at hik;simp at hik
 unfold nm at hz
 cases hinfo:P.info? e with
 |none=>rw [hinfo] at hz;cases hz
 | some inf=>
  rw [hinfo] at hz;simp only [Bool.and_eq_true] at hz;obtain ⟨⟨⟨q2,q3⟩,q4⟩,q5⟩:=hz
  cases hzz:inf.zero with
  |none=>rw [hzz] at q4;cases q4
  | some z=>
   rw [hzz] at q4;have e2:=Nat.eq_of_beq_eq_true q2;have e3:=Nat.eq_of_beq_eq_true q3;have e4:=Nat.eq_of_beq_eq_true q4
   have e5:0<sz:=by have h6:1≤sz:=(by simpa [Nat.blt] using q5);omega
   subst hsz;obtain ⟨T,S,hT⟩:=hw;obtain ⟨Q1,vss1,a1,a2,a3,a4,a5⟩:=hT.ok (bf hi);obtain ⟨Q2,vss2,b1,b2,b3,b4,b5⟩:=hT.ok (bf hk);rcases b5.2 with ⟨-,h9⟩|⟨g2,cap2,cur2,hv2,p1,p2,p3,p4,p5,p6⟩
   ·omega
   subst hv2;have hm:(xs.length+ys.length)*by_≤140737488355328:=Nat.le_trans (Nat.mul_le_mul hb hby') (by decide);obtain ⟨v',w',r1,r2,r3,hnew⟩:=Ed w inf z R.sz by_ (ty:=ty) ht hinfo hzz e2 e3 e4 e5 a5 ⟨g2,0,none⟩ ys.length cap2 vss2.flatten (kw b3) (fun j u hj=>by rw [iQ];exact ew (cap:=cap2) p2 p6 j u hj) (List.all_eq_true.1 (lU b3)) h0 (by unfold maxLen;omega) hm
   have hsh: ∃A c,v'=.slice A (xs.length+ys.length) c:=by
    rcases r2.2 with ⟨rfl,h9⟩|⟨g,cap,cur,rfl, -⟩
    ·omega
    exact ⟨_,cap,J⟩
   obtain ⟨A',c',hv'⟩:=hsh;refine .inl ⟨v',w',(L.set i (ie R e jj sv v' (xs++ys))).set k uH,?_,?_,A',_,c',hv',by rw [hv']⟩
   ·rw [hbuilt];simp only [builtin,Sem.run_bind];have r1':(Builtin.append_ #[t,t] ty [v,Value.slice (some ⟨g2,0,none⟩) ys.length cap2].toArray).run P w=.ok v' w':=r1;rw [r1'];rfl
   have hblk: ∀X:Nat→Prop,(∀q,v.ownBlock=some q→ ¬X q)→Agr X w w':=fun X hX=>⟨r3.os,r3.tape,r3.output,r3.size,fun q hq hq2=>r3.block q hq fun e=>hX q e.symm hq2⟩
   have hfin:SepL (((L++Z).set i (ie R e jj sv v' (xs++ys))).set k uH) w':=by
    refine hT.upd2 (bf hi) (bf hk) hne (hblk _ fun q hq h=>h (a2 q hq).1) (T':=fun q=>v'.ownBlock=some q∨Q1 q∨Q2 q) ?_ ?_ ?_
    ·rintro q (hq|hq|hq)
     ·exact (hnew q hq).elim (fun h=> .inl (a2 q h).1) fun h=> .inr (.inr h)
     ·exact .inl (a1 q hq)
     exact .inr (.inl (b1 q hq))
    ·rintro q (hq|hq|hq)
     ·exact (World.ownsRow.lt r2 q hq).2
     ·exact Nat.lt_of_lt_of_le (hT.lt (a1 q hq)) r3.size
     exact Nat.lt_of_lt_of_le (hT.lt (b1 q hq)) r3.size
    have n1: ∀q,v.ownBlock=some q→ ¬(S q∨Q1 q):=fun q hq=>by
     rintro (h|h)
     ·exact hT.ro (a2 q hq).1 h
     exact (a2 q hq).2 h
    have n2: ∀q,v.ownBlock=some q→ ¬(S q∨Q2 q):=fun q hq=>by
     rintro (h|h)
     ·exact hT.ro (a2 q hq).1 h
     exact hT.apart hne (a2 q hq).1 (b1 q h)
    refine ⟨fun q=>Q1 q∨Q2 q,vss1++vss2,fun q hq=> .inr hq,fun q hq=>⟨.inl hq,?_⟩,(a3.imp fun _ _ h=>R.mono (fun q hq=>hq.imp id .inl) (R.loc (hblk _ n1) h)).append (b3.imp fun _ _ h=>R.mono (fun q hq=>hq.imp id .inr) (R.loc (hblk _ n2) h)),?_,by rw [List.flatten_append,List.length_append];exact .of r2⟩
    ·rintro (h|h)
     ·rcases hnew q hq with h9|h9
      ·exact (a2 q h9).2 h
      have:=hT.lt (a1 q h);omega
     rcases hnew q hq with h9|h9
     ·exact hT.apart hne (a2 q h9).1 (b1 q h)
     have:=hT.lt (b1 q h);omega
    intro vs hv u hu;rcases List.mem_append.1 hv with hv|hv
    ·exact ((a4 vs hv u hu).loc (hblk _ fun q hq h=>n1 q hq (.inr h))).mono fun q=> .inl
    exact ((b4 vs hv u hu).loc (hblk _ fun q hq h=>n2 q hq (.inr h))).mono fun q=> .inr
   have e9:((L++Z).set i (ie R e jj sv v' (xs++ys))).set k uH=(L.set i (ie R e jj sv v' (xs++ys))).set k uH++Z:=by
    rw [fS Z hi,List.set_append_left];rw [List.length_set];exact (List.getElem?_eq_some_iff.1 hk).1
   rw [e9] at hfin;exact hfin
theorem inB.store {Q:Nat→Prop}{w w':World}{sz b:Nat}{u:Value}{t:TypeId}{cur cur':Array Value}(h:inB Q w sz u)(hx:Fr (· =b) w w')(h1:Blk w b t cur)(h2:Blk w' b t cur')(hs:cur'.size=cur.size):inB Q w' sz u:=by
 obtain ⟨A,n,c,e,h3⟩:=h;refine ⟨A,n,c,e,fun h0=> ?_⟩;obtain ⟨b',t',cur1,e1,q1,q2,q3⟩:=h3 h0;by_cases e2:b'=b
 ·subst e2;have e3:=Option.some.inj ((show w.heap[b']? =some (.cells cur1 t' (0,0)) from q2).symm.trans h1)
  injection e3 with e3 e4
  subst e3 e4;exact ⟨b',t',cur',e1,q1,h2,by omega⟩
 exact ⟨b',t',cur1,e1,q1,q2.fr hx e2,q3⟩
def jQ (e:TypeId)(sr j sz:Nat)(v:Value)(ns:List Nat)(f:Option Value):Chunk where
 ok T S w:= ∃(Q:Nat→Prop) (hs:List (List Value)),(∀q,Q q→T q)∧(∀q,v.ownBlock=some q→T q∧ ¬Q q)∧(∀h∈hs,h.length=sr)∧All2 (fun h n=> ∃A c,h[j]? =some (.slice A n c)∧inB Q w sz (.slice A n c)) hs ns∧ownsX w e sr v ns.length hs.flatten∧ ∀u,f=some u→inB Q w sz u
 loc:=fun h ⟨Q,hs,h1,h2,h3,h4,h5,h6⟩=>⟨Q,hs,h1,h2,h3,h4.imp fun _ _ ⟨A,c,g1,g2⟩=>⟨A,c,g1,g2.loc (h.mono fun q hq=> .inl (h1 q hq))⟩,ma h5 h fun q hq=> .inl (h2 q hq).1,fun u hu=>(h6 u hu).loc (h.mono fun q hq=> .inl (h1 q hq))⟩
 mono:=fun _ h=>h
 ro:=false
 dup:=fun h=>Bool.noConfusion h
theorem Cw {α β γ:Type}{R:α→β→Prop}{Q:α→γ→Prop}(f:β→γ){l:List α}{m:List β}(h:All2 R l m)(hq: ∀a b,a∈l→R a b→Q a (f b)):All2 Q l (m.map f):=by
 induction h with
 |nil=>exact .nil
 |cons h1 _ ih=>exact .cons (hq _ _ (by simp) h1) (ih fun a b ha=>hq a b (by simp [ha]))
theorem Df {α:Type}{R:Rep α}{e:TypeId}{j sz:Nat}{v:Value}{xs:List α}{L:List Chunk}(f:α→Nat)(hf: ∀S w vs x,R.rel S w vs x→ ∃A c,vs[j]? =some (.slice A (f x) c))(i:Nat)(hi:L[i]? =some (ie R e j sz v xs)):Cv L (L.set i (jQ e R.sz j sz v (xs.map f) none)):=fun Z w h=>by
 have h1:=SepL.weak h (bf hi) (d:=jQ e R.sz j sz v (xs.map f) none) fun T S ⟨Q,vss,h1,h2,h3,h4,h5⟩=>⟨Q,vss,h1,h2,wZ h3,Cw f h3 fun vs x hv hr=>by
  obtain ⟨A,c,g⟩:=hf _ _ _ _ hr
  exact ⟨A,c,g,h4 vs hv _ g⟩,by rw [List.length_map];exact h5,fun _ h=>by cases h⟩
 rw [fS Z hi] at h1;exact h1
theorem xI {e:TypeId}{sr j sz:Nat}{v:Value}{ns:List Nat}{f:Option Value}{L:List Chunk}(i:Nat)(hi:L[i]? =some (jQ e sr j sz v ns f)):Cv L (L.set i (jQ e sr j sz v ns none)):=fun Z w h=>by
 have h1:=SepL.weak h (bf hi) (d:=jQ e sr j sz v ns none) fun T S ⟨Q,hs,h1,h2,h3,h4,h5,_⟩=>⟨Q,hs,h1,h2,h3,h4,h5,fun _ h=>by cases h⟩
 rw [fS Z hi] at h1;exact h1
theorem sB {e:TypeId}{sr j sz:Nat}{v:Value}{ns:List Nat}{f:Option Value}:Pl v ns.length (jQ e sr j sz v ns f):=fun T S w ⟨Q,hs,h1,h2,h3,h4,h5,h6⟩=>by
 rcases h5.2 with ⟨rfl,h0⟩|⟨g,cap,cur,rfl, -⟩
 ·exact ⟨none,0,by rw [h0],fun h=>by omega⟩
 exact ⟨_,cap,J,fun _=>⟨g,0,J⟩⟩
theorem Bw {e:TypeId}{sr j sz:Nat}{v:Value}{ns:List Nat}{A:Option Addr}{n c:Nat}:Pl (.slice A n c) n (jQ e sr j sz v ns (some (.slice A n c))):=fun T S w ⟨Q,hs,h1,h2,h3,h4,h5,h6⟩=>by
 obtain ⟨A',n',c',e2,g7⟩:=h6 _ rfl
 injection e2 with q1 q2 q3
 subst q1 q2 q3;refine ⟨A,c,J,fun h0=> ?_⟩;obtain ⟨b,tb,cur,e3, -⟩:=g7 h0;exact ⟨b,0,e3⟩
theorem xn {t:TypeId}{x:Operand}{v:Value}{ns:List Nat}{f:Option Value}{e1:TypeId}{sr j sz k n:Nat}(i:Nat)(hi:L[i]? =some (jQ e1 sr j sz v ns f))(hx:bK s x=some (bO v k sr j))(hu:gk P t=true)(hn:ns[k]? =some n)(hj:Nat.ble (j+1) sr=true):OpX P s L ⟨d,.load t x,ty,pos,af,gd⟩ fun u L'=> ∃A c,u=.slice A n c∧L'=L.set i (jQ e1 sr j sz v ns (some (.slice A n c))):=fun ρ hρ Z w hw=>by
 obtain ⟨T,S,hT⟩:=hw;obtain ⟨Q,hs,h1,h2,h3,h4,h5,h6⟩:=hT.ok (bf hi);obtain ⟨h,g1,A,c,g2,g3⟩:=h4.get hn;have hk:k<ns.length:=(List.getElem?_eq_some_iff.1 hn).1;have hj':=Nat.le_of_ble_eq_true hj;rcases h5.2 with ⟨rfl,h0⟩|⟨g,cap,cur,rfl,p1,p2,p3,p4,p5,p6⟩
 ·omega
 have hx':bK s x=some (.pointer (some ⟨g,k*sr+j,none⟩)):=by rw [hx];simp [bO]
 have hcell:w.cell? ⟨g,k*sr+j,none⟩=some (.slice A n c):=by
  have hfl:=lJ h3 g1 h;have hl:=h3 h (List.mem_of_getElem? g1)
  have h7:hs.flatten[k*sr+j]? =some (.slice A n c):=by
   have hlen:hs.flatten.length=ns.length*sr:=h5.1
   have hle:k*sr+sr≤ns.length*sr:=by rw [←Nat.succ_mul];exact Nat.mul_le_mul_right _ hk
   rw [hfl.1,GE,List.getElem?_append_right (by rw [List.length_take];omega),List.length_take,show k*sr+j - min (k*sr) hs.flatten.length=j by omega,List.getElem?_append_left Y];exact g2
  have h8:=ew (cap:=cap) p2 p6 (k*sr+j) _ h7
  rwa [Nat.zero_add] at h8
 have hev:=mg (C:=(· =w)) (d:=d) (ty:=ty) (pos:=pos) (af:=af) (gd:=gd) hx' hu (tO (p:=fun w=>w.cell? ⟨g,k*sr+j,none⟩=some (.slice A n c)) hcell) ρ hρ w rfl
 have hfin:SepL ((L++Z).set i (jQ e1 sr j sz (.slice (some ⟨g,0,none⟩) ns.length cap) ns (some (.slice A n c)))) w:=by
  refine hT.upd (bf hi) (Agr.refl _ _) (T':=T i) (fun _=> .inl) (fun q hq=>hT.lt hq) ⟨Q,hs,h1,h2,h3,h4,h5,fun u hu=> ?_⟩;cases hu;exact g3
 rw [fS Z hi] at hfin;exact .inl ⟨_,w,_,hev,hfin,A,c,J,J⟩
theorem Ay {t e1:TypeId}{x y:Operand}{v u:Value}{ns:List Nat}{A:Option Addr}{n c sr j sz k off:Nat}(i:Nat)(hi:L[i]? =some (jQ e1 sr j sz v ns (some (.slice A n c))))(hx:bK s x=some (bO (.slice A n c) k sz off))(hy:bK s y=some u)(hv:u.cells.toList=[u])(hs:dJ P t 1=true)(h1:u.oneCell'=true)(hk:k<n)(hle:Nat.ble (off+1) sz=true):OpX P s L ⟨d,.store t x y,ty,pos,af,gd⟩ fun _ L'=>L'=L:=fun ρ hρ Z w hw=>by
 obtain ⟨T,S,hT⟩:=hw;obtain ⟨Q,hs',g1,g2,g3,g4,g5,g6⟩:=hT.ok (bf hi);have hle:=Nat.le_of_ble_eq_true hle;obtain ⟨A',n',c',e2,g7⟩:=g6 _ rfl
 injection e2 with q1 q2 q3
 subst q1 q2 q3;obtain ⟨b,tb,cur,rfl,k1,k2,k3⟩:=g7 Y
 have hx':bK s x=some (.pointer (some ⟨b,k*sz+off,none⟩)):=by rw [hx];simp [bO]
 have hlen:k*sz+sz≤n*sz:=by rw [←Nat.succ_mul];exact Nat.mul_le_mul_right _ hk
 obtain ⟨w',e1',e2',e3'⟩:=fq (P:=P) (t:=tb) [u] w b (k*sz+off) 0 cur k2 (by simp only [List.length_singleton];omega) (by simp [h1]);refine .inr (.inl ⟨w',L,?_,?_,J⟩)
 ·unfold execOp
  have hcs:u.cells= #[u]:=by rw [←Array.toArray_toList (xs:=u.cells),hv]
  simp only [hρ x _ hx',hρ y _ hy,Instr.storeAt,Instr.sureAddr,storeVar,Sem.run_bind,Sem.run_pure,Result.andThen_ok,eU hs w,hcs,List.size_toArray,List.length_singleton,ne_eq,not_true,if_false,e1']
 have hb:T i b:=g1 b k1
 have hst: ∀{u2:Value},inB Q w sz u2→inB Q w' sz u2:=fun h=>h.store e2' k2 e3' (wb ..)
 have hfin:SepL ((L++Z).set i (jQ e1 sr j sz v ns (some (.slice (some ⟨b,0,none⟩) n c)))) w':=by
  refine hT.upd (bf hi) (T':=T i) (Agr.of_fr e2' fun q hq e=>hq (e▸hb)) (fun _=> .inl) (fun q hq=>Nat.lt_of_lt_of_le (hT.lt hq) e2'.size) ?_;refine ⟨Q,hs',g1,g2,g3,g4.imp fun _ _ ⟨A,c,p1,p2⟩=>⟨A,c,p1,hst p2⟩,ma g5 (Agr.of_fr e2' (X:=fun q=>q≠b) fun q hq=>hq) fun q hq e=>(g2 q hq).2 (e▸k1),fun u2 hu=>hst (g6 u2 hu)⟩
 rw [fS Z hi] at hfin
 have e9:L.set i (jQ e1 sr j sz v ns (some (.slice (some ⟨b,0,none⟩) n c)))=L:=by
  apply List.ext_getElem?;intro q;by_cases e:i=q
  ·subst e;rw [List.getElem?_set_self (List.getElem?_eq_some_iff.1 hi).1,hi]
  rw [List.getElem?_set_ne e]
 rw [e9] at hfin;exact hfin
end
end
end Go.Proofs.YtmimkglhbmcokaaGreat