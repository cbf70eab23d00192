/- Merged texts: part 2. No conditions of their own. -/
import Derived.Test.YthhiddkljcacaaaGreatG1
import Derived.Lib.AppendZeros
import Derived.LoopNIn
import Derived.KernelRfl
import Derived.Shelf.Small.Bits
import Derived.Shelf.Small.Wraps
import Derived.Shelf.Strconv.Itoa0
import Derived.Shelf.Slices.Turned
import Derived.Ground.Names2Prog
import Derived.Shelf.Slices.SearchI
import Derived.Shelf.Slices.Empties
import Derived.Ground.SlgmProg
import Derived.Shelf.SortM.Plain
import Derived.Shelf.SortM.SortNone
import Derived.Test.YthhiddkljcacaaaGreatProg
import Derived.Lib.OwnBridge
import Derived.Test.YthhiddkljcacaaaGreatChecked
import Derived.ProofKit
namespace Go.Proofs.YthhiddkljcacaaaGreat
variable {a:Act}{listed:Array Bool}{af:Array Edge}{ops:Array Oper}{ats:Array TypeId}{caps:Array Value}{assign body c:Code}{X:Cx}{Q:Exit->Act->World->Prop}{f gf:FuncId}{K:K3}{N:List (Nat×Operand)}{vs:List (Nat×Value)}{ds E:List Nat}{l F:List Oper}{xs:List Operand}{Bs:List V3}{vss:List V4}{by_ z h i j k m n off q':Nat}{p:Nat->Oper->Prop}{S:Nat->Prop}{o o':Oper}{g x y:Operand}{gd:Option (Nat×Bool)}{je:Option Exit}{P:Program}{pos:String}{α β ι ι0 ρ:Type}{e t ty:TypeId}{L L' D L2 M Z B:V3}{cs us:V4}{u v vw:Value}{R:Value->V3->Prop}{C:World->Prop}{s:au}
section
open Go.RowKit
noncomputable abbrev V5:=Tryz.prog
theorem z9:type_of% Tryz.underlying43:=Tryz.underlying43
def jp (e:Option Exit)(n r:Option ρ)(x:Nat->Option ρ):Option ρ:=match e with
 |none=>n
 |some .ret=>r
 |some (.exit i)=>x i
 |some _=>none
theorem oI {e:Exit}(L:V3)(h:L'=L)(k:K e s L):K e s L':=h▸k
theorem abu {K':K3}(h:Wq X c K' s L)(i:∀e s L,K' e s L-> ∃(ι:Type) (Q:ι->V3),L=[cP Q]/\ ∀x,K e s (Q x)):Wq X c K s L:=fun H t a w l j hw=>wpIn_mono (h H t a w l j hw) fun e u w' ⟨d,L',Ds',q,p,o,n⟩=>by
 obtain ⟨ι,Q,rfl,m⟩:=i _ _ _ n;obtain ⟨x,f⟩:=gr o;exact ⟨d,Q x,Ds',q,p,by simpa using f,m x⟩
theorem GB (h:Cv L L'):RK (some .ret) L' .ret s L:=⟨.inr ⟨rfl,rfl⟩,h⟩
theorem oY (h:Cv L L'):RK none L' .normal s L:=⟨.inl ⟨rfl,rfl⟩,h⟩
def jI (P:Program)(L:V3)(s:au)(r:ResultVar)(v:Value):Prop:=match r with
 | .tmp t=>cq s t=some v
 | .cell t ty=> ∃b,cq s t=some (.pointer (some ⟨b,0,none⟩))/\ ∀Z w,Sp Z L w->(loadVar ty ⟨b,0,none⟩).run P w=.ok v w
def Hh:V4->Value
 | [v]=>v
 |vs=> .tuple vs.toArray
def qp (c:Array Value)(r:ResultVar):Sem Value:=match r with
 | .tmp t=>pure (c.getD t undef)
 | .cell a t=>do loadVar t (<-asAddr (c.getD a undef))
theorem Sb (c:Func)(a:Array Value):results c a=(do let vs<-c.results.mapM (qp a);pure (if h:vs.size=1 then vs[0] else .tuple vs)):=rfl
theorem JG (c:Fx X s a){w:World}(hw:Sp Z L w): ∀{rs:List ResultVar} {vs:V4},All2 (jI X.P L s) rs vs->(rs.mapM (qp a.tmps)).run X.P w=.ok vs w
 |_,_,.nil=>by simp
 | r::rs,_,.cons (b:=vr) d j=>by
  have f:=JG c hw j
  have i:(qp a.tmps r).run X.P w=.ok vr w:=by
   cases r with
   |tmp t=>
    have e:=c.at_ t _ d;unfold qp;simp only [XC,e]
   |cell t ty=>
    obtain ⟨b,m,l⟩:=d;have e:=c.at_ t _ m;unfold qp;simp only [e,asAddr,XB,XC,XA,l _ _ hw]
  rw [List.mapM_cons,XB,i,XA,XB,f,XA,XC]
theorem me {c:Func}{rs:List ResultVar}{vs:V4}(hr:c.results=rs.toArray)(h:All2 (jI X.P L s) rs vs)(d:Hh vs=v)(e:Cv L L2)(i:R v L2):ts X c R .ret s L:=fun a f=>⟨v,L2,fun Z w hw=>by
 have m:=JG f hw h;rw [Sb,hr,XB];simp only [List.mapM_toArray]
 have j:(List.toArray<$>rs.mapM (qp a.tmps)).run X.P w=.ok vs.toArray w:=by
  show ((rs.mapM (qp a.tmps))>>=fun l=>pure l.toArray).run X.P w=_;rw [XB,m,XA,XC]
 rw [j,XA,XC];subst d
 match vs with
 | []=>rfl
 | [v]=>rfl
 |_::_::_=>simp [Hh],e,i⟩
theorem ng {t:Nat}(h:cq s t=some v):jI P L s (.tmp t) v:=h
theorem lV {t ty bt b:Nat}(i:Nat)(hi:L[i]? =some (ab b bt cs))(c:cq s t=some (.pointer (some ⟨b,0,none⟩)))(a:ml P ty cs.length=true):jI P L s (.cell t ty) (.agg cs.toArray):=⟨b,c,fun Z w hw=>by
 obtain ⟨T,S, -,h⟩:=hw.get (bM hi);exact KW a h.all⟩
theorem TY {a:Addr}{w:World}(c:cz P t=true)(e:w.cell? a=some v):(loadVar t a).run P w=.ok v w:=by
 have f:(isAgg t).run P w=.ok false w:=by
  unfold cz at c;unfold isAgg
  cases d:P.underlying t with
  |none=>rw [d] at c;cases c
  |some u=>rw [d] at c;rw [XB,XH d];cases u<;>first|rfl|(cases c)
 simp only [loadVar,XB,XC,XA,f,Wa,if_false,run_load,e]
theorem Gc {t ty bt b:Nat}(i:Nat)(hi:L[i]? =some (ab b bt [v]))(c:cq s t=some (.pointer (some ⟨b,0,none⟩)))(a:cz P ty=true):jI P L s (.cell t ty) v:=⟨b,c,fun Z w hw=>by
 obtain ⟨T,S, -,h⟩:=hw.get (bM hi);exact TY a (h.at (by simp))⟩
section
variable {d:Option Nat}
theorem Jb {sz:Nat}: ∀{vss:List V4},(∀r∈vss,r.length=sz)-> ∀{k:Nat} {r:V4},vss[k]? =some r-> ∀r':V4,vss.flatten=vss.flatten.take (k*sz)++r++vss.flatten.drop (k*sz+sz)/\(vss.set k r').flatten=vss.flatten.take (k*sz)++r'++vss.flatten.drop (k*sz+sz)
 | [],_,k,r,h,_=>by simp at h
 |a::l,c,0,r,h,r'=>by
  simp only [WD,Xy] at h;subst h;have e:=c a (by simp);simp [<-e]
 |a::l,c,k+1,r,h,r'=>by
  simp only [WC] at h;obtain ⟨i,f⟩:=Jb (fun x d=>c x (by simp [d])) h r';have e:=c a (by simp)
  have o:(k+1)*sz=a.length+k*sz:=by rw [e,Xi];omega
  have n: ∀m:Nat,(a++l.flatten).take (a.length+m)=a++l.flatten.take m:=fun m=>by rw [List.take_append,Xf W,Nat.add_sub_cancel_left]
  have j: ∀m:Nat,(a++l.flatten).drop (a.length+m)=l.flatten.drop m:=fun m=>by rw [List.drop_append,Wo W,Nat.add_sub_cancel_left,XN]
  rw [List.set_cons_succ,Wz,Wz,o,f,Nat.add_assoc,n,j];refine ⟨?_,by simp only [VT]⟩
  conv=>lhs;rw [i]
  simp only [VT]
theorem U4 {R:Rep α}{w:World}{xs:List α}(h:All2 (R.rel S w) vss xs): ∀r∈vss,r.length=R.sz:=by
 induction h with
 |nil=>intro r hr;cases hr
 |cons c _ a=>
  intro r hr;rcases WZ.1 hr with rfl|hr
  ·exact R.len c
  exact a r hr
theorem acg (cs us:V4)(o:Nat)(h:o+us.length<=cs.length):(ow cs.toArray o us).toList=cs.take o++us++cs.drop (o+us.length):=By cs us o h
theorem dX {R:Rep α}{xs:List α}{z:α}(i:Nat)(hi:L[i]? =some (aK R e v xs))(hx:ao s x=some (bD v k R.sz off))(hy:ao s y=some u)(hv:u.cells.toList=us)(hs:eI P t us.length=true)(H:us.all (·.oneCell')=true)(U:k<xs.length)(n:Nat.ble (off+us.length) R.sz=true)(hrel:∀S w vs xk,xs[k]? =some xk->R.rel S w vs xk->Ro L S w->R.rel S w (vs.take off++us++vs.drop (off+us.length)) z):OpX P s L ⟨d,.store t x y,ty,pos,af,gd⟩ fun _ L'=>L'=L.set i (aK R e v (xs.set k z)):=fun ρ hρ Z w hw=>by
 obtain ⟨T,S,p⟩:=hw;obtain ⟨vss,A,D⟩:=p.ok (bM hi);have n:=Xl n;rcases D with ⟨D,K⟩|⟨h0, -⟩
 rotate_left
 ·omega
 rcases D.2 with ⟨rfl,h0⟩|⟨g,cap,a,rfl,q1,q2,O,q4,N,q6⟩
 ·omega
 obtain ⟨xk,f⟩: ∃xk,xs[k]? =some xk:=⟨_,WF U⟩;obtain ⟨vs,l,hr⟩:=A.get f;have hl:=R.len hr
 have hlen:k*R.sz+R.sz<=xs.length*R.sz:=by rw [<-Nat.succ_mul];exact Xq _ U
 have hcap0:cap*R.sz<=a.size:=by
  obtain ⟨c0,H, -,h3⟩:=N;rw [h3];exact Xq _ H
 have hcap:xs.length*R.sz<=cap*R.sz:=Xq _ O
 have hx':ao s x=some (.pointer (some ⟨g,k*R.sz+off,none⟩)):=by rw [hx];simp [bD]
 obtain ⟨w',e1,M,e3⟩:=rh (P:=P) (t:=e) us w g (k*R.sz+off) 0 a q2 W H;have Q:=hrel S w vs xk f hr p.ros.app;have o:=Jb (U4 A) l (vs.take off++us++vs.drop (off+us.length));refine .inr (.inl ⟨w',L.set i (aK R e (.slice (some ⟨g,0,none⟩) xs.length cap) (xs.set k z)),?_,?_,J⟩)
 ·unfold execOp
  have F:u.cells=us.toArray:=by rw [<-hv]
  simp only [hρ x _ hx',hρ y _ hy,Instr.storeAt,Instr.sureAddr,storeVar,XB,XC,XA,lP hs w,F,List.size_toArray,ne_eq,not_true,if_false,e1]
 have hfin:SepL ((L++Z).set i (aK R e (.slice (some ⟨g,0,none⟩) xs.length cap) (xs.set k z))) w':=by
  refine p.upd (bM hi) (T':=T i) (Agr.of_fr M fun q m e=>m (e▸K g J)) (fun _=> .inl) (fun q m=>Xo (p.lt m) M.size) ?_
  have V:Agr S w w':=Agr.of_fr M fun q m e=>p.ro (K g rfl) (e▸m)
  refine ⟨vss.set k (vs.take off++us++vs.drop (off+us.length)),(A.imp fun _ _=>R.loc V).set (R.loc V Q) k,.inl ⟨?_,K⟩⟩;rw [WT]
  have hnew:((vss.set k (vs.take off++us++vs.drop (off+us.length))).flatten).length=xs.length*R.sz:=by
   have:=oE (R:=R) (S:=S) (w:=w) (A.set Q k);rw [this,WT]
  refine ⟨hnew,.inr ⟨g,cap,_,J,Xt _,e3,O,q4,by rw [wh];exact N,?_⟩⟩
  have hcur:a=a.toList.toArray:=by simp
  have E:k*R.sz+off+us.length<=a.toList.length:=by simp;omega
  rw [Nat.add_zero,hcur,acg _ _ _ E,o.2];have C:vss.flatten=a.toList.take (xs.length*R.sz):=q6.symm;have hFl:vss.flatten.length=xs.length*R.sz:=D.1;apply Wu;intro j;have hvl:vs.length=R.sz:=hl
  have key: ∀c,c<R.sz->vs[c]? =vss.flatten[k*R.sz+c]? :=fun c hj'=>by
   have X:vs[c]? =some (vs[c]'W):=WF W;rw [X];exact (sy A l X).symm
  by_cases B:j<xs.length*R.sz
  ·rw [WL,if_pos B];by_cases c1:j<k*R.sz
   ·rw [VT,WA (by rw [XJ];simp;omega),WL,if_pos W,VT,WA (by rw [XJ];omega),WL,if_pos c1,C,WL,if_pos B]
   by_cases c2:j<k*R.sz+off
   ·rw [VT,WA (by rw [XJ];simp;omega),WL,if_pos c2];rw [VT,WB (by rw [XJ];omega),XJ,show min (k*R.sz) vss.flatten.length=k*R.sz by omega];rw [VT,VT,WA (by rw [XJ];omega),WL,if_pos W,key _ W,show k*R.sz+(j - k*R.sz)=j by omega,C,WL,if_pos B]
   by_cases c3:j<k*R.sz+off+us.length
   ·rw [VT,WB (by rw [XJ];simp;omega),XJ,show min (k*R.sz+off) a.toList.length=k*R.sz+off by omega,WA W];rw [VT,WB (by rw [XJ];omega),XJ,show min (k*R.sz) vss.flatten.length=k*R.sz by omega];rw [VT,VT,WB (by rw [XJ];omega),XJ,show min off vs.length=off by omega,WA W]
    congr 1;omega
   rw [VT,WB (by rw [XJ];simp;omega),XJ,show min (k*R.sz+off) a.toList.length=k*R.sz+off by omega,WB W,WE];rw [VT,WB (by rw [XJ];omega),XJ,show min (k*R.sz) vss.flatten.length=k*R.sz by omega];rw [VT,VT,WB (by rw [XJ];omega),XJ,show min off vs.length=off by omega,WB W];by_cases c4:j<k*R.sz+R.sz
   ·rw [WA (by rw [WQ];omega),WE,key _ W,C,WL,if_pos W]
    congr 1;omega
   rw [WB (by rw [WQ];omega),WQ,WE,C,WL,if_pos W]
   congr 1;omega
  rw [WL,if_neg B];refine (WG ?_).symm;rw [<-o.2,hnew];omega
 rw [gI Z hi] at hfin;exact hfin
theorem R4 {ek:α->Value}{ev:β->Value}{kt et:TypeId}{n:Int}(a:ao s x=some (.int .i64 n))(c:P.underlying t=some (.map kt et)):OpX P s L ⟨d,.makeMap t (some x),ty,pos,af,gd⟩ fun u L'=> ∃m,u=.map (some m)/\L'=aA ek ev m ([]:List (α×β))::L:=fun ρ hρ Z w hw=>by
 refine .inl ⟨.map (some w.heap.size),w.alloc (.map #[] 0),aA ek ev w.heap.size []::L,?_,SepL.new hw (Agr.of_ext ((Ext.refl w).alloc _)) fun _ S _=>⟨(· =w.heap.size),fun q e=>by subst e;simp,rfl, #[],0,heap_alloc_new w _,by simp,by simp,by simp⟩,_,J,J⟩;unfold execOp;simp only [Xw,hρ x _ a,Instr.makeMap,XB,XH c,XA,asInt];rfl
theorem ou {w:World}{c:Nat}{code:BoundsCode}(h:m<=c):(Instr.sliceBound (.int .i64 (m:Int)) c code).run P w=.ok m w:=by
 unfold Instr.sliceBound;simp only [asIntOf,XB,XC,XA];rw [if_pos ⟨by omega,by omega⟩];simp
theorem KT {t e sz:Nat}{z:Operand}{A:Option Addr}{c:Nat}(a:ao s x=some (.slice A n c))(f:P.underlying t=some (.slice e))(i:eI P e sz=true)(j:ao s y=some (.int .i64 (h:Int)))(hm:ao s z=some (.int .i64 (m:Int)))(o:h<=m)(l:m<=c):Ev P s C ⟨d,.slice t x none (some y) (some z),ty,pos,af,gd⟩ (.slice (if m=0 then A else A.map (·.add 0)) h m):=fun ρ hρ w _=>by
 unfold execOp;simp only [Xw,Option.map_none,hρ x _ a,hρ y _ j,hρ z _ hm,Instr.sliceAt,Instr.slice,Instr.sliceBounds,XB,XH f,XA,ou l,ou o,lP i w,XC,Nat.zero_mul];rfl
end
def kz (R:Rep α)(e:TypeId)(v:Value)(xs:List α)(vw:Value)(k:Nat):Chunk where
 ok T S w:= ∃vss,All2 (R.rel S w) vss xs/\((ownsX w e R.sz v xs.length vss.flatten/\ ∀q,v.ownBlock=some q->T q)\/(xs.length=0/\ ∃A,v=.slice A 0 0))/\k<=xs.length/\ ∃A cv,vw=.slice A k cv/\k<=cv/\cv<=9223372036854775807/\(0<k-> ∃b,A=some ⟨b,0,none⟩/\T b/\b<w.heap.size/\CellsAt w b 0 (vss.take k).flatten)
 loc:=fun h ⟨vss,d,c,a,A,cv,o,l,n,m⟩=>⟨vss,d.imp fun _ _=>R.loc (h.mono fun _=> .inr),c.imp (fun ⟨c,a⟩=>⟨KA c h fun q j=> .inl (a q j),a⟩) id,a,A,cv,o,l,n,fun p=>by
  obtain ⟨b,u,i,f,t⟩:=m p;exact ⟨b,u,i,Xo f h.size,t.agr h (.inl i) f⟩⟩
 mono:=fun h ⟨vss,d,c,a⟩=>⟨vss,d.imp fun _ _=>R.mono h,c,a⟩
 ro:=false
 dup:=fun h=>Bool.noConfusion h
theorem La {R:Rep α}{xs:List α}{T:Nat->Prop}{w:World}(h:(kz R e v xs vw k).ok T S w):(aK R e v xs).ok T S w:=by
 obtain ⟨vss,c,a, -⟩:=h;exact ⟨vss,c,a⟩
theorem aaw {R:Rep α}{xs:List α}:gi R v xs (kz R e v xs vw k):=fun T S w h=>aw T S w (La h)
theorem FO {R:Rep α}{xs:List α}:gi R vw (xs.take k) (kz R e v xs vw k):=fun T S w ⟨vss,j,_,o,A,cv,i,n,f,d⟩=>by
 have a:(xs.take k).length=k:=by rw [XJ];omega
 refine ⟨A,cv,by rw [a];exact i,by omega,f,fun c=> ?_⟩;rw [a] at c;obtain ⟨b,m,q,p,l⟩:=d c;exact ⟨b,0,vss.take k,m,j.take k,l⟩
theorem Ur {R:Rep α}{xs:List α}(i:Nat)(hi:L[i]? =some (aK R e v xs)):Cv L (L.set i (kz R e v xs (Y none 0 0) 0)):=fun Z w h=>by
 have a:=h.weak (bM hi) (d:=kz R e v xs (Y none 0 0) 0) fun T S ⟨vss,a,c⟩=>⟨vss,a,c,Xt _,none,0,rfl,Xm _,by omega,fun h=>absurd h W⟩
 rw [gI Z hi] at a;exact a
theorem SW {R:Rep α}{xs:List α}(i:Nat)(hi:L[i]? =some (kz R e v xs vw k)):Cv L (L.set i (aK R e v xs)):=fun Z w h=>by
 have a:=h.weak (bM hi) (d:=aK R e v xs) fun T S h=>La h
 rw [gI Z hi] at a;exact a
section
variable {d:Option Nat}
theorem abq {R:Rep α}{t e sz:Nat}{z:Operand}{xs:List α}(i:Nat)(hi:L[i]? =some (kz R e v xs vw k))(D:ao s x=some v)(E:P.underlying t=some (.slice e))(H:eI P e sz=true)(F:R.sz=sz)(K:ao s y=some (.int .i64 (n:Int)))(hm:ao s z=some (.int .i64 (n:Int)))(N:n<=xs.length):OpX P s L ⟨d,.slice t x none (some y) (some z),ty,pos,af,gd⟩ fun u L'=> ∃A,u=.slice A n n/\L'=L.set i (kz R e v xs (.slice A n n) n):=fun ρ hρ Z w hw=>by
 have j:=hw;obtain ⟨T,S,o⟩:=hw;obtain ⟨vss,q,a,Q⟩:=o.ok (bM hi);obtain ⟨A,c,rfl,V,U, -⟩:=aaw _ _ _ (o.ok (bM hi));have hrun:=KT (C:=fun _=>True) (d:=d) (ty:=ty) (pos:=pos) (af:=af) (gd:=gd) D E H K hm (Xm _) W ρ hρ w trivial;refine .inl ⟨_,w,L.set i (kz R e (.slice A xs.length c) xs (.slice (if n=0 then A else A.map (·.add 0)) n n) n),hrun,?_,_,J,J⟩
 have hfin:SepL ((L++Z).set i (kz R e (.slice A xs.length c) xs (.slice (if n=0 then A else A.map (·.add 0)) n n) n)) w:=by
  refine j.weak (bM hi) fun T S ⟨vss,q,a,Q⟩=>⟨vss,q,a,N,_,_,J,Xm _,by omega,fun h0=> ?_⟩
  rw [if_neg W];rcases a with ⟨a,O⟩|⟨M, -⟩
  ·rcases a.2 with ⟨f,M⟩|⟨g,cap,l,f,p1,m,p3,p4,X,B⟩
   ·omega
   injection f with f e2 e3
   subst f;refine ⟨g,by simp [iH],O g rfl,Blk.lt (t:=e) (cs:=l) m,?_⟩;have p:=qb (cap:=cap) m B;rw [<-Xe n vss,List.flatten_append] at p;exact p.left
  omega
 rw [gI Z hi] at hfin;exact hfin
end
end
section
open Go.RowKit
def GU (p:Prop):Chunk where
 ok _ _ _:=p
 loc:=fun _ h=>h
 mono:=fun _ h=>h
 ro:=true
 dup:=fun _ _ _ _ h=>h
theorem abT {w:World}{p:Prop}(h:Sp Z L w)(i:Nat)(hi:L[i]? =some (GU p)):p:=by
 obtain ⟨T,S,h⟩:=h.get (bM hi);exact h
theorem Np {p:Prop}(a:p):Cv L (GU p::L):=fun Z w h=>SepL.fact0 h fun _=>a
inductive Rch (ops:Array Oper):Nat->Nat->Prop
 |one {j:Nat} {o:Oper} {e:Edge}:ops[j]? =some o->e∈o.after->Region.binds .any e=true->Rch ops j e.on
 |more {j k:Nat} {o:Oper} {e:Edge}:Rch ops j k->ops[k]? =some o->e∈o.after->Region.binds .any e=true->Rch ops j e.on
def BM (ops:Array Oper)(listed:Array Bool):Prop:= ∀k o e,listed.getD k false=true->ops[k]? =some o->e∈o.after->Region.binds .any e=true->listed.getD e.on false=true
theorem E2 (e:BM ops listed)(hr:j∈Region.ready .any ops listed)(h:Rch ops j i):listed.getD i false=true:=by
 induction h with
 |one a c hb=>obtain ⟨_,o',ho',hall⟩:=mem_ready.1 hr;rw [a] at ho';cases ho';exact hall _ c hb
 |more _ a c hb d=>exact e _ _ _ d a c hb
theorem El (h:(listed.setIfInBounds i true).getD k false=true):k=i\/listed.getD k false=true:=by
 by_cases e:i=k
 ·exact .inl e.symm
 rw [getD_set_ne false e] at h;exact .inr h
theorem Sw (f:BM ops listed)(hr:j∈Region.ready .any ops listed):BM ops (listed.setIfInBounds j true):=by
 intro k o e a c d hb;rcases El a with i|a
 ·subst i;obtain ⟨_,o',ho',hall⟩:=mem_ready.1 hr;rw [c] at ho';cases ho';exact getD_set_true (hall _ d hb)
 exact getD_set_true (f _ _ _ a c d hb)
def nl (ops:Array Oper)(k:Nat):List Nat:=match ops[k]? with
 |some o=>(o.after.toList.filter (Region.binds .any)).map (·.on)
 |none=> []
def GW (ops:Array Oper)(R:List Nat)(k:Nat):List Nat:=if R.contains k then nl ops k++R else R
def sU (ops:Array Oper)(t:Nat):List Nat:=(List.range t).reverse.foldl (GW ops) (nl ops t)
theorem FE {x:Nat}(h:x∈nl ops k): ∃o e,ops[k]? =some o/\e∈o.after/\Region.binds .any e=true/\e.on=x:=by
 unfold nl at h;split at h
 ·rename_i o a
  obtain ⟨e,c,rfl⟩:=W3.1 h;obtain ⟨f,d⟩:=W2.1 c;exact ⟨o,e,a,by simpa using f,d,rfl⟩
 cases h
theorem EV {t:Nat}: ∀x∈sU ops t,Rch ops t x:=by
 unfold sU
 have key: ∀(l:List Nat) (R:List Nat),(∀x∈R,Rch ops t x)-> ∀x∈l.foldl (GW ops) R,Rch ops t x:=by
  intro l
  induction l with
  |nil=>intro R h;exact h
  | cons k l i=>
   intro R h;refine i _ fun x a=> ?_
   unfold GW at a;split at a
   ·rename_i j
    rcases WY.1 a with f|f
    ·obtain ⟨o,e,c,d,hb,rfl⟩:=FE f;exact .more (h k (by simpa using j)) c d hb
    exact h x f
   exact h x a
 refine key _ _ fun x a=> ?_
 obtain ⟨o,e,c,d,hb,rfl⟩:=FE a;exact .one c d hb
def OpAt (P:Program)(ρ:Operand->Value)(o:Oper)(R:Value->V3->Prop)(Z:V3)(w:World):Prop:=
  (∃v w' L',(execOp ρ o).run P w=.ok (.value v) w'/\Sp Z L' w'/\R v L')\/
  (∃w' L',(execOp ρ o).run P w=.ok .skip w'/\Sp Z L' w'/\R undef L')\/
  (∃f args,(execOp ρ o).run P w=.ok (.enter f args) w/\Calls P f args w fun e w'=> ∃v L',e=.returned v/\Sp Z L' w'/\R v L')\/
  (∃l f tmps assign body,(execOp ρ o).run P w=.ok (.round l f tmps assign body) w/\RoundIn Fence.wide 0 P l f tmps assign body w fun e w'=> ∃v L',e=.returned v/\Sp Z L' w'/\R v L')
def gA (X:Cx)(ops:Array Oper)(K:K3)(z:Nat)(listed:Array Bool)(s:au)(L:V3):Prop:= ∀(H:V3) (c:List Nat) (a:Act) (w:World),Fx X s a->a.defers=c.map kZ->Sp (c.map cO++H) L w->wpAnyIn (eO X.r) 0 X.P .any ops (iD X H (mj K)) z listed a w
section
variable {d:Nat}{op:Op}
theorem fw (hr:Region.ready .any ops listed=[])(h:K .normal s L):gA X ops K z listed s L:=by
 intro H f a w e c hw;have d:iD X H (mj K) .normal a w:=⟨s,L,f,e,c,hw,rfl,h⟩
 cases z with
 |zero=>exact ⟨hr,d⟩
 |succ n=>exact ⟨fun _=>d,by rw [hr];simp⟩
theorem eF {t:au}(h:gA X ops K z listed t L')(d:dK s t)(e:Cv L L'):gA X ops K z listed s L:=fun H i a w f c hw=>h H i a w (f.sub d) c (e _ _ hw)
theorem Oo (i:Nat)(hi:ops[i]? =some o)(hr:Region.ready .any ops listed=[i])(h:OpX X.P s L o R)(f:bQ o=true)(l:bu ops s o=some true)(m:tc X.n o.dst=true)(k:∀v L',R v L'->gA X ops K z (listed.setIfInBounds i true) (putE o.dst v s) L'):gA X ops K (z+1) listed s L:=
 fun H q a w d c hw=>⟨fun h=>absurd (hr.symm.trans h) (by simp),fun j e=>by
  rw [hr,W8] at e;subst e;unfold wpOpIn;rw [hi];simp only [lI d l,if_true];exact h.wpIn f d hw fun v L' w' p n=>k v L' p H q _ _ (d.putE v m) ((put_defers _ _ _).trans c) n⟩
theorem gP (i:Nat)(hi:ops[i]? =some ⟨some d,op,ty,pos,af,gd⟩)(hr:Region.ready .any ops listed=[i])(h:OpX X.P s L ⟨some d,op,ty,pos,af,gd⟩ R)(a:bQ ⟨some d,op,ty,pos,af,gd⟩=true)(c:bu ops s ⟨some d,op,ty,pos,af,gd⟩=some true)(e:Nat.ble (d+1) X.n=true)(k:∀v L',R v L'->gA X ops K z (listed.setIfInBounds i true) ((d,v)::s) L'):gA X ops K (z+1) listed s L:=Oo i hi hr h a c e k
theorem gv (i:Nat)(hi:ops[i]? =some ⟨none,op,ty,pos,af,gd⟩)(hr:Region.ready .any ops listed=[i])(h:OpX X.P s L ⟨none,op,ty,pos,af,gd⟩ R)(a:bQ ⟨none,op,ty,pos,af,gd⟩=true)(c:bu ops s ⟨none,op,ty,pos,af,gd⟩=some true)(k:∀v L',R v L'->gA X ops K z (listed.setIfInBounds i true) s L'):gA X ops K (z+1) listed s L:=Oo i hi hr h a c rfl k
theorem jt (i:Nat)(hi:ops[i]? =some ⟨some d,op,ty,pos,af,gd⟩)(hr:Region.ready .any ops listed=[i])(h:Ev X.P s (fun _=>True) ⟨some d,op,ty,pos,af,gd⟩ v)(a:bQ ⟨some d,op,ty,pos,af,gd⟩=true)(c:bu ops s ⟨some d,op,ty,pos,af,gd⟩=some true)(e:Nat.ble (d+1) X.n=true)(k:gA X ops K z (listed.setIfInBounds i true) ((d,v)::s) L):gA X ops K (z+1) listed s L:=gP i hi hr (GQ h) a c e fun _ _ ⟨j,f⟩=>by subst j f;exact k
theorem kD (i:Nat)(hi:ops[i]? =some ⟨some d,op,ty,pos,af,gd⟩)(hr:Region.ready .any ops listed=[i])(h:Rd X.P s L ⟨some d,op,ty,pos,af,gd⟩ v)(a:bQ ⟨some d,op,ty,pos,af,gd⟩=true)(c:bu ops s ⟨some d,op,ty,pos,af,gd⟩=some true)(e:Nat.ble (d+1) X.n=true)(k:gA X ops K z (listed.setIfInBounds i true) ((d,v)::s) L):gA X ops K (z+1) listed s L:=gP i hi hr (jH h) a c e fun _ _ ⟨j,f⟩=>by subst j f;exact k
end
def fG (m:Nat)(listed:Array Bool):List Nat:=(List.range m).filter fun i=>listed.getD i false
def xd (ops:Array Oper)(m:Nat)(E ds:List Nat)(pr:List (List Nat))(s:au)(n:Nat):Bool:=
 Region.noSelect ops&&E.all (fun q=>(match ops[q]? with|some o=>(List.range ops.size).all fun j=>Nat.beq j q||(nl ops j).contains q||(sU ops q).contains j||(match ops[j]? with|some oj=>o.apart ops oj|none=>true)|none=>false))&&GT ops&&decide (m<=ops.size)&&decide (ds.length=m)&&decide ds.Nodup&&ds.all (fun d=>Nat.ble (d+1) n&&s.all fun p=> !Nat.beq p.1 d)
 &&(List.range m).all (fun i=>(match ops[i]? with|some o=>o.dst==ds[i]? |none=>false)&&(pr.getD i []).all (fun k=>(sU ops i).contains k&&Nat.blt k m)&&decide (pr.getD i []).Nodup&&(nl ops i).all fun k=>Nat.blt k i)
 &&(List.range ops.size).all (fun t=>Nat.blt t m||(List.range m).all fun i=>E.contains i||(sU ops t).contains i)
def mo (ds:List Nat)(val:Nat->Value)(ix:List Nat)(s:au):au:=ix.map (fun i=>(ds.getD i 0,val i))++s
def eH (As:List (Value->V3))(val:Nat->Value)(ix:List Nat)(L:V3):V3:=(ix.flatMap fun i=>(As.getD i fun _=> []) (val i))++L
theorem AM: ∀(a b:au) (k:Nat) (v:Value),cq (a++b) k=some v->cq a k=some v\/(cq b k=some v)
 | [],_,_,_,h=> .inr h
 |(d,u)::a,b,k,v,h=>by
  rw [Wm,gm] at h;rw [gm];split at h
  ·rename_i e;rw [if_pos e];exact .inl h
  rename_i e
  rw [if_neg e];exact AM a b k v h
theorem sw: ∀(a:au) (k:Nat) (v:Value),cq a k=some v->(k,v)∈a
 | [],_,_,h=>by cases h
 |(d,u)::a,k,v,h=>by
  rw [gm] at h;split at h
  ·rename_i e;cases h;subst e;simp
  simp [sw a k v h]
theorem OpAt.wpIn {w:World}(h:OpAt X.P a.eval o R Z w)(n:bQ o=true){K:Act->World->Prop}(m:∀v L' w',R v L'->Sp Z L' w'->K (a.put o.dst v) w'):o.wpIn (eO X.r) 0 X.P a w K Q:=by
 refine ⟨fun _ _=>trivial,?_⟩
 have e:o.semAt (eO X.r).round a.eval=execOp a.eval o:=Oper.semAt_eq _ _ _ fun c t=>by unfold bQ at n;rw [t] at n;cases n
 rw [e];rcases h with ⟨v,w',L',j,i,d⟩|⟨w',L',j,i,d⟩|⟨f,args,j,i⟩|⟨l,f,tmps,assign,body,j,i⟩
 ·rw [j];exact m _ _ _ d i
 ·rw [j];exact m _ _ _ d i
 ·rw [j];refine ⟨(by intro h;cases h),?_⟩;have d:CallsIn (eO X.r) (0 - 1) X.P f args w _:=callsIn_wide.2 i;refine d.mono ?_;rintro e w' ⟨v,L',rfl,q,p⟩;exact m _ _ _ p q
 rw [j];refine ⟨(by intro h;cases h),?_⟩;have d:RoundIn (eO X.r) (0 - 1) X.P l f tmps assign body w _:=i;refine d.mono ?_;rintro e w' ⟨v,L',rfl,q,p⟩;exact m _ _ _ p q
theorem pK: ∀(ix:List Nat) (l:Array Bool),(jd l ix).size=l.size
 | [],_=>rfl
 |i::ix,l=>by show (jd (l.setIfInBounds i true) ix).size=_;rw [pK ix];simp
theorem E9: ∀(ix:List Nat) (l:Array Bool) (k:Nat),k<l.size->(jd l ix).getD k false=(l.getD k false||ix.contains k)
 | [],_,_,_=>by simp [jd]
 | i::ix,l,k,a=>by
  show (jd (l.setIfInBounds i true) ix).getD k false=_;rw [E9 ix _ k (by simpa using a)];by_cases e:i=k
  ·subst e;simp [a]
  rw [getD_set_ne false e];simp [show¬k=i from fun h=>e h.symm]
theorem kQ:i∈fG m listed↔i<m/\listed.getD i false=true:=by unfold fG;simp
theorem lst_nodup:(fG m listed).Nodup:=List.nodup_range.filter _
theorem BB {As:List (Value->V3)}{val:Nat->Value}{a b:List Nat}(h:a.Perm b):(a.flatMap fun i=>(As.getD i fun _=> []) (val i)).Perm (b.flatMap fun i=>(As.getD i fun _=> []) (val i)):=h.flatMap_right _
theorem ND {r:Option Nat}: ∀(z:Nat) (listed:Array Bool) (a:Act) (w:World),wpAnyIn (eO r) 0 P .any ops Q z listed a w->ns r P ops Q (fun _=>True) z listed a w
 |0,_,_,_,h=>h
 |z+1,listed,a,w,h=>⟨h.1,fun i hi=>wpOpIn_mono (fun a w c=> .inl ⟨trivial,ND z _ a w c⟩) (h.2 i hi)⟩
def QS (P:Program)(ops:Array Oper)(s:au)(L:V3)(o:Oper)(A:Value->V3):Prop:= ∀Z w,Sp Z L w-> ∃v,bu ops s o=some true/\Ev P s (fun _=>True) o v/\Sp Z (A v++L) w
def Hk (P:Program)(ops:Array Oper)(s:au)(L D:V3)(o:Oper)(A:Value->V3):Prop:= ∀Z w,Sp Z L w-> ∃v,bu ops s o=some true/\Ev P s (fun _=>True) o v/\Sp Z (A v++D) w
theorem fC {A:Value->V3}(h:Ev P s (fun _=>True) o v)(a:bu ops s o=some true)(k:Cv L (A v++D)):Hk P ops s L D o A:=fun _ _ hw=>⟨v,a,h,k _ _ hw⟩
theorem fq: ∀(i:Nat) (o:Oper),i<0->ops[i]? =some o->p i o:=fun i o h=>by omega
theorem bl (a:ops[n]? =some o')(c:p n o')(d:∀(i:Nat) (o:Oper),i<n->ops[i]? =some o->p i o): ∀(i:Nat) (o:Oper),i<n+1->ops[i]? =some o->p i o:=fun i o hi h=>by
 by_cases e:i=n
 ·subst e;rw [a] at h;cases h;exact c
 exact d i o W h
theorem fz: ∀q∈([]:List Nat), ∀(o:Oper),q<m->ops[q]? =some o->p q o:=fun q h=>by cases h
theorem fu (c:ops[q']? =some o')(d:p q' o')(f:∀q∈E, ∀(o:Oper),q<m->ops[q]? =some o->p q o): ∀q∈q'::E, ∀(o:Oper),q<m->ops[q]? =some o->p q o:=fun q a o hm h=>by
 rcases WZ.1 a with e|a
 ·subst e;rw [c] at h;cases h;exact d
 exact f q a o hm h
def nv (P:Program)(ops:Array Oper)(s:au)(L D:V3)(o:Oper)(A:Value->V3):Prop:= ∀Z w,Sp Z L w->(bu ops s o=some true/\ ∀ρ:Operand->Value,(∀x u,ao s x=some u->ρ x=u)->OpAt P ρ o (fun u L'=>Cv L' (A u++D)) Z w)\/(bu ops s o=some false/\Sp Z (A undef++D) w)
section
variable {A:Value->V3}
theorem fi (h:OpX P s L o R)(p:bu ops s o=some true)(k:∀u L',R u L'->Cv L' (A u++D)):nv P ops s L D o A:=fun Z w hw=> .inl ⟨p,fun ρ hρ=>by
 rcases h ρ hρ Z w hw with ⟨v,w',L',d,c,i⟩|⟨w',L',d,c,i⟩|⟨f,args,d,c⟩|⟨l,f,t,a,b,d,c⟩
 ·exact .inl ⟨v,w',L',d,c,k _ _ i⟩
 ·exact .inr (.inl ⟨w',L',d,c,k _ _ i⟩)
 ·exact .inr (.inr (.inl ⟨f,args,d,c.mono fun e w' ⟨v,L',n,m,j⟩=>⟨v,L',n,m,k _ _ j⟩⟩))
 ·exact .inr (.inr (.inr ⟨l,f,t,a,b,d,c.mono fun e w' ⟨v,L',n,m,j⟩=>⟨v,L',n,m,k _ _ j⟩⟩))⟩
theorem dI (h:Ev P s (fun _=>True) o v)(a:bu ops s o=some true)(k:Cv L (A v++D)):nv P ops s L D o A:=fi (GQ h) a fun u L' ⟨d,c⟩=>by subst d c;exact k
theorem dj (h:Rd P s L o v)(a:bu ops s o=some true)(k:Cv L (A v++D)):nv P ops s L D o A:=fi (jH h) a fun u L' ⟨d,c⟩=>by subst d c;exact k
end
def pb (u:Value):Nat:=match u with| .pointer (some a)=>a.block|_=>0
end
section
open Go.RowKit
section
variable {d:Option Nat}
theorem SZ (a:P.underlying t=some (.slice e))(A:Option Addr)(n c:Nat)(w:World):(Op.equal t (.slice A n c) (Y none 0 0)).run P w=.ok A.isNone w:=by
 show (Op.equalIn (9999+1) t (.slice A n c) (Y none 0 0)).run P w=_;unfold Op.equalIn;rw [XB,XH a,XA];cases A<;>rfl
theorem R1 {u:TypeId}{A:Option Addr}{c:Nat}(a:ao s x=some (.slice A n c))(f:P.underlying t=some (.slice e)):Ev P s C ⟨d,.binOp .eql t x (.const (Y none 0 0)) u,ty,pos,af,gd⟩ (.bool A.isNone):=
 dM a rfl fun w=>by
  rw [XB];show (binOp .eql t (.slice A n c) (Y none 0 0)).run P w=_;have i:(Op.equal t (.slice A n c) (Y none 0 0)).run P w=.ok A.isNone w:=SZ f A n c w;simp only [binOp,XB,i,XA];rfl
theorem acx {u:TypeId}{k k2:IntKind}{a b:Int}(f:ao s x=some (.int k a))(c:ao s y=some (.int k b))(j:P.underlying t=some (.int k2))(i:P.underlying u=some (.int k2)):Ev P s C ⟨d,.call ⟨.builtin .min, #[x,y], #[t,u]⟩,ty,pos,af,gd⟩ (.int k (min a b)):=fun ρ hρ w _=>by
 rw [kN (P:=P) (ρ:=ρ) (xs:=[x,y]) (vs:=[.int k a,.int k b]) (by simp [hρ x _ f,hρ y _ c]) w]
 have e:(if b<a then b else a)=min a b:=by rw [Int.min_def];split<;>split<;>omega
 cases k<;>simp [builtin,Builtin.min_,Builtin.min2,e]
theorem ab9 {u:TypeId}{k k2:IntKind}{a b:Int}(f:ao s x=some (.int k a))(c:ao s y=some (.int k b))(j:P.underlying t=some (.int k2))(i:P.underlying u=some (.int k2)):Ev P s C ⟨d,.call ⟨.builtin .max, #[x,y], #[t,u]⟩,ty,pos,af,gd⟩ (.int k (max a b)):=fun ρ hρ w _=>by
 rw [kN (P:=P) (ρ:=ρ) (xs:=[x,y]) (vs:=[.int k a,.int k b]) (by simp [hρ x _ f,hρ y _ c]) w]
 have e:(if a<b then b else a)=max a b:=by rw [Int.max_def];split<;>split<;>omega
 cases k<;>simp [builtin,Builtin.max_,Builtin.max2,e]
theorem sH (a:ao s x=some (Y none 0 0))(c:P.underlying t=some (.slice e)):Ev P s C ⟨d,.call ⟨.builtin .cap, #[x], #[t]⟩,ty,pos,af,gd⟩ (.int .i64 0):=fun ρ hρ w _=>by
 rw [kN (P:=P) (ρ:=ρ) (xs:=[x]) (vs:=[Y none 0 0]) (by simp [hρ x _ a]) w];simp [builtin,Builtin.cap_,XH c,goInt]
end
theorem sF {a b:ByteArray}:a.toList=b.toList↔a=b:=by
 constructor
 ·intro h;rw [ByteArray.toList_eq,ByteArray.toList_eq] at h;exact WideShapes.bytes_inj h
 rintro rfl;rfl
theorem aa1 {cd:Code}{R:Rep α}{A:Option Addr}{c:Nat}{xs:List α}{ch:Chunk}(i:Nat)(hi:L[i]? =some ch)(l:gi R (.slice A n c) xs ch)(f:A.isNone=true)(k:xs=[]->Wq X cd K s L):Wq X cd K s L:=fun H u a w p m hw=>by
 obtain ⟨T,S,h⟩:=hw.get (bM hi);obtain ⟨C,cap,e,B,z,q⟩:=l _ _ _ h
 have j:xs=[]:=by
  rcases Xk xs.length with d|d
  ·exact Wt d
  obtain ⟨b,o,vss,t, -⟩:=q d
  injection e with e
  rw [e,t] at f;cases f
 exact k j H u a w p m hw
section
variable {d:Option Nat}
theorem vU {vs:V4}{rest:V3}(a:Okc P f us B R)(c:ao s x=some (.func (.func f) #[] caps))(i:eu s xs=some vs)(j:vs++caps.toList=us)(l:Cv L (B++rest)):OpX P s L ⟨d,.call ⟨.value x,xs.toArray,ats⟩,ty,pos,af,gd⟩ fun u L'=> ∃post,R u post/\L'=post++rest:=fun ρ hρ Z w hw=>by
 subst j;refine .inr (.inr (.inl ⟨f,_,vD a.cal (iZ hρ i) (hρ _ _ c),?_⟩))
 have o:Sp (rest++Z) B w:=by have:=l Z w hw;unfold Sp at*;simpa only [VT] using this
 refine (a.run _ w o).mono ?_;rintro e w' ⟨v,post,rfl,n,m⟩;exact ⟨v,post++rest,J,by unfold Sp at*;simpa only [VT] using n,post,m,rfl⟩
theorem jA {vs:V4}(i:Okc P f us B R)(j:ao s x=some (.func (.func f) #[] caps))(l:eu s xs=some vs)(m:vs++caps.toList=us)(n:∀c∈B,gw L c)(a:∀v post,R v post-> ∀c∈post,bP c):OpX P s L ⟨d,.call ⟨.value x,xs.toArray,ats⟩,ty,pos,af,gd⟩ fun u L'=> ∃post,R u post/\L'=post++L:=fun ρ hρ Z w hw=>by
 subst m;refine .inr (.inr (.inl ⟨f,_,vD i.cal (iZ hρ l) (hρ _ _ j),?_⟩));refine (Bc i n a Z w hw).mono ?_;rintro e w' ⟨v,post,rfl,p,o⟩;exact ⟨v,post++L,J,p,post,o,J⟩
end
end
section
open Go.RowKit
def vL {σ:Type}(P:Program)(l:Nat)(a:σ->V3)(Q:α->V4->V3->Prop)(φ:α->σ->Option (Bool×σ)):Prop:=
 ∀x σ₁ b σ₂,φ x σ₁=some (b,σ₂)-> ∀vs cs,Q x vs cs-> ∀Z w,Sp Z (cs++a σ₁) w-> ∃c tmps assign body,(Instr.yield l vs.toArray).run P w=.ok (.round l c tmps assign body) w/\RoundIn Fence.wide 0 P l c tmps assign body w fun e w'=>e=.returned (.bool b)/\Sp Z (a σ₂) w'
section
variable {d:Option Nat}
theorem Tg {σ:Type}{l:Nat}{c:σ->V3}(E:V3){Q:α->V4->V3->Prop}{φ:α->σ->Option (Bool×σ)}{a:α}{σ₁:σ}{y:Bool×σ}{vs:V4}{cs:V3}(p:vL P l c Q φ)(hr:φ a σ₁=some y)(j:ao s x=some (.func (.yield l) #[] #[]))(m:eu s xs=some vs)(n:Q a vs cs)(o:Cv (E++c σ₁) (cs++(E++c σ₁))):OpX P s (E++c σ₁) ⟨d,.call ⟨.value x,xs.toArray,ats⟩,ty,pos,af,gd⟩ fun u L'=>u=.bool y.1/\L'=E++c y.2:=fun ρ hρ f w hw=>by
 obtain ⟨b,σ₂⟩:=y;have B:=o f w hw
 have A:Sp (E++f) (cs++c σ₁) w:=by
  have i:SepL ((cs++(E++c σ₁))++f) w:=B;refine SepL.perm i ?_;simp only [VT];exact List.Perm.append_left cs (Xc _ _ _)
 obtain ⟨C,tmps,assign,body,i,z⟩:=p a σ₁ b σ₂ hr vs cs n _ w A;refine .inr (.inr (.inr ⟨l,C,tmps,assign,body,?_,?_⟩))
 ·unfold execOp;simp only [resolve,hρ x _ j,Deferred.ofValue,WX,iZ hρ m];simp only [invoke,XB,XC,XA];simpa using i
 refine z.mono ?_;rintro e w' ⟨rfl,t⟩;refine ⟨_,_,J,?_,J,J⟩;have q:SepL (c σ₂++(E++f)) w':=t;refine SepL.perm q ?_;simp only [VT];exact Xc _ _ _
end
theorem Uc {Q:ι->V3}(cs:V3)(h:∀x,Wq X c K s (cs++Q x)):Wq X c K s (cs++ [cP Q]):=fun H d a w i f hw=>by
 have l:Sp (cs++(d.map cO++H)) [cP Q] w:=by
  refine SepL.perm hw ?_;simp only [VT];exact Xc _ _ _
 obtain ⟨x,e⟩:=gr l
 have j:Sp (d.map cO++H) (cs++Q x) w:=by
  refine SepL.perm e ?_;simp only [VT,XN];exact Xc _ _ _
 exact h x H d a w i f j
theorem Uh {σ:Type}{N:List Nat}{Q:α->V4->V3->Prop}(φ:α->σ->Option (Option Exit×σ))(E:σ->V3)(B:V3)(σ₀:σ){σr:σ}(hr:X.r=none)(hg:ao s g=some (.func (.func gf) #[] caps))(hf:oy X.P gf)(C:N.all (fun p=>Nat.ble (p+1) X.n)=true)(hen:∀x vs cs,Q x vs cs->vs.length=N.length)(R:∀l (t0:(Option Exit×σ)->V3),vL X.P l t0 Q (dA φ)->Okc X.P gf (.func (.yield l) #[] #[]::caps.toList) (B++t0 (none,σ₀)) fun _ post=>post=t0 (je,σr))(hL:Cv L (B++E σ₀))(hbody:∀l x σ₁ je' σ₂,φ x σ₁=some (je',σ₂)-> ∀vs cs,Q x vs cs->Wq ⟨X.P,X.n,some l⟩ assign (nx (fun s1 L1=>Wq ⟨X.P,X.n,some l⟩ body (RK je' (E σ₂)) s1 L1) fun _ _ _=>False) (mq N vs s) (cs++E σ₁))(hdone:je=none->K .normal s (E σr))(hleft:∀e,je=some e->(wF e).isSome=true/\K e s (E σr)):
  Wq X (.rangeFunc g N.toArray assign body) K s L:=by
 intro H u a w T hds hw;obtain ⟨P,n,r⟩:=X;simp only at hr hf C R hbody;subst hr;refine wpIn_rangeFunc ?_;intro fn hfn;have hev:a.eval g=.func (.func gf) #[] caps:=T.eval hg;obtain ⟨rec_,hrec⟩: ∃rec_:Option Exit->LoopState->Loop,rec_=fun j st=>{state:=st,pending:=j.bind wF,fn,tmps:=a.tmps,params:=N.toArray,assign,body,defers:=w.heap.size}:=⟨_,rfl⟩
 obtain ⟨stOf,d⟩: ∃stOf:Option Exit->LoopState,stOf=fun j=>if j.isNone then .ready else .done:=⟨_,rfl⟩
 obtain ⟨l,hl⟩: ∃l,l=w.heap.size+1:=⟨_,rfl⟩;obtain ⟨m,U⟩: ∃m,(w.alloc (.deferred (some []))).alloc (.loop (rec_ none .ready))=m:=⟨_,rfl⟩
 have hY:vL P l (fun q=>fF l (rec_ q.1 (stOf q.1))::E q.2) Q (dA φ):=by
  rintro x ⟨j₁,σ₁⟩ b ⟨j₂,σ₂⟩ o vs cs D Z w1 A;unfold dA at o
  cases j₁ with
  |some e=>cases o
  | none=>
   simp only at o
   cases hφ:φ x σ₁ with
   |none=>rw [hφ] at o;cases o
   | some y=>
    rw [hφ] at o;simp only [Xw,Xy,Prod.mk.injEq] at o;obtain ⟨hb,hy⟩:=o;subst hb hy
    have h0:SepL (cs++(fF l (rec_ none .ready)::(E σ₁++Z))) w1:=by
     have:stOf none=.ready:=by rw [d];rfl
     simp only [this] at A;unfold Sp at A;simpa only [VT,Wm] using A
    have a8:=BH h0;have hy:=run_yield (P:=P) (args:=vs.toArray) a8 (by rw [hrec];simp [hen x vs cs D]);refine ⟨_,_,_,_,hy,roundIn_of_wpIn (F:=Fence.wide) trivial ?_⟩
    have hfx:Fx ⟨P,n,some l⟩ (mq N vs s) ⟨((rec_ none .ready).params.zip vs.toArray).foldl (fun t (p:Nat×Value)=>t.setIfInBounds p.1 p.2) (rec_ none .ready).tmps,[]⟩:=by
     have h1:=My (X:=⟨P,n,some l⟩) (ds:=[]) (N.zip vs) s a.tmps (by
      rw [Wi] at C⊢;intro p hp;exact C p.1 (List.of_mem_zip hp).1) ⟨T.size,T.at_⟩
     have e:(((rec_ none .ready).params.zip vs.toArray).foldl (fun t (p:Nat×Value)=>t.setIfInBounds p.1 p.2) (rec_ none .ready).tmps)=(N.zip vs).foldl (fun t (p:Nat×Value)=>t.setIfInBounds p.1 p.2) a.tmps:=by
      rw [hrec];simp
     rw [e];exact h1
    have hsp:Sp (([]:List Nat).map cO++(fF l (rec_ none .ready)::Z)) (cs++E σ₁) w1:=h0.perm (by simpa only [VT,List.map_nil,XN] using List.Perm.append_left cs Xd.symm);have hrun:=hbody l x σ₁ j₂ σ₂ hφ vs cs D (fF l (rec_ none .ready)::Z) [] _ w1 hfx rfl hsp
    have hasg:(rec_ none .ready).assign=assign:=by rw [hrec]
    have hbdy:(rec_ none .ready).body=body:=by rw [hrec]
    rw [hasg,hbdy];refine wpIn_mono hrun ?_;rintro e a1 w2 ⟨s1,L1,Ds1,g1,g2,g3,g4⟩
    cases e with
    | normal=>
     have g3':SepL ((L1++Ds1.map cO)++(fF l (rec_ none .ready)::Z)) w2:=by unfold Sp at g3;simpa only [VT] using g3
     have b0:=BH g3';have hbusy:=Gk (r':={rec_ none .ready with state:=.busy}) g3';refine ⟨_,run_beginRound b0 (by rw [hrec]),?_⟩
     have b5:Sp (Ds1.map cO++(fF l {rec_ none .ready with state:=.busy}::Z)) L1 (w2.putObj l (.loop {rec_ none .ready with state:=.busy})):=by unfold Sp;simpa only [VT] using hbusy
     refine wpIn_mono (g4 (fF l {rec_ none .ready with state:=.busy}::Z) Ds1 a1 _ g1 g2 b5) ?_;rintro e3 a3 z ⟨s3,L3,Ds3,k1,k2,k3,k4,k5⟩
     have M:SepL ((L3++Ds3.map cO)++(fF l {rec_ none .ready with state:=.busy}::Z)) z:=by unfold Sp at k3;simpa only [VT] using k3
     have b6:=BH M
     have fin: ∀(j:Option Exit) (jump:Option Code),jump=j.bind wF->jump.isNone=j.isNone->j₂=j-> ∃v w',(Instr.endRound l jump).run P z=.ok v w'/\(Ending.returned v=.returned (.bool j₂.isNone)/\Sp Z (fF l (rec_ j₂ (stOf j₂))::E σ₂) w'):=by
      intro j jump hj1 O hj3;subst hj3;refine ⟨_,_,run_endRound jump b6,by rw [O],?_⟩
      have e:({{rec_ none .ready with state:=.busy} with state:=if jump.isNone then LoopState.ready else LoopState.done,pending:=jump}:Loop)=rec_ j₂ (stOf j₂):=by
       rw [hrec,d,O,hj1]
      rw [e];have h6:=Gk (r':=rec_ j₂ (stOf j₂)) M
      have h7:SepL (L3++(fF l (rec_ j₂ (stOf j₂))::Z)) (z.putObj l (.loop (rec_ j₂ (stOf j₂)))):=by
       have h8:SepL (Ds3.map cO++(L3++(fF l (rec_ j₂ (stOf j₂))::Z))) (z.putObj l (.loop (rec_ j₂ (stOf j₂)))):=h6.perm (by
        rw [<-VT];exact List.Perm.append_right _ List.perm_append_comm)
       exact h8.dropL
      have h9:=k5 (fF l (rec_ j₂ (stOf j₂))::Z) _ h7;unfold Sp at h9⊢;exact h9.perm Xd
     rcases k4 with ⟨f,rfl⟩|⟨f,h11⟩
     ·exact fin none none J J f
     cases e3 with
     |ret=>exact fin (some .ret) (some .ret) rfl rfl f
     |exit i=>exact fin (some (.exit i)) (some (.exit i)) rfl rfl f
     |_=>cases h11
    |_=>exact g4.elim
 have hdeep:SepL (fF l (rec_ none .ready)::cO w.heap.size::((B++E σ₀)++(u.map cO++H))) m:=by
  have h1:SepL ((B++E σ₀)++(u.map cO++H)) w:=hL _ _ hw
  have h2:SepL (cO w.heap.size::((B++E σ₀)++(u.map cO++H))) (w.alloc (.deferred (some []))):=h1.new (Agr.of_ext ((Ext.refl w).alloc _)) fun _ S _=>⟨(· =w.heap.size),fun q D=>by subst D;simp,rfl,World.alloc_heap_new w _⟩
  rw [<-U];refine h2.new (Agr.of_ext ((Ext.refl _).alloc _)) fun _ S _=>⟨(· =l),fun q D=>by subst D;rw [hl];simp,rfl,?_⟩
  have:=World.alloc_heap_new (w.alloc (.deferred (some []))) (.loop (rec_ none .ready));rw [World.size_alloc] at this;rw [hl];exact this
 have hstn:stOf none=.ready:=by rw [d];rfl
 have hstart:Sp (cO w.heap.size::(u.map cO++H)) (B++(fF l (rec_ none (stOf none))::E σ₀)) m:=by
  rw [hstn];refine hdeep.perm ?_;refine (List.Perm.swap _ _ _).trans ?_;refine List.Perm.trans ?_ Xd.symm;refine List.Perm.cons _ ?_;rw [<-Wm];exact List.Perm.append_right _ Xd.symm
 obtain ⟨fnc,hfn1,a6,hn1⟩:=hf
 have hn': ¬fnc.name= "runtime.NumGoroutine" :=by simpa using hn1
 have hb': ¬fnc.body=none:=by intro h;rw [h] at a6;cases a6
 refine ⟨l,[{target:=.collected w.heap.size,args:= #[]}],m,{target:=.fn (.func gf) caps,args:= #[.func (.yield l) #[] #[]]},m,gf,(.func (.yield l) #[] #[]::caps.toList).toArray,m,?_,?_,fun _ _=>trivial,?_,(by intro h;cases h),?_⟩
 ·rw [<-U,hl,hrec];exact run_enterLoop_outer _ _ _ _ _
 ·simp only [resolve,hev];simp [Deferred.ofValue,Act.eval]
 ·simp [invoke,callFunc,hfn1,hb',hn',XB]
 have h1:=(R l _ hY).run _ m hstart;refine (callsIn_wide.2 h1:CallsIn Fence.wide (0 - 1) P gf _ m _).mono ?_;rintro e z ⟨v,post,rfl,h2,rfl⟩;have V:SepL ([]++(fF l (rec_ je (stOf je))::(E σr++(cO w.heap.size::(u.map cO++H))))) z:=h2;have hk:=BH V;refine ⟨_,_,run_endLoop hk (by rw [hrec,d];cases je<;>simp),?_⟩;have h3:=Gk (r':={rec_ je (stOf je) with state:=.exhausted}) V;generalize z.putObj l (.loop {rec_ je (stOf je) with state:=.exhausted})=w4 at h3⊢
 have h4:Sp ((w.heap.size::u).map cO++H) (E σr) w4:=by
  have h5:SepL ([fF l {rec_ je (stOf je) with state:=.exhausted}]++(E σr++(cO w.heap.size::(u.map cO++H)))) _:=h3;have h6:=h5.dropL;unfold Sp;simpa using h6
 have hfin: ∀e,K e s (E σr)->iD ⟨P,n,none⟩ H K e {a with defers:=[{target:=.collected w.heap.size,args:= #[]}]++a.defers} w4:=fun e he=>⟨s,E σr,w.heap.size::u,⟨T.size,T.at_⟩,by simp [hds,kZ],h4,he⟩
 cases c:je with
 |none=>
  have:(rec_ je (stOf je)).pending=none:=by rw [hrec,c];rfl
  rw [<-c,this];exact hfin .normal (hdone c)
 |some e=>
  obtain ⟨h7,h8⟩:=hleft e c
  have:(rec_ je (stOf je)).pending=wF e:=by rw [hrec,c];rfl
  rw [<-c,this]
  cases e with
  |ret=>exact wpIn_ret (hfin .ret h8)
  |exit i=>exact wpIn_exit (hfin (.exit i) h8)
  |_=>cases h7
theorem KI {σ:Type}{N:List Nat}{R:α->V4->V3->Prop}(φ:α->σ->Option (Option Exit×σ))(Q:σ->ι->V3)(B:V3)(σ₀:σ)(x₀:ι){σr:σ}{id:Nat}{vn vr:Option ρ}{vx:Nat->Option ρ}{v:ρ}(hr:X.r=none)(A:ao s g=some (.func (.func gf) #[] caps))(C:oy X.P gf)(c:N.all (fun p=>Nat.ble (p+1) X.n)=true)(f:∀x vs cs,R x vs cs->vs.length=N.length)(d:∀l (a:(Option Exit×σ)->V3),vL X.P l a R (dA φ)->Okc X.P gf (.func (.yield l) #[] #[]::caps.toList) (B++a (none,σ₀)) fun _ post=>post=a (je,σr))(E:Cv L (B++Q σ₀ x₀))(h:jp je vn vr vx=some v)(hbody:∀l x σ₁ je' σ₂ z,φ x σ₁=some (je',σ₂)-> ∀vs cs,R x vs cs->Wq ⟨X.P,X.n,some l⟩ assign (nx (fun m H=>Wq ⟨X.P,X.n,some l⟩ body (RK je' [cP (Q σ₂)]) m H) fun _ _ _=>False) (mq N vs s) (cs++Q σ₁ z))(t:∀z,vn=some v->bk id K .normal s (Q σr z))(hret:∀z,vr=some v->bk id K .ret s (Q σr z))(n:∀i z,vx i=some v->bk id K (.exit i) s (Q σr z)):
  Wq X (.block id (.rangeFunc g N.toArray assign body)) K s L:=by
 refine qi (abu (K':=fun e j L'=>j=s/\L'=[cP (Q σr)]/\ ∀z,bk id K e s (Q σr z)) ?_ ?_)
 ·refine Uh φ (fun q=> [cP (Q q)]) B σ₀ hr A C c f d ?_ ?_ ?_ ?_
  ·exact E.trans (ma B (kf x₀ J))
  ·intro l x σ₁ je' σ₂ hφ vs cs o;exact Uc cs fun z=>hbody l x σ₁ je' σ₂ z hφ vs cs o
  ·intro u;rw [u] at h;exact ⟨J,J,fun z=>t z h⟩
  intro e D;rw [D] at h
  cases e with
  |ret=>exact ⟨rfl,rfl,rfl,fun z=>hret z h⟩
  |exit i=>exact ⟨rfl,rfl,rfl,fun z=>n i z h⟩
  |_=>cases h
 rintro e j L' ⟨rfl,rfl,F⟩;exact ⟨ι,Q σr,J,F⟩
theorem SlR.recap {R:Rep α}{w:World}{A1 A2:Option Addr}{d n2 c1 c2:Nat}{ys:List α}(h:SlR R S w (Y A1 d c1) ys)(f:n2=ys.length)(i:0<ys.length->A2=A1)(l:ys.length<=c2)(j:c2<=9223372036854775807):SlR R S w (Y A2 n2 c2) ys:=by
 obtain ⟨A,c,e,q,p,m⟩:=h
 injection e with o t n
 subst o n f;exact ⟨_,_,J,l,j,fun a=>by rw [i a];exact m a⟩
theorem Sm {R:Rep α}{w:World}{A:Option Addr}{c:Nat}{xs:List α}(hw:Sp Z L w)(hi:L[i]? =some (aL R (.slice A n c) xs)){l:Nat}(q:l<=h)(p:h<=xs.length):Sp Z (aL R (.slice (dk A h l R.sz) (h - l) (h - l)) ((xs.drop l).take (h - l))::L) w:=by
 obtain ⟨T,S,f⟩:=hw;have a:SlR R S w (.slice A n c) xs:=f.ok (bM hi)
 have d:((xs.drop l).take (h - l)).length=h - l:=by rw [XJ,WQ];omega
 have hb:=a;obtain ⟨A2,c2,z,C,B, -⟩:=hb
 injection z with o m j
 subst o m j
 obtain ⟨T',u⟩:=SepL.facts [aL R (.slice (dk A h l R.sz) (h - l) (h - l)) ((xs.drop l).take (h - l))] f (fun c e=>by
  simp only [W8] at e;subst e;refine SlR.recap (a.cut l h q p) d.symm (fun t=> ?_) W W;rw [d] at t;unfold dk;rw [if_neg W,if_neg W])
 exact ⟨T',S,u⟩
theorem ack {R:Rep α}{ol:List Oper}{A:Option Addr}{c:Nat}{xs:List α}(i:Nat)(hi:L[i]? =some (aL R (.slice A n c) xs)){l:Nat}(m:l<=h)(j:h<=xs.length)(k:∀d n' c',d=dk A h l R.sz/\n'=h - l/\c'=h - l->aP X ops ol K s (aL R (.slice d n' c') ((xs.drop l).take (h - l))::L)):aP X ops ol K s L:=fun H o a w f e hw=>k _ _ _ ⟨rfl,rfl,rfl⟩ H o a w f e (Sm hw hi m j)
section
variable {d:Option Nat}
theorem abx {t e sz:Nat}{o z:Operand}{A:Option Addr}{c l:Nat}(a:ao s x=some (.slice A n c))(f:P.underlying t=some (.slice e))(i:eI P e sz=true)(j:ao s o=some (.int .i64 (l:Int)))(m:ao s y=some (.int .i64 (h:Int)))(hm:ao s z=some (.int .i64 (h:Int)))(q:l<=h)(p:h<=c):Ev P s C ⟨d,.slice t x (some o) (some y) (some z),ty,pos,af,gd⟩ (.slice (dk A h l sz) (h - l) (h - l)):=fun ρ hρ w _=>by
 unfold execOp;simp only [Xw,Option.map_none,hρ x _ a,hρ o _ j,hρ y _ m,hρ z _ hm,Instr.sliceAt,Instr.slice,Instr.sliceBounds,XB,XH f,XA,ou p,ou q,ou (Xm h),lP i w,XC];rfl
theorem abl {R:Rep α}{t e sz:Nat}{o z:Operand}{A f:Option Addr}{c n' c':Nat}{xs:List α}{l:Nat}(i:Nat)(F:L[i]? =some (aL R (.slice A n c) xs))(E:f=dk A h l R.sz/\n'=h - l/\c'=h - l)(q:ao s x=some (.slice A n c))(u:P.underlying t=some (.slice e))(B:eI P e sz=true)(a:R.sz=sz)(C:ao s o=some (.int .i64 (l:Int)))(D:ao s y=some (.int .i64 (h:Int)))(hm:ao s z=some (.int .i64 (h:Int)))(H:l<=h)(M:h<=xs.length):Rd P s L ⟨d,.slice t x (some o) (some y) (some z),ty,pos,af,gd⟩ (.slice f n' c'):=fun Z w hw=>by
 obtain ⟨rfl,rfl,rfl⟩:=E;subst a;obtain ⟨T,S,A2,c2,K,N, -⟩:=hw.get (bM F)
 injection K with p m j
 subst p m j;exact abx q u B C D hm H W
end
theorem vQ {σ:Type}{N:List Nat}{en:α->V4}(φ:α->σ->Option (Option Exit×σ))(Q:σ->ι->V3)(B:V3)(σ₀:σ)(x₀:ι){σr:σ}{id:Nat}{vn vr:Option ρ}{vx:Nat->Option ρ}{v:ρ}(hr:X.r=none)(n:ao s g=some (.func (.func gf) #[] caps))(o:oy X.P gf)(c:N.all (fun p=>Nat.ble (p+1) X.n)=true)(e:∀x,(en x).length=N.length)(d:∀l (a:(Option Exit×σ)->V3),sI X.P l a en (dA φ)->Okc X.P gf (.func (.yield l) #[] #[]::caps.toList) (B++a (none,σ₀)) fun _ post=>post=a (je,σr))(t:Cv L (B++Q σ₀ x₀))(h:jp je vn vr vx=some v)(hbody:∀l x σ₁ je' σ₂ z,φ x σ₁=some (je',σ₂)->Wq ⟨X.P,X.n,some l⟩ assign (nx (fun f u=>Wq ⟨X.P,X.n,some l⟩ body (RK je' [cP (Q σ₂)]) f u) fun _ _ _=>False) (mq N (en x) s) (Q σ₁ z))(m:∀z,vn=some v->bk id K .normal s (Q σr z))(hret:∀z,vr=some v->bk id K .ret s (Q σr z))(j:∀i z,vx i=some v->bk id K (.exit i) s (Q σr z)):
  Wq X (.block id (.rangeFunc g N.toArray assign body)) K s L:=
 KI (R:=fun x vs cs=>vs=en x/\cs=[]) φ Q B σ₀ x₀ hr n o c (fun x _ _ h=>h.1▸e x) (fun l a q=>d l a fun x σ₁ b σ₂ h=>q x σ₁ b σ₂ h _ _ ⟨rfl,rfl⟩) t h (fun l x σ₁ je' σ₂ z hφ _ _ h=>by rw [h.1,h.2];exact hbody l x σ₁ je' σ₂ z hφ) m hret j
end
section
open Go.RowKit
theorem LZ: ∀(cs:V3),Cv (cs++L) L
 | []=>ah _
 |_::cs=>cv_tl.trans (LZ cs)
inductive Asn:Type 1
 |aV (v:Value)
 |aX1 {ι0:Type} (v:ι0->Value) (ch:ι0->V3)
 |aX2 {ι0 ι1:Type} (v:ι0->ι1->Value) (ch:ι0->ι1->V3)
 |aX3 {ι0 ι1 ι2:Type} (v:ι0->ι1->ι2->Value) (ch:ι0->ι1->ι2->V3)
 |aX4 {ι0 ι1 ι2 ι3:Type} (v:ι0->ι1->ι2->ι3->Value) (ch:ι0->ι1->ι2->ι3->V3)
 |aX5 {ι0 ι1 ι2 ι3 ι4:Type} (v:ι0->ι1->ι2->ι3->ι4->Value) (ch:ι0->ι1->ι2->ι3->ι4->V3)
 |aX6 {ι0 ι1 ι2 ι3 ι4 ι5:Type} (v:ι0->ι1->ι2->ι3->ι4->ι5->Value) (ch:ι0->ι1->ι2->ι3->ι4->ι5->V3)
 |aX7 {ι0 ι1 ι2 ι3 ι4 ι5 ι6:Type} (v:ι0->ι1->ι2->ι3->ι4->ι5->ι6->Value) (ch:ι0->ι1->ι2->ι3->ι4->ι5->ι6->V3)
 |aX8 {ι0 ι1 ι2 ι3 ι4 ι5 ι6 ι7:Type} (v:ι0->ι1->ι2->ι3->ι4->ι5->ι6->ι7->Value) (ch:ι0->ι1->ι2->ι3->ι4->ι5->ι6->ι7->V3)
 |aX9 {ι0 ι1 ι2 ι3 ι4 ι5 ι6 ι7 ι8:Type} (v:ι0->ι1->ι2->ι3->ι4->ι5->ι6->ι7->ι8->Value) (ch:ι0->ι1->ι2->ι3->ι4->ι5->ι6->ι7->ι8->V3)
 |aX10 {ι0 ι1 ι2 ι3 ι4 ι5 ι6 ι7 ι8 ι9:Type} (v:ι0->ι1->ι2->ι3->ι4->ι5->ι6->ι7->ι8->ι9->Value) (ch:ι0->ι1->ι2->ι3->ι4->ι5->ι6->ι7->ι8->ι9->V3)
 |aX11 {ι0 ι1 ι2 ι3 ι4 ι5 ι6 ι7 ι8 ι9 ι10:Type} (v:ι0->ι1->ι2->ι3->ι4->ι5->ι6->ι7->ι8->ι9->ι10->Value) (ch:ι0->ι1->ι2->ι3->ι4->ι5->ι6->ι7->ι8->ι9->ι10->V3)
 |aX12 {ι0 ι1 ι2 ι3 ι4 ι5 ι6 ι7 ι8 ι9 ι10 ι11:Type} (v:ι0->ι1->ι2->ι3->ι4->ι5->ι6->ι7->ι8->ι9->ι10->ι11->Value) (ch:ι0->ι1->ι2->ι3->ι4->ι5->ι6->ι7->ι8->ι9->ι10->ι11->V3)
 |aX15 {ι0 ι1 ι2 ι3 ι4 ι5 ι6 ι7 ι8 ι9 ι10 ι11 ι12 ι13 ι14:Type} (v:ι0->ι1->ι2->ι3->ι4->ι5->ι6->ι7->ι8->ι9->ι10->ι11->ι12->ι13->ι14->Value) (ch:ι0->ι1->ι2->ι3->ι4->ι5->ι6->ι7->ι8->ι9->ι10->ι11->ι12->ι13->ι14->V3)
 |aX21 {ι0 ι1 ι2 ι3 ι4 ι5 ι6 ι7 ι8 ι9 ι10 ι11 ι12 ι13 ι14 ι15 ι16 ι17 ι18 ι19 ι20:Type} (v:ι0->ι1->ι2->ι3->ι4->ι5->ι6->ι7->ι8->ι9->ι10->ι11->ι12->ι13->ι14->ι15->ι16->ι17->ι18->ι19->ι20->Value) (ch:ι0->ι1->ι2->ι3->ι4->ι5->ι6->ι7->ι8->ι9->ι10->ι11->ι12->ι13->ι14->ι15->ι16->ι17->ι18->ι19->ι20->V3)
namespace Asn
def full:Asn->Value->V3
 |aV v,u=> [GU (u=v)]
 | @aX1 ι0 v ch,u=> [cP fun x:{x:ι0 // u=v x}=>ch x.1]
 | @aX2 ι0 ι1 v ch,u=> [cP fun x:{x:ι0×ι1 // u=v x.1 x.2}=>ch x.1.1 x.1.2]
 | @aX3 ι0 ι1 ι2 v ch,u=> [cP fun x:{x:ι0×ι1×ι2 // u=v x.1 x.2.1 x.2.2}=>ch x.1.1 x.1.2.1 x.1.2.2]
 | @aX4 ι0 ι1 ι2 ι3 v ch,u=> [cP fun x:{x:ι0×ι1×ι2×ι3 // u=v x.1 x.2.1 x.2.2.1 x.2.2.2}=>ch x.1.1 x.1.2.1 x.1.2.2.1 x.1.2.2.2]
 | @aX5 ι0 ι1 ι2 ι3 ι4 v ch,u=> [cP fun x:{x:ι0×ι1×ι2×ι3×ι4 // u=v x.1 x.2.1 x.2.2.1 x.2.2.2.1 x.2.2.2.2}=>ch x.1.1 x.1.2.1 x.1.2.2.1 x.1.2.2.2.1 x.1.2.2.2.2]
 | @aX6 ι0 ι1 ι2 ι3 ι4 ι5 v ch,u=> [cP fun x:{x:ι0×ι1×ι2×ι3×ι4×ι5 // u=v x.1 x.2.1 x.2.2.1 x.2.2.2.1 x.2.2.2.2.1 x.2.2.2.2.2}=>ch x.1.1 x.1.2.1 x.1.2.2.1 x.1.2.2.2.1 x.1.2.2.2.2.1 x.1.2.2.2.2.2]
 | @aX7 ι0 ι1 ι2 ι3 ι4 ι5 ι6 v ch,u=> [cP fun x:{x:ι0×ι1×ι2×ι3×ι4×ι5×ι6 // u=v x.1 x.2.1 x.2.2.1 x.2.2.2.1 x.2.2.2.2.1 x.2.2.2.2.2.1 x.2.2.2.2.2.2}=>ch x.1.1 x.1.2.1 x.1.2.2.1 x.1.2.2.2.1 x.1.2.2.2.2.1 x.1.2.2.2.2.2.1 x.1.2.2.2.2.2.2]
 | @aX8 ι0 ι1 ι2 ι3 ι4 ι5 ι6 ι7 v ch,u=> [cP fun x:{x:ι0×ι1×ι2×ι3×ι4×ι5×ι6×ι7 // u=v x.1 x.2.1 x.2.2.1 x.2.2.2.1 x.2.2.2.2.1 x.2.2.2.2.2.1 x.2.2.2.2.2.2.1 x.2.2.2.2.2.2.2}=>ch x.1.1 x.1.2.1 x.1.2.2.1 x.1.2.2.2.1 x.1.2.2.2.2.1 x.1.2.2.2.2.2.1 x.1.2.2.2.2.2.2.1 x.1.2.2.2.2.2.2.2]
 | @aX9 ι0 ι1 ι2 ι3 ι4 ι5 ι6 ι7 ι8 v ch,u=> [cP fun x:{x:ι0×ι1×ι2×ι3×ι4×ι5×ι6×ι7×ι8 // u=v x.1 x.2.1 x.2.2.1 x.2.2.2.1 x.2.2.2.2.1 x.2.2.2.2.2.1 x.2.2.2.2.2.2.1 x.2.2.2.2.2.2.2.1 x.2.2.2.2.2.2.2.2}=>ch x.1.1 x.1.2.1 x.1.2.2.1 x.1.2.2.2.1 x.1.2.2.2.2.1 x.1.2.2.2.2.2.1 x.1.2.2.2.2.2.2.1 x.1.2.2.2.2.2.2.2.1 x.1.2.2.2.2.2.2.2.2]
 | @aX10 ι0 ι1 ι2 ι3 ι4 ι5 ι6 ι7 ι8 ι9 v ch,u=> [cP fun x:{x:ι0×ι1×ι2×ι3×ι4×ι5×ι6×ι7×ι8×ι9 // u=v x.1 x.2.1 x.2.2.1 x.2.2.2.1 x.2.2.2.2.1 x.2.2.2.2.2.1 x.2.2.2.2.2.2.1 x.2.2.2.2.2.2.2.1 x.2.2.2.2.2.2.2.2.1 x.2.2.2.2.2.2.2.2.2}=>ch x.1.1 x.1.2.1 x.1.2.2.1 x.1.2.2.2.1 x.1.2.2.2.2.1 x.1.2.2.2.2.2.1 x.1.2.2.2.2.2.2.1 x.1.2.2.2.2.2.2.2.1 x.1.2.2.2.2.2.2.2.2.1 x.1.2.2.2.2.2.2.2.2.2]
 | @aX11 ι0 ι1 ι2 ι3 ι4 ι5 ι6 ι7 ι8 ι9 ι10 v ch,u=> [cP fun x:{x:ι0×ι1×ι2×ι3×ι4×ι5×ι6×ι7×ι8×ι9×ι10 // u=v x.1 x.2.1 x.2.2.1 x.2.2.2.1 x.2.2.2.2.1 x.2.2.2.2.2.1 x.2.2.2.2.2.2.1 x.2.2.2.2.2.2.2.1 x.2.2.2.2.2.2.2.2.1 x.2.2.2.2.2.2.2.2.2.1 x.2.2.2.2.2.2.2.2.2.2}=>ch x.1.1 x.1.2.1 x.1.2.2.1 x.1.2.2.2.1 x.1.2.2.2.2.1 x.1.2.2.2.2.2.1 x.1.2.2.2.2.2.2.1 x.1.2.2.2.2.2.2.2.1 x.1.2.2.2.2.2.2.2.2.1 x.1.2.2.2.2.2.2.2.2.2.1 x.1.2.2.2.2.2.2.2.2.2.2]
 | @aX12 ι0 ι1 ι2 ι3 ι4 ι5 ι6 ι7 ι8 ι9 ι10 ι11 v ch,u=> [cP fun x:{x:ι0×ι1×ι2×ι3×ι4×ι5×ι6×ι7×ι8×ι9×ι10×ι11 // u=v x.1 x.2.1 x.2.2.1 x.2.2.2.1 x.2.2.2.2.1 x.2.2.2.2.2.1 x.2.2.2.2.2.2.1 x.2.2.2.2.2.2.2.1 x.2.2.2.2.2.2.2.2.1 x.2.2.2.2.2.2.2.2.2.1 x.2.2.2.2.2.2.2.2.2.2.1 x.2.2.2.2.2.2.2.2.2.2.2}=>ch x.1.1 x.1.2.1 x.1.2.2.1 x.1.2.2.2.1 x.1.2.2.2.2.1 x.1.2.2.2.2.2.1 x.1.2.2.2.2.2.2.1 x.1.2.2.2.2.2.2.2.1 x.1.2.2.2.2.2.2.2.2.1 x.1.2.2.2.2.2.2.2.2.2.1 x.1.2.2.2.2.2.2.2.2.2.2.1 x.1.2.2.2.2.2.2.2.2.2.2.2]
 | @aX15 ι0 ι1 ι2 ι3 ι4 ι5 ι6 ι7 ι8 ι9 ι10 ι11 ι12 ι13 ι14 v ch,u=> [cP fun x:{x:ι0×ι1×ι2×ι3×ι4×ι5×ι6×ι7×ι8×ι9×ι10×ι11×ι12×ι13×ι14 // u=v x.1 x.2.1 x.2.2.1 x.2.2.2.1 x.2.2.2.2.1 x.2.2.2.2.2.1 x.2.2.2.2.2.2.1 x.2.2.2.2.2.2.2.1 x.2.2.2.2.2.2.2.2.1 x.2.2.2.2.2.2.2.2.2.1 x.2.2.2.2.2.2.2.2.2.2.1 x.2.2.2.2.2.2.2.2.2.2.2.1 x.2.2.2.2.2.2.2.2.2.2.2.2.1 x.2.2.2.2.2.2.2.2.2.2.2.2.2.1 x.2.2.2.2.2.2.2.2.2.2.2.2.2.2}=>ch x.1.1 x.1.2.1 x.1.2.2.1 x.1.2.2.2.1 x.1.2.2.2.2.1 x.1.2.2.2.2.2.1 x.1.2.2.2.2.2.2.1 x.1.2.2.2.2.2.2.2.1 x.1.2.2.2.2.2.2.2.2.1 x.1.2.2.2.2.2.2.2.2.2.1 x.1.2.2.2.2.2.2.2.2.2.2.1 x.1.2.2.2.2.2.2.2.2.2.2.2.1 x.1.2.2.2.2.2.2.2.2.2.2.2.2.1 x.1.2.2.2.2.2.2.2.2.2.2.2.2.2.1 x.1.2.2.2.2.2.2.2.2.2.2.2.2.2.2]
 | @aX21 ι0 ι1 ι2 ι3 ι4 ι5 ι6 ι7 ι8 ι9 ι10 ι11 ι12 ι13 ι14 ι15 ι16 ι17 ι18 ι19 ι20 v ch,u=> [cP fun x:{x:ι0×ι1×ι2×ι3×ι4×ι5×ι6×ι7×ι8×ι9×ι10×ι11×ι12×ι13×ι14×ι15×ι16×ι17×ι18×ι19×ι20 // u=v x.1 x.2.1 x.2.2.1 x.2.2.2.1 x.2.2.2.2.1 x.2.2.2.2.2.1 x.2.2.2.2.2.2.1 x.2.2.2.2.2.2.2.1 x.2.2.2.2.2.2.2.2.1 x.2.2.2.2.2.2.2.2.2.1 x.2.2.2.2.2.2.2.2.2.2.1 x.2.2.2.2.2.2.2.2.2.2.2.1 x.2.2.2.2.2.2.2.2.2.2.2.2.1 x.2.2.2.2.2.2.2.2.2.2.2.2.2.1 x.2.2.2.2.2.2.2.2.2.2.2.2.2.2.1 x.2.2.2.2.2.2.2.2.2.2.2.2.2.2.2.1 x.2.2.2.2.2.2.2.2.2.2.2.2.2.2.2.2.1 x.2.2.2.2.2.2.2.2.2.2.2.2.2.2.2.2.2.1 x.2.2.2.2.2.2.2.2.2.2.2.2.2.2.2.2.2.2.1 x.2.2.2.2.2.2.2.2.2.2.2.2.2.2.2.2.2.2.2.1 x.2.2.2.2.2.2.2.2.2.2.2.2.2.2.2.2.2.2.2.2}=>ch x.1.1 x.1.2.1 x.1.2.2.1 x.1.2.2.2.1 x.1.2.2.2.2.1 x.1.2.2.2.2.2.1 x.1.2.2.2.2.2.2.1 x.1.2.2.2.2.2.2.2.1 x.1.2.2.2.2.2.2.2.2.1 x.1.2.2.2.2.2.2.2.2.2.1 x.1.2.2.2.2.2.2.2.2.2.2.1 x.1.2.2.2.2.2.2.2.2.2.2.2.1 x.1.2.2.2.2.2.2.2.2.2.2.2.2.1 x.1.2.2.2.2.2.2.2.2.2.2.2.2.2.1 x.1.2.2.2.2.2.2.2.2.2.2.2.2.2.2.1 x.1.2.2.2.2.2.2.2.2.2.2.2.2.2.2.2.1 x.1.2.2.2.2.2.2.2.2.2.2.2.2.2.2.2.2.1 x.1.2.2.2.2.2.2.2.2.2.2.2.2.2.2.2.2.2.1 x.1.2.2.2.2.2.2.2.2.2.2.2.2.2.2.2.2.2.2.1 x.1.2.2.2.2.2.2.2.2.2.2.2.2.2.2.2.2.2.2.2.1 x.1.2.2.2.2.2.2.2.2.2.2.2.2.2.2.2.2.2.2.2.2]
def Op:Asn->(Value->V3->Prop)->Prop
 |aV v,K=>K v []
 |aX1 v ch,K=> ∀x0,K (v x0) (ch x0)
 |aX2 v ch,K=> ∀x0 x1,K (v x0 x1) (ch x0 x1)
 |aX3 v ch,K=> ∀x0 x1 x2,K (v x0 x1 x2) (ch x0 x1 x2)
 |aX4 v ch,K=> ∀x0 x1 x2 x3,K (v x0 x1 x2 x3) (ch x0 x1 x2 x3)
 |aX5 v ch,K=> ∀x0 x1 x2 x3 x4,K (v x0 x1 x2 x3 x4) (ch x0 x1 x2 x3 x4)
 |aX6 v ch,K=> ∀x0 x1 x2 x3 x4 x5,K (v x0 x1 x2 x3 x4 x5) (ch x0 x1 x2 x3 x4 x5)
 |aX7 v ch,K=> ∀x0 x1 x2 x3 x4 x5 x6,K (v x0 x1 x2 x3 x4 x5 x6) (ch x0 x1 x2 x3 x4 x5 x6)
 |aX8 v ch,K=> ∀x0 x1 x2 x3 x4 x5 x6 x7,K (v x0 x1 x2 x3 x4 x5 x6 x7) (ch x0 x1 x2 x3 x4 x5 x6 x7)
 |aX9 v ch,K=> ∀x0 x1 x2 x3 x4 x5 x6 x7 x8,K (v x0 x1 x2 x3 x4 x5 x6 x7 x8) (ch x0 x1 x2 x3 x4 x5 x6 x7 x8)
 |aX10 v ch,K=> ∀x0 x1 x2 x3 x4 x5 x6 x7 x8 x9,K (v x0 x1 x2 x3 x4 x5 x6 x7 x8 x9) (ch x0 x1 x2 x3 x4 x5 x6 x7 x8 x9)
 |aX11 v ch,K=> ∀x0 x1 x2 x3 x4 x5 x6 x7 x8 x9 a6,K (v x0 x1 x2 x3 x4 x5 x6 x7 x8 x9 a6) (ch x0 x1 x2 x3 x4 x5 x6 x7 x8 x9 a6)
 |aX12 v ch,K=> ∀x0 x1 x2 x3 x4 x5 x6 x7 x8 x9 a6 a8,K (v x0 x1 x2 x3 x4 x5 x6 x7 x8 x9 a6 a8) (ch x0 x1 x2 x3 x4 x5 x6 x7 x8 x9 a6 a8)
 |aX15 v ch,K=> ∀x0 x1 x2 x3 x4 x5 x6 x7 x8 x9 a6 a8 d c a,K (v x0 x1 x2 x3 x4 x5 x6 x7 x8 x9 a6 a8 d c a) (ch x0 x1 x2 x3 x4 x5 x6 x7 x8 x9 a6 a8 d c a)
 |aX21 v ch,K=> ∀x0 x1 x2 x3 x4 x5 x6 x7 x8 x9 a6 a8 d c a m l j i f e,K (v x0 x1 x2 x3 x4 x5 x6 x7 x8 x9 a6 a8 d c a m l j i f e) (ch x0 x1 x2 x3 x4 x5 x6 x7 x8 x9 a6 a8 d c a m l j i f e)
theorem hop: ∀(a:Asn) (K:Value->V3->Prop) (u:Value) (L Z:V3) (w:World),Sp Z (a.full u++L) w->a.Op K-> ∃c,K u c/\Sp Z (c++L) w/\ ∀L',Cv (c++L') (a.full u++L')
 |aV v,K,u,L,Z,w,d,e=>by
  have h:u=v:=abT d 0 rfl;subst h;exact ⟨[],e,cv_tl _ _ d,fun L'=>Np J⟩
 | @aX1 ι0 v ch,K,u,L,Z,w,d,e=>by
  obtain ⟨⟨x,f⟩,d⟩:=gr d;subst f;exact ⟨_,e x,d,fun L'=>fa (Q:=fun y:{y:ι0 // v x=v y}=>ch y.1) ⟨x,J⟩⟩
 | @aX2 ι0 ι1 v ch,K,u,L,Z,w,d,e=>by
  obtain ⟨⟨x,f⟩,d⟩:=gr d;subst f;exact ⟨_,e x.1 x.2,d,fun L'=>fa (Q:=fun y:{y:ι0×ι1 // v x.1 x.2=v y.1 y.2}=>ch y.1.1 y.1.2) ⟨x,J⟩⟩
 | @aX3 ι0 ι1 ι2 v ch,K,u,L,Z,w,d,e=>by
  obtain ⟨⟨x,f⟩,d⟩:=gr d;subst f;exact ⟨_,e x.1 x.2.1 x.2.2,d,fun L'=>fa (Q:=fun y:{y:ι0×ι1×ι2 // v x.1 x.2.1 x.2.2=v y.1 y.2.1 y.2.2}=>ch y.1.1 y.1.2.1 y.1.2.2) ⟨x,J⟩⟩
 | @aX4 ι0 ι1 ι2 ι3 v ch,K,u,L,Z,w,d,e=>by
  obtain ⟨⟨x,f⟩,d⟩:=gr d;subst f;exact ⟨_,e x.1 x.2.1 x.2.2.1 x.2.2.2,d,fun L'=>fa (Q:=fun y:{y:ι0×ι1×ι2×ι3 // v x.1 x.2.1 x.2.2.1 x.2.2.2=v y.1 y.2.1 y.2.2.1 y.2.2.2}=>ch y.1.1 y.1.2.1 y.1.2.2.1 y.1.2.2.2) ⟨x,J⟩⟩
 | @aX5 ι0 ι1 ι2 ι3 ι4 v ch,K,u,L,Z,w,d,e=>by
  obtain ⟨⟨x,f⟩,d⟩:=gr d;subst f;exact ⟨_,e x.1 x.2.1 x.2.2.1 x.2.2.2.1 x.2.2.2.2,d,fun L'=>fa (Q:=fun y:{y:ι0×ι1×ι2×ι3×ι4 // v x.1 x.2.1 x.2.2.1 x.2.2.2.1 x.2.2.2.2=v y.1 y.2.1 y.2.2.1 y.2.2.2.1 y.2.2.2.2}=>ch y.1.1 y.1.2.1 y.1.2.2.1 y.1.2.2.2.1 y.1.2.2.2.2) ⟨x,J⟩⟩
 | @aX6 ι0 ι1 ι2 ι3 ι4 ι5 v ch,K,u,L,Z,w,d,e=>by
  obtain ⟨⟨x,f⟩,d⟩:=gr d;subst f;exact ⟨_,e x.1 x.2.1 x.2.2.1 x.2.2.2.1 x.2.2.2.2.1 x.2.2.2.2.2,d,fun L'=>fa (Q:=fun y:{y:ι0×ι1×ι2×ι3×ι4×ι5 // v x.1 x.2.1 x.2.2.1 x.2.2.2.1 x.2.2.2.2.1 x.2.2.2.2.2=v y.1 y.2.1 y.2.2.1 y.2.2.2.1 y.2.2.2.2.1 y.2.2.2.2.2}=>ch y.1.1 y.1.2.1 y.1.2.2.1 y.1.2.2.2.1 y.1.2.2.2.2.1 y.1.2.2.2.2.2) ⟨x,J⟩⟩
 | @aX7 ι0 ι1 ι2 ι3 ι4 ι5 ι6 v ch,K,u,L,Z,w,d,e=>by
  obtain ⟨⟨x,f⟩,d⟩:=gr d;subst f;exact ⟨_,e x.1 x.2.1 x.2.2.1 x.2.2.2.1 x.2.2.2.2.1 x.2.2.2.2.2.1 x.2.2.2.2.2.2,d,fun L'=>fa (Q:=fun y:{y:ι0×ι1×ι2×ι3×ι4×ι5×ι6 // v x.1 x.2.1 x.2.2.1 x.2.2.2.1 x.2.2.2.2.1 x.2.2.2.2.2.1 x.2.2.2.2.2.2=v y.1 y.2.1 y.2.2.1 y.2.2.2.1 y.2.2.2.2.1 y.2.2.2.2.2.1 y.2.2.2.2.2.2}=>ch y.1.1 y.1.2.1 y.1.2.2.1 y.1.2.2.2.1 y.1.2.2.2.2.1 y.1.2.2.2.2.2.1 y.1.2.2.2.2.2.2) ⟨x,J⟩⟩
 | @aX8 ι0 ι1 ι2 ι3 ι4 ι5 ι6 ι7 v ch,K,u,L,Z,w,d,e=>by
  obtain ⟨⟨x,f⟩,d⟩:=gr d;subst f;exact ⟨_,e x.1 x.2.1 x.2.2.1 x.2.2.2.1 x.2.2.2.2.1 x.2.2.2.2.2.1 x.2.2.2.2.2.2.1 x.2.2.2.2.2.2.2,d,fun L'=>fa (Q:=fun y:{y:ι0×ι1×ι2×ι3×ι4×ι5×ι6×ι7 // v x.1 x.2.1 x.2.2.1 x.2.2.2.1 x.2.2.2.2.1 x.2.2.2.2.2.1 x.2.2.2.2.2.2.1 x.2.2.2.2.2.2.2=v y.1 y.2.1 y.2.2.1 y.2.2.2.1 y.2.2.2.2.1 y.2.2.2.2.2.1 y.2.2.2.2.2.2.1 y.2.2.2.2.2.2.2}=>ch y.1.1 y.1.2.1 y.1.2.2.1 y.1.2.2.2.1 y.1.2.2.2.2.1 y.1.2.2.2.2.2.1 y.1.2.2.2.2.2.2.1 y.1.2.2.2.2.2.2.2) ⟨x,J⟩⟩
 | @aX9 ι0 ι1 ι2 ι3 ι4 ι5 ι6 ι7 ι8 v ch,K,u,L,Z,w,d,e=>by
  obtain ⟨⟨x,f⟩,d⟩:=gr d;subst f;exact ⟨_,e x.1 x.2.1 x.2.2.1 x.2.2.2.1 x.2.2.2.2.1 x.2.2.2.2.2.1 x.2.2.2.2.2.2.1 x.2.2.2.2.2.2.2.1 x.2.2.2.2.2.2.2.2,d,fun L'=>fa (Q:=fun y:{y:ι0×ι1×ι2×ι3×ι4×ι5×ι6×ι7×ι8 // v x.1 x.2.1 x.2.2.1 x.2.2.2.1 x.2.2.2.2.1 x.2.2.2.2.2.1 x.2.2.2.2.2.2.1 x.2.2.2.2.2.2.2.1 x.2.2.2.2.2.2.2.2=v y.1 y.2.1 y.2.2.1 y.2.2.2.1 y.2.2.2.2.1 y.2.2.2.2.2.1 y.2.2.2.2.2.2.1 y.2.2.2.2.2.2.2.1 y.2.2.2.2.2.2.2.2}=>ch y.1.1 y.1.2.1 y.1.2.2.1 y.1.2.2.2.1 y.1.2.2.2.2.1 y.1.2.2.2.2.2.1 y.1.2.2.2.2.2.2.1 y.1.2.2.2.2.2.2.2.1 y.1.2.2.2.2.2.2.2.2) ⟨x,J⟩⟩
 | @aX10 ι0 ι1 ι2 ι3 ι4 ι5 ι6 ι7 ι8 ι9 v ch,K,u,L,Z,w,d,e=>by
  obtain ⟨⟨x,f⟩,d⟩:=gr d;subst f;exact ⟨_,e x.1 x.2.1 x.2.2.1 x.2.2.2.1 x.2.2.2.2.1 x.2.2.2.2.2.1 x.2.2.2.2.2.2.1 x.2.2.2.2.2.2.2.1 x.2.2.2.2.2.2.2.2.1 x.2.2.2.2.2.2.2.2.2,d,fun L'=>fa (Q:=fun y:{y:ι0×ι1×ι2×ι3×ι4×ι5×ι6×ι7×ι8×ι9 // v x.1 x.2.1 x.2.2.1 x.2.2.2.1 x.2.2.2.2.1 x.2.2.2.2.2.1 x.2.2.2.2.2.2.1 x.2.2.2.2.2.2.2.1 x.2.2.2.2.2.2.2.2.1 x.2.2.2.2.2.2.2.2.2=v y.1 y.2.1 y.2.2.1 y.2.2.2.1 y.2.2.2.2.1 y.2.2.2.2.2.1 y.2.2.2.2.2.2.1 y.2.2.2.2.2.2.2.1 y.2.2.2.2.2.2.2.2.1 y.2.2.2.2.2.2.2.2.2}=>ch y.1.1 y.1.2.1 y.1.2.2.1 y.1.2.2.2.1 y.1.2.2.2.2.1 y.1.2.2.2.2.2.1 y.1.2.2.2.2.2.2.1 y.1.2.2.2.2.2.2.2.1 y.1.2.2.2.2.2.2.2.2.1 y.1.2.2.2.2.2.2.2.2.2) ⟨x,J⟩⟩
 | @aX11 ι0 ι1 ι2 ι3 ι4 ι5 ι6 ι7 ι8 ι9 ι10 v ch,K,u,L,Z,w,d,e=>by
  obtain ⟨⟨x,f⟩,d⟩:=gr d;subst f;exact ⟨_,e x.1 x.2.1 x.2.2.1 x.2.2.2.1 x.2.2.2.2.1 x.2.2.2.2.2.1 x.2.2.2.2.2.2.1 x.2.2.2.2.2.2.2.1 x.2.2.2.2.2.2.2.2.1 x.2.2.2.2.2.2.2.2.2.1 x.2.2.2.2.2.2.2.2.2.2,d,fun L'=>fa (Q:=fun y:{y:ι0×ι1×ι2×ι3×ι4×ι5×ι6×ι7×ι8×ι9×ι10 // v x.1 x.2.1 x.2.2.1 x.2.2.2.1 x.2.2.2.2.1 x.2.2.2.2.2.1 x.2.2.2.2.2.2.1 x.2.2.2.2.2.2.2.1 x.2.2.2.2.2.2.2.2.1 x.2.2.2.2.2.2.2.2.2.1 x.2.2.2.2.2.2.2.2.2.2=v y.1 y.2.1 y.2.2.1 y.2.2.2.1 y.2.2.2.2.1 y.2.2.2.2.2.1 y.2.2.2.2.2.2.1 y.2.2.2.2.2.2.2.1 y.2.2.2.2.2.2.2.2.1 y.2.2.2.2.2.2.2.2.2.1 y.2.2.2.2.2.2.2.2.2.2}=>ch y.1.1 y.1.2.1 y.1.2.2.1 y.1.2.2.2.1 y.1.2.2.2.2.1 y.1.2.2.2.2.2.1 y.1.2.2.2.2.2.2.1 y.1.2.2.2.2.2.2.2.1 y.1.2.2.2.2.2.2.2.2.1 y.1.2.2.2.2.2.2.2.2.2.1 y.1.2.2.2.2.2.2.2.2.2.2) ⟨x,J⟩⟩
 | @aX12 ι0 ι1 ι2 ι3 ι4 ι5 ι6 ι7 ι8 ι9 ι10 ι11 v ch,K,u,L,Z,w,d,e=>by
  obtain ⟨⟨x,f⟩,d⟩:=gr d;subst f;exact ⟨_,e x.1 x.2.1 x.2.2.1 x.2.2.2.1 x.2.2.2.2.1 x.2.2.2.2.2.1 x.2.2.2.2.2.2.1 x.2.2.2.2.2.2.2.1 x.2.2.2.2.2.2.2.2.1 x.2.2.2.2.2.2.2.2.2.1 x.2.2.2.2.2.2.2.2.2.2.1 x.2.2.2.2.2.2.2.2.2.2.2,d,fun L'=>fa (Q:=fun y:{y:ι0×ι1×ι2×ι3×ι4×ι5×ι6×ι7×ι8×ι9×ι10×ι11 // v x.1 x.2.1 x.2.2.1 x.2.2.2.1 x.2.2.2.2.1 x.2.2.2.2.2.1 x.2.2.2.2.2.2.1 x.2.2.2.2.2.2.2.1 x.2.2.2.2.2.2.2.2.1 x.2.2.2.2.2.2.2.2.2.1 x.2.2.2.2.2.2.2.2.2.2.1 x.2.2.2.2.2.2.2.2.2.2.2=v y.1 y.2.1 y.2.2.1 y.2.2.2.1 y.2.2.2.2.1 y.2.2.2.2.2.1 y.2.2.2.2.2.2.1 y.2.2.2.2.2.2.2.1 y.2.2.2.2.2.2.2.2.1 y.2.2.2.2.2.2.2.2.2.1 y.2.2.2.2.2.2.2.2.2.2.1 y.2.2.2.2.2.2.2.2.2.2.2}=>ch y.1.1 y.1.2.1 y.1.2.2.1 y.1.2.2.2.1 y.1.2.2.2.2.1 y.1.2.2.2.2.2.1 y.1.2.2.2.2.2.2.1 y.1.2.2.2.2.2.2.2.1 y.1.2.2.2.2.2.2.2.2.1 y.1.2.2.2.2.2.2.2.2.2.1 y.1.2.2.2.2.2.2.2.2.2.2.1 y.1.2.2.2.2.2.2.2.2.2.2.2) ⟨x,J⟩⟩
 | @aX15 ι0 ι1 ι2 ι3 ι4 ι5 ι6 ι7 ι8 ι9 ι10 ι11 ι12 ι13 ι14 v ch,K,u,L,Z,w,d,e=>by
  obtain ⟨⟨x,f⟩,d⟩:=gr d;subst f;exact ⟨_,e x.1 x.2.1 x.2.2.1 x.2.2.2.1 x.2.2.2.2.1 x.2.2.2.2.2.1 x.2.2.2.2.2.2.1 x.2.2.2.2.2.2.2.1 x.2.2.2.2.2.2.2.2.1 x.2.2.2.2.2.2.2.2.2.1 x.2.2.2.2.2.2.2.2.2.2.1 x.2.2.2.2.2.2.2.2.2.2.2.1 x.2.2.2.2.2.2.2.2.2.2.2.2.1 x.2.2.2.2.2.2.2.2.2.2.2.2.2.1 x.2.2.2.2.2.2.2.2.2.2.2.2.2.2,d,fun L'=>fa (Q:=fun y:{y:ι0×ι1×ι2×ι3×ι4×ι5×ι6×ι7×ι8×ι9×ι10×ι11×ι12×ι13×ι14 // v x.1 x.2.1 x.2.2.1 x.2.2.2.1 x.2.2.2.2.1 x.2.2.2.2.2.1 x.2.2.2.2.2.2.1 x.2.2.2.2.2.2.2.1 x.2.2.2.2.2.2.2.2.1 x.2.2.2.2.2.2.2.2.2.1 x.2.2.2.2.2.2.2.2.2.2.1 x.2.2.2.2.2.2.2.2.2.2.2.1 x.2.2.2.2.2.2.2.2.2.2.2.2.1 x.2.2.2.2.2.2.2.2.2.2.2.2.2.1 x.2.2.2.2.2.2.2.2.2.2.2.2.2.2=v y.1 y.2.1 y.2.2.1 y.2.2.2.1 y.2.2.2.2.1 y.2.2.2.2.2.1 y.2.2.2.2.2.2.1 y.2.2.2.2.2.2.2.1 y.2.2.2.2.2.2.2.2.1 y.2.2.2.2.2.2.2.2.2.1 y.2.2.2.2.2.2.2.2.2.2.1 y.2.2.2.2.2.2.2.2.2.2.2.1 y.2.2.2.2.2.2.2.2.2.2.2.2.1 y.2.2.2.2.2.2.2.2.2.2.2.2.2.1 y.2.2.2.2.2.2.2.2.2.2.2.2.2.2}=>ch y.1.1 y.1.2.1 y.1.2.2.1 y.1.2.2.2.1 y.1.2.2.2.2.1 y.1.2.2.2.2.2.1 y.1.2.2.2.2.2.2.1 y.1.2.2.2.2.2.2.2.1 y.1.2.2.2.2.2.2.2.2.1 y.1.2.2.2.2.2.2.2.2.2.1 y.1.2.2.2.2.2.2.2.2.2.2.1 y.1.2.2.2.2.2.2.2.2.2.2.2.1 y.1.2.2.2.2.2.2.2.2.2.2.2.2.1 y.1.2.2.2.2.2.2.2.2.2.2.2.2.2.1 y.1.2.2.2.2.2.2.2.2.2.2.2.2.2.2) ⟨x,J⟩⟩
 | @aX21 ι0 ι1 ι2 ι3 ι4 ι5 ι6 ι7 ι8 ι9 ι10 ι11 ι12 ι13 ι14 ι15 ι16 ι17 ι18 ι19 ι20 v ch,K,u,L,Z,w,d,e=>by
  obtain ⟨⟨x,f⟩,d⟩:=gr d;subst f;exact ⟨_,e x.1 x.2.1 x.2.2.1 x.2.2.2.1 x.2.2.2.2.1 x.2.2.2.2.2.1 x.2.2.2.2.2.2.1 x.2.2.2.2.2.2.2.1 x.2.2.2.2.2.2.2.2.1 x.2.2.2.2.2.2.2.2.2.1 x.2.2.2.2.2.2.2.2.2.2.1 x.2.2.2.2.2.2.2.2.2.2.2.1 x.2.2.2.2.2.2.2.2.2.2.2.2.1 x.2.2.2.2.2.2.2.2.2.2.2.2.2.1 x.2.2.2.2.2.2.2.2.2.2.2.2.2.2.1 x.2.2.2.2.2.2.2.2.2.2.2.2.2.2.2.1 x.2.2.2.2.2.2.2.2.2.2.2.2.2.2.2.2.1 x.2.2.2.2.2.2.2.2.2.2.2.2.2.2.2.2.2.1 x.2.2.2.2.2.2.2.2.2.2.2.2.2.2.2.2.2.2.1 x.2.2.2.2.2.2.2.2.2.2.2.2.2.2.2.2.2.2.2.1 x.2.2.2.2.2.2.2.2.2.2.2.2.2.2.2.2.2.2.2.2,d,fun L'=>fa (Q:=fun y:{y:ι0×ι1×ι2×ι3×ι4×ι5×ι6×ι7×ι8×ι9×ι10×ι11×ι12×ι13×ι14×ι15×ι16×ι17×ι18×ι19×ι20 // v x.1 x.2.1 x.2.2.1 x.2.2.2.1 x.2.2.2.2.1 x.2.2.2.2.2.1 x.2.2.2.2.2.2.1 x.2.2.2.2.2.2.2.1 x.2.2.2.2.2.2.2.2.1 x.2.2.2.2.2.2.2.2.2.1 x.2.2.2.2.2.2.2.2.2.2.1 x.2.2.2.2.2.2.2.2.2.2.2.1 x.2.2.2.2.2.2.2.2.2.2.2.2.1 x.2.2.2.2.2.2.2.2.2.2.2.2.2.1 x.2.2.2.2.2.2.2.2.2.2.2.2.2.2.1 x.2.2.2.2.2.2.2.2.2.2.2.2.2.2.2.1 x.2.2.2.2.2.2.2.2.2.2.2.2.2.2.2.2.1 x.2.2.2.2.2.2.2.2.2.2.2.2.2.2.2.2.2.1 x.2.2.2.2.2.2.2.2.2.2.2.2.2.2.2.2.2.2.1 x.2.2.2.2.2.2.2.2.2.2.2.2.2.2.2.2.2.2.2.1 x.2.2.2.2.2.2.2.2.2.2.2.2.2.2.2.2.2.2.2.2=v y.1 y.2.1 y.2.2.1 y.2.2.2.1 y.2.2.2.2.1 y.2.2.2.2.2.1 y.2.2.2.2.2.2.1 y.2.2.2.2.2.2.2.1 y.2.2.2.2.2.2.2.2.1 y.2.2.2.2.2.2.2.2.2.1 y.2.2.2.2.2.2.2.2.2.2.1 y.2.2.2.2.2.2.2.2.2.2.2.1 y.2.2.2.2.2.2.2.2.2.2.2.2.1 y.2.2.2.2.2.2.2.2.2.2.2.2.2.1 y.2.2.2.2.2.2.2.2.2.2.2.2.2.2.1 y.2.2.2.2.2.2.2.2.2.2.2.2.2.2.2.1 y.2.2.2.2.2.2.2.2.2.2.2.2.2.2.2.2.1 y.2.2.2.2.2.2.2.2.2.2.2.2.2.2.2.2.2.1 y.2.2.2.2.2.2.2.2.2.2.2.2.2.2.2.2.2.2.1 y.2.2.2.2.2.2.2.2.2.2.2.2.2.2.2.2.2.2.2.1 y.2.2.2.2.2.2.2.2.2.2.2.2.2.2.2.2.2.2.2.2}=>ch y.1.1 y.1.2.1 y.1.2.2.1 y.1.2.2.2.1 y.1.2.2.2.2.1 y.1.2.2.2.2.2.1 y.1.2.2.2.2.2.2.1 y.1.2.2.2.2.2.2.2.1 y.1.2.2.2.2.2.2.2.2.1 y.1.2.2.2.2.2.2.2.2.2.1 y.1.2.2.2.2.2.2.2.2.2.2.1 y.1.2.2.2.2.2.2.2.2.2.2.2.1 y.1.2.2.2.2.2.2.2.2.2.2.2.2.1 y.1.2.2.2.2.2.2.2.2.2.2.2.2.2.1 y.1.2.2.2.2.2.2.2.2.2.2.2.2.2.2.1 y.1.2.2.2.2.2.2.2.2.2.2.2.2.2.2.2.1 y.1.2.2.2.2.2.2.2.2.2.2.2.2.2.2.2.2.1 y.1.2.2.2.2.2.2.2.2.2.2.2.2.2.2.2.2.2.1 y.1.2.2.2.2.2.2.2.2.2.2.2.2.2.2.2.2.2.2.1 y.1.2.2.2.2.2.2.2.2.2.2.2.2.2.2.2.2.2.2.2.1 y.1.2.2.2.2.2.2.2.2.2.2.2.2.2.2.2.2.2.2.2.2) ⟨x,J⟩⟩
end Asn
open Asn
theorem bj (a:u=v)(h:Cv L D):Cv L ((Asn.aV v).full u++D):=h.trans (Np a)
theorem wU {v:ι0->Value}{ch:ι0->V3}(x0:ι0)(h:Cv L (ch x0++D)):Cv L ((Asn.aX1 v ch).full (v x0)++D):=h.trans (fa (Q:=fun y:{y:ι0 // v x0=v y}=>ch y.1) ⟨x0,rfl⟩)
theorem lp {ι1 ι2:Type}{v:ι0->ι1->ι2->Value}{ch:ι0->ι1->ι2->V3}(x0:ι0)(x1:ι1)(x2:ι2)(h:Cv L (ch x0 x1 x2++D)):Cv L ((Asn.aX3 v ch).full (v x0 x1 x2)++D):=h.trans (fa (Q:=fun y:{y:ι0×ι1×ι2 // v x0 x1 x2=v y.1 y.2.1 y.2.2}=>ch y.1.1 y.1.2.1 y.1.2.2) ⟨(x0,x1,x2),rfl⟩)
theorem G4 {ι1 ι2 ι3 ι4 ι5:Type}{v:ι0->ι1->ι2->ι3->ι4->ι5->Value}{ch:ι0->ι1->ι2->ι3->ι4->ι5->V3}(x0:ι0)(x1:ι1)(x2:ι2)(x3:ι3)(x4:ι4)(x5:ι5)(h:Cv L (ch x0 x1 x2 x3 x4 x5++D)):Cv L ((Asn.aX6 v ch).full (v x0 x1 x2 x3 x4 x5)++D):=h.trans (fa (Q:=fun y:{y:ι0×ι1×ι2×ι3×ι4×ι5 // v x0 x1 x2 x3 x4 x5=v y.1 y.2.1 y.2.2.1 y.2.2.2.1 y.2.2.2.2.1 y.2.2.2.2.2}=>ch y.1.1 y.1.2.1 y.1.2.2.1 y.1.2.2.2.1 y.1.2.2.2.2.1 y.1.2.2.2.2.2) ⟨(x0,x1,x2,x3,x4,x5),rfl⟩)
def wK (ds:List Nat)(As:List Asn):List Nat->(au->V3->V3->Prop)->au->V3->V3->Prop
 | [],K,s,L,L2=>K s L L2
 |i::r,K,s,L,L2=>(As.getD i (aV undef)).Op fun u c=>wK ds As r (fun d L' a=>K ((ds.getD i 0,u)::d) (c++L') (c++a)) s L L2
abbrev CE (ds:List Nat)(As:List Asn)(ix:List Nat)(K:au->V3->Prop)(s:au)(L:V3):Prop:=wK ds As ix (fun s L _=>K s L) s L L
def jq (As:List Asn):List (Value->V3):=As.map Asn.full
theorem Ft (As:List Asn)(i:Nat)(h:i<As.length):(jq As).getD i (fun _=> [])=(As.getD i (aV undef)).full:=by
 simp [jq,h]
section
variable {As:List Asn}{val:Nat->Value}
theorem Lc {r:List Nat}(hi:i<As.length):eH (jq As) val (i::r) L=(As.getD i (aV undef)).full (val i)++eH (jq As) val r L:=by
 unfold eH;rw [Wy,Ft _ _ hi,VT]
theorem Au {w:World}: ∀(ix:List Nat) (K:au->V3->V3->Prop) (Z:V3),(∀i∈ix,i<As.length)->Sp Z (eH (jq As) val ix L) w->wK ds As ix K s L L2-> ∃C,K (mo ds val ix s) (C++L) (C++L2)/\Sp Z (C++L) w/\ ∀L',Cv (C++L') (eH (jq As) val ix L')
 | [],K,Z,_,hw,h=>⟨[],h,hw,fun L'=>ah _⟩
 | i::r,K,Z,hi,hw,h=>by
  have a:=hi i (by simp);rw [Lc a] at hw;obtain ⟨c,m,l,f⟩:=(As.getD i (aV undef)).hop _ _ _ _ _ hw h
  have e:Sp (c++Z) (eH (jq As) val r L) w:=SepL.perm l (by
   show ((c++eH (jq As) val r L)++Z).Perm (eH (jq As) val r L++(c++Z));rw [VT]
   exact (Xc _ _ _))
  obtain ⟨C,p,o,n⟩:=Au r _ (c++Z) (fun j d=>hi j (by simp [d])) e m;refine ⟨c++C,?_,?_,fun L'=> ?_⟩
  ·rw [VT,VT];exact p
  ·rw [VT];refine SepL.perm o ?_;show ((C++L)++(c++Z)).Perm ((c++(C++L))++Z);rw [VT c (C++L) Z];exact Xc _ _ _
  rw [VT,Lc a];exact (ma c (n L')).trans (f _)
variable {A:Value->V3}
theorem UB {ix:List Nat}(hi:∀i∈ix,i<As.length)(h:wK ds As ix (fun z L' u=>nv P ops z L' u o A) s L L2):nv P ops (mo ds val ix s) (eH (jq As) val ix L) (eH (jq As) val ix L2) o A:=fun Z w hw=>by
 obtain ⟨C,d,c,j⟩:=Au ix _ Z hi hw h;rcases d Z w c with ⟨d,c⟩|⟨d,c⟩
 ·refine .inl ⟨d,fun ρ hρ=> ?_⟩;rcases c ρ hρ with ⟨v,w',L',d,c,m⟩|⟨w',L',d,c,m⟩|⟨f,args,d,c⟩|⟨l,f,t,a,b,d,c⟩
  ·exact .inl ⟨v,w',L',d,c,m.trans (ma _ (j _))⟩
  ·exact .inr (.inl ⟨w',L',d,c,m.trans (ma _ (j _))⟩)
  ·exact .inr (.inr (.inl ⟨f,args,d,c.mono fun e w' ⟨v,L',q,p,n⟩=>⟨v,L',q,p,n.trans (ma _ (j _))⟩⟩))
  exact .inr (.inr (.inr ⟨l,f,t,a,b,d,c.mono fun e w' ⟨v,L',q,p,n⟩=>⟨v,L',q,p,n.trans (ma _ (j _))⟩⟩))
 exact .inr ⟨d,ma _ (j _) _ _ c⟩
theorem UD {ix:List Nat}(hi:∀i∈ix,i<As.length)(h:CE ds As ix (fun a L'=>Hk P ops a L' L' o A) s L):QS P ops (mo ds val ix s) (eH (jq As) val ix L) o A:=fun Z w hw=>by
 obtain ⟨C,e,d,c⟩:=Au ix _ Z hi hw h;obtain ⟨v,l,j,f⟩:=e Z w d;exact ⟨v,l,j,ma _ (c _) _ _ f⟩
theorem aca {ix:List Nat}(hi:∀i∈ix,i<As.length)(h:CE ds As ix (fun d L'=>gA X ops K z listed d L') s L):gA X ops K z listed (mo ds val ix s) (eH (jq As) val ix L):=fun H l a w e c hw=>by
 obtain ⟨C,j,f,m⟩:=Au ix _ _ hi hw h;exact j H l a w e c f
end
theorem cL {t:au}(h:dK s t:=by first|exact dG|(repeat (first|exact abk|refine jB rfl ?_))):dK s t:=h
end
section
open Go.RowKit
class Fc (p:Prop):Prop where out:p
class FcA (P:Program) (t f:Nat) (o':outParam Nat):Prop where
  out: ∀b o w,(Instr.fieldAt t (.pointer (some ⟨b,o,none⟩)) f).run P w=.ok (.pointer (some ⟨b,o+o',none⟩)) w
class FcA0 (P:Program) (t f:Nat):Prop where
  out: ∀b o w,(Instr.fieldAt t (.pointer (some ⟨b,o,none⟩)) f).run P w=.ok (.pointer (some ⟨b,o,none⟩)) w
class FcS (P:Program) (t:Nat) (e:outParam Nat):Prop where
  out:P.underlying t=some (.slice e)
class FcG (P:Program) (t:Nat) (m:outParam Nat):Prop where
  out:ml P t m=true
class FcZ (P:Program) (e:Nat) (sz:outParam Nat):Prop where
  out:eI P e sz=true
def jS:IntKind->IntKind->Bool
  | .i64,.i64=>true
  | .u64,.u64=>true
  | .u8,.u8=>true
  | .i32,.i32=>true
  | .u32,.u32=>true
  | .u16,.u16=>true
  | .i16,.i16=>true
  | .i8,.i8=>true
  |_,_=>false
theorem sT {a b:IntKind}(h:jS a b=true):a=b:=by
  cases a<;>cases b<;>first|rfl|cases h
def CJ (s:au):Op->Option Value
  | .move x=>ao s x
  | .assign x=>ao s x
  | .unOp .not _ x=>match ao s x with|some (.bool b)=>some (.bool (!b))|_=>none
  | .binOp .eql _ x y _=>match ao s x,ao s y with|some (.int k a),some (.int k' b)=>bif jS k k' then some (.bool (decide (a=b))) else none|_,_=>none
  | .binOp .neq _ x y _=>match ao s x,ao s y with|some (.int k a),some (.int k' b)=>bif jS k k' then some (.bool (!decide (a=b))) else none|_,_=>none
  | .binOp .lss _ x y _=>match ao s x,ao s y with|some (.int k a),some (.int k' b)=>bif jS k k' then some (.bool (decide (a<b))) else none|_,_=>none
  | .binOp .leq _ x y _=>match ao s x,ao s y with|some (.int k a),some (.int k' b)=>bif jS k k' then some (.bool (decide (a<=b))) else none|_,_=>none
  | .binOp .gtr _ x y _=>match ao s x,ao s y with|some (.int k a),some (.int k' b)=>bif jS k k' then some (.bool (decide (b<a))) else none|_,_=>none
  | .binOp .geq _ x y _=>match ao s x,ao s y with|some (.int k a),some (.int k' b)=>bif jS k k' then some (.bool (decide (b<=a))) else none|_,_=>none
  | .pick c x y=>match ao s c with|some (.bool true)=>ao s x|some (.bool false)=>ao s y|_=>none
  | .extract x i=>match ao s x with|some (.tuple vs)=>vs[i]? |_=>none
  | .nilCheck x=>match ao s x with|some (.pointer (some a))=>some (.pointer (some a))|_=>none
  |_=>none
section
variable {d:Option Nat}{op:Op}
theorem Nw (h:CJ s op=some v):Ev P s (fun _=>True) ⟨d,op,ty,pos,af,gd⟩ v:=by
  unfold CJ at h;split at h
  ·exact ay h
  ·exact dQ h
  · split at h
    ·cases h;exact ww ‹_›
    ·cases h
  · split at h
    · rename_i k a k' b f e
      cases c:jS k k' with
      |false=>rw [c] at h;cases h
      |true=>rw [c] at h;cases sT c;cases h;exact N8 f e
    ·cases h
  · split at h
    · rename_i k a k' b f e
      cases c:jS k k' with
      |false=>rw [c] at h;cases h
      |true=>rw [c] at h;cases sT c;cases h;exact N9 f e
    ·cases h
  · split at h
    · rename_i k a k' b f e
      cases c:jS k k' with
      |false=>rw [c] at h;cases h
      |true=>rw [c] at h;cases sT c;cases h;exact ac6 f e
    ·cases h
  · split at h
    · rename_i k a k' b f e
      cases c:jS k k' with
      |false=>rw [c] at h;cases h
      |true=>rw [c] at h;cases sT c;cases h;exact ac1 f e
    ·cases h
  · split at h
    · rename_i k a k' b f e
      cases c:jS k k' with
      |false=>rw [c] at h;cases h
      |true=>rw [c] at h;cases sT c;cases h;exact acU f e
    ·cases h
  · split at h
    · rename_i k a k' b f e
      cases c:jS k k' with
      |false=>rw [c] at h;cases h
      |true=>rw [c] at h;cases sT c;cases h;exact N7 f e
    ·cases h
  · split at h
    ·exact Ky ‹_› h
    ·exact KF ‹_› h
    ·cases h
  · split at h
    ·exact oo ‹_› h
    ·cases h
  · split at h
    ·cases h;exact cr ‹_›
    ·cases h
  ·cases h
end
structure RunT (X:Cx) (ops:Array Oper) (o:Oper) (rest:List Oper) (K:K3) (s:au) (L:V3):Prop where
  out:bu ops s o=some true->aP X ops (o::rest) K s L
section
variable {rest:List Oper}{d:Nat}{op:Op}
theorem Hq (h:RunT X ops o rest K s L)(a:bu ops s o=some true:=by first|exact rfl|exact be (by assumption) rfl|exact bY (by assumption) rfl):aP X ops (o::rest) K s L:=h.out a
theorem Ht (k:aP X ops rest K ((d,undef)::s) L)(a:bu ops s ⟨some d,op,ty,pos,af,gd⟩=some false:=by first|exact rfl|exact eK (by assumption) rfl|exact gX (by assumption) rfl)(c:Nat.ble (d+1) X.n=true:=by exact rfl):aP X ops (⟨some d,op,ty,pos,af,gd⟩::rest) K s L:=ads a c k
theorem tE (h:CJ s op=some v)(a:bQ ⟨some d,op,ty,pos,af,gd⟩=true)(e:Nat.ble (d+1) X.n=true)(k:aP X ops rest K ((d,v)::s) L):RunT X ops ⟨some d,op,ty,pos,af,gd⟩ rest K s L:=⟨fun c=>bR (Nw h) a c e k⟩
theorem tP {c:Operand}{g:Bool}(j:ao s c=some (.bool g))(f:g=true)(a:ao s x=some v)(i:Nat.ble (d+1) X.n=true)(k:aP X ops rest K ((d,v)::s) L):RunT X ops ⟨some d,.pick c x y,ty,pos,af,gd⟩ rest K s L:=⟨fun e=>bR (oh f j a) rfl e i k⟩
theorem tQ {c:Operand}{g:Bool}(j:ao s c=some (.bool g))(f:g=false)(a:ao s y=some v)(i:Nat.ble (d+1) X.n=true)(k:aP X ops rest K ((d,v)::s) L):RunT X ops ⟨some d,.pick c x y,ty,pos,af,gd⟩ rest K s L:=⟨fun e=>bR (pY f j a) rfl e i k⟩
theorem Oz {t f b o:Nat}[h:FcA0 X.P t f](a:ao s x=some (.pointer (some ⟨b,o,none⟩)))(e:Nat.ble (d+1) X.n=true)(k:aP X ops rest K ((d,.pointer (some ⟨b,o,none⟩))::s) L):RunT X ops ⟨some d,.fieldAddr t x f,ty,pos,af,gd⟩ rest K s L:=⟨fun c=>bR (fb a h.out) rfl c e k⟩
theorem tF {t f o' b o:Nat}[h:FcA X.P t f o'](a:ao s x=some (.pointer (some ⟨b,o,none⟩)))(e:Nat.ble (d+1) X.n=true)(k:aP X ops rest K ((d,.pointer (some ⟨b,o+o',none⟩))::s) L):RunT X ops ⟨some d,.fieldAddr t x f,ty,pos,af,gd⟩ rest K s L:=⟨fun c=>bR (bW a h.out) rfl c e k⟩
theorem tB {bt:TypeId}{b o:Nat}[c:Fc (cz X.P t=true)](i:Nat)(hi:L[i]? =some (ab b bt cs))(a:ao s x=some (.pointer (some ⟨b,o,none⟩)))(j:cs[o]? =some v)(f:Nat.ble (d+1) X.n=true)(k:aP X ops rest K ((d,v)::s) L):RunT X ops ⟨some d,.load t x,ty,pos,af,gd⟩ rest K s L:=⟨fun e=>dF (cn i hi a c.out j) rfl e f k⟩
theorem tx (h:aP X ops l K s L):aP X ops l K s L:=h
theorem Hm {s2:au}(h:aP X ops l (jk s2 L2) s L):aP X ops l (jk s2 L2) s L:=h
theorem Hi (a:F=o::l)(h:aP X ops (o::l) K s L):aP X ops F K s L:=a▸h
theorem Hl (a:F=[])(h:K .normal s L):aP X ops F K s L:=a▸li h
theorem Hp {id:Nat}{N:Array Nat}{x y:Code}(h:Wq X (.block id (.rangeFunc g N x y)) K s L):Wq X (.block id (.rangeFunc g N x y)) K s L:=h
theorem Ho (h:Wq X c K s L):Wq X c K s L:=h
end
structure Bxd (q:Prop):Prop where un:q
theorem G {p q:Prop}(k:q)(h:Bxd q->p:=by
  intro k
  repeat (first
    | (with_reducible refine tx ?_
       refine Hi J ?_
       first
         | (refine Hq ?_
            first
              |refine tE rfl rfl rfl ?_
              |refine Oz rfl rfl ?_
              |refine tF rfl rfl ?_
              |refine tB 0 rfl rfl rfl rfl ?_
              |refine tB 1 rfl rfl rfl rfl ?_
              |refine tB 2 rfl rfl rfl rfl ?_
              |refine tB 3 rfl rfl rfl rfl ?_
              |refine tB 4 rfl rfl rfl rfl ?_
              |refine tB 5 rfl rfl rfl rfl ?_
              |refine tB 6 rfl rfl rfl rfl ?_
              |refine tB 7 rfl rfl rfl rfl ?_
              |refine tP rfl (by assumption) rfl rfl ?_
              |refine tQ rfl (by assumption) rfl rfl ?_)
         |refine Ht ?_)
    | (with_reducible refine tx ?_
       fail_if_success with_reducible refine Hm ?_
       refine Hl J ?_)
    | (with_reducible refine Ho ?_
       first
         |refine aH (iT ?_)
         |with_reducible refine iT ?_
         |with_reducible refine Cf ?_
         | (fail_if_success with_reducible refine Hp ?_
            with_reducible refine qi ?_)
         |with_reducible refine wI ?_
         |with_reducible refine Gw ?_)
    |with_reducible refine d5 ?_
    |with_reducible refine G2 ?_
    |with_reducible refine He ?_
    |with_reducible refine G1 ?_
    |with_reducible refine CA ?_
    |with_reducible refine Hf ?_)
  exact k.un):p:=h ⟨k⟩
theorem adn {p q:Prop}(k:q)(h:Bxd q->p:=by
  intro k
  repeat (first
    | (with_reducible refine tx ?_
       refine Hi J ?_
       first
         | (refine Hq ?_
            first
              |refine tE rfl rfl rfl ?_
              |refine Oz rfl rfl ?_
              |refine tF rfl rfl ?_
              |refine tB 0 rfl rfl rfl rfl ?_
              |refine tB 1 rfl rfl rfl rfl ?_
              |refine tB 2 rfl rfl rfl rfl ?_
              |refine tB 3 rfl rfl rfl rfl ?_
              |refine tB 4 rfl rfl rfl rfl ?_
              |refine tB 5 rfl rfl rfl rfl ?_
              |refine tB 6 rfl rfl rfl rfl ?_
              |refine tB 7 rfl rfl rfl rfl ?_
              |refine tP rfl (by assumption) rfl rfl ?_
              |refine tQ rfl (by assumption) rfl rfl ?_)
         |refine Ht ?_))
  exact k.un):p:=h ⟨k⟩
theorem adc {p q:Prop}(k:q)(h:Bxd q->p:=by
  intro k
  repeat (first
    | (with_reducible refine tx ?_
       fail_if_success with_reducible refine Hm ?_
       refine Hl J ?_)
    | (with_reducible refine Ho ?_
       first
         |refine aH (iT ?_)
         |with_reducible refine iT ?_
         |with_reducible refine Cf ?_
         | (fail_if_success with_reducible refine Hp ?_
            with_reducible refine qi ?_)
         |with_reducible refine wI ?_
         |with_reducible refine Gw ?_)
    |with_reducible refine d5 ?_
    |with_reducible refine G2 ?_
    |with_reducible refine He ?_
    |with_reducible refine G1 ?_
    |with_reducible refine CA ?_
    |with_reducible refine Hf ?_)
  exact k.un):p:=h ⟨k⟩
end
section
open Go.RowKit
open Asn
def jv (m:Nat)(listed:Array Bool)(Bs:List V3):V3:=((List.range m).filter fun i=> !listed.getD i false).flatMap fun i=>Bs.getD i []
theorem Ns (h:∀i,i<m->listed.getD i false=true):jv m listed Bs=[]:=by
 unfold jv;rw [List.filter_eq_nil_iff.2 fun i hi=>by rw [h i (W7.1 hi)];simp];rfl
theorem aac (d:j<m)(f:listed.getD j false=false)(a:j<listed.size):(jv m listed Bs).Perm (Bs.getD j []++jv m (listed.setIfInBounds j true) Bs):=by
 unfold jv
 have c:((List.range m).filter fun i=> !listed.getD i false).Perm (j::(List.range m).filter fun i=> !(listed.setIfInBounds j true).getD i false):=by
  refine (List.perm_ext_iff_of_nodup (List.nodup_range.filter _) (List.nodup_cons.2 ⟨fun h=> ?_,List.nodup_range.filter _⟩)).2 fun k=> ?_
  ·have n:=(W2.1 h).2;simp [a] at n
  rw [WZ,W2,W2];by_cases e:k=j
  ·subst e;simp [d,f]
  have l:(listed.setIfInBounds j true).getD k false=listed.getD k false:=by
   simp [V9 (fun h=>e h.symm)]
  rw [l];simp [e]
 exact c.flatMap_right _
theorem Tl {F Fp Fr U B d L D:List α}(c:F.Perm (Fp++Fr))(a:U.Perm (B++d)):(F++(U++L)++D).Perm ((Fp++(B++L))++(Fr++(d++D))):=by
 classical
 rw [List.perm_iff_count] at c a⊢;intro x;have:=c x;have:=a x;simp only [List.count_append] at*;omega
theorem Ul {F d Fp Fr A U L D:List α}(c:d.Perm (A++F))(a:F.Perm (Fp++Fr)):((A++(Fp++L))++(Fr++(U++D))).Perm (d++(U++L)++D):=by
 classical
 rw [List.perm_iff_count] at c a⊢;intro x;have:=c x;have:=a x;simp only [List.count_append] at*;omega
theorem abS {id:Nat}(hm:X.P.follows .mixedOrders=true)(m:Nat)(E ds:List Nat)(pr:List (List Nat))(As:List (Value->V3))(Bs:List V3)(hL:Cv D (jv m (Array.replicate l.length false) Bs++L))(hBq:∀q∈E,Bs.getD q []=[])(hok:xd l.toArray m E ds pr s X.n=true)(qstep:∀q∈E, ∀(o:Oper),q<m->l.toArray[q]? =some o-> ∀val:Nat->Value,QS X.P l.toArray (mo ds val (pr.getD q []) s) (eH As val (pr.getD q []) L) o (As.getD q fun _=> []))(step:∀(i:Nat) (o:Oper),i<m->l.toArray[i]? =some o-> ∀val:Nat->Value,nv X.P l.toArray (mo ds val (pr.getD i []) s) (eH As val (pr.getD i []) (Bs.getD i []++L)) (eH As val (pr.getD i []) L) o (As.getD i fun _=> []))(fin:∀val:Nat->Value,gA X l.toArray K (l.length - m) (jd (Array.replicate l.length false) (List.range m)) (mo ds val (List.range m) s) (eH As val (List.range m) L)):Wq X (.region id l.toArray true) K s D:=by
 unfold xd at hok;simp only [XM,XE,Wi,W7] at hok;obtain ⟨⟨⟨⟨⟨⟨⟨⟨hns,hqs⟩,h1⟩,h2⟩,h3⟩,h4⟩,h5⟩,h6⟩,h7⟩:=hok;simp only [List.size_toArray] at h2 h7 hqs
 have hdst: ∀i o,i<m->l.toArray[i]? =some o->o.dst=some (ds.getD i 0):=fun i o hi O=>by
  have f:=(h6 i hi).1.1.1;rw [O] at f
  have h9:o.dst=ds[i]? :=by simpa using f
  rw [h9];simp [List.getD,h3,hi]
 have hds: ∀i j,i<m->j<m->ds.getD i 0=ds.getD j 0->i=j:=fun i j hi hj e=>by
  have N:ds.getD i 0=ds[i]'W:=by simp [List.getD,h3,hi]
  have P:ds.getD j 0=ds[j]'W:=by simp [List.getD,h3,hj]
  rw [N,P] at e;have hp:=Xb.1 h4;rcases Nat.lt_trichotomy i j with h|h|h
  ·exact absurd e (hp i j W W h)
  ·exact h
  exact absurd e.symm (hp j i W W h)
 have hdn: ∀i,i<m->ds.getD i 0<X.n/\ ∀k v,cq s k=some v->k≠ds.getD i 0:=fun i hi=>by
  have hmem:ds.getD i 0∈ds:=by
   have N:ds.getD i 0=ds[i]'W:=by simp [List.getD,h3,hi]
   rw [N];exact XO _
  have f:=h5 _ hmem;refine ⟨Xl f.1,fun k v hp e=> ?_⟩;have h9:=f.2 _ (sw _ _ _ hp);simp only [e,Nat.beq_refl] at h9;cases h9
 have hpr: ∀i,i<m->(∀k∈pr.getD i [],k∈sU l.toArray i/\k<m)/\(pr.getD i []).Nodup/\ ∀k∈nl l.toArray i,k<i:=fun i hi=>by
  obtain ⟨⟨⟨-,g2⟩,g3⟩,g4⟩:=h6 i hi;refine ⟨fun k d=> ?_,g3,fun k d=> ?_⟩
  ·have g5:=g2 k d;exact ⟨by simpa using g5.1,Nat.lt_of_succ_le (Xl g5.2)⟩
  exact Nat.lt_of_succ_le (Xl (g4 k d))
 -- the invariant
 have main: ∀(z:Nat) (listed:Array Bool) (val:Nat->Value) (H:V3) (Q:List Nat) (a:Act) (w:World),listed.size=l.length->BM l.toArray listed->(∀t,m<=t->listed.getD t false=false)->z+(fG m listed).length=l.length->Fx X s a->(∀i,i<m->listed.getD i false=true->a.tmps.getD (ds.getD i 0) undef=val i)->a.defers=Q.map kZ->Sp (Q.map cO++H) (eH As val (fG m listed) (jv m listed Bs++L)) w->wpAnyIn (eO X.r) 0 X.P .any l.toArray (iD X H (mj K)) z listed a w:=by
  intro z
  induction z with
  | zero=>
   intro listed val H Q a w n hcl hhi hfu A hval hdf R;have hle:(fG m listed).length<=(List.range m).length:=WR _ _
   have hm':m=l.length:=by rw [List.length_range] at hle;omega
   have hlst:fG m listed=List.range m:=List.filter_eq_self.2 fun i hi=>List.length_filter_eq_length_iff.1 (show (fG m listed).length=(List.range m).length by rw [List.length_range];omega) i hi
   have hli:jd (Array.replicate l.length false) (List.range m)=listed:=by
    apply Array.ext
    ·rw [pK];simp [n]
    intro k d a6;rw [pK] at d;have N:=E9 (List.range m) (Array.replicate l.length false) k d;simp only [Array.size_replicate] at d
    have hin:k∈fG m listed:=by rw [hlst];simp;omega
    have P:=(kQ.1 hin).2
    have e3:(List.range m).contains k=true:=by simp;omega
    rw [e3,Bool.or_true] at N;simp only [V6,V7,a6,Xv] at P
    have a8:k<(jd (Array.replicate l.length false) (List.range m)).size:=by rw [pK];simpa using d
    simp only [V6,V7,a8,Xv] at N;rw [N,P]
   have hunl:jv m listed Bs=[]:=Ns fun i hi=>(kQ.1 (by rw [hlst];exact W7.2 hi)).2
   rw [hlst,hunl,XN] at R
   have hf:=fin val H Q a w ⟨A.size,fun k v d=>by
    rcases AM _ _ _ _ d with h|h
    ·obtain ⟨i,hi,he⟩:=W3.1 (sw _ _ _ h);cases he
     have hi':i∈fG m listed:=by rw [hlst];exact hi
     exact hval i (kQ.1 hi').1 (kQ.1 hi').2
    ·exact A.at_ k v h⟩ hdf R
   rw [hli,show l.length - m=0 by omega] at hf;exact hf
  | succ z ih=>
   intro listed val H Q a w n hcl hhi hfu A hval hdf R;by_cases hall: ∀i,i<m->listed.getD i false=true
   ·have hlst:fG m listed=List.range m:=List.filter_eq_self.2 fun i hi=>hall i (by simpa using hi)
    have hli:jd (Array.replicate l.length false) (List.range m)=listed:=by
     apply Array.ext
     ·rw [pK];simp [n]
     intro k d a6;rw [pK] at d;have N:=E9 (List.range m) (Array.replicate l.length false) k d
     have a8:k<(jd (Array.replicate l.length false) (List.range m)).size:=by rw [pK];exact d
     simp only [V6,V7,a8,Xv] at N;rw [N];simp only [Array.size_replicate] at d;by_cases hkm:k<m
     ·have P:=hall k hkm;simp only [V6,V7,a6,Xv] at P;rw [P];simp [hkm]
     have P:=hhi k W;simp only [V6,V7,a6,Xv] at P;rw [P];simp [d,hkm]
    rw [hlst,Ns hall,XN] at R;rw [hlst] at hfu;rw [List.length_range] at hfu
    have hf:=fin val H Q a w ⟨A.size,fun k v d=>by
     rcases AM _ _ _ _ d with h|h
     ·obtain ⟨i,hi,he⟩:=W3.1 (sw _ _ _ h);cases he
      have hi':i<m:=by simpa using hi
      exact hval i hi' (hall i hi')
     ·exact A.at_ k v h⟩ hdf R
    rw [hli,show l.length - m=z+1 by omega] at hf;exact hf
   have hex: ∃i,i<m/\listed.getD i false=false:=by
    refine Classical.byContradiction fun h=>hall fun i hi=> ?_
    cases hb:listed.getD i false with
    |true=>rfl
    |false=>exact absurd ⟨i,hi,hb⟩ h
   have hun: ∀i,listed.getD i false=false->i<l.length->listed.getD i true=false:=fun i hi Z=>by
    simp only [V6,V7,n,Z,Xv] at hi⊢;exact hi
   have hleast: ∃B,B<m/\listed.getD B false=false/\B∈Region.ready .any l.toArray listed:=by
    obtain ⟨⟨S,U⟩,hmin⟩:=leastOf_spec hex;generalize leastOf (fun i=>i<m/\listed.getD i false=false)=B at S U hmin
    have Z:B<l.length:=by omega
    refine ⟨B,S,U,?_⟩
    
    refine mem_ready.2 ⟨hun B U Z,l[B],by simp [Z],fun e he hb=> ?_⟩
    have hon:e.on∈nl l.toArray B:=by
     unfold nl;rw [show l.toArray[B]? =some l[B] by simp [Z]];exact W3.2 ⟨e,W2.2 ⟨by simpa using he,hb⟩,J⟩
    have hlt2:=(hpr B S).2.2 _ hon
    cases b6:listed.getD e.on false with
    |true=>rfl
    |false=>have:=hmin _ ⟨by omega,b6⟩;omega
   -- what an operation takes,and going on behind it
   have prep: ∀j o,j∈Region.ready .any l.toArray listed->j<m->l.toArray[j]? =some o-> ∃rest:List Nat,
     Sp ((rest.flatMap fun i=>(As.getD i fun _=> []) (val i))++(jv m (listed.setIfInBounds j true) Bs++(Q.map cO++H))) (eH As val (pr.getD j []) (Bs.getD j []++L)) w/\Fx X (mo ds val (pr.getD j []) s) a/\
     ∀(v:Value) (w':World),Sp ((rest.flatMap fun i=>(As.getD i fun _=> []) (val i))++(jv m (listed.setIfInBounds j true) Bs++(Q.map cO++H))) ((As.getD j fun _=> []) v++eH As val (pr.getD j []) L) w'->wpAnyIn (eO X.r) 0 X.P .any l.toArray (iD X H (mj K)) z (listed.setIfInBounds j true) (a.put o.dst v) w':=by
    intro j o hj p O;obtain ⟨hju,o2,ho2,hedge⟩:=mem_ready.1 hj;rw [O] at ho2;cases ho2
    have M:j<l.length:=by
     have:=(Array.getElem?_eq_some_iff.1 O).1;simpa using this
    have hjf:listed.getD j false=false:=by
     simp only [V6,V7,n,M,Xv] at hju⊢;exact hju
    obtain ⟨hp1,hp2,hp3⟩:=hpr j p
    have hps: ∀k∈pr.getD j [],k∈fG m listed:=fun k d=>by
     obtain ⟨g1,g2⟩:=hp1 k d;exact kQ.2 ⟨g2,E2 hcl hj (EV k g1)⟩
    have hd:=hdst j o p O;obtain ⟨hdlt,hdne⟩:=hdn j p
    -- the chunks that the operation takes,and the rest
    have hperm:(fG m listed).Perm (pr.getD j []++(fG m listed).filter fun k=> !(pr.getD j []).contains k):=by
     refine (List.perm_ext_iff_of_nodup lst_nodup ?_).2 fun k=> ?_
     ·refine W9.2 ⟨hp2,lst_nodup.filter _,fun x hx y hy e=> ?_⟩;subst e;have h11:=(W2.1 hy).2;have h12:(pr.getD j []).contains x=true:=List.contains_iff_mem.2 hx;rw [h12] at h11;cases h11
     constructor
     ·intro d;by_cases hkp:k∈pr.getD j []
      ·exact VU _ hkp
      exact VV _ (W2.2 ⟨d,by simpa using hkp⟩)
     intro d;rcases WY.1 d with d|d
     ·exact hps k d
     exact (W2.1 d).1
    generalize hrest:(fG m listed).filter (fun k=> !(pr.getD j []).contains k)=rest at hperm
    have hsp1:Sp ((rest.flatMap fun i=>(As.getD i fun _=> []) (val i))++(jv m (listed.setIfInBounds j true) Bs++(Q.map cO++H))) (eH As val (pr.getD j []) (Bs.getD j []++L)) w:=by
     refine SepL.perm R ?_;unfold eH;have N:=BB (As:=As) (val:=val) hperm;rw [Wx] at N;have e9:=aac (Bs:=Bs) (m:=m) (listed:=listed) p hjf (by rw [n];exact M);exact Tl N e9
    have hfxs:Fx X (mo ds val (pr.getD j []) s) a:=⟨A.size,fun k v d=>by
     rcases AM _ _ _ _ d with h|h
     ·obtain ⟨i,hi,he⟩:=W3.1 (sw _ _ _ h);cases he;exact hval i (kQ.1 (hps i hi)).1 (kQ.1 (hps i hi)).2
     ·exact A.at_ k v h⟩
    refine ⟨rest,hsp1,hfxs,?_⟩
    have go: ∀(v:Value) (w':World),Sp ((rest.flatMap fun i=>(As.getD i fun _=> []) (val i))++(jv m (listed.setIfInBounds j true) Bs++(Q.map cO++H))) ((As.getD j fun _=> []) v++eH As val (pr.getD j []) L) w'->wpAnyIn (eO X.r) 0 X.P .any l.toArray (iD X H (mj K)) z (listed.setIfInBounds j true) (a.put o.dst v) w':=by
     intro v w' hsp2;rw [hd]
     have hjn:j∉fG m listed:=fun h=>by have:=(kQ.1 h).2;rw [hjf] at this;cases this
     have b0:(fG m (listed.setIfInBounds j true)).Perm (j::fG m listed):=by
      refine (List.perm_ext_iff_of_nodup lst_nodup (List.nodup_cons.2 ⟨hjn,lst_nodup⟩)).2 fun k=> ?_
      rw [kQ,WZ,kQ];constructor
      ·rintro ⟨g1,g2⟩;rcases El g2 with e|e
       ·exact .inl e
       exact .inr ⟨g1,e⟩
      rintro (e|⟨g1,g2⟩)
      ·subst e;refine ⟨p,?_⟩;simp [n,M]
      exact ⟨g1,getD_set_true g2⟩
     refine ih (listed.setIfInBounds j true) (fun k=>if k=j then v else val k) H Q (a.put (some (ds.getD j 0)) v) w' (by simpa using n) (Sw hcl hj) (fun t ht=> ?_) ?_ ?_ ?_ ((put_defers _ _ _).trans hdf) ?_
     ·rw [getD_set_ne false W];exact hhi t ht
     ·have:=b0.length_eq;rw [WP] at this;omega
     ·refine (A.put v hdlt).sub fun k u d=> ?_
      rw [gm,if_neg (fun e=>hdne k u d e.symm)];exact d
     ·intro i hi hli;have hput:(a.put (some (ds.getD j 0)) v).tmps=a.tmps.setIfInBounds (ds.getD j 0) v:=rfl;rw [hput];by_cases e:i=j
      ·subst e;rw [if_pos rfl]
       have h13:ds.getD i 0<a.tmps.size:=by rw [A.size];exact hdlt
       generalize ds.getD i 0=dd at h13⊢;simp [h13]
      rw [if_neg e];rcases El hli with P|P
      ·exact absurd P e
      rw [<-hval i hi P]
      have V:ds.getD j 0≠ds.getD i 0:=fun h=>e (hds j i p hi h).symm
      generalize ds.getD j 0=dd at V⊢;generalize ds.getD i 0=de at V⊢;simp [V9 V]
     refine SepL.perm hsp2 ?_;unfold eH;have N:=BB (As:=As) (val:=fun k=>if k=j then v else val k) b0;rw [Wy,if_pos rfl] at N
     have P:((fG m listed).flatMap fun i=>(As.getD i fun _=> []) (if i=j then v else val i))=(fG m listed).flatMap fun i=>(As.getD i fun _=> []) (val i):=by
      have key: ∀F:List Nat,(∀i∈F,i∈fG m listed)->(F.flatMap fun i=>(As.getD i fun _=> []) (if i=j then v else val i))=F.flatMap fun i=>(As.getD i fun _=> []) (val i):=by
       intro F
       induction F with
       |nil=>intro _;rfl
       |cons i F ihl=>
        intro hl';rw [Wy,Wy,ihl fun q hq=>hl' q (by simp [hq]),if_neg (fun e:i=j=>hjn (e▸hl' i (by simp)))]
      exact key _ fun _ h=>h
     rw [P] at N;have e3:=BB (As:=As) (val:=val) hperm;rw [Wx] at e3;exact Ul N e3
    exact go
   by_cases hq: ∃q∈E,q<m/\q∈Region.ready .any l.toArray listed
   ·-- an operation whose value does not depend on the world comes first
    obtain ⟨q,hqm,hqlt,hqr⟩:=hq;obtain ⟨hqu,o,O,hedge⟩:=mem_ready.1 hqr;obtain ⟨rest,hsp1,hfxs,go⟩:=prep q o hqr hqlt O;rw [hBq q hqm,XN] at hsp1;obtain ⟨v,hg,hev,hcv⟩:=qstep q hqm o hqlt O val _ _ hsp1;have hfree:=hqs q hqm;rw [O] at hfree;simp only [Wi,W7] at hfree;refine AQ _ _ _ _ (E8 (C:=fun _=>True) (oi:=o) (v:=v) O (AD h1) (Region.noSelect_spec hns) (fun c a w ⟨_,_,_,_,_,_,he,_⟩=>(by cases he)) z listed a w trivial ?_ hqr (.inl ⟨lI hfxs hg,fun w' _=>hev a.eval (fun x u hx=>hfxs.eval hx) w' trivial⟩) (ND _ _ _ _ (go v w hcv)));intro j oj hoj V hul hno
    have M:j<l.length:=by
     have:=(Array.getElem?_eq_some_iff.1 hoj).1;simpa using this
    have f:=hfree j M;rw [hoj] at f;simp only [Bool.or_eq_true] at f;rcases f with ((f|f)|f)|f
    ·exact absurd (Xj f) V
    ·obtain ⟨o',e,ho',he,hb,heq⟩:=FE (List.contains_iff_mem.1 f);rw [hoj] at ho';cases ho';exact absurd heq (hno e he hb)
    ·have h14:=E2 hcl hqr (EV j (List.contains_iff_mem.1 f));simp only [V6,V7,n,M,Xv] at h14 hul;rw [h14] at hul;cases hul
    exact f
   refine ⟨fun hr=> ?_,fun j hj=> ?_⟩
   ·obtain ⟨B, -, -,hin⟩:=hleast;rw [hr] at hin;cases hin
   obtain ⟨hju,o,O,hedge⟩:=mem_ready.1 hj
   have M:j<l.length:=by
    have:=(Array.getElem?_eq_some_iff.1 O).1;simpa using this
   have p:j<m:=by
    refine Classical.byContradiction fun hge=> ?_
    obtain ⟨B,S,U,hin0⟩:=hleast;have f:=h7 j M
    have h9:Nat.blt j m=false:=by
     cases hb:Nat.blt j m with
     |false=>rfl
     |true=>exact absurd (Nat.lt_of_succ_le (Xl hb)) hge
    rw [h9,Bool.false_or,Wi] at f;have T:=f B (by simpa using S);rw [Bool.or_eq_true] at T;rcases T with T|T
    ·exact hq ⟨B,List.contains_iff_mem.1 T,S,hin0⟩
    have:=E2 hcl hj (EV B (by simpa using T));rw [U] at this;cases this
   have hndef:bQ o=true:=AD h1 j o O;obtain ⟨rest,hsp1,hfxs,go⟩:=prep j o hj p O;unfold wpOpIn;rw [O]
   dsimp only
   rcases step j o p O val _ _ hsp1 with ⟨hg,hop⟩|⟨hg,hsp2⟩
   ·rw [if_pos (lI hfxs hg)];refine (hop a.eval fun x u hx=>hfxs.eval hx).wpIn hndef fun v L' w' hc hs=> ?_
    exact go v w' (hc _ _ hs)
   rw [if_neg (by rw [lI hfxs hg];exact Bool.false_ne_true)];exact ⟨fun _ _=>trivial,go undef w hsp2⟩
 intro H Q a w ha hds' hw;have hw1:Sp (Q.map cO++H) (jv m (Array.replicate l.length false) Bs++L) {w with drawn:=w.drawn+1}:=SepL.same (hL _ _ hw) ⟨rfl,rfl,rfl,Xm _,fun _ _ _=>rfl⟩
 have hf: ∀k,(Array.replicate l.length false).getD k false=false:=fun k=>by
  simp only [V6,Array.getElem?_replicate];split<;>rfl
 have b5:fG m (Array.replicate l.length false)=[]:=by
  refine List.eq_nil_iff_forall_not_mem.2 fun i hi=> ?_
  have:=(kQ.1 hi).2;rw [hf] at this;cases this
 have h9:=main l.length (Array.replicate l.length false) (fun _=>undef) H Q a _ (by simp) (fun k o e d=>by rw [hf] at d;cases d) (fun t _=>hf t) (by rw [b5];simp) ha (fun i _ hi=>by rw [hf] at hi;cases hi) hds' (by rw [b5];exact hw1);refine wpIn_mono (wpIn_region_any hm (by simpa using h9)) ?_;rintro e a' w' ⟨s',L',Ds',g1,g2,g3,rfl,g4⟩;exact ⟨s',L',Ds',g1,g2,g3,g4⟩
theorem fB: ∀q∈([]:List Nat),Bs.getD q []=[]:=fun _ h=>nomatch h
theorem ft (h:Bs.getD q' []=[])(t:∀q∈E,Bs.getD q []=[]): ∀q∈q'::E,Bs.getD q []=[]:=fun q a=>(WZ.1 a).elim (fun e=>e▸h) (t q)
theorem FU {val:Nat->Value}: ∀(l:List Nat),(∀i∈l, ∀j∈l,ds.getD i 0=ds.getD j 0->i=j)-> ∀i∈l,cq (l.map (fun i=>(ds.getD i 0,val i))++s) (ds.getD i 0)=some (val i)
 | [],_,i,h=>by cases h
 |j::l,c,i,h=>by
  rw [WW,Wm,gm];by_cases e:ds.getD j 0=ds.getD i 0
  ·rw [if_pos e,c j (by simp) i h e]
  rw [if_neg e];rcases WZ.1 h with f|h
  ·subst f;exact absurd J e
  exact FU l (fun a d b hb=>c a (by simp [d]) b (by simp [hb])) i h
theorem Fu {val:Nat->Value}: ∀(l:List Nat),(∀i∈l,ds.getD i 0≠k)->cq (l.map (fun i=>(ds.getD i 0,val i))++s) k=cq s k
 | [],_=>rfl
 |j::l,a=>by
  rw [WW,Wm,gm,if_neg (a j (by simp))];exact Fu l fun i hi=>a i (by simp [hi])
theorem Uu {As:List (Value->V3)}{val:Nat->Value}{ix:List Nat}(j:ix.Nodup)(hm:∀i∈ix,i<m):Cv (eH As val (List.range m) L) (eH As val ix L):=by
 have f:(List.range m).Perm (((List.range m).filter fun i=> !ix.contains i)++ix):=by
  refine (List.perm_ext_iff_of_nodup List.nodup_range ?_).2 fun k=> ?_
  ·refine W9.2 ⟨List.nodup_range.filter _,j,fun x d y c e=> ?_⟩;subst e;have a:=(W2.1 d).2;rw [List.contains_iff_mem.2 c] at a;cases a
  rw [WY,W2,W7];by_cases h:k∈ix
  ·simp [h,hm k h]
  simp [h]
 have e:=BB (As:=As) (val:=val) f;rw [Wx] at e;unfold eH;refine Cv.trans (fun Z w h=>SepL.perm h ((e.append_right L).append_right Z)) ?_;rw [VT];exact LZ _
theorem fv {id:Nat}(hm:X.P.follows .mixedOrders=true)(m:Nat)(E ix ds:List Nat)(pr:List (List Nat))(As:List Asn)(Bs:List V3)(S:Cv D (jv m (Array.replicate l.length false) Bs++L))(H:∀q∈E,Bs.getD q []=[])(c:xd l.toArray m E ds pr s X.n=true)(hlen:Nat.beq As.length m=true)(f:(ix.all (fun i=>Nat.blt i m)&&decide ix.Nodup)=true)(qstep:∀q∈E, ∀(o:Oper),q<m->l.toArray[q]? =some o->CE ds As (pr.getD q []) (fun p L'=>Hk X.P l.toArray p L' L' o (As.getD q (aV undef)).full) s L)(step:∀(i:Nat) (o:Oper),i<m->l.toArray[i]? =some o->wK ds As (pr.getD i []) (fun p L' O=>nv X.P l.toArray p L' O o (As.getD i (aV undef)).full) s (Bs.getD i []++L) L)(fin:CE ds As ix (fun p L'=>gA X l.toArray K (l.length - m) (jd (Array.replicate l.length false) (List.range m)) p L') s L):Wq X (.region id l.toArray true) K s D:=by
 have hl:As.length=m:=Xj hlen
 have u: ∀i,i<m-> ∀k∈pr.getD i [],k<As.length:=fun i hi k d=>by
  unfold xd at c;simp only [XM,Wi,W7] at c;have T:=(c.1.2 i hi).1.1.2 k d;have h7:=Xl T.2;omega
 simp only [XM,Wi,XE] at f
 have hixm: ∀i∈ix,i<m:=fun i hi=>Nat.lt_of_succ_le (Xl (f.1 i hi))
 have n:(∀i j,i<m->j<m->ds.getD i 0=ds.getD j 0->i=j)/\ ∀i,i<m-> ∀k v,cq s k=some v->k≠ds.getD i 0:=by
  have hok2:=c;unfold xd at hok2;simp only [XM,XE,Wi,W7] at hok2;obtain ⟨⟨⟨⟨⟨⟨⟨⟨-, -⟩, -⟩, -⟩,M⟩,V⟩,U⟩, -⟩, -⟩:=hok2;refine ⟨fun i j hi R e=> ?_,fun i hi k v B e=> ?_⟩
  ·have N:ds.getD i 0=ds[i]'W:=by simp [List.getD,M,hi]
   have Z:ds.getD j 0=ds[j]'W:=by simp [List.getD,M,R]
   rw [N,Z] at e;have B:=Xb.1 V;rcases Nat.lt_trichotomy i j with h|h|h
   ·exact absurd e (B i j W W h)
   ·exact h
   exact absurd e.symm (B j i W W h)
  have hmem:ds.getD i 0∈ds:=by
   have N:ds.getD i 0=ds[i]'W:=by simp [List.getD,M,hi]
   rw [N];exact XO _
  have P:=(U _ hmem).2 _ (sw _ _ _ B);simp only [e,Nat.beq_refl] at P;cases P
 refine abS hm m E ds pr (jq As) Bs S H c (fun q Q o t C val=> ?_) (fun i o z C val=> ?_) fun val=> ?_
 ·rw [Ft _ _ W];exact UD (u q t) (qstep q Q o t C)
 ·rw [Ft _ _ W];exact UB (u i z) (step i o z C)
 refine eF (aca (fun i hi=>by have:=hixm i hi;omega) fin) (fun k v d=> ?_) (Uu f.2 hixm);unfold mo at d⊢;by_cases A: ∃i∈ix,ds.getD i 0=k
 ·obtain ⟨i,hi,rfl⟩:=A;rw [FU ix (fun a F b hb e=>n.1 a b (hixm a F) (hixm b hb) e) i hi] at d;rw [FU (List.range m) (fun a F b hb e=>n.1 a b (W7.1 F) (W7.1 hb) e) i (W7.2 (hixm i hi))];exact d
 rw [Fu ix fun i hi e=>A ⟨i,hi,e⟩] at d;rw [Fu (List.range m) fun i hi e=>n.2 i (W7.1 hi) k v d e.symm];exact d
end
section
open Go.RowKit
def Cw (e:TypeId)(sz:Nat)(v:Value):Chunk where
 ok T _ w:= ∃g n cap a,v=.slice (some ⟨g,0,none⟩) n cap/\T g/\w.heap[g]? =some (.cells a e (0,0))/\n<=cap/\cap<=maxLen/\a.size=cap*sz
 loc:=fun h ⟨g,n,cap,a,i,c,f,d⟩=>⟨g,n,cap,a,i,c,Blk.agr (t:=e) f h (.inl c),d⟩
 mono:=fun _ h=>h
 ro:=false
 dup:=fun h=>Bool.noConfusion h
section
variable {d:Option Nat}
theorem Fd {l:TypeId}{n:Int}{k kn:IntKind}{sz:Nat}(N:ao s x=some (Y none 0 0))(M:ao s y=some (.int k n))(O:P.underlying t=some (.slice e))(p:P.underlying l=some (.int kn))(j:iB P e sz by_=true)(E:Nat.ble by_ 127=true)(h0:0<n)(hb:n<=1099511627776):OpX P s L ⟨d,.call ⟨.builtin .append, #[x,y], #[t,l]⟩,ty,pos,af,gd⟩ fun u L'=> ∃A n c,u=.slice A n c/\L'=Cw e sz (.slice A n c)::L:=fun ρ hρ Z w hw=>by
 have hbuilt:=kN (P:=P) (ρ:=ρ) (d:=d) (ty:=ty) (pos:=pos) (af:=af) (gd:=gd) (b:=.append) (xs:=[x,y]) (ats:= #[t,l]) (vs:=[Y none 0 0,.int k n]) (by simp [hρ x _ N,hρ y _ M]) w
 have hby':=Xl E
 obtain ⟨m,rfl⟩: ∃m:Nat,n=m:=⟨n.toNat,by omega⟩;unfold iB at j
 cases hinfo:P.info? e with
 |none=>rw [hinfo] at j;cases j
 | some f=>
  rw [hinfo] at j;simp only [XM] at j;obtain ⟨⟨⟨K,H⟩,o⟩,F⟩:=j
  cases i:f.zero with
  |none=>rw [i] at o;cases o
  | some z=>
   rw [i] at o;have e2:=Xj K;have e3:=Xj H;have U:=Xj o
   have e5:0<sz:=by have X:1<=sz:=(by simpa [Nat.blt] using F);omega
   have hm:m*f.bytes<=281474976710656:=Xn (Nat.mul_le_mul (show m<=1099511627776 by omega) (show f.bytes<=127 by omega)) (by decide);have hr:=Lib.run_append_nil_zeros (P:=P) w t l ty e f z k kn O p hinfo i m W W W hm;have C:=grownCap_ge w m 0 e;have D:=grownCap_le_maxLen w m 0 e (by unfold maxLen;omega)
   have hcur:(Builtin.zeroCells z.cells m++Builtin.zeroCells z.cells (grownCap w m 0 e - m)).size=grownCap w m 0 e*sz:=by
    simp only [Array.size_append,size_zeroCells,U, <-Xi]
    congr 1
    omega
   generalize Builtin.zeroCells z.cells m++Builtin.zeroCells z.cells (grownCap w m 0 e - m)=a at*;have R:Agr (fun _=>True) w (w.drew.alloc (.cells a e)):=⟨rfl,rfl,rfl,by simp,fun q B _=>heap_alloc_old w.drew (.cells a e) B⟩;have Q:(w.drew.alloc (.cells a e)).heap[w.heap.size]? =some (.cells a e (0,0)):=heap_alloc_new w.drew (.cells a e)
   have V:(w.drew.alloc (.cells a e)).heap.size=w.heap.size+1:=by simp
   refine .inl ⟨_,w.drew.alloc (.cells a e),Cw e sz (.slice (some ⟨w.heap.size,0,none⟩) m (grownCap w m 0 e))::L,?_,SepL.new (c:=Cw e sz (.slice (some ⟨w.heap.size,0,none⟩) m (grownCap w m 0 e))) hw R fun T S _=>⟨(· =w.heap.size),fun q B=>by subst B;omega,w.heap.size,m,grownCap w m 0 e,a,rfl,rfl,Q,C,D,hcur⟩,_,_,_,J,J⟩;rw [hbuilt];simp only [builtin,XB];have hr':(Builtin.append_ #[t,l] ty [Value.slice none 0 0,.int k (m:Int)].toArray).run P w=_:=hr;rw [hr'];rfl
theorem F1 {R:Rep α}{t e sz:Nat}(i:Nat)(hi:L[i]? =some (Cw e sz v))(z:ao s x=some v)(B:P.underlying t=some (.slice e))(D:eI P e sz=true)(f:R.sz=sz)(F:ao s y=some (.int .i64 0)):OpX P s L ⟨d,.slice t x none (some y) none,ty,pos,af,gd⟩ fun u L'=> ∃A n c,u=.slice A n c/\L'=L.set i (aK R e (.slice A n c) []):=fun ρ hρ Z w hw=>by
 have a:=hw;obtain ⟨T,S,K⟩:=hw;obtain ⟨g,n,cap,O,rfl,g1,g2,X,V,U⟩:=K.ok (bM hi);have hrun:=oz (P:=P) (C:=fun _=>True) (d:=d) (ty:=ty) (pos:=pos) (af:=af) (gd:=gd) (lo:=none) (hi:=some y) (l:=0) (h:=0) z B D rfl F (Xm _) W ρ hρ w trivial
 have H:dk (some ⟨g,0,none⟩) cap 0 sz=some ⟨g,0,none⟩:=by
  unfold dk;split
  ·rfl
  simp [Addr.add]
 rw [H] at hrun;refine .inl ⟨_,w,L.set i (aK R e (.slice (some ⟨g,0,none⟩) 0 cap) []),hrun,?_,_,_,_,J,J⟩
 have hfin:SepL ((L++Z).set i (aK R e (.slice (some ⟨g,0,none⟩) 0 cap) [])) w:=by
  refine a.weak (bM hi) fun T S ⟨g',n',cap',cur',N,p,o,Q,j,m⟩=> ?_
  obtain ⟨M,rfl,rfl⟩:=Value.slice.inj N;cases M;exact ⟨[],.nil,.inl ⟨⟨by simp,.inr ⟨g,cap,cur',rfl,Xt _,o,Xt _,j,by rw [f];exact ⟨cap,Xm _,j,m⟩,by simp⟩⟩,fun q E=>by cases E;exact p⟩⟩
 rw [gI Z hi] at hfin;exact hfin
theorem Fi {t e sz:Nat}(a:ao s x=some (Y none 0 0))(c:P.underlying t=some (.slice e))(f:eI P e sz=true)(i:ao s y=some (.int .i64 0)):Ev P s C ⟨d,.slice t x none (some y) none,ty,pos,af,gd⟩ (Y none 0 0):=
 oz (lo:=none) (hi:=some y) (l:=0) (h:=0) a c f rfl i (Xm _) (Xm _)
theorem ke (f:jT s N=some vs)(hr:∀w,(Instr.buildSlice t m vs.toArray).run P w=.ok (.slice (some ⟨w.heap.size,0,none⟩) m m) (w.alloc (.cells cs.toArray e))):OpX P s L ⟨d,.buildSlice t m N.toArray,ty,pos,af,gd⟩ fun u L'=> ∃b,u=.slice (some ⟨b,0,none⟩) m m/\L'=ab b e cs::L:=fun ρ hρ Z w hw=>by
 refine .inl ⟨_,w.alloc (.cells cs.toArray e),ab w.heap.size e cs::L,?_,SepL.new (c:=ab w.heap.size e cs) hw (Agr.of_ext ((Ext.refl w).alloc _)) fun _ S _=>⟨(· =w.heap.size),fun q a=> ?_,J,Blk.new w e _⟩,_,J,J⟩
 ·unfold execOp;simp only [WX,BJ hρ f,XB,hr,XA];rfl
 subst a;simp
end
def Wr (X:Cx)(c:Code)(K:K3)(m:Nat)(s:au)(L:V3):Prop:= ∀(H:V3) (d:List Nat) (a:Act) (w:World),Fx X s a->a.defers=d.map kZ->Sp (d.map cO++H) L w->Code.roundsIn (eO X.r) 0 X.P c (iD X H K) m a w
section
theorem qg (m:Nat)(h:Wr X c K m s L):Wq X (.loop c) K s L:=fun H f a w e d hw=>wpIn_loop_rounds m (h H f a w e d hw)
theorem fR (h:Wq X c (nx (fun s L=>Wr X c K m s L) K) s L):Wr X c K (m+1) s L:=fun H q a w o n hw=>by
 rw [roundsIn_succ];refine wpIn_mono (h H q a w o n hw) ?_;rintro e p w' ⟨l,L',Ds',j,i,f,d⟩
 cases e with
 |normal=>exact d H Ds' p w' j i f
 |_=>exact ⟨l,L',Ds',j,i,f,d⟩
end
end
section
open Go.RowKit
def G6 (s:au):List Nat->au->Prop
 |_,[]=>True
 |a,(d,v)::t=>(cq s d=some v\/a.contains d=true)/\G6 s (d::a) t
theorem LG: ∀{t:au} {f:List Nat},G6 s f t-> ∀k v,f.contains k=false->cq t k=some v->cq s k=some v
 | [],_,_=>fun _ _ _ h=>by cases h
 |(d,u)::t,f,h=>fun k v i a=>by
  rw [gm] at a;by_cases e:d=k
  ·subst e;rw [if_pos rfl] at a;cases a;rcases h.1 with c|c
   ·exact c
   rw [i] at c;cases c
  rw [if_neg e] at a;exact LG h.2 k v (by simp only [List.contains_cons,Bool.or_eq_false_iff];exact ⟨by simpa using fun h=>e h.symm,i⟩) a
theorem sA {t:au}(h:G6 s [] t:=by repeat (first|exact trivial|refine ⟨.inl rfl,?_⟩|refine ⟨.inr rfl,?_⟩)):dK s t:=fun k v a=>LG h k v rfl a
section
variable {rest:List Oper}{d:Nat}{op:Op}
theorem gD (h:OpX X.P s L ⟨some d,op,ty,pos,af,gd⟩ R)(k:∀v L',R v L'->aP X ops rest K ((d,v)::s) L')(a:bQ ⟨some d,op,ty,pos,af,gd⟩=true:=by rfl)(c:bu ops s ⟨some d,op,ty,pos,af,gd⟩=some true:=by rfl)(e:Nat.ble (d+1) X.n=true:=by rfl):aP X ops (⟨some d,op,ty,pos,af,gd⟩::rest) K s L:=tl h a c e k
theorem gO (h:OpX X.P s L ⟨none,op,ty,pos,af,gd⟩ R)(k:∀v L',R v L'->aP X ops rest K s L')(a:bQ ⟨none,op,ty,pos,af,gd⟩=true:=by rfl)(c:bu ops s ⟨none,op,ty,pos,af,gd⟩=some true:=by rfl):aP X ops (⟨none,op,ty,pos,af,gd⟩::rest) K s L:=Oa h a c k
theorem gE (h:Ev X.P s (fun _=>True) ⟨some d,op,ty,pos,af,gd⟩ v)(k:aP X ops rest K ((d,v)::s) L)(a:bQ ⟨some d,op,ty,pos,af,gd⟩=true:=by rfl)(c:bu ops s ⟨some d,op,ty,pos,af,gd⟩=some true:=by rfl)(e:Nat.ble (d+1) X.n=true:=by rfl):aP X ops (⟨some d,op,ty,pos,af,gd⟩::rest) K s L:=bR h a c e k
theorem gR (h:Rd X.P s L ⟨some d,op,ty,pos,af,gd⟩ v)(k:aP X ops rest K ((d,v)::s) L)(a:bQ ⟨some d,op,ty,pos,af,gd⟩=true:=by rfl)(c:bu ops s ⟨some d,op,ty,pos,af,gd⟩=some true:=by rfl)(e:Nat.ble (d+1) X.n=true:=by rfl):aP X ops (⟨some d,op,ty,pos,af,gd⟩::rest) K s L:=dF h a c e k
end
abbrev iV (z:Int):Value:=.int .i64 z
abbrev pV (b o:Nat):Value:=.pointer (some ⟨b,o,none⟩)
theorem gK (h:L'=[]):L'=[]:=h
theorem gG {t T:V3}{a:Chunk}(h:L'=a::t)(k:t=T):L'=a::T:=k▸h
theorem ld (k:aP X ops l K s L)(h:L'=L:=by repeat (first|exact gK rfl|apply gG rfl|exact rfl)):aP X ops l K s L':=h▸k
theorem bX (k:bv X ops K M z listed s L)(h:L'=L:=by repeat (first|exact gK rfl|apply gG rfl|exact rfl)):bv X ops K M z listed s L':=h▸k
theorem Cr (k:Wq X c K s L)(h:L'=L:=by repeat (first|exact gK rfl|apply gG rfl|exact rfl)):Wq X c K s L':=h▸k
theorem jo (k:gA X ops K z listed s L)(h:L'=L:=by repeat (first|exact gK rfl|apply gG rfl|exact rfl)):gA X ops K z listed s L':=h▸k
theorem cj {P:V3->Prop}(h:Cv L M)(k:P M): ∃M',Cv L M'/\Cv M' M/\P M':=⟨M,h,ah _,k⟩
theorem cS (ix:List Nat)(k:Nat)(c:nr ix k=true:=by exact rfl)(a:Nat.ble k L.length=true:=by exact rfl):Cv L (ln ix k L):=ql ix k c a
section
variable {d:Nat}{op:Op}
theorem zE (i:Nat)(hi:ops[i]? =some ⟨some d,op,ty,pos,af,gd⟩)(h:Ev X.P s (fun _=>True) ⟨some d,op,ty,pos,af,gd⟩ v)(k:bv X ops K M z (listed.setIfInBounds i true) ((d,v)::s) L)(a:jQ ops listed i=true:=by kernel_rfl)(c:bu ops s ⟨some d,op,ty,pos,af,gd⟩=some true:=by exact rfl)(e:Nat.ble (d+1) X.n=true:=by exact rfl):bv X ops K M (z+1) listed s L:=ei i hi a h c e k
theorem zR (i:Nat)(hi:ops[i]? =some ⟨some d,op,ty,pos,af,gd⟩)(h:Rd X.P s M ⟨some d,op,ty,pos,af,gd⟩ v)(k:bv X ops K M z (listed.setIfInBounds i true) ((d,v)::s) L)(a:jQ ops listed i=true:=by kernel_rfl)(c:bu ops s ⟨some d,op,ty,pos,af,gd⟩=some true:=by exact rfl)(e:Nat.ble (d+1) X.n=true:=by exact rfl):bv X ops K M (z+1) listed s L:=gb i hi a h c e k
theorem zD (i:Nat)(hi:ops[i]? =some ⟨some d,op,ty,pos,af,gd⟩)(h:OpX X.P s L ⟨some d,op,ty,pos,af,gd⟩ R)(k:∀v L',R v L'-> ∃M',Cv L' M'/\Cv M' M/\bv X ops K M' z (listed.setIfInBounds i true) ((d,v)::s) L')(hr:Region.ready .any ops listed=[i]:=by kernel_rfl)(a:bQ ⟨some d,op,ty,pos,af,gd⟩=true:=by exact rfl)(c:bu ops s ⟨some d,op,ty,pos,af,gd⟩=some true:=by exact rfl)(e:Nat.ble (d+1) X.n=true:=by exact rfl):bv X ops K M (z+1) listed s L:=iI i hi hr h a c e k
theorem zO (i:Nat)(hi:ops[i]? =some ⟨none,op,ty,pos,af,gd⟩)(h:OpX X.P s L ⟨none,op,ty,pos,af,gd⟩ R)(k:∀v L',R v L'-> ∃M',Cv L' M'/\Cv M' M/\bv X ops K M' z (listed.setIfInBounds i true) s L')(hr:Region.ready .any ops listed=[i]:=by kernel_rfl)(a:bQ ⟨none,op,ty,pos,af,gd⟩=true:=by exact rfl)(c:bu ops s ⟨none,op,ty,pos,af,gd⟩=some true:=by exact rfl):bv X ops K M (z+1) listed s L:=ab2 i hi hr h a c k
end
end
section
open Go.RowKit
abbrev nu (f:α->Prop)(g:β->Prop)(r:α ⊕ β):Prop:=match r with
 | .inl a=>f a
 | .inr b=>g b
def dB {γ:Type}(s:α ⊕ β)(f:α->γ)(g:β->γ):γ:=match s with
 | .inl a=>f a
 | .inr b=>g b
theorem gk {γ:Type}{a:α}{f:α->γ}{g:β->γ}{r:γ}(h:dB (.inl a) f g=r):f a=r:=h
theorem gj {γ:Type}{b:β}{f:α->γ}{g:β->γ}{r:γ}(h:dB (.inr b) f g=r):g b=r:=h
theorem BO {xs:List α}{x z:α}(h:xs[k]? =some x):(xs.set k z)[k]? =some z:=by
 have a:=(WH.1 h).1;simp [a]
theorem kq {xs:List α}{z:α}(h:k<xs.length):k<(xs.set j z).length:=by rwa [WT]
theorem BG (d:Cv L L')(hm:Cv L' M)(h:o7 X ops K M z listed s L' i):o7 X ops K M z listed s L i:=fun _ H f a w e c hw=>h hm H f a w e c (d _ _ hw)
theorem dR {d:Option Nat}{R:Rep α}{sz:Nat}{xs:List α}{c:Chunk}(i:Nat)(hi:L[i]? =some c)(e:gi R v xs c)(a:ao s x=some (bD v k sz off))(j:k<xs.length):Rd P s L ⟨d,.nilCheck x,ty,pos,af,gd⟩ (bD v k sz off):=fun Z w hw=>by
 obtain ⟨T,S,h⟩:=hw.get (bM hi);obtain ⟨A,cap,rfl, -, -,f⟩:=e _ _ _ h;obtain ⟨b,o,vss,rfl, -⟩:=f W;exact cr (C:=(· =w)) (d:=d) (ty:=ty) (pos:=pos) (af:=af) (gd:=gd) a
theorem ownsX.base {w:World}{sz:Nat}{A:Option Addr}{c:Nat}(h:ownsX w e sz (.slice A n c) n cs)(u:(Value.slice A n c)≠ Y none 0 0): ∃a,w.ownsRow 0 e sz (.slice A n a) n cs/\(Value.slice A n a)≠ Y none 0 0/\n<=c/\c<=a:=by
 rcases h.2 with ⟨d, -⟩|⟨g,cap,f,d,t,q,j,B,p,o⟩
 ·exact absurd d u
 injection d with d _ z
 subst d z;obtain ⟨a,i,m,l⟩:=p;exact ⟨a,⟨h.1,.inr ⟨g,a,f,J,t,q,Xn j i,m,l,o⟩⟩,by simp,j,i⟩
theorem ownsX.recap {w:World}{sz:Nat}{A:Option Addr}{c d:Nat}(h:w.ownsRow 0 e sz (.slice A n d) n cs)(q:(Value.slice A n d)≠ Y none 0 0)(f:n<=c/\c<=d):ownsX w e sz (.slice A n c) n cs:=by
 rcases h.2 with ⟨a, -⟩|⟨g,cap,i,a,p,o,u,j,m,l⟩
 ·exact absurd a q
 injection a with a _ t
 subst a t;exact ⟨h.1,.inr ⟨g,c,i,J,p,o,f.1,Xn f.2 j,⟨d,f.2,j,m⟩,l⟩⟩
theorem aaD {d:Option Nat}{R:Rep α}{t e sz:Nat}{z:Operand}{xs:List α}(i:Nat)(hi:L[i]? =some (aK R e v xs))(K:ao s x=some v)(N:P.underlying t=some (.slice e))(Q:eI P e sz=true)(O:R.sz=sz)(V:ao s y=some (.int .i64 (k:Int)))(hm:ao s z=some (.int .i64 (k:Int)))(h1:k<=xs.length):OpX P s L ⟨d,.slice t x none (some y) (some z),ty,pos,af,gd⟩ fun u L'=> ∃A n c,u=.slice A n c/\L'=L.set i (aK R e (.slice A n c) (xs.take k)):=fun ρ hρ Z w hw=>by
 have j:=hw;obtain ⟨T,S,X⟩:=hw;obtain ⟨A,c,rfl,q1,q2, -⟩:=aw _ _ _ (X.ok (bM hi));have hrun:=KT (C:=fun _=>True) (d:=d) (ty:=ty) (pos:=pos) (af:=af) (gd:=gd) K N Q V hm (Xm _) W ρ hρ w trivial;refine .inl ⟨_,w,L.set i (aK R e (.slice (if k=0 then A else A.map (·.add 0)) k k) (xs.take k)),hrun,?_,_,_,_,J,J⟩
 have o:(xs.take k).length=k:=by rw [XJ];omega
 have hfin:SepL ((L++Z).set i (aK R e (.slice (if k=0 then A else A.map (·.add 0)) k k) (xs.take k))) w:=by
  refine j.weak (bM hi) fun T S ⟨vss,p,m⟩=>⟨vss.take k,p.take k,?_⟩
  rcases Xk k with rfl|hk
  ·exact .inr ⟨by simp,_,rfl⟩
  rcases m with ⟨m,g4⟩|⟨h9, -⟩
  ·rcases m.2 with ⟨f,h9⟩|⟨g,cap,a,f,p1,H,p3,p4,F,E⟩
   ·omega
   injection f with f _ e3
   subst f e3
   have M:(Value.slice (if k=0 then some ⟨g,0,none⟩ else (some (⟨g,0,none⟩:Addr)).map (·.add 0)) k k)=.slice (some ⟨g,0,none⟩) k k:=by rw [if_neg W];simp [iH]
   rw [M,o];have l:=oE (p.take k);rw [o] at l;refine .inl ⟨⟨l,.inr ⟨g,k,a,J,Xt _,H,Xm _,by omega,?_,?_⟩⟩,fun q U=>g4 q U⟩
   ·obtain ⟨c0,r1,D,B⟩:=F;exact ⟨c0,by omega,D,B⟩
   have h5:vss.flatten=(vss.take k).flatten++(vss.drop k).flatten:=by rw [<-List.flatten_append,Xe]
   have h6:a.toList.take (k*R.sz)=(a.toList.take (xs.length*R.sz)).take (k*R.sz):=by rw [List.take_take,Nat.min_eq_left (Xq _ h1)]
   rw [h6,E,h5, <-l,List.take_left]
  omega
 rw [gI Z hi] at hfin;exact hfin
def CF (e:World)(X:Nat->Prop):Chunk where
 ok _ S w:=Agr X e w/\ ∀q,X q->S q
 loc:=fun h ⟨d,a⟩=>⟨d.trans (h.mono fun q c=> .inr (a q c)),a⟩
 mono:=fun f ⟨d,a⟩=>⟨d,fun q c=>f q (a q c)⟩
 ro:=true
 dup:=fun _ _ _ _ h=>h
def GZ (L:V3)(n:Nat)(c:Chunk):Prop:= ∀(T:Nat->Nat->Prop) (S:Nat->Prop) (w:World),(∀(i:Nat) (c:Chunk),L[i]? =some c->c.ok (T i) S w)->c.ok (fun _=>False) (fun q=>S q\/ ∃j,n<=j/\T j q) w
section
theorem ot {R:Rep α}{xs:List α}(l:Nat.ble n i=true)(hi:L[i]? =some (aK R e v xs)):GZ L n (aL R v xs):=fun T S w h=>by
 obtain ⟨vss,o,a⟩:=h _ _ hi;rcases a with ⟨a,m⟩|⟨c,A,rfl⟩
 ·rcases a.2 with ⟨rfl,c⟩|⟨g,cap,d,rfl,B,f,u,q,z,p⟩
  ·exact ⟨none,0,by rw [c],by omega,by omega,fun h=>absurd h W⟩
  exact ⟨_,cap,J,u,by unfold maxLen at q;omega,fun _=>⟨g,0,vss,rfl,.inr ⟨i,Xl l,m g rfl⟩,Blk.lt (t:=e) (cs:=d) f,o.imp fun _ _=>R.mono fun _ j=> .inl j,qb (cap:=cap) f p⟩⟩
 exact ⟨A,0,by rw [c],by omega,by omega,fun h=>absurd h W⟩
end
theorem aaW {vs:V4}(k n:Nat)(O:Okc P f vs B R)(hpre:B.drop k=L.take n)(hn:Nat.ble n L.length=true)(D:Nat.ble k B.length=true)(hp:∀c∈B.take k,GZ L n c)(N:∀v post,R v post-> ∀c∈post,bP c): ∀Z w,Sp Z L w->Calls P f vs.toArray w fun e w'=> ∃v post,e=.returned v/\Sp Z (post++L.drop n) w'/\R v post:=fun Z w hw=>by
 obtain ⟨T,S,l⟩:=hw;have hn':=Xl hn;have hk':=Xl D
 let X:Nat->Prop:=fun q=>S q\/ ∃j,n<=j/\T j q
 have hlen:B.length=k+n:=by
  have h:=congrArg List.length hpre;rw [WQ,XJ] at h;omega
 have hX: ∀{i q},i<n->T i q->X q->False:=fun hi F o=>o.elim (fun h=>l.ro F h) fun ⟨j,U,E⟩=>l.apart W F E
 have F:Sp [CF w X] B w:=by
  refine ⟨fun i q=>k<=i/\i<k+n/\T (i - k) q,X,?_,?_,?_,?_,?_⟩
  ·intro i c hi;rcases Xp i B.length with p|z
   ·rw [WA p] at hi;rcases Xp i k with u|u
    ·have hm:c∈B.take k:=W4 (show (B.take k)[i]? =some c by rw [WL,if_pos u];exact hi)
     have o:=hp c hm T S w fun j d U=>l.ok (bM U)
     have:(fun q=>k<=i/\i<k+n/\T (i - k) q)=fun _=>False:=by funext q;exact propext ⟨fun h=>by omega,fun h=>h.elim⟩
     rw [this];exact o
    have V:(B.drop k)[i - k]? =some c:=by rw [WE,show k+(i - k)=i by omega];exact hi
    rw [hpre,WL,if_pos W] at V;have o:=l.ok (bM (Z:=Z) V)
    have:(fun q=>k<=i/\i<k+n/\T (i - k) q)=T (i - k):=by funext q;exact propext ⟨fun h=>h.2.2,fun h=>⟨u,by omega,h⟩⟩
    rw [this];exact c.mono (fun _ h=> .inl h) o
   rw [WB z] at hi
   have O:c=CF w X:=by
    cases D:i - B.length with
    |zero=>rw [D] at hi;simpa using hi.symm
    |succ k=>rw [D] at hi;simp at hi
   subst O;exact ⟨Agr.refl _ _,fun _ h=>h⟩
  ·rintro i j q A ⟨a1,a2,C⟩ ⟨b1,b2,b3⟩;exact l.apart W C b3
  ·rintro i q ⟨a1,a2,C⟩ h;exact hX W C h
  ·rintro i q ⟨_,_,C⟩;exact l.lt C
  rintro q (h|⟨j,_,h⟩)
  ·exact l.lts h
  exact l.lt h
 refine (O.run _ w F).mono ?_;rintro e w' ⟨v,post,rfl,⟨T',S',o⟩,E⟩;obtain ⟨K,Q⟩:(CF w X).ok (T' post.length) S' w':=o.ok (by simp);refine ⟨v,post,J,⟨fun i q=>if i<post.length then T' i q else T (i - post.length+n) q,S,?_,?_,?_,?_,fun M=>Xo (l.lts M) K.size⟩,E⟩
 ·intro i c hi;rw [VT] at hi;rcases Xp i post.length with p|z
  ·rw [WA p] at hi;have a:=o.ok (show (post++ [CF w X])[i]? =some c by rw [WA p];exact hi);simp only [p,if_true];exact N v post E c (W4 hi) _ _ _ _ a
  rw [WB z] at hi;simp only [show¬i<post.length by omega,if_false]
  have m:(L++Z)[i - post.length+n]? =some c:=by
   rw [<-List.drop_append_of_le_length hn',WE,Nat.add_comm] at hi;exact hi
  exact c.loc (K.mono fun q M=>M.elim (fun h=> .inr ⟨_,by omega,h⟩) .inl) (l.ok m)
 ·intro i j q A a m;by_cases t:i<post.length<;>by_cases H:j<post.length
  ·simp only [t,H,if_true] at a m;exact o.apart A a m
  ·simp only [t,H,if_true,if_false] at a m;exact o.ro a (Q q (.inr ⟨_,by omega,m⟩))
  ·simp only [t,H,if_true,if_false] at a m;exact o.ro m (Q q (.inr ⟨_,by omega,a⟩))
  simp only [t,H,if_false] at a m;exact l.apart W a m
 ·intro i q a m;by_cases t:i<post.length
  ·simp only [t,if_true] at a;exact o.ro a (Q q (.inl m))
  simp only [t,if_false] at a;exact l.ro a m
 intro i q a;by_cases t:i<post.length
 ·simp only [t,if_true] at a;exact o.lt a
 simp only [t,if_false] at a;exact Xo (l.lt a) K.size
theorem Bj {d:Option Nat}{vs:V4}(k n:Nat)(i:Okc P f vs B R)(j:eu s xs=some vs)(hpre:B.drop k=L.take n)(m:Nat.ble n L.length=true)(o:Nat.ble k B.length=true)(l:∀c∈B.take k,GZ L n c)(a:∀v post,R v post-> ∀c∈post,bP c):OpX P s L ⟨d,.call ⟨.value (.func f),xs.toArray,ats⟩,ty,pos,af,gd⟩ fun u L'=> ∃post,R u post/\L'=post++L.drop n:=fun ρ hρ Z w hw=>by
 refine .inr (.inr (.inl ⟨f,vs.toArray,EX i.cal (iZ hρ j) (hρ _ _ J),?_⟩));refine (aaW k n i hpre m o l a Z w hw).mono ?_;rintro e w' ⟨v,post,rfl,q,p⟩;exact ⟨v,post++L.drop n,J,q,post,p,J⟩
theorem Ub {d:Option Nat}{vs:V4}{bs:Array Value}(i:Okc P f us B R)(j:ao s x=some (.func (.func f) bs #[]))(l:eu s xs=some vs)(m:bs.toList++vs=us)(n:∀c∈B,gw L c)(a:∀v post,R v post-> ∀c∈post,bP c):OpX P s L ⟨d,.call ⟨.value x,xs.toArray,ats⟩,ty,pos,af,gd⟩ fun u L'=> ∃post,R u post/\L'=post++L:=fun ρ hρ Z w hw=>by
 subst m;refine .inr (.inr (.inl ⟨f,(bs.toList++vs).toArray,by simpa using vD i.cal (iZ hρ l) (hρ _ _ j),?_⟩));refine (Bc i n a Z w hw).mono ?_;rintro e w' ⟨v,post,rfl,p,o⟩;exact ⟨v,post++L,J,p,post,o,J⟩
theorem Fs {ek:α->Value}{ev:β->Value}{kv:List (α×β)}:bP (aA ek ev m kv):=fun _ _ _ _ h=>h
end
end Go.Proofs.YthhiddkljcacaaaGreat
namespace Go.Proofs
open Go.Shelf
def Tryz.lays128_ren:Go.Shelf.Ren:=⟨fun|128=>238|n=>n,fun|51=>282|3=>3|4=>4|46=>233|5=>5|9=>9|n=>n,fun|n=>n⟩
theorem Tryz.lays128:Go.Proofs.Lays.n128 Tryz.prog Tryz.lays128_ren:={
 mixed:=by kernel_rfl
 f128:=Tryz.func238.trans (congrArg some (by kernel_rfl))
 t3:=Tryz.underlying3
 a3:=Tryz.isAgg3
 z3:=Tryz.sizeOf3
 v3:=Tryz.zeroValue3
 t4:=Tryz.underlying4
 a4:=Tryz.isAgg4
 z4:=Tryz.sizeOf4
 v4:=Tryz.zeroValue4
 t5:=Tryz.underlying5
 a5:=Tryz.isAgg5
 z5:=Tryz.sizeOf5
 v5:=Tryz.zeroValue5
 t9:=Tryz.underlying9
 a9:=Tryz.isAgg9
 z9:=Tryz.sizeOf9
 v9:=Tryz.zeroValue9
 t46:=Tryz.underlying233
 a46:=Tryz.isAgg233
 z46:=Tryz.sizeOf233
 v46:=Tryz.zeroValue233
 t51:=Tryz.underlying282
 a51:=Tryz.isAgg282
 z51:=Tryz.sizeOf282
 v51:=Tryz.zeroValue282}
theorem Tryz.bits_Len32 (x:Int)(w:World)(c:0≤x)(a:x≤4294967295):
  Calls Tryz.prog 238 #[.int .u32 x] w fun e w'=>e=.returned (.int .i64 (Lib.bitLen x.toNat))∧w'=w:=Any.bits_Len32 Tryz.lays128 x w c a
def Tryz.lays125_ren:Go.Shelf.Ren:=⟨fun|125=>215|128=>238|129=>239|n=>n,fun|46=>233|3=>3|51=>282|53=>284|4=>4|5=>5|9=>9|n=>n,fun|n=>n⟩
theorem Tryz.lays125:Go.Proofs.Lays.n125 Tryz.prog Tryz.lays125_ren:={
 mixed:=by kernel_rfl
 f125:=Tryz.func215.trans (congrArg some (by kernel_rfl))
 f128:=Tryz.func238.trans (congrArg some (by kernel_rfl))
 f129:=Tryz.func239.trans (congrArg some (by kernel_rfl))
 t3:=Tryz.underlying3
 a3:=Tryz.isAgg3
 z3:=Tryz.sizeOf3
 v3:=Tryz.zeroValue3
 t4:=Tryz.underlying4
 a4:=Tryz.isAgg4
 z4:=Tryz.sizeOf4
 v4:=Tryz.zeroValue4
 t5:=Tryz.underlying5
 a5:=Tryz.isAgg5
 z5:=Tryz.sizeOf5
 v5:=Tryz.zeroValue5
 t9:=Tryz.underlying9
 a9:=Tryz.isAgg9
 z9:=Tryz.sizeOf9
 v9:=Tryz.zeroValue9
 t46:=Tryz.underlying233
 a46:=Tryz.isAgg233
 z46:=Tryz.sizeOf233
 v46:=Tryz.zeroValue233
 t51:=Tryz.underlying282
 a51:=Tryz.isAgg282
 z51:=Tryz.sizeOf282
 v51:=Tryz.zeroValue282
 t53:=Tryz.underlying284
 a53:=Tryz.isAgg284
 z53:=Tryz.sizeOf284
 v53:=Tryz.zeroValue284}
theorem Tryz.bits_Len (x:Int)(w:World)(c:0≤x)(a:x≤18446744073709551615):
  Calls Tryz.prog 215 #[.int .u64 x] w fun e w'=>e=.returned (.int .i64 (Lib.bitLen x.toNat))∧w'=w:=Any.bits_Len Tryz.lays125 x w c a
def Tryz.lays215_ren:Go.Shelf.Ren:=⟨fun|215=>212|n=>n,fun|3=>3|4=>4|n=>n,fun|n=>n⟩
theorem Tryz.lays215:Go.Proofs.Lays.n215 Tryz.prog Tryz.lays215_ren:={
 mixed:=by kernel_rfl
 f215:=Tryz.func212.trans (congrArg some (by kernel_rfl))
 t3:=Tryz.underlying3
 a3:=Tryz.isAgg3
 z3:=Tryz.sizeOf3
 v3:=Tryz.zeroValue3
 t4:=Tryz.underlying4
 a4:=Tryz.isAgg4
 z4:=Tryz.sizeOf4
 v4:=Tryz.zeroValue4}
open Go.RowKit in
theorem Tryz.cmp_isNaN_int (x:Int)(w:World):
  Calls Tryz.prog 212 #[.int .i64 x] w fun e w'=>e=.returned (.bool false)∧w'=w:=Any.cmp_isNaN_int Tryz.lays215 x w
def Tryz.lays122_ren:Go.Shelf.Ren:=⟨fun|122=>179|215=>212|n=>n,fun|3=>3|4=>4|n=>n,fun|n=>n⟩
theorem Tryz.lays122:Go.Proofs.Lays.n122 Tryz.prog Tryz.lays122_ren:={
 mixed:=by kernel_rfl
 f122:=Tryz.func179.trans (congrArg some (by kernel_rfl))
 f215:=Tryz.func212.trans (congrArg some (by kernel_rfl))
 t3:=Tryz.underlying3
 a3:=Tryz.isAgg3
 z3:=Tryz.sizeOf3
 v3:=Tryz.zeroValue3
 t4:=Tryz.underlying4
 a4:=Tryz.isAgg4
 z4:=Tryz.sizeOf4
 v4:=Tryz.zeroValue4}
open Go.RowKit in
theorem Tryz.cmp_Compare_int (x y:Int)(w:World):
  Calls Tryz.prog 179 #[.int .i64 x,.int .i64 y] w fun e w'=>e=.returned (.int .i64 (Lib.compareInt x y))∧w'=w:=Any.cmp_Compare_int Tryz.lays122 x y w
def Tryz.lays129_ren:Go.Shelf.Ren:=⟨fun|129=>239|n=>n,fun|53=>284|3=>3|4=>4|46=>233|5=>5|9=>9|n=>n,fun|n=>n⟩
theorem Tryz.lays129:Go.Proofs.Lays.n129 Tryz.prog Tryz.lays129_ren:={
 mixed:=by kernel_rfl
 f129:=Tryz.func239.trans (congrArg some (by kernel_rfl))
 t3:=Tryz.underlying3
 a3:=Tryz.isAgg3
 z3:=Tryz.sizeOf3
 v3:=Tryz.zeroValue3
 t4:=Tryz.underlying4
 a4:=Tryz.isAgg4
 z4:=Tryz.sizeOf4
 v4:=Tryz.zeroValue4
 t5:=Tryz.underlying5
 a5:=Tryz.isAgg5
 z5:=Tryz.sizeOf5
 v5:=Tryz.zeroValue5
 t9:=Tryz.underlying9
 a9:=Tryz.isAgg9
 z9:=Tryz.sizeOf9
 v9:=Tryz.zeroValue9
 t46:=Tryz.underlying233
 a46:=Tryz.isAgg233
 z46:=Tryz.sizeOf233
 v46:=Tryz.zeroValue233
 t53:=Tryz.underlying284
 a53:=Tryz.isAgg284
 z53:=Tryz.sizeOf284
 v53:=Tryz.zeroValue284}
theorem Tryz.bits_Len64 (x:Int)(w:World)(c:0≤x)(a:x≤18446744073709551615):
  Calls Tryz.prog 239 #[.int .u64 x] w fun e w'=>e=.returned (.int .i64 (Lib.bitLen x.toNat))∧w'=w:=Any.bits_Len64 Tryz.lays129 x w c a
def Tryz.lays108_ren:Go.Shelf.Ren:=⟨fun|108=>208|n=>n,fun|28=>99|3=>3|0=>0|4=>4|n=>n,fun|n=>n⟩
theorem Tryz.lays108:Go.Proofs.Lays.n108 Tryz.prog Tryz.lays108_ren:={
 mixed:=by kernel_rfl
 f108:=Tryz.func208.trans (congrArg some (by kernel_rfl))
 t0:=Tryz.underlying0
 a0:=Tryz.isAgg0
 z0:=Tryz.sizeOf0
 v0:=Tryz.zeroValue0
 t3:=Tryz.underlying3
 a3:=Tryz.isAgg3
 z3:=Tryz.sizeOf3
 v3:=Tryz.zeroValue3
 t4:=Tryz.underlying4
 a4:=Tryz.isAgg4
 z4:=Tryz.sizeOf4
 v4:=Tryz.zeroValue4
 t28:=Tryz.underlying99
 a28:=Tryz.isAgg99
 z28:=Tryz.sizeOf99
 v28:=Tryz.zeroValue99}
open Go.Lib in
theorem Tryz.slices_Index_int (b off n c:Nat)(a:List Int)(x:Int)(w:World)(d:n≤a.length)(hbig:n≤9223372036854775807)(f: ∀j,j<a.length→w.cell? ⟨b,off+j,none⟩=some (.int .i64 (a.getD j 0))):
  Calls Tryz.prog 208 #[.slice (some ⟨b,off,none⟩) n c,.int .i64 x] w fun e w'=>e=.returned (.int .i64 (Lib.idxOf (a.take n) x))∧w'=w:=Any.slices_Index_int Tryz.lays108 b off n c a x w d hbig f
open Go.Lib in
theorem Tryz.slices_Index_int_empty (a:Option Addr)(c:Nat)(x:Int)(w:World):
  Calls Tryz.prog 208 #[.slice a 0 c,.int .i64 x] w fun e w'=>e=.returned (.int .i64 (Lib.idxOf [] x))∧w'=w:=Any.slices_Index_int_empty Tryz.lays108 a c x w
def Tryz.lays107_ren:Go.Shelf.Ren:=⟨fun|107=>158|108=>208|n=>n,fun|28=>99|3=>3|4=>4|0=>0|n=>n,fun|n=>n⟩
theorem Tryz.lays107:Go.Proofs.Lays.n107 Tryz.prog Tryz.lays107_ren:={
 mixed:=by kernel_rfl
 f107:=Tryz.func158.trans (congrArg some (by kernel_rfl))
 f108:=Tryz.func208.trans (congrArg some (by kernel_rfl))
 t0:=Tryz.underlying0
 a0:=Tryz.isAgg0
 z0:=Tryz.sizeOf0
 v0:=Tryz.zeroValue0
 t3:=Tryz.underlying3
 a3:=Tryz.isAgg3
 z3:=Tryz.sizeOf3
 v3:=Tryz.zeroValue3
 t4:=Tryz.underlying4
 a4:=Tryz.isAgg4
 z4:=Tryz.sizeOf4
 v4:=Tryz.zeroValue4
 t28:=Tryz.underlying99
 a28:=Tryz.isAgg99
 z28:=Tryz.sizeOf99
 v28:=Tryz.zeroValue99}
open Go.Lib in
theorem Tryz.slices_Contains_int (b off n c:Nat)(a:List Int)(x:Int)(w:World)(d:n≤a.length)(hbig:n≤9223372036854775807)(f: ∀j,j<a.length→w.cell? ⟨b,off+j,none⟩=some (.int .i64 (a.getD j 0))):
  Calls Tryz.prog 158 #[.slice (some ⟨b,off,none⟩) n c,.int .i64 x] w fun e w'=>e=.returned (.bool ((a.take n).contains x))∧w'=w:=Any.slices_Contains_int Tryz.lays107 b off n c a x w d hbig f
open Go.Lib in
theorem Tryz.slices_Contains_int_empty (a:Option Addr)(c:Nat)(x:Int)(w:World):
  Calls Tryz.prog 158 #[.slice a 0 c,.int .i64 x] w fun e w'=>e=.returned (.bool false)∧w'=w:=Any.slices_Contains_int_empty Tryz.lays107 a c x w
def Tryz.laysNm237_ren:Go.Shelf.Ren:=⟨fun|37=>212|n=>n,fun|3=>3|4=>4|n=>n,fun|n=>n⟩
theorem Tryz.laysNm237:Go.Proofs.Lays2.n37 Tryz.prog Tryz.laysNm237_ren:={
 mixed:=by kernel_rfl
 f37:=Tryz.func212.trans (congrArg some (by kernel_rfl))
 t3:=Tryz.underlying3
 a3:=Tryz.isAgg3
 z3:=Tryz.sizeOf3
 v3:=Tryz.zeroValue3
 t4:=Tryz.underlying4
 a4:=Tryz.isAgg4
 z4:=Tryz.sizeOf4
 v4:=Tryz.zeroValue4}
open Go.RowKit Go.Lib in
theorem Tryz.cmp_isNaN_int2 (x:Int)(w:World):
  Calls Tryz.prog 212 #[.int .i64 x] w fun e w'=>e=.returned (.bool false)∧w'=w:=Any.cmp_isNaN_int2 Tryz.laysNm237 x w
def Tryz.laysNm232_ren:Go.Shelf.Ren:=⟨fun|32=>172|n=>n,fun|3=>3|4=>4|n=>n,fun|n=>n⟩
theorem Tryz.laysNm232:Go.Proofs.Lays2.n32 Tryz.prog Tryz.laysNm232_ren:={
 mixed:=by kernel_rfl
 f32:=Tryz.func172.trans (congrArg some (by kernel_rfl))
 t3:=Tryz.underlying3
 a3:=Tryz.isAgg3
 z3:=Tryz.sizeOf3
 v3:=Tryz.zeroValue3
 t4:=Tryz.underlying4
 a4:=Tryz.isAgg4
 z4:=Tryz.sizeOf4
 v4:=Tryz.zeroValue4}
open Go.RowKit Go.Lib in
theorem Tryz.slices_isNaN_int2 (x:Int)(w:World):
  Calls Tryz.prog 172 #[.int .i64 x] w fun e w'=>e=.returned (.bool false)∧w'=w:=Any.slices_isNaN_int2 Tryz.laysNm232 x w
def Tryz.laysNm231_ren:Go.Shelf.Ren:=⟨fun|31=>171|37=>212|n=>n,fun|3=>3|4=>4|n=>n,fun|n=>n⟩
theorem Tryz.laysNm231:Go.Proofs.Lays2.n31 Tryz.prog Tryz.laysNm231_ren:={
 mixed:=by kernel_rfl
 f31:=Tryz.func171.trans (congrArg some (by kernel_rfl))
 f37:=Tryz.func212.trans (congrArg some (by kernel_rfl))
 t3:=Tryz.underlying3
 a3:=Tryz.isAgg3
 z3:=Tryz.sizeOf3
 v3:=Tryz.zeroValue3
 t4:=Tryz.underlying4
 a4:=Tryz.isAgg4
 z4:=Tryz.sizeOf4
 v4:=Tryz.zeroValue4}
open Go.RowKit Go.Lib in
theorem Tryz.cmp_Less_int2 (x y:Int)(w:World):
  Calls Tryz.prog 171 #[.int .i64 x,.int .i64 y] w fun e w'=>e=.returned (.bool (decide (x<y)))∧w'=w:=Any.cmp_Less_int2 Tryz.laysNm231 x y w
def Tryz.laysNm225_ren:Go.Shelf.Ren:=⟨fun|25=>123|31=>171|32=>172|37=>212|n=>n,fun|22=>99|3=>3|4=>4|40=>233|0=>0|n=>n,fun|n=>n⟩
theorem Tryz.laysNm225:Go.Proofs.Lays2.n25 Tryz.prog Tryz.laysNm225_ren:={
 mixed:=by kernel_rfl
 f25:=Tryz.func123.trans (congrArg some (by kernel_rfl))
 f31:=Tryz.func171.trans (congrArg some (by kernel_rfl))
 f32:=Tryz.func172.trans (congrArg some (by kernel_rfl))
 f37:=Tryz.func212.trans (congrArg some (by kernel_rfl))
 t0:=Tryz.underlying0
 a0:=Tryz.isAgg0
 z0:=Tryz.sizeOf0
 v0:=Tryz.zeroValue0
 t3:=Tryz.underlying3
 a3:=Tryz.isAgg3
 z3:=Tryz.sizeOf3
 v3:=Tryz.zeroValue3
 t4:=Tryz.underlying4
 a4:=Tryz.isAgg4
 z4:=Tryz.sizeOf4
 v4:=Tryz.zeroValue4
 t22:=Tryz.underlying99
 a22:=Tryz.isAgg99
 z22:=Tryz.sizeOf99
 v22:=Tryz.zeroValue99
 t40:=Tryz.underlying233
 a40:=Tryz.isAgg233
 z40:=Tryz.sizeOf233
 v40:=Tryz.zeroValue233}
open Go.RowKit Go.Lib in
theorem Tryz.slices_BinarySearch_int (b off n c:Nat)(a:List Int)(x:Int)(w:World)(d:n≤a.length)(hbig:n<4611686018427387904)(i: ∀j,j<a.length→w.cell? ⟨b,off+j,none⟩=some (.int .i64 (a.getD j 0)))(f:(a.take n).Pairwise (· ≤ ·)):
  Calls Tryz.prog 123 #[.slice (some ⟨b,off,none⟩) n c,.int .i64 x] w fun e w'=>e=.returned (.tuple #[.int .i64 ((a.take n).countP (· <x):Nat),.bool ((a.take n).contains x)])∧ ∃q,w'=w.drewN q:=Any.slices_BinarySearch_int Tryz.laysNm225 b off n c a x w d hbig i f
open Go.RowKit Go.Lib in
theorem Tryz.slices_BinarySearch_int_empty (a:Option Addr)(c:Nat)(x:Int)(w:World):
  Calls Tryz.prog 123 #[.slice a 0 c,.int .i64 x] w fun e w'=>e=.returned (.tuple #[.int .i64 0,.bool false])∧w'=w:=Any.slices_BinarySearch_int_empty Tryz.laysNm225 a c x w
def Tryz.laysSlM5_f175_ren:Go.Shelf.Ren:=⟨fun|5=>175|8=>215|7=>214|19=>238|20=>239|10=>230|11=>231|12=>232|13=>233|14=>234|15=>235|16=>171|17=>236|18=>237|30=>246|31=>247|32=>248|33=>249|34=>250|35=>212|40=>253|n=>n,fun|23=>99|25=>3|3=>3|32=>233|22=>99|0=>0|44=>282|46=>284|4=>4|36=>276|35=>275|41=>163|5=>5|9=>9|53=>289|57=>293|63=>298|64=>299|n=>n,fun|n=>n⟩
theorem Tryz.laysSlM5_f175:Go.Proofs.SlLaysM.n5 Tryz.prog Tryz.laysSlM5_f175_ren:={
 mixed:=by kernel_rfl
 f5:=⟨Tryz.f175.name,by decide,Tryz.func175.trans (congrArg some (by kernel_rfl))⟩
 f7:=⟨Tryz.f214.name,by decide,Tryz.func214.trans (congrArg some (by kernel_rfl))⟩
 f8:=Tryz.func215.trans (congrArg some (by kernel_rfl))
 f10:=⟨Tryz.f230.name,by decide,Tryz.func230.trans (congrArg some (by kernel_rfl))⟩
 f11:=⟨Tryz.f231.name,by decide,Tryz.func231.trans (congrArg some (by kernel_rfl))⟩
 f12:=⟨Tryz.f232.name,by decide,Tryz.func232.trans (congrArg some (by kernel_rfl))⟩
 f13:=⟨Tryz.f233.name,by decide,Tryz.func233.trans (congrArg some (by kernel_rfl))⟩
 f14:=⟨Tryz.f234.name,by decide,Tryz.func234.trans (congrArg some (by kernel_rfl))⟩
 f15:=⟨Tryz.f235.name,by decide,Tryz.func235.trans (congrArg some (by kernel_rfl))⟩
 f16:=⟨Tryz.f171.name,by decide,Tryz.func171.trans (congrArg some (by kernel_rfl))⟩
 f17:=⟨Tryz.f236.name,by decide,Tryz.func236.trans (congrArg some (by kernel_rfl))⟩
 f18:=⟨Tryz.f237.name,by decide,Tryz.func237.trans (congrArg some (by kernel_rfl))⟩
 f19:=Tryz.func238.trans (congrArg some (by kernel_rfl))
 f20:=Tryz.func239.trans (congrArg some (by kernel_rfl))
 f30:=⟨Tryz.f246.name,by decide,Tryz.func246.trans (congrArg some (by kernel_rfl))⟩
 f31:=Tryz.func247.trans (congrArg some (by kernel_rfl))
 f32:=Tryz.func248.trans (congrArg some (by kernel_rfl))
 f33:=⟨Tryz.f249.name,by decide,Tryz.func249.trans (congrArg some (by kernel_rfl))⟩
 f34:=⟨Tryz.f250.name,by decide,Tryz.func250.trans (congrArg some (by kernel_rfl))⟩
 f35:=⟨Tryz.f212.name,by decide,Tryz.func212.trans (congrArg some (by kernel_rfl))⟩
 f40:=⟨Tryz.f253.name,by decide,Tryz.func253.trans (congrArg some (by kernel_rfl))⟩
 t0:=Tryz.underlying0
 a0:=Tryz.isAgg0
 z0:=Tryz.sizeOf0
 v0:=Tryz.zeroValue0
 t3:=Tryz.underlying3
 a3:=Tryz.isAgg3
 z3:=Tryz.sizeOf3
 v3:=Tryz.zeroValue3
 t4:=Tryz.underlying4
 a4:=Tryz.isAgg4
 z4:=Tryz.sizeOf4
 v4:=Tryz.zeroValue4
 t5:=Tryz.underlying5
 a5:=Tryz.isAgg5
 z5:=Tryz.sizeOf5
 v5:=Tryz.zeroValue5
 t9:=Tryz.underlying9
 a9:=Tryz.isAgg9
 z9:=Tryz.sizeOf9
 v9:=Tryz.zeroValue9
 t22:=Tryz.underlying99
 a22:=Tryz.isAgg99
 z22:=Tryz.sizeOf99
 v22:=Tryz.zeroValue99
 t23:=Tryz.underlying99
 a23:=Tryz.isAgg99
 z23:=Tryz.sizeOf99
 v23:=Tryz.zeroValue99
 t25:=Tryz.underlying3
 a25:=Tryz.isAgg3
 z25:=Tryz.sizeOf3
 v25:=Tryz.zeroValue3
 t32:=Tryz.underlying233
 a32:=Tryz.isAgg233
 z32:=Tryz.sizeOf233
 v32:=Tryz.zeroValue233
 t35:=Tryz.underlying275
 a35:=Tryz.isAgg275
 z35:=Tryz.sizeOf275
 v35:=Tryz.zeroValue275
 t36:=Tryz.underlying276
 a36:=Tryz.isAgg276
 z36:=Tryz.sizeOf276
 v36:=Tryz.zeroValue276
 t41:=Tryz.underlying163
 a41:=Tryz.isAgg163
 z41:=Tryz.sizeOf163
 v41:=Tryz.zeroValue163
 t44:=Tryz.underlying282
 a44:=Tryz.isAgg282
 z44:=Tryz.sizeOf282
 v44:=Tryz.zeroValue282
 t46:=Tryz.underlying284
 a46:=Tryz.isAgg284
 z46:=Tryz.sizeOf284
 v46:=Tryz.zeroValue284
 t53:=Tryz.underlying289
 a53:=Tryz.isAgg289
 z53:=Tryz.sizeOf289
 v53:=Tryz.zeroValue289
 t57:=Tryz.underlying293
 a57:=Tryz.isAgg293
 z57:=Tryz.sizeOf293
 v57:=Tryz.zeroValue293
 t63:=Tryz.underlying298
 a63:=Tryz.isAgg298
 z63:=Tryz.sizeOf298
 v63:=Tryz.zeroValue298
 t64:=Tryz.underlying299
 a64:=Tryz.isAgg299
 z64:=Tryz.sizeOf299
 v64:=Tryz.zeroValue299}
open Go.Sort Go.RowKit in
theorem Tryz.slices_Sort_int (o8 off cap:Nat)(a:List Int)(w:World)(d:Holds (Value.int .i64) w o8 off a.toArray)(hblk:o8<w.heap.size)(c:a.length<4611686018427387904):
  Calls Tryz.prog 175 #[.slice (some ⟨o8,off,none⟩) a.length cap] w fun e w'=>
   e=.returned (.tuple #[])∧ ∃n os,w'=grow (putRow (Value.int .i64) (Sort.ahead w n) o8 off (a.mergeSort fun x y=>decide (x≤y)).toArray) os:=AnyM.slices_Sort_int Tryz.laysSlM5_f175 o8 off cap a w d hblk c
open Go.RowKit Go.Sort in
theorem Tryz.slices_Sort_int_none (p:Option Addr)(cap:Nat)(w:World):
  Calls Tryz.prog 175 #[.slice p 0 cap] w fun e w'=>e=.returned (.tuple #[])∧w'=w:=AnyM.slices_Sort_int_none Tryz.laysSlM5_f175 p cap w
end Go.Proofs
namespace Go.Proofs.YthhiddkljcacaaaGreat
variable {a:Act}{listed:Array Bool}{af:Array Edge}{ops:Array Oper}{ats:Array TypeId}{caps:Array Value}{assign body c:Code}{X:Cx}{Q:Exit->Act->World->Prop}{f gf:FuncId}{K:K3}{A:List (Nat×Operand)}{vs:List (Nat×Value)}{ds B:List Nat}{l D:List Oper}{xs:List Operand}{Bs:List V3}{vss:List V4}{by_ z h i j k m n off q':Nat}{p:Nat->Oper->Prop}{S:Nat->Prop}{o o':Oper}{g x y:Operand}{gd:Option (Nat×Bool)}{je:Option Exit}{P:Program}{pos:String}{α β ι ι0 ρ:Type}{e t ty:TypeId}{L L' E L2 M Z q:V3}{cs us:V4}{u v vw:Value}{R:Value->V3->Prop}{C:World->Prop}{s:au}
section
open Go.RowKit Go.Lib Go.Sort
abbrev Ou (z:Int):Value:=.int .i64 z
def eQ (a:List Int):List Int:=a.mergeSort fun x y=>decide (x<=y)
theorem vC (a:List Int):(eQ a).length=a.length:=by simp [eQ]
theorem aaM {w w':World}{base:Nat}{xs:V4}(h:w.ownsRow base 3 1 v n xs)(hb:Ext w w'):w'.ownsRow base 3 1 v n xs:=by
 refine ⟨h.1,?_⟩;rcases h.2 with f|⟨g,cap,a,e,d,c,r⟩
 ·exact .inl f
 exact .inr ⟨g,cap,a,e,d,(Blk.ext (t:=3) c hb),r⟩
theorem Um (w:World)(os:Array Obj):Ext w (grow w os):=⟨rfl,rfl,rfl,by simp,fun _ a=>heap_grow_old w os a⟩
theorem TZ {w:World}{xs:List Int}(h:All2 ((df .i64).rel S w) vss xs):vss.flatten=xs.map Ou:=by
 induction h with
 |nil=>rfl
 |cons c d a=>
  simp only [Wz,WW,a];rw [show _=_ from c];rfl
theorem KQ (S:Nat->Prop)(w:World): ∀(xs:List Int),All2 ((df .i64).rel S w) (xs.map fun x=> [.int .i64 x]) xs
 | []=> .nil
 |x::xs=> .cons rfl (KQ S w xs)
theorem UX (xs:List Int):((xs.map fun x=> [Value.int .i64 x])).flatten=xs.map Ou:=by
 induction xs with
 |nil=>rfl
 |cons x l a=>simp only [WW,Wz,a];rfl
def zz (_:Nat)(a:List Int):Option VW:=ae (bC a.length) (some (eQ a))
theorem QO {N:Nat}{a r:List Int}(h:zz N a=some r){A:Option Addr}{c:Nat}:Okc V5 175 [.slice A n c] [aK (df .i64) 3 (.slice A n c) a] fun u post=>u=.tuple #[]/\post=[aK (df .i64) 3 (.slice A n c) r]:=by
 refine ⟨⟨_,Tryz.func175,J,J⟩,?_⟩;intro Z w hw;obtain ⟨O,h⟩:=ai h;obtain rfl:=bn h;have p:=hw;obtain ⟨T,S,F⟩:=hw;obtain ⟨vss,X,V⟩:=F.ok (i:=0) (c:=aK (df .i64) 3 (.slice A n c) a) rfl
 have none_:a=[]->n=0->Calls V5 175 #[.slice A n c] w fun e w'=> ∃v post,e=.returned v/\Sp Z post w'/\v=.tuple #[]/\post=[aK (df .i64) 3 (.slice A n c) (eQ a)]:=by
  rintro rfl rfl;refine (Tryz.slices_Sort_int_none A c w).mono ?_;rintro e w' ⟨rfl,rfl⟩
  have e0:eQ []=[]:=by simp [eQ]
  rw [e0];exact ⟨_,_,J,p,J,J⟩
 rcases V with ⟨z,K⟩|⟨U,A',e⟩
 ·by_cases l:(Value.slice A n c)=Y none 0 0
  ·have m:a=[]:=by
    rcases z.2 with ⟨_,h⟩|⟨g,cap,H,e,_⟩
    ·exact Wt h
    rw [l] at e;cases e
   injection l with _ o _
   exact none_ m o
  have B:n=a.length:=by
   rcases z.2 with ⟨f, -⟩|⟨g,cap,H,f, -⟩
   ·exact absurd f l
   injection f
  subst B;obtain ⟨c0,d,j,P⟩:=ownsX.base z l;rw [TZ X] at d;obtain ⟨g,cap,e,hg,D,m,hm, -,Q⟩:=holds_of_ownsRow d j
  injection e with f o M
  subst f M;refine (Tryz.slices_Sort_int g 0 c a w Q D (by unfold bC at O;omega)).mono ?_;rintro e w' ⟨rfl,k,os,rfl⟩;refine ⟨_,_,J,?_,J,J⟩;have E:T 0 g:=K g rfl;have L:=ownsRow_putRow (q:=k) (ys:=eQ a) (k:=a.length) d (vC a) (Xm _);rw [Xf (by rw [vC];exact Xm _)] at L;have R:=aaM L (Um _ os);refine F.upd (i:=0) (c:=aK (df .i64) 3 (.slice (some ⟨g,0,none⟩) a.length c) a) J (T':=T 0) ⟨J,J,J,by simp [putRow,mapBlock,Sort.ahead],fun q t m=> ?_⟩ (fun _=> .inl) (fun q t=>Xo (F.lt t) (by simp [putRow,mapBlock,Sort.ahead])) ?_
  ·have C:q≠g:=fun e=>m (e▸E)
   rw [heap_grow_old _ os (by simpa [putRow,mapBlock,Sort.ahead] using t)];simp [putRow,mapBlock,Sort.ahead,Array.getElem?_modify,Ne.symm C]
  refine ⟨(eQ a).map fun x=> [.int .i64 x],KQ _ _ _,.inl ⟨?_,K⟩⟩;rw [UX,vC];exact .recap R j P
 injection e with f o M
 exact none_ (Wt U) o
open Go.RowKit
def aM (k:IntKind)(a b:Int):Int:=k.wrap (BitVec.ofInt k.bits a&&&BitVec.ofInt k.bits b).toNat
def dD (k:IntKind)(a b:Int):Int:=k.wrap (BitVec.ofInt k.bits a|||BitVec.ofInt k.bits b).toNat
def BP (k:IntKind)(a b:Int):Int:=k.wrap (BitVec.ofInt k.bits a ^^^ BitVec.ofInt k.bits b).toNat
def eZ (k:IntKind)(a b:Int):Int:=k.wrap (BitVec.ofInt k.bits a&&& ~~~BitVec.ofInt k.bits b).toNat
section
variable {d:Option Nat}
theorem fL {u:TypeId}{k:IntKind}{a b:Int}(e:ao s x=some (.int k a))(c:ao s y=some (.int k b)):Ev P s C ⟨d,.binOp .and t x y u,ty,pos,af,gd⟩ (.int k (aM k a b)):=dM e c fun w=>by cases k<;>rfl
theorem qc {u:TypeId}{k:IntKind}{a b:Int}(e:ao s x=some (.int k a))(c:ao s y=some (.int k b)):Ev P s C ⟨d,.binOp .or t x y u,ty,pos,af,gd⟩ (.int k (dD k a b)):=dM e c fun w=>by cases k<;>rfl
theorem Sd {u:TypeId}{k:IntKind}{a b:Int}(e:ao s x=some (.int k a))(c:ao s y=some (.int k b)):Ev P s C ⟨d,.binOp .xor t x y u,ty,pos,af,gd⟩ (.int k (BP k a b)):=dM e c fun w=>by cases k<;>rfl
theorem I6 {u:TypeId}{k:IntKind}{a b:Int}(e:ao s x=some (.int k a))(c:ao s y=some (.int k b)):Ev P s C ⟨d,.binOp .andNot t x y u,ty,pos,af,gd⟩ (.int k (eZ k a b)):=dM e c fun w=>by cases k<;>rfl
end
theorem R6 (s:ByteArray):(s==s)=true:=by
 obtain ⟨d⟩:=s;show (d==d)=true;simp
def lr (b:ByteArray)(i:Int):Option Int:=if 0<=i then b[i.toNat]?.map fun x=>(x.toNat:Int) else none
section
variable {d:Option Nat}
theorem sq {k:IntKind}{b:ByteArray}{i r:Int}(c:ao s x=some (.string b))(a:ao s y=some (.int k i))(e:P.underlying t=some .string)(h:lr b i=some r):Ev P s C ⟨d,.index t x y,ty,pos,af,gd⟩ (.int .u8 r):=fun ρ hρ w _=>by
 unfold lr at h;split at h
 ·rename_i f
  cases hb:b[i.toNat]? with
  |none=>rw [hb] at h;cases h
  |some z=>
   rw [hb] at h;cases h;unfold execOp;simp only [hρ x _ c,hρ y _ a,Instr.index,asIntOf,XB,XC,XH e,XA,if_pos f,hb]
 cases h
theorem Jr (l:List α): ∀n:Nat,(List.replicate n l).flatten=(List.replicate n ()).flatMap fun _=>l
 |0=>rfl
 |n+1=>by rw [List.replicate_succ,List.replicate_succ,Wz,Wy,Jr l n]
theorem LP {R:α->β->Prop}{a:α}{b:β}(h:R a b): ∀n:Nat,All2 R (List.replicate n a) (List.replicate n b)
 |0=> .nil
 |n+1=>by rw [List.replicate_succ,List.replicate_succ];exact .cons h (LP h n)
theorem aaL {R:Rep α}{k k':IntKind}{l:Int}{i:TypeInfo}{z:Value}{zl:V4}{x0:α}(D:ao s x=some (.int k l))(C:ao s y=some (.int k' l))(E:P.underlying t=some (.slice e))(hi:P.info? e=some i)(B:i.zero=some z)(j:z.cells=zl.toArray)(a:i.size=R.sz)(f:Nat.ble i.bytes 10000=true)(F:0<zl.length)(hr:∀S w,R.rel S w zl x0)(o:0<=l/\l<=1000000):OpX P s L ⟨d,.makeSlice t x y,ty,pos,af,gd⟩ fun u L'=> ∃A n c,u=.slice A n c/\L'=aK R e (.slice A n c) (List.replicate l.toNat x0)::L:=fun ρ hρ Z w hw=>by
 have f:=Xl f
 have hb:(i.bytes:Int)*l<=281474976710656:=by
  have M:(i.bytes:Int)*l<=10000*1000000:=Int.mul_le_mul W o.2 o.1 W;omega
 have K:=run_make (P:=P) w t e i z E hi B k k' l l o.1 (Int.le_refl _) hb W;have hlen:zl.length=R.sz:=R.len (hr (fun _=>False) w)
 have H:madeCells z.cells (l.toNat*i.size)=((List.replicate l.toNat ()).flatMap fun _=>zl).toArray:=by
  rw [a, <-hlen];exact Td (en:=fun (_:Unit)=>zl) () j l.toNat F
 have hx':Ext w (w.alloc (.cells (madeCells z.cells (l.toNat*i.size)) e)):=(Ext.refl w).alloc _;refine .inl ⟨_,w.alloc (.cells (madeCells z.cells (l.toNat*i.size)) e),aK R e (.slice (some ⟨w.heap.size,0,none⟩) l.toNat l.toNat) (List.replicate l.toNat x0)::L,?_,?_,_,_,_,J,J⟩
 ·unfold execOp;simp only [hρ x _ D,hρ y _ C,XB,K,XA];rfl
 refine SepL.new hw (Agr.of_ext hx') fun T S h=>⟨(· =w.heap.size),fun q m=>by subst m;simp,List.replicate l.toNat zl,LP (hr S _) _,.inl ⟨?_,fun q m=>by cases m;rfl⟩⟩
 have p:(List.replicate l.toNat zl).flatten.length=l.toNat*R.sz:=by simp [hlen]
 have hm:l.toNat<=maxLen:=by simp [maxLen];omega
 refine .of ⟨by simpa using p,.inr ⟨w.heap.size,l.toNat,madeCells z.cells (l.toNat*i.size),by simp,Xt _,Blk.new w e _,by simp,hm,?_,?_⟩⟩
 ·rw [size_madeCells,a]
 rw [H, <-Jr];simp only [List.length_replicate];rw [<-p];exact XL
end
end
section
open Go.RowKit
def nq (R:Rep α)(e:TypeId)(v:Value)(xs:List α):Chunk where
 ok T S w:= ∃(A:Option Addr) (n c:Nat) (q:List α),(aK R e (.slice A n c) (q++xs)).ok T S w/\0<xs.length/\v=.slice (dk A c q.length R.sz) xs.length (c - q.length)
 loc:=fun h ⟨A,n,c,q,d,a⟩=>⟨A,n,c,q,(aK R e _ _).loc h d,a⟩
 mono:=fun h ⟨A,n,c,q,d,a⟩=>⟨A,n,c,q,(aK R e _ _).mono h d,a⟩
 ro:=false
 dup:=fun h=>Bool.noConfusion h
theorem MR {R:Rep α}{xs:List α}:gi R v xs (nq R e v xs):=fun T S w ⟨A,n,c,q,t,z,p⟩=>by
 obtain ⟨B,cap,a,m,u,d⟩:=aw T S w t
 injection a with a l j
 subst a l j;rw [XI] at m d;obtain ⟨b,o,vss,rfl,k1,k2⟩:=d W;subst p;refine ⟨_,_,J,by omega,by omega,fun _=>⟨b,o+q.length*R.sz,vss.drop q.length,?_,?_,?_⟩⟩
 ·unfold dk;rw [if_neg W];simp [iH]
 ·have i:=k1.drop q.length;rw [List.drop_left] at i;exact i
 have f:=k2.drop (q.length*R.sz);rw [<-AI k1 q.length] at f;exact f
theorem BU {T:Nat->Nat->Prop}{w:World}(h:SepT L T S w){c:Chunk}(l:c.ok (T i) S w):SepT (L.set i c) T S w:=
 ⟨fun {j d} a=>by
  by_cases e:i=j
  ·subst e;rw [List.getElem?_set_self'] at a
   cases f:L[i]? with
   |none=>rw [f] at a;cases a
   |some x=>rw [f] at a;cases a;exact l
  ·rw [WJ e] at a;exact h.ok a,h.apart,h.ro,h.lt,h.lts⟩
theorem Mj {R:Rep α}{xs:List α}{w:World}(hw:Sp Z L w)(hi:L[i]? =some (nq R e v xs)): ∃(A:Option Addr) (n c:Nat) (q:List α),Sp Z (L.set i (aK R e (.slice A n c) (q++xs))) w/\0<xs.length/\n=q.length+xs.length/\n<=c/\v=.slice (dk A c q.length R.sz) xs.length (c - q.length)/\ ∃b o,A=some ⟨b,o,none⟩:=by
 obtain ⟨T,S,h⟩:=hw;obtain ⟨A,n,c,q,l,z,u⟩:=h.ok (bM hi);obtain ⟨B,cap,a,f, -,d⟩:=aw _ _ _ l
 injection a with a p m
 subst a p m;rw [XI] at f d;obtain ⟨b,o, -,t, -⟩:=d W;refine ⟨A,(q++xs).length,c,q,?_,z,XI,by rw [XI];exact f,u,b,o,t⟩;have j:=BU h l;rw [gI Z hi] at j;exact ⟨T,S,j⟩
theorem aaA {R:Rep α}{xs:List α}(i:Nat)(hi:L[i]? =some (nq R e v xs)):Cv L (L.set i (aL R v xs)):=fun Z w h=>by
 obtain ⟨A,n,c,q,t,B,u,z,rfl, -⟩:=Mj h hi;have a:i<L.length:=(WH.1 hi).1;have o:Sp Z ((L.set i (aK R e (.slice A n c) (q++xs))).set i (aL R (.slice A n c) (q++xs))) w:=cu i (by rw [WK a]) Z w t;rw [List.set_set] at o
 have m:Sp Z ((L.set i (aL R (.slice A n c) (q++xs))).set i (aL R (.slice (dk A c q.length R.sz) xs.length (c - q.length)) xs)) w:=by
  obtain ⟨T,S,f⟩:=o
  have d:(L.set i (aL R (.slice A n c) (q++xs)))[i]? =some (aL R (.slice A n c) (q++xs)):=by rw [WK a]
  have p:SlR R S w (.slice A n c) (q++xs):=f.ok (bM d);have l:=p.cut q.length n W (by rw [XI];omega);rw [List.drop_left,Xf W,show n - q.length=xs.length by omega] at l;have j:=BU f (i:=i) (c:=aL R (.slice (dk A c q.length R.sz) xs.length (c - q.length)) xs) l;rw [gI Z d] at j;exact ⟨T,S,j⟩
 rw [List.set_set] at m;exact m
section
variable {d:Option Nat}
theorem ab0 {R:Rep α}{t e sz:Nat}{o:Operand}{A:Option Addr}{c:Nat}{xs:List α}{l:Nat}(i:Nat)(hi:L[i]? =some (aK R e (.slice A n c) xs))(B:ao s x=some (.slice A n c))(D:P.underlying t=some (.slice e))(E:eI P e sz=true)(f:R.sz=sz)(F:ao s o=some (.int .i64 (l:Int)))(K:l<xs.length):OpX P s L ⟨d,.slice t x (some o) none none,ty,pos,af,gd⟩ fun u L'=> ∃A n c,u=.slice A n c/\L'=L.set i (nq R e (.slice A n c) (xs.drop l)):=fun ρ hρ Z w hw=>by
 subst f;obtain ⟨T,S,m⟩:=hw;have j:=m.ok (bM hi);obtain ⟨M,cap,a,H, -⟩:=aw _ _ _ j
 injection a with a z q
 subst a z q;have hr:=oz (lo:=some o) (hi:=none) (C:=fun _=>True) (d:=d) (ty:=ty) (pos:=pos) (af:=af) (gd:=gd) (l:=l) (h:=xs.length) B D E F rfl W W ρ hρ w trivial;refine .inl ⟨_,w,_,hr,?_,_,_,_,J,J⟩;have p:=BU m (i:=i) (c:=nq R e (.slice (dk A c l R.sz) (xs.length - l) (c - l)) (xs.drop l)) ⟨A,xs.length,c,xs.take l,by rw [Xe];exact j,by rw [WQ];omega,by rw [XJ,WQ,Nat.min_eq_left W]⟩;rw [gI Z hi] at p;exact ⟨T,S,p⟩
theorem Tm {R:Rep α}{xs:List α}{z:α}(i:Nat)(hi:L[i]? =some (nq R e v xs))(Q:ao s x=some (bD v k R.sz off))(O:ao s y=some u)(U:u.cells.toList=us)(V:eI P t us.length=true)(h1:us.all (·.oneCell')=true)(hk:k<xs.length)(E:Nat.ble (off+us.length) R.sz=true)(hrel:∀S w vs xk,xs[k]? =some xk->R.rel S w vs xk->R.rel S w (vs.take off++us++vs.drop (off+us.length)) z):OpX P s L ⟨d,.store t x y,ty,pos,af,gd⟩ fun _ L'=>L'=L.set i (nq R e v (xs.set k z)):=fun ρ hρ Z w hw=>by
 obtain ⟨A,n,c,q,X,h0,hn,hc,rfl,b,o,rfl⟩:=Mj hw hi;have p:i<L.length:=(WH.1 hi).1
 have hx':ao s x=some (bD (.slice (some ⟨b,o,none⟩) n c) (q.length+k) R.sz off):=by
  rw [Q];unfold dk;rw [if_neg W];simp only [Xw,iH,bD,Xi]
  congr 4
  omega
 have key:=dX (P:=P) (s:=s) (L:=L.set i (aK R e (.slice (some ⟨b,o,none⟩) n c) (q++xs))) (d:=d) (ty:=ty) (pos:=pos) (af:=af) (gd:=gd) (t:=t) (k:=q.length+k) (z:=z) i (by rw [WK p]) hx' O U V h1 (by rw [XI];omega) E (fun S w vs xk m hr _=>hrel S w vs xk (by rw [WB W,Nat.add_sub_cancel_left] at m;exact m) hr) ρ hρ Z w X
 have fin: ∀w' L',Sp Z L' w'->L'=(L.set i (aK R e (.slice (some ⟨b,o,none⟩) n c) (q++xs))).set i (aK R e (.slice (some ⟨b,o,none⟩) n c) ((q++xs).set (q.length+k) z))->Sp Z (L.set i (nq R e (.slice (dk (some ⟨b,o,none⟩) c q.length R.sz) xs.length (c - q.length)) (xs.set k z))) w':=by
  intro w' L' hL' e';subst e';rw [List.set_set,List.set_append_right _ _ W,Nat.add_sub_cancel_left] at hL';obtain ⟨T,S,K⟩:=hL'
  have H:(L.set i (aK R e (.slice (some ⟨b,o,none⟩) n c) (q++xs.set k z)))[i]? =some (aK R e (.slice (some ⟨b,o,none⟩) n c) (q++xs.set k z)):=by rw [WK p]
  have M:=BU K (i:=i) (c:=nq R e (.slice (dk (some ⟨b,o,none⟩) c q.length R.sz) xs.length (c - q.length)) (xs.set k z)) ⟨_,_,_,_,K.ok (bM H),by rw [WT];exact h0,by rw [WT]⟩;rw [gI Z H,List.set_set] at M;exact ⟨T,S,M⟩
 rcases key with ⟨v,w',L',j,a,F⟩|⟨w',L',j,a,F⟩|⟨f,args,j,a⟩|⟨l,f,N,ag,bo,j,a⟩
 ·exact .inl ⟨v,w',_,j,fin w' L' a F,J⟩
 ·exact .inr (.inl ⟨w',_,j,fin w' L' a F,J⟩)
 ·exact .inr (.inr (.inl ⟨f,args,j,a.mono fun e w' ⟨v,L',D,C,B⟩=>⟨v,_,D,fin w' L' C B,J⟩⟩))
 exact .inr (.inr (.inr ⟨l,f,N,ag,bo,j,a.mono fun e w' ⟨v,L',D,C,B⟩=>⟨v,_,D,fin w' L' C B,J⟩⟩))
end
end
section
open Go.RowKit
theorem LR {d:Option Nat}{vs:V4}{bs:Array Value}{rest:V3}(a:Okc P f us q R)(c:ao s x=some (.func (.func f) bs #[]))(i:eu s xs=some vs)(j:bs.toList++vs=us)(l:Cv L (q++rest)):OpX P s L ⟨d,.call ⟨.value x,xs.toArray,ats⟩,ty,pos,af,gd⟩ fun u L'=> ∃post,R u post/\L'=post++rest:=fun ρ hρ Z w hw=>by
 subst j;refine .inr (.inr (.inl ⟨f,(bs.toList++vs).toArray,by simpa using vD a.cal (iZ hρ i) (hρ _ _ c),?_⟩))
 have o:Sp (rest++Z) q w:=by have:=l Z w hw;unfold Sp at*;simpa only [VT] using this
 refine (a.run _ w o).mono ?_;rintro e w' ⟨v,post,rfl,n,m⟩;exact ⟨v,post++rest,J,by unfold Sp at*;simpa only [VT] using n,post,m,rfl⟩
end
section
open Go.RowKit
theorem ownsX.take {w:World}{sz:Nat}{A:Option Addr}{c:Nat}(h:ownsX w e sz (.slice A n c) n cs)(f:k<=n)(t:0<n):ownsX w e sz (.slice A k c) k (cs.take (k*sz)):=by
 have u:=h.1;have hm:k*sz<=n*sz:=Xq _ f;refine ⟨by rw [XJ];omega,.inr ?_⟩;rcases h.2 with ⟨-,z⟩|⟨g,cap,d,a,p,o,m,l,j,i⟩
 ·omega
 injection a with a _ q
 subst a q;exact ⟨g,c,d,J,p,o,Xn f m,l,j,by rw [<-i,List.take_take,Nat.min_eq_left hm]⟩
section
variable {d:Option Nat}
theorem UY {g cap:Nat}(w:World)(d:TypeInfo)(F:P.underlying t=some (.slice e))(hi:P.info? e=some d)(z:ownsX w e d.size (.slice (some ⟨g,0,none⟩) n cap) n cs)(a:Addr)(m c:Nat)(news:V4)(p:news.length=m*d.size)(hnews:∀j u,news[j]? =some u->w.cell? (a.add j)=some u)(H:∀u∈news,u.oneCell'=true)(l:n+m<=cap):
  ∃w',(Builtin.append_ #[t,t] ty #[.slice (some ⟨g,0,none⟩) n cap,.slice (some a) m c]).run P w=.ok (.slice (some ⟨g,0,none⟩) (n+m) cap) w'/\ownsX w' e d.size (.slice (some ⟨g,0,none⟩) (n+m) cap) (n+m) (cs++news)/\Fr (· =g) w w':=by
 rcases z.2 with ⟨i, -⟩|⟨g',cap',f,i,N,E,M,D,⟨L,c1,c2,c3⟩,C⟩
 ·cases i
 obtain ⟨rfl,rfl⟩:g=g'/\cap=cap':=by injection i with i _ K;injection i with i;injection i with i;exact ⟨i,K⟩
 have q:=run_firstCells_some (P:=P) w d.size m a m c news p hnews
 have o:(n+m)*d.size<=f.size:=by rw [c3];exact Xq _ W
 have hsum:n*d.size+news.length<=f.size:=by rw [p, <-Xi];exact o
 obtain ⟨w',B,s2,A⟩:=rh (P:=P) (t:=e) news w g (n*d.size) 0 f E W (Wi.2 H)
 have hlen:(cs++news).length=(n+m)*d.size:=by rw [XI,z.1,p,Xi]
 refine ⟨w',?_,⟨hlen,.inr ⟨g,cap,_,J,Xt _,A,l,D,⟨L,c1,c2,by rw [wh];exact c3⟩,?_⟩⟩,s2⟩
 ·simp [Builtin.append_,XH F,sizeOf,typeInfo,hi,Builtin.lenOf,l,q,Addr.add_lit,B]
 have hcur:f=f.toList.toArray:=by simp
 rw [Nat.add_zero,hcur,By _ _ _ (by simp;omega),C, <-hlen,VT, <-VT];exact List.take_left
theorem TM {t e sz:Nat}{o z:Operand}{A:Option Addr}{c l:Nat}(a:ao s x=some (.slice A n c))(f:P.underlying t=some (.slice e))(i:eI P e sz=true)(j:ao s o=some (.int .i64 (l:Int)))(p:ao s y=some (.int .i64 (h:Int)))(hm:ao s z=some (.int .i64 (m:Int)))(B:l<=h)(u:h<=m)(q:m<=c):Ev P s C ⟨d,.slice t x (some o) (some y) (some z),ty,pos,af,gd⟩ (.slice (dk A m l sz) (h - l) (m - l)):=fun ρ hρ w _=>by
 unfold execOp;simp only [Xw,Option.map_none,hρ x _ a,hρ o _ j,hρ y _ p,hρ z _ hm,Instr.sliceAt,Instr.slice,Instr.sliceBounds,XB,XH f,XA,ou q,ou u,ou B,lP i w,XC];rfl
theorem Q8 {R:Rep α}{A:Option Addr}{c sz:Nat}{xs:List α}(i:Nat)(hi:L[i]? =some (aK R e (.slice A n c) xs))(hx:ao s x=some (.slice (dk A c 0 sz) (k - 0) (c - 0)))(hy:ao s y=some (.slice (dk A c j sz) (n - j) (c - j)))(ht:P.underlying t=some (.slice e))(o:iB P e sz by_=true)(H:R.sz=sz)(hn:n=xs.length)(h1:k<j)(h2:j<=n)(h3:n<=c):OpX P s L ⟨d,.call ⟨.builtin .append, #[x,y], #[t,t]⟩,ty,pos,af,gd⟩ fun u L'=> ∃U,u=.slice U (k+(n - j)) c/\L'=L.set i (aK R e (.slice U (k+(n - j)) c) (xs.take k++xs.drop j)):=fun ρ hρ Z w hw=>by
 subst H hn;unfold iB at o
 cases hinfo:P.info? e with
 |none=>rw [hinfo] at o;cases o
 | some E=>
  rw [hinfo] at o;simp only [XM] at o;have K:=Xj o.1.1.1;obtain ⟨T,S,z⟩:=hw;obtain ⟨vss,m,B⟩:=z.ok (bM hi);rcases B with ⟨B,g3⟩|⟨h0, -⟩
  rotate_left
  ·omega
  rcases B.2 with ⟨-,h0⟩|⟨g,cap,cur,M,p1,X,p3,p4,p5,V⟩
  ·omega
  obtain ⟨rfl,rfl⟩:A=some ⟨g,0,none⟩/\c=cap:=by injection M with M _ e3;exact ⟨M,e3⟩
  have ex:(Value.slice (dk (some ⟨g,0,none⟩) c 0 R.sz) (k - 0) (c - 0))=.slice (some ⟨g,0,none⟩) k c:=by
   unfold dk;rw [if_neg W];simp [iH]
  have hk:=B.take (k:=k) W W;have hrows:=oE m;have hdrop:(vss.drop j).flatten=vss.flatten.drop (j*R.sz):=AI m j
  have hlen:(vss.drop j).flatten.length=(xs.length - j)*R.sz:=by
   have:=oE (m.drop j);rw [WQ] at this;exact this
  have hcells:=qb (cap:=c) X V
  have htake:vss.flatten.take (k*R.sz)=(vss.take k).flatten:=by
   have h5:vss.flatten=(vss.take k).flatten++(vss.drop k).flatten:=by rw [<-List.flatten_append,Xe]
   have Q:=oE (m.take k);rw [XJ,Nat.min_eq_left W] at Q;rw [h5, <-Q,List.take_left]
  obtain ⟨a,p,ea,hnews⟩: ∃(a:Addr) (p:Nat),(Value.slice (dk (some ⟨g,0,none⟩) c j R.sz) (xs.length - j) (c - j))=.slice (some a) (xs.length - j) p/\ ∀q u,(vss.drop j).flatten[q]? =some u->w.cell? (a.add q)=some u:=by
   unfold dk;by_cases O:c=j
   ·rw [if_pos O];refine ⟨⟨g,0,none⟩,c - j,J,fun q u f=> ?_⟩;have:(vss.drop j).flatten=[]:=Wt (by rw [hlen,show xs.length - j=0 by omega];simp);rw [this] at f;simp at f
   rw [if_neg O];refine ⟨⟨g,j*R.sz,none⟩,c - j,by simp [iH],fun q u f=> ?_⟩;rw [iH];rw [hdrop,WE] at f;have:=hcells _ _ f
   rwa [Xs] at this
  obtain ⟨w',r1,N,C⟩:=UY (P:=P) (ty:=ty) w E ht hinfo (by rw [K];exact hk) a (xs.length - j) p (vss.drop j).flatten (by rw [K];exact hlen) hnews (Wi.1 (FP (m.drop j))) W;rw [K,htake, <-List.flatten_append] at N
  have F:(xs.take k++xs.drop j).length=k+(xs.length - j):=by rw [XI,XJ,WQ];omega
  refine .inl ⟨_,w',L.set i (aK R e (.slice (some ⟨g,0,none⟩) (k+(xs.length - j)) c) (xs.take k++xs.drop j)),?_,?_,_,J,J⟩
  ·rw [kN (P:=P) (ρ:=ρ) (d:=d) (ty:=ty) (pos:=pos) (af:=af) (gd:=gd) (b:=.append) (xs:=[x,y]) (ats:= #[t,t]) (vs:=[.slice (some ⟨g,0,none⟩) k c,.slice (some a) (xs.length - j) p]) (by simp [hρ x _ (hx.trans (congrArg some ex)),hρ y _ (hy.trans (congrArg some ea))]) w];simp only [builtin,XB];have D:(Builtin.append_ #[t,t] ty [Value.slice (some ⟨g,0,none⟩) k c,.slice (some a) (xs.length - j) p].toArray).run P w=.ok (.slice (some ⟨g,0,none⟩) (k+(xs.length - j)) c) w':=r1;rw [D];rfl
  have l:T i g:=g3 g rfl
  have hfin:SepL ((L++Z).set i (aK R e (.slice (some ⟨g,0,none⟩) (k+(xs.length - j)) c) (xs.take k++xs.drop j))) w':=by
   refine z.upd (bM hi) (T':=T i) (Agr.of_fr C fun q f e=>f (e▸l)) (fun _=> .inl) (fun q f=>Xo (z.lt f) C.size) ?_
   have hS:Agr S w w':=Agr.of_fr C fun q f e=>z.ro l (e▸f)
   exact ⟨vss.take k++vss.drop j,((m.take k).append (m.drop j)).imp fun _ _=>R.loc hS,.inl ⟨by rw [F];exact N,fun q f=>by cases f;exact l⟩⟩
  rw [gI Z hi] at hfin;exact hfin
def Oc (P:Program)(e:TypeId):Bool:=match P.info? e with
 |some i=>match i.zero with
  |some z=>z.cells.all (·.oneCell')
  |none=>false
 |none=>false
theorem Ri {R:Rep α}{A:Option Addr}{c o sz:Nat}{xs:List α}(i:Nat)(hi:L[i]? =some (aK R e (.slice A n c) xs))(hx:ao s x=some (.slice (dk A c n sz) (o - n) (c - n)))(ht:P.underlying t=some (.slice e))(l:iB P e sz by_=true)(D:Oc P e=true)(M:R.sz=sz)(h1:n<o)(h2:o<=c):OpX P s L ⟨d,.call ⟨.builtin .clear, #[x], #[t]⟩,ty,pos,af,gd⟩ fun u L'=>u=.tuple #[]/\L'=L:=fun ρ hρ Z w hw=>by
 subst M;unfold iB at l
 cases hinfo:P.info? e with
 |none=>rw [hinfo] at l;cases l
 | some H=>
  rw [hinfo] at l;simp only [XM] at l;obtain ⟨⟨⟨q2,q3⟩,C⟩,q5⟩:=l
  cases f:H.zero with
  |none=>rw [f] at C;cases C
  | some z=>
   rw [f] at C;have e4:=Xj C;obtain ⟨T,S,E⟩:=hw;obtain ⟨vss,g1,F⟩:=E.ok (bM hi);rcases F with ⟨F,X⟩|⟨h0,A0,B⟩
   rotate_left
   ·injection B with _ _ B;omega
   rcases F.2 with ⟨B, -⟩|⟨g,cap,a,O,p1,p2,p3,p4,p5,p6⟩
   ·injection B with _ _ B;omega
   obtain ⟨rfl,hn,rfl⟩:A=some ⟨g,0,none⟩/\n=xs.length/\c=cap:=by injection O with O e2 e3;exact ⟨O,e2,e3⟩
   subst hn;obtain ⟨c0,k1,k2,U⟩:=p5
   have ex:(Value.slice (dk (some ⟨g,0,none⟩) c xs.length R.sz) (o - xs.length) (c - xs.length))=.slice (some ⟨g,xs.length*R.sz,none⟩) (o - xs.length) (c - xs.length):=by
    unfold dk;rw [if_neg W];simp [iH]
   have m:(Builtin.zeroCells z.cells (o - xs.length)).toList.length=(o - xs.length)*R.sz:=by rw [Array.length_toList,size_zeroCells,e4]
   have K:(Builtin.zeroCells z.cells (o - xs.length)).toList.all (·.oneCell')=true:=by
    have ho':z.cells.all (·.oneCell')=true:=by
     unfold Oc at D;rw [hinfo] at D;simp only [f] at D;exact D
    rw [Wi];intro u V;simp only [Builtin.zeroCells,Array.toList_map,W3] at V;obtain ⟨q, -,rfl⟩:=V;by_cases N:q%z.cells.size<z.cells.size
    ·rw [getElem!_pos z.cells _ N];exact Array.all_eq_true.1 ho' _ N
    rw [getElem!_neg z.cells _ N];rfl
   have hsum:xs.length*R.sz+(o - xs.length)*R.sz<=a.size:=by
    rw [<-Xi,U];exact Xq _ W
   obtain ⟨w',Q,s2,s3⟩:=rh (P:=P) (t:=e) (Builtin.zeroCells z.cells (o - xs.length)).toList w g (xs.length*R.sz) 0 a p2 (by rw [m];omega) K;refine .inl ⟨.tuple #[],w',L,?_,?_,J,J⟩
   ·rw [kN (P:=P) (ρ:=ρ) (d:=d) (ty:=ty) (pos:=pos) (af:=af) (gd:=gd) (b:=.clear) (xs:=[x]) (ats:= #[t]) (vs:=[.slice (some ⟨g,xs.length*R.sz,none⟩) (o - xs.length) (c - xs.length)]) (by simp [hρ x _ (hx.trans (congrArg some ex))]) w];obtain ⟨q,j⟩: ∃q,o - xs.length=q+1:=⟨o - xs.length - 1,by omega⟩;rw [j] at Q⊢;simp only [builtin,Builtin.clear_,XB,WM,WD,XH ht,XA];simp [zeroValue,typeInfo,hinfo,f,Q]
   have p:T i g:=X g rfl
   have hfin:SepL ((L++Z).set i (aK R e (.slice (some ⟨g,0,none⟩) xs.length c) xs)) w':=by
    refine E.upd (bM hi) (T':=T i) (Agr.of_fr s2 fun q j e=>j (e▸p)) (fun _=> .inl) (fun q j=>Xo (E.lt j) s2.size) ?_
    have hS:Agr S w w':=Agr.of_fr s2 fun q j e=>E.ro p (e▸j)
    refine ⟨vss,g1.imp fun _ _=>R.loc hS,.inl ⟨⟨F.1,.inr ⟨g,c,_,J,p1,s3,p3,p4,⟨c0,k1,k2,by rw [wh];exact U⟩,?_⟩⟩,X⟩⟩
    have hcur:a=a.toList.toArray:=by simp
    have hle:xs.length*R.sz<=a.toList.length:=by simp;omega
    rw [Nat.add_zero,hcur,By _ _ _ (by rw [m];simp;omega),VT,List.take_append_of_le_length (by rw [XJ];omega),List.take_take,Nat.min_self];exact p6
   rw [gI Z hi] at hfin
   have e9:L.set i (aK R e (.slice (some ⟨g,0,none⟩) xs.length c) xs)=L:=by
    apply Wu;intro q;by_cases e:i=q
    ·subst e;rw [WK (WH.1 hi).1,hi]
    rw [WJ e]
   rw [e9] at hfin;exact hfin
end
section
theorem acD {R:Rep α}{A:Option Addr}{c:Nat}{xs:List α}(i:Nat)(hi:L[i]? =some (aK R e (.slice A n c) xs))(k:n=xs.length->n<=c->aP X ops l K s L):aP X ops l K s L:=fun H p a w f d hw=>by
 obtain ⟨T,S,j⟩:=hw.get (bM hi);obtain ⟨u,c',o,q, -⟩:=aw _ _ _ j
 injection o with _ m t
 exact k m W H p a w f d hw
end
end
section
open Go.RowKit
def yP (_:Nat)(a:List α)(a1 a2:Int):Option (List α):=ae (0<=a1/\a1<=a2/\a2.toNat<=a.length) (some (a.take a1.toNat++a.drop a2.toNat))
theorem Qr {N:Nat}{R:Rep α}{a:List α}{a1 a2:Int}{r:List α}(h:yP N a a1 a2=some r){A:Option Addr}{c:Nat}(t:R.sz=3:=by rfl):Okc V5 95 [.slice A n c,.int .i64 a1,.int .i64 a2] [aK R 29 (.slice A n c) a] (fun u p=> ∃A n c,u=.slice A n c/\p=[aK R 29 (.slice A n c) r]):=by
 obtain ⟨⟨D,C,z⟩,h⟩:=ai h;obtain rfl:=bn h;obtain ⟨i,rfl⟩: ∃i:Nat,a1=(i:Int):=⟨a1.toNat,by omega⟩;obtain ⟨j,rfl⟩: ∃j:Nat,a2=(j:Int):=⟨a2.toNat,by omega⟩;simp only [Wg] at*
 have f:i<=j:=by omega
 have size3:eI V5 29 3=true:=by kernel_rfl
 refine gQ Tryz.func95 J J ?_;simp only [fe];refine aH ?_;refine iT ?_;refine bR (dQ J) J J J ?_;refine li ?_;refine d5 ?_;refine aH ?_;refine iT ?_;refine acD 0 J fun B q=> ?_
 refine bR (ay J) J J J ?_;refine bR (ay J) J J J ?_;refine bR (ay J) J J J ?_;refine bR (ay J) J J J ?_;refine dF (ie 0 J aw J z9) J J J ?_;refine bR (TM (l:=i) (h:=j) (m:=a.length) J z9 size3 J J J f z W) J J J ?_;refine li ?_;refine d5 ?_;refine aH ?_;refine aH ?_;refine iT ?_;refine bR (ay J) J J J ?_;refine bR (ay J) J J J ?_;refine bR (N8 J J) J J J ?_;refine li ?_;refine d5 ?_;refine GG J (fun g=> ?_) (fun g=> ?_)
 ·have e:i=j:=by have:=XG g;omega
  subst e;refine aH ?_;refine iT ?_;refine bR (ay J) J J J ?_;refine bR (dQ J) J J J ?_;refine li ?_;refine d5 ?_;refine wI ?_;refine CA ?_;rw [Xe];exact dV J J (ah _) ⟨_,_,_,J,J⟩
 have d:i<j:=by
  have:=XF g;omega
 refine Cf ?_;refine d5 ?_;refine aH ?_;refine iT ?_;refine bR (ay J) J J J ?_;refine dF (ie 0 J aw J z9) J J J ?_;refine bR (dQ J) J J J ?_;refine li ?_;refine d5 ?_;refine aH ?_;refine cy I [] (ql [] 1 J J) ?_;refine ei 0 J I (ay J) J J ?_;refine ei 1 J I (ay J) J J ?_;refine ei 2 J I (oz (lo:=none) (l:=0) (h:=i) J z9 size3 J J (Xt _) W) J J ?_;refine ei 3 J I (ay J) J J ?_;refine ei 4 J I (ay J) J J ?_;refine ei 5 J I (oz (hi:=none) (l:=j) (h:=n) J z9 size3 J J W q) J J ?_;refine iI 6 J I (Q8 (k:=i) (j:=j) (sz:=3) (by_:=32) 0 J J J z9 I t B d W q) J J J ?_;rintro _ _ ⟨E,rfl,rfl⟩;refine ⟨[],ql [] 1 J J,ah _,?_⟩;refine ei 7 J I (dQ J) J J ?_;refine cJ I ?_;refine d5 ?_
 have hlen:(a.take i++a.drop j).length=i+(n - j):=by rw [XI,XJ,WQ];omega
 refine aH ?_;refine iT ?_;refine bR (ay J) J J J ?_;refine bR (ay J) J J J ?_;refine dF (ie 0 J aw J z9) J J J ?_;rw [hlen];refine bR (ay J) J J J ?_;refine bR (oz (l:=i+(n - j)) (h:=a.length) J z9 size3 J J W W) J J J ?_;refine Oa (Ri (n:=i+(n - j)) (o:=a.length) (sz:=3) (by_:=32) 0 J J z9 I I t W W) J J ?_;rintro _ _ ⟨rfl,rfl⟩;refine li ?_;refine d5 ?_;refine aH ?_;refine iT ?_;refine bR (ay J) J J J ?_;refine bR (dQ J) J J J ?_;refine li ?_;refine d5 ?_;refine wI ?_;exact dV J J (ah _) ⟨_,_,_,J,J⟩
section
theorem gH {c:Operand}{x y:Code}{b:Bool}{u v r:Option ρ}(e:ao s c=some (.bool b))(h:(bif b then u else v)=r)(a:u=r->Wq X x K s L)(d:v=r->Wq X y K s L):Wq X (.cond c x y) K s L:=GG e (fun g=>a (du g h)) fun g=>d (dt g h)
variable {rest:List Oper}{d:Nat}{op:Op}
theorem gV {C:V3}(h:OpX X.P s L ⟨some d,op,ty,pos,af,gd⟩ fun u L'=> ∃post,(u=v/\post=C)/\L'=post++Z)(k:aP X ops rest K ((d,v)::s) (C++Z))(a:bQ ⟨some d,op,ty,pos,af,gd⟩=true:=by rfl)(c:bu ops s ⟨some d,op,ty,pos,af,gd⟩=some true:=by rfl)(e:Nat.ble (d+1) X.n=true:=by rfl):aP X ops (⟨some d,op,ty,pos,af,gd⟩::rest) K s L:=gD h (by rintro _ _ ⟨_,⟨rfl,rfl⟩,rfl⟩;exact k) a c e
theorem gU {C:V3}(h:OpX X.P s L ⟨some d,op,ty,pos,af,gd⟩ fun u L'=> ∃post,(u=v/\post=C)/\L'=post++Z)(c:bu ops s ⟨some d,op,ty,pos,af,gd⟩=some true)(k:aP X ops rest K ((d,v)::s) (C++Z))(a:bQ ⟨some d,op,ty,pos,af,gd⟩=true:=by rfl)(e:Nat.ble (d+1) X.n=true:=by rfl):aP X ops (⟨some d,op,ty,pos,af,gd⟩::rest) K s L:=gD h (by rintro _ _ ⟨_,⟨rfl,rfl⟩,rfl⟩;exact k) a c e
theorem gW (h:OpX X.P s L ⟨none,op,ty,pos,af,gd⟩ fun _ L'=>L'=Z)(k:aP X ops rest K s Z)(a:bQ ⟨none,op,ty,pos,af,gd⟩=true:=by rfl)(c:bu ops s ⟨none,op,ty,pos,af,gd⟩=some true:=by rfl):aP X ops (⟨none,op,ty,pos,af,gd⟩::rest) K s L:=gO h (by rintro _ _ rfl;exact k) a c
theorem gB {F:Nat->Value}{a:Nat->V3}(h:OpX X.P s L ⟨some d,op,ty,pos,af,gd⟩ fun u L'=> ∃b,u=F b/\L'=a b)(k:∀b,aP X ops rest K ((d,F b)::s) (a b))(c:bQ ⟨some d,op,ty,pos,af,gd⟩=true:=by rfl)(e:bu ops s ⟨some d,op,ty,pos,af,gd⟩=some true:=by rfl)(f:Nat.ble (d+1) X.n=true:=by rfl):aP X ops (⟨some d,op,ty,pos,af,gd⟩::rest) K s L:=gD h (by rintro _ _ ⟨b,rfl,rfl⟩;exact k b) c e f
end
end
section
open Go.RowKit
class FcI (P:Program) (t:Nat) (v:outParam Value):Prop where
  out: ∀w,(zeroValue t).run P w=.ok v w
class FcB (P:Program) (t:Nat) (vs:List (Nat×Value)) (v:outParam Value):Prop where
  out: ∀w,(Instr.build t vs.toArray).run P w=.ok v w
class RepF {α:Type} (R:Rep α) (f:outParam (α->V4)):Prop where
  out: ∀S w vs x,R.rel S w vs x->vs=f x
theorem qn {l:List α}(h:l=[]):l=[]:=h
theorem qh {l t T:List α}{a:α}(h:l=a::t)(k:t=T):l=a::T:=k▸h
inductive FndR (b:Nat) (cs:V4):V3->Prop
  |w {bt L:_}:FndR b cs (ab b bt cs::L)
  |r {bt L:_}:FndR b cs (aQ b bt cs::L)
  |s {c L:_} (h:FndR b cs L):FndR b cs (c::L)
theorem FndR.ix {b:Nat}(h:FndR b cs L): ∃(i:Nat) (bt:TypeId),L[i]? =some (ab b bt cs)\/L[i]? =some (aQ b bt cs):=by
  induction h with
  |w=>exact ⟨0,_,.inl rfl⟩
  |r=>exact ⟨0,_,.inr rfl⟩
  |s _ a=>obtain ⟨i,bt,h⟩:=a;exact ⟨i+1,bt,h⟩
inductive FndW (b:Nat) (bt:TypeId) (cs cs':V4):V3->V3->Prop
  |w {L:_}:FndW b bt cs cs' (ab b bt cs::L) (ab b bt cs'::L)
  |s {c L L':_} (h:FndW b bt cs cs' L L'):FndW b bt cs cs' (c::L) (c::L')
theorem FndW.ix {b bt:Nat}{cs':V4}(h:FndW b bt cs cs' L L'): ∃i:Nat,L[i]? =some (ab b bt cs)/\L'=L.set i (ab b bt cs'):=by
  induction h with
  |w=>exact ⟨0,rfl,rfl⟩
  |s _ a=>obtain ⟨i,h,e⟩:=a;exact ⟨i+1,h,by rw [e];rfl⟩
inductive FndE {α:Type} (R:Rep α) (v:Value) (xs:List α):V3->Prop
  |w {c L:_} (h:gi R v xs c):FndE R v xs (c::L)
  |s {c L:_} (h:FndE R v xs L):FndE R v xs (c::L)
theorem FndE.ix {R:Rep α}{xs:List α}(h:FndE R v xs L): ∃(i:Nat) (c:Chunk),L[i]? =some c/\gi R v xs c:=by
  induction h with
  |w h=>exact ⟨0,_,rfl,h⟩
  |s _ a=>obtain ⟨i,c,h⟩:=a;exact ⟨i+1,c,h⟩
structure RdS (P:Program) (s:au) (L:V3) (o:Oper) (v:Value):Prop where
  out:Rd P s L o v
theorem adp:jT s []=some []:=rfl
theorem adg {r:List (Nat×Operand)}{l:List (Nat×Value)}(h:ao s x=some v)(k:jT s r=some l):jT s ((i,x)::r)=some ((i,v)::l):=by unfold jT;rw [h,k]
section
variable {rest:List Oper}{d:Nat}
theorem xrE {op:Op}(h:CJ s op=some v):RdS P s L ⟨some d,op,ty,pos,af,gd⟩ v:=⟨fun _ _ _=>fun ρ hρ w _=>Nw h ρ hρ w trivial⟩
theorem xrP {c:Operand}{g:Bool}(f:ao s c=some (.bool g))(e:g=true)(a:ao s x=some v):RdS P s L ⟨some d,.pick c x y,ty,pos,af,gd⟩ v:=⟨fun _ _ _=>oh e f a⟩
theorem xrQ {c:Operand}{g:Bool}(f:ao s c=some (.bool g))(e:g=false)(a:ao s y=some v):RdS P s L ⟨some d,.pick c x y,ty,pos,af,gd⟩ v:=⟨fun _ _ _=>pY e f a⟩
theorem adq {t f b o:Nat}[h:FcA0 P t f](a:ao s x=some (.pointer (some ⟨b,o,none⟩))):RdS P s L ⟨some d,.fieldAddr t x f,ty,pos,af,gd⟩ (.pointer (some ⟨b,o,none⟩)):=⟨fun _ _ _=>fb a h.out⟩
theorem xrF {t f o' b o:Nat}[h:FcA P t f o'](a:ao s x=some (.pointer (some ⟨b,o,none⟩))):RdS P s L ⟨some d,.fieldAddr t x f,ty,pos,af,gd⟩ (.pointer (some ⟨b,o+o',none⟩)):=⟨fun _ _ _=>bW a h.out⟩
theorem xr1 {b o:Nat}[c:Fc (cz P t=true)](a:ao s x=some (.pointer (some ⟨b,o,none⟩)))(hi:FndR b cs L)(e:cs[o]? =some v):RdS P s L ⟨some d,.load t x,ty,pos,af,gd⟩ v:=⟨by
  obtain ⟨i,bt,h|h⟩:=hi.ix
  ·exact cn i h a c.out e
  ·exact lT i h a c.out e⟩
theorem xrS {b o:Nat}[hu:FcG P t n](c:ao s x=some (.pointer (some ⟨b,o,none⟩)))(hi:FndR b cs L)(e:(cs.drop o).take n=us)(a:us.length=n):RdS P s L ⟨some d,.load t x,ty,pos,af,gd⟩ (.agg us.toArray):=⟨by
  obtain ⟨i,bt,h|h⟩:=hi.ix
  ·exact db (us:=us) i h c (a▸hu.out) (a▸e)
  ·exact Ll (us:=us) i h c (a▸hu.out) (a▸e)⟩
theorem xrD (a:jT s A=some vs)(hb:FcB P t vs v):RdS P s L ⟨some d,.build t A.toArray,ty,pos,af,gd⟩ v:=⟨fun _ _ _=>iW a hb.out⟩
theorem xrI {R:Rep α}{t e sz:Nat}{xs:List α}{i:Int}[m:FcS P t e][a:FcZ P e sz](l:ao s x=some v)(f:ao s y=some (.int .i64 i))(n:FndE R v xs L)(p:0<=i)(o:i<xs.length):RdS P s L ⟨some d,.indexAddr t x y,ty,pos,af,gd⟩ (bD v i.toNat sz 0):=⟨by
  obtain ⟨j,c,h,e⟩:=n.ix;exact cH j h e l f m.out a.out p o⟩
theorem xrG {R:Rep α}{f:α->V4}{t sz:Nat}{xs:List α}{y:α}[hu:FcG P t n](m:ao s x=some (bD v k sz off))(p:FndE R v xs L)(o:RepF R f)(l:xs[k]? =some y)(i:R.sz=sz)(q:((f y).drop off).take n=us)(a:us.length=n):RdS P s L ⟨some d,.load t x,ty,pos,af,gd⟩ (.agg us.toArray):=⟨by
  obtain ⟨j,c,h,e⟩:=p.ix;subst i;exact fX (us:=us) j h e m l (a▸hu.out) fun S w vs hr=>by rw [o.out _ _ _ _ hr,a];exact q⟩
theorem xrH {R:Rep α}{f:α->V4}{t sz:Nat}{xs:List α}{y:α}[m:Fc (cz P t=true)](l:ao s x=some (bD v k sz off))(o:FndE R v xs L)(n:RepF R f)(i:xs[k]? =some y)(a:R.sz=sz)(p:(f y)[off]? =some u):RdS P s L ⟨some d,.load t x,ty,pos,af,gd⟩ u:=⟨by
  obtain ⟨j,c,h,e⟩:=o.ix;subst a;exact fZ (u:=u) j h e l i m.out fun S w vs hr=>by rw [n.out _ _ _ _ hr];exact p⟩
theorem tR {op:Op}(h:RdS X.P s L ⟨some d,op,ty,pos,af,gd⟩ v)(a:bQ ⟨some d,op,ty,pos,af,gd⟩=true)(e:Nat.ble (d+1) X.n=true)(k:aP X ops rest K ((d,v)::s) L):RunT X ops ⟨some d,op,ty,pos,af,gd⟩ rest K s L:=⟨fun c=>dF h.out a c e k⟩
theorem isT (h:bv X ops K M z listed s L):bv X ops K M z listed s L:=h
theorem tN (hr:Region.ready .any ops listed=[])(h:K .normal s L):bv X ops K M 0 listed s L:=cJ hr h
theorem tZ {op:Op}(i:Nat)(f:ops.size - (z+1)=i)(hi:ops[i]? =some ⟨some d,op,ty,pos,af,gd⟩)(h:RdS X.P s M ⟨some d,op,ty,pos,af,gd⟩ v)(a:jQ ops listed i=true)(c:bu ops s ⟨some d,op,ty,pos,af,gd⟩=some true)(e:Nat.ble (d+1) X.n=true)(k:bv X ops K M z (listed.setIfInBounds i true) ((d,v)::s) L):bv X ops K M (z+1) listed s L:=zR i hi h.out k a c e
theorem tW {bt:TypeId}{b o:Nat}{cs':V4}[hs:FcZ X.P t n](c:ao s x=some (.pointer (some ⟨b,o,none⟩)))(a:ao s y=some v)(d:v.cells.toList=us)(l:FndW b bt cs cs' L L')(hc':cs.take o++us++cs.drop (o+us.length)=cs')(f:us.length=n)(p:us.all (·.oneCell')=true)(m:Nat.ble (o+us.length) cs.length=true)(k:aP X ops rest K s L'):RunT X ops ⟨none,.store t x y,ty,pos,af,gd⟩ rest K s L:=⟨fun j=>by
  obtain ⟨i,h,e⟩:=l.ix;exact gW (bL (us:=us) (cs':=cs') i h c a d (f▸hs.out) p m hc') (e▸k) J j⟩
theorem tA [a:FcI X.P t v](f:v.cells.toList=cs)(e:Nat.ble (d+1) X.n=true)(k:∀b,aP X ops rest K ((d,pV b 0)::s) (ab b t cs::L)):RunT X ops ⟨some d,.alloc t,ty,pos,af,gd⟩ rest K s L:=⟨fun c=>gB (iq a.out f) k rfl c e⟩
theorem tX (a:ao s x=some v)(f:v.cells.toList=cs)(e:Nat.ble (d+1) X.n=true)(k:∀b,aP X ops rest K ((d,pV b 0)::s) (ab b t cs::L)):RunT X ops ⟨some d,.box t x,ty,pos,af,gd⟩ rest K s L:=⟨fun c=>gB (sS a f) k rfl c e⟩
end
end
