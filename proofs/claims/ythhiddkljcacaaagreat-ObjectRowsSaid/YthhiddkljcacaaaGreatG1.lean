/- Merged texts: part 1. No conditions of their own. -/
import Derived.WalkKit
import Derived.WalkSpells
import Derived.WalkLawsBesides
import Derived.Lib.Hide
import Derived.Deep.QuietTactic
import Derived.BigQuiet
import Derived.Orders
import Derived.KernelRfl
import Derived.Deep.Quiet
import Derived.Deep.LoopGhost
import Derived.StillTail
import Derived.Laws.AppendOwn
import Derived.Laws.MakeOwn
import Derived.Laws.OwnMore
import Derived.RangeFuncLeaves
import Derived.RangeFuncRecord
import Derived.OrdersIn
import Derived.RangeFuncKeeps
import Derived.Deep.Slices
import Derived.Deep.Fields
import Derived.ChangeSame
import Derived.SizedLaws
import Derived.OpenShut
namespace Go.Proofs.YthhiddkljcacaaaGreat
variable {a:Act}{listed:Array Bool}{af:Array Edge}{ops:Array Oper}{ats:Array TypeId}{cs:Array Value}{g:Bool}{c:Code}{Q:Exit->Act->World->Prop}{F:Func}{f:FuncId}{k:IntKind}{D:List (Nat×Operand)}{vs:List (Nat×Value)}{l:List Oper}{caps xs:List Operand}{cap B h i j m n off:Nat}{T:Nat->Nat->Prop}{S:Nat->Prop}{o oi oj:Oper}{x y:Operand}{ρ:Operand->Value}{gd:Option (Nat×Bool)}{A A2:Option Addr}{lo:Option Operand}{P:Program}{p:Prop}{pos:String}{H α β ι:Type}{bt e kt t ty:TypeId}{u v z:Value}{w':World}{C:World->Prop}
section
theorem XO {l:List α}(h:n<l.length):l[n]∈l:=List.getElem_mem h
theorem XN (l:List α):[]++l=l:=List.nil_append l
theorem XM (a b:Bool):((a&&b)=true)=(a=true/\b=true):=Bool.and_eq_true a b
theorem XL {l:List α}:l.take l.length=l:=List.take_length
theorem XK {as:List α}(f:α->β):(as.map f).length=as.length:=List.length_map f
theorem XJ {l:List α}:(l.take i).length=min i l.length:=List.length_take
theorem XI {as bs:List α}:(as++bs).length=as.length+bs.length:=List.length_append
theorem XH:type_of% @run_underlying:=@run_underlying
theorem XG:type_of% @of_decide_eq_true:=@of_decide_eq_true
theorem XF:type_of% @of_decide_eq_false:=@of_decide_eq_false
theorem XE:type_of% @decide_eq_true_eq:=@decide_eq_true_eq
theorem XD:type_of% @decide_eq_false_iff_not:=@decide_eq_false_iff_not
theorem XC:type_of% @Sem.run_pure:=@Sem.run_pure
theorem XB:type_of% @Sem.run_bind:=@Sem.run_bind
theorem XA:type_of% @Result.andThen_ok:=@Result.andThen_ok
theorem Xz.{u,v}:type_of% @Prod.mk.inj.{u,v}:=@Prod.mk.inj.{u,v}
theorem Xy.{u}:type_of% @Option.some.injEq.{u}:=@Option.some.injEq.{u}
theorem Xx.{u}:type_of% @Option.some.inj.{u}:=@Option.some.inj.{u}
theorem Xw.{u,v}:type_of% @Option.map_some.{u,v}:=@Option.map_some.{u,v}
theorem Xv.{u}:type_of% @Option.getD_some.{u}:=@Option.getD_some.{u}
theorem Xu.{u,v}:type_of% @Option.bind_some.{u,v}:=@Option.bind_some.{u,v}
theorem Xt:type_of% @Nat.zero_le:=@Nat.zero_le
theorem Xs:type_of% @Nat.zero_add:=@Nat.zero_add
theorem Xr:type_of% @Nat.sub_self:=@Nat.sub_self
theorem Xq:type_of% @Nat.mul_le_mul_right:=@Nat.mul_le_mul_right
theorem Xp:type_of% @Nat.lt_or_ge:=@Nat.lt_or_ge
theorem Xo:type_of% @Nat.lt_of_lt_of_le:=@Nat.lt_of_lt_of_le
theorem Xn:type_of% @Nat.le_trans:=@Nat.le_trans
theorem Xm:type_of% @Nat.le_refl:=@Nat.le_refl
theorem Xl:type_of% @Nat.le_of_ble_eq_true:=@Nat.le_of_ble_eq_true
theorem Xk:type_of% @Nat.eq_zero_or_pos:=@Nat.eq_zero_or_pos
theorem Xj:type_of% @Nat.eq_of_beq_eq_true:=@Nat.eq_of_beq_eq_true
theorem Xi:type_of% @Nat.add_mul:=@Nat.add_mul
theorem Xh.{u}:type_of% @List.take_zero.{u}:=@List.take_zero.{u}
theorem Xg.{u}:type_of% @List.take_succ_cons.{u}:=@List.take_succ_cons.{u}
theorem Xf.{u}:type_of% @List.take_of_length_le.{u}:=@List.take_of_length_le.{u}
theorem Xe.{u}:type_of% @List.take_append_drop.{u}:=@List.take_append_drop.{u}
theorem Xd.{u}:type_of% @List.perm_middle.{u}:=@List.perm_middle.{u}
theorem Xc.{u}:type_of% @List.perm_append_comm_assoc.{u}:=@List.perm_append_comm_assoc.{u}
theorem Xb.{u}:type_of% @List.pairwise_iff_getElem.{u}:=@List.pairwise_iff_getElem.{u}
theorem Xa.{u}:type_of% @List.pairwise_cons.{u}:=@List.pairwise_cons.{u}
theorem W9.{u}:type_of% @List.nodup_append.{u}:=@List.nodup_append.{u}
theorem W8.{u}:type_of% @List.mem_singleton.{u}:=@List.mem_singleton.{u}
theorem W7:type_of% @List.mem_range:=@List.mem_range
theorem W6.{u}:type_of% @List.mem_or_eq_of_mem_set.{u}:=@List.mem_or_eq_of_mem_set.{u}
theorem W5.{u}:type_of% @List.mem_of_mem_take.{u}:=@List.mem_of_mem_take.{u}
theorem W4.{u}:type_of% @List.mem_of_getElem?.{u}:=@List.mem_of_getElem?.{u}
theorem W3.{u,v}:type_of% @List.mem_map.{u,v}:=@List.mem_map.{u,v}
theorem W2.{u}:type_of% @List.mem_filter.{u}:=@List.mem_filter.{u}
theorem W0.{u}:type_of% @List.mem_cons_of_mem.{u}:=@List.mem_cons_of_mem.{u}
theorem WZ.{u}:type_of% @List.mem_cons.{u}:=@List.mem_cons.{u}
theorem WY.{u}:type_of% @List.mem_append.{u}:=@List.mem_append.{u}
theorem WX.{u,v}:type_of% @List.map_toArray.{u,v}:=@List.map_toArray.{u,v}
theorem WW.{u,v}:type_of% @List.map_cons.{u,v}:=@List.map_cons.{u,v}
theorem WV.{u,v}:type_of% @List.map_append.{u,v}:=@List.map_append.{u,v}
theorem WU.{u}:type_of% @List.length_singleton.{u}:=@List.length_singleton.{u}
theorem WT.{u}:type_of% @List.length_set.{u}:=@List.length_set.{u}
theorem WS.{u}:type_of% @List.length_nil.{u}:=@List.length_nil.{u}
theorem WR.{u}:type_of% @List.length_filter_le.{u}:=@List.length_filter_le.{u}
theorem WQ.{u}:type_of% @List.length_drop.{u}:=@List.length_drop.{u}
theorem WP.{u}:type_of% @List.length_cons.{u}:=@List.length_cons.{u}
theorem WO.{u}:type_of% @List.getElem_of_mem.{u}:=@List.getElem_of_mem.{u}
theorem WN.{u,v}:type_of% @List.getElem_map.{u,v}:=@List.getElem_map.{u,v}
theorem WM.{u}:type_of% @List.getElem?_toArray.{u}:=@List.getElem?_toArray.{u}
theorem WL.{u}:type_of% @List.getElem?_take.{u}:=@List.getElem?_take.{u}
theorem WK.{u}:type_of% @List.getElem?_set_self.{u}:=@List.getElem?_set_self.{u}
theorem WJ.{u}:type_of% @List.getElem?_set_ne.{u}:=@List.getElem?_set_ne.{u}
theorem WI.{u,v}:type_of% @List.getElem?_map.{u,v}:=@List.getElem?_map.{u,v}
theorem WH.{u}:type_of% @List.getElem?_eq_some_iff.{u}:=@List.getElem?_eq_some_iff.{u}
theorem WG.{u}:type_of% @List.getElem?_eq_none.{u}:=@List.getElem?_eq_none.{u}
theorem WF.{u}:type_of% @List.getElem?_eq_getElem.{u}:=@List.getElem?_eq_getElem.{u}
theorem WE.{u}:type_of% @List.getElem?_drop.{u}:=@List.getElem?_drop.{u}
theorem WD.{u}:type_of% @List.getElem?_cons_zero.{u}:=@List.getElem?_cons_zero.{u}
theorem WC.{u}:type_of% @List.getElem?_cons_succ.{u}:=@List.getElem?_cons_succ.{u}
theorem WB.{u}:type_of% @List.getElem?_append_right.{u}:=@List.getElem?_append_right.{u}
theorem WA.{u}:type_of% @List.getElem?_append_left.{u}:=@List.getElem?_append_left.{u}
theorem Wz.{u}:type_of% @List.flatten_cons.{u}:=@List.flatten_cons.{u}
theorem Wy.{u,v}:type_of% @List.flatMap_cons.{u,v}:=@List.flatMap_cons.{u,v}
theorem Wx.{u,v}:type_of% @List.flatMap_append.{u,v}:=@List.flatMap_append.{u,v}
theorem Ww.{u}:type_of% @List.filter_cons.{u}:=@List.filter_cons.{u}
theorem Wv.{u}:type_of% @List.filter_append.{u}:=@List.filter_append.{u}
theorem Wu.{u}:type_of% @List.ext_getElem?.{u}:=@List.ext_getElem?.{u}
theorem Wt.{u}:type_of% @List.eq_nil_of_length_eq_zero.{u}:=@List.eq_nil_of_length_eq_zero.{u}
theorem Ws.{u}:type_of% @List.drop_zero.{u}:=@List.drop_zero.{u}
theorem Wp.{u}:type_of% @List.drop_succ_cons.{u}:=@List.drop_succ_cons.{u}
theorem Wo.{u}:type_of% @List.drop_eq_nil_of_le.{u}:=@List.drop_eq_nil_of_le.{u}
theorem Wn.{u}:type_of% @List.drop_eq_getElem_cons.{u}:=@List.drop_eq_getElem_cons.{u}
theorem Wm.{u}:type_of% @List.cons_append.{u}:=@List.cons_append.{u}
theorem Wl.{u}:type_of% @List.cons.injEq.{u}:=@List.cons.injEq.{u}
theorem Wk.{u}:type_of% @List.cons.inj.{u}:=@List.cons.inj.{u}
theorem Wj.{u}:type_of% @List.append_nil.{u}:=@List.append_nil.{u}
theorem Wi.{u}:type_of% @List.all_eq_true.{u}:=@List.all_eq_true.{u}
theorem Wh:type_of% @Int.toNat_of_nonneg:=@Int.toNat_of_nonneg
theorem Wg:type_of% @Int.toNat_natCast:=@Int.toNat_natCast
theorem Wf:type_of% @Int.tmod_eq_emod_of_nonneg:=@Int.tmod_eq_emod_of_nonneg
theorem We:type_of% @Int.tdiv_eq_ediv_of_nonneg:=@Int.tdiv_eq_ediv_of_nonneg
theorem Wc:type_of% @Int.cast_ofNat_Int:=@Int.cast_ofNat_Int
theorem Wb:type_of% @Bool.true_and:=@Bool.true_and
theorem Wa:type_of% @Bool.false_eq_true:=@Bool.false_eq_true
theorem V9.{u}:type_of% @Array.getElem?_setIfInBounds_ne.{u}:=@Array.getElem?_setIfInBounds_ne.{u}
theorem V8.{u}:type_of% @Array.getElem?_eq_none.{u}:=@Array.getElem?_eq_none.{u}
theorem V7.{u}:type_of% @Array.getElem?_eq_getElem.{u}:=@Array.getElem?_eq_getElem.{u}
theorem V6.{u}:type_of% @Array.getD_eq_getD_getElem?.{u}:=@Array.getD_eq_getD_getElem?.{u}
abbrev V4:=List Value
abbrev V0:=List (Int×Int)
abbrev VY:=List (Int×Bool)
abbrev VW:=List Int
theorem VV {α:Type _}{a:α}(s:List α){t:List α}(h:a∈t):a∈s++t:=List.mem_append_right s h
theorem VU {α:Type _}{a:α}{s:List α}(t:List α)(h:a∈s):a∈s++t:=List.mem_append_left t h
theorem VT {α:Type _}(a b c:List α):a++b++c=a++(b++c):=List.append_assoc a b c
theorem VS (n:Nat):n<n+1:=Nat.lt_succ_self n
theorem VR [Decidable p](h:¬p):decide p=false:=decide_eq_false h
theorem VQ [Decidable p](h:p):decide p=true:=decide_eq_true h
abbrev Y (A:Option Addr)(n c:Nat):Value:=.slice A n c
theorem J {α:Sort _}{a:α}:a=a:=rfl
theorem I (h:p:=by kernel_rfl):p:=h
theorem W (h:p:=by omega):p:=h
theorem bn {α:Type _}{a b:α}(h:some a=some b):a=b:=Xx h
open Go.RowKit
abbrev Ext (w w':World):Prop:=Below w.heap.size w w'
theorem Ext.refl (w:World):Ext w w:=Below.refl _ _
theorem Ext.trans {a b c:World}(h:Ext a b)(k:Ext b c):Ext a c:=Below.trans h (Below.mono k h.size)
theorem Ext.drew {a w:World}(h:Ext a w):Ext a w.drew:=⟨h.os,h.tape,h.output,h.size,h.block⟩
theorem Ext.alloc {a w:World}(h:Ext a w)(o:Obj):Ext a (w.alloc o):=Below.alloc h h.size o
def Blk (w:World)(b:Nat)(t:TypeId)(cs:Array Value):Prop:=w.heap[b]? =some (.cells cs t (0,0))
theorem Blk.lt {w:World}{b:Nat}(h:Blk w b t cs):b<w.heap.size:=by
 rcases Xp b w.heap.size with a|c
 ·exact a
 unfold Blk at h;rw [V8 c] at h;cases h
theorem Blk.new (w:World)(t:TypeId)(cs:Array Value):Blk (w.alloc (.cells cs t)) w.heap.size t cs:=heap_alloc_new w _
theorem Blk.ext {w:World}{b:Nat}(h:Blk w b t cs)(hb:Ext w w'):Blk w' b t cs:=(hb.block b h.lt).trans h
theorem Blk.cells {w:World}{b:Nat}(h:Blk w b t cs): ∀j,w.cell? ⟨b,j,none⟩=cs[j]? :=fun j=>cell_of_row w b j cs t (0,0) h
theorem Blk.free {w:World}{b:Nat}(h:Blk w b t cs): ∀j,w.frozen? ⟨b,j,none⟩=false:=fun j=>frozen_of_row w b j cs t h
abbrev au:=List (Nat×Value)
def cq:au->Nat->Option Value
 | [],_=>none
 |(k,v)::r,i=>bif Nat.beq k i then some v else cq r i
def ao (s:au):Operand->Option Value
 | .tmp t=>cq s t
 | .const v=>some v
 | .global g=>some (.pointer (some ⟨g,0,none⟩))
 | .func f=>some (.func (.func f) #[] #[])
structure Fits (n:Nat) (s:au) (a:Act):Prop where
 size:a.tmps.size=n
 defers:a.defers=[]
 at_: ∀k v,cq s k=some v->a.tmps.getD k undef=v
def dK (s t:au):Prop:= ∀k v,cq t k=some v->cq s k=some v
theorem dG {s:au}:dK s s:=fun _ _ h=>h
theorem abk {s:au}:dK s []:=fun _ _ h=>(by cases h)
theorem gm (s:au)(d k:Nat)(v:Value):cq ((d,v)::s) k=if d=k then some v else cq s k:=by
 show (bif Nat.beq d k then some v else cq s k)=_;by_cases h:d=k
 ·subst h;simp
 rw [if_neg h]
 have:Nat.beq d k=false:=by cases hb:Nat.beq d k with
  |false=>rfl
  |true=>exact absurd (Xj hb) h
 rw [this];rfl
theorem jB {s t:au}{k:Nat}(h:cq s k=some v)(c:dK s t):dK s ((k,v)::t):=fun j u a=>by
 rw [gm] at a;by_cases e:k=j
 ·subst e;rw [if_pos rfl] at a;rw [h,a]
 rw [if_neg e] at a;exact c j u a
theorem bc {s t:au}{k:Nat}(c:dK s t)(h:cq t k=none):dK ((k,v)::s) t:=fun j u a=>by
 rw [gm];by_cases e:k=j
 ·subst e;rw [h] at a;cases a
 rw [if_neg e];exact c j u a
theorem FX {s t:au}{k:Nat}(a:dK s t)(h:cq t k=some v):cq s k=some v:=a k v h
theorem Fits.eval {s:au}(h:Fits n s a)(c:ao s x=some v):a.eval x=v:=by
 cases x with
 |tmp t=>exact h.at_ t v c
 |const u=>exact Xx c
 |global g=>exact Xx c
 |func f=>exact Xx c
theorem Fits.put {s:au}(h:Fits n s a){d:Nat}(v:Value)(f:d<n):Fits n ((d,v)::s) (a.put (some d) v):=by
 refine ⟨by simp [Act.put,h.size],h.defers,fun k u c=> ?_⟩;rw [gm] at c
 have hd':d<a.tmps.size:=by rw [h.size];exact f
 by_cases e:d=k
 ·subst e;rw [if_pos rfl] at c;simp [Act.put,hd',Xx c]
 rw [if_neg e] at c;have:=h.at_ k u c;simpa [Act.put,V9 e] using this
abbrev jP:=Exit->au->World->Prop
def Fin (n:Nat)(K:jP):Exit->Act->World->Prop:=fun e a w=> ∃s,Fits n s a/\K e s w
def o8 (id:Nat)(K:jP):jP
 | .exit j,s,w=>bif Nat.beq j id then K .normal s w else K (.exit j) s w
 |e,s,w=>K e s w
def Ev (P:Program)(s:au)(C:World->Prop)(o:Oper)(v:Value):Prop:= ∀ρ:Operand->Value,(∀x u,ao s x=some u->ρ x=u)-> ∀w,C w->(execOp ρ o).run P w=.ok (.value v) w
def bu (ops:Array Oper)(s:au)(o:Oper):Option Bool:=
 match o.guard with
 |none=>some true
 | some (j,want)=>
  match (ops[j]?).bind (·.dst) with
  |none=>none
  |some d=>
   match cq s d with
   |some (.bool b)=>some (b==want)
   |some _=>some false
   |none=>none
theorem Rl {s:au}{b:Bool}(u:Fits n s a)(h:bu ops s o=some b):Region.wanted o (yielded ops a.tmps)=b:=by
 unfold bu at h;unfold Region.wanted
 cases m:o.guard with
 |none=>rw [m] at h;simpa using h
 | some p=>
  obtain ⟨j,want⟩:=p;rw [m] at h;simp only at h⊢;unfold yielded
  cases q:(ops[j]?).bind (·.dst) with
  |none=>rw [q] at h;cases h
  | some d=>
   rw [q] at h;simp only at h
   cases l:cq s d with
   |none=>rw [l] at h;cases h
   | some v=>
    rw [l] at h;have i:=u.at_ d v l
    cases v with
    | bool c=>
     simp only [Xy] at h
     have:a.tmps[d]? =some (.bool c):=by
      rcases Xp d a.tmps.size with e|f
      ·simp [e] at i;simp [e,i]
      simp [f,undef] at i
     simp only [Xu,this];rw [<-h];cases c<;>cases want<;>rfl
    |_=>
     have t:some false=some b:=h;have hb:=Xx t;subst hb;simp only [Xu];rcases Xp d a.tmps.size with e|f
     ·simp [e] at i;simp [e,i]
     simp [f]
section
variable {s:au}{w:World}{d:Nat}
def eu (s:au):List Operand->Option V4
 | []=>some []
 |x::r=>match ao s x,eu s r with
  |some v,some l=>some (v::l)
  |_,_=>none
theorem iZ {s:au}(h:∀x u,ao s x=some u->ρ x=u): ∀{l:List Operand} {vs:V4},eu s l=some vs->l.map ρ=vs
 | [],vs,e=>by simp [eu] at e;simp [e]
 | x::r,vs,e=>by
  unfold eu at e
  cases a:ao s x with
  |none=>rw [a] at e;cases e
  | some v=>
   cases hr:eu s r with
   |none=>rw [a,hr] at e;cases e
   |some l=>
    rw [a,hr] at e;simp only [Xy] at e;rw [WW,h x v a,iZ h hr,e]
def oy (P:Program)(f:FuncId):Prop:= ∃F:Func,P.funcs[f]? =some F/\F.body.isNone=false/\(F.name== "runtime.NumGoroutine")=false
theorem EX {d:Option Nat}{vs:V4}(a:oy P f)(c:xs.map ρ=vs)(hρ:ρ (.func f)=.func (.func f) #[] #[]):
  (execOp ρ ⟨d,.call ⟨.value (.func f),xs.toArray,ats⟩,ty,pos,af,gd⟩).run P w=.ok (.enter f vs.toArray) w:=by
 unfold execOp;simp only [resolve,hρ,Deferred.ofValue,WX,c];obtain ⟨F,a,hb,e⟩:=a
 have hn': ¬F.name= "runtime.NumGoroutine" :=by simpa using e
 have hb': ¬F.body=none:=by intro h;rw [h] at hb;cases hb
 simp [invoke,callFunc,a,hb',hn',XB]
end
section
variable {s:au}{d:Option Nat}
theorem ay (h:ao s x=some v):Ev P s C ⟨d,.move x,ty,pos,af,gd⟩ v:=fun ρ hρ w _=>by
 show (Sem.pure (Next.value (ρ x))).run P w=_;rw [hρ x v h];rfl
theorem dQ (h:ao s x=some v):Ev P s C ⟨d,.assign x,ty,pos,af,gd⟩ v:=fun ρ hρ w _=>by
 show (Sem.pure (Next.value (ρ x))).run P w=_;rw [hρ x v h];rfl
theorem Ky {c:Operand}(e:ao s c=some (.bool true))(a:ao s x=some u):Ev P s C ⟨d,.pick c x y,ty,pos,af,gd⟩ u:=fun ρ hρ w _=>by
 unfold execOp;simp only [hρ c _ e,hρ x _ a];rfl
theorem KF {c:Operand}(e:ao s c=some (.bool false))(a:ao s y=some u):Ev P s C ⟨d,.pick c x y,ty,pos,af,gd⟩ u:=fun ρ hρ w _=>by
 unfold execOp;simp only [hρ c _ e,hρ y _ a];rfl
theorem ww {b:Bool}(h:ao s x=some (.bool b)):Ev P s C ⟨d,.unOp .not t x,ty,pos,af,gd⟩ (.bool (!b)):=fun ρ hρ w _=>by
 unfold execOp;simp only [hρ x _ h];rfl
theorem oo {vs:Array Value}(h:ao s x=some (.tuple vs))(hi:vs[i]? =some v):Ev P s C ⟨d,.extract x i,ty,pos,af,gd⟩ v:=fun ρ hρ w _=>by
 unfold execOp;simp only [hρ x _ h,Instr.extract,hi];rfl
theorem cr {a:Addr}(h:ao s x=some (.pointer (some a))):Ev P s C ⟨d,.nilCheck x,ty,pos,af,gd⟩ (.pointer (some a)):=fun ρ hρ w _=>by
 unfold execOp;simp only [hρ x _ h];rfl
theorem dM {b:BinOp}{u:TypeId}{p q:Value}(c:ao s x=some p)(a:ao s y=some q)(hr:∀w,(do eqGuard b t x y p q;binOp b t p q:Sem Value).run P w=.ok v w):Ev P s C ⟨d,.binOp b t x y u,ty,pos,af,gd⟩ v:=fun ρ hρ w _=>by
 unfold execOp;simp only [hρ x _ c,hρ y _ a];have:=hr w;rw [XB,this];rfl
theorem AC {z:Int}(c:-9223372036854775808<=z)(a:z<=9223372036854775807):IntKind.i64.wrap z=z:=IntWalk.i64_in z ⟨by omega,by omega⟩
theorem cY {u:TypeId}{a b:Int}(e:ao s x=some (.int .i64 a))(c:ao s y=some (.int .i64 b))(i:-9223372036854775808<=a+b)(f:a+b<=9223372036854775807):Ev P s C ⟨d,.binOp .add t x y u,ty,pos,af,gd⟩ (.int .i64 (a+b)):=
 dM e c fun w=>(show Result.ok (Value.int .i64 (IntKind.i64.wrap (a+b))) w=_ by rw [AC i f])
theorem ne {u:TypeId}{a b:Int}(e:ao s x=some (.int .i64 a))(c:ao s y=some (.int .i64 b))(i:-9223372036854775808<=a - b)(f:a - b<=9223372036854775807):Ev P s C ⟨d,.binOp .sub t x y u,ty,pos,af,gd⟩ (.int .i64 (a - b)):=
 dM e c fun w=>(show Result.ok (Value.int .i64 (IntKind.i64.wrap (a - b))) w=_ by rw [AC i f])
theorem gq {u:TypeId}{a b:Int}(e:ao s x=some (.int .i64 a))(c:ao s y=some (.int .i64 b))(i:-9223372036854775808<=a*b)(f:a*b<=9223372036854775807):Ev P s C ⟨d,.binOp .mul t x y u,ty,pos,af,gd⟩ (.int .i64 (a*b)):=
 dM e c fun w=>(show Result.ok (Value.int .i64 (IntKind.i64.wrap (a*b))) w=_ by rw [AC i f])
theorem iz {u:TypeId}{a b:Int}(e:ao s x=some (.int .i64 a))(c:ao s y=some (.int .i64 b))(h:b≠0):Ev P s C ⟨d,.binOp .rem t x y u,ty,pos,af,gd⟩ (.int .i64 (a.tmod b)):=
 dM e c fun w=>(by show (Op.intDiv .rem .i64 a b).run P w=_;unfold Op.intDiv;rw [if_neg h];rfl)
theorem mb {u:TypeId}{a b:Int}(e:ao s x=some (.int .i64 a))(c:ao s y=some (.int .i64 b))(h:b≠0)(i:-9223372036854775808<=a.tdiv b)(f:a.tdiv b<=9223372036854775807):Ev P s C ⟨d,.binOp .quo t x y u,ty,pos,af,gd⟩ (.int .i64 (a.tdiv b)):=
 dM e c fun w=>(by show (Op.intDiv .quo .i64 a b).run P w=_;unfold Op.intDiv;rw [if_neg h];show Result.ok (Value.int .i64 (IntKind.i64.wrap (a.tdiv b))) w=_;rw [AC i f])
theorem ac6 {u:TypeId}{a b:Int}(e:ao s x=some (.int k a))(c:ao s y=some (.int k b)):Ev P s C ⟨d,.binOp .lss t x y u,ty,pos,af,gd⟩ (.bool (decide (a<b))):=
 dM e c fun w=>by cases k<;>rfl
theorem ac1 {u:TypeId}{a b:Int}(e:ao s x=some (.int k a))(c:ao s y=some (.int k b)):Ev P s C ⟨d,.binOp .leq t x y u,ty,pos,af,gd⟩ (.bool (decide (a<=b))):=
 dM e c fun w=>by cases k<;>rfl
theorem acU {u:TypeId}{a b:Int}(e:ao s x=some (.int k a))(c:ao s y=some (.int k b)):Ev P s C ⟨d,.binOp .gtr t x y u,ty,pos,af,gd⟩ (.bool (decide (b<a))):=
 dM e c fun w=>by cases k<;>rfl
theorem N7 {u:TypeId}{a b:Int}(e:ao s x=some (.int k a))(c:ao s y=some (.int k b)):Ev P s C ⟨d,.binOp .geq t x y u,ty,pos,af,gd⟩ (.bool (decide (b<=a))):=
 dM e c fun w=>by cases k<;>rfl
theorem N8 {u:TypeId}{a b:Int}(e:ao s x=some (.int k a))(c:ao s y=some (.int k b)):Ev P s C ⟨d,.binOp .eql t x y u,ty,pos,af,gd⟩ (.bool (decide (a=b))):=
 dM e c fun w=>by cases k<;>rfl
theorem N9 {u:TypeId}{a b:Int}(e:ao s x=some (.int k a))(c:ao s y=some (.int k b)):Ev P s C ⟨d,.binOp .neq t x y u,ty,pos,af,gd⟩ (.bool (!decide (a=b))):=
 dM e c fun w=>by cases k<;>rfl
end
def fe:V4->Nat->au
 | [],_=> []
 |v::r,i=>(i,v)::fe r (i+1)
theorem Kh: ∀(l:V4) (i k:Nat) (v:Value),cq (fe l i) k=some v->i<=k/\l[k - i]? =some v
 | [],_,_,_,h=>by cases h
 |u::r,i,k,v,h=>by
  unfold fe at h;rw [gm] at h;by_cases e:i=k
  ·subst e;rw [if_pos rfl] at h;simpa using h
  rw [if_neg e] at h;obtain ⟨c,a⟩:=Kh r (i+1) k v h;refine ⟨by omega,?_⟩;rw [show k - i=(k - (i+1))+1 by omega,WC];exact a
section
variable {s:au}
theorem be (a:g=true)(h:bu ops s o=some (g==true)):bu ops s o=some true:=by rw [h,a];rfl
theorem bY (a:g=false)(h:bu ops s o=some (g==false)):bu ops s o=some true:=by rw [h,a];rfl
theorem eK (a:g=false)(h:bu ops s o=some (g==true)):bu ops s o=some false:=by rw [h,a];rfl
theorem gX (a:g=true)(h:bu ops s o=some (g==false)):bu ops s o=some false:=by rw [h,a];rfl
end
section
variable {s:au}{d:Option Nat}
theorem oh {c:Operand}(e:g=true)(f:ao s c=some (.bool g))(a:ao s x=some u):Ev P s C ⟨d,.pick c x y,ty,pos,af,gd⟩ u:=Ky (e▸f) a
theorem pY {c:Operand}(e:g=false)(f:ao s c=some (.bool g))(a:ao s y=some u):Ev P s C ⟨d,.pick c x y,ty,pos,af,gd⟩ u:=KF (e▸f) a
end
end
section
open Go.RowKit
def CellsAt (w:World)(b o:Nat)(l:V4):Prop:= ∀j u,l[j]? =some u->w.cell? ⟨b,o+j,none⟩=some u
def cz (P:Program)(t:TypeId):Bool:=match P.underlying t with|some (.struct _)|some (.array _ _)|none=>false|_=>true
def ml (P:Program)(t:TypeId)(sz:Nat):Bool:=(match P.underlying t with|some (.struct _)|some (.array _ _)=>true|_=>false)&&(match P.info? t with|some i=>Nat.beq i.size sz|none=>false)
def eI (P:Program)(t:TypeId)(sz:Nat):Bool:=match P.info? t with|some i=>Nat.beq i.size sz|none=>false
theorem np {w:World}{p:World->Prop}(h:p w): ∀w',w'=w->p w':=fun _ e=>e▸h
theorem lP {sz:Nat}(h:eI P t sz=true)(w:World):(sizeOf t).run P w=.ok sz w:=by
 unfold eI at h
 cases hi:P.info? t with
 |none=>rw [hi] at h;cases h
 |some i=>
  rw [hi] at h;have:=Xj h;rw [run_sizeOf w hi];simp [Program.cellsOf,hi,this]
theorem Blk.at {w:World}{b:Nat}(h:Blk w b t cs)(a:cs[j]? =some u):w.cell? ⟨b,j,none⟩=some u:=(h.cells j).trans a
theorem Blk.all {w:World}{b:Nat}{l:V4}(h:Blk w b t l.toArray):CellsAt w b 0 l:=fun j u a=>by
 rw [Xs];exact h.at (by simpa using a)
theorem iH (b o j:Nat):(⟨b,o,none⟩:Addr).add j=⟨b,o+j,none⟩:=by unfold Addr.add;split<;>simp_all
section
variable {s:au}{d:Option Nat}
theorem bW {t f b o o':Nat}(a:ao s x=some (.pointer (some ⟨b,o,none⟩)))(hr:∀b o w,(Instr.fieldAt t (.pointer (some ⟨b,o,none⟩)) f).run P w=.ok (.pointer (some ⟨b,o+o',none⟩)) w):Ev P s C ⟨d,.fieldAddr t x f,ty,pos,af,gd⟩ (.pointer (some ⟨b,o+o',none⟩)):=fun ρ hρ w _=>by
 unfold execOp;simp only [hρ x _ a,XB,hr,XA];rfl
theorem fb {t f b o:Nat}(a:ao s x=some (.pointer (some ⟨b,o,none⟩)))(hr:∀b o w,(Instr.fieldAt t (.pointer (some ⟨b,o,none⟩)) f).run P w=.ok (.pointer (some ⟨b,o,none⟩)) w):Ev P s C ⟨d,.fieldAddr t x f,ty,pos,af,gd⟩ (.pointer (some ⟨b,o,none⟩)):=fun ρ hρ w _=>by
 unfold execOp;simp only [hρ x _ a,XB,hr,XA];rfl
theorem iK {t e sz:Nat}{i:Operand}{b o len:Nat}{k:Int}(f:ao s x=some (.slice (some ⟨b,o,none⟩) len cap))(hi:ao s i=some (.int .i64 k))(a:P.underlying t=some (.slice e))(j:eI P e sz=true)(m:0<=k)(l:k<len):Ev P s C ⟨d,.indexAddr t x i,ty,pos,af,gd⟩ (.pointer (some ⟨b,o+k.toNat*sz,none⟩)):=fun ρ hρ w _=>by
 have c:P.elem t=e:=by unfold Program.elem;rw [a]
 unfold execOp;simp only [hρ x _ f,hρ i _ hi,XB];rw [run_indexAt_slice w t ⟨b,o,none⟩ len cap .i64 k (by rw [a,c]),if_pos ⟨m,l⟩,c,lP j w];simp only [XA,iH];rfl
theorem AZ {a:Addr}(f:ao s x=some (.pointer (some a)))(c:cz P t=true)(i:∀w,C w->w.cell? a=some v):Ev P s C ⟨d,.load t x,ty,pos,af,gd⟩ v:=fun ρ hρ w hw=>by
 have j:(isAgg t).run P w=.ok false w:=by
  unfold cz at c;unfold isAgg
  cases e:P.underlying t with
  |none=>rw [e] at c;cases c
  |some u=>rw [e] at c;rw [XB,XH e];cases u<;>first|rfl|(cases c)
 unfold execOp;simp only [hρ x _ f,Instr.loadAt,Instr.sureAddr,loadVar,XB,XC,XA,j,Wa,if_false,run_load,i w hw]
theorem KW {b o:Nat}{cs:V4}{w:World}(a:ml P t cs.length=true)(e:CellsAt w b o cs):(loadVar t ⟨b,o,none⟩).run P w=.ok (.agg cs.toArray) w:=by
 unfold ml at a;rw [XM] at a
 have l:(isAgg t).run P w=.ok true w:=by
  have a:=a.1;unfold isAgg
  cases c:P.underlying t with
  |none=>rw [c] at a;cases a
  |some u=>rw [c] at a;rw [XB,XH c];cases u<;>first|rfl|(cases a)
 have i:(sizeOf t).run P w=.ok cs.length w:=lP a.2 w
 have f:(loadCells ⟨b,o,none⟩ cs.length).run P w=.ok cs.toArray w:=run_loadCells_list w ⟨b,o,none⟩ cs fun j u d=>by rw [iH];exact e j u d
 simp only [loadVar,XB,XA,l,if_true,i,f];rfl
theorem vX {b o:Nat}{cs:V4}(a:ao s x=some (.pointer (some ⟨b,o,none⟩)))(e:∀w,C w->CellsAt w b o cs)(c:ml P t cs.length=true):Ev P s C ⟨d,.load t x,ty,pos,af,gd⟩ (.agg cs.toArray):=fun ρ hρ w hw=>by
 unfold execOp;simp only [hρ x _ a,Instr.loadAt,Instr.sureAddr,XB,XC,XA,KW c (e w hw)]
theorem kN {b:Builtin}{vs:V4}(a:xs.map ρ=vs)(w:World):
  (execOp ρ ⟨d,.call ⟨.builtin b,xs.toArray,ats⟩,ty,pos,af,gd⟩).run P w=(builtin b ats ty (xs.toArray.map fun| .const _=>true|_=>false) vs.toArray).run P w:=by
 unfold execOp;simp only [resolve,WX,a];rfl
theorem jc {len:Nat}(a:ao s x=some (.slice A len cap))(c:P.underlying t=some (.slice e)):Ev P s C ⟨d,.call ⟨.builtin .len, #[x], #[t]⟩,ty,pos,af,gd⟩ (.int .i64 len):=fun ρ hρ w _=>by
 have:=kN (P:=P) (d:=d) (ty:=ty) (pos:=pos) (af:=af) (gd:=gd) (ρ:=ρ) (b:=.len) (xs:=[x]) (ats:= #[t]) (vs:=[.slice A len cap]) (by simp [hρ x _ a]) w;rw [this];simp [builtin,Builtin.len_,XH c,goInt]
theorem jD {b:ByteArray}(a:ao s x=some (.string b))(c:P.underlying t=some .string):Ev P s C ⟨d,.call ⟨.builtin .len, #[x], #[t]⟩,ty,pos,af,gd⟩ (.int .i64 b.size):=fun ρ hρ w _=>by
 have:=kN (P:=P) (d:=d) (ty:=ty) (pos:=pos) (af:=af) (gd:=gd) (ρ:=ρ) (b:=.len) (xs:=[x]) (ats:= #[t]) (vs:=[.string b]) (by simp [hρ x _ a]) w;rw [this];simp [builtin,Builtin.len_,XH c,goInt]
theorem vV {t f:Nat}(a:ao s x=some (.agg cs))(hr:∀w,(Instr.field t (.agg cs) f).run P w=.ok v w):Ev P s C ⟨d,.field t x f,ty,pos,af,gd⟩ v:=fun ρ hρ w _=>by
 unfold execOp;simp only [hρ x _ a,XB,hr,XA];rfl
theorem gC {u:TypeId}{p:Option Addr}(c:ao s x=some (.pointer p))(a:P.underlying t=some (.pointer e)):Ev P s C ⟨d,.binOp .eql t x (.const (.pointer none)) u,ty,pos,af,gd⟩ (.bool p.isNone):=
 dM c rfl fun w=>by
  rw [XB];show (binOp .eql t (.pointer p) (.pointer none)).run P w=_;rw [run_eql_pointer_nil w t p (by rw [a,show P.pointee t=e by unfold Program.pointee;rw [a]])]
theorem sr {u:TypeId}{p:Option Addr}(c:ao s x=some (.pointer p))(a:P.underlying t=some (.pointer e)):Ev P s C ⟨d,.binOp .neq t x (.const (.pointer none)) u,ty,pos,af,gd⟩ (.bool p.isSome):=
 dM c rfl fun w=>by
  rw [XB];show (binOp .neq t (.pointer p) (.pointer none)).run P w=_;rw [run_neq_pointer_nil w t p (by rw [a,show P.pointee t=e by unfold Program.pointee;rw [a]])];cases p<;>rfl
theorem kh {u:TypeId}{a b:ByteArray}(e:ao s x=some (.string a))(c:ao s y=some (.string b)):Ev P s C ⟨d,.binOp .eql t x y u,ty,pos,af,gd⟩ (.bool (a.toList==b.toList)):=
 dM e c fun w=>by
  rw [XB];show (Op.stringOp .eql a b).run P w=_;rfl
theorem Me {u:TypeId}{a b:ByteArray}(e:ao s x=some (.string a))(c:ao s y=some (.string b)):Ev P s C ⟨d,.binOp .neq t x y u,ty,pos,af,gd⟩ (.bool (!(a.toList==b.toList))):=
 dM e c fun w=>by
  rw [XB];show (Op.stringOp .neq a b).run P w=_;rfl
end
section
variable {s:au}{d:Option Nat}
def jT (s:au):List (Nat×Operand)->Option (List (Nat×Value))
 | []=>some []
 |(i,x)::r=>match ao s x,jT s r with
  |some v,some l=>some ((i,v)::l)
  |_,_=>none
theorem BJ {s:au}(h:∀x u,ao s x=some u->ρ x=u): ∀{l:List (Nat×Operand)} {vs:List (Nat×Value)},jT s l=some vs->l.map (fun (i,x)=>(i,ρ x))=vs
 | [],vs,e=>by simp [jT] at e;simp [e]
 |(i,x)::r,vs,e=>by
  unfold jT at e
  cases a:ao s x with
  |none=>rw [a] at e;cases e
  | some v=>
   cases hr:jT s r with
   |none=>rw [a,hr] at e;cases e
   |some l=>
    rw [a,hr] at e;simp only [Xy] at e;show (i,ρ x)::r.map (fun (i,x)=>(i,ρ x))=vs;rw [h x v a,BJ h hr,e]
theorem iW (a:jT s D=some vs)(hr:∀w,(Instr.build t vs.toArray).run P w=.ok v w):Ev P s C ⟨d,.build t D.toArray,ty,pos,af,gd⟩ v:=fun ρ hρ w _=>by
 unfold execOp;simp only [WX,BJ hρ a,XB,hr,XA];rfl
end
end
section
open Go.RowKit
structure Fr (S:Nat->Prop) (w w':World):Prop where
 os:w'.os=w.os
 tape:w'.tape=w.tape
 output:w'.output=w.output
 size:w.heap.size<=w'.heap.size
 block: ∀q,q<w.heap.size-> ¬S q->w'.heap[q]? =w.heap[q]?
theorem Fr.refl (S:Nat->Prop)(w:World):Fr S w w:=⟨rfl,rfl,rfl,Xm _,fun _ _ _=>rfl⟩
theorem Fr.trans {a b c:World}(h:Fr S a b)(k:Fr S b c):Fr S a c:=
 ⟨k.os.trans h.os,k.tape.trans h.tape,k.output.trans h.output,Xn h.size k.size,fun q e d=>(k.block q (Xo e h.size) d).trans (h.block q e d)⟩
theorem aak (w:World):Ext w w.drew:=(Ext.refl w).drew
section
variable {w:World}
theorem Sy (w:World)(b o:Nat)(v:Value):Fr (· =b) w (w.setCell ⟨b,o,none⟩ v):=
 ⟨rfl,rfl,rfl,by unfold World.setCell;simp,fun q _ a=>Below.heap_setCell w ⟨b,o,none⟩ v q a⟩
end
end
section
open Go.RowKit
def eU {α:Type}:Sem α->Prop
 | .pure _=>True
 | .load _ _ k=> ∀v,eU (k v)
 | .store .. =>False
 | .new _ k=> ∀r,eU (k r)
 | .shape _ k=> ∀s,eU (k s)
 | .freeze .. =>False
 | .frozen _ k=> ∀b,eU (k b)
 | .getObj _ k=> ∀o,eU (k o)
 | .setObj .. =>False
 | .choose _ k=> ∀n,eU (k n)
 | .sys .. =>False
 | .program k=> ∀p,eU (k p)
 | .mark _ k=>eU k
 | .halt _=>True
theorem AF {e:Sem α}{f:α->Sem β}(h:eU e)(i:∀a,eU (f a)):eU (e>>=f):=by
 show eU (Sem.bind e f)
 induction e with
 |pure a=>exact i a
 |load m a k d=>exact fun v=>d v (h v)
 |store m a v k d=>exact h.elim
 |new o k d=>exact fun v=>d v (h v)
 |shape r k d=>exact fun v=>d v (h v)
 |freeze a n k d=>exact h.elim
 |frozen a k d=>exact fun v=>d v (h v)
 |getObj r k d=>exact fun v=>d v (h v)
 |setObj r o k d=>exact h.elim
 |choose q k d=>exact fun v=>d v (h v)
 |sys c k d=>exact h.elim
 |program k d=>exact fun v=>d v (h v)
 |mark m k d=>exact d h
 |halt x=>trivial
theorem Lg {e:Sem α}(h:eU e): ∀{w w':World} {x:α},e.run P w=.ok x w'->Ext w w':=by
 induction e with
 |pure a=>intro w w' x hr;simp only [Sem.run,Result.ok.injEq] at hr;obtain ⟨-,rfl⟩:=hr;exact Ext.refl _
 |load m a k d=>
  intro w w' x hr;simp only [Sem.run] at hr;split at hr
  ·exact d _ (h _) hr
  split at hr
  ·exact d _ (h _) hr
  cases hr
 |store m a v k d=>exact h.elim
 |new o k d=>intro w w' x hr;simp only [Sem.run] at hr;exact ((Ext.refl w).alloc o).trans (d _ (h _) hr)
 |shape r k d=>intro w w' x hr;simp only [Sem.run] at hr;exact d _ (h _) hr
 |freeze a n k d=>exact h.elim
 |frozen a k d=>intro w w' x hr;simp only [Sem.run] at hr;exact d _ (h _) hr
 |getObj r k d=>
  intro w w' x hr;simp only [Sem.run] at hr;split at hr
  ·cases hr
  ·exact d _ (h _) hr
  cases hr
 |setObj r o k d=>exact h.elim
 |choose q k d=>
  intro w w' x hr;simp only [Sem.run] at hr;split at hr
  ·exact d _ (h _) hr
  exact (aak w).trans (d _ (h _) hr)
 |sys c k d=>exact h.elim
 |program k d=>intro w w' x hr;simp only [Sem.run] at hr;exact d _ (h _) hr
 |mark m k d=>intro w w' x hr;simp only [Sem.run] at hr;exact d h hr
 |halt x=>intro w w' x hr;simp only [Sem.run] at hr;cases hr
theorem EA (t:TypeId):eU (typeInfo t):=by
 unfold typeInfo;refine AF (fun _=>trivial) fun p=> ?_
 split<;>trivial
theorem R3 (t:TypeId):eU (sizeOf t):=AF (EA t) fun _=>trivial
theorem Tn (a:Addr):eU (load a):=fun _=>trivial
theorem H9 (a:Addr): ∀(n i:Nat) (acc:Array Value),eU (loadCellsFrom a i n acc)
 |0,_,_=>trivial
 |n+1,i,_=>AF (Tn _) fun _=>H9 a n (i+1) _
theorem TE (t:TypeId):eU (zeroValue t):=by
 unfold zeroValue;refine AF (EA t) fun p=> ?_
 split<;>trivial
section
def YieldsC (P:Program)(ops:Array Oper)(C:World->Prop)(o:Oper)(v:Value)(a:Act):Prop:=
 (Region.wanted o (yielded ops a.tmps)=true/\ ∀w,C w->(execOp a.eval o).run P w=.ok (.value v) w)\/(Region.wanted o (yielded ops a.tmps)=false/\v=undef)
theorem YieldsC.of_same {c:Act}(d:YieldsC P ops C o v a)(e:execOp c.eval o=execOp a.eval o)(hw:Region.wanted o (yielded ops c.tmps)=Region.wanted o (yielded ops a.tmps)):YieldsC P ops C o v c:=by
 unfold YieldsC at*;rw [e,hw];exact d
end
end
section
open Go.RowKit
def GY (h:Nat)(Q:α->Prop)(e:Sem α):Prop:= ∀(P:Program) (w w':World) (a:α),h<=w.heap.size->e.run P w=.ok a w'->Q a/\h<=w'.heap.size
def kX (h:Nat)(Q:α->Prop)(e:Sem α):Prop:= ∀(P:Program) (w w':World) (a:α),h<=w.heap.size->e.run P w=.ok a w'->Q a
theorem SA {e:Sem α}(a:eU e):GY h (fun _=>True) e:=fun _ _ _ _ hw hr=>⟨trivial,Xn hw (Lg a hr).size⟩
theorem wv {e:Sem α}{f:α->Sem β}{w:World}{b:β}(h:(e>>=f).run P w=.ok b w'): ∃a c,e.run P w=.ok a c/\(f a).run P c=.ok b w':=by
 rw [XB] at h
 cases d:e.run P w with
 |ok a c=>rw [d,XA] at h;exact ⟨a,c,J,h⟩
 |halt q c=>rw [d] at h;simp [Result.andThen] at h
theorem JX {d:α->Prop}{Q:β->Prop}{e:Sem α}{f:α->Sem β}(j:GY h d e)(i:∀a,d a->kX h Q (f a)):kX h Q (e>>=f):=fun P w w' b hw hr=>by
 obtain ⟨a,c,o,n⟩:=wv hr;obtain ⟨m,l⟩:=j P w c a hw o;exact i a m P c w' b l n
theorem sd {Q:β->Prop}{e:Sem α}{f:α->Sem β}(d:eU e)(c:∀a,kX h Q (f a)):kX h Q (e>>=f):=JX (SA d) fun a _=>c a
theorem SN {Q:α->Prop}{a:α}(c:Q a):kX h Q (pure a):=fun P w w' b _ hr=>by
 simp only [XC,Result.ok.injEq] at hr;rw [<-hr.1];exact c
theorem Sq {Q:β->Prop}{e:Sem α}{v:β}(d:Q v):kX h Q (e>>=fun _=>pure v):=fun P w w' b _ hr=>by
 obtain ⟨a,f,i,c⟩:=wv hr;simp only [XC,Result.ok.injEq] at c;rw [<-c.1];exact d
theorem Uj {Q:α->Prop}{c:Prop}[Decidable c]{x y:Sem α}(d:kX h Q x)(a:kX h Q y):kX h Q (if c then x else y):=by split<;>assumption
theorem QI (a:Addr)(n:Nat):eU (loadCells a n):=H9 a n 0 #[]
theorem Qv (sz n:Nat)(v:Value):eU (Builtin.firstCells sz n v):=by unfold Builtin.firstCells;split<;>first|exact QI _ _|trivial
def oQ (e:Sem α):Prop:= ∀(P:Program) (w w':World) (a:α),e.run P w≠ .ok a w'
theorem Fb {x:Halt}:oQ (.halt x:Sem α):=fun P w w' a h=>by simp [Sem.run] at h
theorem Fg {e:Sem α}{f:α->Sem β}(d:∀a,oQ (f a)):oQ (e>>=f):=fun P w w' b hr=>by
 obtain ⟨a,c,j,i⟩:=wv hr;exact d a P c w' b i
theorem Tf {c:Prop}[Decidable c]{x y:Sem α}(d:oQ x)(a:oQ y):oQ (if c then x else y):=by split<;>assumption
theorem RT (m:String):oQ (runtimePanic (.error m):Sem α):=Fg fun _=>Fb
theorem JE {Q:β->Prop}{e:Sem α}{f:α->Sem β}(d:oQ e):kX h Q (e>>=f):=fun P w w' b hw hr=>by
 obtain ⟨a,c,i,j⟩:=wv hr;exact absurd i (d P w c a)
theorem Rk (n:Nat):eU (askRoom n):=by unfold askRoom;split<;>trivial
theorem Sn (v:Value):eU (Builtin.lenOf v):=by unfold Builtin.lenOf;split<;>trivial
theorem Rh (h:Nat)(e:TypeId)(cs:Array Value):GY h (fun a=>h<=a.block) (newRow e cs):=fun P w w' a hw hr=>by
 have c:(newRow e cs).run P w=.ok ⟨w.heap.size,0,none⟩ (w.alloc (.cells cs e)):=rfl;rw [c] at hr;simp only [Result.ok.injEq] at hr;obtain ⟨rfl,rfl⟩:=hr;exact ⟨hw,by simp;omega⟩
theorem TR {bb:Nat}{x:Value}{w:World}(c:P.underlying t=some (.slice e))(hr:(Builtin.append_ #[t,t] ty #[.slice (some ⟨bb,0,none⟩) n cap,x]).run P w=.ok v w'):v.ownBlock=some bb\/ ∃q,v.ownBlock=some q/\w.heap.size<=q:=by
 unfold Builtin.append_ at hr;simp only [WM,WD,WC] at hr;rw [XB,XH c,XA] at hr;dsimp only at hr;obtain ⟨sz,d,i,hr⟩:=wv hr;have j:=(Lg (R3 _) i).size;rw [XB,XH c,XA] at hr;dsimp only at hr;rw [XB,XC,XA] at hr;simp only [Wa,if_false,Bool.not_false,if_true,false_or] at hr
 revert hr
 refine fun hr=>(?_:kX w.heap.size (fun v=>v.ownBlock=some bb\/ ∃q,v.ownBlock=some q/\w.heap.size<=q) _) P d w' v j hr
 repeat' first
   |exact Sq (.inl rfl)
   |exact JE (RT _)
   |refine sd (Sn _) fun _=> ?_
   |refine sd (EA _) fun _=> ?_
   |refine sd (TE _) fun _=> ?_
   |refine sd (Rk _) fun _=> ?_
   |refine sd (Qv _ _ _) fun _=> ?_
   |refine sd (e:=choose _) (fun _=>trivial) fun _=> ?_
   |exact JX (Rh _ _ _) fun a f=>SN (.inr ⟨_,rfl,f⟩)
   |exact JE (Fg fun _=>Tf (Fg fun _=>Fb) Fb)
   |refine Uj ?_ ?_
def of (A:Option Addr):Nat:=(A.getD ⟨0,0,none⟩).off
theorem Ai {xs:List α}{x:α}(h:xs[i]? =some x):0<xs.length:=Nat.lt_of_le_of_lt (Xt _) (WH.1 h).1
theorem CellsAt.part {w:World}{b o:Nat}{l:V4}(h:CellsAt w b o l)(i n:Nat):CellsAt w b (o+i) ((l.drop i).take n):=fun j u a=>by
 rw [WL] at a;split at a
 ·rw [WE] at a;rw [Nat.add_assoc];exact h _ _ a
 cases a
section
variable {s:au}{d:Option Nat}
def dk (A:Option Addr)(cap l sz:Nat):Option Addr:=if cap=l then A else A.map (·.add (l*sz))
theorem oz {t e sz:Nat}{hi:Option Operand}{len l:Nat}(f:ao s x=some (.slice A len cap))(i:P.underlying t=some (.slice e))(j:eI P e sz=true)(a:match lo with|none=>l=0|some o=>ao s o=some (.int .i64 (l:Int)))(c:match hi with|none=>h=len|some o=>ao s o=some (.int .i64 (h:Int)))(p:l<=h)(n:h<=cap):
  Ev P s C ⟨d,.slice t x lo hi none,ty,pos,af,gd⟩ (.slice (dk A cap l sz) (h - l) (cap - l)):=fun ρ hρ w _=>by
 have m:(Instr.sliceBounds true len cap (lo.map ρ) (hi.map ρ) none).run P w=.ok (l,h,cap) w:=by
  have b1: ∀code,(Instr.sliceBound (.int .i64 (l:Int)) h code).run P w=.ok l w:=fun code=>by
   have:=run_sliceBound (P:=P) w .i64 (l:Int) h code W W;simpa using this
  have b2: ∀code,(Instr.sliceBound (.int .i64 (h:Int)) cap code).run P w=.ok h w:=fun code=>by
   have:=run_sliceBound (P:=P) w .i64 (h:Int) cap code W W;simpa using this
  cases lo with
  |none=>
   cases hi with
   |none=>simp only at a c;subst a c;simp [Instr.sliceBounds]
   |some y=>simp only at a c;subst a;simp [Instr.sliceBounds,hρ y _ c,b2]
  |some x=>
   cases hi with
   |none=>simp only at a c;subst c;simp [Instr.sliceBounds,hρ x _ a,b1]
   |some y=>simp only at a c;simp [Instr.sliceBounds,hρ x _ a,hρ y _ c,b1,b2]
 unfold execOp;simp only [hρ x _ f,Instr.sliceAt,Instr.slice,XB,XH i,XA,Option.map_none,m,lP j w,XC];rfl
end
section
variable {w:World}
theorem RQ {b o:Nat}{old:Array Value}(h:Blk w b t old):Blk (w.setCell ⟨b,o,none⟩ v) b t (old.setIfInBounds o v):=by
 unfold Blk at h⊢;unfold World.setCell;simp only [Array.getElem?_modify,if_true,h,Xw];rfl
def ow (old:Array Value):Nat->V4->Array Value
 |_,[]=>old
 |o,v::r=>ow (old.setIfInBounds o v) (o+1) r
theorem wh: ∀(cs:V4) (old:Array Value) (o:Nat),(ow old o cs).size=old.size
 | [],_,_=>rfl
 |v::r,old,o=>by show (ow (old.setIfInBounds o v) (o+1) r).size=_;rw [wh r];simp
theorem NN: ∀(cs:V4) (old:Array Value) (o j:Nat),o+cs.length<=old.size->(ow old o cs)[j]? =if o<=j/\j<o+cs.length then cs[j - o]? else old[j]?
 | [],old,o,j,_=>by rw [if_neg (by simp)];rfl
 | v::r,old,o,j,h=>by
  simp only [WP] at h;show (ow (old.setIfInBounds o v) (o+1) r)[j]? =_;rw [NN r _ _ _ (by simp;omega)];by_cases e:j=o
  ·subst e;rw [if_neg W,if_pos (by simp)];simp [show j<old.size by omega]
  simp only [WP];by_cases a:o+1<=j/\j<o+1+r.length
  ·rw [if_pos a,if_pos W,show j - o=(j - (o+1))+1 by omega,WC]
  rw [if_neg a,if_neg W,V9 W]
theorem rh: ∀(cs:V4) (w:World) (b o i:Nat) (old:Array Value),Blk w b t old->o+i+cs.length<=old.size->cs.all (·.oneCell')=true->
  ∃w',(storeCells ⟨b,o,none⟩ cs i).run P w=.ok () w'/\Fr (· =b) w w'/\Blk w' b t (ow old (o+i) cs)
 | [],w,b,o,i,old,hb,_,_=>⟨w,by unfold storeCells;rfl,Fr.refl _ _,hb⟩
 | v::r,w,b,o,i,old,hb,e,d=>by
  simp only [List.all_cons,XM] at d;simp only [WP] at e
  have c:o+i<old.size:=by omega
  have a:(store (⟨b,o+i,none⟩:Addr) v).run P w=.ok () (w.setCell ⟨b,o+i,none⟩ v):=by
   rw [run_store P w _ _ _ d.1];simp [hb.cells (o+i),hb.free (o+i),c]
  obtain ⟨w',l,j,f⟩:=rh r (w.setCell ⟨b,o+i,none⟩ v) b o (i+1) (old.setIfInBounds (o+i) v) (RQ hb) (by simp;omega) d.2;refine ⟨w',?_,(Sy w b (o+i) v).trans j,f⟩;unfold storeCells;simp only [iH,XB,a,XA,l]
end
end
section
open Go.RowKit
structure KeyOk (P:Program) (kt:TypeId) {α:Type} [DecidableEq α] (ek:α->Value):Prop where
 und: ∃d,P.underlying kt=some d/\ ∀a b,Instr.sameNow d (ek a) (ek b)=none\/Instr.sameNow d (ek a) (ek b)=some (decide (a=b))
 eq: ∀a b w,(Op.equal kt (ek a) (ek b)).run P w=.ok (decide (a=b)) w
 check: ∀e a w,(Instr.checkKey e 10000 kt (ek a)).run P w=.ok () w
 bits: ∀a,Instr.sameBits 10000 (ek a) (ek a)=true
def Mp (w:World)(m:Nat)(ek:α->Value)(ev:β->Value)(L:List (α×β)):Prop:=
 ∃c clk,w.heap[m]? =some (.map c clk)/\c.toList.map (fun e=>(e.key,e.val))=L.map (fun p=>(ek p.1,ev p.2))/\c.toList.Pairwise (fun a b=>a.born<b.born)/\ ∀e∈c.toList,e.born<clk
theorem Mp.lt {ek:α->Value}{ev:β->Value}{w:World}{L:List (α×β)}(h:Mp w m ek ev L):m<w.heap.size:=by
 obtain ⟨f,clk,d,e⟩:=h;rcases Xp m w.heap.size with a|c
 ·exact a
 rw [V8 c] at d;cases d
def lk [DecidableEq α](L:List (α×β))(a:α):Option β:=(L.find? fun p=>p.1=a).map (·.2)
def fp {α β:Type}[DecidableEq α](a:α):List (α×β)->Nat->Option (Nat×β)
 | [],_=>none
 |(k,b)::r,i=>if a=k then some (i,b) else fp a r (i+1)
def dp [DecidableEq α](L:List (α×β))(a:α)(b:β):List (α×β):=match fp a L 0 with
 |some (i,_)=>L.set i (a,b)
 |none=>L++ [(a,b)]
theorem Ct [DecidableEq α](a:α): ∀(L:List (α×β)) (i:Nat),(fp a L i).map (·.2)=lk L a
 | [],_=>rfl
 |(k,b)::r,i=>by
  unfold fp lk;by_cases h:a=k
  ·simp [h]
  have c: ¬k=a:=fun e=>h e.symm
  rw [if_neg h,Ct a r,List.find?_cons];simp [c,lk]
theorem Cq [DecidableEq α](a:α): ∀(L:List (α×β)) (i j:Nat) (b:β),fp a L i=some (j,b)->i<=j/\L[j - i]? =some (a,b)
 | [],_,_,_,h=>by cases h
 |(k,c)::r,i,j,b,h=>by
  unfold fp at h;by_cases e:a=k
  ·rw [if_pos e] at h;cases h;simp [e]
  rw [if_neg e] at h;obtain ⟨f,d⟩:=Cq a r (i+1) j b h;refine ⟨by omega,?_⟩;rw [show j - i=(j - (i+1))+1 by omega,WC];exact d
theorem abn [DecidableEq α](a:α)(L:List (α×β)):fp a L 0=none↔ ∀p∈L,p.1≠a:=by
 have h:=Ct a L 0;constructor
 ·intro e p c i;rw [e] at h;have:lk L a=none:=h.symm;unfold lk at this;rw [Option.map_eq_none_iff,List.find?_eq_none] at this;exact this p c (by simpa using i)
 intro d
 cases f:fp a L 0 with
 |none=>rfl
 |some x=>
  obtain ⟨j,b⟩:=x;obtain ⟨-,l⟩:=Cq a L 0 j b f;exact absurd J (d _ (W4 l))
section
variable [DecidableEq α]{ek:α->Value}{ev:β->Value}
theorem Ju (d:TypeDesc)(a:α)(j:∀a b,Instr.sameNow d (ek a) (ek b)=none\/Instr.sameNow d (ek a) (ek b)=some (decide (a=b))): ∀(c:List MapEntry) (L:List (α×β)) (i:Nat),c.map (fun e=>(e.key,e.val))=L.map (fun p=>(ek p.1,ev p.2))->
  Instr.findNow d (ek a) c i=none\/Instr.findNow d (ek a) c i=some ((fp a L i).map fun p=>(p.1,ev p.2))
 | [],[],i,_=> .inr rfl
 | [],_::_,_,h=>by simp at h
 |_::_,[],_,h=>by simp at h
 |e::c,(k,b)::L,i,h=>by
  simp only [WW,Wl,Prod.mk.injEq] at h;obtain ⟨⟨n,m⟩,l⟩:=h;unfold Instr.findNow fp;rw [n];rcases j a k with f|f
  ·rw [f];exact .inl J
  rw [f];by_cases e:a=k
  ·simp [e,m]
  simp only [e,decide_false,if_false];exact Ju d a j c L (i+1) l
theorem IV (a:α)(c:∀a b w,(Op.equal kt (ek a) (ek b)).run P w=.ok (decide (a=b)) w)(w:World): ∀(d:List MapEntry) (L:List (α×β)) (i:Nat),d.map (fun e=>(e.key,e.val))=L.map (fun p=>(ek p.1,ev p.2))->
  (Instr.findAsking kt (ek a) d i).run P w=.ok ((fp a L i).map fun p=>(p.1,ev p.2)) w
 | [],[],i,_=>by unfold Instr.findAsking;rfl
 | [],_::_,_,h=>by simp at h
 |_::_,[],_,h=>by simp at h
 |e::d,(k,b)::L,i,h=>by
  simp only [WW,Wl,Prod.mk.injEq] at h;obtain ⟨⟨l,j⟩,f⟩:=h;unfold Instr.findAsking fp;rw [l,XB,c,XA];by_cases e:a=k
  ·simp [e,j]
  simp only [e,decide_false,Wa,if_false];exact IV a c w d L (i+1) f
theorem rX (i:KeyOk P kt ek)(a:α)(w:World)(c:List MapEntry)(L:List (α×β))(h:c.map (fun e=>(e.key,e.val))=L.map (fun p=>(ek p.1,ev p.2))):
  (Instr.findKey kt (ek a) c).run P w=.ok ((fp a L 0).map fun p=>(p.1,ev p.2)) w:=by
 obtain ⟨d,l,j⟩:=i.und;unfold Instr.findKey;rw [XB,XH l,XA];rcases Ju (ev:=ev) d a j c L 0 h with f|f
 ·rw [f];exact IV a i.eq w c L 0 h
 rw [f];rfl
theorem SJ {s:au}{d:Option Nat}{et:TypeId}{a:α}{L:List (α×β)}(j:ao s x=some (.map (some m)))(i:ao s y=some (ek a))(l:P.underlying t=some (.map kt et))(c:KeyOk P kt ek)(f:∀w,(zeroValue et).run P w=.ok z w)(hm:∀w,C w->Mp w m ek ev L):
  Ev P s C ⟨d,.lookup t x y true,ty,pos,af,gd⟩ (.tuple #[match lk L a with|some b=>ev b|none=>z,.bool (lk L a).isSome]):=fun ρ hρ w hw=>by
 obtain ⟨e,clk,q,o, -⟩:=hm w hw
 have n:(getObj m).run P w=.ok (.map e clk) w:=by simp [getObj,Sem.run,q]
 unfold execOp;simp only [hρ x _ j,hρ y _ i,Instr.lookup,XB,XH l,XA,n,XC,c.check,rX c a w e.toList L o, <-Ct a L 0]
 cases u:fp a L 0 with
 |none=>simp [f]
 |some p=>simp
theorem SB {s:au}{d:Option Nat}{et:TypeId}{a:α}{L:List (α×β)}(j:ao s x=some (.map (some m)))(i:ao s y=some (ek a))(l:P.underlying t=some (.map kt et))(c:KeyOk P kt ek)(f:∀w,(zeroValue et).run P w=.ok z w)(hm:∀w,C w->Mp w m ek ev L):
  Ev P s C ⟨d,.lookup t x y false,ty,pos,af,gd⟩ (match lk L a with|some b=>ev b|none=>z):=fun ρ hρ w hw=>by
 obtain ⟨e,clk,q,o, -⟩:=hm w hw
 have n:(getObj m).run P w=.ok (.map e clk) w:=by simp [getObj,Sem.run,q]
 unfold execOp;simp only [hρ x _ j,hρ y _ i,Instr.lookup,XB,XH l,XA,n,XC,c.check,rX c a w e.toList L o, <-Ct a L 0]
 cases u:fp a L 0 with
 |none=>simp [f]
 |some p=>simp
theorem Ti (w:World)(m:Nat)(o:Obj):Fr (· =m) w {w with heap:=w.heap.setIfInBounds m o}:=
 ⟨rfl,rfl,rfl,by simp,fun q _ a=>by simp [V9 (Ne.symm a)]⟩
end
end
section
open Go.RowKit
theorem Td {en:α->V4}(x:α){z:Array Value}(e:z=(en x).toArray)(n:Nat)(f:0<(en x).length):madeCells z (n*(en x).length)=((List.replicate n x).flatMap en).toArray:=by
 subst e;apply Array.ext_getElem?;intro j
 have hlen:((List.replicate n x).flatMap en).length=n*(en x).length:=by
  have: ∀n,((List.replicate n x).flatMap en).length=n*(en x).length:=fun n=>by
   induction n with
   |zero=>simp
   |succ n c=>rw [List.replicate_succ,Wy,XI,c,Xi];omega
  exact this n
 rcases Xp j (n*(en x).length) with a|a
 ·have hm:j%(en x).length<(en x).length:=Nat.mod_lt _ f
  have key: ∀n j,j<n*(en x).length->((List.replicate n x).flatMap en)[j]? =(en x)[j%(en x).length]? :=by
   intro n
   induction n with
   |zero=>intro j a;simp at a
   |succ n c=>
    intro j a;rw [List.replicate_succ,Wy];rcases Xp j (en x).length with h|h
    ·rw [WA h,Nat.mod_eq_of_lt h]
    rw [WB h,c _ (by rw [Xi] at a;omega), <-Nat.mod_eq_sub_mod h]
  have d:=key n j a;rw [WF hm] at d;simp only [madeCells,Array.getElem?_map,Array.getElem?_range,a];simp [hm,d]
 rw [V8 (by simp [madeCells];omega),V8 (by simp only [List.size_toArray];omega)]
def Own (a w:World)(t:TypeId)(sz:Nat)(en:α->V4)(v:Value)(xs:List α):Prop:=w.ownsRow a.heap.size t sz v xs.length (xs.flatMap en)
def iB (P:Program)(e:TypeId)(sz by_:Nat):Bool:=match P.info? e with
 |some i=>Nat.beq i.size sz&&Nat.beq i.bytes by_&&(match i.zero with|some z=>Nat.beq z.cells.size sz|none=>false)&&Nat.blt 0 sz
 |none=>false
end
section
open Go.RowKit
structure Agr (X:Nat->Prop) (w w':World):Prop where
 os:w'.os=w.os
 tape:w'.tape=w.tape
 output:w'.output=w.output
 size:w.heap.size<=w'.heap.size
 block: ∀q,q<w.heap.size->X q->w'.heap[q]? =w.heap[q]?
theorem Agr.refl (X:Nat->Prop)(w:World):Agr X w w:=⟨rfl,rfl,rfl,Xm _,fun _ _ _=>rfl⟩
theorem Agr.mono {X a:Nat->Prop}{w:World}(h:Agr X w w')(d:∀q,a q->X q):Agr a w w':=⟨h.os,h.tape,h.output,h.size,fun q e c=>h.block q e (d q c)⟩
theorem Agr.trans {X:Nat->Prop}{a b c:World}(h:Agr X a b)(k:Agr X b c):Agr X a c:=
 ⟨k.os.trans h.os,k.tape.trans h.tape,k.output.trans h.output,Xn h.size k.size,fun q e d=>(k.block q (Xo e h.size) d).trans (h.block q e d)⟩
theorem Agr.of_ext {X:Nat->Prop}{a b:World}(h:Ext a b):Agr X a b:=⟨h.os,h.tape,h.output,h.size,fun q c _=>h.block q c⟩
theorem Agr.of_fr {X:Nat->Prop}{a b:World}(h:Fr S a b)(d:∀q,X q-> ¬S q):Agr X a b:=⟨h.os,h.tape,h.output,h.size,fun q e c=>h.block q e (d q c)⟩
theorem Agr.cell {X:Nat->Prop}{w:World}(k:Agr X w w'){b:Nat}(hb:X b)(a:b<w.heap.size)(o:Nat):w'.cell? ⟨b,o,none⟩=w.cell? ⟨b,o,none⟩:=World.cell?_of_block (k.block b a hb)
theorem CellsAt.agr {X:Nat->Prop}{w:World}{b o:Nat}{l:V4}(h:CellsAt w b o l)(k:Agr X w w')(hb:X b)(a:b<w.heap.size):CellsAt w' b o l:=fun j u c=>(k.cell hb a _).trans (h j u c)
theorem Blk.agr {X:Nat->Prop}{w:World}{b:Nat}(h:Blk w b t cs)(k:Agr X w w')(hb:X b):Blk w' b t cs:=(k.block b h.lt hb).trans h
structure Chunk where
 ok:(Nat->Prop)->(Nat->Prop)->World->Prop
 loc: ∀{T S:Nat->Prop} {w w':World},Agr (fun q=>T q\/S q) w w'->ok T S w->ok T S w'
 mono: ∀{T S S':Nat->Prop} {w:World},(∀q,S q->S' q)->ok T S w->ok T S' w
 ro:Bool
 dup:ro=true-> ∀{T S:Nat->Prop} {w:World},ok T S w->ok (fun _=>False) S w
abbrev V3:=List Chunk
structure SepT (L:V3) (T:Nat->Nat->Prop) (S:Nat->Prop) (w:World):Prop where
 ok: ∀{i:Nat} {c:Chunk},L[i]? =some c->c.ok (T i) S w
 apart: ∀{i j q},i≠j->T i q->T j q->False
 ro: ∀{i q},T i q->S q->False
 lt: ∀{i q},T i q->q<w.heap.size
 lts: ∀{q},S q->q<w.heap.size
def SepL (L:V3)(w:World):Prop:= ∃T S,SepT L T S w
theorem SepL.get {L:V3}{w:World}(h:SepL L w){c:Chunk}(hi:L[i]? =some c): ∃T S,c.ok T S w:=by
 obtain ⟨T,S,h⟩:=h;exact ⟨_,_,h.ok hi⟩
theorem SepL.same {L:V3}{w:World}(h:SepL L w)(a:Agr (fun _=>True) w w'):SepL L w':=by
 obtain ⟨T,S,h⟩:=h;exact ⟨T,S,fun hi=>Chunk.loc _ (a.mono fun _ _=>trivial) (h.ok hi),h.apart,h.ro,fun c=>Xo (h.lt c) a.size,fun c=>Xo (h.lts c) a.size⟩
theorem SepL.new {L:V3}{w:World}(h:SepL L w)(l:Agr (fun _=>True) w w'){c:Chunk}(n:∀p S,SepT L p S w-> ∃T,(∀q,T q->w.heap.size<=q/\q<w'.heap.size)/\c.ok T S w'):SepL (c::L) w':=by
 obtain ⟨T,S,h⟩:=h;obtain ⟨Tc,f,o⟩:=n T S h;refine ⟨fun i=>match i with|0=>Tc|i+1=>T i,S,?_,?_,?_,?_,fun a=>Xo (h.lts a) l.size⟩
 ·intro i d hi
  cases i with
  |zero=>simp only [WD,Xy] at hi;subst hi;exact o
  |succ i=>simp only [WC] at hi;exact d.loc (l.mono fun _ _=>trivial) (h.ok hi)
 ·intro i j q m a e
  cases i with
  |zero=>cases j with
   |zero=>exact m rfl
   |succ j=>have:=(f q a).1;have:=h.lt e;omega
  |succ i=>cases j with
   |zero=>have:=(f q e).1;have:=h.lt a;omega
   |succ j=>exact h.apart W a e
 ·intro i q a e
  cases i with
  |zero=>have:=(f q a).1;have:=h.lts e;omega
  |succ i=>exact h.ro a e
 intro i q a
 cases i with
 |zero=>exact (f q a).2
 |succ i=>exact Xo (h.lt a) l.size
theorem SepL.fact {L:V3}{w:World}(h:SepL L w){c d:Chunk}(hi:L[i]? =some c)(n:∀T S,c.ok T S w->d.ok (fun _=>False) S w):SepL (d::L) w:=by
 obtain ⟨T,S,h⟩:=h;refine ⟨fun i=>match i with|0=>fun _=>False|i+1=>T i,S,?_,?_,?_,?_,h.lts⟩
 ·intro j e f
  cases j with
  |zero=>simp only [WD,Xy] at f;subst f;exact n _ _ (h.ok hi)
  |succ j=>simp only [WC] at f;exact h.ok f
 ·intro i j q m a l
  cases i with
  |zero=>exact a
  |succ i=>cases j with
   |zero=>exact l
   |succ j=>exact h.apart W a l
 ·intro i q a l
  cases i with
  |zero=>exact a
  |succ i=>exact h.ro a l
 intro i q a
 cases i with
 |zero=>exact a.elim
 |succ i=>exact h.lt a
theorem SepL.dup {L:V3}{w:World}(h:SepL L w){c:Chunk}(hi:L[i]? =some c)(a:c.ro=true):SepL (c::L) w:=h.fact hi fun _ _ d=>c.dup a d
theorem SepL.fact0 {L:V3}{w:World}(h:SepL L w){d:Chunk}(a:∀S,d.ok (fun _=>False) S w):SepL (d::L) w:=
 h.new (Agr.refl _ _) fun _ S _=>⟨fun _=>False,fun _ h=>h.elim,a S⟩
theorem SepT.upd {L:V3}{w:World}(h:SepT L T S w){c d:Chunk}(hi:L[i]? =some c)(p:Agr (fun q=> ¬T i q) w w'){T':Nat->Prop}(z:∀q,T' q->T i q\/w.heap.size<=q)(B:∀q,T' q->q<w'.heap.size)(A:d.ok T' S w'):SepL (L.set i d) w':=by
 have u:i<L.length:=(WH.1 hi).1;refine ⟨fun j=>if j=i then T' else T j,S,?_,?_,?_,?_,fun a=>Xo (h.lts a) p.size⟩
 ·intro j e n;by_cases l:j=i
  ·subst l;rw [WK u] at n;cases n;simpa using A
  rw [WJ W] at n;simp only [l,if_false];refine e.loc (p.mono ?_) (h.ok n);rintro q (a|a)
  ·exact fun f=>h.apart l a f
  exact fun f=>h.ro f a
 ·intro j k q t a f;by_cases l:j=i<;>by_cases o:k=i
  ·omega
  ·simp only [l,o,if_true,if_false] at a f;rcases z q a with m|m
   ·exact h.apart (fun e=>o e.symm) m f
   have:=h.lt f;omega
  ·simp only [l,o,if_true,if_false] at a f;rcases z q f with m|m
   ·exact h.apart l a m
   have:=h.lt a;omega
  simp only [l,o,if_false] at a f;exact h.apart t a f
 ·intro j q a f;by_cases l:j=i
  ·simp only [l,if_true] at a;rcases z q a with m|m
   ·exact h.ro m f
   have:=h.lts f;omega
  simp only [l,if_false] at a;exact h.ro a f
 intro j q a;by_cases l:j=i
 ·simp only [l,if_true] at a;exact B q a
 simp only [l,if_false] at a;exact Xo (h.lt a) p.size
theorem SepL.upd {L:V3}{w:World}(h:SepL L w){c d:Chunk}(hi:L[i]? =some c)(e:∀T S,c.ok T S w->(∀q,T q->q<w.heap.size)->(∀q,S q->q<w.heap.size)->(∀q,T q->S q->False)->Agr (fun q=> ¬T q) w w'/\ ∃T',(∀q,T' q->T q\/w.heap.size<=q)/\(∀q,T' q->q<w'.heap.size)/\d.ok T' S w'):SepL (L.set i d) w':=by
 obtain ⟨T,S,h⟩:=h;obtain ⟨a,T',l,j,f⟩:=e _ _ (h.ok hi) (fun _=>h.lt) (fun _=>h.lts) (fun _=>h.ro);exact h.upd hi a l j f
theorem SepL.frz {L:V3}{w:World}(h:SepL L w){c d:Chunk}(hi:L[i]? =some c)(t:∀T S,c.ok T S w->d.ok (fun _=>False) (fun q=>S q\/T q) w):SepL (L.set i d) w:=by
 obtain ⟨T,S,h⟩:=h;have o:i<L.length:=(WH.1 hi).1;refine ⟨fun j=>if j=i then fun _=>False else T j,fun q=>S q\/T i q,?_,?_,?_,?_,?_⟩
 ·intro j e m;by_cases f:j=i
  ·subst f;rw [WK o] at m;cases m;simpa using t _ _ (h.ok hi)
  rw [WJ W] at m;simp only [f,if_false];exact e.mono (fun _=> .inl) (h.ok m)
 ·intro j k q n a l;by_cases f:j=i
  ·simp only [f,if_true] at a
  by_cases p:k=i
  ·simp only [p,if_true] at l
  simp only [f,p,if_false] at a l;exact h.apart n a l
 ·intro j q a l;by_cases f:j=i
  ·simp only [f,if_true] at a
  simp only [f,if_false] at a;rcases l with l|l
  ·exact h.ro a l
  exact h.apart f a l
 ·intro j q a;by_cases f:j=i
  ·simp only [f,if_true] at a
  simp only [f,if_false] at a;exact h.lt a
 rintro q (a|a)
 ·exact h.lts a
 exact h.lt a
theorem SepL.weak {L:V3}{w:World}(h:SepL L w){c d:Chunk}(hi:L[i]? =some c)(a:∀T S,c.ok T S w->d.ok T S w):SepL (L.set i d) w:=
 h.upd hi fun T S f e _ _=>⟨Agr.refl _ _,T,fun _=> .inl,e,a _ _ f⟩
def ln (ix:List Nat)(k:Nat)(L:V3):V3:=ix.filterMap (fun i=>L[i]?)++L.drop k
def nr (ix:List Nat)(k:Nat):Bool:=ix.all (fun i=>Nat.blt i k)&&decide ix.Nodup
theorem SepT.pick {L L':V3}{w:World}(h:SepT L T S w)(f:Nat->Nat)(o:∀(j:Nat) (c:Chunk),L'[j]? =some c->L[f j]? =some c)(hi:∀i j,i<L'.length->j<L'.length->f i=f j->i=j):SepT L' (fun j q=>j<L'.length/\T (f j) q) S w:=by
 refine ⟨fun n=> ?_,?_,fun a m=>h.ro a.2 m,fun a=>h.lt a.2,h.lts⟩
 ·rename_i j c
  have d:=(WH.1 n).1
  have:(fun q=>j<L'.length/\T (f j) q)=T (f j):=by funext q;simp [d]
  rw [this];exact h.ok (o _ _ n)
 rintro i j q l ⟨a,m⟩ ⟨t,p⟩;exact h.apart (fun e=>l (hi i j a t e)) m p
theorem SepL.pick {L L':V3}{w:World}(h:SepL L w)(f:Nat->Nat)(a:∀(j:Nat) (c:Chunk),L'[j]? =some c->L[f j]? =some c)(hi:∀i j,i<L'.length->j<L'.length->f i=f j->i=j):SepL L' w:=by
 obtain ⟨T,S,h⟩:=h;exact ⟨_,S,h.pick f a hi⟩
theorem Ji {L:V3}: ∀(ix:List Nat),(∀i∈ix,i<L.length)->(ix.filterMap (fun i=>L[i]?)).length=ix.length/\ ∀(j:Nat) (c:Chunk),(ix.filterMap (fun i=>L[i]?))[j]? =some c-> ∃i:Nat,ix[j]? =some i/\L[i]? =some c
 | [],_=>⟨rfl,fun j c h=>by simp at h⟩
 |i::r,h=>by
  have hi:i<L.length:=h i (by simp)
  obtain ⟨m,l⟩:=Ji r fun k d=>h k (by simp [d])
  rw [List.filterMap_cons_some (b:=L[i]) (by simp [hi])];refine ⟨by simp [m],fun j c a=> ?_⟩
  cases j with
  |zero=>simp only [WD,Xy] at a;exact ⟨i,J,by simp [hi,a]⟩
  |succ j=>simp only [WC] at a;obtain ⟨k,f,e⟩:=l j c a;exact ⟨k,by simpa using f,e⟩
theorem SepT.sel {L:V3}{w:World}(h:SepT L T S w)(ix:List Nat)(k:Nat)(o:nr ix k=true)(t:Nat.ble k L.length=true): ∃T',SepT (ln ix k L) T' S w:=by
 unfold nr at o;simp only [XM,Wi,XE] at o;obtain ⟨A,z⟩:=o
 have l: ∀i∈ix,i<k:=fun i hi=>by have q:i+1<=k:=Xl (A i hi);omega
 have hl':=Xl t
 obtain ⟨q,u⟩:=Ji (L:=L) ix fun i hi=>by have:=l i hi;omega
 refine ⟨_,h.pick (fun j=>if j<ix.length then ix.getD j 0 else j - ix.length+k) ?_ ?_⟩
 ·intro j c m;unfold ln at m;by_cases f:j<ix.length
  ·rw [WA W] at m;obtain ⟨i,a,d⟩:=u j c m;simp [f];simp [f] at a;rw [a];exact d
  rw [WB W,WE,q] at m;simp only [f,if_false];rw [Nat.add_comm];exact m
 intro i j _ _ e;by_cases a:i<ix.length<;>by_cases d:j<ix.length
 ·simp only [a,d,if_true] at e;simp [a,d] at e;have p:=Xb.1 z;rcases Nat.lt_trichotomy i j with n|n|n
  ·exact absurd e (p i j a d n)
  ·exact n
  exact absurd e.symm (p j i d a n)
 ·simp only [a,d,if_true,if_false] at e
  have:ix.getD i 0<k:=by simp [a];exact l _ (XO a)
  omega
 ·simp only [a,d,if_true,if_false] at e
  have:ix.getD j 0<k:=by simp [d];exact l _ (XO d)
  omega
 simp only [a,d,if_false] at e;omega
theorem SepL.sel {L:V3}{w:World}(h:SepL L w)(ix:List Nat)(k:Nat)(c:nr ix k=true)(a:Nat.ble k L.length=true):SepL (ln ix k L) w:=by
 obtain ⟨T,S,h⟩:=h;obtain ⟨T',d⟩:=h.sel ix k c a;exact ⟨T',S,d⟩
theorem bM {L Z:V3}{c:Chunk}(h:L[i]? =some c):(L++Z)[i]? =some c:=by
 rw [WA (WH.1 h).1];exact h
theorem gI {L:V3}(Z:V3){c:Chunk}(h:L[i]? =some c)(d:Chunk):(L++Z).set i d=L.set i d++Z:=List.set_append_left _ _ (WH.1 h).1
def Sp (Z L:V3)(w:World):Prop:=SepL (L++Z) w
def Cv (L' L:V3):Prop:= ∀Z w,Sp Z L' w->Sp Z L w
theorem ah (L:V3):Cv L L:=fun _ _ h=>h
theorem Cv.trans {A B C:V3}(h:Cv A B)(k:Cv B C):Cv A C:=fun Z w x=>k Z w (h Z w x)
theorem ql {L:V3}(ix:List Nat)(k:Nat)(a:nr ix k=true)(l:Nat.ble k L.length=true):Cv L (ln ix k L):=fun Z w h=>by
 have hl':k<=L.length:=Xl l;have d:=SepL.sel h ix k a (by simp;omega)
 have e:ln ix k (L++Z)=ln ix k L++Z:=by
  unfold ln;rw [List.drop_append_of_le_length hl',VT]
  congr 1
  unfold nr at a;simp only [XM,Wi] at a;have c:=a.1;clear d a
  induction ix with
  |nil=>rfl
  |cons i r f=>
   have o:i+1<=k:=Xl (c i (by simp))
   have n:=f fun j m=>c j (by simp [m])
   simp only [List.filterMap_cons,WA (show i<L.length by omega),n]
 unfold Sp;rw [<-e];exact d
structure Cx where
 P:Program
 n:Nat
 r:Option Nat
def eO (r:Option Nat):Fence:={Fence.wide with round:=r}
def kZ (D:Nat):Deferred:={target:=.collected D,args:= #[]}
def cO (D:Nat):Chunk where
 ok T S w:=T D/\w.heap[D]? =some (.deferred (some []))
 loc:=fun {T S w w'} h ⟨d,c⟩=>⟨d,(h.block D (by rcases Xp D w.heap.size with a|a;exact a;rw [V8 a] at c;cases c) (.inl d)).trans c⟩
 mono:=fun _ h=>h
 ro:=false
 dup:=fun h=>Bool.noConfusion h
structure Fx (X:Cx) (s:au) (a:Act):Prop where
 size:a.tmps.size=X.n
 at_: ∀k v,cq s k=some v->a.tmps.getD k undef=v
theorem Fx.sub {X:Cx}{s t:au}(h:Fx X s a)(c:dK s t):Fx X t a:=⟨h.size,fun k v d=>h.at_ k v (FX c d)⟩
theorem Fx.fits {X:Cx}{s:au}(h:Fx X s a):Fits X.n s {a with defers:=[]}:=⟨h.size,rfl,h.at_⟩
theorem Fx.eval {X:Cx}{s:au}(h:Fx X s a)(c:ao s x=some v):a.eval x=v:=h.fits.eval c
theorem Fx.put {X:Cx}{s:au}(h:Fx X s a){d:Nat}(v:Value)(e:d<X.n):Fx X ((d,v)::s) (a.put (some d) v):=
 have c:=h.fits.put v e
 ⟨c.size,c.at_⟩
abbrev K3:=Exit->au->V3->Prop
def iD (X:Cx)(H:V3)(K:K3):Exit->Act->World->Prop:=fun e a w=> ∃(s:au) (L:V3) (c:List Nat),Fx X s a/\a.defers=c.map kZ/\Sp (c.map cO++H) L w/\K e s L
def Wq (X:Cx)(c:Code)(K:K3)(s:au)(L:V3):Prop:= ∀(H:V3) (d:List Nat) (a:Act) (w:World),Fx X s a->a.defers=d.map kZ->Sp (d.map cO++H) L w->c.wpIn (eO X.r) 0 X.P (iD X H K) a w
def nx (N:au->V3->Prop)(K:K3):K3
 | .normal,s,w=>N s w
 |e,s,w=>K e s w
def bk (id:Nat)(K:K3):K3
 | .exit j,s,w=>bif Nat.beq j id then K .normal s w else K (.exit j) s w
 |e,s,w=>K e s w
section
variable {X:Cx}{K:K3}{s:au}{L:V3}
theorem dx {t:au}{L':V3}(h:Wq X c K t L')(d:dK s t)(e:Cv L L'):Wq X c K s L:=fun H j a w i f hw=>h H j a w (i.sub d) f (e _ _ hw)
theorem NB {K':K3}(h:Wq X c K s L)(f:∀e s L,K e s L->K' e s L):Wq X c K' s L:=fun H p a w j i hw=>wpIn_mono (h H p a w j i hw) fun e q w' ⟨d,L',Ds',o,n,m,l⟩=>⟨d,L',Ds',o,n,m,f _ _ _ l⟩
theorem aH {x y:Code}(h:Wq X x (nx (fun s L=>Wq X y K s L) K) s L):Wq X (.seq x y) K s L:=by
 intro H o a w m l hw;refine wpIn_seq (wpIn_mono (h H o a w m l hw) ?_);rintro e n w' ⟨j,L',Ds',i,f,d,c⟩
 cases e with
 |normal=>exact c H Ds' n w' i f d
 |_=>exact ⟨j,L',Ds',i,f,d,c⟩
theorem Cf (h:K .normal s L):Wq X .skip K s L:=fun H d _ _ c a hw=>wpIn_skip ⟨s,L,d,c,a,hw,h⟩
theorem wI (h:K .ret s L):Wq X .ret K s L:=fun H d _ _ c a hw=>wpIn_ret ⟨s,L,d,c,a,hw,h⟩
theorem Gw {id:Nat}(h:K (.exit id) s L):Wq X (.exit id) K s L:=fun H d _ _ c a hw=>wpIn_exit ⟨s,L,d,c,a,hw,h⟩
theorem qi {id:Nat}(h:Wq X c (bk id K) s L):Wq X (.block id c) K s L:=by
 intro H q a w p o hw;refine wpIn_block (wpIn_mono (h H q a w p o hw) ?_);rintro e n w' ⟨d,L',Ds',m,l,i,f⟩
 cases e with
 | exit j=>
  show if j=id then iD X H K .normal n w' else iD X H K (.exit j) n w'
  by_cases e:j=id
  ·subst e;rw [if_pos rfl];exact ⟨d,L',Ds',m,l,i,by simpa [bk] using f⟩
  rw [if_neg e]
  have:Nat.beq j id=false:=by cases hb:Nat.beq j id with
   |false=>rfl
   |true=>exact absurd (Xj hb) e
  exact ⟨d,L',Ds',m,l,i,by simpa [bk,this] using f⟩
 |_=>exact ⟨d,L',Ds',m,l,i,f⟩
theorem GG {c:Operand}{x y:Code}{b:Bool}(l:ao s c=some (.bool b))(i:b=true->Wq X x K s L)(j:b=false->Wq X y K s L):Wq X (.cond c x y) K s L:=
 fun H f a w d e hw=>wpIn_cond_split (d.eval l) (fun h=>i h H f a w d e hw) (fun h=>j h H f a w d e hw)
theorem d9 {c:Operand}{x y:Code}(i:ao s c=some (.bool true))(e:Wq X x K s L):Wq X (.cond c x y) K s L:=
 fun H j a w d f hw=>wpIn_cond_true (d.eval i) (e H j a w d f hw)
theorem d8 {c:Operand}{x y:Code}(i:ao s c=some (.bool false))(e:Wq X y K s L):Wq X (.cond c x y) K s L:=
 fun H j a w d f hw=>wpIn_cond_false (d.eval i) (e H j a w d f hw)
theorem d5 {N:au->V3->Prop}(h:N s L):nx N K .normal s L:=h
theorem Hf {N:au->V3->Prop}(h:K (.exit i) s L):nx N K (.exit i) s L:=h
theorem CA {N:au->V3->Prop}(h:K .ret s L):nx N K .ret s L:=h
theorem G2 (h:K .normal s L):bk i K .normal s L:=h
theorem He (h:K .ret s L):bk i K .ret s L:=h
theorem G1 (h:K .normal s L):bk i K (.exit i) s L:=by simpa [bk] using h
theorem adt (a:Nat.beq j i=false)(h:K (.exit j) s L):bk i K (.exit j) s L:=by simpa [bk,a] using h
theorem ab1 (E:ι->au)(M:ι->V3)(Hn:Nat->ι->Prop)(o:Nat)(j:ι)(Q:Hn o j)(D:dK s (E j))(F:Cv L (M j))(round:∀m i,Hn m i->Wq X c (nx (fun l L'=> ∃m' f,m'<m/\Hn m' f/\dK l (E f)/\Cv L' (M f)) K) (E i) (M i)):Wq X (.loop c) K s L:=by
 intro H d a w O N hw
 let n:Nat->Act->World->Prop:=fun k a w=> ∃(i:ι) (d:List Nat),Hn k i/\Fx X (E i) a/\a.defers=d.map kZ/\Sp (d.map cO++H) (M i) w
 refine wpIn_loop (fun a w=> ∃k,n k a w) (fun a w=>leastOf fun k=>n k a w) ⟨o,j,d,Q,O.sub D,N,F _ _ hw⟩ ?_;intro a w P;obtain ⟨i,d,U,T,S,R⟩:=(leastOf_spec P).1;refine wpIn_mono (round _ i U H d a w T S R) ?_;rintro e V w' ⟨l,L',Ds',u,t,q,p⟩
 cases e with
 |normal=>
  obtain ⟨m',f,C,B,A,z⟩:=p;have hI':n m' V w':=⟨f,Ds',B,u.sub A,t,z _ _ q⟩;exact ⟨⟨m',hI'⟩,Nat.lt_of_le_of_lt ((leastOf_spec ⟨m',hI'⟩).2 m' hI') C⟩
 |_=>exact ⟨l,L',Ds',u,t,q,p⟩
end
def OpX (P:Program)(s:au)(L:V3)(o:Oper)(R:Value->V3->Prop):Prop:=
 ∀ρ:Operand->Value,(∀x u,ao s x=some u->ρ x=u)-> ∀Z w,Sp Z L w->
  (∃v w' L',(execOp ρ o).run P w=.ok (.value v) w'/\Sp Z L' w'/\R v L')\/
  (∃w' L',(execOp ρ o).run P w=.ok .skip w'/\Sp Z L' w'/\R undef L')\/
  (∃f args,(execOp ρ o).run P w=.ok (.enter f args) w/\Calls P f args w fun e w'=> ∃v L',e=.returned v/\Sp Z L' w'/\R v L')\/
  (∃l f tmps assign body,(execOp ρ o).run P w=.ok (.round l f tmps assign body) w/\RoundIn Fence.wide 0 P l f tmps assign body w fun e w'=> ∃v L',e=.returned v/\Sp Z L' w'/\R v L')
def bQ (o:Oper):Bool:=match o.op with| .defer _=>false|_=>true
def putE (d:Option Nat)(v:Value)(s:au):au:=match d with|some d=>(d,v)::s|none=>s
def tc (n:Nat):Option Nat->Bool
 |some d=>Nat.ble (d+1) n
 |none=>true
theorem Fx.putE {X:Cx}{s:au}(h:Fx X s a){d:Option Nat}(v:Value)(c:tc X.n d=true):Fx X (putE d v s) (a.put d v):=by
 cases d with
 |none=>exact h
 |some d=>exact h.put v (Xl c)
theorem put_defers (a:Act)(d:Option Nat)(v:Value):(a.put d v).defers=a.defers:=by cases d<;>rfl
theorem OpX.wpIn {X:Cx}{s:au}{L:V3}{R:Value->V3->Prop}(h:OpX X.P s L o R)(n:bQ o=true){Z:V3}{w:World}(A:Fx X s a)(hw:Sp Z L w){K:Act->World->Prop}(m:∀v L' w',R v L'->Sp Z L' w'->K (a.put o.dst v) w'):o.wpIn (eO X.r) 0 X.P a w K Q:=by
 refine ⟨fun _ _=>trivial,?_⟩
 have e:o.semAt (eO X.r).round a.eval=execOp a.eval o:=Oper.semAt_eq _ _ _ fun c z=>by unfold bQ at n;rw [z] at n;cases n
 rw [e];rcases h a.eval (fun x u t=>A.eval t) _ w hw with ⟨v,w',L',j,i,d⟩|⟨w',L',j,i,d⟩|⟨f,args,j,i⟩|⟨l,f,tmps,assign,body,j,i⟩
 ·rw [j];exact m _ _ _ d i
 ·rw [j];exact m _ _ _ d i
 ·rw [j];refine ⟨(by intro h;cases h),?_⟩;have d:CallsIn (eO X.r) (0 - 1) X.P f args w _:=callsIn_wide.2 i;refine d.mono ?_;rintro e w' ⟨v,L',rfl,q,p⟩;exact m _ _ _ p q
 rw [j];refine ⟨(by intro h;cases h),?_⟩;have d:RoundIn (eO X.r) (0 - 1) X.P l f tmps assign body w _:=i;refine d.mono ?_;rintro e w' ⟨v,L',rfl,q,p⟩;exact m _ _ _ p q
def aP (X:Cx)(ops:Array Oper)(l:List Oper)(K:K3)(s:au)(L:V3):Prop:= ∀(H:V3) (c:List Nat) (a:Act) (w:World),Fx X s a->a.defers=c.map kZ->Sp (c.map cO++H) L w->wpListIn (eO X.r) 0 X.P ops (iD X H K) l a w
theorem lI {X:Cx}{s:au}{b:Bool}(c:Fx X s a)(h:bu ops s o=some b):Region.wanted o (yielded ops a.tmps)=b:=Rl (a:={a with defers:=[]}) c.fits h
section
variable {X:Cx}{K:K3}{s:au}{L:V3}{rest:List Oper}{d:Nat}{op:Op}
theorem iT {id:Nat}(h:aP X l.toArray l K s L):Wq X (.region id l.toArray false) K s L:=fun H e a w d c hw=>wpIn_region_lit (h H e a w d c hw)
theorem li (h:K .normal s L):aP X ops [] K s L:=fun H d _ _ c a hw=>wpListIn_nil ⟨s,L,d,c,a,hw,h⟩
theorem act {t:au}{L':V3}(h:aP X ops l K t L')(c:dK s t)(d:Cv L L'):aP X ops l K s L:=fun H i a w f e hw=>h H i a w (f.sub c) e (d _ _ hw)
theorem CD {R:Value->V3->Prop}(h:OpX X.P s L o R)(e:bQ o=true)(f:bu ops s o=some true)(i:tc X.n o.dst=true)(k:∀v L',R v L'->aP X ops rest K (putE o.dst v s) L'):aP X ops (o::rest) K s L:=by
 intro H n a w d c hw;refine wpListIn_step fun K' j=> ?_
 rw [if_pos (lI d f)];exact h.wpIn e d hw fun v L' w' m l=>j _ _ (k v L' m H n _ _ (d.putE v i) ((put_defers _ _ _).trans c) l)
theorem ads (f:bu ops s ⟨some d,op,ty,pos,af,gd⟩=some false)(i:Nat.ble (d+1) X.n=true)(k:aP X ops rest K ((d,undef)::s) L):aP X ops (⟨some d,op,ty,pos,af,gd⟩::rest) K s L:=by
 intro H l a w e c hw;refine wpListIn_step fun K' j=> ?_
 rw [if_neg (by rw [lI e f];exact Bool.false_ne_true)];exact ⟨fun _ _=>trivial,j _ _ (k H l _ _ (e.put undef (Xl i)) c hw)⟩
theorem GQ (h:Ev P s (fun _=>True) o v):OpX P s L o fun u L'=>u=v/\L'=L:=fun ρ hρ Z w hw=> .inl ⟨v,w,L,h ρ hρ w trivial,hw,rfl,rfl⟩
theorem bR (h:Ev X.P s (fun _=>True) ⟨some d,op,ty,pos,af,gd⟩ v)(a:bQ ⟨some d,op,ty,pos,af,gd⟩=true)(c:bu ops s ⟨some d,op,ty,pos,af,gd⟩=some true)(e:Nat.ble (d+1) X.n=true)(k:aP X ops rest K ((d,v)::s) L):aP X ops (⟨some d,op,ty,pos,af,gd⟩::rest) K s L:=
 CD (GQ h) a c e fun _ _ ⟨i,f⟩=>by subst i f;exact k
def Rd (P:Program)(s:au)(L:V3)(o:Oper)(v:Value):Prop:= ∀Z w,Sp Z L w->Ev P s (· =w) o v
theorem jH (h:Rd P s L o v):OpX P s L o fun u L'=>u=v/\L'=L:=fun ρ hρ Z w hw=> .inl ⟨v,w,L,h Z w hw ρ hρ w rfl,hw,rfl,rfl⟩
theorem dF (h:Rd X.P s L ⟨some d,op,ty,pos,af,gd⟩ v)(a:bQ ⟨some d,op,ty,pos,af,gd⟩=true)(c:bu ops s ⟨some d,op,ty,pos,af,gd⟩=some true)(e:Nat.ble (d+1) X.n=true)(k:aP X ops rest K ((d,v)::s) L):aP X ops (⟨some d,op,ty,pos,af,gd⟩::rest) K s L:=
 CD (jH h) a c e fun _ _ ⟨i,f⟩=>by subst i f;exact k
theorem eE (d:Nat)(e:cq s d=some (.bool g))(c:g=true->aP X ops l K s L)(a:g=false->aP X ops l K s L):aP X ops l K s L:=by
 cases g with
 |true=>exact c rfl
 |false=>exact a rfl
theorem d6 {L':V3}(a:Cv L L')(h:aP X ops l K s L'):aP X ops l K s L:=act h dG a
def jk (s2:au)(L2:V3):K3:=fun e a L'=>e=.normal/\dK a s2/\Cv L' L2
theorem EI {F:Fence}{l:Exit->Act->World->Prop}: ∀(t f:List Oper) (a:Act) (w:World),wpListIn F m P ops Q t a w->(∀a w,Q .normal a w->wpListIn F m P ops l f a w)->(∀e a w,e≠ .normal->Q e a w->l e a w)->wpListIn F m P ops l (t++f) a w
 | [],f,a,w,h,p,_=>p a w h
 | o ::r,f,a,w,h,p,j=>by
  have hw: ∀{K K':Act->World->Prop},(∀a w,K a w->K' a w)->o.wpIn F m P a w K Q->o.wpIn F m P a w K' l:=by
   intro K K' n c;unfold Oper.wpIn at*;refine ⟨c.1,?_⟩;have c:=c.2
   have lets:LetsOut Q->LetsOut l:=fun ⟨A,u,z⟩=>⟨A,u,j _ _ _ (by simp) z⟩
   generalize (o.semAt F.round a.eval).run P w=r at*
   cases r with
   | ok x w'=>
    cases x<;>simp only [Oper.uponIn] at c⊢ <;>
     first
      |exact n _ _ c
      |exact ⟨c.1,CallsIn.mono c.2 (fun e q d=>by cases e<;>first|exact n _ _ d|exact j _ _ _ (by simp) d|exact lets d)⟩
      |exact ⟨c.1,RowsIn.mono c.2 (fun _ _ d=>n _ _ d)⟩
      |exact ⟨c.1,RoundIn.mono c.2 (fun e q d=>by cases e<;>first|exact n _ _ d|exact j _ _ _ (by simp) d|exact lets d)⟩
   |halt x w'=>cases x<;>simp only [Oper.uponIn] at c⊢ <;>first|exact j _ _ _ (by simp) c|exact c
  unfold wpListIn at h;show wpListIn F m P ops l (o::(r++f)) a w;unfold wpListIn;split
  ·rename_i i
   rw [if_pos i] at h;exact hw (fun a w c=>EI r f a w c p j) h
  rename_i i
  rw [if_neg i] at h;exact ⟨h.1,EI r f _ _ h.2 p j⟩
theorem acN (k:Nat)(s2:au)(L2:V3)(q:aP X ops (l.take k) (jk s2 L2) s L)(p:aP X ops (l.drop k) K s2 L2):aP X ops l K s L:=by
 intro H u a w o n hw;rw [<-Xe k l];refine EI _ _ a w (q H u a w o n hw) ?_ ?_
 ·rintro a w ⟨m,L',Ds',j,i,f, -,d,t⟩;exact p H Ds' a w (j.sub d) i (t _ _ f)
 rintro e a w c ⟨m,L',Ds',j,i,f,d, -⟩;exact absurd d c
theorem fN {s2:au}{L2:V3}(a:dK s s2)(c:Cv L L2):aP X ops [] (jk s2 L2) s L:=li ⟨rfl,a,c⟩
end
structure Okc (P:Program) (f:FuncId) (args:V4) (L:V3) (R:Value->V3->Prop):Prop where
 cal:oy P f
 run: ∀Z w,Sp Z L w->Calls P f args.toArray w fun e w'=> ∃v L',e=.returned v/\Sp Z L' w'/\R v L'
def ts (X:Cx)(F:Func)(R:Value->V3->Prop):K3
 | .normal,s,L| .ret,s,L=> ∀a,Fx X s a-> ∃v L2,(∀Z w,Sp Z L w->(results F a.tmps).run X.P w=.ok v w)/\Cv L L2/\R v L2
 |_,_,_=>False
theorem Jd {tmps:Array Value}{R:Ending->World->Prop}{L Z:V3}(n:∀w,Sp Z L w-> ∃v,(results F tmps).run P w=.ok v w/\R (.returned v) w): ∀(d:List Nat) (w:World),Sp (d.map cO++Z) L w->LeavesInM Fence.wide 0 P F tmps R (d.map kZ) .returning w
 | [],w,hw=>n w (by simpa using hw)
 | D::d,w,hw=>by
  have m:(L++(cO D::(d.map cO++Z)))[L.length]? =some (cO D):=by simp
  have hw':SepL (L++(cO D::(d.map cO++Z))) w:=hw;obtain ⟨T,S,A,t⟩:=hw'.get m;refine ⟨by simp,.inl ⟨D,_,rfl,run_takeDeferred t,Jd n d _ ?_⟩⟩
  have z:SepL ((L++(cO D::(d.map cO++Z))).set L.length ⟨fun _ _ _=>True,fun _ h=>h,fun _ h=>h,true,fun _ _ _ _ h=>h⟩) (w.putObj D (.deferred none)):=by
   refine hw'.upd m fun T S u B _ _=> ?_
   have f:=grownBy_putObj' w D (.deferred none);refine ⟨⟨f.os,f.tape,f.output,f.size,fun q o p=>f.block q o fun e=>p ?_⟩,fun _=>False,fun _ h=>h.elim,fun _ h=>h.elim,trivial⟩;cases e;exact u.1
  refine SepL.pick z (fun j=>if j<L.length then j else j+1) ?_ ?_
  ·intro j c l;by_cases a:j<L.length
   ·simp only [a,if_true];rw [WA a] at l;rw [WJ W,WA a];exact l
   simp only [a,if_false];rw [WB W] at l;rw [WJ W,WB W,show j+1 - L.length=(j - L.length)+1 by omega,WC];exact l
  intro i j _ _ e;split at e<;>split at e<;>omega
theorem gQ {R:Value->V3->Prop}{args:V4}{L:V3}(m:P.funcs[f]? =some F)(hb:F.body=some c)(p:Nat.ble args.length F.ntmps=true)(h:Wq ⟨P,F.ntmps,none⟩ c (ts ⟨P,F.ntmps,none⟩ F R) (fe args 0) L)(hm:(F.name== "runtime.NumGoroutine")=false:=by rfl):Okc P f args L R:=by
 refine ⟨⟨F,m,by rw [hb];rfl,hm⟩,?_⟩;intro Z w hw;refine callsIn_wide.1 (callsIn_of_wp_marks (n:=0) m hb trivial ?_ J);refine wpIn_mono (h Z [] _ w ⟨?_,?_⟩ J hw) ?_
 ·have:=Xl p;simp;omega
 ·intro k v q;obtain ⟨-,a⟩:=Kh args 0 k v q
  have i:k<args.length:=by simpa using (WH.1 a).1
  rw [Nat.sub_zero] at a;have l:=(WH.1 a).2;simp [Array.getElem?_append,i,l]
 rintro e d w' ⟨A,L',Ds',o,a,l,j⟩
 have key:(∃v L2,(∀Z w,Sp Z L' w->(results F d.tmps).run P w=.ok v w)/\Cv L' L2/\R v L2)->LeavesInM Fence.wide 0 P F d.tmps (fun e w'=> ∃v L',e=.returned v/\Sp Z L' w'/\R v L') d.defers .returning w':=by
  rintro ⟨v,L2,z,u,t⟩;rw [a];exact Jd (Z:=Z) (L:=L') (fun w hw=>⟨v,z _ w hw,v,L2,J,u _ _ hw,t⟩) Ds' w' l
 cases e with
 |normal=>exact key (j d o)
 |ret=>exact key (j d o)
 |_=>exact j.elim
end
section
open Go.RowKit
structure Rep (α:Type) where
 sz:Nat
 rel:(Nat->Prop)->World->V4->α->Prop
 loc: ∀{S:Nat->Prop} {w w':World} {vs:V4} {x:α},Agr S w w'->rel S w vs x->rel S w' vs x
 mono: ∀{S S':Nat->Prop} {w:World} {vs:V4} {x:α},(∀q,S q->S' q)->rel S w vs x->rel S' w vs x
 len: ∀{S:Nat->Prop} {w:World} {vs:V4} {x:α},rel S w vs x->vs.length=sz
 one: ∀{S:Nat->Prop} {w:World} {vs:V4} {x:α},rel S w vs x->vs.all (·.oneCell')=true
def Rep.flat (sz:Nat)(en:α->V4)(c:∀x,(en x).length=sz)(a:∀x,(en x).all (·.oneCell')=true):Rep α where
 sz:=sz
 rel _ _ vs x:=vs=en x
 loc:=fun _ h=>h
 mono:=fun _ h=>h
 len:=fun h=>h▸c _
 one:=fun h=>h▸a _
def df (k:IntKind):Rep Int:=.flat 1 (fun x=> [.int k x]) (fun _=>rfl) (fun _=>rfl)
def eS:Rep ByteArray:=.flat 1 (fun x=> [.string x]) (fun _=>rfl) (fun _=>rfl)
inductive All2 {α β:Type} (R:α->β->Prop):List α->List β->Prop
 |nil:All2 R [] []
 |cons {a b l m:_}:R a b->All2 R l m->All2 R (a::l) (b::m)
theorem All2.imp {R R':α->β->Prop}{l:List α}{m:List β}(h:All2 R l m)(hr:∀a b,R a b->R' a b):All2 R' l m:=by induction h with
 |nil=>exact .nil
 |cons d _ c=>exact .cons (hr _ _ d) c
theorem All2.get {R:α->β->Prop}{l:List α}{m:List β}(h:All2 R l m){b:β}(hi:m[i]? =some b): ∃a,l[i]? =some a/\R a b:=by
 induction h generalizing i with
 |nil=>simp at hi
 |cons d _ c=>
  cases i with
  |zero=>simp only [WD,Xy] at hi⊢;subst hi;exact ⟨_,J,d⟩
  |succ i=>simp only [WC] at hi⊢;exact c hi
theorem All2.append {R:α->β->Prop}{l a:List α}{m m':List β}(h:All2 R l m)(e:All2 R a m'):All2 R (l++a) (m++m'):=by induction h with
 |nil=>exact e
 |cons d _ c=>exact .cons d c
theorem All2.drop {R:α->β->Prop}{l:List α}{m:List β}(h:All2 R l m): ∀k,All2 R (l.drop k) (m.drop k):=by
 induction h with
 |nil=>intro k;simp;exact .nil
 |cons d c a=>intro k;cases k with
  |zero=>exact .cons d c
  |succ k=>exact a k
theorem All2.take {R:α->β->Prop}{l:List α}{m:List β}(h:All2 R l m): ∀k,All2 R (l.take k) (m.take k):=by
 induction h with
 |nil=>intro k;simp;exact .nil
 |cons c d a=>intro k;cases k with
  |zero=>exact .nil
  |succ k=>exact .cons c (a k)
theorem All2.set {R:α->β->Prop}{l:List α}{m:List β}(h:All2 R l m){a:α}{b:β}(c:R a b): ∀k,All2 R (l.set k a) (m.set k b):=by
 induction h with
 |nil=>intro k;exact .nil
 |cons f e d=>intro k;cases k with
  |zero=>exact .cons c e
  |succ k=>exact .cons f (d k)
section
variable {R:Rep α}
theorem oE {w:World}{vss:List V4}{xs:List α}(h:All2 (R.rel S w) vss xs):vss.flatten.length=xs.length*R.sz:=by
 induction h with
 |nil=>simp
 |cons c _ a=>rw [Wz,XI,a,R.len c,WP,Xi];omega
theorem FP {w:World}{vss:List V4}{xs:List α}(h:All2 (R.rel S w) vss xs):vss.flatten.all (·.oneCell')=true:=by
 induction h with
 |nil=>rfl
 |cons c _ a=>rw [Wz,List.all_append,R.one c,a];rfl
theorem sy {w:World}: ∀{vss:List V4} {xs:List α},All2 (R.rel S w) vss xs-> ∀{i:Nat} {vs:V4},vss[i]? =some vs-> ∀{j:Nat} {u:Value},vs[j]? =some u->vss.flatten[i*R.sz+j]? =some u
 |_,_,.nil,i,vs,h,_,_,_=>by simp at h
 |_,_,.cons (a:=a) f d,0,vs,h,j,u,c=>by
  simp only [WD,Xy] at h;subst h;rw [Wz,Nat.zero_mul,Xs,WA (WH.1 c).1];exact c
 |_,_,.cons (a:=a) f d,i+1,vs,h,j,u,c=>by
  simp only [WC] at h
  have e:(i+1)*R.sz+j=a.length+(i*R.sz+j):=by rw [R.len f,Xi];omega
  rw [Wz,e,WB W,Nat.add_sub_cancel_left];exact sy d h c
theorem AI {w:World}: ∀{vss:List V4} {xs:List α},All2 (R.rel S w) vss xs-> ∀k,(vss.drop k).flatten=vss.flatten.drop (k*R.sz)
 |_,_,.nil,k=>by simp
 |_,_,.cons d c,0=>by simp
 |_,_,.cons (a:=a) d c,k+1=>by
  rw [Wp,AI c k,Wz,show (k+1)*R.sz=a.length+k*R.sz by rw [R.len d,Xi];omega, <-List.drop_drop,List.drop_left]
def SlR (R:Rep α)(S:Nat->Prop)(w:World)(v:Value)(xs:List α):Prop:= ∃A c,v=.slice A xs.length c/\xs.length<=c/\c<=9223372036854775807/\
 (0<xs.length-> ∃b o vss,A=some ⟨b,o,none⟩/\S b/\b<w.heap.size/\All2 (R.rel S w) vss xs/\CellsAt w b o vss.flatten)
theorem SlR.loc {w:World}{xs:List α}(h:SlR R S w v xs)(a:Agr S w w'):SlR R S w' v xs:=by
 obtain ⟨A,c,l,j,i,f⟩:=h;refine ⟨A,c,l,j,i,fun m=> ?_⟩;obtain ⟨b,o,vss,q,e,d,p,n⟩:=f m;exact ⟨b,o,vss,q,e,Xo d a.size,p.imp fun _ _=>R.loc a,n.agr a e d⟩
theorem SlR.mono {S':Nat->Prop}{w:World}{xs:List α}(h:SlR R S w v xs)(a:∀q,S q->S' q):SlR R S' w v xs:=by
 obtain ⟨A,c,i,f,e,d⟩:=h;refine ⟨A,c,i,f,e,fun j=> ?_⟩;obtain ⟨b,o,vss,t,p,n,m,l⟩:=d j;exact ⟨b,o,vss,t,a _ p,n,m.imp fun _ _=>R.mono a,l⟩
theorem SlR.one {w:World}{xs:List α}(h:SlR R S w v xs):v.oneCell'=true:=by
 obtain ⟨A,c,rfl, -⟩:=h;rfl
theorem BL (R:Rep α)(S:Nat->Prop)(w:World):SlR R S w (Y none 0 0) []:=⟨none,0,rfl,Xm _,by omega,fun h=>absurd h (by simp)⟩
end
def Rep.sl (R:Rep α):Rep (List α) where
 sz:=1
 rel S w vs xs:= ∃v,vs=[v]/\SlR R S w v xs
 loc:=fun h ⟨v,e,a⟩=>⟨v,e,a.loc h⟩
 mono:=fun h ⟨v,e,a⟩=>⟨v,e,a.mono h⟩
 len:=fun ⟨_,e,_⟩=>by rw [e];rfl
 one:=fun ⟨_,e,h⟩=>by rw [e];simp [h.one]
def aL (R:Rep α)(v:Value)(xs:List α):Chunk where
 ok _ S w:=SlR R S w v xs
 loc:=fun h a=>a.loc (h.mono fun _=> .inr)
 mono:=fun h a=>a.mono h
 ro:=true
 dup:=fun _ _ _ _ h=>h
def ab (b:Nat)(t:TypeId)(cs:V4):Chunk where
 ok T _ w:=T b/\Blk w b t cs.toArray
 loc:=fun h ⟨a,c⟩=>⟨a,c.agr h (.inl a)⟩
 mono:=fun _ h=>h
 ro:=false
 dup:=fun h=>Bool.noConfusion h
def ownsX (w:World)(e:TypeId)(sz:Nat)(v:Value)(n:Nat)(cs:V4):Prop:=cs.length=n*sz/\((v=Y none 0 0/\n=0)\/ ∃g cap a,v=.slice (some ⟨g,0,none⟩) n cap/\0<=g/\w.heap[g]? =some (.cells a e (0,0))/\n<=cap/\cap<=maxLen/\(∃c,cap<=c/\c<=maxLen/\a.size=c*sz)/\a.toList.take (n*sz)=cs)
theorem ownsX.of {w:World}{sz:Nat}{cs:V4}(h:w.ownsRow 0 e sz v n cs):ownsX w e sz v n cs:=⟨h.1,h.2.imp id fun ⟨g,cap,j,a,b,c,d,f,k,i⟩=>⟨g,cap,j,a,b,c,d,f,⟨cap,Xm _,f,k⟩,i⟩⟩
theorem ownsX.lt {w:World}{sz:Nat}{cs:V4}(h:ownsX w e sz v n cs): ∀q,v.ownBlock=some q->q<w.heap.size:=fun q c=>by
 rcases h.2 with ⟨rfl, -⟩|⟨g,cap,a,rfl, -,d, -⟩
 ·cases c
 cases c;exact Blk.lt (t:=e) (cs:=a) d
theorem KA {X:Nat->Prop}{w:World}{sz:Nat}{cs:V4}(h:ownsX w e sz v n cs)(d:Agr X w w')(f:∀q,v.ownBlock=some q->X q):ownsX w' e sz v n cs:=by
 refine ⟨h.1,?_⟩;rcases h.2 with l|⟨g,cap,a,c,j,i,r⟩
 ·exact .inl l
 exact .inr ⟨g,cap,a,c,j,Blk.agr (t:=e) i d (f g (by rw [c];rfl)),r⟩
def aK (R:Rep α)(e:TypeId)(v:Value)(xs:List α):Chunk where
 ok T S w:= ∃vss,All2 (R.rel S w) vss xs/\((ownsX w e R.sz v xs.length vss.flatten/\ ∀q,v.ownBlock=some q->T q)\/(xs.length=0/\ ∃A,v=.slice A 0 0))
 loc:=fun h ⟨vss,c,a⟩=>⟨vss,c.imp fun _ _=>R.loc (h.mono fun _=> .inr),a.imp (fun ⟨a,d⟩=>⟨KA a h fun q f=> .inl (d q f),d⟩) id⟩
 mono:=fun h ⟨vss,c,a⟩=>⟨vss,c.imp fun _ _=>R.mono h,a⟩
 ro:=false
 dup:=fun h=>Bool.noConfusion h
def mn (e:World):Chunk where
 ok _ S w:=Ext e w/\ ∀q,q<e.heap.size->S q
 loc:=fun h ⟨a,d⟩=>⟨⟨h.os.trans a.os,h.tape.trans a.tape,h.output.trans a.output,Xn a.size h.size,fun q c=>(h.block q (Xo c a.size) (.inr (d q c))).trans (a.block q c)⟩,d⟩
 mono:=fun h ⟨a,d⟩=>⟨a,fun q c=>h q (d q c)⟩
 ro:=true
 dup:=fun _ _ _ _ h=>h
def gi (R:Rep α)(v:Value)(xs:List α)(c:Chunk):Prop:= ∀T S w,c.ok T S w-> ∃A cap,v=.slice A xs.length cap/\xs.length<=cap/\cap<=9223372036854775807/\
 (0<xs.length-> ∃b o vss,A=some ⟨b,o,none⟩/\All2 (R.rel S w) vss xs/\CellsAt w b o vss.flatten)
theorem bA {R:Rep α}{xs:List α}:gi R v xs (aL R v xs):=fun T S w ⟨A,c,f,e,d,a⟩=>⟨A,c,f,e,d,fun i=>by
 obtain ⟨b,o,vss,m,p,n,l,j⟩:=a i;exact ⟨b,o,vss,m,l,j⟩⟩
theorem qb {w:World}{sz g cap:Nat}{a:Array Value}{cs:V4}(h:w.heap[g]? =some (.cells a e (0,0)))(d:a.toList.take (n*sz)=cs):CellsAt w g 0 cs:=fun j u c=>by
 have hb:Blk w g e a:=h;rw [Xs,hb.cells, <-Array.getElem?_toList];rw [<-d,WL] at c;split at c
 ·exact c
 cases c
theorem aw {R:Rep α}{xs:List α}:gi R v xs (aK R e v xs):=fun T S w ⟨vss,d,a⟩=>by
 rcases a with ⟨a, -⟩|⟨c,A,rfl⟩
 ·rcases a.2 with ⟨rfl,c⟩|⟨g,cap,m,rfl,o,l,j,i,n,f⟩
  ·rw [c];exact ⟨none,0,J,by omega,by omega,fun h=>absurd h W⟩
  exact ⟨_,cap,J,j,by unfold maxLen at i;omega,fun _=>⟨g,0,vss,rfl,d,qb (cap:=cap) l f⟩⟩
 exact ⟨A,0,by rw [c],by omega,by omega,fun h=>absurd h W⟩
theorem cu {R:Rep α}{xs:List α}{L:V3}(i:Nat)(hi:L[i]? =some (aK R e v xs)):Cv L (L.set i (aL R v xs)):=fun Z w h=>by
 have a:=SepL.frz h (bM hi) (d:=aL R v xs) fun T S ⟨vss,a,c⟩=>by
  rcases c with ⟨c,m⟩|⟨f,A,rfl⟩
  ·rcases c.2 with ⟨rfl,f⟩|⟨g,cap,j,rfl,u,l,p,o,q,n⟩
   ·show SlR R _ w _ xs;exact ⟨none,0,by rw [f],by omega,by omega,fun h=>absurd h W⟩
   exact ⟨_,cap,J,p,by unfold maxLen at o;omega,fun _=>⟨g,0,vss,rfl,.inr (m g rfl),Blk.lt (t:=e) (cs:=j) l,a.imp fun _ _=>R.mono fun _=> .inl,qb (cap:=cap) l n⟩⟩
  show SlR R _ w _ xs;exact ⟨A,0,by rw [f],by omega,by omega,fun h=>absurd h W⟩
 rw [gI Z hi] at a;exact a
theorem Gq {L:V3}(i:Nat){c:Chunk}(hi:L[i]? =some c)(a:c.ro=true):Cv L (c::L):=fun _ _ h=>SepL.dup h (bM hi) a
theorem ck (R:Rep α)(e:TypeId)(L:V3):Cv L (aK R e (Y none 0 0) ([]:List α)::L):=fun Z w h=>SepL.fact0 h fun S=>⟨[],.nil,.inl ⟨.of (World.ownsRow_nil w 0 e R.sz),fun _ h=>by cases h⟩⟩
theorem km (R:Rep α)(L:V3):Cv L (aL R (Y none 0 0) ([]:List α)::L):=fun Z w h=>SepL.fact0 h fun S=>BL R S w
section
variable {s:au}{L:V3}{d:Option Nat}
theorem ie {R:Rep α}{xs:List α}{c:Chunk}(i:Nat)(hi:L[i]? =some c)(j:gi R v xs c)(a:ao s x=some v)(f:P.underlying t=some (.slice e)):Rd P s L ⟨d,.call ⟨.builtin .len, #[x], #[t]⟩,ty,pos,af,gd⟩ (.int .i64 (xs.length:Int)):=fun Z w hw=>by
 obtain ⟨T,S,h⟩:=hw.get (bM hi);obtain ⟨A,cap,rfl, -⟩:=j _ _ _ h;exact jc a f
def bD (v:Value)(k sz off:Nat):Value:=match v with
 | .slice (some ⟨b,o,none⟩) _ _=> .pointer (some ⟨b,o+k*sz+off,none⟩)
 |_=>undef
theorem cH {R:Rep α}{t e sz:Nat}{xs:List α}{c:Chunk}{k:Int}(i:Nat)(hi:L[i]? =some c)(m:gi R v xs c)(f:ao s x=some v)(a:ao s y=some (.int .i64 k))(j:P.underlying t=some (.slice e))(l:eI P e sz=true)(q:0<=k)(p:k<xs.length):Rd P s L ⟨d,.indexAddr t x y,ty,pos,af,gd⟩ (bD v k.toNat sz 0):=fun Z w hw=>by
 obtain ⟨T,S,h⟩:=hw.get (bM hi);obtain ⟨A,cap,rfl, -, -,n⟩:=m _ _ _ h;obtain ⟨b,o,vss,rfl, -⟩:=n W;exact iK f a j l q p
theorem dc {R:Rep α}{t f sz o':Nat}{xs:List α}{c:Chunk}{k:Nat}(i:Nat)(hi:L[i]? =some c)(j:gi R v xs c)(e:ao s x=some (bD v k sz off))(m:k<xs.length)(hr:∀b o w,(Instr.fieldAt t (.pointer (some ⟨b,o,none⟩)) f).run P w=.ok (.pointer (some ⟨b,o+o',none⟩)) w):Rd P s L ⟨d,.fieldAddr t x f,ty,pos,af,gd⟩ (bD v k sz (off+o')):=fun Z w hw=>by
 obtain ⟨T,S,h⟩:=hw.get (bM hi);obtain ⟨A,cap,rfl, -, -,l⟩:=j _ _ _ h;obtain ⟨b,o,vss,rfl, -⟩:=l W;have a:=bW (C:=(· =w)) (d:=d) (ty:=ty) (pos:=pos) (af:=af) (gd:=gd) (o:=o+k*sz+off) e hr;rw [Nat.add_assoc (o+k*sz)] at a;exact a
theorem MY {R:Rep α}{xs:List α}{c:Chunk}{Z:V3}{w:World}(hw:Sp Z L w)(hi:L[i]? =some c)(f:gi R v xs c){k:Nat}{x:α}(a:xs[k]? =some x): ∃b o vs T S,c.ok T S w/\bD v k R.sz off=.pointer (some ⟨b,o+k*R.sz+off,none⟩)/\R.rel S w vs x/\CellsAt w b (o+k*R.sz) vs:=by
 obtain ⟨T,S,h⟩:=hw.get (bM hi);obtain ⟨A,cap,rfl, -, -,p⟩:=f _ _ _ h;obtain ⟨b,o,vss,rfl,d,n⟩:=p (Ai a);obtain ⟨vs,m,l⟩:=d.get a;exact ⟨b,o,vs,T,S,h,J,l,fun j u e=>by have:=n _ _ (sy d m e);rw [Nat.add_assoc];exact this⟩
theorem fZ {R:Rep α}{xs:List α}{c:Chunk}{k:Nat}{y:α}(i:Nat)(hi:L[i]? =some c)(l:gi R v xs c)(a:ao s x=some (bD v k R.sz off))(e:xs[k]? =some y)(f:cz P t=true)(j:∀S w vs,R.rel S w vs y->vs[off]? =some u):Rd P s L ⟨d,.load t x,ty,pos,af,gd⟩ u:=fun Z w hw=>by
 obtain ⟨b,o,vs,T,S,z,q,n,m⟩:=MY (off:=off) hw hi l e;rw [q] at a;exact AZ a f (np (p:=fun w=>w.cell? ⟨b,o+k*R.sz+off,none⟩=some u) (m _ _ (j _ _ _ n)))
theorem fX {R:Rep α}{us:V4}{xs:List α}{c:Chunk}{k:Nat}{y:α}(i:Nat)(hi:L[i]? =some c)(m:gi R v xs c)(a:ao s x=some (bD v k R.sz off))(f:xs[k]? =some y)(j:ml P t us.length=true)(l:∀S w vs,R.rel S w vs y->(vs.drop off).take us.length=us):Rd P s L ⟨d,.load t x,ty,pos,af,gd⟩ (.agg us.toArray):=fun Z w hw=>by
 obtain ⟨b,o,vs,T,S,z,u,q,n⟩:=MY (off:=off) hw hi m f;rw [u] at a;have e:=n.part off us.length;rw [l _ _ _ q] at e;exact vX a (np (p:=fun w=>CellsAt w b (o+k*R.sz+off) us) e) j
theorem mZ {R:Rep α}{R':Rep β}{xs:List α}{c:Chunk}{k:Nat}{y:α}{ys:List β}(i:Nat)(hi:L[i]? =some c)(O:gi R v xs c)(H:ao s x=some (bD v k R.sz off))(D:xs[k]? =some y)(K:cz P t=true)(M:∀S w vs,R.rel S w vs y-> ∃u,vs[off]? =some u/\SlR R' S w u ys):OpX P s L ⟨d,.load t x,ty,pos,af,gd⟩ fun u L'=> ∃A n c,u=.slice A n c/\L'=aL R' (.slice A n c) ys::L:=fun ρ hρ Z w hw=>by
 obtain ⟨T,S,h⟩:=hw;have Q:=h.ok (bM hi);obtain ⟨A,cap,rfl, -, -,m⟩:=O _ _ _ Q;obtain ⟨b,o,vss,rfl,E,h6⟩:=m (Ai D);obtain ⟨vs,X,V⟩:=E.get D;obtain ⟨u,U,l⟩:=M _ _ _ V;obtain ⟨F,c',rfl,hrest⟩:=l;have l:SlR R' S w (.slice F ys.length c') ys:=⟨F,c',rfl,hrest⟩;have B:=h6 _ _ (sy E X U);refine .inl ⟨_,w,_,AZ (C:=(· =w)) (a:=⟨b,o+k*R.sz+off,none⟩) H K (np (p:=fun w=>w.cell? ⟨b,o+k*R.sz+off,none⟩=some _) (by rw [Nat.add_assoc];exact B)) ρ hρ w J,?_,_,_,_,J,J⟩;refine ⟨fun i=>match i with|0=>fun _=>False|i+1=>T i,S,?_,?_,?_,?_,h.lts⟩
 ·intro j e z
  cases j with
  |zero=>simp only [Wm,WD,Xy] at z;subst z;exact l
  |succ j=>simp only [Wm,WC] at z;exact h.ok z
 ·intro i j q N f m
  cases i with
  |zero=>exact f
  |succ i=>cases j with
   |zero=>exact m
   |succ j=>exact h.apart W f m
 ·intro i q f m
  cases i with
  |zero=>exact f
  |succ i=>exact h.ro f m
 intro i q f
 cases i with
 |zero=>exact f.elim
 |succ i=>exact h.lt f
theorem SepL.facts {L:V3}{w:World}: ∀(cs:V3) {T:Nat->Nat->Prop} {S:Nat->Prop},SepT L T S w->(∀c∈cs,c.ok (fun _=>False) S w)-> ∃T',SepT (cs++L) T' S w
 | [],T,S,h,_=>⟨T,h⟩
 | c::cs,T,S,h,n=>by
  obtain ⟨T',f⟩:=SepL.facts cs h fun d p=>n d (by simp [p])
  refine ⟨fun i=>match i with|0=>fun _=>False|i+1=>T' i,?_,?_,?_,?_,f.lts⟩
  ·intro j e l
   cases j with
   |zero=>simp only [Wm,WD,Xy] at l;subst l;exact n _ (by simp)
   |succ j=>simp only [Wm,WC] at l;exact f.ok l
  ·intro i j q o a m
   cases i with
   |zero=>exact a
   |succ i=>cases j with
    |zero=>exact m
    |succ j=>exact f.apart W a m
  ·intro i q a m
   cases i with
   |zero=>exact a
   |succ i=>exact f.ro a m
  intro i q a
  cases i with
  |zero=>exact a.elim
  |succ i=>exact f.lt a
def sX (R:Rep α)(x:α)(Q:V4->V3->Prop):Prop:= ∀S w vs,R.rel S w vs x-> ∃cs,Q vs cs/\ ∀c∈cs,c.ok (fun _=>False) S w
theorem aaj {R:Rep α}{xs:List α}{c:Chunk}{k:Nat}{y:α}{Q:V4->V3->Prop}(i:Nat)(hi:L[i]? =some c)(E:gi R v xs c)(q:ao s x=some (bD v k R.sz off))(f:xs[k]? =some y)(z:ml P t m=true)(hm:Nat.ble (off+m) R.sz=true)(B:sX R y Q):OpX P s L ⟨d,.load t x,ty,pos,af,gd⟩ fun u L'=> ∃vs cs,Q vs cs/\u=.agg ((vs.drop off).take m).toArray/\L'=cs++L:=fun ρ hρ Z w hw=>by
 obtain ⟨T,S,h⟩:=hw;have F:=h.ok (bM hi);obtain ⟨A,cap,rfl, -, -,N⟩:=E _ _ _ F;obtain ⟨b,o,vss,rfl,n,M⟩:=N (Ai f);obtain ⟨vs,K,l⟩:=n.get f;obtain ⟨cs,H,e⟩:=B _ _ _ l
 have hrow:CellsAt w b (o+k*R.sz) vs:=fun j u D=>by have:=M _ _ (sy n K D);rw [Nat.add_assoc];exact this
 have hm':=Xl hm
 have hlen:((vs.drop off).take m).length=m:=by rw [XJ,WQ,R.len l];omega
 obtain ⟨T',a⟩:=SepL.facts cs h e;refine .inl ⟨_,w,cs++L,vX (C:=(· =w)) (b:=b) (o:=o+k*R.sz+off) (cs:=(vs.drop off).take m) q (np (p:=fun w=>CellsAt w b (o+k*R.sz+off) ((vs.drop off).take m)) (hrow.part off m)) (by rw [hlen];exact z) ρ hρ w J,⟨T',S,by rw [VT];exact a⟩,vs,cs,H,J,J⟩
theorem cn {b o:Nat}{cs:V4}(i:Nat)(hi:L[i]? =some (ab b bt cs))(a:ao s x=some (.pointer (some ⟨b,o,none⟩)))(c:cz P t=true)(e:cs[o]? =some u):Rd P s L ⟨d,.load t x,ty,pos,af,gd⟩ u:=fun Z w hw=>by
 obtain ⟨T,S, -,h⟩:=hw.get (bM hi);exact AZ a c (np (p:=fun w=>w.cell? ⟨b,o,none⟩=some u) (h.at (by simpa using e)))
theorem db {b o:Nat}{cs us:V4}(i:Nat)(hi:L[i]? =some (ab b bt cs))(c:ao s x=some (.pointer (some ⟨b,o,none⟩)))(e:ml P t us.length=true)(f:(cs.drop o).take us.length=us):Rd P s L ⟨d,.load t x,ty,pos,af,gd⟩ (.agg us.toArray):=fun Z w hw=>by
 obtain ⟨T,S, -,h⟩:=hw.get (bM hi);have a:=h.all.part o us.length;rw [f,Xs] at a;exact vX c (np (p:=fun w=>CellsAt w b o us) a) e
theorem sS {cs:V4}(a:ao s x=some v)(f:v.cells.toList=cs):OpX P s L ⟨d,.box t x,ty,pos,af,gd⟩ fun u L'=> ∃b,u=.pointer (some ⟨b,0,none⟩)/\L'=ab b t cs::L:=fun ρ hρ Z w hw=>by
 refine .inl ⟨.pointer (some ⟨w.heap.size,0,none⟩),w.alloc (.cells v.cells t),ab w.heap.size t cs::L,?_,SepL.new (c:=ab w.heap.size t cs) hw (Agr.of_ext ((Ext.refl w).alloc _)) fun _ S _=>⟨(· =w.heap.size),fun q e=> ?_,J,?_⟩,_,J,J⟩
 ·unfold execOp;simp only [hρ x _ a];rfl
 ·subst e;simp
 subst f;simpa using Blk.new w t v.cells
theorem iq {cs:V4}(a:∀w,(zeroValue t).run P w=.ok v w)(f:v.cells.toList=cs):OpX P s L ⟨d,.alloc t,ty,pos,af,gd⟩ fun u L'=> ∃b,u=.pointer (some ⟨b,0,none⟩)/\L'=ab b t cs::L:=fun ρ hρ Z w hw=>by
 refine .inl ⟨.pointer (some ⟨w.heap.size,0,none⟩),w.alloc (.cells v.cells t),ab w.heap.size t cs::L,?_,SepL.new (c:=ab w.heap.size t cs) hw (Agr.of_ext ((Ext.refl w).alloc _)) fun _ S _=>⟨(· =w.heap.size),fun q e=> ?_,J,?_⟩,_,J,J⟩
 ·unfold execOp;simp only [Instr.alloc,XB,a,XA];rfl
 ·subst e;simp
 subst f;simpa using Blk.new w t v.cells
theorem MB: ∀(cs us:V4) (o:Nat),ow cs.toArray o us=(cs.take o++us++cs.drop (o+us.length)).toArray\/cs.length<o+us.length:=by
 intro cs us o;by_cases h:o+us.length<=cs.length
 ·left;apply Array.ext_getElem?;intro j;rw [NN us _ o j (by simpa using h)];simp only [WM,VT];by_cases a:j<o
  ·rw [if_neg W,WA (by rw [XJ];omega),WL,if_pos a]
  rw [WB (by rw [XJ];omega),XJ,show min o cs.length=o by omega];by_cases c:j<o+us.length
  ·rw [if_pos W,WA W]
  rw [if_neg W,WB W,WE]
  congr 1;omega
 right;omega
theorem bL {b o:Nat}{cs cs' us:V4}(i:Nat)(hi:L[i]? =some (ab b bt cs))(z:ao s x=some (.pointer (some ⟨b,o,none⟩)))(u:ao s y=some v)(A:v.cells.toList=us)(B:eI P t us.length=true)(D:us.all (·.oneCell')=true)(C:Nat.ble (o+us.length) cs.length=true)(hc':cs.take o++us++cs.drop (o+us.length)=cs'):OpX P s L ⟨d,.store t x y,ty,pos,af,gd⟩ fun _ L'=>L'=L.set i (ab b bt cs'):=fun ρ hρ Z w hw=>by
 obtain ⟨T,S,H,h⟩:=hw.get (bM hi);have c:=Xl C;obtain ⟨w',F,p,n⟩:=rh (P:=P) us w b o 0 cs.toArray h (by simpa using c) D;refine .inr (.inl ⟨w',_,?_,?_,J⟩)
 ·unfold execOp
  have f:v.cells=us.toArray:=by rw [<-A]
  simp only [hρ x _ z,hρ y _ u,Instr.storeAt,Instr.sureAddr,storeVar,XB,XC,XA,lP B w,f,List.size_toArray,ne_eq,not_true,if_false,F]
 have l:=SepL.upd (w':=w') hw (bM hi) (d:=ab b bt cs') fun T S ⟨m,K⟩ E _ _=>⟨Agr.of_fr p fun q a e=>a (e▸m),T,fun _=> .inl,fun q a=>Xo (E q a) p.size,m,by
   rcases MB cs us o with j|j
   ·rw [Nat.add_zero,j,hc'] at n;exact n
   ·omega⟩
 rw [gI Z hi] at l;exact l
end
end
section
open Go.RowKit
def Ro (L:V3)(S:Nat->Prop)(w:World):Prop:= ∀(i:Nat) (c:Chunk),L[i]? =some c->c.ro=true->c.ok (fun _=>False) S w
theorem SepT.ros {L:V3}{w:World}(h:SepT L T S w):Ro L S w:=fun _ c hi a=>c.dup a (h.ok hi)
theorem Ro.app {L Z:V3}{w:World}(h:Ro (L++Z) S w):Ro L S w:=fun i c hi a=>h i c (bM hi) a
theorem Ro.loc {L:V3}{w:World}(h:Ro L S w)(a:Agr S w w'):Ro L S w':=fun i c hi d=>c.loc (a.mono fun _ h=>h.elim False.elim id) (h i c hi d)
section
variable {s:au}{L:V3}{d:Option Nat}
theorem cB {R:Rep α}{vss:List V4}{xs:List α}(l:jT s D=some vs)(hr:∀w,(Instr.buildSlice t m vs.toArray).run P w=.ok (.slice (some ⟨w.heap.size,0,none⟩) m m) (w.alloc (.cells vss.flatten.toArray e)))(hm:xs.length=m)(f:Nat.ble m maxLen=true)(hrel:∀S w,Ro L S w->All2 (R.rel S w) vss xs):OpX P s L ⟨d,.buildSlice t m D.toArray,ty,pos,af,gd⟩ fun u L'=> ∃A n c,u=.slice A n c/\L'=aK R e (.slice A n c) xs::L:=fun ρ hρ Z w hw=>by
 have j:Ext w (w.alloc (.cells vss.flatten.toArray e)):=(Ext.refl w).alloc _;refine .inl ⟨_,w.alloc (.cells vss.flatten.toArray e),aK R e (.slice (some ⟨w.heap.size,0,none⟩) m m) xs::L,?_,?_,_,_,_,J,J⟩
 ·unfold execOp;simp only [WX,BJ hρ l,XB,hr,XA];rfl
 refine SepL.new hw (Agr.of_ext j) fun T S h=>⟨(· =w.heap.size),fun q a=>by subst a;simp,vss,hrel S _ (h.ros.app.loc (Agr.of_ext j)),.inl ⟨?_,fun q a=>by cases a;rfl⟩⟩
 subst hm;have i:=oE (hrel S w h.ros.app);exact .of ⟨i,.inr ⟨w.heap.size,xs.length,vss.flatten.toArray,J,Xt _,Blk.new w e _,Xm _,Xl f,by simpa using i,by rw [<-i];exact XL⟩⟩
theorem IE (sz:Nat)(w:World)(A:Option Addr)(c:Nat):(Builtin.firstCells sz 0 (.slice A 0 c)).run P w=.ok #[] w:=by
 unfold Builtin.firstCells;cases A
 ·simp
 simp [loadCells,loadCellsFrom]
theorem Qy {sz:TypeId}{cs:V4}{c:Nat}(d:P.underlying t=some (.slice e))(f:eI P e sz=true)(w:World)(hown:ownsX w e sz v n cs):(Builtin.append_ #[t,t] ty #[v,.slice A2 0 c]).run P w=.ok v w:=by
 have key: ∀(A:Option Addr) (cap:Nat),n<=cap->v=.slice A n cap->(Builtin.append_ #[t,t] ty #[v,.slice A2 0 c]).run P w=.ok v w:=by
  rintro A cap i rfl;unfold Builtin.append_;simp only [WM,WD,WC];rw [XB,XH d,XA];dsimp only;rw [XB,lP f,XA];rw [XB,XH d,XA];dsimp only;rw [XB,XC,XA];simp only [Wa,if_false,Bool.not_false,if_true];have l:(Builtin.lenOf (.slice A2 0 c)).run P w=.ok 0 w:=rfl;rw [XB,l,XA];rw [if_pos W];rw [XB,IE sz w A2 c,XA]
  cases A with
  |none=>rfl
  |some a=>simp [storeCells]
 rcases hown.2 with ⟨rfl,m⟩|⟨g,cap,o,rfl, -, -,j, -⟩
 ·subst m;exact key none 0 (Xm _) J
 exact key _ cap j J
theorem QE (w:World)(d:TypeInfo)(z:Value)(sz by_:Nat)(p:P.underlying t=some (.slice e))(hi:P.info? e=some d)(o:d.zero=some z)(C:d.size=sz)(B:d.bytes=by_)(q:z.cells.size=sz)(M:0<sz)(a:Addr)(m c:Nat)(news:V4)(f:news.length=m*sz)(hnews:∀j u,news[j]? =some u->w.cell? (a.add j)=some u)(L:∀u∈news,u.oneCell'=true)(hm:0<m)(l:m<=maxLen)(hb:m*by_<=140737488355328):
  ∃v' w',(Builtin.append_ #[t,t] ty #[.slice A 0 0,.slice (some a) m c]).run P w=.ok v' w'/\w'.ownsRow w.heap.size e sz v' m news/\w.grownBy w' none:=by
 cases A with
 |none=>
  obtain ⟨v',w',r1,E,D, -⟩:=run_append_own w w.heap.size t ty e d z sz by_ p hi o C B q M (Y none 0 0) 0 [] (World.ownsRow_nil ..) a m c news f hnews L W (by simpa using hb) (Xm _);exact ⟨v',w',r1,by simpa using E,D⟩
 | some b=>
  have F:m<=9223372036854775807:=by unfold maxLen at l;omega
  have hr:=run_append_grow (P:=P) w t ty e d z p hi o b 0 0 [] (by simp) (fun j u K=>by simp at K) a m c news (by rw [C];exact f) hnews W W (by rw [B];exact growslice_fits W (by simpa using hb));have i:=grownCap_ge w (0+m) 0 e;have n:=grownCap_le_maxLen w (0+m) 0 e (by simpa using l);refine ⟨_,_,hr,⟨f,.inr ⟨w.heap.size,grownCap w (0+m) 0 e,_,by simp only [Xs],Xm _,heap_alloc_new w.drew _,by simpa using i,by simpa using n,?_,?_⟩⟩,⟨J,J,J,by simp,fun k H _=>heap_alloc_old w.drew _ H⟩⟩
  ·simp only [Array.size_append,List.size_toArray,size_zeroCells,q,f,WS,Xs, <-Xi] at i⊢
   congr 1
   omega
  simp only [Array.toList_append,XN];rw [<-f];exact List.take_left
theorem Qp {sz:TypeId}{c:Nat}(d:P.underlying t=some (.slice e))(f:eI P e sz=true)(w:World):(Builtin.append_ #[t,t] ty #[.slice A 0 0,.slice A2 0 c]).run P w=.ok (.slice A 0 0) w:=by
 unfold Builtin.append_;simp only [WM,WD,WC];rw [XB,XH d,XA];dsimp only;rw [XB,lP f,XA];rw [XB,XH d,XA];dsimp only;rw [XB,XC,XA];simp only [Wa,if_false,Bool.not_false,if_true];have i:(Builtin.lenOf (.slice A2 0 c)).run P w=.ok 0 w:=rfl;rw [XB,i,XA];rw [if_pos W];rw [XB,IE sz w A2 c,XA]
 cases A with
 |none=>rfl
 |some a=>simp [storeCells]
theorem By (cs us:V4)(o:Nat)(h:o+us.length<=cs.length):(ow cs.toArray o us).toList=cs.take o++us++cs.drop (o+us.length):=by
 rcases MB cs us o with a|a
 ·rw [a]
 omega
theorem acY {cs:V4}(w:World)(d:TypeInfo)(z:Value)(sz by_:Nat)(D:P.underlying t=some (.slice e))(hi:P.info? e=some d)(K:d.zero=some z)(E:d.size=sz)(S:d.bytes=by_)(R:z.cells.size=sz)(X:0<sz)(o:ownsX w e sz v n cs)(a:Addr)(m c:Nat)(news:V4)(p:news.length=m*sz)(hnews:∀j u,news[j]? =some u->w.cell? (a.add j)=some u)(Q:∀u∈news,u.oneCell'=true)(h0:0<m)(B:n+m<=maxLen)(hb:(n+m)*by_<=140737488355328):
  ∃v' w',(Builtin.append_ #[t,t] ty #[v,.slice (some a) m c]).run P w=.ok v' w'/\ownsX w' e sz v' (n+m) (cs++news)/\w.grownBy w' v.ownBlock/\ ∀q,v'.ownBlock=some q->v.ownBlock=some q\/w.heap.size<=q:=by
 have row:w.ownsRow 0 e sz v n cs-> ∃v' w',(Builtin.append_ #[t,t] ty #[v,.slice (some a) m c]).run P w=.ok v' w'/\w'.ownsRow 0 e sz v' (n+m) (cs++news)/\w.grownBy w' v.ownBlock/\ ∀q,v'.ownBlock=some q->v.ownBlock=some q\/w.heap.size<=q:=fun o=>by
  obtain ⟨v',w',r1,H,F, -⟩:=run_append_own w 0 t ty e d z sz by_ D hi K E S R X v n cs o a m c news p hnews Q B hb (Xt _);refine ⟨v',w',r1,H,F,fun q l=> ?_⟩;rcases o.2 with ⟨rfl,a6⟩|⟨g,cap,i,rfl, -⟩
  ·rcases Xp q w.heap.size with A|f
   ·exfalso;subst a6;obtain ⟨v3,w3,C,T, -⟩:=run_append_own w w.heap.size t ty e d z sz by_ D hi K E S R X (Y none 0 0) 0 [] (World.ownsRow_nil ..) a m c news p hnews Q W (by simpa using hb) (Xm _);rw [r1] at C;simp only [Result.ok.injEq] at C;obtain ⟨rfl,rfl⟩:=C;have:=(World.ownsRow.lt T q l).1;omega
   exact .inr f
  rcases TR D r1 with h|⟨q',h,h'⟩
  ·rw [h] at l;cases l;exact .inl J
  rw [h] at l;cases l;exact .inr h'
 rcases o.2 with ⟨rfl,a6⟩|⟨g,cap,i,rfl,q1,V,q3,q4,⟨c0,c1,c2,c3⟩,U⟩
 ·obtain ⟨v',w',r1,H,F,r4⟩:=row ⟨o.1,.inl ⟨rfl,a6⟩⟩;exact ⟨v',w',r1,.of H,F,r4⟩
 rcases Xp cap (n+m) with A|f
 ·have hmm:n+m<=9223372036854775807:=by unfold maxLen at B;omega
  have hr:=run_append_grow (P:=P) w t ty e d z D hi K ⟨g,0,none⟩ n cap cs (by rw [E];exact o.1) (fun j u hj=>by rw [iH];exact qb (cap:=cap) V U j u hj) a m c news (by rw [E];exact p) hnews A W (by rw [S];exact growslice_fits A hb);have f:=grownCap_ge w (n+m) cap e;have O:=grownCap_le_maxLen w (n+m) cap e B
  have hlen:(cs++news).length=(n+m)*sz:=by rw [XI,o.1,p,Xi]
  refine ⟨_,_,hr,.of ⟨hlen,.inr ⟨w.heap.size,grownCap w (n+m) cap e,_,J,Xt _,heap_alloc_new w.drew _,f,O,?_,?_⟩⟩,⟨J,J,J,by simp,fun k M _=>heap_alloc_old w.drew _ M⟩,fun q l=>by cases l;exact .inr (Xm _)⟩
  ·simp only [Array.size_append,List.size_toArray,size_zeroCells,R,o.1,p, <-Xi] at f⊢
   congr 1
   omega
  simp only [Array.toList_append,VT];rw [<-VT, <-hlen];exact List.take_left
 subst E;have N:=run_firstCells_some (P:=P) w d.size m a m c news p hnews
 have L:(n+m)*d.size<=i.size:=by rw [c3];exact Xq _ W
 have hsum:n*d.size+news.length<=i.size:=by rw [p, <-Xi];exact L
 obtain ⟨w',s1,s2,Z⟩:=rh (P:=P) (t:=e) news w g (n*d.size) 0 i V W (Wi.2 Q)
 have hlen:(cs++news).length=(n+m)*d.size:=by rw [XI,o.1,p,Xi]
 refine ⟨.slice (some ⟨g,0,none⟩) (n+m) cap,w',?_,⟨hlen,.inr ⟨g,cap,_,J,Xt _,Z,f,q4,⟨c0,c1,c2,by rw [wh];exact c3⟩,?_⟩⟩,⟨s2.os,s2.tape,s2.output,s2.size,fun k M hn=>s2.block k M fun e=>hn (by rw [e];rfl)⟩,fun q l=> .inl l⟩
 ·simp [Builtin.append_,XH D,sizeOf,typeInfo,hi,Builtin.lenOf,f,N,Addr.add_lit,s1]
 have hcur:i=i.toList.toArray:=by simp
 rw [Nat.add_zero,hcur,By _ _ _ (by simp;omega),U, <-hlen,VT, <-VT];exact List.take_left
theorem vo {R:Rep α}{v2:Value}{xs ys:List α}{c2:Chunk}{sz by_ M:Nat}(i j:Nat)(hi:L[i]? =some (aK R e v xs))(U:L[j]? =some c2)(he:gi R v2 ys c2)(hx:ao s x=some v)(hy:ao s y=some v2)(ht:P.underlying t=some (.slice e))(K:iB P e sz by_=true)(hsz:R.sz=sz)(hM:Nat.ble M 1099511627776=true)(hby:Nat.ble (M*by_) 140737488355328=true)(hb:xs.length+ys.length<=M):OpX P s L ⟨d,.call ⟨.builtin .append, #[x,y], #[t,t]⟩,ty,pos,af,gd⟩ fun u L'=> ∃A n c,u=.slice A n c/\L'=L.set i (aK R e (.slice A n c) (xs++ys)):=fun ρ hρ Z w hw=>by
 have hbuilt:=kN (P:=P) (ρ:=ρ) (d:=d) (ty:=ty) (pos:=pos) (af:=af) (gd:=gd) (b:=.append) (xs:=[x,y]) (ats:= #[t,t]) (vs:=[v,v2]) (by simp [hρ x _ hx,hρ y _ hy]) w
 have hby':=Xl hby
 have hM':=Xl hM;unfold iB at K
 cases hinfo:P.info? e with
 |none=>rw [hinfo] at K;cases K
 | some E=>
  rw [hinfo] at K;simp only [XM] at K;obtain ⟨⟨⟨q2,q3⟩,X⟩,q5⟩:=K
  cases B:E.zero with
  |none=>rw [B] at X;cases X
  | some z=>
   rw [B] at X;have e2:=Xj q2;have e3:=Xj q3;have e4:=Xj X
   have e5:0<sz:=by have h6:1<=sz:=(by simpa [Nat.blt] using q5);omega
   have Q:eI P e sz=true:=by unfold eI;rw [hinfo];exact q2
   subst hsz;have O:=hw;obtain ⟨T,S,V⟩:=hw;have hc2:=V.ok (bM U);obtain ⟨vss1,g1,a6⟩:=V.ok (bM hi);obtain ⟨A2,cap2,rfl,k2,k3,k4⟩:=he _ _ _ hc2;rcases a6 with ⟨g2,g3⟩|⟨a8,N,rfl⟩
   rotate_left
   ·obtain rfl:xs=[]:=Wt a8;rcases Xk ys.length with m|m
    ·have F:ys=[]:=Wt m;subst F;refine .inl ⟨.slice N 0 0,w,L,?_,O,N,0,0,J,?_⟩
     ·rw [hbuilt];simp only [builtin,XB];have f:(Builtin.append_ #[t,t] ty [Value.slice N 0 0,.slice A2 ([]:List α).length cap2].toArray).run P w=.ok (.slice N 0 0) w:=Qp ht Q w;rw [f];rfl
     apply Wu;intro q;by_cases e:i=q
     ·subst e;rw [WK (WH.1 hi).1,hi];rfl
     rw [WJ e]
    obtain ⟨b,o,vss2,rfl,D,k6⟩:=k4 m;have hm:ys.length*by_<=140737488355328:=Xn (Xq by_ (by simpa using hb)) hby';obtain ⟨v',w',r1,p,a⟩:=QE (ty:=ty) (A:=N) w E z R.sz by_ ht hinfo B e2 e3 e4 e5 ⟨b,o,none⟩ ys.length cap2 vss2.flatten (oE D) (fun j u U=>by rw [iH];exact k6 j u U) (Wi.1 (FP D)) m (by simp only [WS] at hb;unfold maxLen;omega) hm
    have H: ∃A c,v'=.slice A ys.length c:=by
     rcases p.2 with ⟨rfl,h9⟩|⟨g,cap,C,rfl, -⟩
     ·omega
     exact ⟨_,cap,J⟩
    obtain ⟨A',c',hv'⟩:=H;refine .inl ⟨v',w',L.set i (aK R e v' ([]++ys)),?_,?_,A',_,c',hv',by rw [hv']⟩
    ·rw [hbuilt];simp only [builtin,XB];have f:(Builtin.append_ #[t,t] ty [Value.slice N 0 0,.slice (some ⟨b,o,none⟩) ys.length cap2].toArray).run P w=.ok v' w':=r1;rw [f];rfl
    have hfin:SepL ((L++Z).set i (aK R e v' ([]++ys))) w':=by
     refine V.upd (bM hi) (T':=fun q=>v'.ownBlock=some q) ⟨a.os,a.tape,a.output,a.size,fun q l _=>a.block q l fun e=>by cases e⟩ (fun q l=> .inr (World.ownsRow.lt p q l).1) (fun q l=>(World.ownsRow.lt p q l).2) ?_;have hS:Agr S w w':=⟨a.os,a.tape,a.output,a.size,fun q l _=>a.block q l fun e=>by cases e⟩;refine ⟨vss2,by rw [XN];exact D.imp fun _ _=>R.loc hS,.inl ⟨?_,fun _ h=>h⟩⟩;have r2':w'.ownsRow 0 e R.sz v' ys.length vss2.flatten:=⟨p.1,p.2.imp id fun ⟨g,cap,C,q1,_,q3⟩=>⟨g,cap,C,q1,Xt _,q3⟩⟩;simpa using ownsX.of r2'
    rw [gI Z hi] at hfin;exact hfin
   have hv: ∃A cap,v=.slice A xs.length cap:=by
    rcases g2.2 with ⟨rfl,m⟩|⟨g,cap,C,rfl, -⟩
    ·exact ⟨none,0,by rw [m]⟩
    exact ⟨_,cap,J⟩
   rcases Xk ys.length with m|m
   ·-- nothing is appended
    have F:ys=[]:=Wt m;subst F;obtain ⟨Av,capv,hv⟩:=hv
    have hset:L.set i (aK R e (.slice Av xs.length capv) (xs++ []))=L:=by
     rw [Wj, <-hv];apply Wu;intro q;by_cases e:i=q
     ·subst e;rw [WK (WH.1 hi).1,hi]
     rw [WJ e]
    refine .inl ⟨v,w,L,?_,O,Av,_,capv,hv,hset.symm⟩;rw [hbuilt];simp only [builtin,XB];have f:(Builtin.append_ #[t,t] ty [v,.slice A2 ([]:List α).length cap2].toArray).run P w=.ok v w:=Qy ht Q w g2;rw [f];rfl
   obtain ⟨b,o,vss2,rfl,D,k6⟩:=k4 m;have hm:(xs.length+ys.length)*by_<=140737488355328:=Xn (Xq by_ hb) hby';obtain ⟨v',w',r1,p,a,hnew⟩:=acY w E z R.sz by_ (ty:=ty) ht hinfo B e2 e3 e4 e5 g2 ⟨b,o,none⟩ ys.length cap2 vss2.flatten (oE D) (fun j u U=>by rw [iH];exact k6 j u U) (Wi.1 (FP D)) m (by unfold maxLen;omega) hm
   have H: ∃A c,v'=.slice A (xs.length+ys.length) c:=by
    rcases p.2 with ⟨rfl,h9⟩|⟨g,cap,C,rfl, -⟩
    ·omega
    exact ⟨_,cap,J⟩
   obtain ⟨A',c',hv'⟩:=H;refine .inl ⟨v',w',L.set i (aK R e v' (xs++ys)),?_,?_,A',_,c',hv',by rw [hv']⟩
   ·rw [hbuilt];simp only [builtin,XB];have f:(Builtin.append_ #[t,t] ty [v,.slice (some ⟨b,o,none⟩) ys.length cap2].toArray).run P w=.ok v' w':=r1;rw [f];rfl
   have hfin:SepL ((L++Z).set i (aK R e v' (xs++ys))) w':=by
    refine V.upd (bM hi) (T':=fun q=>v'.ownBlock=some q) ⟨a.os,a.tape,a.output,a.size,fun q l hn=>a.block q l fun e=>hn (g3 q e.symm)⟩ (fun q l=>(hnew q l).elim (fun h=> .inl (g3 q h)) .inr) (fun q l=>ownsX.lt p q l) ?_;have hS:Agr S w w':=⟨a.os,a.tape,a.output,a.size,fun q l hn=>a.block q l fun e=>V.ro (g3 q e.symm) hn⟩;exact ⟨vss1++vss2,(g1.imp fun _ _=>R.loc hS).append (D.imp fun _ _=>R.loc hS),.inl ⟨by rw [List.flatten_append,XI];exact p,fun _ h=>h⟩⟩
   rw [gI Z hi] at hfin;exact hfin
theorem cG {R:Rep α}{l:Value}{xs ys:List α}{c2:Chunk}{sz by_:Nat}(i j:Nat)(hi:L[i]? =some (aK R e v xs))(z:L[j]? =some c2)(B:gi R l ys c2)(p:ao s x=some v)(o:ao s y=some l)(q:P.underlying t=some (.slice e))(m:iB P e sz by_=true)(a:R.sz=sz)(f:Nat.ble by_ 127=true)(hb:xs.length+ys.length<=1099511627776):OpX P s L ⟨d,.call ⟨.builtin .append, #[x,y], #[t,t]⟩,ty,pos,af,gd⟩ fun u L'=> ∃A n c,u=.slice A n c/\L'=L.set i (aK R e (.slice A n c) (xs++ys)):=
 vo (M:=1099511627776) i j hi z B p o q m a (by decide) (by have h:=Xl f;apply Nat.ble_eq_true_of_le;omega) hb
end
end
section
open Go.RowKit
theorem CellsAt.left {w:World}{b o:Nat}{l m:V4}(h:CellsAt w b o (l++m)):CellsAt w b o l:=fun j u a=>h j u (by rw [WA (WH.1 a).1];exact a)
theorem CellsAt.drop {w:World}{b o:Nat}{l:V4}(h:CellsAt w b o l)(k:Nat):CellsAt w b (o+k) (l.drop k):=fun j u a=>by
 rw [WE] at a;rw [Nat.add_assoc];exact h _ _ a
theorem SlR.cut {R:Rep α}{w:World}{c:Nat}{xs:List α}(h:SlR R S w (.slice A n c) xs)(l m:Nat)(B:l<=m)(z:m<=xs.length):SlR R S w (.slice (dk A c l R.sz) (m - l) (c - l)) ((xs.drop l).take (m - l)):=by
 obtain ⟨E,c',e,D,C,p⟩:=h
 injection e with u t q
 subst u t q
 have hlen:((xs.drop l).take (m - l)).length=m - l:=by rw [XJ,WQ];omega
 refine ⟨dk A c l R.sz,c - l,by rw [hlen],by omega,by omega,fun j=> ?_⟩;rw [hlen] at j;obtain ⟨b,o,vss,rfl,k1,k2,d,i⟩:=p W
 have a: ¬c=l:=by omega
 refine ⟨b,o+l*R.sz,(vss.drop l).take (m - l),?_,k1,k2,(d.drop l).take _,?_⟩
 ·unfold dk;rw [if_neg a];simp [iH]
 have f:=i.drop (l*R.sz);rw [<-AI d l, <-Xe (m - l) (vss.drop l),List.flatten_append] at f;exact f.left
section
variable {s:au}{L:V3}{d:Option Nat}
def Od (ro rw:List Nat)(L:V3):V3:=ro.filterMap (fun i=>L[i]?)++rw.filterMap (fun i=>L[i]?)
def GM (keep:List Nat)(k:Nat)(L:V3):V3:=keep.filterMap (fun i=>L[i]?)++L.drop k
def NJ (ro rw keep:List Nat)(k:Nat)(L:V3):Bool:=ro.all (fun i=>match L[i]? with|some c=>c.ro|none=>false)&&nr (rw++keep) k&&Nat.ble k L.length
theorem f0 (ro rw keep:List Nat)(k:Nat)(h:NJ ro rw keep k L=true):Cv L (Od ro rw L++GM keep k L):=fun Z w hw=>by
 unfold NJ at h;simp only [XM,Wi] at h;obtain ⟨⟨z,d⟩,p⟩:=h;obtain ⟨T,S,n⟩:=hw;have f:=n.ros.app;have hsel:=ql (rw++keep) k d p;have hl':k<=L.length:=Xl p;obtain ⟨T',o⟩:=n.sel (rw++keep) k d (by simp;omega)
 have e:ln (rw++keep) k (L++Z)=(rw.filterMap (fun i=>L[i]?)++GM keep k L)++Z:=by
  have A: ∀ix:List Nat,(∀i∈ix,i<L.length)->ix.filterMap (fun i=>(L++Z)[i]?)=ix.filterMap (fun i=>L[i]?):=by
   intro ix
   induction ix with
   |nil=>intro _;rfl
   |cons i r q=>intro hi;have:=q fun j t=>hi j (by simp [t]);simp only [List.filterMap_cons,WA (hi i (by simp)),this]
  unfold nr at d;simp only [XM,Wi] at d
  have l: ∀i∈rw++keep,i<L.length:=fun i hi=>by have B:i+1<=k:=Xl (d.1 i hi);omega
  unfold ln GM;rw [List.drop_append_of_le_length hl',A _ l,List.filterMap_append];simp only [VT]
 rw [e] at o
 obtain ⟨m,l⟩:=SepL.facts (ro.filterMap (fun i=>L[i]?)) o (fun c u=>by
  obtain ⟨i,hi,a⟩:=List.mem_filterMap.1 u;have:=z i hi;rw [a] at this;exact f i c a this)
 refine ⟨m,S,?_⟩;unfold Od;simpa only [VT] using l
theorem kR {vs:V4}{a rest:V3}{R:Value->V3->Prop}(c:Okc P f vs a R)(i:eu s xs=some vs)(j:Cv L (a++rest)):OpX P s L ⟨d,.call ⟨.value (.func f),xs.toArray,ats⟩,ty,pos,af,gd⟩ fun u L'=> ∃post,R u post/\L'=post++rest:=fun ρ hρ Z w hw=>by
 refine .inr (.inr (.inl ⟨f,vs.toArray,EX c.cal (iZ hρ i) (hρ _ _ J),?_⟩))
 have n:Sp (rest++Z) a w:=by have:=j Z w hw;unfold Sp at*;simpa only [VT] using this
 refine (c.run _ w n).mono ?_;rintro e w' ⟨v,post,rfl,m,l⟩;exact ⟨v,post++rest,J,by unfold Sp at*;simpa only [VT] using m,post,l,rfl⟩
def bP (c:Chunk):Prop:= ∀T S S' w,c.ok T S w->c.ok T S' w
theorem iU {sz:Nat}{en:α->V4}{c:∀x,(en x).length=sz}{a:∀x,(en x).all (·.oneCell')=true}{xs:List α}:bP (aK (Rep.flat sz en c a) e v xs):=fun T S S' w ⟨vss,f,d⟩=>⟨vss,f.imp fun _ _ h=>h,d⟩
def gw (L:V3)(c:Chunk):Prop:= ∀T S w,SepT L T S w->c.ok (fun _=>False) (fun q=>q<w.heap.size) w
theorem bK {c:Chunk}(hi:L[i]? =some c)(d:c.ro=true):gw L c:=fun T S w h=>c.mono (fun _ a=>h.lts a) (c.dup d (h.ok hi))
theorem cM {R:Rep α}{xs:List α}(hi:L[i]? =some (aK R e v xs)):gw L (aL R v xs):=fun T S w h=>by
 obtain ⟨vss,l,c⟩:=h.ok hi;rcases c with ⟨c, -⟩|⟨d,A,rfl⟩
 ·rcases c.2 with ⟨rfl,d⟩|⟨g,cap,a,rfl,q,f,o,n,p,m⟩
  ·exact ⟨none,0,by rw [d],by omega,by omega,fun h=>absurd h W⟩
  exact ⟨_,cap,J,o,by unfold maxLen at n;omega,fun _=>⟨g,0,vss,rfl,Blk.lt (t:=e) (cs:=a) f,Blk.lt (t:=e) (cs:=a) f,l.imp fun _ _=>R.mono fun _ j=>h.lts j,qb (cap:=cap) f m⟩⟩
 exact ⟨A,0,by rw [d],by omega,by omega,fun h=>absurd h W⟩
theorem LL {R:Rep α}:gw L (aL R (Y none 0 0) ([]:List α)):=fun T S w h=>BL R _ w
theorem Bc {vs:V4}{l:V3}{R:Value->V3->Prop}(C:Okc P f vs l R)(M:∀c∈l,gw L c)(B:∀v post,R v post-> ∀c∈post,bP c): ∀Z w,Sp Z L w->Calls P f vs.toArray w fun e w'=> ∃v post,e=.returned v/\Sp Z (post++L) w'/\R v post:=fun Z w hw=>by
 obtain ⟨T,S,d⟩:=hw;have D:SepT L T S w:=⟨fun hi=>d.ok (bM hi),d.apart,d.ro,d.lt,d.lts⟩
 have N:Sp [mn w] l w:=by
  refine ⟨fun _ _=>False,fun q=>q<w.heap.size,?_,fun _ h=>h.elim,fun h=>h.elim,fun h=>h.elim,fun h=>h⟩;intro i c hi;rcases Xp i l.length with m|p
  ·rw [WA m] at hi;exact M c (W4 hi) T S w D
  rw [WB p] at hi
  have C:c=mn w:=by
   cases F:i - l.length with
   |zero=>rw [F] at hi;simpa using hi.symm
   |succ k=>rw [F] at hi;simp at hi
  subst C;exact ⟨Ext.refl w,fun _ h=>h⟩
 refine (C.run _ w N).mono ?_;rintro e w' ⟨v,post,rfl,⟨T',S',t⟩,H⟩;have hold:(mn w).ok (T' post.length) S' w':=t.ok (by simp);obtain ⟨z,E⟩:=hold;refine ⟨v,post,J,⟨fun i q=>if i<post.length then T' i q else T (i - post.length) q,S,?_,?_,?_,?_,fun K=>Xo (d.lts K) z.size⟩,H⟩
 ·intro i c hi;rw [VT] at hi;rcases Xp i post.length with m|p
  ·rw [WA m] at hi;have a:=t.ok (show (post++ [mn w])[i]? =some c by rw [WA m];exact hi);simp only [m,if_true];exact B v post H c (W4 hi) _ _ _ _ a
  rw [WB p] at hi;simp only [show¬i<post.length by omega,if_false];exact c.loc (Agr.of_ext z) (d.ok hi)
 ·intro i j q A a n;by_cases o:i<post.length<;>by_cases u:j<post.length
  ·simp only [o,u,if_true] at a n;exact t.apart A a n
  ·simp only [o,u,if_true,if_false] at a n;exact t.ro a (E q (d.lt n))
  ·simp only [o,u,if_true,if_false] at a n;exact t.ro n (E q (d.lt a))
  simp only [o,u,if_false] at a n;exact d.apart W a n
 ·intro i q a n;by_cases o:i<post.length
  ·simp only [o,if_true] at a;exact t.ro a (E q (d.lts n))
  simp only [o,if_false] at a;exact d.ro a n
 intro i q a;by_cases o:i<post.length
 ·simp only [o,if_true] at a;exact t.lt a
 simp only [o,if_false] at a;exact Xo (d.lt a) z.size
theorem co {vs:V4}{a:V3}{R:Value->V3->Prop}(j:Okc P f vs a R)(l:eu s xs=some vs)(m:∀c∈a,gw L c)(i:∀v post,R v post-> ∀c∈post,bP c):OpX P s L ⟨d,.call ⟨.value (.func f),xs.toArray,ats⟩,ty,pos,af,gd⟩ fun u L'=> ∃post,R u post/\L'=post++L:=fun ρ hρ Z w hw=>by
 refine .inr (.inr (.inl ⟨f,vs.toArray,EX j.cal (iZ hρ l) (hρ _ _ J),?_⟩));refine (Bc j m i Z w hw).mono ?_;rintro e w' ⟨v,post,rfl,o,n⟩;exact ⟨v,post++L,J,o,post,n,J⟩
theorem aW {p:Chunk->Prop}: ∀c∈([]:V3),p c:=fun _ h=>by cases h
theorem t9 {p:Chunk->Prop}{c:Chunk}{l:V3}(e:p c)(a:∀c∈l,p c): ∀d∈c::l,p d:=fun d h=>by
 rcases WZ.1 h with rfl|h
 ·exact e
 exact a d h
end
section
variable {X:Cx}{R:Value->V3->Prop}{s:au}{L L2:V3}
theorem dV {t:Nat}(hr:F.results= #[.tmp t])(c:cq s t=some v)(d:Cv L L2)(h:R v L2):ts X F R .ret s L:=fun a e=>⟨v,L2,fun _ _ _=>by unfold results;rw [hr];simpa using e.at_ t v c,d,h⟩
theorem kY {t u:Nat}{x:Value}(hr:F.results= #[.tmp t,.tmp u])(d:cq s t=some v)(hm:cq s u=some x)(e:Cv L L2)(h:R (.tuple #[v,x]) L2):ts X F R .ret s L:=fun a c=>⟨_,L2,fun _ _ _=>by unfold results;rw [hr];simpa using And.intro (c.at_ t v d) (c.at_ u x hm),e,h⟩
end
def ak (xs:List α)(i:Int):Option α:=if i<0 then none else xs[i.toNat]?
theorem jz {xs:List α}{i:Int}{x:α}(h:ak xs i=some x):0<=i/\i<xs.length/\xs[i.toNat]? =some x:=by
 unfold ak at h;split at h
 ·cases h
 have:=(WH.1 h).1;exact ⟨by omega,by omega,h⟩
def ae {ρ:Type}(b:Prop)[Decidable b](m:Option ρ):Option ρ:=if b then m else none
theorem ai {ρ:Type}{b:Prop}[Decidable b]{m:Option ρ}{r:ρ}(h:ae b m=some r):b/\m=some r:=by
 unfold ae at h;split at h
 ·exact ⟨‹_›,h⟩
 cases h
abbrev in64 (z:Int):Prop:= -9223372036854775808<=z/\z<=9223372036854775807
abbrev bC (n:Nat):Prop:=n<=1099511627776
theorem ad {m:Option α}{f:α->Option β}{r:β}(h:m.bind f=some r): ∃x,m=some x/\f x=some r:=Option.bind_eq_some_iff.1 h
theorem du {ρ:Type}{b:Bool}{x y r:Option ρ}(hb:b=true)(h:(bif b then x else y)=r):x=r:=by rw [hb] at h;exact h
theorem dt {ρ:Type}{b:Bool}{x y r:Option ρ}(hb:b=false)(h:(bif b then x else y)=r):y=r:=by rw [hb] at h;exact h
end
section
open Go.RowKit
section
variable {r:Option Nat}
theorem Gm (r:Option Nat)(ρ:Operand->Value)(a:bQ o=true):o.semAt (eO r).round ρ=execOp ρ o:=Oper.semAt_eq _ _ _ fun c d=>by unfold bQ at a;rw [d] at a;cases a
theorem MK (hi:ops[i]? =some o)(e:bQ o=true)(c:YieldsC P ops C o v a){K:Act->World->Prop}{w:World}(f:C w)(h:K (a.put o.dst v) w):wpOpIn (eO r) 0 P ops Q i K a w:=by
 unfold Go.wpOpIn;simp only [hi];rcases c with ⟨hw,d⟩|⟨hw,rfl⟩
 ·simp only [hw,if_true,Oper.wpIn,Gm r _ e,d w f,Oper.uponIn];exact ⟨fun _ _=>trivial,h⟩
 simp only [hw,Wa,if_false];exact ⟨fun _ _=>trivial,h⟩
theorem RS (H:ops[j]? =some oj)(p:bQ oj=true)(z:oi.apart ops oj=true)(t:∀cs b,oi.op≠ .select cs b)(q:∀cs b,oj.op≠ .select cs b)(A:∀c a w, ¬Q (.panic c) a w){K:Act->World->Prop}{w:World}(m:YieldsC P ops C oi v a)(h:wpOpIn (eO r) 0 P ops Q j (fun a w=>C w/\K a w) (a.put oi.dst v) w):wpOpIn (eO r) 0 P ops Q j (fun E w'=>C w'/\YieldsC P ops C oi v E/\K (E.put oi.dst v) w') a w:=by
 obtain ⟨D,n,B⟩:=Oper.apart_spec z
 have keep: ∀(a:Act),YieldsC P ops C oi v a-> ∀u,YieldsC P ops C oi v (a.put oj.dst u):=fun a m u=>m.of_same (execOp_put oi t a oj.dst u B) (wanted_put oi a oj.dst u B)
 have keepD: ∀d,YieldsC P ops C oi v {a with defers:=d::a.defers}:=fun d=>m.of_same rfl rfl
 unfold wpOpIn at*;simp only [H] at*;rw [wanted_put oj a oi.dst v D] at h;split
 ·rename_i hw
  simp only [hw,if_true] at h;unfold Oper.wpIn at*;refine ⟨fun _ _=>trivial,?_⟩;have h:=h.2;rw [Gm r _ p,execOp_put oj q a oi.dst v D] at h;rw [Gm r _ p];generalize (execOp a.eval oj).run P w=F at*
  cases F with
  | ok x w'=>
   cases x<;>simp only [Oper.uponIn] at h⊢
   case value u=>exact ⟨h.1,keep a m u,by rw [<-Act.put_comm a v u n];exact h.2⟩
   case skip=>exact ⟨h.1,keep a m _,by rw [<-Act.put_comm a v undef n];exact h.2⟩
   case defer d=>
    refine ⟨h.1,keep _ (keepD d) _,?_⟩;rw [<-Act.put_comm _ v undef n, <-Act.put_defers];exact h.2
   case enter f args=>
    refine ⟨h.1,CallsIn.mono h.2 fun e o i=> ?_⟩
    cases e with
    |returned u=>exact ⟨i.1,keep a m u,by rw [<-Act.put_comm a v u n];exact i.2⟩
    |panicked c=>exact absurd i (A _ _ _)
    |outgrown=>exact i
   case row row args=>exact ⟨h.1,RowsIn.mono h.2 fun u o i=>⟨i.1,keep a m u,by rw [<-Act.put_comm a v u n];exact i.2⟩⟩
   case round l f tmps assign body=>
    refine ⟨h.1,RoundIn.mono h.2 fun e o i=> ?_⟩
    cases e with
    |returned u=>exact ⟨i.1,keep a m u,by rw [<-Act.put_comm a v u n];exact i.2⟩
    |panicked c=>exact absurd i (A _ _ _)
    |outgrown=>exact i
  |halt x w'=>
   cases x<;>simp only [Oper.uponIn] at h⊢
   case panic u=>exact absurd h (A _ _ _)
 rename_i hw
 simp only [hw] at h;exact ⟨fun _ _=>trivial,h.2.1,keep a m _,by rw [<-Act.put_comm a v undef n];exact h.2.2⟩
def qx (ops:Array Oper)(listed:Array Bool)(i:Nat):Bool:=match ops[i]? with
 |some o=>(List.range listed.size).all fun j=> !listed.getD j false||o.after.any fun e=>Region.binds .any e&&e.on==j
 |none=>false
theorem abh (f:ops[j]? =some oj)(hi:i<listed.size)(a:∀e∈oj.after,Region.binds .any e=true->e.on≠i): ¬qx ops (listed.setIfInBounds i true) j=true:=by
 unfold qx;rw [f];intro h;have c:=Wi.1 h i (by simpa using hi)
 have n:(listed.setIfInBounds i true).getD i false=true:=by simp [hi]
 rw [n] at c;simp only [Bool.not_true,Bool.false_or,Array.any_eq_true,XM,beq_iff_eq] at c;obtain ⟨k,d,m,l⟩:=c;exact a _ (Array.getElem_mem d) m l
def ns (r:Option Nat)(P:Program)(ops:Array Oper)(Q:Exit->Act->World->Prop)(C:World->Prop):Nat->Array Bool->Act->World->Prop
 |0,listed,a,w=>Region.ready .any ops listed=[]/\Q .normal a w
 |B+1,listed,a,w=>(Region.ready .any ops listed=[]->Q .normal a w)/\ ∀i∈Region.ready .any ops listed,wpOpIn (eO r) 0 P ops Q i (fun c w'=>(C w'/\ns r P ops Q C B (listed.setIfInBounds i true) c w')\/(qx ops listed i=true/\wpAnyIn (eO r) 0 P .any ops Q B (listed.setIfInBounds i true) c w')) a w
theorem AQ: ∀(B:Nat) (listed:Array Bool) (a:Act) (w:World),ns r P ops Q C B listed a w->wpAnyIn (eO r) 0 P .any ops Q B listed a w
 |0,_,_,_,h=>h
 |B+1,listed,a,w,h=>⟨h.1,fun i hi=>wpOpIn_mono (fun a w c=>c.elim (fun c=>AQ B _ a w c.2) (fun c=>c.2)) (h.2 i hi)⟩
theorem AG {e:World->Prop}(d:∀w,e w->C w): ∀(B:Nat) (listed:Array Bool) (a:Act) (w:World),ns r P ops Q e B listed a w->ns r P ops Q C B listed a w
 |0,_,_,_,h=>h
 |B+1,listed,a,w,h=>⟨h.1,fun i hi=>wpOpIn_mono (fun a w c=>c.imp (fun c=>⟨d _ c.1,AG d B _ a w c.2⟩) id) (h.2 i hi)⟩
theorem E8 (hi:ops[i]? =some oi)(m:∀(j:Nat) (o:Oper),ops[j]? =some o->bQ o=true)(hsel:∀(j:Nat) (o:Oper) cs b,ops[j]? =some o->o.op≠ .select cs b)(S:∀c a w, ¬Q (.panic c) a w):
  ∀(B:Nat) (listed:Array Bool) (a:Act) (w:World),C w->
   (∀j oj,ops[j]? =some oj->j≠i->listed.getD j true=false->(∀e∈oj.after,Region.binds .any e=true->e.on≠i)->oi.apart ops oj=true)->
   i∈Region.ready .any ops listed->YieldsC P ops C oi v a->
   ns r P ops Q C B (listed.setIfInBounds i true) (a.put oi.dst v) w->ns r P ops Q C (B+1) listed a w:=by
 intro B
 induction B with
 |zero=>
  intro listed a w t _ hr u H;refine ⟨fun h=>(by rw [h] at hr;cases hr),fun j z=> ?_⟩;by_cases d:j=i
  ·subst d;exact MK hi (m _ _ hi) u t (.inl ⟨t,H⟩)
  have:=ready_mono z d;rw [H.1] at this;cases this
 | succ B M=>
  intro listed a w t hfree hr u H;refine ⟨fun h=>(by rw [h] at hr;cases hr),fun j z=> ?_⟩;by_cases d:j=i
  ·subst d;exact MK hi (m _ _ hi) u t (.inl ⟨t,H⟩)
  have l:=H.2 j (ready_mono z d);obtain ⟨hjun,oj,f,hall⟩:=mem_ready.1 z
  have hnot: ∀e∈oj.after,Region.binds .any e=true->e.on≠i:=fun e R hb L=>by
   have l:=hall e R hb;have D:=(mem_ready.1 hr).1;rw [L] at l;rcases Xp i listed.size with n|n
   ·simp [n] at D l;rw [D] at l;cases l
   simp [V8 n] at l
  have F:i<listed.size:=by
   have D:=(mem_ready.1 hr).1;rcases Xp i listed.size with n|n
   ·exact n
   simp [V8 n] at D
  replace l:=wpOpIn_mono (fun a w O=>O.resolve_right fun hb=>abh f F hnot hb.1) l;have T:=RS f (m _ _ f) (hfree j oj f d hjun hnot) (fun cs b=>hsel i oi cs b hi) (fun cs b=>hsel j oj cs b f) S u l
  have hfree': ∀k ok,ops[k]? =some ok->k≠i->(listed.setIfInBounds j true).getD k true=false->
    (∀e∈ok.after,Region.binds .any e=true->e.on≠i)->oi.apart ops ok=true:=fun k ok N K p E=>by
   refine hfree k ok N K ?_ E;by_cases q:j=k
   ·subst q;exact hjun
   rw [getD_set_ne true q] at p;exact p
  refine wpOpIn_mono (fun U w' A=> .inl ⟨A.1,M (listed.setIfInBounds j true) U w' A.1 hfree' (ready_mono hr (Ne.symm d)) A.2.1 ?_⟩) T;rw [Array.setIfInBounds_comm _ _ d];exact A.2.2
end
def CM (M:V3)(w:World):Prop:= ∃Z,Sp Z M w
def mj (K:K3):K3:=fun e s L=>e=.normal/\K .normal s L
def GT (ops:Array Oper):Bool:=ops.all bQ
def bv (X:Cx)(ops:Array Oper)(K:K3)(M:V3)(B:Nat)(listed:Array Bool)(s:au)(L:V3):Prop:=Cv L M-> ∀(H:V3) (c:List Nat) (a:Act) (w:World),Fx X s a->a.defers=c.map kZ->Sp (c.map cO++H) L w->ns X.r X.P ops (iD X H (mj K)) (CM M) B listed a w
def jQ (ops:Array Oper)(listed:Array Bool)(i:Nat):Bool:=GT ops&&Region.noSelect ops&&Region.free .any ops listed i&&(Region.ready .any ops listed).contains i
theorem AD (h:GT ops=true)(j:Nat)(o:Oper)(a:ops[j]? =some o):bQ o=true:=Array.all_eq_true_iff_forall_mem.1 h o (Array.mem_of_getElem? a)
section
variable {X:Cx}{K:K3}{M:V3}{s:au}{L:V3}{d:Nat}{op:Op}
theorem gb (i:Nat)(hi:ops[i]? =some ⟨some d,op,ty,pos,af,gd⟩)(e:jQ ops listed i=true)(h:Rd X.P s M ⟨some d,op,ty,pos,af,gd⟩ v)(n:bu ops s ⟨some d,op,ty,pos,af,gd⟩=some true)(p:Nat.ble (d+1) X.n=true)(k:bv X ops K M B (listed.setIfInBounds i true) ((d,v)::s) L):bv X ops K M (B+1) listed s L:=by
 intro l H D a w j f hw;unfold jQ at e;simp only [XM] at e;obtain ⟨⟨⟨C,A⟩,z⟩,t⟩:=e;refine E8 hi (AD C) (Region.noSelect_spec A) (fun c a w ⟨_,_,_,_,_,_,o,_⟩=>(by cases o)) B listed a w ⟨_,l _ _ hw⟩ (Region.free_spec hi z) (by simpa using t) (.inl ⟨lI j n,fun w ⟨Z,q⟩=>h Z w q a.eval (fun x u m=>j.eval m) w J⟩) ?_;exact k l H D _ _ (j.put v (Xl p)) f hw
theorem ei (i:Nat)(hi:ops[i]? =some ⟨some d,op,ty,pos,af,gd⟩)(a:jQ ops listed i=true)(h:Ev X.P s (fun _=>True) ⟨some d,op,ty,pos,af,gd⟩ v)(c:bu ops s ⟨some d,op,ty,pos,af,gd⟩=some true)(e:Nat.ble (d+1) X.n=true)(k:bv X ops K M B (listed.setIfInBounds i true) ((d,v)::s) L):bv X ops K M (B+1) listed s L:=gb i hi a (fun _ _ _ ρ hρ w _=>h ρ hρ w trivial) c e k
theorem cT (i:Nat)(hi:ops[i]? =some ⟨some d,op,ty,pos,af,gd⟩)(e:jQ ops listed i=true)(m:bu ops s ⟨some d,op,ty,pos,af,gd⟩=some false)(o:Nat.ble (d+1) X.n=true)(k:bv X ops K M B (listed.setIfInBounds i true) ((d,undef)::s) L):bv X ops K M (B+1) listed s L:=by
 intro j H z a w l f hw;unfold jQ at e;simp only [XM] at e;obtain ⟨⟨⟨u,t⟩,q⟩,p⟩:=e;refine E8 hi (AD u) (Region.noSelect_spec t) (fun c a w ⟨_,_,_,_,_,_,n,_⟩=>(by cases n)) B listed a w ⟨_,j _ _ hw⟩ (Region.free_spec hi q) (by simpa using p) (.inr ⟨lI l m,J⟩) ?_;exact k j H z _ _ (l.put undef (Xl o)) f hw
def o7 (X:Cx)(ops:Array Oper)(K:K3)(M:V3)(B:Nat)(listed:Array Bool)(s:au)(L:V3)(i:Nat):Prop:=Cv L M-> ∀(H:V3) (d:List Nat) (a:Act) (w:World),Fx X s a->a.defers=d.map kZ->Sp (d.map cO++H) L w->wpOpIn (eO X.r) 0 X.P ops (iD X H (mj K)) i (fun c w'=>(CM M w'/\ns X.r X.P ops (iD X H (mj K)) (CM M) B (listed.setIfInBounds i true) c w')\/(qx ops listed i=true/\wpAnyIn (eO X.r) 0 X.P .any ops (iD X H (mj K)) B (listed.setIfInBounds i true) c w')) a w
theorem Bt {R:Value->V3->Prop}(hi:ops[i]? =some o)(h:OpX X.P s L o R)(l:bQ o=true)(m:bu ops s o=some true)(n:tc X.n o.dst=true)(k:∀v L',R v L'-> ∃M',Cv L' M'/\Cv M' M/\bv X ops K M' B (listed.setIfInBounds i true) (putE o.dst v s) L'):o7 X ops K M B listed s L i:=by
 intro z H u a w d c hw;unfold wpOpIn;rw [hi];simp only [lI d m,if_true];refine h.wpIn l d hw fun v L' w' t j=> ?_
 obtain ⟨M',f,e,q⟩:=k v L' t;exact .inl ⟨⟨_,e _ _ (f _ _ j)⟩,AG (fun w ⟨Z,p⟩=>⟨Z,e _ _ p⟩) _ _ _ _ (q f H u _ _ (d.putE v n) ((put_defers _ _ _).trans c) j)⟩
theorem Cl (i:Nat){R:Value->V3->Prop}(hi:ops[i]? =some o)(hr:Region.ready .any ops listed=[i])(h:OpX X.P s L o R)(e:bQ o=true)(f:bu ops s o=some true)(l:tc X.n o.dst=true)(k:∀v L',R v L'-> ∃M',Cv L' M'/\Cv M' M/\bv X ops K M' B (listed.setIfInBounds i true) (putE o.dst v s) L'):bv X ops K M (B+1) listed s L:=
 fun m H p a w n c hw=>⟨fun h=>absurd (hr.symm.trans h) (by simp),fun j d=>by
  rw [hr,W8] at d;subst d;exact Bt hi h e f l k m H p a w n c hw⟩
theorem NP (i:Nat){R:Value->V3->Prop}(hi:ops[i]? =some o)(hr:Region.ready .any ops listed=[i])(hb:qx ops listed i=true)(h:OpX X.P s L o R)(f:bQ o=true)(l:bu ops s o=some true)(m:tc X.n o.dst=true)(k:∀v L',R v L'->bv X ops K L' B (listed.setIfInBounds i true) (putE o.dst v s) L'):bv X ops K M (B+1) listed s L:=
 fun t H q a w d c hw=>⟨fun h=>absurd (hr.symm.trans h) (by simp),fun j e=>by
  rw [hr,W8] at e;subst e;unfold wpOpIn;rw [hi];simp only [lI d l,if_true];refine h.wpIn f d hw fun v L' w' p n=> ?_
  exact .inr ⟨hb,AQ _ _ _ _ (k v L' p (ah _) H q _ _ (d.putE v m) ((put_defers _ _ _).trans c) n)⟩⟩
theorem nh (i j:Nat)(hr:Region.ready .any ops listed=[i,j])(n:o7 X ops K M B listed s L i)(m:o7 X ops K M B listed s L j):bv X ops K M (B+1) listed s L:=
 fun e H l a w f c hw=>⟨fun h=>absurd (hr.symm.trans h) (by simp),fun q d=>by
  rw [hr] at d;simp only [WZ,List.not_mem_nil,or_false] at d;rcases d with rfl|rfl
  ·exact n e H l a w f c hw
  ·exact m e H l a w f c hw⟩
theorem cJ (hr:Region.ready .any ops listed=[])(h:K .normal s L):bv X ops K M B listed s L:=by
 intro i H f a w e c hw;have d:iD X H (mj K) .normal a w:=⟨s,L,f,e,c,hw,rfl,h⟩
 cases B with
 |zero=>exact ⟨hr,d⟩
 |succ n=>exact ⟨fun _=>d,by rw [hr];simp⟩
theorem jg {t:au}{L':V3}(h:bv X ops K M B listed t L')(d:dK s t)(e:Cv L L')(hm:Cv L' M):bv X ops K M B listed s L:=fun _ H i a w f c hw=>h hm H i a w (f.sub d) c (e _ _ hw)
def jd (l:Array Bool)(ix:List Nat):Array Bool:=ix.foldl (fun l i=>l.setIfInBounds i true) l
theorem wq (d:Nat)(e:cq s d=some (.bool g))(c:g=true->bv X ops K M B listed s L)(a:g=false->bv X ops K M B listed s L):bv X ops K M B listed s L:=by
 cases g with
 |true=>exact c rfl
 |false=>exact a rfl
theorem fg {L':V3}(a:Cv L L')(hm:Cv L' M)(h:bv X ops K M B listed s L'):bv X ops K M B listed s L:=jg h dG a hm
theorem cv_tl {c:Chunk}:Cv (c::L) L:=fun Z w h=>by
 have:=SepL.pick (L':=L++Z) h (· +1) (fun j c a=>by simpa using a) (fun i j _ _ e=>by omega);exact this
theorem cy {id:Nat}(hm:X.P.follows .mixedOrders=true)(M:V3)(m:Cv L M)(h:bv X l.toArray K M l.length (Array.replicate l.length false) s L):Wq X (.region id l.toArray true) K s L:=by
 intro H f a w j d hw;have c:Sp (f.map cO++H) L {w with drawn:=w.drawn+1}:=SepL.same hw ⟨rfl,rfl,rfl,Xm _,fun _ _ _=>rfl⟩;have n:=AQ _ _ _ _ (h m H f a _ j d c);refine wpIn_mono (wpIn_region_any hm (by simpa using n)) ?_;rintro e u w' ⟨i,L',Ds',t,q,p,rfl,o⟩;exact ⟨i,L',Ds',t,q,p,o⟩
end
end
section
open Go.RowKit
section
variable {X:Cx}{K:K3}{s:au}{L:V3}{rest:List Oper}{d:Nat}{op:Op}
theorem tl {R:Value->V3->Prop}(h:OpX X.P s L ⟨some d,op,ty,pos,af,gd⟩ R)(a:bQ ⟨some d,op,ty,pos,af,gd⟩=true)(c:bu ops s ⟨some d,op,ty,pos,af,gd⟩=some true)(e:Nat.ble (d+1) X.n=true)(k:∀v L',R v L'->aP X ops rest K ((d,v)::s) L'):aP X ops (⟨some d,op,ty,pos,af,gd⟩::rest) K s L:=CD h a c e k
theorem Oa {R:Value->V3->Prop}(h:OpX X.P s L ⟨none,op,ty,pos,af,gd⟩ R)(a:bQ ⟨none,op,ty,pos,af,gd⟩=true)(c:bu ops s ⟨none,op,ty,pos,af,gd⟩=some true)(k:∀v L',R v L'->aP X ops rest K s L'):aP X ops (⟨none,op,ty,pos,af,gd⟩::rest) K s L:=CD h a c rfl k
theorem iI {M:V3}(i:Nat){R:Value->V3->Prop}(hi:ops[i]? =some ⟨some d,op,ty,pos,af,gd⟩)(hr:Region.ready .any ops listed=[i])(h:OpX X.P s L ⟨some d,op,ty,pos,af,gd⟩ R)(a:bQ ⟨some d,op,ty,pos,af,gd⟩=true)(c:bu ops s ⟨some d,op,ty,pos,af,gd⟩=some true)(e:Nat.ble (d+1) X.n=true)(k:∀v L',R v L'-> ∃M',Cv L' M'/\Cv M' M/\bv X ops K M' B (listed.setIfInBounds i true) ((d,v)::s) L'):bv X ops K M (B+1) listed s L:=Cl i hi hr h a c e k
theorem ab2 {M:V3}(i:Nat){R:Value->V3->Prop}(hi:ops[i]? =some ⟨none,op,ty,pos,af,gd⟩)(hr:Region.ready .any ops listed=[i])(h:OpX X.P s L ⟨none,op,ty,pos,af,gd⟩ R)(a:bQ ⟨none,op,ty,pos,af,gd⟩=true)(c:bu ops s ⟨none,op,ty,pos,af,gd⟩=some true)(k:∀v L',R v L'-> ∃M',Cv L' M'/\Cv M' M/\bv X ops K M' B (listed.setIfInBounds i true) s L'):bv X ops K M (B+1) listed s L:=Cl i hi hr h a c rfl k
theorem aa3 {M:V3}(i:Nat){R:Value->V3->Prop}(hi:ops[i]? =some ⟨some d,op,ty,pos,af,gd⟩)(hr:Region.ready .any ops listed=[i])(hb:qx ops listed i=true)(h:OpX X.P s L ⟨some d,op,ty,pos,af,gd⟩ R)(k:∀v L',R v L'->bv X ops K L' B (listed.setIfInBounds i true) ((d,v)::s) L')(a:bQ ⟨some d,op,ty,pos,af,gd⟩=true:=by rfl)(c:bu ops s ⟨some d,op,ty,pos,af,gd⟩=some true:=by rfl)(e:Nat.ble (d+1) X.n=true:=by rfl):bv X ops K M (B+1) listed s L:=NP i hi hr hb h a c e k
theorem iu {M:V3}(i:Nat){R:Value->V3->Prop}(hi:ops[i]? =some ⟨none,op,ty,pos,af,gd⟩)(hr:Region.ready .any ops listed=[i])(hb:qx ops listed i=true)(h:OpX X.P s L ⟨none,op,ty,pos,af,gd⟩ R)(k:∀v L',R v L'->bv X ops K L' B (listed.setIfInBounds i true) s L')(a:bQ ⟨none,op,ty,pos,af,gd⟩=true:=by rfl)(c:bu ops s ⟨none,op,ty,pos,af,gd⟩=some true:=by rfl):bv X ops K M (B+1) listed s L:=NP i hi hr hb h a c rfl k
theorem iS {M:V3}{R:Value->V3->Prop}(hi:ops[i]? =some ⟨some d,op,ty,pos,af,gd⟩)(h:OpX X.P s L ⟨some d,op,ty,pos,af,gd⟩ R)(a:bQ ⟨some d,op,ty,pos,af,gd⟩=true)(c:bu ops s ⟨some d,op,ty,pos,af,gd⟩=some true)(e:Nat.ble (d+1) X.n=true)(k:∀v L',R v L'-> ∃M',Cv L' M'/\Cv M' M/\bv X ops K M' B (listed.setIfInBounds i true) ((d,v)::s) L'):o7 X ops K M B listed s L i:=Bt hi h a c e k
theorem eD (k pd:Nat)(b:Bool)(c:aP X ops (l.take k) (jk ((pd,.bool b)::s) L) s L)(a:aP X ops (l.drop k) K ((pd,.bool b)::s) L):aP X ops l K s L:=acN k _ _ c a
theorem aF {x y:Code}(Fam:au->V3->Prop)(c:Wq X x (nx (fun s L=> ∃s2 L2,Fam s2 L2/\dK s s2/\Cv L L2) K) s L)(a:∀s2 L2,Fam s2 L2->Wq X y K s2 L2):Wq X (.seq x y) K s L:=
 aH (NB c fun e s L h=>by
  cases e with
  |normal=>obtain ⟨s2,L2,i,f,d⟩:=h;exact dx (a s2 L2 i) f d
  |_=>exact h)
theorem dU (Fam:Nat->au->V3->Prop)(l:Nat)(f:au)(j:V3)(A:Fam l f j)(o:dK s f)(p:Cv L j)(round:∀m s2 L2,Fam m s2 L2->Wq X c (nx (fun n L'=> ∃m' a d,m'<m/\Fam m' a d/\dK n a/\Cv L' d) K) s2 L2):Wq X (.loop c) K s L:=
 ab1 (ι:=au×V3) (fun i=>i.1) (fun i=>i.2) (fun m i=>Fam m i.1 i.2) l (f,j) A o p fun m i hi=>NB (round m i.1 i.2 hi) fun e s L h=>by
  cases e with
  |normal=>obtain ⟨m',a,d,z,u,t,q⟩:=h;exact ⟨m',(a,d),z,u,t,q⟩
  |_=>exact h
end
section
variable {s:au}{d:Option Nat}
theorem ab3 {u:TypeId}{a b:Bool}(e:ao s x=some (.bool a))(c:ao s y=some (.bool b))(f:P.underlying t=some .bool):Ev P s C ⟨d,.binOp .eql t x y u,ty,pos,af,gd⟩ (.bool (a==b)):=
 dM e c fun w=>by rw [XB];show (binOp .eql t (.bool a) (.bool b)).run P w=_;exact run_eql_bool w t a b f
theorem GL {u:TypeId}{a b:Bool}(e:ao s x=some (.bool a))(c:ao s y=some (.bool b))(f:P.underlying t=some .bool):Ev P s C ⟨d,.binOp .neq t x y u,ty,pos,af,gd⟩ (.bool (!(a==b))):=
 dM e c fun w=>by rw [XB];show (binOp .neq t (.bool a) (.bool b)).run P w=_;exact run_neq_bool w t a b f
end
theorem bO {r:α}(h:none=some r):p:=by cases h
theorem toNat_lt {k:Int}(c:0<=k)(a:k<n):k.toNat<n:=by omega
section
variable {s:au}{L:V3}{d:Option Nat}
theorem iA {R:Rep α}{t f sz:Nat}{xs:List α}{c:Chunk}{k:Nat}(i:Nat)(hi:L[i]? =some c)(e:gi R v xs c)(a:ao s x=some (bD v k sz off))(l:k<xs.length)(hr:∀b o w,(Instr.fieldAt t (.pointer (some ⟨b,o,none⟩)) f).run P w=.ok (.pointer (some ⟨b,o,none⟩)) w):Rd P s L ⟨d,.fieldAddr t x f,ty,pos,af,gd⟩ (bD v k sz off):=fun Z w hw=>by
 obtain ⟨T,S,h⟩:=hw.get (bM hi);obtain ⟨A,cap,rfl, -, -,j⟩:=e _ _ _ h;obtain ⟨b,o,vss,rfl, -⟩:=j W;exact fb (o:=o+k*sz+off) a hr
end
end
section
open Go.RowKit
def qv (p:Value)(vs:V4):Chunk where
 ok _ S w:= ∃b o,p=.pointer (some ⟨b,o,none⟩)/\S b/\b<w.heap.size/\CellsAt w b o vs
 loc:=fun h ⟨b,o,e,c,a,d⟩=>⟨b,o,e,c,Xo a h.size,d.agr h (.inr c) a⟩
 mono:=fun h ⟨b,o,e,c,a,d⟩=>⟨b,o,e,h _ c,a,d⟩
 ro:=true
 dup:=fun _ _ _ _ h=>h
theorem Kq {R:Rep α}{L Z:V3}{w:World}{xs:List α}{k:Nat}{x:α}{Q:V4->V3->Prop}(hw:Sp Z L w)(hi:L[i]? =some (aL R v xs))(l:xs[k]? =some x)(n:sX R x Q): ∃vs cs,Q vs cs/\Sp Z (qv (bD v k R.sz 0) vs::(cs++L)) w:=by
 obtain ⟨T,S,h⟩:=hw;obtain ⟨A,c,rfl, -, -,C⟩:=h.ok (bM hi);obtain ⟨b,o,vss,rfl,B,z,m,t⟩:=C (Ai l);obtain ⟨vs,q,f⟩:=m.get l;obtain ⟨cs,e,d⟩:=n _ _ _ f;refine ⟨vs,cs,e,?_⟩;obtain ⟨T',a⟩:=SepL.facts (qv (bD (.slice (some ⟨b,o,none⟩) xs.length c) k R.sz 0) vs::cs) h (t9 ⟨b,o+k*R.sz,rfl,B,z,fun j u p=>by have:=t _ _ (sy m q p);rw [Nat.add_assoc];exact this⟩ d);refine ⟨T',S,?_⟩;simpa using a
section
variable {s:au}{L:V3}{d:Option Nat}
theorem TO {k sz b o:Nat}(h:bD v k sz 0=.pointer (some ⟨b,o,none⟩)):bD v k sz off=.pointer (some ⟨b,o+off,none⟩):=by
 unfold bD at*;split at h
 ·injection h with h;injection h with h;injection h with c a;subst c a;rfl
 cases h
theorem kl {k sz:Nat}{vs us:V4}(i:Nat)(hi:L[i]? =some (qv (bD v k sz 0) vs))(a:ao s x=some (bD v k sz off))(f:ml P t us.length=true)(e:(vs.drop off).take us.length=us):Rd P s L ⟨d,.load t x,ty,pos,af,gd⟩ (.agg us.toArray):=fun Z w hw=>by
 obtain ⟨T,S,b,o,l,n,m,j⟩:=hw.get (bM hi);rw [TO l] at a;have c:=j.part off us.length;rw [e] at c;exact vX a (np (p:=fun w=>CellsAt w b (o+off) us) c) f
theorem jl {u:TypeId}{k':IntKind}{z:Int}(a:ao s x=some (.int k z))(e:(P.underlying t).isSome=true)(c:P.underlying u=some (.int k')):Ev P s C ⟨d,.convert t u x,ty,pos,af,gd⟩ (.int k' (k'.wrap z)):=fun ρ hρ w _=>by
 obtain ⟨q,f⟩:=Option.isSome_iff_exists.1 e;unfold execOp;simp only [hρ x _ a,convert,XB,XH f,XH c,XA];cases q<;>simp [Conv.intToInt]
theorem aaT {u:TypeId}{a b:Int}(e:ao s x=some (.int k a))(c:ao s y=some (.int k b)):Ev P s C ⟨d,.binOp .sub t x y u,ty,pos,af,gd⟩ (.int k (k.wrap (a - b))):=dM e c fun w=>by cases k<;>rfl
end
section
variable {X:Cx}{K:K3}{M:V3}{s:au}{L:V3}
theorem vR (ix:Array Bool->Array Bool)(n2 pd:Nat)(b:Bool)(k:bv X ops K M n2 (ix listed) ((pd,.bool b)::s) L->bv X ops K M B listed s L)(h:bv X ops K M n2 (ix listed) ((pd,.bool b)::s) L):bv X ops K M B listed s L:=k h
theorem kW {R:Rep α}{xs:List α}{k:Nat}{x:α}{Q:V4->V3->Prop}(i:Nat)(hi:L[i]? =some (aL R v xs))(c:xs[k]? =some x)(d:sX R x Q)(h:∀vs cs,Q vs cs->aP X ops l K s (qv (bD v k R.sz 0) vs::(cs++L))):aP X ops l K s L:=fun H n a w f e hw=>by
 obtain ⟨vs,cs,m,j⟩:=Kq hw hi c d;exact h vs cs m H n a w f e j
theorem iv {L L':V3}(c:Chunk)(h:Cv L L'):Cv (c::L) (c::L'):=fun Z w hw=>by
 have m:Sp (Z++ [c]) L w:=by
  refine SepL.pick (L:=(c::L)++Z) hw (fun j=>if j<L.length+Z.length then j+1 else 0) ?_ ?_
  ·intro j d a;rw [<-VT] at a;by_cases f:j<L.length+Z.length
   ·simp only [f,if_true,Wm,WC];rw [WA (by simpa using f)] at a;exact a
   rw [WB (by simp;omega)] at a
   have:j - (L++Z).length=0:=by
    rcases Xk (j - (L++Z).length) with n|n
    ·exact n
    rw [show j - (L++Z).length=(j - (L++Z).length - 1)+1 by omega] at a;simp at a
   rw [this] at a;simp only [f,if_false];simpa using a
  intro i j m l e;simp only [XI,WP,WS] at m l;split at e<;>split at e<;>omega
 have l:SepL (L'++(Z++ [c])) w:=h _ _ m;refine SepL.pick l (fun j=>if j=0 then L'.length+Z.length else j - 1) ?_ ?_
 ·intro j d a
  cases j with
  |zero=>
   simp only [Wm,WD,Xy] at a;subst a;simp only [if_true];rw [WB W,WB W];simp
  |succ j=>
   simp only [Wm,WC] at a;have f:j<(L'++Z).length:=(WH.1 a).1;simp only [Nat.succ_ne_zero,if_false,Nat.add_sub_cancel];rw [<-VT,WA f];exact a
 intro i j m l e;simp only [XI,WP] at m l;split at e<;>split at e<;>omega
theorem ma {L L':V3}: ∀(cs:V3),Cv L L'->Cv (cs++L) (cs++L')
 | [],h=>h
 |c::cs,h=>iv c (ma cs h)
theorem acm {R:Rep α}{xs:List α}{k:Nat}{x:α}{Q:V4->V3->Prop}(i:Nat)(hi:L[i]? =some (aL R v xs))(d:xs[k]? =some x)(f:sX R x Q)(h:∀vs cs,Q vs cs->bv X ops K (qv (bD v k R.sz 0) vs::(cs++M)) B listed s (qv (bD v k R.sz 0) vs::(cs++L))):bv X ops K M B listed s L:=fun n H A a w o m hw=>by
 obtain ⟨vs,cs,z,u⟩:=Kq hw hi d f;have t:=h vs cs z (iv _ (ma cs n)) H A a w o m u;refine AG (fun w ⟨Z,p⟩=>⟨Z,?_⟩) _ _ _ _ t
 have q:=SepL.pick (L':=M++Z) p (fun j=>j+1+cs.length) (fun j c l=>by
  simp only [Wm,show j+1+cs.length=(j+cs.length)+1 by omega,WC,VT];rw [WB W,Nat.add_sub_cancel];exact l) (fun i j _ _ e=>by omega)
 exact q
end
end
section
open Go.RowKit
theorem Mp.agr {ek:α->Value}{ev:β->Value}{X:Nat->Prop}{w:World}{L:List (α×β)}(h:Mp w m ek ev L)(c:Agr X w w')(hm:X m):Mp w' m ek ev L:=by
 have a:=h.lt;obtain ⟨f,clk,e,d⟩:=h;exact ⟨f,clk,(c.block m a hm).trans e,d⟩
def aA (ek:α->Value)(ev:β->Value)(m:Nat)(kv:List (α×β)):Chunk where
 ok T _ w:=T m/\Mp w m ek ev kv
 loc:=fun h ⟨a,c⟩=>⟨a,c.agr h (.inl a)⟩
 mono:=fun _ h=>h
 ro:=false
 dup:=fun h=>Bool.noConfusion h
def cK (ek:α->Value)(ev:β->Value)(m:Nat)(kv:List (α×β)):Chunk where
 ok _ S w:=S m/\Mp w m ek ev kv
 loc:=fun h ⟨a,c⟩=>⟨a,c.agr h (.inr a)⟩
 mono:=fun h ⟨a,c⟩=>⟨h _ a,c⟩
 ro:=true
 dup:=fun _ _ _ _ h=>h
def RBlk (w:World)(b:Nat)(cs:Array Value):Prop:= ∃t p,w.heap[b]? =some (.cells cs t p)
theorem Blk.r {w:World}{b:Nat}(h:Blk w b t cs):RBlk w b cs:=⟨t,(0,0),h⟩
theorem RBlk.lt {w:World}{b:Nat}(h:RBlk w b cs):b<w.heap.size:=by
 obtain ⟨t,p,h⟩:=h;rcases Xp b w.heap.size with a|c
 ·exact a
 rw [V8 c] at h;cases h
theorem RBlk.cells {w:World}{b:Nat}(h:RBlk w b cs)(j:Nat):w.cell? ⟨b,j,none⟩=cs[j]? :=by
 obtain ⟨t,p,h⟩:=h;exact cell_of_row w b j cs t p h
def aQ (b:Nat)(_t:TypeId)(cs:V4):Chunk where
 ok _ S w:=S b/\RBlk w b cs.toArray
 loc:=fun h ⟨a,c⟩=>⟨a,by obtain ⟨t,p,d⟩:=c;exact ⟨t,p,(h.block _ (RBlk.lt ⟨t,p,d⟩) (.inr a)).trans d⟩⟩
 mono:=fun h ⟨a,c⟩=>⟨h _ a,c⟩
 ro:=true
 dup:=fun _ _ _ _ h=>h
def Cp (ek:α->Value)(ev:β->Value)(m:Nat)(kv:List (α×β))(c:Chunk):Prop:= ∀T S w,c.ok T S w->Mp w m ek ev kv
theorem sN {ek:α->Value}{ev:β->Value}{kv:List (α×β)}:Cp ek ev m kv (aA ek ev m kv):=fun _ _ _ h=>h.2
theorem acr {ek:α->Value}{ev:β->Value}{kv:List (α×β)}:Cp ek ev m kv (cK ek ev m kv):=fun _ _ _ h=>h.2
theorem fY {L:V3}{b:Nat}{cs:V4}(hi:L[i]? =some (ab b t cs)):gw L (aQ b t cs):=fun _ _ _ h=>⟨(h.ok hi).2.lt,(h.ok hi).2.r⟩
theorem mY {ek:α->Value}{ev:β->Value}{L:V3}{kv:List (α×β)}(hi:L[i]? =some (aA ek ev m kv)):gw L (cK ek ev m kv):=fun _ _ _ h=>⟨(h.ok hi).2.lt,(h.ok hi).2⟩
def ax (a:Int):Value:=.int .i64 a
def aU (b:Bool):Value:=.bool b
def cp (a:Int):Value:=.int .i64 a
def fV (_:Unit):Value:=.agg #[]
def jM [DecidableEq α](L:List (α×β))(a:α):List (α×β):=match fp a L 0 with
 |some (i,_)=>L.eraseIdx i
 |none=>L
theorem FC (f:α->β): ∀(l:List α) (q:Nat),(l.map f).eraseIdx q=(l.eraseIdx q).map f
 | [],_=>rfl
 |_::_,0=>rfl
 |a::l,q+1=>by simp only [WW,List.eraseIdx_cons_succ,FC f l q]
theorem SF {et:TypeId}(a:P.underlying t=some (.map kt et))(m:Nat)(w:World):(Op.equal t (.map (some m)) (.map none)).run P w=.ok false w:=by
 show (Op.equalIn (9999+1) t (.map (some m)) (.map none)).run P w=_;unfold Op.equalIn;rw [XB,XH a,XA];rfl
section
theorem jy (c:P.underlying kt=some (.int .i64)):KeyOk P kt ax where
 und:=⟨_,c,fun a b=>by
  unfold ax Instr.sameNow
  first
   |exact .inr (by simp;rfl)
   |exact .inl rfl⟩
 eq:=fun a b w=>by
  have h:=run_equalIn_int (P:=P) w 9999 kt .i64 .i64 a b c;show (Op.equalIn 10000 kt (.int .i64 a) (.int .i64 b)).run P w=_;rw [h];rfl
 check:=fun e a w=>by
  show (Instr.checkKey e (9999+1) kt (.int .i64 a)).run P w=_;unfold Instr.checkKey;rw [XB,XH c,XA];rfl
 bits:=fun a=>by
  show Instr.sameBits (9999+1) (.int .i64 a) (.int .i64 a)=true;unfold Instr.sameBits;simp
variable {s:au}{L:V3}{d:Option Nat}
theorem lT {b o:Nat}{cs:V4}(i:Nat)(hi:L[i]? =some (aQ b bt cs))(a:ao s x=some (.pointer (some ⟨b,o,none⟩)))(c:cz P t=true)(e:cs[o]? =some u):Rd P s L ⟨d,.load t x,ty,pos,af,gd⟩ u:=fun Z w hw=>by
 obtain ⟨T,S, -,h⟩:=hw.get (bM hi);exact AZ a c (np (p:=fun w=>w.cell? ⟨b,o,none⟩=some u) ((h.cells o).trans (by simpa using e)))
theorem Ll {b o:Nat}{cs us:V4}(i:Nat)(hi:L[i]? =some (aQ b bt cs))(c:ao s x=some (.pointer (some ⟨b,o,none⟩)))(e:ml P t us.length=true)(l:(cs.drop o).take us.length=us):Rd P s L ⟨d,.load t x,ty,pos,af,gd⟩ (.agg us.toArray):=fun Z w hw=>by
 obtain ⟨T,S, -,h⟩:=hw.get (bM hi)
 have m:CellsAt w b 0 cs:=fun j u f=>by rw [Xs,h.cells];simpa using f
 have a:=m.part o us.length;rw [l,Xs] at a;exact vX c (np (p:=fun w=>CellsAt w b o us) a) e
variable [DecidableEq α]{ek:α->Value}{ev:β->Value}{et:TypeId}
theorem Nu (kv:List (α×β))(a:α)(z:β):(match lk kv a with|some b=>ev b|none=>ev z)=ev ((lk kv a).getD z):=by cases lk kv a<;>rfl
theorem Uz {a:α}{kv:List (α×β)}{z:β}{c:Chunk}(i:Nat)(hi:L[i]? =some c)(hm:Cp ek ev m kv c)(l:ao s x=some (.map (some m)))(j:ao s y=some (ek a))(n:P.underlying t=some (.map kt et))(o:KeyOk P kt ek)(f:∀w,(zeroValue et).run P w=.ok (ev z) w):Rd P s L ⟨d,.lookup t x y false,ty,pos,af,gd⟩ (ev ((lk kv a).getD z)):=fun Z w hw=>by
 obtain ⟨T,S,h⟩:=hw.get (bM hi);rw [<-Nu (ev:=ev)];exact SB l j n o f (fun w' e=>by subst e;exact hm _ _ _ h)
theorem sC {a:α}{kv:List (α×β)}{z:β}{c:Chunk}(i:Nat)(hi:L[i]? =some c)(hm:Cp ek ev m kv c)(l:ao s x=some (.map (some m)))(j:ao s y=some (ek a))(n:P.underlying t=some (.map kt et))(o:KeyOk P kt ek)(f:∀w,(zeroValue et).run P w=.ok (ev z) w):Rd P s L ⟨d,.lookup t x y true,ty,pos,af,gd⟩ (.tuple #[ev ((lk kv a).getD z),.bool (lk kv a).isSome]):=fun Z w hw=>by
 obtain ⟨T,S,h⟩:=hw.get (bM hi);rw [<-Nu (ev:=ev)];exact SJ l j n o f (fun w' e=>by subst e;exact hm _ _ _ h)
omit [DecidableEq α] in
theorem wu {Z:V3}{w:World}{kv kv':List (α×β)}(i:Nat)(hw:Sp Z L w)(hi:L[i]? =some (aA ek ev m kv)){o:Obj}(h:Mp {w with heap:=w.heap.setIfInBounds m o} m ek ev kv'):Sp Z (L.set i (aA ek ev m kv')) {w with heap:=w.heap.setIfInBounds m o}:=by
 have c:=Ti w m o
 have f:=SepL.upd (w':={w with heap:=w.heap.setIfInBounds m o}) hw (bM hi) (d:=aA ek ev m kv') fun T S ⟨j,n⟩ l _ _=>⟨Agr.of_fr c fun q a e=>a (e▸j),T,fun _=> .inl,fun q a=>Xo (l q a) c.size,j,h⟩
 rw [gI Z hi] at f;exact f
theorem pJ {u:Operand}{a:α}{b:β}{kv:List (α×β)}(i:Nat)(hi:L[i]? =some (aA ek ev m kv))(R:ao s x=some (.map (some m)))(Q:ao s y=some (ek a))(U:ao s u=some (ev b))(V:P.underlying t=some (.map kt et))(D:KeyOk P kt ek):OpX P s L ⟨d,.mapUpdate t x y u,ty,pos,af,gd⟩ fun _ L'=>L'=L.set i (aA ek ev m (dp kv a b)):=fun ρ hρ Z w hw=>by
 obtain ⟨T,S, -,hm⟩:=hw.get (bM hi);have C:=hm.lt;obtain ⟨f,clk,X,B,O,N⟩:=hm
 have hget:(getObj m).run P w=.ok (.map f clk) w:=by simp [getObj,Sem.run,X]
 have hset: ∀o,(setObj m o).run P w=.ok () {w with heap:=w.heap.setIfInBounds m o}:=fun o=>by simp [setObj,Sem.run,X]
 cases F:fp a kv 0 with
 | none=>
  refine .inr (.inl ⟨{w with heap:=w.heap.setIfInBounds m (.map (f.push ⟨ek a,ev b,clk⟩) (clk+1))},_,?_,wu i hw hi (kv':=dp kv a b) ⟨f.push ⟨ek a,ev b,clk⟩,clk+1,by simp [C],?_,?_,?_⟩,J⟩)
  ·unfold execOp;simp only [hρ x _ R,hρ y _ Q,hρ u _ U,Instr.mapUpdate,XB,XH V,XA,hget,D.check,rX D a w f.toList kv B,F,Option.map_none,hset];rfl
  ·simp [dp,F,B]
  ·simp only [Array.toList_push];rw [List.pairwise_append];exact ⟨O,by simp,fun e n e' he'=>by simp only [W8] at he';subst he';exact N e n⟩
  intro e n;simp only [Array.toList_push,WY,W8] at n;rcases n with n|rfl
  ·have:=N e n;omega
  simp
 | some p=>
  obtain ⟨q,c⟩:=p;obtain ⟨-,K⟩:=Cq a kv 0 q c F;rw [Nat.sub_zero] at K;have M:q<kv.length:=(WH.1 K).1
  have hlen:f.size=kv.length:=by simpa using congrArg List.length B
  have z:q<f.size:=by omega
  have hkey:f[q].key=ek a:=by
   have A:=congrArg (fun l=>l[q]?) B;simp only [WI,K,Xw] at A;simp [z] at A;exact A.1
  refine .inr (.inl ⟨{w with heap:=w.heap.setIfInBounds m (.map (f.modify q fun e=>{e with key:=ek a,val:=ev b}) clk)},_,?_,wu i hw hi (kv':=dp kv a b) ⟨f.modify q fun e=>{e with key:=ek a,val:=ev b},clk,by simp [C],?_,?_,?_⟩,J⟩)
  ·unfold execOp
   have H:(Instr.keyThatStays (ek a) (ek a)).run P w=.ok (ek a) w:=by unfold Instr.keyThatStays;rw [if_pos (D.bits a)];rfl
   simp only [hρ x _ R,hρ y _ Q,hρ u _ U,Instr.mapUpdate,XB,XH V,XA,hget,D.check,rX D a w f.toList kv B,F,Xw,V7 z,Xv,hkey,H,hset];rfl
  ·simp only [dp,F,Array.toList_modify];apply Wu;intro j;have A:=congrArg (fun l=>l[j]?) B;simp only [WI] at A;simp only [WI,List.getElem?_modify,List.getElem?_set];by_cases e:q=j
   ·subst e;simp [M,z]
   simp [e];simpa using A
  ·simp only [Array.toList_modify];rw [Xb] at O⊢;intro j j' E hj' hlt';simp only [List.length_modify] at E hj';have:=O j j' E hj' hlt';simp only [List.getElem_modify];split<;>split<;>exact this
  intro e n;simp only [Array.toList_modify] at n;obtain ⟨j,E,rfl⟩:=WO n;simp only [List.length_modify] at E;have:=N _ (XO E);simp only [List.getElem_modify];split<;>exact this
theorem TL {a:α}{kv:List (α×β)}{C:TypeId}(i:Nat)(hi:L[i]? =some (aA ek ev m kv))(N:ao s x=some (.map (some m)))(M:ao s y=some (ek a))(D:P.underlying t=some (.map kt et))(A:KeyOk P kt ek):OpX P s L ⟨d,.call ⟨.builtin .delete, #[x,y], #[t,C]⟩,ty,pos,af,gd⟩ fun _ L'=>L'=L.set i (aA ek ev m (jM kv a)):=fun ρ hρ Z w hw=>by
 have j:=hw;obtain ⟨T,S, -,hm⟩:=hw.get (bM hi);have n:=hm.lt;obtain ⟨f,clk,K,u,H,F⟩:=hm
 have hget:(getObj m).run P w=.ok (.map f clk) w:=by simp [getObj,Sem.run,K]
 have hset: ∀o,(setObj m o).run P w=.ok () {w with heap:=w.heap.setIfInBounds m o}:=fun o=>by simp [setObj,Sem.run,K]
 have hb:=kN (P:=P) (ρ:=ρ) (d:=d) (ty:=ty) (pos:=pos) (af:=af) (gd:=gd) (b:=.delete) (xs:=[x,y]) (ats:= #[t,C]) (vs:=[.map (some m),ek a]) (by simp [hρ x _ N,hρ y _ M]) w
 cases B:fp a kv 0 with
 |none=>
  refine .inl ⟨.tuple #[],{w with heap:=w.heap.setIfInBounds m (.map f clk)},_,?_,wu i j hi (kv':=jM kv a) ⟨f,clk,by simp [n],by simp [jM,B,u],H,F⟩,J⟩;rw [hb];simp only [builtin,Builtin.delete_,XB,WM,WD,WC,XH D,XA,hget,A.check,rX A a w f.toList kv u,B,Option.map_none,hset];rfl
 | some p=>
  obtain ⟨q,c⟩:=p
  have hlen:f.size=kv.length:=by simpa using congrArg List.length u
  refine .inl ⟨.tuple #[],{w with heap:=w.heap.setIfInBounds m (.map (f.eraseIdxIfInBounds q) clk)},_,?_,wu i j hi (kv':=jM kv a) ⟨f.eraseIdxIfInBounds q,clk,by simp [n],?_,?_,?_⟩,J⟩
  ·rw [hb];simp only [builtin,Builtin.delete_,XB,WM,WD,WC,XH D,XA,hget,A.check,rX A a w f.toList kv u,B,Xw,hset];rfl
  ·have z:(f.eraseIdxIfInBounds q).toList=f.toList.eraseIdx q:=by simp [Array.eraseIdxIfInBounds];split<;>simp_all [List.eraseIdx_of_length_le]
   rw [z];simp only [jM,B];have E:=congrArg (fun l=>List.eraseIdx l q) u;simp only [FC] at E;exact E
  ·have z:(f.eraseIdxIfInBounds q).toList=f.toList.eraseIdx q:=by simp [Array.eraseIdxIfInBounds];split<;>simp_all [List.eraseIdx_of_length_le]
   rw [z];exact H.sublist (List.eraseIdx_sublist ..)
  have z:(f.eraseIdxIfInBounds q).toList=f.toList.eraseIdx q:=by simp [Array.eraseIdxIfInBounds];split<;>simp_all [List.eraseIdx_of_length_le]
  rw [z];exact fun e O=>F e (List.mem_of_mem_eraseIdx O)
omit [DecidableEq α] in
theorem aas {kv:List (α×β)}{q:TypeDesc}(i:Nat)(hi:L[i]? =some (aA ek ev m kv))(f:ao s x=some (.map (some m)))(j:P.underlying t=some q):OpX P s L ⟨d,.call ⟨.builtin .clear, #[x], #[t]⟩,ty,pos,af,gd⟩ fun _ L'=>L'=L.set i (aA ek ev m ([]:List (α×β))):=fun ρ hρ Z w hw=>by
 have a:=hw;obtain ⟨T,S, -,hm⟩:=hw.get (bM hi);have c:=hm.lt;obtain ⟨l,clk,e,u,p,n⟩:=hm
 have hget:(getObj m).run P w=.ok (.map l clk) w:=by simp [getObj,Sem.run,e]
 have hset: ∀o,(setObj m o).run P w=.ok () {w with heap:=w.heap.setIfInBounds m o}:=fun o=>by simp [setObj,Sem.run,e]
 refine .inl ⟨.tuple #[],{w with heap:=w.heap.setIfInBounds m (.map #[] clk)},_,?_,wu i a hi (kv':=[]) ⟨#[],clk,by simp [c],by simp,by simp,by simp⟩,J⟩;rw [kN (P:=P) (ρ:=ρ) (xs:=[x]) (vs:=[.map (some m)]) (by simp [hρ x _ f]) w];simp only [builtin,Builtin.clear_,XB,WM,WD,XH j,XA];cases q<;>simp [hget,hset]
omit [DecidableEq α] in
theorem vq:OpX P s L ⟨d,.makeMap t none,ty,pos,af,gd⟩ fun u L'=> ∃m,u=.map (some m)/\L'=aA ek ev m ([]:List (α×β))::L:=fun ρ hρ Z w hw=>by
 refine .inl ⟨.map (some w.heap.size),w.alloc (.map #[] 0),aA ek ev w.heap.size []::L,J,SepL.new hw (Agr.of_ext ((Ext.refl w).alloc _)) fun _ S _=>⟨(· =w.heap.size),fun q a=>by subst a;simp,rfl, #[],0,heap_alloc_new w _,by simp,by simp,by simp⟩,_,J,J⟩
theorem TG {u:TypeId}(a:ao s x=some (.map (some m)))(c:P.underlying t=some (.map kt et)):Ev P s C ⟨d,.binOp .eql t x (.const (.map none)) u,ty,pos,af,gd⟩ (.bool false):=
 dM a rfl fun w=>by
  rw [XB];show (binOp .eql t (.map (some m)) (.map none)).run P w=_;simp only [binOp,XB,SF c m w,XA];rfl
end
end
section
open Go.RowKit
def wP (P:Program)(v:Value)(a:V3)(en:α->V4)(ev:β->Value)(φ:α->Option β):Prop:=
 (∀c∈a,c.ro=true)/\ ∃f bs caps,v=.func (.func f) bs caps/\oy P f/\ ∀x r,φ x=some r->Okc P f (bs.toList++(en x++caps.toList)) a fun u post=>u=ev r/\post=[]
theorem vD {d:Option Nat}{w:World}{vs:V4}{bs caps:Array Value}(a:oy P f)(c:xs.map ρ=vs)(hρ:ρ x=.func (.func f) bs caps):
  (execOp ρ ⟨d,.call ⟨.value x,xs.toArray,ats⟩,ty,pos,af,gd⟩).run P w=.ok (.enter f (bs.toList++(vs++caps.toList)).toArray) w:=by
 unfold execOp;simp only [resolve,hρ,Deferred.ofValue,WX,c];obtain ⟨F,a,hb,e⟩:=a
 have hn': ¬F.name= "runtime.NumGoroutine" :=by simpa using e
 have hb': ¬F.body=none:=by intro h;rw [h] at hb;cases hb
 simp [invoke,callFunc,a,hb',hn',XB]
theorem NG (E a Z:V3):Cv (E++(a++Z)) (a++(E++Z)):=fun m w h=>by
 refine SepL.pick (L:=(E++(a++Z))++m) h (fun j=>if j<a.length then j+E.length else if j<a.length+E.length then j - a.length else j) ?_ ?_
 ·intro j c d;simp only [VT] at d⊢;by_cases f:j<a.length
  ·rw [WA f] at d;simp only [f,if_true];rw [WB W,Nat.add_sub_cancel,WA f];exact d
  simp only [f,if_false];rw [WB W] at d;by_cases l:j<a.length+E.length
  ·simp only [l,if_true];rw [WA W] at d;rw [WA W];exact d
  simp only [l,if_false];rw [WB W] at d;rw [WB W,WB W];rw [show j - E.length - a.length=j - a.length - E.length by omega];exact d
 intro i j _ _ e;split at e<;>split at e<;>(try split at e)<;>(try split at e)<;>omega
section
variable {s:au}{d:Option Nat}
theorem aaQ {L:V3}{c:Chunk}(h:c∈L)(a:c.ro=true):gw L c:=by
 obtain ⟨i,hi⟩:=List.getElem?_of_mem h;exact bK hi a
theorem Fn {E a:V3}(e:∀c∈a,c.ro=true): ∀c∈a,gw (E++a) c:=fun c d=>aaQ (VV _ d) (e c d)
def sI {σ:Type}(P:Program)(l:Nat)(a:σ->V3)(en:α->V4)(φ:α->σ->Option (Bool×σ)):Prop:=
 ∀x σ₁ b σ₂,φ x σ₁=some (b,σ₂)-> ∀Z w,Sp Z (a σ₁) w-> ∃F tmps assign body,(Instr.yield l (en x).toArray).run P w=.ok (.round l F tmps assign body) w/\RoundIn Fence.wide 0 P l F tmps assign body w fun e w'=>e=.returned (.bool b)/\Sp Z (a σ₂) w'
theorem Uv {σ:Type}{l:Nat}{c:σ->V3}{E Z:V3}{en:α->V4}{φ:α->σ->Option (Bool×σ)}{a:α}{σ₁:σ}{y:Bool×σ}(m:sI P l c en φ)(hr:φ a σ₁=some y)(i:ao s x=some (.func (.yield l) #[] #[]))(j:eu s xs=some (en a)):OpX P s (E++(c σ₁++Z)) ⟨d,.call ⟨.value x,xs.toArray,ats⟩,ty,pos,af,gd⟩ fun u L'=>u=.bool y.1/\L'=E++(c y.2++Z):=fun ρ hρ f w hw=>by
 obtain ⟨b,σ₂⟩:=y
 have t:Sp ((E++Z)++f) (c σ₁) w:=by have:=NG E (c σ₁) Z _ _ hw;unfold Sp at*;simpa only [VT] using this
 obtain ⟨F,tmps,assign,body,q,p⟩:=m a σ₁ b σ₂ hr _ w t;refine .inr (.inr (.inr ⟨l,F,tmps,assign,body,?_,?_⟩))
 ·unfold execOp;simp only [resolve,hρ x _ i,Deferred.ofValue,WX,iZ hρ j];simp only [invoke,XB,XC,XA];simpa using q
 refine p.mono ?_;rintro e w' ⟨rfl,o⟩;refine ⟨_,_,J,?_,J,J⟩
 have n:Sp f (c σ₂++(E++Z)) w':=by unfold Sp at*;simpa only [VT] using o
 exact NG (c σ₂) E Z _ _ n
end
section
variable {s:au}{d:Option Nat}
theorem LH {c:V3}(E:V3){en:α->V4}{ev:β->Value}{φ:α->Option β}{a:α}{r:β}(hφ:wP P v c en ev φ)(hr:φ a=some r)(j:ao s x=some v)(l:eu s xs=some (en a)):OpX P s (E++c) ⟨d,.call ⟨.value x,xs.toArray,ats⟩,ty,pos,af,gd⟩ fun u L'=>u=ev r/\L'=E++c:=fun ρ hρ Z w hw=>by
 obtain ⟨n,f,bs,caps,rfl,m,i⟩:=hφ;refine .inr (.inr (.inl ⟨f,_,vD m (iZ hρ l) (hρ _ _ j),?_⟩));refine (Bc (i a r hr) (Fn n) (by rintro _ _ ⟨-,rfl⟩;exact aW) Z w hw).mono ?_;rintro e w' ⟨u,post,rfl,o,rfl,rfl⟩;exact ⟨_,_,J,o,J,J⟩
theorem AL {σ:Type}{l:Nat}{c:σ->V3}(E:V3){en:α->V4}{φ:α->σ->Option (Bool×σ)}{a:α}{σ₁:σ}{y:Bool×σ}(i:sI P l c en φ)(hr:φ a σ₁=some y)(e:ao s x=some (.func (.yield l) #[] #[]))(f:eu s xs=some (en a)):OpX P s (E++c σ₁) ⟨d,.call ⟨.value x,xs.toArray,ats⟩,ty,pos,af,gd⟩ fun u L'=>u=.bool y.1/\L'=E++c y.2:=by
 have h:=Uv (d:=d) (ty:=ty) (pos:=pos) (af:=af) (gd:=gd) (E:=E) (Z:=[]) (ats:=ats) i hr e f;simpa using h
theorem jZ {vs:V4}(a:eu s caps=some vs):Ev P s C ⟨d,.makeFunc (.func f) #[] caps.toArray,ty,pos,af,gd⟩ (.func (.func f) #[] vs.toArray):=fun ρ hρ w _=>by
 unfold execOp;simp [iZ hρ a,Instr.makeFunc]
theorem zK {bds:List Operand}{us vs:V4}(hb:eu s bds=some us)(a:eu s caps=some vs):Ev P s C ⟨d,.makeFunc (.func f) bds.toArray caps.toArray,ty,pos,af,gd⟩ (.func (.func f) us.toArray vs.toArray):=fun ρ hρ w _=>by
 unfold execOp;simp [iZ hρ hb,iZ hρ a,Instr.makeFunc]
theorem wz {u:TypeId}{yk:IntKind}{a b v:Int}(e:ao s x=some (.int k a))(c:ao s y=some (.int yk b))(hr:∀w,(Op.shift .shr k a yk b).run P w=.ok (.int k v) w):Ev P s C ⟨d,.binOp .shr t x y u,ty,pos,af,gd⟩ (.int k v):=dM e c fun w=>by rw [XB];exact hr w
end
theorem kO {L:V3}{b:Nat}{cs:V4}(i:Nat)(hi:L[i]? =some (ab b t cs)):Cv L (L.set i (aQ b t cs)):=fun Z w h=>by
 have a:=SepL.frz h (bM hi) (d:=aQ b t cs) fun T S ⟨a,c⟩=>⟨.inr a,c.r⟩
 rw [gI Z hi] at a;exact a
def fF (l:Nat)(r:Loop):Chunk where
 ok T _ w:=T l/\w.heap[l]? =some (.loop r)
 loc:=fun {T S w w'} h ⟨d,c⟩=>⟨d,(h.block l (by rcases Xp l w.heap.size with a|a;exact a;rw [V8 a] at c;cases c) (.inl d)).trans c⟩
 mono:=fun _ h=>h
 ro:=false
 dup:=fun h=>Bool.noConfusion h
theorem abP {l:Nat}{r r':Loop}{L:V3}{w:World}(h:SepL L w)(hi:L[i]? =some (fF l r)):SepL (L.set i (fF l r')) (w.putObj l (.loop r')):=by
 obtain ⟨T,S,o,m⟩:=h.get hi;have d:l<w.heap.size:=(Array.getElem?_eq_some_iff.1 m).1;refine h.upd hi fun T S f n _ _=> ?_
 have a:=grownBy_putObj' w l (.loop r');exact ⟨⟨a.os,a.tape,a.output,a.size,fun q c j=>a.block q c fun e=>j (by cases e;exact f.1)⟩,T,fun _=> .inl,fun q c=>Xo (n q c) a.size,f.1,World.putObj_heap_same d⟩
def wF:Exit->Option Code
 | .ret=>some .ret
 | .exit i=>some (.exit i)
 |_=>none
def RK (je:Option Exit)(L':V3):K3:=fun e _ L=>((je=none/\e=.normal)\/(je=some e/\(wF e).isSome=true))/\Cv L L'
def dA {σ:Type}(φ:α->σ->Option (Option Exit×σ)):α->(Option Exit×σ)->Option (Bool×(Option Exit×σ)):=fun x s=>match s.1 with
 |none=>(φ x s.2).map fun r=>(r.1.isNone,r)
 |some _=>none
def mq (D:List Nat)(vs:V4)(s:au):au:=(D.zip vs).reverse++s
theorem My {X:Cx}{ds:List Deferred}: ∀(l:List (Nat×Value)) (s:au) (t:Array Value),l.all (fun p=>Nat.ble (p.1+1) X.n)=true->Fx X s ⟨t,ds⟩->Fx X (l.reverse++s) ⟨l.foldl (fun t (p:Nat×Value)=>t.setIfInBounds p.1 p.2) t,ds⟩
 | [],s,t,_,h=>h
 |p::l,s,t,a,h=>by
  simp only [List.all_cons,XM] at a;have c:=h.put p.2 (d:=p.1) (Xl a.1);have f:Fx X ((p.1,p.2)::s) ⟨t.setIfInBounds p.1 p.2,ds⟩:=⟨c.size,c.at_⟩;have e:=My l _ _ a.2 f;simpa using e
theorem aaH {L L':V3}(h:L.Perm L'): ∃f:Nat->Nat,(∀(j:Nat) (c:Chunk),L'[j]? =some c->L[f j]? =some c)/\ ∀i j,i<L'.length->j<L'.length->f i=f j->i=j:=by
 induction h with
 |nil=>exact ⟨id,fun _ _ h=>h,fun _ _ _ _ h=>h⟩
 | cons c h q=>
  obtain ⟨f,o,n⟩:=q;refine ⟨fun j=>match j with|0=>0|j+1=>f j+1,?_,?_⟩
  ·intro j d m
   cases j with
   |zero=>simpa using m
   |succ j=>simp only [WC] at m⊢;exact o j d m
  intro i j hi m e
  cases i with
  |zero=>cases j with
   |zero=>rfl
   |succ j=>simp at e
  |succ i=>cases j with
   |zero=>simp at e
   |succ j=>simp only [WP] at hi m;simp only [Nat.add_right_cancel_iff] at e;rw [n i j W W e]
 | swap a b l=>
  refine ⟨fun j=>match j with|0=>1|1=>0|j+2=>j+2,?_,?_⟩
  ·intro j d m
   match j with
   |0=>simpa using m
   |1=>simpa using m
   |j+2=>simpa using m
  intro i j _ _ e
  match i,j with
  |0,0=>rfl
  |0,1=>simp at e
  |0,j+2=>simp at e
  |1,0=>simp at e
  |1,1=>rfl
  |1,j+2=>simp at e
  |i+2,0=>simp at e
  |i+2,1=>simp at e
  |i+2,j+2=>simp at e;omega
 |trans o n ih1 ih2=>
  obtain ⟨f,A,z⟩:=ih1;obtain ⟨g,p,u⟩:=ih2;refine ⟨fun j=>f (g j),fun j c m=>A _ _ (p j c m),fun i j hi m e=> ?_⟩
  have hb: ∀k,k<_->g k<_:=fun k t=>(WH.1 (p k _ (WF t))).1
  exact u i j hi m (z _ _ (hb i hi) (hb j m) e)
theorem SepL.perm {L L':V3}{w:World}(h:SepL L w)(a:L.Perm L'):SepL L' w:=by
 obtain ⟨f,d,c⟩:=aaH a;exact h.pick f d c
theorem SepL.dropL {A B:V3}{w:World}(h:SepL (A++B) w):SepL B w:=h.pick (fun j=>j+A.length) (fun j c a=>by rw [WB W,Nat.add_sub_cancel];exact a) (fun i j _ _ e=>by omega)
theorem Gk {A Z:V3}{l:Nat}{r r':Loop}{w:World}(h:SepL (A++(fF l r::Z)) w):SepL (A++(fF l r'::Z)) (w.putObj l (.loop r')):=by
 have a:=abP (l:=l) (r:=r) (r':=r') (i:=A.length) h (by simp);simpa using a
theorem BH {A Z:V3}{l:Nat}{r:Loop}{w:World}(h:SepL (A++(fF l r::Z)) w):w.heap[l]? =some (.loop r):=by
 obtain ⟨T,S, -,a⟩:=h.get (i:=A.length) (c:=fF l r) (by simp);exact a
end
section
open Go.RowKit
def cP (Q:ι->V3):Chunk where
 ok T S w:= ∃(x:ι) (T':Nat->Nat->Prop),(∀(i:Nat) (c:Chunk),(Q x)[i]? =some c->c.ok (T' i) S w)/\(∀(i j q:Nat),i≠j->T' i q->T' j q->False)/\ ∀(i q:Nat),T' i q->T q
 loc:=fun h ⟨x,T',e,d,a⟩=>⟨x,T',fun i c hi=>c.loc (h.mono fun q f=>f.imp (a i q) id) (e i c hi),d,a⟩
 mono:=fun h ⟨x,T',e,d,a⟩=>⟨x,T',fun i c hi=>c.mono h (e i c hi),d,a⟩
 ro:=false
 dup:=fun h=>Bool.noConfusion h
theorem Bn {b:Nat}{cs:V4}:bP (ab b t cs):=fun _ _ _ _ h=>h
theorem Okc.mono {args:V4}{L:V3}{R R':Value->V3->Prop}(h:Okc P f args L R)(hr:∀v post,R v post->R' v post):Okc P f args L R':=⟨h.cal,fun Z w hw=>(h.run Z w hw).mono fun e w' ⟨v,post,d,c,a⟩=>⟨v,post,d,c,hr _ _ a⟩⟩
theorem Kr {R:Rep α}{L Z:V3}{w:World}{c:Nat}{xs:List α}(hw:Sp Z L w)(hi:L[i]? =some (aL R (.slice A n c) xs)){l:Nat}(j:l<=h)(f:h<=xs.length):Sp Z (aL R (.slice (dk A c l R.sz) (h - l) (c - l)) ((xs.drop l).take (h - l))::L) w:=by
 obtain ⟨T,S,e⟩:=hw;have a:SlR R S w (.slice A n c) xs:=e.ok (bM hi);obtain ⟨T',m⟩:=SepL.facts [aL R (.slice (dk A c l R.sz) (h - l) (c - l)) ((xs.drop l).take (h - l))] e (fun c d=>by simp only [W8] at d;subst d;exact a.cut l h j f);exact ⟨T',S,m⟩
theorem GR {R:Rep α}{X:Cx}{K:K3}{s:au}{L:V3}{ol:List Oper}{c:Nat}{xs:List α}(i:Nat)(hi:L[i]? =some (aL R (.slice A n c) xs)){l:Nat}(m:l<=h)(j:h<=xs.length)(k:∀d n' c',d=dk A c l R.sz/\n'=h - l/\c'=c - l->aP X ops ol K s (aL R (.slice d n' c') ((xs.drop l).take (h - l))::L)):aP X ops ol K s L:=fun H o a w f e hw=>k _ _ _ ⟨rfl,rfl,rfl⟩ H o a w f e (Kr hw hi m j)
theorem oM {R:Rep α}{X:Cx}{K:K3}{M:V3}{s:au}{L:V3}{c:Nat}{xs:List α}(i:Nat)(hi:L[i]? =some (aL R (.slice A n c) xs)){l:Nat}(q:l<=h)(p:h<=xs.length)(k:∀d n' c',d=dk A c l R.sz/\n'=h - l/\c'=c - l->bv X ops K (aL R (.slice d n' c') ((xs.drop l).take (h - l))::M) B listed s (aL R (.slice d n' c') ((xs.drop l).take (h - l))::L)):bv X ops K M B listed s L:=fun f H t a w j e hw=>by
 have o:=k _ _ _ ⟨rfl,rfl,rfl⟩ (iv _ f) H t a w j e (Kr hw hi q p);exact AG (fun w ⟨Z,m⟩=>⟨Z,cv_tl _ _ m⟩) _ _ _ _ o
section
variable {s:au}{L:V3}{d:Option Nat}
theorem Gu {R:Rep α}{t e sz:Nat}{f:Option Addr}{c n' c':Nat}{xs:List α}{l:Nat}(i:Nat)(E:L[i]? =some (aL R (.slice A n c) xs))(D:f=dk A c l R.sz/\n'=h - l/\c'=c - l)(q:ao s x=some (.slice A n c))(u:P.underlying t=some (.slice e))(z:eI P e sz=true)(a:R.sz=sz)(B:match lo with|none=>l=0|some o=>ao s o=some (.int .i64 (l:Int)))(C:ao s y=some (.int .i64 (h:Int)))(F:l<=h)(K:h<=xs.length):Rd P s L ⟨d,.slice t x lo (some y) none,ty,pos,af,gd⟩ (.slice f n' c'):=fun Z w hw=>by
 obtain ⟨rfl,rfl,rfl⟩:=D;subst a;obtain ⟨T,S,A2,c2,H,M, -⟩:=hw.get (bM E)
 injection H with p m j
 subst p m j;exact oz (hi:=some y) q u z B C F W
theorem oJ {R:Rep α}{t e sz:Nat}{f:Option Addr}{c n' c':Nat}{xs:List α}{l:Nat}(i:Nat)(D:L[i]? =some (aL R (.slice A n c) xs))(C:f=dk A c l R.sz/\n'=xs.length - l/\c'=c - l)(q:ao s x=some (.slice A n c))(u:P.underlying t=some (.slice e))(z:eI P e sz=true)(a:R.sz=sz)(B:match lo with|none=>l=0|some o=>ao s o=some (.int .i64 (l:Int)))(E:l<=xs.length):Rd P s L ⟨d,.slice t x lo none none,ty,pos,af,gd⟩ (.slice f n' c'):=fun Z w hw=>by
 obtain ⟨rfl,rfl,rfl⟩:=C;subst a;obtain ⟨T,S,A2,c2,F,H, -⟩:=hw.get (bM D)
 injection F with p m j
 subst p m j;exact oz (hi:=none) q u z B J E W
end
theorem gr {Q:ι->V3}{L Z:V3}{w:World}(h:Sp Z (cP Q::L) w): ∃x,Sp Z (Q x++L) w:=by
 obtain ⟨T,S,h⟩:=h;obtain ⟨x,T',p,o,l⟩:=h.ok (i:=0) (c:=cP Q) rfl;refine ⟨x,fun i=>if i<(Q x).length then T' i else T (i - (Q x).length+1),S,?_,?_,?_,?_,h.lts⟩
 ·intro i c hi;rw [VT] at hi;by_cases f:i<(Q x).length
  ·rw [WA f] at hi;simp only [f,if_true];exact p i c hi
  rw [WB W] at hi;simp only [f,if_false];exact h.ok (i:=i - (Q x).length+1) (by simpa using hi)
 ·intro i j q n a d;by_cases e:i<(Q x).length<;>by_cases m:j<(Q x).length
  ·simp only [e,m,if_true] at a d;exact o i j q n a d
  ·simp only [e,m,if_true,if_false] at a d;exact h.apart (i:=0) W (l i q a) d
  ·simp only [e,m,if_true,if_false] at a d;exact h.apart (i:=0) W (l j q d) a
  simp only [e,m,if_false] at a d;exact h.apart W a d
 ·intro i q a d;by_cases e:i<(Q x).length
  ·simp only [e,if_true] at a;exact h.ro (l i q a) d
  simp only [e,if_false] at a;exact h.ro a d
 intro i q a;by_cases e:i<(Q x).length
 ·simp only [e,if_true] at a;exact h.lt (l i q a)
 simp only [e,if_false] at a;exact h.lt a
theorem fa {Q:ι->V3}{L:V3}(x:ι):Cv (Q x++L) (cP Q::L):=fun Z w h=>by
 obtain ⟨T,S,h⟩:=h;refine ⟨fun i=>match i with|0=>fun q=> ∃j,j<(Q x).length/\T j q|i+1=>T (i+(Q x).length),S,?_,?_,?_,?_,h.lts⟩
 ·intro i c hi
  cases i with
  |zero=>
   simp only [Wm,WD,Xy] at hi;subst hi;refine ⟨x,fun j q=>j<(Q x).length/\T j q,fun j c o=> ?_,fun i j q f a d=>h.apart f a.2 d.2,fun j q p=>⟨j,p⟩⟩;have m:=(WH.1 o).1
   have e:(fun q=>j<(Q x).length/\T j q)=T j:=by funext q;simp [m]
   show c.ok (fun q=>j<(Q x).length/\T j q) S w;rw [e];exact h.ok (by rw [VT,WA m];exact o)
  |succ i=>
   simp only [Wm,WC] at hi;exact h.ok (by rw [VT,WB W,Nat.add_sub_cancel];exact hi)
 ·intro i j q f a d
  cases i with
  |zero=>cases j with
   |zero=>exact f rfl
   |succ j=>obtain ⟨k,n,l⟩:=a;exact h.apart W l d
  |succ i=>cases j with
   |zero=>obtain ⟨k,n,l⟩:=d;exact h.apart W l a
   |succ j=>exact h.apart W a d
 ·intro i q a d
  cases i with
  |zero=>obtain ⟨k,n,l⟩:=a;exact h.ro l d
  |succ i=>exact h.ro a d
 intro i q a
 cases i with
 |zero=>obtain ⟨k,n,l⟩:=a;exact h.lt l
 |succ i=>exact h.lt a
theorem kf {Q:ι->V3}{L:V3}(x:ι)(h:L=Q x):Cv L [cP Q]:=fun Z w hw=>by
 subst h;have:=fa (Q:=Q) (L:=[]) x Z w (by simpa using hw);exact this
end
section
open Go.RowKit Go.ChangeShapes Go.WideShapes Go.Deep
theorem Ra {w:World}{a:Addr}(h:w.cell? a=some v):a=⟨a.block,a.off,none⟩:=by
 obtain ⟨b,o,sp⟩:=a
 cases sp with
 |none=>rfl
 |some s=>
  exfalso;unfold World.cell? at h;split at h<;>simp at h
theorem K6 (b o n:Nat):(⟨b,o,none⟩:Addr).add n=⟨b,o+n,none⟩:=by unfold Addr.add;split<;>simp_all
end
section
open Go.RowKit Go.ChangeShapes Go.WideShapes Go.Deep
def Rdr (P:Program)(t:TypeId)(R:Rep α)(wf:α->Prop):Prop:= ∀{H:Type} {enc:TypeId×Value->H} {w:World} {base:Nat} {spare:Nat->Bool} {held:Bool} {n:Nat} {cs:V4} {y:DataW H×List MemPlace},DataW.trod enc P w base spare held n t cs=some y-> ∃a,R.rel (fun q=>q<w.heap.size) w cs a/\wf a
theorem Bv {a:Int}(h:(Lit.int .i64 a).wf=true):in64 a:=by
 have d:IntKind.i64.min= -9223372036854775808:=rfl;have c:IntKind.i64.max=9223372036854775807:=rfl;unfold Lit.wf at h;simp only [d,c,XM,XE] at h;exact h
theorem lW (c:P.underlying t=some (.int .i64)):Rdr P t (df .i64) in64:=fun h=>by
 obtain ⟨a,r,hw⟩:=DataW.trod_int c h;exact ⟨a,r,by first|exact Bv hw|exact Bv hw.1|exact Bv hw.2⟩
theorem I9 {R:Rep α}{w:World}{b o:Nat}: ∀(k:Nat) (vss:List V4) (xs:List α),All2 (R.rel S w) vss xs->(∀(i:Nat) (vs:V4),vss[i]? =some vs->CellsAt w b (o+(k+i)*R.sz) vs)->CellsAt w b (o+k*R.sz) vss.flatten
 |_,_,_,.nil,_=>fun j u c=>by simp at c
 | k,_,_,.cons (a:=a) (l:=l) p n,e=>fun j u c=>by
  rw [Wz] at c;by_cases d:j<a.length
  ·rw [WA d] at c;have:=e 0 a rfl j u c;simpa using this
  rw [WB W] at c;have m:=I9 (k+1) _ _ n (fun i vs hi=>by have:=e (i+1) vs (by simpa using hi);rwa [show k+1+i=k+(i+1) by omega]);have f:=m _ _ c;rw [R.len p] at f d;rw [show o+k*R.sz+j=o+(k+1)*R.sz+(j - R.sz) by rw [Xi];omega];exact f
theorem Fl {R:V4->α->Prop}: ∀{n:Nat} (f:_root_.Fin n->V4) (g:_root_.Fin n->α),(∀i,R (f i) (g i))->All2 R (List.ofFn f) (List.ofFn g)
 |0,_,_,_=>by simp;exact .nil
 |n+1,f,g,h=>by rw [List.ofFn_succ,List.ofFn_succ];exact .cons (h 0) (Fl _ _ fun i=>h i.succ)
theorem Ss {w:World}{L:V3}{c:Chunk}(h:∃T,SepT (L++ [mn w]) T (fun q=>q<w.heap.size) w)(a:c.ok (fun _=>False) (fun q=>q<w.heap.size) w): ∃T,SepT ((c::L)++ [mn w]) T (fun q=>q<w.heap.size) w:=by
 obtain ⟨T,h⟩:=h;obtain ⟨T',d⟩:=SepL.facts [c] h (t9 a aW);exact ⟨T',d⟩
theorem SY (w:World): ∃T,SepT ([]++ [mn w]) T (fun q=>q<w.heap.size) w:=⟨fun _ _=>False,fun {i c} hi=>by
 cases i with
 |zero=>simp only [XN,WD,Xy] at hi;subst hi;exact ⟨Ext.refl w,fun _ h=>h⟩
 |succ i=>simp at hi,fun _ h=>h.elim,fun h=>h.elim,fun h=>h.elim,fun h=>h⟩
theorem Rp {args:V4}{L:V3}{w:World}(h:Okc P f args L fun u post=>u=.bool true/\post=[])(a:∃T,SepT (L++ [mn w]) T (fun q=>q<w.heap.size) w):Calls P f args.toArray w fun e w'=>e=.returned (.bool true)/\Ext w w':=by
 obtain ⟨T,d⟩:=a;refine (h.run [mn w] w ⟨T,_,d⟩).mono ?_;rintro e w' ⟨u,post,rfl,l,rfl,rfl⟩;obtain ⟨m,n,j, -⟩:=SepL.get l (i:=0) (c:=mn w) rfl;exact ⟨J,j⟩
structure Light {H:Type} (P:Program) (t:TypeId) (d:DataW H):Prop where
 le: ∀n∈d.weights P t,n<=reachBytes
def oU (P:Program)(t:TypeId)(R:Rep α)(wf:α->Prop):Prop:= ∀{H:Type} {enc:TypeId×Value->H} {w:World} {base:Nat} {spare:Nat->Bool} {held:Bool} {n:Nat} {cs:V4} {y:DataW H×List MemPlace},DataW.trod enc P w base spare held n t cs=some y->Light P t y.1-> ∃a,R.rel (fun q=>q<w.heap.size) w cs a/\wf a
def CN (wf:α->Prop)(xs:List α):Prop:=xs.length<=reachBytes/\ ∀x∈xs,wf x
theorem Rdr.w {R:Rep α}{wf:α->Prop}(h:Rdr P t R wf):oU P t R wf:=fun a _=>h a
theorem Lx (c:P.underlying t=some .string):oU P t eS (fun s=>s.size<=reachBytes):=fun h hw=>by
 obtain ⟨a,r,rfl, -⟩:=DataW.trod_string c h;refine ⟨a,r,hw.le a.size ?_⟩;show a.size∈DataW.weights P t (.lit (.string a.data.toList));unfold DataW.weights;exact W8.2 J
theorem IJ: ∀{l:List (DataW H)} {d:DataW H},d∈l-> ∀n∈d.weights P e,n∈DataW.weightsAll P e l
 |d::l,c,h,n,a=>by
  unfold DataW.weightsAll;rcases WZ.1 h with rfl|h
  ·exact VU _ a
  exact VV _ (IJ h n a)
theorem gF {c:Array Field}(m:P.underlying t=some (.struct c)){xs:List (DataW H×List MemPlace)}{pl:List MemPlace}{a:DataW H×List MemPlace}(e:a=(.agg (xs.map (·.1)),pl))(h:Light P t a.1){f:Field}(p:c[i]? =some f){y:DataW H×List MemPlace}(l:xs[i]? =some y):Light P f.type y.1:=⟨fun n o=>by
 subst e;refine h.le n ?_;show n∈DataW.weights P t (.agg (xs.map (·.1)));unfold DataW.weights;rw [m];exact DataW.weights_mem_each (j:=i) (t:=f.type) (d:=y.1) (by simp [p]) (by simp [l]) n o⟩
theorem abj {R:Rep α}{wf:α->Prop}(L:P.underlying t=some (.slice e))(C:P.cellsOf e=R.sz)(hpos:0<R.sz)(hb:0<P.bytesOf e)(Z:oU P e R wf):oU P t R.sl (CN wf):=fun {H enc w base spare held n cs y} h hw=>by
 rcases open_slice L h with ⟨rfl, -⟩|⟨a,len,cap,m,n,D,Pl,rfl,a6,V,hm,E,O,hi⟩
 ·exact ⟨[],⟨_,J,BL _ _ _⟩,Xt _,fun _ h=>by cases h⟩
 have T:len<=m:=by rw [E];split<;>omega
 rw [C] at hi
 have l:((List.range len).map D).length*P.bytesOf e<=reachBytes/\ ∀i,i<len->Light P e (D i):=by
  rw [O] at hw;have hw': ∀n∈DataW.weights P t (.slice ((List.range len).map D) ((List.range (m - len)).map fun j=>D (len+j))),n<=reachBytes:=hw.le;unfold DataW.weights at hw';rw [L] at hw';simp only at hw';refine ⟨Xn (Xq _ (Nat.le_add_right _ _)) (hw' _ (List.mem_cons_self ..)),fun i hi=>⟨fun n S=>hw' n (W0 _ (VU _ (IJ (W3.2 ⟨i,W7.2 hi,J⟩) n S)))⟩⟩
 rw [XK,List.length_range] at l
 have key: ∀i:_root_.Fin len, ∃q:V4×α,w.cells? base (a.add (i*R.sz)) R.sz=some q.1/\R.rel (fun q=>q<w.heap.size) w q.1 q.2/\wf q.2:=fun i=>by
  obtain ⟨cs',h1,h2⟩:=hi i W;obtain ⟨a',A,h4⟩:=Z h2 (l.2 i i.2);exact ⟨(cs',a'),h1,A,h4⟩
 let f:_root_.Fin len->V4×α:=fun i=>Classical.choose (key i)
 have p: ∀i:_root_.Fin len,w.cells? base (a.add (i*R.sz)) R.sz=some (f i).1/\R.rel (fun q=>q<w.heap.size) w (f i).1 (f i).2/\wf (f i).2:=fun i=>Classical.choose_spec (key i)
 have hlen:(List.ofFn fun i=>(f i).2).length=len:=by simp
 unfold maxLen at hm;refine ⟨List.ofFn fun i=>(f i).2,⟨_,J,some a,cap,by rw [hlen],by rw [hlen];exact V,hm,fun z=> ?_⟩,?_,fun x Q=> ?_⟩
 ·rw [hlen] at z;obtain ⟨-,a8,G5⟩:=World.cells?_some (p ⟨0,z⟩).1;have c:=G5 0 hpos;have U:(f ⟨0,z⟩).1.length=R.sz:=R.len (p ⟨0,z⟩).2.1;have N:(f ⟨0,z⟩).1[0]? =some ((f ⟨0,z⟩).1[0]'W):=WF W;rw [N] at c
  have F:(a.add ((⟨0,z⟩:_root_.Fin len)*R.sz)).add 0=a:=by simp [Addr.add]
  rw [F] at c;have M:=Ra c;refine ⟨a.block,a.off,List.ofFn fun i=>(f i).1,by rw [<-M],block_lt_of_cell c,block_lt_of_cell c,Fl _ _ fun i=>(p i).2.1,?_⟩
  have hall:=Fl (R:=R.rel (fun q=>q<w.heap.size) w) (fun i=>(f i).1) (fun i=>(f i).2) fun i=>(p i).2.1
  have:=I9 (b:=a.block) (o:=a.off) 0 _ _ hall (fun i vs hi=>by
   have d:i<len:=by have:=(WH.1 hi).1;simpa using this
   have B:vs=(f ⟨i,d⟩).1:=by
    rw [List.getElem?_ofFn] at hi;simp [d] at hi;exact hi.symm
   subst B;obtain ⟨-,b0,hat1⟩:=World.cells?_some (p ⟨i,d⟩).1;intro j u K
   have X:j<R.sz:=by rw [<-R.len (p ⟨i,d⟩).2.1];exact (WH.1 K).1
   have A:=hat1 j X;rw [K,M,K6,K6] at A;rw [Xs]
   exact A)
  simpa using this
 ·rw [hlen];exact Xn (Nat.le_mul_of_pos_right _ hb) l.1
 obtain ⟨i,rfl⟩:=List.mem_ofFn.1 Q;exact (p i).2.2
end
